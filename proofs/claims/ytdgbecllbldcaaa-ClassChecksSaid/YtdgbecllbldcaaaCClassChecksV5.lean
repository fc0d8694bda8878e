/- Functions of the program: what each computes, and that the call computes it; conditions: the fuel that the plain function asks for. -/
import Derived.Test.YtdgbecllbldcaaaCClassChecksV4
import Derived.ChangeSlices
import Derived.ChangeSame
section
namespace Go.Proofs.Ytdgbecllbldcaaa.P
open Go Go.RowKit Go.Proofs.YtdgbecllbldcaaaW.PrintWords Go.Proofs.YtdgbecllbldcaaaW.PrintLast Go.Proofs.YtdgbecllbldcaaaW.PrintMore
attribute [local go_sem] max2_int min2_int max_two min_two max_three min_three max_four min_four max_five min_eight max_eight   -- for this text's walks alone
set_option linter.unusedVariables false
set_option linter.unusedSimpArgs false
def sawmilllaw16_sample.l0 : Nat → Int → Int → Int → List (S44) → Option ((List (S58)) × (List (S48)))
 | 0, _, _, _, _ => none
 | k + 1, x2, xq3o0, xq3o1, xq3o2 => if x2 < 20 then (if xq3o2.length < 8796093022208 then (sawmilllaw16_sample.l0 k (wrap64 (x2 + 1)) xq3o0 xq3o1 (xq3o2 ++ [(⟨(-100), 100⟩ : S44)])) else (none)) else (some ((([(⟨xq3o0, (⟨xq3o1, xq3o2⟩ : S56)⟩ : S58)] : List (S58))), ([] : List (S48))))
def sawmilllaw16_sample.f (k : Nat)  : Option ((List (S58)) × (List (S48))) := sawmilllaw16_sample.l0 k 0 3000 (-10) ([] : List (S44))
theorem sawmilllaw16_sample.mono_l : ∀ k, (∀ y0 y1 y2 y3, LeO (sawmilllaw16_sample.l0 k y0 y1 y2 y3) (sawmilllaw16_sample.l0 (k + 1) y0 y1 y2 y3))
 | 0 => fun _ _ _ _ r h => by simp [sawmilllaw16_sample.l0] at h
 | k + 1 => by
  have ih0 := sawmilllaw16_sample.mono_l k
  ·intro y0 y1 y2 y3;unfold sawmilllaw16_sample.l0
   repeat' first
   | (with_reducible exact ih0 _ _ _ _)
   | (with_reducible exact LeO.refl _)
   | (with_reducible exact LeO.none _)
   | (with_reducible refine LeO.ite ?_ ?_)
   | (with_reducible refine LeO.bind ?_ (fun _ => ?_))
   | exact ih0 _ _ _ _
   | exact LeO.none _
   | refine LeO.ite ?_ ?_
   | refine LeO.bind ?_ (fun _ => ?_)
theorem sawmilllaw16_sample.mono : ∀ k, LeO (sawmilllaw16_sample.f k ) (sawmilllaw16_sample.f (k + 1) ) := by
 intro  k;have ih0 := sawmilllaw16_sample.mono_l k;unfold sawmilllaw16_sample.f
 repeat' first
   | (with_reducible exact ih0 _ _ _ _)
   | (with_reducible exact LeO.refl _)
   | (with_reducible exact LeO.none _)
   | (with_reducible refine LeO.ite ?_ ?_)
   | (with_reducible refine LeO.bind ?_ (fun _ => ?_))
   | exact ih0 _ _ _ _
   | exact LeO.none _
   | refine LeO.ite ?_ ?_
   | refine LeO.bind ?_ (fun _ => ?_)
set_option maxHeartbeats 8000000 in
set_option maxRecDepth 100000 in
theorem sawmilllaw16_sample.calls (k : Nat)  (r1 : List (S58)) (r2 : List (S48)) (w : World) (h : sawmilllaw16_sample.f k  = some (r1, r2)) :
  Calls Try.prog 26 #[] w fun e w' => ∃ v0_ v1_ : Value, e = .returned (.agg #[v0_, v1_]) ∧ Kd.N k58 58 w' w.heap.size (fun k_ => (w.heap.size ≤ k_) ∧ some k_ ≠ (v1_ : Value).ownBlock) v0_ r1 ∧ Kd.R k48 48 w' w.heap.size (fun k_ => (w.heap.size ≤ k_)) v1_ r2 ∧ Below w.heap.size w w' := by
 have hu32 := Try.underlying32;have hu56 := Try.underlying56;have hu58 := Try.underlying58;have hu44 := Try.underlying44;have HB := A_ (Below.refl w.heap.size w);have H : (sawmilllaw16_sample.l0 k 0 3000 (-10) ([] : List (S44))) = some (r1, r2) := h;clear h;have H' := Aside0.mk H;clear H;go_enter Try.func26, Try.ntmps26;go_wp2_with (first | ((with_reducible refine gate_dst (N := 0) rfl ?_); refine bx_ 0 (cs := #[.slice none 0 0, .slice none 0 0]) (t := 32) ?_; intro gbq1 hg w1 hbox hb; have BKq1 := A_ hbox; have GWq1 := gz_ (w := w) hg; have GEq1 := gz_ (w := w) hg; replace HB := bA_ hb; clear hb hbox hg) | ((with_reducible refine gate_dst (N := 1) rfl ?_); refine bx_ 1 (cs := #[.int .i64 0, .int .i64 0, .slice none 0 0]) (t := 58) ?_; intro gbq2 hg w2 hbox hb; have BKq2 := A_ hbox; have GWq2 := gz_ (w := w) hg; have GEq2 := gz_ (w := w) hg; replace HB := bA_ hb; have NBq1_q2 := nlt_ BKq1 hg; have NBq2_q1 := ngt_ BKq1 hg; replace BKq1 := bb_ BKq1 hb; clear hb hbox hg; have hnb3 := NBq2_q1.out; have hnc3 := NBq1_q2.out; obtain ⟨hcz4_0, hcz4_1, hcz4_2, hfz4_0, hfz4_1, hfz4_2⟩ := cy3_ BKq2))
 go_loopg [2] k (fun kq v2 w' => ∃ (x2_1 : Int) (xq3o2_1 : List (S44)) (uq3o2 : Value), v2 = .int .i64 x2_1 ∧ Aside0 (sawmilllaw16_sample.l0 kq x2_1 3000 (-10) xq3o2_1 = some (r1, r2)) ∧ Aside0 (kq ≤ k) ∧ Aside0 (Kd.R k44 44 w' w.heap.size (fun k_ => (w.heap.size ≤ k_)) uq3o2 xq3o2_1) ∧ Aside0 (w'.heap[gbq1]? = some (.cells #[(.slice none 0 0), (.slice none 0 0)] 32 (0, 0))) ∧ Aside0 (w'.heap[gbq2]? = some (.cells #[.int .i64 3000, .int .i64 (-10), uq3o2] 58 (0, 0))) ∧ Aside0 (Below w.heap.size w w'))
 case atStart => exact ⟨(0), (([] : List (S44))), (.slice none 0 0), rs_, H', ⟨Nat.le_refl _⟩, ⟨by first | exact Kd.R_nil _ _ _ _ _ | exact Kd.N_nil _ _ _ _ _ | exact Kd.V_nil _ _ _ _ _ | exact Kd.Q_nil _ _ _ _ _ | exact Kd.S_nil _ _ _ _ _⟩, ⟨ch_ BKq1⟩, ⟨ch_ BKq2⟩, ⟨be_⟩⟩
 case round =>
  clear H';(try clear c2);(try clear p2);(try clear c3);(try clear hcz4_0);(try clear hcz4_1);(try clear hcz4_2);(try clear hfz4_0);(try clear hfz4_1);(try clear hfz4_2);obtain ⟨x2_1, xq3o2_1, uq3o2, rfl, HA, HK1, HO_q3o2, BKq1, BKq2, HB⟩ := hrel;cases gk with
  | zero => exact absurd HA.out (by simp [sawmilllaw16_sample.l0])
  | succ k1 =>
   have H := HA.out;clear HA;simp only [sawmilllaw16_sample.l0] at H
   by_cases c5 : x2_1 < 20
   ·rw [if_pos c5] at H;have c5b0 : decide (x2_1 < 20) = true := decide_eq_true c5;clear c5
    by_cases c6 : xq3o2_1.length < 8796093022208
    ·rw [if_pos c6] at H;have LMc6 := Aside0.mk c6;clear c6;obtain ⟨yq3, hyq3⟩ : ∃ y_ : List (S44), y_ = (xq3o2_1 ++ [(⟨(-100), 100⟩ : S44)]) := ⟨_, rfl⟩;(replace H : (sawmilllaw16_sample.l0 k1 (wrap64 (x2_1 + 1)) 3000 (-10) yq3) = some (r1, r2) := by first | (rw [hyq3]; with_reducible exact H) | (have H2_ := (Option.bind_some _ _).symm.trans H; rw [hyq3]; with_reducible exact H2_) | (have H2_ := (Option.bind_some _ _).symm.trans H; with_reducible exact H2_) | with_reducible exact H | (rw [hyq3]; exact H) | exact H);have Nyq3 := Aside0.mk hyq3;clear hyq3;have H' := Aside0.mk H;clear H;have hnb7 := NBq2_q1.out;have hnc7 := NBq1_q2.out;obtain ⟨hcz8_0, hcz8_1, hcz8_2, hfz8_0, hfz8_1, hfz8_2⟩ := cy3_ BKq2;go_wp2_with (first | ((with_reducible refine gate_builtin (b := .append) (xs := #[.tmp 11, .tmp 13]) rfl ?_); at_builtin; refine Kd.R_append k44 (w0 := w) w.heap.size rfl (.tmp 11) (.tmp 13) 54 44 (.agg #[(.int .i64 0), (.int .i64 0)]) 16 rfl Try.underlying54 info44 rfl (by decide) (by omega) uq3o2 xq3o2_1 (⟨(-100), 100⟩ : S44) [.int .i64 (-100), .int .i64 100] (fun k_ => (w.heap.size ≤ k_)) (fun _ => False) rfl rfl ?aP (fun _ hk => hk.elim) ?aF ?aO ?aB ?aS ?aL ?_; (case aP => exact k44_mkM _ _ _ (⟨(-100), 100⟩ : S44)); (case aB => exact be_); (case aF => exact (fun k_ hk => (Nat.le_trans bz_ hk))); (case aO => exact (fR_ HO_q3o2.out)); (case aS => exact bz_); (case aL => have := LMc6.out; omega); intro vq4 w9 ho hb hg hat; rw [← Nyq3.out] at ho; have n0_ := A_ (blk_grown (g := gbq1) (o := .cells #[.slice none 0 0, .slice none 0 0] 32 (0, 0)) (fb_ BKq1.out) hg (Kd.R_ne HO_q3o2.out BKq1.out (by decide))); have n1_ := A_ (blk_grown (g := gbq2) (o := .cells #[.int .i64 3000, .int .i64 (-10), uq3o2] 58 (0, 0)) (fb_ BKq2.out) hg (Kd.R_ne HO_q3o2.out BKq2.out (by decide))); have n2_ := A_ (hb); have n3_ := A_ (ho); clear BKq1 BKq2 HB HO_q3o2; have BKq1 := n0_; have BKq2 := n1_; have HB := n2_; have HOq5 := n3_; clear n0_ n1_ n2_ n3_ ho hb hg hat; obtain ⟨Ao10, co10, eo10⟩ := Kd.R_slice HOq5.out; subst eo10; obtain ⟨hcz11_0, hcz11_1, hcz11_2, hfz11_0, hfz11_1, hfz11_2⟩ := cy3_ BKq2))
     go_roundg k1
     case measure => have := HK1.out; omega
     case rel => exact ⟨(wrap64 (x2_1 + 1)), (yq3), (.slice Ao10 yq3.length co10), rs_, H', ⟨by have := HK1.out; omega⟩, ⟨by (with_reducible repeat (first | apply Kd.R_alloc | apply Kd.R_drewN | apply Kd.R_drew)); exact Kd.R_mono (Rf_ (Kd.R_types HOq5.out BKq2.out (by decide))) (fun _ hk => hk.1)⟩, ⟨ch_ BKq1⟩, ⟨ch_ BKq2⟩, ⟨be_⟩⟩
    ·rw [if_neg c6] at H;exact absurd H (by simp)
   ·rw [if_neg c5] at H;have c5b0 : decide (x2_1 < 20) = false := decide_eq_false c5;clear c5;obtain ⟨yq6, hyq6⟩ : ∃ y_ : List (S58), y_ = (([(⟨3000, (⟨(-10), xq3o2_1⟩ : S56)⟩ : S58)] : List (S58))) := ⟨_, rfl⟩;(replace H : (some (yq6, ([] : List (S48)))) = some (r1, r2) := by first | (rw [hyq6]; with_reducible exact H) | (have H2_ := (Option.bind_some _ _).symm.trans H; rw [hyq6]; with_reducible exact H2_) | (have H2_ := (Option.bind_some _ _).symm.trans H; with_reducible exact H2_) | with_reducible exact H | (rw [hyq6]; exact H) | exact H);have Nyq6 := Aside0.mk hyq6;clear hyq6;simp only [Option.some.injEq, Prod.mk.injEq] at H;obtain ⟨rfl, rfl⟩ := H;have hnb12 := NBq2_q1.out;have hnc12 := NBq1_q2.out;obtain ⟨hcz13_0, hcz13_1, hcz13_2, hfz13_0, hfz13_1, hfz13_2⟩ := cy3_ BKq2;obtain ⟨Ao14, co14, eo14⟩ := Kd.R_slice HO_q3o2.out;subst eo14;go_wp2_with (first | ((with_reducible refine gate_dst (N := 18) rfl ?_); refine Kd.N_lit k58 _ 58 ?hg (N' := 18) ?hd (xs := ([(⟨3000, (⟨(-10), xq3o2_1⟩ : S56)⟩ : S58)] : List (S58))) (inner := [.int .i64 3000, .int .i64 (-10), .slice Ao14 xq3o2_1.length co14]) (ok := (fun k_ => (w.heap.size ≤ k_) ∧ k_ ≠ gbq1 ∧ k_ ≠ gbq2)) (okp := (fun k_ => (w.heap.size ≤ k_) ∧ k_ ≠ gbq1 ∧ k_ ≠ gbq2)) ?hr ?hp (fun _ hk => hk) ((show ∀ k_, wr.heap.size ≤ k_ → (fun k_ => (w.heap.size ≤ k_) ∧ k_ ≠ gbq1 ∧ k_ ≠ gbq2) k_ from fun k_ hk => ⟨(Nat.le_trans bz_ hk), Kd.freshB (g := gbq1) (o := .cells #[.slice none 0 0, .slice none 0 0] 32 (0, 0)) (fb_ BKq1.out) k_ hk, Kd.freshB (g := gbq2) (o := .cells #[.int .i64 3000, .int .i64 (-10), .slice Ao14 xq3o2_1.length co14] 58 (0, 0)) (fb_ BKq2.out) k_ hk⟩) _ (Nat.le_refl _)) (Below.refl _ _) (Nat.le_refl _) (by simp) ?_; (case hd => rfl); (case hg => rfl); (case hr => first | (go_simp; done) | (go_simp; rfl)); (case hp => exact (Reps.c3 (show Kd.FK k58 _ _ (⟨3000, (⟨(-10), xq3o2_1⟩ : S56)⟩ : S58) [.int .i64 3000, .int .i64 (-10), .slice Ao14 xq3o2_1.length co14] from (k58_mkF _ _ (⟨3000, (⟨(-10), xq3o2_1⟩ : S56)⟩ : S58) (Kd.R_reads' (Kd.R_mono (ok' := (fun k_ => (w.heap.size ≤ k_) ∧ k_ ≠ gbq1 ∧ k_ ≠ gbq2)) (Kd.R_types (Kd.R_types (HO_q3o2.out) BKq1.out (by decide)) BKq2.out (by decide)) (fun k_ hk => ⟨hk.1.1, ⟨hk.1.2, hk.2⟩⟩))).2.1 (Kd.R_F (Kd.R_mono (ok' := (fun k_ => (w.heap.size ≤ k_) ∧ k_ ≠ gbq1 ∧ k_ ≠ gbq2)) (Kd.R_types (Kd.R_types (HO_q3o2.out) BKq1.out (by decide)) BKq2.out (by decide)) (fun k_ hk => ⟨hk.1.1, ⟨hk.1.2, hk.2⟩⟩))))) (Reps.none _ _))); intro vq7 w15 ho16 hb hg_ hnew_; clear hg_ hnew_; (first | rw [← Nyq6.out] at ho16 | (simp only [Int.reduceToNat] at ho16; rw [← Nyq6.out] at ho16)); have HOq8 := A_ (Kd.N_lower ho16 bz_); replace BKq1 := bb_ BKq1 hb; replace BKq2 := bb_ BKq2 hb; replace HO_q3o2 := A_ (Kd.V_below (Kd.R_V (base' := w.heap.size) (fR_ HO_q3o2.out)) hb); replace HB := bA_ hb; clear hb ho16; obtain ⟨Ao17, co17, eo17⟩ := Kd.N_slice HOq8.out; subst eo17; obtain ⟨hcz18_0, hcz18_1, hfz18_0, hfz18_1⟩ := cy2_ BKq1));refine bodyPost_ret (results_cell_row rfl _ _ gbq1 32 #[.slice Ao17 yq6.length co17, .slice none 0 0] (0, 0) _ rfl (ch_ BKq1) Try.underlying32 rfl (by kernel_rfl)) rfl ?_;exact ⟨_, _, er_, by (with_reducible repeat (first | apply Kd.N_alloc | apply Kd.N_drewN | apply Kd.N_drew)); exact Kd.N_mono (Nf_ (Nf_ (Kd.N_mono HOq8.out (fun k_ hk => (⟨hk, hk.2.1⟩ : _ ∧ k_ ≠ gbq1))))) (fun _ hk => ⟨hk.1.1, (by simp [Value.ownBlock])⟩), by first | exact Kd.R_nil _ _ _ _ _ | exact Kd.N_nil _ _ _ _ _ | exact Kd.V_nil _ _ _ _ _ | exact Kd.Q_nil _ _ _ _ _ | exact Kd.S_nil _ _ _ _ _, be_⟩


-- by hand
def clsA : S28 := ⟨⟨#[97]⟩, 225, 3000, 3000, 0, 0, 0, 0, 100⟩
def clsB : S28 := ⟨⟨#[98]⟩, 226, 3000, 3000, 0, 0, 0, 0, 100⟩
def clsZ : S28 := ⟨⟨#[97]⟩, 0, 5, 4, 0, 0, 0, 0, 0⟩
def sawmilllaw16_awake.f (k : Nat) : Option Bool := (sawmilllaw16_sample.f k).bind fun s =>
 if class_Of.f k [clsB, clsA] s.1 [] = some (1, true) ∧ class_Fits.f k clsB.f0 clsB.f1 clsB.f2 clsB.f3 clsB.f4 clsB.f5 clsB.f6 clsB.f7 clsB.f8 s.1 [] = some false ∧ class_Price.f k [clsA] s.1 [] = some 12 ∧
  class_Check.f k [clsA, clsB] = some 0 ∧ class_Check.f k [clsA, clsA] = some 7 ∧ class_Check.f k [clsZ] = some 9 then some true else none
theorem sawmilllaw16_awake.mono : ∀ k, LeO (sawmilllaw16_awake.f k) (sawmilllaw16_awake.f (k + 1)) := by
 intro k;unfold sawmilllaw16_awake.f;refine LeO.bind (sawmilllaw16_sample.mono _) (fun s => ?_);intro r h
 split at h
 ·rename_i c
  rw [if_pos ⟨class_Of.mono _ _ _ _ _ c.1, class_Fits.mono _ _ _ _ _ _ _ _ _ _ _ _ _ c.2.1, class_Price.mono _ _ _ _ _ c.2.2.1, class_Check.mono _ _ _ c.2.2.2.1, class_Check.mono _ _ _ c.2.2.2.2.1, class_Check.mono _ _ _ c.2.2.2.2.2⟩];exact h
 ·cases h
def enc9 (x : S28) : List Value := [.string x.f0, .int .i64 x.f1, .int .i64 x.f2, .int .i64 x.f3, .int .i64 x.f4, .int .i64 x.f5, .int .i64 x.f6, .int .i64 x.f7, .int .i64 x.f8]
theorem flat9 : ∀ (xs : List S28) (j : Nat) (x : S28), xs[j]? = some x → ∀ (i : Nat) (u : Value), (enc9 x)[i]? = some u → (xs.flatMap enc9)[j * 9 + i]? = some u
 | [], _, _, h => by simp at h
 | y :: r, 0, x, h => by
  simp at h;subst h;intro i u hu;rw [List.flatMap_cons, Nat.zero_mul, Nat.zero_add, List.getElem?_append_left (List.getElem?_eq_some_iff.1 hu).1];exact hu
 | y :: r, j + 1, x, h => by
  intro i u hu;have := flat9 r j x (by simpa using h) i u hu;have e : (enc9 y).length = 9 := rfl;rw [List.flatMap_cons, List.getElem?_append_right (by omega), e, show (j + 1) * 9 + i - 9 = j * 9 + i by omega];exact this
theorem rowC {W : World} {g : Nat} (xs : List S28) {cur : Array Value} (hb : W.heap[g]? = some (.cells cur 28 (0, 0))) (hl : xs.length ≤ 1000) (hc : cur.toList = xs.flatMap enc9) : Kd.C k28 W (some ⟨g, 0, none⟩) xs.length xs := by
 refine ⟨rfl, by omega, fun _ => ⟨_, rfl, fun j p h => ⟨enc9 p, rfl, k28_mk W p, fun i u hu => ?_⟩⟩⟩;have h2 := flat9 xs j p h i u hu;rw [← hc, Array.getElem?_toList] at h2;rw [← h2];refine Eq.trans ?_ (cell_of_row W g (j * 9 + i) cur 28 (0, 0) hb);have sz : k28.sz = 9 := rfl;rw [sz];simp [Addr.add]
 split
 ·rename_i c
  rw [c.1, c.2]
 ·rfl
def aCells : Array Value := #[.string ⟨#[97]⟩, .int .i64 225, .int .i64 3000, .int .i64 3000, .int .i64 0, .int .i64 0, .int .i64 0, .int .i64 0, .int .i64 100]
def bCells : Array Value := #[.string ⟨#[98]⟩, .int .i64 226, .int .i64 3000, .int .i64 3000, .int .i64 0, .int .i64 0, .int .i64 0, .int .i64 0, .int .i64 100]
def Ex (w : World) (B : Nat) (A0 : Option Addr) (cc0 : Nat) (V : Value) (s1 : List S58) (W : World) : Prop :=
 W.heap[B]? = some (.cells #[.slice A0 s1.length cc0, V] 32 (0, 0)) ∧ W.heap[B + 1]? = some (.cells aCells 28 (0, 0)) ∧ W.heap[B + 1 + 1]? = some (.cells bCells 28 (0, 0)) ∧ Kd.C k58 W A0 s1.length s1 ∧ Below w.heap.size w W
theorem Ex.step {w : World} {B : Nat} {A0 : Option Addr} {cc0 : Nat} {V : Value} {s1 : List S58} {W W' : World} (h : Ex w B A0 cc0 V s1 W) (hb : Below W.heap.size W W') : Ex w B A0 cc0 V s1 W' :=
 ⟨blk_below h.1 hb, blk_below h.2.1 hb, blk_below h.2.2.1 hb, Kd.C_below h.2.2.2.1 hb, h.2.2.2.2.trans (hb.mono h.2.2.2.2.size)⟩
theorem Ex.x {w : World} {B : Nat} {A0 : Option Addr} {cc0 : Nat} {V : Value} {s1 : List S58} {W : World} (h : Ex w B A0 cc0 V s1 W) : W.cell? ⟨B, 0, none⟩ = some (.slice A0 s1.length cc0) := (blk_cell h.1 0).trans rfl
theorem Ex.a {w : World} {B : Nat} {A0 : Option Addr} {cc0 : Nat} {V : Value} {s1 : List S58} {W : World} (h : Ex w B A0 cc0 V s1 W) : W.cell? ⟨B + 1, 0, none⟩ = some (.string ⟨#[97]⟩) ∧ W.cell? ⟨B + 1, 1, none⟩ = some (.int .i64 225) ∧ W.cell? ⟨B + 1, 2, none⟩ = some (.int .i64 3000) ∧ W.cell? ⟨B + 1, 3, none⟩ = some (.int .i64 3000) ∧ W.cell? ⟨B + 1, 4, none⟩ = some (.int .i64 0) ∧ W.cell? ⟨B + 1, 5, none⟩ = some (.int .i64 0) ∧ W.cell? ⟨B + 1, 6, none⟩ = some (.int .i64 0) ∧ W.cell? ⟨B + 1, 7, none⟩ = some (.int .i64 0) ∧ W.cell? ⟨B + 1, 8, none⟩ = some (.int .i64 100) :=
 ⟨(blk_cell h.2.1 0).trans rfl, (blk_cell h.2.1 1).trans rfl, (blk_cell h.2.1 2).trans rfl, (blk_cell h.2.1 3).trans rfl, (blk_cell h.2.1 4).trans rfl, (blk_cell h.2.1 5).trans rfl, (blk_cell h.2.1 6).trans rfl, (blk_cell h.2.1 7).trans rfl, (blk_cell h.2.1 8).trans rfl⟩
theorem Ex.b {w : World} {B : Nat} {A0 : Option Addr} {cc0 : Nat} {V : Value} {s1 : List S58} {W : World} (h : Ex w B A0 cc0 V s1 W) : W.cell? ⟨B + 1 + 1, 0, none⟩ = some (.string ⟨#[98]⟩) ∧ W.cell? ⟨B + 1 + 1, 1, none⟩ = some (.int .i64 226) ∧ W.cell? ⟨B + 1 + 1, 2, none⟩ = some (.int .i64 3000) ∧ W.cell? ⟨B + 1 + 1, 3, none⟩ = some (.int .i64 3000) ∧ W.cell? ⟨B + 1 + 1, 4, none⟩ = some (.int .i64 0) ∧ W.cell? ⟨B + 1 + 1, 5, none⟩ = some (.int .i64 0) ∧ W.cell? ⟨B + 1 + 1, 6, none⟩ = some (.int .i64 0) ∧ W.cell? ⟨B + 1 + 1, 7, none⟩ = some (.int .i64 0) ∧ W.cell? ⟨B + 1 + 1, 8, none⟩ = some (.int .i64 100) :=
 ⟨(blk_cell h.2.2.1 0).trans rfl, (blk_cell h.2.2.1 1).trans rfl, (blk_cell h.2.2.1 2).trans rfl, (blk_cell h.2.2.1 3).trans rfl, (blk_cell h.2.2.1 4).trans rfl, (blk_cell h.2.2.1 5).trans rfl, (blk_cell h.2.2.1 6).trans rfl, (blk_cell h.2.2.1 7).trans rfl, (blk_cell h.2.2.1 8).trans rfl⟩
theorem CD_nil (W : World) : Kd.C k48 W none ([] : List S48).length [] := Kd.C_nil _ W
set_option maxHeartbeats 4000000 in
set_option maxRecDepth 100000 in
theorem sawmilllaw16_awake.calls (k : Nat) (r : Bool) (w : World) (h : sawmilllaw16_awake.f k = some r) :
  Calls Try.prog 13 #[] w fun e w' => e = .returned (.bool r) ∧ Below w.heap.size w w' := by
 unfold sawmilllaw16_awake.f at h;obtain ⟨⟨s1, s2⟩, A1, h⟩ := Option.bind_eq_some_iff.mp h
 split at h
 rotate_left
 ·cases h
 rename_i c
 obtain ⟨c1, c2, c3, c4, c5, c6⟩ := c;obtain rfl := Option.some.inj h;clear h;have S := sawmilllaw16_sample.calls k s1 s2 w A1;go_enter Try.func13, Try.ntmps13;go_wp2_with fail;refine S.mono ?_;rintro e w1 ⟨v0, v1, rfl, hN, hR, hb⟩;obtain ⟨A0, cc0, rfl, hc0, hC0⟩ := Kd.N_reads hN;obtain ⟨A1', cc1, rfl, hc1, hC1⟩ := Kd.R_reads hR;clear hN hR S;have HC0 := Aside0.mk hC0;clear hC0 hC1
 have E0 : Ex w w1.heap.size A0 cc0 (.slice A1' s2.length cc1) s1 (((w1.alloc (.cells #[.slice A0 s1.length cc0, .slice A1' s2.length cc1] 32)).alloc (.cells aCells 28)).alloc (.cells bCells 28)) := by
  refine ⟨blk_alloc (blk_alloc (blk_new _ _) _) _, blk_alloc (by have := blk_new (w1.alloc (.cells #[.slice A0 s1.length cc0, .slice A1' s2.length cc1] 32)) (.cells aCells 28); simpa using this) _, by have := blk_new ((w1.alloc (.cells #[.slice A0 s1.length cc0, .slice A1' s2.length cc1] 32)).alloc (.cells aCells 28)) (.cells bCells 28); simpa using this, ?_, below_alloc (below_alloc (below_alloc hb _) _) _⟩;have := below_alloc (below_alloc (below_alloc (Below.refl w1.heap.size w1) (.cells #[.slice A0 s1.length cc0, .slice A1' s2.length cc1] 32)) (.cells aCells 28)) (.cells bCells 28);exact Kd.C_below HC0.out this
 clear hb HC0;have E1 := E0.step (below_alloc (Below.refl _ _) (.cells (bCells ++ aCells) 28));have R1 : Kd.C k28 _ (some ⟨w1.heap.size + 1 + 1 + 1, 0, none⟩) _ _ := rowC (W := (((w1.alloc (.cells #[.slice A0 s1.length cc0, .slice A1' s2.length cc1] 32)).alloc (.cells aCells 28)).alloc (.cells bCells 28)).alloc (.cells (bCells ++ aCells) 28)) (g := w1.heap.size + 1 + 1 + 1) [clsB, clsA] (cur := bCells ++ aCells) (by have := blk_new (((w1.alloc (.cells #[.slice A0 s1.length cc0, .slice A1' s2.length cc1] 32)).alloc (.cells aCells 28)).alloc (.cells bCells 28)) (.cells (bCells ++ aCells) 28); simpa using this) (by decide) rfl;have K1 := class_Of.calls k _ 2 _ A0 cc0 s1 none 0 [] 1 true _ R1 (by decide) E1.2.2.2.1 hc0 (CD_nil _) (by decide) c1;go_wp2_with fail;refine K1.mono ?_;rintro e w2 ⟨rfl, hb2⟩;replace E1 := E1.step hb2;clear hb2 K1 R1 E0;have K2 := class_Fits.calls k _ _ _ _ _ _ _ _ _ A0 cc0 s1 none 0 [] false w2 E1.2.2.2.1 hc0 (CD_nil _) (by decide) c2;have hx := E1.x;obtain ⟨b0, b1, b2, b3, b4, b5, b6, b7, b8⟩ := E1.b;obtain ⟨a0, a1, a2, a3, a4, a5, a6, a7, a8⟩ := E1.a;have HE := Aside0.mk E1;clear E1;go_wp2_with fail;refine K2.mono ?_;rintro e w3 ⟨rfl, hb2⟩;have E1 := HE.out.step hb2;clear hb2 K2 hx b0 b1 b2 b3 b4 b5 b6 b7 b8 a0 a1 a2 a3 a4 a5 a6 a7 a8 HE;have hx := E1.x;obtain ⟨a0, a1, a2, a3, a4, a5, a6, a7, a8⟩ := E1.a;have E2 := E1.step (below_alloc (Below.refl _ _) (.cells aCells 28));have hx2 : (w3.alloc (.cells #[.string ⟨#[97]⟩, .int .i64 225, .int .i64 3000, .int .i64 3000, .int .i64 0, .int .i64 0, .int .i64 0, .int .i64 0, .int .i64 100] 28)).cell? ⟨w1.heap.size, 0, none⟩ = some (.slice A0 s1.length cc0) := E2.x;have K3 := class_Price.calls k _ 1 _ A0 cc0 s1 none 0 [] 12 _ (rowC (W := w3.alloc (.cells aCells 28)) (g := w3.heap.size) [clsA] (cur := aCells) (blk_new _ _) (by decide) rfl) (by decide) E2.2.2.2.1 hc0 (CD_nil _) (by decide) c3;have HE := Aside0.mk E2;clear E1 E2;go_wp2_with fail;refine K3.mono ?_;rintro e w4 ⟨rfl, hb2⟩;have E1 := HE.out.step hb2;clear hb2 K3 hx hx2 a0 a1 a2 a3 a4 a5 a6 a7 a8 HE;obtain ⟨b0, b1, b2, b3, b4, b5, b6, b7, b8⟩ := E1.b;obtain ⟨a0, a1, a2, a3, a4, a5, a6, a7, a8⟩ := E1.a;have E2 := E1.step (below_alloc (Below.refl _ _) (.cells (aCells ++ bCells) 28));have K4 := class_Check.calls k _ 2 _ 0 _ (rowC (W := w4.alloc (.cells (aCells ++ bCells) 28)) (g := w4.heap.size) [clsA, clsB] (cur := aCells ++ bCells) (blk_new _ _) (by decide) rfl) (by decide) c4;have HE := Aside0.mk E2;clear E1 E2;go_wp2_with fail;refine K4.mono ?_;rintro e w5 ⟨rfl, hb2⟩;have E1 := HE.out.step hb2;clear hb2 K4 b0 b1 b2 b3 b4 b5 b6 b7 b8 a0 a1 a2 a3 a4 a5 a6 a7 a8 HE;obtain ⟨a0, a1, a2, a3, a4, a5, a6, a7, a8⟩ := E1.a;have E2 := E1.step (below_alloc (Below.refl _ _) (.cells (aCells ++ aCells) 28));have K5 := class_Check.calls k _ 2 _ 7 _ (rowC (W := w5.alloc (.cells (aCells ++ aCells) 28)) (g := w5.heap.size) [clsA, clsA] (cur := aCells ++ aCells) (blk_new _ _) (by decide) rfl) (by decide) c5;have HE := Aside0.mk E2;clear E1 E2;go_wp2_with fail;refine K5.mono ?_;rintro e w6 ⟨rfl, hb2⟩;have E1 := HE.out.step hb2;clear hb2 K5 a0 a1 a2 a3 a4 a5 a6 a7 a8 HE;have E2 := E1.step (below_alloc (Below.refl _ _) (.cells #[.string ⟨#[97]⟩, .int .i64 0, .int .i64 5, .int .i64 4, .int .i64 0, .int .i64 0, .int .i64 0, .int .i64 0, .int .i64 0] 28));have K6 := class_Check.calls k _ 1 _ 9 _ (rowC (W := w6.alloc (.cells #[.string ⟨#[97]⟩, .int .i64 0, .int .i64 5, .int .i64 4, .int .i64 0, .int .i64 0, .int .i64 0, .int .i64 0, .int .i64 0] 28)) (g := w6.heap.size) [clsZ] (blk_new _ _) (by decide) rfl) (by decide) c6;have HE := Aside0.mk E2;clear E1 E2;go_wp2_with fail;refine K6.mono ?_;rintro e w7 ⟨rfl, hb2⟩;have E1 := HE.out.step hb2;go_wp2;go_ret;exact ⟨rfl, E1.2.2.2.2⟩


def sawmilllaw16_ClassChecks.f (k : Nat) (l0 : List (S28)) : Option (Bool) := (sawmilllaw16_short.f k l0).bind fun tq1 => (if tq1 = true then ((class_Check.f k l0).bind fun tq2 => ((sawmillref16_Check.f k l0).bind fun tq3 => (if tq2 = tq3 then ((sawmilllaw16_awake.f k).bind fun tq4 => (some tq4)) else (some false)))) else ((sawmilllaw16_awake.f k).bind fun tq5 => (some tq5)))
theorem sawmilllaw16_ClassChecks.mono : ∀ a0 k, LeO (sawmilllaw16_ClassChecks.f k a0) (sawmilllaw16_ClassChecks.f (k + 1) a0) := by
 intro a0 k;unfold sawmilllaw16_ClassChecks.f
 repeat' first
   | (with_reducible exact class_Check.mono _ _)
   | (with_reducible exact sawmilllaw16_awake.mono _)
   | (with_reducible exact sawmilllaw16_short.mono _ _)
   | (with_reducible exact sawmillref16_Check.mono _ _)
   | (with_reducible exact LeO.refl _)
   | (with_reducible exact LeO.none _)
   | (with_reducible refine LeO.ite ?_ ?_)
   | (with_reducible refine LeO.bind ?_ (fun _ => ?_))
   | exact class_Check.mono _ _
   | exact sawmilllaw16_awake.mono _
   | exact sawmilllaw16_short.mono _ _
   | exact sawmillref16_Check.mono _ _
   | exact LeO.none _
   | refine LeO.ite ?_ ?_
   | refine LeO.bind ?_ (fun _ => ?_)
set_option maxHeartbeats 8000000 in
set_option maxRecDepth 100000 in
theorem sawmilllaw16_ClassChecks.calls (k : Nat) (A0 : Option Addr) (c0 : Nat) (l0 : List (S28)) (r : Bool) (w : World) (hr0 : Kd.C k28 w A0 l0.length l0) (hc0 : l0.length ≤ c0) (h : sawmilllaw16_ClassChecks.f k l0 = some r) :
  Calls Try.prog 3 #[.slice A0 l0.length c0] w fun e w' => e = .returned (.bool r) ∧ Below w.heap.size w w' := by
 have HR0 := Aside0.mk hr0;have HC0 := Aside0.mk hc0;clear hr0 hc0;have HB := A_ (Below.refl w.heap.size w);have H : ((sawmilllaw16_short.f k l0).bind fun tq1 => (if tq1 = true then ((class_Check.f k l0).bind fun tq2 => ((sawmillref16_Check.f k l0).bind fun tq3 => (if tq2 = tq3 then ((sawmilllaw16_awake.f k).bind fun tq4 => (some tq4)) else (some false)))) else ((sawmilllaw16_awake.f k).bind fun tq5 => (some tq5)))) = some r := h;clear h;replace H := Option.bind_eq_some_iff.mp H;obtain ⟨tq1, A20, H⟩ := H;replace H : (if tq1 = true then ((class_Check.f k l0).bind fun tq2 => ((sawmillref16_Check.f k l0).bind fun tq3 => (if tq2 = tq3 then ((sawmilllaw16_awake.f k).bind fun tq4 => (some tq4)) else (some false)))) else ((sawmilllaw16_awake.f k).bind fun tq5 => (some tq5))) = some r := H;have A2 := Aside0.mk A20;clear A20
 by_cases c3 : tq1 = true
 ·subst c3;(have H1 : ((class_Check.f k l0).bind fun tq2 => ((sawmillref16_Check.f k l0).bind fun tq3 => (if tq2 = tq3 then ((sawmilllaw16_awake.f k).bind fun tq4 => (some tq4)) else (some false)))) = some r := by rw [if_pos rfl] at H; exact H);clear H;have H := H1;clear H1;replace H := Option.bind_eq_some_iff.mp H;obtain ⟨tq2, A40, H⟩ := H;replace H : ((sawmillref16_Check.f k l0).bind fun tq3 => (if tq2 = tq3 then ((sawmilllaw16_awake.f k).bind fun tq4 => (some tq4)) else (some false))) = some r := H;have A4 := Aside0.mk A40;clear A40;replace H := Option.bind_eq_some_iff.mp H;obtain ⟨tq3, A50, H⟩ := H;replace H : (if tq2 = tq3 then ((sawmilllaw16_awake.f k).bind fun tq4 => (some tq4)) else (some false)) = some r := H;have A5 := Aside0.mk A50;clear A50
  by_cases c6 : tq2 = tq3
  ·rw [if_pos c6] at H;have c6b0 : (tq2 == tq3) = true := beq_iff_eq.mpr c6;have c6b1 : (tq2 != tq3) = false := bne_eq_false_iff_eq.mpr c6;clear c6;replace H := Option.bind_eq_some_iff.mp H;obtain ⟨tq4, A70, H⟩ := H;replace H : (some tq4) = some r := H;have A7 := Aside0.mk A70;clear A70;obtain rfl := Option.some.inj H;go_enter Try.func3, Try.ntmps3;go_wp2_with (first | ((with_reducible refine gate_callee (f := 10) rfl ?_); refine goesL_ (some 4) rfl rfl Try.func10 (by kernel_rfl) rfl #[.slice A0 l0.length c0] rfl la_ ?_; (with_reducible refine (sawmilllaw16_short.calls k _ _ l0 true _ ?side1 ?side2 A2.out).mono ?_); (case side1 => exact csC_ HR0.out); (case side2 => exact HC0.out); rintro e w' ⟨rfl, ⟨nd, rfl⟩⟩; refine ⟨_, rfl, ?_⟩) | (go_at_call 11; (with_reducible refine (class_Check.calls k _ _ l0 tq2 _ ?side1 ?side2 A4.out).mono ?_); (case side1 => exact csC_ HR0.out); (case side2 => exact HC0.out); rintro e w8 ⟨rfl, hb⟩; replace HB := bA_ hb; (try clear hb)) | (go_at_call 12; (with_reducible refine (sawmillref16_Check.calls k _ _ l0 tq3 _ ?side1 ?side2 A5.out).mono ?_); (case side1 => exact csC_ ((Kd.C_below HR0.out HB.out))); (case side2 => exact HC0.out); rintro e w9 ⟨rfl, hb⟩; replace HB := bA_ hb; (try clear hb)) | (go_at_call 13; (with_reducible refine (sawmilllaw16_awake.calls k  tq4 _ A7.out).mono ?_); rintro e w10 ⟨rfl, hb⟩; replace HB := bA_ hb; (try clear hb)));go_ret;exact ⟨er_, be_⟩
  ·rw [if_neg c6] at H;have c6b0 : (tq2 == tq3) = false := beq_eq_false_iff_ne.mpr c6;have c6b1 : (tq2 != tq3) = true := bne_iff_ne.mpr c6;obtain rfl := Option.some.inj H;go_enter Try.func3, Try.ntmps3;go_wp2_with (first | ((with_reducible refine gate_callee (f := 10) rfl ?_); refine goesL_ (some 4) rfl rfl Try.func10 (by kernel_rfl) rfl #[.slice A0 l0.length c0] rfl la_ ?_; (with_reducible refine (sawmilllaw16_short.calls k _ _ l0 true _ ?side1 ?side2 A2.out).mono ?_); (case side1 => exact csC_ HR0.out); (case side2 => exact HC0.out); rintro e w' ⟨rfl, ⟨nd, rfl⟩⟩; refine ⟨_, rfl, ?_⟩) | (go_at_call 11; (with_reducible refine (class_Check.calls k _ _ l0 tq2 _ ?side1 ?side2 A4.out).mono ?_); (case side1 => exact csC_ HR0.out); (case side2 => exact HC0.out); rintro e w11 ⟨rfl, hb⟩; replace HB := bA_ hb; (try clear hb)) | (go_at_call 12; (with_reducible refine (sawmillref16_Check.calls k _ _ l0 tq3 _ ?side1 ?side2 A5.out).mono ?_); (case side1 => exact csC_ ((Kd.C_below HR0.out HB.out))); (case side2 => exact HC0.out); rintro e w12 ⟨rfl, hb⟩; replace HB := bA_ hb; (try clear hb)));go_ret;exact ⟨er_, be_⟩
 ·replace c3 := Bool.eq_false_iff.mpr c3;subst c3;(have H1 : ((sawmilllaw16_awake.f k).bind fun tq5 => (some tq5)) = some r := by rw [if_neg (show ¬ (false = true) by decide)] at H; exact H);clear H;have H := H1;clear H1;replace H := Option.bind_eq_some_iff.mp H;obtain ⟨tq5, A130, H⟩ := H;replace H : (some tq5) = some r := H;have A13 := Aside0.mk A130;clear A130;obtain rfl := Option.some.inj H;go_enter Try.func3, Try.ntmps3;go_wp2_with (first | ((with_reducible refine gate_callee (f := 10) rfl ?_); refine goesL_ (some 4) rfl rfl Try.func10 (by kernel_rfl) rfl #[.slice A0 l0.length c0] rfl la_ ?_; (with_reducible refine (sawmilllaw16_short.calls k _ _ l0 false _ ?side1 ?side2 A2.out).mono ?_); (case side1 => exact csC_ HR0.out); (case side2 => exact HC0.out); rintro e w' ⟨rfl, ⟨nd, rfl⟩⟩; refine ⟨_, rfl, ?_⟩) | (go_at_call 13; (with_reducible refine (sawmilllaw16_awake.calls k  tq5 _ A13.out).mono ?_); rintro e w14 ⟨rfl, hb⟩; replace HB := bA_ hb; (try clear hb)));go_ret;exact ⟨er_, be_⟩
end Go.Proofs.Ytdgbecllbldcaaa.P
end
section
namespace Go.Proofs.Ytdgbecllbldcaaa.P
open Go Go.RowKit Go.Proofs.YtdgbecllbldcaaaW.PrintWords Go.Proofs.YtdgbecllbldcaaaW.PrintLast Go.Proofs.YtdgbecllbldcaaaW.PrintMore
def Opens {α : Type} (P : Program) (d : Kd α) (t : TypeId) (ok : α → Prop) : Prop :=
 ∀ (H : Type) (enc : TypeId × Value → H) (w : World) (base : Nat) (spare : Nat → Bool) (held : Bool) (fuel : Nat) (cs : List Value) (x : DataW H × List MemPlace),
  DataW.trod enc P w base spare held fuel t cs = some x → ∃ v, d.K w v cs ∧ ok v
theorem opens_int {P : Program} {t : TypeId} {k : IntKind} (ht : P.underlying t = some (.int k)) : Opens P (Kd.int k) t (fun n => (Lit.int k n).wf = true) := by
 intro H enc w base spare held fuel cs x h;obtain ⟨n, rfl, _, hw⟩ := DataW.trod_int ht h;exact ⟨n, rfl, hw⟩
theorem opens_string {P : Program} {t : TypeId} (ht : P.underlying t = some .string) : Opens P Kd.string t (fun s => s.size ≤ maxLen) := by
 intro H enc w base spare held fuel cs x h;obtain ⟨n, rfl, _, hw⟩ := DataW.trod_string ht h;exact ⟨n, rfl, hw⟩
theorem opens_slice {α : Type} {P : Program} {d : Kd α} {t e : TypeId} {ok : α → Prop} (e' : Nat) (ht : P.underlying t = some (.slice e)) (hc : P.cellsOf e = d.sz) (hd : Opens P d e ok) :
  Opens P (Kd.slice e' d) t (fun xs => (∀ x ∈ xs, ok x) ∧ xs.length ≤ maxLen) := by
 intro H enc w base spare held fuel cs x h
 rcases DataW.trod_slice ht h with ⟨rfl, _⟩ | ⟨a, len, cap, elems, rest, n, _, rfl, _, hb, hl, hm, hlen, hel, _, _⟩
 ·exact ⟨[], ⟨none, 0, rfl, Nat.le_refl _, rfl, by simp, fun h => absurd h (by simp)⟩, by simp, by simp⟩
 ·have key : ∀ m, m ≤ len → ∃ xs : List α, xs.length = m ∧ ∀ j p, xs[j]? = some p → ∃ c, w.cells? base (a.add (j * d.sz)) d.sz = some c ∧ d.K w p c ∧ ok p := by
   intro m
   induction m with
   | zero => exact fun _ => ⟨[], rfl, fun j p h => by simp at h⟩
   | succ m ih =>
    intro hm;obtain ⟨xs, hx, hp⟩ := ih (by omega);have h1 := hel m (by omega);rw [List.getElem?_eq_getElem (by omega), hc, Option.bind_eq_some_iff] at h1;obtain ⟨c, hcs, ht⟩ := h1;obtain ⟨v, hk, ho⟩ := hd H enc w base spare held n c _ ht;refine ⟨xs ++ [v], by simp [hx], fun j p h => ?_⟩
    rcases Nat.lt_or_ge j m with hj | hj
    ·rw [List.getElem?_append_left (by omega)] at h;exact hp j p h
    ·have : j = m := by
      have := (List.getElem?_eq_some_iff.1 h).1;simp at this
      omega
     subst this;rw [List.getElem?_append_right (by omega), hx] at h;simp at h;subst h;exact ⟨c, hcs, hk, ho⟩
  obtain ⟨xs, hx, hp⟩ := key len (Nat.le_refl _);have hlm : len ≤ maxLen := Nat.le_trans hl hm;refine ⟨xs, ⟨some a, cap, by rw [hx], by omega, ?_⟩, fun x hxm => ?_, by omega⟩
  ·refine ⟨rfl, by unfold maxLen at hlm; omega, fun _ => ⟨a, rfl, fun j p h => ?_⟩⟩;obtain ⟨c, hcs, hk, _⟩ := hp j p h;have h3 := World.cells?_some hcs;refine ⟨c, d.K_len hk, hk, fun i u hu => ?_⟩;have hi := (List.getElem?_eq_some_iff.1 hu).1;have h4 := h3.2.2 i (by have := d.K_len hk; omega);rw [hu] at h4;rw [← add_add];exact h4
  ·obtain ⟨j, hj⟩ := List.getElem?_of_mem hxm;exact (hp j x hj).choose_spec.2.2
theorem opens_iso {α β : Type} {P : Program} {d : Kd α} {t : TypeId} {ok : α → Prop} {f : β → α} (g : α → β) (hg : ∀ x, f (g x) = x) (hd : Opens P d t ok) : Opens P (Kd.iso d f) t (fun y => ok (f y)) := by
 intro H enc w base spare held fuel cs x h;obtain ⟨v, hk, ho⟩ := hd H enc w base spare held fuel cs x h;exact ⟨g v, by show d.K w (f (g v)) cs; rw [hg]; exact hk, by show ok (f (g v)); rw [hg]; exact ho⟩
def OpensF {α : Type} (P : Program) (d : Kd α) (fs : List Field) (o tot : Nat) (ok : α → Prop) : Prop :=
 ∀ (H : Type) (enc : TypeId × Value → H) (w : World) (base : Nat) (spare : Nat → Bool) (held : Bool) (n : Nat) (cs : List Value), cs.length = tot →
  (∀ f ∈ fs, ∃ y, DataW.trod enc P w base spare held n f.type ((cs.drop f.offset).take (P.cellsOf f.type)) = some y) → ∃ v, d.K w v (cs.drop o) ∧ ok v
theorem opensF_last {α : Type} {P : Program} {d : Kd α} {f : Field} {o tot k : Nat} {ok : α → Prop} (ho : f.offset = o) (hk : P.cellsOf f.type = k) (ht : tot ≤ o + k) (hd : Opens P d f.type ok) : OpensF P d [f] o tot ok := by
 intro H enc w base spare held n cs hl hf;obtain ⟨y, hy⟩ := hf f (by simp);rw [ho, hk, List.take_of_length_le (by simp; omega)] at hy;exact hd H enc w base spare held n _ _ hy
theorem opensF_cons {α β : Type} {P : Program} {d : Kd α} {d2 : Kd β} {f : Field} {fs : List Field} {o tot k : Nat} {ok : α → Prop} {ok2 : β → Prop} (ho : f.offset = o) (hk : P.cellsOf f.type = k) (hd : Opens P d f.type ok) (hr : OpensF P d2 fs (o + k) tot ok2) :
  OpensF P (Kd.pair d d2) (f :: fs) o tot (fun x => ok x.1 ∧ ok2 x.2) := by
 intro H enc w base spare held n cs hl hf;obtain ⟨y, hy⟩ := hf f (by simp);rw [ho, hk] at hy;obtain ⟨v, hv, ov⟩ := hd H enc w base spare held n _ _ hy;obtain ⟨u, hu, ou⟩ := hr H enc w base spare held n cs hl (fun g hg => hf g (by simp [hg]));refine ⟨(v, u), ⟨_, _, ?_, hv, hu⟩, ov, ou⟩;rw [← List.drop_drop, List.take_append_drop]
theorem opens_struct {α : Type} {P : Program} {d : Kd α} {t : TypeId} {fs : Array Field} {l : List Field} {tot : Nat} {ok : α → Prop} (ht : P.underlying t = some (.struct fs)) (hl : fs.toList = l) (hc : P.cellsOf t = tot) (hF : OpensF P d l 0 tot ok) : Opens P d t ok := by
 intro H enc w base spare held fuel cs x h;obtain ⟨xs, n, _, _, hlen, hxl, hf⟩ := DataW.trod_struct ht h
 have := hF H enc w base spare held n cs (by rw [hlen, hc]) (fun f hm => by
  rw [← hl] at hm;obtain ⟨i, hi⟩ := List.getElem?_of_mem hm;have h1 := hf i f (by simpa using hi)
  have hi2 : i < xs.length := by
   have := (List.getElem?_eq_some_iff.1 hi).1;simp at this
   omega
  rw [List.getElem?_eq_getElem hi2] at h1;exact ⟨_, h1⟩)
 simpa using this
def W28 (x : S28) : Prop := (x.f0.size ≤ maxLen) ∧ ((Lit.int .i64 x.f1).wf = true) ∧ ((Lit.int .i64 x.f2).wf = true) ∧ ((Lit.int .i64 x.f3).wf = true) ∧ ((Lit.int .i64 x.f4).wf = true) ∧ ((Lit.int .i64 x.f5).wf = true) ∧ ((Lit.int .i64 x.f6).wf = true) ∧ ((Lit.int .i64 x.f7).wf = true) ∧ ((Lit.int .i64 x.f8).wf = true)
theorem o28 : Opens Try.prog k28 28 W28 := opens_iso (f := fun x : S28 => (x.f0, x.f1, x.f2, x.f3, x.f4, x.f5, x.f6, x.f7, x.f8)) (fun p => ⟨p.1, p.2.1, p.2.2.1, p.2.2.2.1, p.2.2.2.2.1, p.2.2.2.2.2.1, p.2.2.2.2.2.2.1, p.2.2.2.2.2.2.2.1, p.2.2.2.2.2.2.2.2⟩) (fun _ => rfl) (opens_struct (tot := 9) Try.underlying28 rfl (by kernel_rfl) (opensF_cons (o := 0) (tot := 9) (k := 1) rfl (by kernel_rfl) (opens_string Try.underlying9) (opensF_cons (o := 1) (tot := 9) (k := 1) rfl (by kernel_rfl) (opens_int Try.underlying3) (opensF_cons (o := 2) (tot := 9) (k := 1) rfl (by kernel_rfl) (opens_int Try.underlying3) (opensF_cons (o := 3) (tot := 9) (k := 1) rfl (by kernel_rfl) (opens_int Try.underlying3) (opensF_cons (o := 4) (tot := 9) (k := 1) rfl (by kernel_rfl) (opens_int Try.underlying3) (opensF_cons (o := 5) (tot := 9) (k := 1) rfl (by kernel_rfl) (opens_int Try.underlying3) (opensF_cons (o := 6) (tot := 9) (k := 1) rfl (by kernel_rfl) (opens_int Try.underlying3) (opensF_cons (o := 7) (tot := 9) (k := 1) rfl (by kernel_rfl) (opens_int Try.underlying3) (opensF_last (o := 8) (tot := 9) (k := 1) rfl (by kernel_rfl) (by decide) (opens_int Try.underlying3)))))))))))
def W44 (x : S44) : Prop := ((Lit.int .i64 x.f0).wf = true) ∧ ((Lit.int .i64 x.f1).wf = true)
theorem o44 : Opens Try.prog k44 44 W44 := opens_iso (f := fun x : S44 => (x.f0, x.f1)) (fun p => ⟨p.1, p.2⟩) (fun _ => rfl) (opens_struct (tot := 2) Try.underlying44 rfl (by kernel_rfl) (opensF_cons (o := 0) (tot := 2) (k := 1) rfl (by kernel_rfl) (opens_int Try.underlying3) (opensF_last (o := 1) (tot := 2) (k := 1) rfl (by kernel_rfl) (by decide) (opens_int Try.underlying3))))
def W46 (x : S46) : Prop := (W44 x.f0) ∧ (W44 x.f1) ∧ (W44 x.f2)
theorem o46 : Opens Try.prog k46 46 W46 := opens_iso (f := fun x : S46 => (x.f0, x.f1, x.f2)) (fun p => ⟨p.1, p.2.1, p.2.2⟩) (fun _ => rfl) (opens_struct (tot := 6) Try.underlying46 rfl (by kernel_rfl) (opensF_cons (o := 0) (tot := 6) (k := 2) rfl (by kernel_rfl) o44 (opensF_cons (o := 2) (tot := 6) (k := 2) rfl (by kernel_rfl) o44 (opensF_last (o := 4) (tot := 6) (k := 2) rfl (by kernel_rfl) (by decide) o44))))
def W48 (x : S48) : Prop := ((Lit.int .i64 x.f0).wf = true) ∧ (W46 x.f1)
theorem o48 : Opens Try.prog k48 48 W48 := opens_iso (f := fun x : S48 => (x.f0, x.f1)) (fun p => ⟨p.1, p.2⟩) (fun _ => rfl) (opens_struct (tot := 7) Try.underlying48 rfl (by kernel_rfl) (opensF_cons (o := 0) (tot := 7) (k := 1) rfl (by kernel_rfl) (opens_int Try.underlying3) (opensF_last (o := 1) (tot := 7) (k := 6) rfl (by kernel_rfl) (by decide) o46)))
def W56 (x : S56) : Prop := ((Lit.int .i64 x.f0).wf = true) ∧ ((∀ x_ ∈ x.f1, W44 x_) ∧ x.f1.length ≤ maxLen)
theorem o56 : Opens Try.prog k56 56 W56 := opens_iso (f := fun x : S56 => (x.f0, x.f1)) (fun p => ⟨p.1, p.2⟩) (fun _ => rfl) (opens_struct (tot := 2) Try.underlying56 rfl (by kernel_rfl) (opensF_cons (o := 0) (tot := 2) (k := 1) rfl (by kernel_rfl) (opens_int Try.underlying3) (opensF_last (o := 1) (tot := 2) (k := 1) rfl (by kernel_rfl) (by decide) (opens_slice (α := S44) 44 Try.underlying54 (by kernel_rfl) o44))))
def W58 (x : S58) : Prop := ((Lit.int .i64 x.f0).wf = true) ∧ (W56 x.f1)
theorem o58 : Opens Try.prog k58 58 W58 := opens_iso (f := fun x : S58 => (x.f0, x.f1)) (fun p => ⟨p.1, p.2⟩) (fun _ => rfl) (opens_struct (tot := 3) Try.underlying58 rfl (by kernel_rfl) (opensF_cons (o := 0) (tot := 3) (k := 1) rfl (by kernel_rfl) (opens_int Try.underlying3) (opensF_last (o := 1) (tot := 3) (k := 2) rfl (by kernel_rfl) (by decide) o56)))
def W32 (x : S32) : Prop := ((∀ x_ ∈ x.f0, W58 x_) ∧ x.f0.length ≤ maxLen) ∧ ((∀ x_ ∈ x.f1, W48 x_) ∧ x.f1.length ≤ maxLen)
theorem o32 : Opens Try.prog k32 32 W32 := opens_iso (f := fun x : S32 => (x.f0, x.f1)) (fun p => ⟨p.1, p.2⟩) (fun _ => rfl) (opens_struct (tot := 2) Try.underlying32 rfl (by kernel_rfl) (opensF_cons (o := 0) (tot := 2) (k := 1) rfl (by kernel_rfl) (opens_slice (α := S58) 58 Try.underlying29 (by kernel_rfl) o58) (opensF_last (o := 1) (tot := 2) (k := 1) rfl (by kernel_rfl) (by decide) (opens_slice (α := S48) 48 Try.underlying30 (by kernel_rfl) o48))))
end Go.Proofs.Ytdgbecllbldcaaa.P
end
