/- Functions of the program: what each computes, and that the call computes it; conditions: the fuel that the plain function asks for. -/
import Derived.Test.YtdbjoopkliafeaaCShapeAlongV4
import Derived.ChangeSlices
import Derived.ChangeSame
section
namespace Go.Proofs.Ytdbjoopkliafeaa.P
open Go Go.RowKit Go.Proofs.YtdbjoopkliafeaaW.PrintWords Go.Proofs.YtdbjoopkliafeaaW.PrintLast Go.Proofs.YtdbjoopkliafeaaW.PrintMore
attribute [local go_sem] max2_int min2_int max_two min_two max_three min_three max_four min_four max_five min_eight max_eight   -- for this text's walks alone
set_option linter.unusedVariables false
set_option linter.unusedSimpArgs false

def section_mapped_1.f (a0 : Int) (a1_0 : Int) (l1_1 : List (S49)) (a2 : (Int → Int → Option (Int × Int))) : Option (Int × Int) := if 0 ≤ a0 then (if a0 < (l1_1.length : Int) then ((section_empty.f ((rd_T49 l1_1 a0).f0) ((rd_T49 l1_1 a0).f1)).bind fun t70005 => (if t70005 = true then (some (0, 0)) else ((mapfn.f a2 ((rd_T49 l1_1 a0).f0) ((rd_T49 l1_1 a0).f1)).bind fun bt70007 => (some (bt70007.1, bt70007.2))))) else (none)) else (none)
def section_mapped_1.T3 : Bool × List (List Nat × List Nat) := (true, [([], []), ([], []), ([1], [1]), ([], []), ([2, 3], [2, 3]), ([4], [4]), ([0, 5], [0, 5]), ([6, 6, 0, 1, 2, 3, 4, 5, 6], [6])])
def section_mapped_1.B3 : List Nat := [0, 0, 2, 0, 14, 30, 63, 127]
theorem section_mapped_1.tab3 : rtab .any (opsOf Try.f70 3) = section_mapped_1.T3 := by kernel_rfl
theorem section_mapped_1.bits3 : waitsOk section_mapped_1.T3.2 section_mapped_1.B3 = true := by kernel_rfl
set_option maxHeartbeats 8000000 in
set_option maxRecDepth 100000 in
theorem section_mapped_1.calls (a0 : Int) (a1_0 : Int) (A1_1 : Option Addr) (c1_1 : Nat) (l1_1 : List (S49)) (a2 : (Int → Int → Option (Int × Int))) (r1 : Int) (r2 : Int) (fid : FuncId) (fnc : Func) (cap : Array Value) (gb70001 : Nat) (gb70002 : Nat) (w : World) (hb70001 : w.heap[gb70001]? = some (.cells #[.int .i64 a1_0, .slice A1_1 l1_1.length c1_1] 24 (0, 0))) (hb70002 : w.heap[gb70002]? = some (.cells #[(.func (.func fid) #[] cap)] 68 (0, 0))) (hr1_1 : Kd.C k49 w A1_1 l1_1.length l1_1) (hc1_1 : l1_1.length ≤ c1_1) (hfid : Try.prog.funcs[fid]? = some fnc) (hfn : (fnc.name == "runtime.NumGoroutine") = false) (hfb : fnc.body.isSome = true) (hrow : ∀ (W : World), Below w.heap.size w W → ∀ (a b c d : Int), a2 a b = some (c, d) → Calls Try.prog fid (#[.agg #[.int .i64 a, .int .i64 b]] ++ cap) W fun e W' => e = .returned (.agg #[.int .i64 c, .int .i64 d]) ∧ Below W.heap.size W W') (h : section_mapped_1.f a0 a1_0 l1_1 a2 = some (r1, r2)) :
  Calls Try.prog 70 #[.int .i64 a0, .pointer (some ⟨gb70001, 0, none⟩), .pointer (some ⟨gb70002, 0, none⟩)] w fun e w' => e = .returned (.agg #[.int .i64 r1, .int .i64 r2]) ∧ Below w.heap.size w w' := by
 have BK70001 := Aside0.mk hb70001;have hcz70001_0 := cz0_ BK70001;have hfz70001_0 := fz_ BK70001 0;have hcz70001_1 := cz1_ BK70001;have hfz70001_1 := fz_ BK70001 1;clear hb70001;have BK70002 := Aside0.mk hb70002;have hcz70002_0 := cz0_ BK70002;have hfz70002_0 := fz_ BK70002 0;clear hb70002;have hu24 := Try.underlying24;have hu49 := Try.underlying49;have HR1_1 := Aside0.mk hr1_1;have HC1_1 := Aside0.mk hc1_1;clear hr1_1 hc1_1;have HB := A_ (Below.refl w.heap.size w);have H : (if 0 ≤ a0 then (if a0 < (l1_1.length : Int) then ((section_empty.f ((rd_T49 l1_1 a0).f0) ((rd_T49 l1_1 a0).f1)).bind fun t70005 => (if t70005 = true then (some (0, 0)) else ((mapfn.f a2 ((rd_T49 l1_1 a0).f0) ((rd_T49 l1_1 a0).f1)).bind fun bt70007 => (some (bt70007.1, bt70007.2))))) else (none)) else (none)) = some (r1, r2) := h;clear h
 by_cases c4 : 0 ≤ a0
 ·rw [if_pos c4] at H;have c4b0 : decide (0 ≤ a0) = true := decide_eq_true c4;clear c4
  by_cases c5 : a0 < (l1_1.length : Int)
  ·rw [if_pos c5] at H;have c5b0 : decide (a0 < (l1_1.length : Int)) = true := decide_eq_true c5;clear c5;replace H := Option.bind_eq_some_iff.mp H;obtain ⟨t70005, A60, H⟩ := H;replace H : (if t70005 = true then (some (0, 0)) else ((mapfn.f a2 ((rd_T49 l1_1 a0).f0) ((rd_T49 l1_1 a0).f1)).bind fun bt70007 => (some (bt70007.1, bt70007.2)))) = some (r1, r2) := H;have A6 := Aside0.mk A60;clear A60
   by_cases c7 : t70005 = true
   ·subst c7;(have H1 : (some (0, 0)) = some (r1, r2) := by rw [if_pos rfl] at H; exact H);clear H;have H := H1;clear H1;simp only [Option.some.injEq, Prod.mk.injEq] at H;obtain ⟨rfl, rfl⟩ := H;go_enter Try.func70, Try.ntmps70;go_wp2_with (first | ((with_reducible refine gate_dst (N := 4) rfl ?_); refine bx_ 4 (cs := #[.int .i64 0, .int .i64 0]) (t := 49) ?_; intro gb70003 hg w10 hbox hb; have BK70003 := A_ hbox; have GW70003 := gz_ (w := w) hg; have GE70003 := gz_ (w := w) hg; replace HB := bA_ hb; have NB70001_70003 := nlt_ BK70001 hg; have NB70003_70001 := ngt_ BK70001 hg; replace BK70001 := bb_ BK70001 hb; have NB70002_70003 := nlt_ BK70002 hg; have NB70003_70002 := ngt_ BK70002 hg; replace BK70002 := bb_ BK70002 hb; clear hb hbox hg; have hnb12 := NB70001_70003.out; have hnc12 := NB70003_70001.out; have hcz13_0 := cz0_ BK70001; have hcz13_1 := cz1_ BK70001; have hfz13_0 := fz_ BK70001 0; have hfz13_1 := fz_ BK70001 1; have p70004 : 0 ≤ (a0 : Int) := as_; have q70004 : a0 < (l1_1.length : Int) := as_; obtain ⟨ad70004, e70004, hx70004_0, hx70004_1⟩ := at_T49 HR1_1.out a0 p70004 q70004; cases e70004; replace hx70004_0 := bc_ HB hx70004_0; replace hx70004_1 := bc_ HB hx70004_1; replace p70004 := eq_true p70004; replace q70004 := eq_true q70004) | ((with_reducible refine gate_callee (f := 55) rfl ?_); refine goesL_ (some 10) rfl rfl Try.func55 (by kernel_rfl) rfl #[.agg #[.int .i64 ((rd_T49 l1_1 a0).f0), .int .i64 ((rd_T49 l1_1 a0).f1)]] rfl la_ ?_; (with_reducible refine (section_empty.calls ((rd_T49 l1_1 a0).f0) ((rd_T49 l1_1 a0).f1) true _ A6.out).mono ?_); rintro e w14 ⟨rfl, hb⟩; refine ⟨_, rfl, ?_⟩; replace BK70001 := bb_ BK70001 hb; replace BK70002 := bb_ BK70002 hb; replace BK70003 := bb_ BK70003 hb; replace HB := bA_ hb; (try clear hb); have hnb15 := NB70003_70002.out; have hnc15 := NB70002_70003.out; have hcz16_0 := cz0_ BK70003; have hcz16_1 := cz1_ BK70003; have hfz16_0 := fz_ BK70003 0; have hfz16_1 := fz_ BK70003 1));refine bodyPost_ret (results_cell_row rfl _ _ gb70003 49 #[.int .i64 0, .int .i64 0] (0, 0) _ rfl (ch_ BK70003) Try.underlying49 rfl (by kernel_rfl)) rfl ?_;exact ⟨er_, be_⟩
   ·replace c7 := Bool.eq_false_iff.mpr c7;subst c7;(have H1 : ((mapfn.f a2 ((rd_T49 l1_1 a0).f0) ((rd_T49 l1_1 a0).f1)).bind fun bt70007 => (some (bt70007.1, bt70007.2))) = some (r1, r2) := by rw [if_neg (show ¬ (false = true) by decide)] at H; exact H);clear H;have H := H1;clear H1;replace H := Option.bind_eq_some_iff.mp H;obtain ⟨⟨t70007, t70008⟩, A170, H⟩ := H;replace H : (some (t70007, t70008)) = some (r1, r2) := H;have A17 := Aside0.mk A170;clear A170;simp only [Option.some.injEq, Prod.mk.injEq] at H;obtain ⟨rfl, rfl⟩ := H;go_enter Try.func70, Try.ntmps70;(try go_wp2_with (first | ((with_reducible refine gate_dst (N := 4) rfl ?_); refine bx_ 4 (cs := #[.int .i64 0, .int .i64 0]) (t := 49) ?_; intro gb70003 hg w20 hbox hb; have BK70003 := A_ hbox; have GW70003 := gz_ (w := w) hg; have GE70003 := gz_ (w := w) hg; replace HB := bA_ hb; have NB70001_70003 := nlt_ BK70001 hg; have NB70003_70001 := ngt_ BK70001 hg; replace BK70001 := bb_ BK70001 hb; have NB70002_70003 := nlt_ BK70002 hg; have NB70003_70002 := ngt_ BK70002 hg; replace BK70002 := bb_ BK70002 hb; clear hb hbox hg; have hnb22 := NB70001_70003.out; have hnc22 := NB70003_70001.out; have hcz23_0 := cz0_ BK70001; have hcz23_1 := cz1_ BK70001; have hfz23_0 := fz_ BK70001 0; have hfz23_1 := fz_ BK70001 1; have p70004 : 0 ≤ (a0 : Int) := as_; have q70004 : a0 < (l1_1.length : Int) := as_; obtain ⟨ad70004, e70004, hx70004_0, hx70004_1⟩ := at_T49 HR1_1.out a0 p70004 q70004; cases e70004; replace hx70004_0 := bc_ HB hx70004_0; replace hx70004_1 := bc_ HB hx70004_1; replace p70004 := eq_true p70004; replace q70004 := eq_true q70004) | ((with_reducible refine gate_callee (f := 55) rfl ?_); refine goesL_ (some 10) rfl rfl Try.func55 (by kernel_rfl) rfl #[.agg #[.int .i64 ((rd_T49 l1_1 a0).f0), .int .i64 ((rd_T49 l1_1 a0).f1)]] rfl la_ ?_; (with_reducible refine (section_empty.calls ((rd_T49 l1_1 a0).f0) ((rd_T49 l1_1 a0).f1) false _ A6.out).mono ?_); rintro e w24 ⟨rfl, hb⟩; refine ⟨_, rfl, ?_⟩; replace BK70001 := bb_ BK70001 hb; replace BK70002 := bb_ BK70002 hb; replace BK70003 := bb_ BK70003 hb; replace HB := bA_ hb; (try clear hb))));replace BK70001 := A_ (blk_drew BK70001.out);replace BK70002 := A_ (blk_drew BK70002.out);replace BK70003 := A_ (blk_drew BK70003.out);replace HB := A_ (below_drew1 HB.out);have p70006 : 0 ≤ (a0 : Int) := as_;have q70006 : a0 < (l1_1.length : Int) := as_;obtain ⟨ad70006, e70006, hx70006_0, hx70006_1⟩ := at_T49 HR1_1.out a0 p70006 q70006;have hw70006_1 := hx70006_1;have hw70006_0 := hx70006_0;obtain rfl : ad70004 = ad70006 := (by injection e70006);replace hx70006_0 := bc_ HB hx70006_0;replace hx70006_1 := bc_ HB hx70006_1;replace p70006 := eq_true p70006;replace q70006 := eq_true q70006;refine start_ (n := 8) (S := fun w' => w'.cell? ⟨gb70002, 0, none⟩ = some ((.func (.func fid) #[] cap)) ∧ w'.cell? ⟨gb70001, 0, none⟩ = some (.int .i64 a1_0) ∧ w'.cell? ⟨gb70001, 1, none⟩ = some (.slice (some ad70004) l1_1.length c1_1) ∧ w'.cell? (ad70004.add ((a0).toNat * 2)) = some (.int .i64 ((rd_T49 l1_1 a0).f0)) ∧ w'.cell? ⟨(ad70004.add ((a0).toNat * 2)).block, (ad70004.add ((a0).toNat * 2)).off + 1, none⟩ = some (.int .i64 ((rd_T49 l1_1 a0).f1))) (ds := []) #[f_,f_,f_,f_,f_,f_,f_,f_] (by kernel_rfl) rfl rfl ⟨cl_ BK70002 0, cl_ BK70001 0, cl_ BK70001 1, (bc_ HB hw70006_0), (bc_ HB hw70006_1)⟩ (fun hHeld => ?_); refine with_tabW section_mapped_1.tab3 section_mapped_1.bits3 (fun HT_ HW_ => ?_);generalize w24.drew = w25 at BK70001 BK70002 BK70003 HB hx70006_0 hx70006_1 hHeld ⊢;refine pu_ (i := 1) (N := some 13) #[f_,t_,f_,f_,f_,f_,f_,f_] ?_;refine pu_ (i := 3) (N := some 15) #[f_,t_,f_,t_,f_,f_,f_,f_] ?_;refine take_ (i := 0) (N := some 12) #[t_,t_,f_,t_,f_,f_,f_,f_] rfl rfl (take_ofW HT_.out HW_.out (by kernel_rfl)) id3_ (Or.inl ⟨by rfl, by rintro w' ⟨s0, s1, s2, s3, s4⟩; go_simp; with_reducible rfl⟩) hHeld pt_ ?_
    refine take_ (i := 2) (N := some 14) #[t_,t_,t_,t_,f_,f_,f_,f_] rfl rfl (take_ofW HT_.out HW_.out (by kernel_rfl)) id3_ (Or.inl ⟨by rfl, by rintro w' ⟨s0, s1, s2, s3, s4⟩; go_simp; with_reducible rfl⟩) hHeld pt_ ?_;refine pu_ (i := 4) (N := some 16) #[t_,t_,t_,t_,t_,f_,f_,f_] ?_;refine take_ (i := 5) (N := some 17) #[t_,t_,t_,t_,t_,t_,f_,f_] rfl rfl (take_ofW HT_.out HW_.out (by kernel_rfl)) id3_ (Or.inl ⟨by rfl, by rintro w' ⟨s0, s1, s2, s3, s4⟩; go_simp; with_reducible rfl⟩) hHeld pt_ ?_;refine one_ (i := 6) (N := some 18) #[t_,t_,t_,t_,t_,t_,t_,f_] rfl rfl (one_of HT_.out (by kernel_rfl)) (by decide) (fun K hK => ?_);refine goesWR_ hfid hfn hfb #[.agg #[.int .i64 ((rd_T49 l1_1 a0).f0), .int .i64 ((rd_T49 l1_1 a0).f1)]] (t := .tmp 12) cap (by rfl) rfl rfl rfl la_ ?_;refine (hrow _ (by repeat (first | (with_reducible first | exact HB.out | apply below_alloc | apply pw_below_drewN | apply below_drew1 | refine below_set ?_ (Aside0.out (by assumption))) | exact HB.out)) _ _ _ _ A17.out).mono ?_;rintro e w26 ⟨rfl, hb⟩;refine ⟨_, rfl, ?_⟩;replace BK70001 := bb_ BK70001 hb;replace BK70002 := bb_ BK70002 hb;replace BK70003 := bb_ BK70003 hb;replace HB := bA_ hb;(try clear hb);refine hK.out _ _ ⟨cl_ BK70002 0, cl_ BK70001 0, cl_ BK70001 1, (bc_ HB hw70006_0), (bc_ HB hw70006_1)⟩ (fun hHeld => ?_);clear hK K;refine norm_ (a' := ?_) ?_ ?_;rotate_left
    ·show Act.put _ (some 18) _ = _
     simp only [Act.put, List.setIfInBounds_toArray, List.set_cons_zero, List.set_cons_succ, i64_w, i32_w];rfl
    refine one_ (i := 7) (N := none) #[t_,t_,t_,t_,t_,t_,t_,t_] rfl rfl (one_of HT_.out (by kernel_rfl)) (by decide) (fun K hK => ?_);have hs27 : w26.cell? ⟨gb70003, 0, none⟩ = some (.int .i64 0) := cl_ BK70003 0;have hfs27 := fz_ BK70003 0;have hns27_0 := NB70001_70003.out;have hns27_1 := NB70002_70003.out;have hms27_0 := NB70003_70001.out;have hms27_1 := NB70003_70002.out;have hs28 : w26.cell? ⟨gb70003, 1, none⟩ = some (.int .i64 0) := cl_ BK70003 1;have hfs28 := fz_ BK70003 1;have hns28_0 := NB70001_70003.out;have hns28_1 := NB70002_70003.out;have hms28_0 := NB70003_70001.out;have hms28_1 := NB70003_70002.out;refine skip_ (w1 := ?_) (by rfl) rfl ?_ ?_;rotate_left
    ·go_simp;rfl
    refine hK.out _ _ ⟨((cell_far (p := ⟨gb70003, _, none⟩) NB70002_70003.out _).trans (((cell_far (p := ⟨gb70003, _, none⟩) NB70002_70003.out _).trans (hHeld.1)))), ((cell_far (p := ⟨gb70003, _, none⟩) NB70001_70003.out _).trans (((cell_far (p := ⟨gb70003, _, none⟩) NB70001_70003.out _).trans (hHeld.2.1)))), ((cell_far (p := ⟨gb70003, _, none⟩) NB70001_70003.out _).trans (((cell_far (p := ⟨gb70003, _, none⟩) NB70001_70003.out _).trans (hHeld.2.2.1)))), ((cell_far (p := ⟨gb70003, _, none⟩) (ne_ (nl_ hw70006_0 GW70003)) _).trans (((cell_far (p := ⟨gb70003, _, none⟩) (ne_ (nl_ hw70006_0 GW70003)) _).trans (hHeld.2.2.2.1)))), ((cell_far (p := ⟨gb70003, _, none⟩) (ne_ (nl_ hw70006_1 GW70003)) _).trans (((cell_far (p := ⟨gb70003, _, none⟩) (ne_ (nl_ hw70006_1 GW70003)) _).trans (hHeld.2.2.2.2))))⟩ (fun hHeld => ?_);clear hK K;refine done_ (done_of HT_.out (by kernel_rfl)) ?_;(try clear hHeld);(try go_wp2);refine bodyPost_ret (results_cell_row rfl _ _ gb70003 49 #[.int .i64 t70007, .int .i64 t70008] (0, 0) _ rfl (ch_ BK70003) Try.underlying49 rfl (by kernel_rfl)) rfl ?_;exact ⟨er_, be_⟩
  ·rw [if_neg c5] at H;exact absurd H (by simp)
 ·rw [if_neg c4] at H;exact absurd H (by simp)

end Go.Proofs.Ytdbjoopkliafeaa.P

end
section
namespace Go.Proofs.Ytdbjoopkliafeaa.P
open Go Go.RowKit Go.Proofs.YtdbjoopkliafeaaW.PrintWords Go.Proofs.YtdbjoopkliafeaaW.PrintLast Go.Proofs.YtdbjoopkliafeaaW.PrintMore
attribute [local go_sem] max2_int min2_int max_two min_two max_three min_three max_four min_four max_five min_eight max_eight   -- for this text's walks alone
set_option linter.unusedVariables false
set_option linter.unusedSimpArgs false

abbrev section_build_c70.f (k : Nat) (a0 : Int) (a1 : Int) (a2 : (Int → Option (Int × Int))) (_l0 : List (S49)) := section_build.f k a0 a1 a2
theorem section_build_c70.mono : ∀ a0 a1 a2 l0 k, LeO (section_build_c70.f k a0 a1 a2 l0) (section_build_c70.f (k + 1) a0 a1 a2 l0) := fun a0 a1 a2 _ k => section_build.mono a0 a1 a2 k
def section_mapped.f (k : Nat) (a0_0 : Int) (l0_1 : List (S49)) (a1 : (Int → Int → Option (Int × Int))) : Option (Int × (List (S49))) := (section_build_c70.f k a0_0 (l0_1.length : Int) (fun i_ => section_mapped_1.f i_ a0_0 l0_1 a1) l0_1).bind fun bt56004 => (some (bt56004.1, bt56004.2))
theorem section_mapped.mono : ∀ a0 a1 a2 k, LeO (section_mapped.f k a0 a1 a2) (section_mapped.f (k + 1) a0 a1 a2) := by
 intro a0 a1 a2 k;unfold section_mapped.f
 repeat' first
   | (with_reducible exact section_build_c70.mono _ _ _ _ _)
   | (with_reducible exact LeO.refl _)
   | (with_reducible exact LeO.none _)
   | (with_reducible refine LeO.ite ?_ ?_)
   | (with_reducible refine LeO.bind ?_ (fun _ => ?_))
   | exact section_build_c70.mono _ _ _ _ _
   | exact LeO.none _
   | refine LeO.ite ?_ ?_
   | refine LeO.bind ?_ (fun _ => ?_)
set_option maxHeartbeats 8000000 in
set_option maxRecDepth 100000 in
theorem section_mapped.calls (k : Nat) (a0_0 : Int) (A0_1 : Option Addr) (c0_1 : Nat) (l0_1 : List (S49)) (a1 : (Int → Int → Option (Int × Int))) (r1 : Int) (r2 : List (S49)) (fid : FuncId) (fnc : Func) (cap : Array Value) (w : World) (hr0_1 : Kd.C k49 w A0_1 l0_1.length l0_1) (hc0_1 : l0_1.length ≤ c0_1) (hfid : Try.prog.funcs[fid]? = some fnc) (hfn : (fnc.name == "runtime.NumGoroutine") = false) (hfb : fnc.body.isSome = true) (hrow : ∀ (W : World), Below w.heap.size w W → ∀ (a b c d : Int), a1 a b = some (c, d) → Calls Try.prog fid (#[.agg #[.int .i64 a, .int .i64 b]] ++ cap) W fun e W' => e = .returned (.agg #[.int .i64 c, .int .i64 d]) ∧ Below W.heap.size W W') (h : section_mapped.f k a0_0 l0_1 a1 = some (r1, r2)) :
  Calls Try.prog 56 #[.agg #[.int .i64 a0_0, .slice A0_1 l0_1.length c0_1], (.func (.func fid) #[] cap)] w fun e w' => ∃ v1_ : Value, e = .returned (.agg #[.int .i64 r1, v1_]) ∧ Kd.R k49 49 w' w.heap.size (fun _ => True) v1_ r2 ∧ Below w.heap.size w w' := by
 have hu24 := Try.underlying24;have HR0_1 := Aside0.mk hr0_1;have HC0_1 := Aside0.mk hc0_1;clear hr0_1 hc0_1;have HB := A_ (Below.refl w.heap.size w);have H : ((section_build_c70.f k a0_0 (l0_1.length : Int) (fun i_ => section_mapped_1.f i_ a0_0 l0_1 a1) l0_1).bind fun bt56004 => (some (bt56004.1, bt56004.2))) = some (r1, r2) := h;clear h;replace H := Option.bind_eq_some_iff.mp H;obtain ⟨⟨t56004, t56005⟩, A30, H⟩ := H;replace H : (some (t56004, t56005)) = some (r1, r2) := H;have A3 := Aside0.mk A30;clear A30;simp only [Option.some.injEq, Prod.mk.injEq] at H;obtain ⟨rfl, rfl⟩ := H;go_enter Try.func56, Try.ntmps56;go_wp2_with (first | ((with_reducible refine gate_dst (N := 2) rfl ?_); refine bx_ 2 (cs := #[.int .i64 a0_0, .slice A0_1 l0_1.length c0_1]) (t := 24) ?_; intro gb56001 hg w4 hbox hb; have BK56001 := A_ hbox; have GW56001 := gz_ (w := w) hg; have GE56001 := gz_ (w := w) hg; replace HB := bA_ hb; clear hb hbox hg) | ((with_reducible refine gate_dst (N := 3) rfl ?_); refine bx_ 3 (cs := #[(.func (.func fid) #[] cap)]) (t := 68) ?_; intro gb56002 hg w5 hbox hb; have BK56002 := A_ hbox; have GW56002 := gz_ (w := w) hg; have GE56002 := gz_ (w := w) hg; replace HB := bA_ hb; have NB56001_56002 := nlt_ BK56001 hg; have NB56002_56001 := ngt_ BK56001 hg; replace BK56001 := bb_ BK56001 hb; clear hb hbox hg) | ((with_reducible refine gate_dst (N := 4) rfl ?_); refine bx_ 4 (cs := #[.int .i64 0, .slice none 0 0]) (t := 24) ?_; intro gb56003 hg w6 hbox hb; have BK56003 := A_ hbox; have GW56003 := gz_ (w := w) hg; have GE56003 := gz_ (w := w) hg; replace HB := bA_ hb; have NB56001_56003 := nlt_ BK56001 hg; have NB56003_56001 := ngt_ BK56001 hg; replace BK56001 := bb_ BK56001 hb; have NB56002_56003 := nlt_ BK56002 hg; have NB56003_56002 := ngt_ BK56002 hg; replace BK56002 := bb_ BK56002 hb; clear hb hbox hg; have hnb7 := NB56001_56002.out; have hnc7 := NB56002_56001.out; have hnb8 := NB56001_56003.out; have hnc8 := NB56003_56001.out; have hcz9_0 := cz0_ BK56001; have hcz9_1 := cz1_ BK56001; have hfz9_0 := fz_ BK56001 0; have hfz9_1 := fz_ BK56001 1) | ((with_reducible refine gate_callee (f := 51) rfl ?_); refine goesL_ (some 11) rfl rfl Try.func51 (by kernel_rfl) rfl #[.int .i64 a0_0, .int .i64 (l0_1.length : Int), (.func (.func 70) #[] #[.pointer (some ⟨gb56001, 0, none⟩), .pointer (some ⟨gb56002, 0, none⟩)])] rfl la_ ?_; (refine (section_build.calls k a0_0 (l0_1.length : Int) (fun i_ => section_mapped_1.f i_ a0_0 l0_1 a1) t56004 t56005 70 Try.f70 #[.pointer (some ⟨gb56001, 0, none⟩), .pointer (some ⟨gb56002, 0, none⟩)] _  Try.func70 (by kernel_rfl) (by kernel_rfl) ?hrow_ A3.out).mono ?_); (case hrow_ => intro W_ hB_ i_ a_ b_ hf_; exact section_mapped_1.calls i_ _ _ _ _ _ a_ b_ fid fnc cap gb56001 gb56002 W_ (blk_below (g := gb56001) (o := .cells #[.int .i64 a0_0, .slice A0_1 l0_1.length c0_1] 24 (0, 0)) (fb_ BK56001.out) hB_) (blk_below (g := gb56002) (o := .cells #[(.func (.func fid) #[] cap)] 68 (0, 0)) (fb_ BK56002.out) hB_) (Kd.C_below (by repeat (first | exact (Kd.C_below HR0_1.out HB.out) | (with_reducible refine Kd.C_alloc ?_ _) | (with_reducible refine Kd.C_drewN ?_ _) | (with_reducible refine Kd.C_drew ?_))) hB_) (by exact HC0_1.out) hfid hfn hfb (fun W1_ hW1_ => hrow W1_ (below_step (below_step (by repeat (first | (with_reducible first | exact HB.out | apply below_alloc | apply pw_below_drewN | apply below_drew1 | refine below_set ?_ (Aside0.out (by assumption))) | exact HB.out)) hB_) hW1_)) hf_); rintro e w10 ⟨v56006, rfl, ho0, hb⟩; refine ⟨_, rfl, ?_⟩; have HO56007 := A_ (Kd.R_lower ho0 bz_); replace BK56001 := bb_ BK56001 hb; replace BK56002 := bb_ BK56002 hb; replace BK56003 := bb_ BK56003 hb; replace HB := bA_ hb; (try clear hb); (try clear hk); (try clear ho0); have hnb11 := NB56003_56002.out; have hnc11 := NB56002_56003.out; have hcz12_0 := cz0_ BK56003; have hcz12_1 := cz1_ BK56003; have hfz12_0 := fz_ BK56003 0; have hfz12_1 := fz_ BK56003 1; obtain ⟨Ao13, co13, eo13⟩ := Kd.R_slice HO56007.out; subst eo13))
 refine bodyPost_ret (results_cell_row rfl _ _ gb56003 24 #[.int .i64 t56004, .slice Ao13 t56005.length co13] (0, 0) _ rfl (ch_ BK56003) Try.underlying24 rfl (by kernel_rfl)) rfl ?_;exact ⟨_, er_, by (with_reducible repeat (first | apply Kd.R_alloc | apply Kd.R_drewN | apply Kd.R_drew)); exact Kd.R_mono (Kd.R_far (p := ⟨gb56003, 1, none⟩) (Kd.R_far (p := ⟨gb56003, 0, none⟩) (Kd.R_types HO56007.out BK56003.out (by decide)) (fun _ hk => hk.2) (.int .i64 t56004)) (fun _ hk => hk.2) (.slice Ao13 t56005.length co13)) (fun _ hk => trivial), be_⟩

end Go.Proofs.Ytdbjoopkliafeaa.P

end
section
namespace Go.Proofs.Ytdbjoopkliafeaa.P
open Go Go.RowKit Go.Proofs.YtdbjoopkliafeaaW.PrintWords Go.Proofs.YtdbjoopkliafeaaW.PrintLast Go.Proofs.YtdbjoopkliafeaaW.PrintMore
attribute [local go_sem] max2_int min2_int max_two min_two max_three min_three max_four min_four max_five min_eight max_eight   -- for this text's walks alone
set_option linter.unusedVariables false
set_option linter.unusedSimpArgs false

def section_Mirror_1.f (a0_0 : Int) (a0_1 : Int) : Option (Int × Int) := some (wrap64 (-a0_1), wrap64 (-a0_0))
set_option maxHeartbeats 8000000 in
set_option maxRecDepth 100000 in
theorem section_Mirror_1.calls (a0_0 : Int) (a0_1 : Int) (r1 : Int) (r2 : Int) (w : World) (h : section_Mirror_1.f a0_0 a0_1 = some (r1, r2)) :
  Calls Try.prog 57 #[.agg #[.int .i64 a0_0, .int .i64 a0_1]] w fun e w' => e = .returned (.agg #[.int .i64 r1, .int .i64 r2]) ∧ Below w.heap.size w w' := by
 have hu49 := Try.underlying49;have HB := A_ (Below.refl w.heap.size w);have H : (some (wrap64 (-a0_1), wrap64 (-a0_0))) = some (r1, r2) := h;clear h;simp only [Option.some.injEq, Prod.mk.injEq] at H;obtain ⟨rfl, rfl⟩ := H;go_enter Try.func57, Try.ntmps57;go_wp2_with (first | ((with_reducible refine gate_dst (N := 1) rfl ?_); refine bx_ 1 (cs := #[.int .i64 a0_0, .int .i64 a0_1]) (t := 49) ?_; intro gb57001 hg w2 hbox hb; have BK57001 := A_ hbox; have GW57001 := gz_ (w := w) hg; have GE57001 := gz_ (w := w) hg; replace HB := bA_ hb; clear hb hbox hg) | ((with_reducible refine gate_dst (N := 2) rfl ?_); refine bx_ 2 (cs := #[.int .i64 0, .int .i64 0]) (t := 49) ?_; intro gb57002 hg w3 hbox hb; have BK57002 := A_ hbox; have GW57002 := gz_ (w := w) hg; have GE57002 := gz_ (w := w) hg; replace HB := bA_ hb; have NB57001_57002 := nlt_ BK57001 hg; have NB57002_57001 := ngt_ BK57001 hg; replace BK57001 := bb_ BK57001 hb; clear hb hbox hg; have hnb4 := NB57001_57002.out; have hnc4 := NB57002_57001.out; have hcz5_0 := cz0_ BK57001; have hcz5_1 := cz1_ BK57001; have hfz5_0 := fz_ BK57001 0; have hfz5_1 := fz_ BK57001 1; have hcz6_0 := cz0_ BK57002; have hcz6_1 := cz1_ BK57002; have hfz6_0 := fz_ BK57002 0; have hfz6_1 := fz_ BK57002 1));refine bodyPost_ret (results_cell_row rfl _ _ gb57002 49 #[.int .i64 (wrap64 (-a0_1)), .int .i64 (wrap64 (-a0_0))] (0, 0) _ rfl (ch_ BK57002) Try.underlying49 rfl (by kernel_rfl)) rfl ?_;exact ⟨er_, be_⟩

end Go.Proofs.Ytdbjoopkliafeaa.P

end
section
namespace Go.Proofs.Ytdbjoopkliafeaa.P
open Go Go.RowKit Go.Proofs.YtdbjoopkliafeaaW.PrintWords Go.Proofs.YtdbjoopkliafeaaW.PrintLast Go.Proofs.YtdbjoopkliafeaaW.PrintMore
attribute [local go_sem] max2_int min2_int max_two min_two max_three min_three max_four min_four max_five min_eight max_eight   -- for this text's walks alone
set_option linter.unusedVariables false
set_option linter.unusedSimpArgs false

abbrev section_mapped_c57.f (k : Nat) (a0 : Int) (a1 : List (S49)) (a2 : (Int → Int → Option (Int × Int)))  := section_mapped.f k a0 a1 a2
theorem section_mapped_c57.mono : ∀ a0 a1 a2  k, LeO (section_mapped_c57.f k a0 a1 a2 ) (section_mapped_c57.f (k + 1) a0 a1 a2 ) := fun a0 a1 a2  k => section_mapped.mono a0 a1 a2 k
def section_Mirror.f (k : Nat) (a0_0 : Int) (l0_1 : List (S49)) : Option (Int × (List (S49))) := (section_valid.f k a0_0 l0_1).bind fun bt30003 => ((section_mapped_c57.f k bt30003.1 bt30003.2 (fun x_ y_ => section_Mirror_1.f x_ y_)).bind fun bt30007 => (some (bt30007.1, bt30007.2)))
theorem section_Mirror.mono : ∀ a0 a1 k, LeO (section_Mirror.f k a0 a1) (section_Mirror.f (k + 1) a0 a1) := by
 intro a0 a1 k;unfold section_Mirror.f
 repeat' first
   | (with_reducible exact section_mapped_c57.mono _ _ _ _)
   | (with_reducible exact section_valid.mono _ _ _)
   | (with_reducible exact LeO.refl _)
   | (with_reducible exact LeO.none _)
   | (with_reducible refine LeO.ite ?_ ?_)
   | (with_reducible refine LeO.bind ?_ (fun _ => ?_))
   | exact section_mapped_c57.mono _ _ _ _
   | exact section_valid.mono _ _ _
   | exact LeO.none _
   | refine LeO.ite ?_ ?_
   | refine LeO.bind ?_ (fun _ => ?_)
set_option maxHeartbeats 8000000 in
set_option maxRecDepth 100000 in
theorem section_Mirror.calls (k : Nat) (a0_0 : Int) (A0_1 : Option Addr) (c0_1 : Nat) (l0_1 : List (S49)) (r1 : Int) (r2 : List (S49)) (w : World) (hr0_1 : Kd.C k49 w A0_1 l0_1.length l0_1) (hc0_1 : l0_1.length ≤ c0_1) (h : section_Mirror.f k a0_0 l0_1 = some (r1, r2)) :
  Calls Try.prog 30 #[.agg #[.int .i64 a0_0, .slice A0_1 l0_1.length c0_1]] w fun e w' => ∃ v1_ : Value, e = .returned (.agg #[.int .i64 r1, v1_]) ∧ Kd.R k49 49 w' w.heap.size (fun _ => True) v1_ r2 ∧ Below w.heap.size w w' := by
 have hu24 := Try.underlying24;have HR0_1 := Aside0.mk hr0_1;have HC0_1 := Aside0.mk hc0_1;clear hr0_1 hc0_1;have HB := A_ (Below.refl w.heap.size w);have H : ((section_valid.f k a0_0 l0_1).bind fun bt30003 => ((section_mapped_c57.f k bt30003.1 bt30003.2 (fun x_ y_ => section_Mirror_1.f x_ y_)).bind fun bt30007 => (some (bt30007.1, bt30007.2)))) = some (r1, r2) := h;clear h;replace H := Option.bind_eq_some_iff.mp H;obtain ⟨⟨t30003, t30004⟩, A20, H⟩ := H;replace H : ((section_mapped_c57.f k t30003 t30004 (fun x_ y_ => section_Mirror_1.f x_ y_)).bind fun bt30007 => (some (bt30007.1, bt30007.2))) = some (r1, r2) := H;have A2 := Aside0.mk A20;clear A20;replace H := Option.bind_eq_some_iff.mp H;obtain ⟨⟨t30007, t30008⟩, A30, H⟩ := H;replace H : (some (t30007, t30008)) = some (r1, r2) := H;have A3 := Aside0.mk A30;clear A30;simp only [Option.some.injEq, Prod.mk.injEq] at H;obtain ⟨rfl, rfl⟩ := H;go_enter Try.func30, Try.ntmps30
 go_wp2_with (first | ((with_reducible refine gate_dst (N := 1) rfl ?_); refine bx_ 1 (cs := #[.int .i64 a0_0, .slice A0_1 l0_1.length c0_1]) (t := 24) ?_; intro gb30001 hg w4 hbox hb; have BK30001 := A_ hbox; have GW30001 := gz_ (w := w) hg; have GE30001 := gz_ (w := w) hg; replace HB := bA_ hb; clear hb hbox hg) | ((with_reducible refine gate_dst (N := 2) rfl ?_); refine bx_ 2 (cs := #[.int .i64 0, .slice none 0 0]) (t := 24) ?_; intro gb30002 hg w5 hbox hb; have BK30002 := A_ hbox; have GW30002 := gz_ (w := w) hg; have GE30002 := gz_ (w := w) hg; replace HB := bA_ hb; have NB30001_30002 := nlt_ BK30001 hg; have NB30002_30001 := ngt_ BK30001 hg; replace BK30001 := bb_ BK30001 hb; clear hb hbox hg; have hnb6 := NB30001_30002.out; have hnc6 := NB30002_30001.out; have hcz7_0 := cz0_ BK30001; have hcz7_1 := cz1_ BK30001; have hfz7_0 := fz_ BK30001 0; have hfz7_1 := fz_ BK30001 1) | ((with_reducible refine gate_callee (f := 49) rfl ?_); refine goesL_ (some 4) rfl rfl Try.func49 (by kernel_rfl) rfl #[.agg #[.int .i64 a0_0, .slice A0_1 l0_1.length c0_1]] rfl la_ ?_; (with_reducible refine (section_valid.calls k a0_0 (fun k_ => k_ < w.heap.size) _ _ l0_1 t30003 t30004 _ ?side1 A2.out).mono ?_); (case side1 => exact Kd.V_mk HC0_1.out (Kd.F_below (Kd.C_F k49_heap HR0_1.out) be_)); rintro e w8 ⟨v30005, rfl, ho0, hb⟩; refine ⟨_, rfl, ?_⟩; have HO30006 := A_ (Kd.V_lower (Kd.V_mono (ok' := fun k_ => k_ ≠ gb30001 ∧ k_ ≠ gb30002) ho0 (fun k_ hk_ => ⟨Or.elim hk_ (fun hs_ => fun e_ => Nat.not_le.2 hs_ (by rw [e_]; exact GW30001.out)) (fun hn_ => (Kd.freshB (g := gb30001) (o := .cells #[.int .i64 a0_0, .slice A0_1 l0_1.length c0_1] 24 (0, 0)) (fb_ BK30001.out) k_ hn_)), Or.elim hk_ (fun hs_ => fun e_ => Nat.not_le.2 hs_ (by rw [e_]; exact GW30002.out)) (fun hn_ => (Kd.freshB (g := gb30002) (o := .cells #[.int .i64 0, .slice none 0 0] 24 (0, 0)) (fb_ BK30002.out) k_ hn_))⟩)) bz_); replace BK30001 := bb_ BK30001 hb; replace BK30002 := bb_ BK30002 hb; replace HB := bA_ hb; (try clear hb); (try clear hk); (try clear ho0); obtain ⟨Ao9, co9, eo9⟩ := Kd.V_slice HO30006.out; subst eo9) | ((with_reducible refine gate_callee (f := 56) rfl ?_); refine goesL_ (some 5) rfl rfl Try.func56 (by kernel_rfl) rfl #[.agg #[.int .i64 t30003, .slice Ao9 t30004.length co9], (.func (.func 57) #[] #[])] rfl la_ ?_; (refine (section_mapped.calls k t30003 _ _ t30004 (fun x_ y_ => section_Mirror_1.f x_ y_) t30007 t30008 57 Try.f57 #[] _ ?side1 ?side2 Try.func57 (by kernel_rfl) (by kernel_rfl) ?hrow_ A3.out).mono ?_); (case side1 => exact csC_ ((Kd.V_reads' HO30006.out).2.2)); (case side2 => exact (Kd.V_reads' HO30006.out).2.1); (case hrow_ => intro W_ hB_ x_ y_ a_ b_ hf_; exact section_Mirror_1.calls x_ y_  a_ b_  W_  hf_); rintro e w10 ⟨v30009, rfl, ho0, hb⟩; refine ⟨_, rfl, ?_⟩; replace HO30006 := A_ (Kd.V_elder' (fV_ HO30006.out) (Kd.R_base ho0) hb); have HO30010 := A_ (Kd.R_lower ho0 bz_); replace BK30001 := bb_ BK30001 hb; replace BK30002 := bb_ BK30002 hb; replace HB := bA_ hb; (try clear hb); (try clear hk); (try clear ho0); have hcz11_0 := cz0_ BK30002; have hcz11_1 := cz1_ BK30002; have hfz11_0 := fz_ BK30002 0; have hfz11_1 := fz_ BK30002 1; obtain ⟨Ao12, co12, eo12⟩ := Kd.R_slice HO30010.out; subst eo12));refine bodyPost_ret (results_cell_row rfl _ _ gb30002 24 #[.int .i64 t30007, .slice Ao12 t30008.length co12] (0, 0) _ rfl (ch_ BK30002) Try.underlying24 rfl (by kernel_rfl)) rfl ?_;exact ⟨_, er_, by (with_reducible repeat (first | apply Kd.R_alloc | apply Kd.R_drewN | apply Kd.R_drew)); exact Kd.R_mono (Kd.R_far (p := ⟨gb30002, 1, none⟩) (Kd.R_far (p := ⟨gb30002, 0, none⟩) (Kd.R_types HO30010.out BK30002.out (by decide)) (fun _ hk => hk.2) (.int .i64 t30007)) (fun _ hk => hk.2) (.slice Ao12 t30008.length co12)) (fun _ hk => trivial), be_⟩

end Go.Proofs.Ytdbjoopkliafeaa.P

end
section
namespace Go.Proofs.Ytdbjoopkliafeaa.P
open Go Go.RowKit Go.Proofs.YtdbjoopkliafeaaW.PrintWords Go.Proofs.YtdbjoopkliafeaaW.PrintLast Go.Proofs.YtdbjoopkliafeaaW.PrintMore
attribute [local go_sem] max2_int min2_int max_two min_two max_three min_three max_four min_four max_five min_eight max_eight   -- for this text's walks alone
set_option linter.unusedVariables false
set_option linter.unusedSimpArgs false

mutual
def sawmilllaw14_ShapeAlong.j0 : Nat → List (S36) → Int → Bool → Option (Bool)
 | 0, _, _, _ => none
 | k + 1, x0, x1, x23 => if x23 = true then ((sawmilllaw14_awake.f k).bind fun t10003 => (some t10003)) else ((solid_Length.f k x0).bind fun t10004 => (if x1 ≤ 0 then (sawmilllaw14_ShapeAlong.j1 k x0 x1 t10004 true) else (sawmilllaw14_ShapeAlong.j1 k x0 x1 t10004 (decide (x1 ≥ t10004)))))
def sawmilllaw14_ShapeAlong.j1 : Nat → List (S36) → Int → Int → Bool → Option (Bool)
 | 0, _, _, _, _ => none
 | k + 1, x0, x1, x5, x33 => if x33 = true then ((sawmilllaw14_awake.f k).bind fun t10005 => (some t10005)) else ((some (([] : List (S36)) : List (S36))).bind fun y10006 => ((solid_Cut.f k x0 0 x1).bind fun t10009 => (if y10006.length + t10009.length < 3518437208883 then ((some (y10006 ++ t10009 : List (S36))).bind fun y10012 => ((solid_Cut.f k x0 x1 x5).bind fun t10015 => (if y10012.length + t10015.length < 3518437208883 then ((some (y10012 ++ t10015 : List (S36))).bind fun y10018 => ((solid_Length.f k y10018).bind fun t10021 => (if t10021 = x5 then ((shape_Top.f k y10018).bind fun t10022 => ((shape_Top.f k x0).bind fun t10023 => (if t10022 = t10023 then ((shape_Taper.f k y10018).bind fun t10024 => ((shape_Taper.f k x0).bind fun t10025 => (sawmilllaw14_ShapeAlong.j2 k x0 (t10024 != t10025)))) else (sawmilllaw14_ShapeAlong.j2 k x0 true)))) else (sawmilllaw14_ShapeAlong.j2 k x0 true)))) else (none)))) else (none))))
def sawmilllaw14_ShapeAlong.j2 : Nat → List (S36) → Bool → Option (Bool)
 | 0, _, _ => none
 | k + 1, x0, x64 => if x64 = true then (some false) else (sawmilllaw14_ShapeAlong.l0 k x0 ([] : List (S36)) 0)
def sawmilllaw14_ShapeAlong.l0 : Nat → List (S36) → List (S36) → Int → Option (Bool)
 | 0, _, _, _ => none
 | k + 1, x0, x7, x8 => if x8 < (x0.length : Int) then (if 0 ≤ x8 then ((section_Mirror.f k ((rd_T36 x0 x8).f1.f0) ((rd_T36 x0 x8).f1.f1)).bind fun bt10028 => (if x7.length < 3518437208883 then (sawmilllaw14_ShapeAlong.l0 k x0 (x7 ++ [(⟨(rd_T36 x0 x8).f0, (⟨bt10028.1, bt10028.2⟩ : S24)⟩ : S36)]) (wrap64 (x8 + 1))) else (none))) else (none)) else ((shape_Sweep.f k x0).bind fun t10035 => ((shape_Sweep.f k x7).bind fun t10036 => ((shape_Top.f k x7).bind fun t10037 => ((shape_Top.f k x0).bind fun t10038 => (if t10037 = t10038 then ((shape_Taper.f k x7).bind fun t10039 => ((shape_Taper.f k x0).bind fun t10040 => (if t10039 = t10040 then (if (wrap64 (t10035 - t10036)) ≤ 1 then (if (wrap64 (t10036 - t10035)) ≤ 1 then ((sawmilllaw14_awake.f k).bind fun t10041 => (some t10041)) else (some false)) else (some false)) else (some false)))) else (some false))))))
end
def sawmilllaw14_ShapeAlong.f (k : Nat) (l0 : List (S36)) (a1 : Int) : Option (Bool) := (sawmilllaw14_small.f k l0).bind fun t10001 => (if t10001 = true then (if (l0.length : Int) ≥ 24 then (sawmilllaw14_ShapeAlong.j0 k l0 a1 true) else ((solid_Check.f k l0).bind fun t10002 => (sawmilllaw14_ShapeAlong.j0 k l0 a1 (t10002 != 0)))) else (sawmilllaw14_ShapeAlong.j0 k l0 a1 true))
theorem sawmilllaw14_ShapeAlong.mono_l : ∀ k, (∀ y0 y1 y2, LeO (sawmilllaw14_ShapeAlong.j0 k y0 y1 y2) (sawmilllaw14_ShapeAlong.j0 (k + 1) y0 y1 y2)) ∧ (∀ y0 y1 y2 y3, LeO (sawmilllaw14_ShapeAlong.j1 k y0 y1 y2 y3) (sawmilllaw14_ShapeAlong.j1 (k + 1) y0 y1 y2 y3)) ∧ (∀ y0 y1, LeO (sawmilllaw14_ShapeAlong.j2 k y0 y1) (sawmilllaw14_ShapeAlong.j2 (k + 1) y0 y1)) ∧ (∀ y0 y1 y2, LeO (sawmilllaw14_ShapeAlong.l0 k y0 y1 y2) (sawmilllaw14_ShapeAlong.l0 (k + 1) y0 y1 y2))
 | 0 => ⟨fun _ _ _ r h => by simp [sawmilllaw14_ShapeAlong.j0] at h, fun _ _ _ _ r h => by simp [sawmilllaw14_ShapeAlong.j1] at h, fun _ _ r h => by simp [sawmilllaw14_ShapeAlong.j2] at h, fun _ _ _ r h => by simp [sawmilllaw14_ShapeAlong.l0] at h⟩
 | k + 1 => by
  obtain ⟨ih0, ih1, ih2, ih3⟩ := sawmilllaw14_ShapeAlong.mono_l k;refine ⟨?_, ?_, ?_, ?_⟩
  ·intro y0 y1 y2;unfold sawmilllaw14_ShapeAlong.j0
   repeat' first
   | (with_reducible exact ih0 _ _ _)
   | (with_reducible exact ih1 _ _ _ _)
   | (with_reducible exact ih2 _ _)
   | (with_reducible exact ih3 _ _ _)
   | (with_reducible exact sawmilllaw14_awake.mono _)
   | (with_reducible exact sawmilllaw14_small.mono _ _)
   | (with_reducible exact section_Mirror.mono _ _ _)
   | (with_reducible exact shape_Sweep.mono _ _)
   | (with_reducible exact shape_Taper.mono _ _)
   | (with_reducible exact shape_Top.mono _ _)
   | (with_reducible exact solid_Check.mono _ _)
   | (with_reducible exact solid_Cut.mono _ _ _ _)
   | (with_reducible exact solid_Length.mono _ _)
   | (with_reducible exact LeO.refl _)
   | (with_reducible exact LeO.none _)
   | (with_reducible refine LeO.ite ?_ ?_)
   | (with_reducible refine LeO.bind ?_ (fun _ => ?_))
   | exact ih0 _ _ _
   | exact ih1 _ _ _ _
   | exact ih2 _ _
   | exact ih3 _ _ _
   | exact sawmilllaw14_awake.mono _
   | exact sawmilllaw14_small.mono _ _
   | exact section_Mirror.mono _ _ _
   | exact shape_Sweep.mono _ _
   | exact shape_Taper.mono _ _
   | exact shape_Top.mono _ _
   | exact solid_Check.mono _ _
   | exact solid_Cut.mono _ _ _ _
   | exact solid_Length.mono _ _
   | exact LeO.none _
   | refine LeO.ite ?_ ?_
   | refine LeO.bind ?_ (fun _ => ?_)
  ·intro y0 y1 y2 y3;unfold sawmilllaw14_ShapeAlong.j1
   repeat' first
   | (with_reducible exact ih0 _ _ _)
   | (with_reducible exact ih1 _ _ _ _)
   | (with_reducible exact ih2 _ _)
   | (with_reducible exact ih3 _ _ _)
   | (with_reducible exact sawmilllaw14_awake.mono _)
   | (with_reducible exact sawmilllaw14_small.mono _ _)
   | (with_reducible exact section_Mirror.mono _ _ _)
   | (with_reducible exact shape_Sweep.mono _ _)
   | (with_reducible exact shape_Taper.mono _ _)
   | (with_reducible exact shape_Top.mono _ _)
   | (with_reducible exact solid_Check.mono _ _)
   | (with_reducible exact solid_Cut.mono _ _ _ _)
   | (with_reducible exact solid_Length.mono _ _)
   | (with_reducible exact LeO.refl _)
   | (with_reducible exact LeO.none _)
   | (with_reducible refine LeO.ite ?_ ?_)
   | (with_reducible refine LeO.bind ?_ (fun _ => ?_))
   | exact ih0 _ _ _
   | exact ih1 _ _ _ _
   | exact ih2 _ _
   | exact ih3 _ _ _
   | exact sawmilllaw14_awake.mono _
   | exact sawmilllaw14_small.mono _ _
   | exact section_Mirror.mono _ _ _
   | exact shape_Sweep.mono _ _
   | exact shape_Taper.mono _ _
   | exact shape_Top.mono _ _
   | exact solid_Check.mono _ _
   | exact solid_Cut.mono _ _ _ _
   | exact solid_Length.mono _ _
   | exact LeO.none _
   | refine LeO.ite ?_ ?_
   | refine LeO.bind ?_ (fun _ => ?_)
  ·intro y0 y1;unfold sawmilllaw14_ShapeAlong.j2
   repeat' first
   | (with_reducible exact ih0 _ _ _)
   | (with_reducible exact ih1 _ _ _ _)
   | (with_reducible exact ih2 _ _)
   | (with_reducible exact ih3 _ _ _)
   | (with_reducible exact sawmilllaw14_awake.mono _)
   | (with_reducible exact sawmilllaw14_small.mono _ _)
   | (with_reducible exact section_Mirror.mono _ _ _)
   | (with_reducible exact shape_Sweep.mono _ _)
   | (with_reducible exact shape_Taper.mono _ _)
   | (with_reducible exact shape_Top.mono _ _)
   | (with_reducible exact solid_Check.mono _ _)
   | (with_reducible exact solid_Cut.mono _ _ _ _)
   | (with_reducible exact solid_Length.mono _ _)
   | (with_reducible exact LeO.refl _)
   | (with_reducible exact LeO.none _)
   | (with_reducible refine LeO.ite ?_ ?_)
   | (with_reducible refine LeO.bind ?_ (fun _ => ?_))
   | exact ih0 _ _ _
   | exact ih1 _ _ _ _
   | exact ih2 _ _
   | exact ih3 _ _ _
   | exact sawmilllaw14_awake.mono _
   | exact sawmilllaw14_small.mono _ _
   | exact section_Mirror.mono _ _ _
   | exact shape_Sweep.mono _ _
   | exact shape_Taper.mono _ _
   | exact shape_Top.mono _ _
   | exact solid_Check.mono _ _
   | exact solid_Cut.mono _ _ _ _
   | exact solid_Length.mono _ _
   | exact LeO.none _
   | refine LeO.ite ?_ ?_
   | refine LeO.bind ?_ (fun _ => ?_)
  ·intro y0 y1 y2;unfold sawmilllaw14_ShapeAlong.l0
   repeat' first
   | (with_reducible exact ih0 _ _ _)
   | (with_reducible exact ih1 _ _ _ _)
   | (with_reducible exact ih2 _ _)
   | (with_reducible exact ih3 _ _ _)
   | (with_reducible exact sawmilllaw14_awake.mono _)
   | (with_reducible exact sawmilllaw14_small.mono _ _)
   | (with_reducible exact section_Mirror.mono _ _ _)
   | (with_reducible exact shape_Sweep.mono _ _)
   | (with_reducible exact shape_Taper.mono _ _)
   | (with_reducible exact shape_Top.mono _ _)
   | (with_reducible exact solid_Check.mono _ _)
   | (with_reducible exact solid_Cut.mono _ _ _ _)
   | (with_reducible exact solid_Length.mono _ _)
   | (with_reducible exact LeO.refl _)
   | (with_reducible exact LeO.none _)
   | (with_reducible refine LeO.ite ?_ ?_)
   | (with_reducible refine LeO.bind ?_ (fun _ => ?_))
   | exact ih0 _ _ _
   | exact ih1 _ _ _ _
   | exact ih2 _ _
   | exact ih3 _ _ _
   | exact sawmilllaw14_awake.mono _
   | exact sawmilllaw14_small.mono _ _
   | exact section_Mirror.mono _ _ _
   | exact shape_Sweep.mono _ _
   | exact shape_Taper.mono _ _
   | exact shape_Top.mono _ _
   | exact solid_Check.mono _ _
   | exact solid_Cut.mono _ _ _ _
   | exact solid_Length.mono _ _
   | exact LeO.none _
   | refine LeO.ite ?_ ?_
   | refine LeO.bind ?_ (fun _ => ?_)
theorem sawmilllaw14_ShapeAlong.mono : ∀ a0 a1 k, LeO (sawmilllaw14_ShapeAlong.f k a0 a1) (sawmilllaw14_ShapeAlong.f (k + 1) a0 a1) := by
 intro a0 a1 k;obtain ⟨ih0, ih1, ih2, ih3⟩ := sawmilllaw14_ShapeAlong.mono_l k;unfold sawmilllaw14_ShapeAlong.f
 repeat' first
   | (with_reducible exact ih0 _ _ _)
   | (with_reducible exact ih1 _ _ _ _)
   | (with_reducible exact ih2 _ _)
   | (with_reducible exact ih3 _ _ _)
   | (with_reducible exact sawmilllaw14_awake.mono _)
   | (with_reducible exact sawmilllaw14_small.mono _ _)
   | (with_reducible exact section_Mirror.mono _ _ _)
   | (with_reducible exact shape_Sweep.mono _ _)
   | (with_reducible exact shape_Taper.mono _ _)
   | (with_reducible exact shape_Top.mono _ _)
   | (with_reducible exact solid_Check.mono _ _)
   | (with_reducible exact solid_Cut.mono _ _ _ _)
   | (with_reducible exact solid_Length.mono _ _)
   | (with_reducible exact LeO.refl _)
   | (with_reducible exact LeO.none _)
   | (with_reducible refine LeO.ite ?_ ?_)
   | (with_reducible refine LeO.bind ?_ (fun _ => ?_))
   | exact ih0 _ _ _
   | exact ih1 _ _ _ _
   | exact ih2 _ _
   | exact ih3 _ _ _
   | exact sawmilllaw14_awake.mono _
   | exact sawmilllaw14_small.mono _ _
   | exact section_Mirror.mono _ _ _
   | exact shape_Sweep.mono _ _
   | exact shape_Taper.mono _ _
   | exact shape_Top.mono _ _
   | exact solid_Check.mono _ _
   | exact solid_Cut.mono _ _ _ _
   | exact solid_Length.mono _ _
   | exact LeO.none _
   | refine LeO.ite ?_ ?_
   | refine LeO.bind ?_ (fun _ => ?_)
def sawmilllaw14_ShapeAlong.T13 : Bool × List (List Nat × List Nat) := (true, [([], []), ([], []), ([], []), ([1, 2], [1, 2]), ([3], [3]), ([4], [4]), ([], []), ([], []), ([6, 7], [6, 7]), ([8], [8]), ([9], [9]), ([10], [10]), ([5, 11], [5, 11]), ([12], [12]), ([0, 13, 11], [0, 13]), ([14, 14, 0, 1, 2, 3, 4, 5, 6, 7, 8, 9, 10, 11, 12, 13, 14], [0, 14])])
def sawmilllaw14_ShapeAlong.B13 : List Nat := [0, 0, 0, 6, 14, 30, 0, 0, 192, 448, 960, 1984, 4094, 8190, 16383, 32767]
theorem sawmilllaw14_ShapeAlong.tab13 : rtab .any (opsOf Try.f10 13) = sawmilllaw14_ShapeAlong.T13 := by kernel_rfl
theorem sawmilllaw14_ShapeAlong.bits13 : waitsOk sawmilllaw14_ShapeAlong.T13.2 sawmilllaw14_ShapeAlong.B13 = true := by kernel_rfl
set_option maxHeartbeats 8000000 in
set_option maxRecDepth 100000 in
theorem sawmilllaw14_ShapeAlong.calls (k : Nat) (A0 : Option Addr) (c0 : Nat) (l0 : List (S36)) (a1 : Int) (r : Bool) (w : World) (hr0 : Kd.C k36 w A0 l0.length l0) (hc0 : l0.length ≤ c0) (h : sawmilllaw14_ShapeAlong.f k l0 a1 = some r) :
  Calls Try.prog 10 #[.slice A0 l0.length c0, .int .i64 a1] w fun e w' => e = .returned (.bool r) ∧ Below w.heap.size w w' := by
 have hu49 := Try.underlying49;have hu24 := Try.underlying24;have hu36 := Try.underlying36;have HR0 := Aside0.mk hr0;have HC0 := Aside0.mk hc0;clear hr0 hc0;have HB := A_ (Below.refl w.heap.size w);have H : ((sawmilllaw14_small.f k l0).bind fun t10001 => (if t10001 = true then (if (l0.length : Int) ≥ 24 then (sawmilllaw14_ShapeAlong.j0 k l0 a1 true) else ((solid_Check.f k l0).bind fun t10002 => (sawmilllaw14_ShapeAlong.j0 k l0 a1 (t10002 != 0)))) else (sawmilllaw14_ShapeAlong.j0 k l0 a1 true))) = some r := h;clear h;have HC3 := Aside0.mk H;clear H;go_enter Try.func10, Try.ntmps10
 go_upto_region 1 with (fail)
 go_cut [23] (fun v23 wc => ∃ (kq : Nat) (x23_2 : Bool), v23 = .bool x23_2 ∧ Aside0 (sawmilllaw14_ShapeAlong.j0 kq l0 a1 x23_2 = some r) ∧ Aside0 (kq ≤ k) ∧ Aside0 (Below w.heap.size w wc))
 case first =>
  have H := HC3.out;clear HC3;replace H := Option.bind_eq_some_iff.mp H;obtain ⟨t10001, A40, H⟩ := H;replace H : (if t10001 = true then (if (l0.length : Int) ≥ 24 then (sawmilllaw14_ShapeAlong.j0 k l0 a1 true) else ((solid_Check.f k l0).bind fun t10002 => (sawmilllaw14_ShapeAlong.j0 k l0 a1 (t10002 != 0)))) else (sawmilllaw14_ShapeAlong.j0 k l0 a1 true)) = some r := H;have A4 := Aside0.mk A40;clear A40
  by_cases c5 : t10001 = true
  ·subst c5;(have H1 : (if (l0.length : Int) ≥ 24 then (sawmilllaw14_ShapeAlong.j0 k l0 a1 true) else ((solid_Check.f k l0).bind fun t10002 => (sawmilllaw14_ShapeAlong.j0 k l0 a1 (t10002 != 0)))) = some r := by rw [if_pos rfl] at H; exact H);clear H;have H := H1;clear H1
   by_cases c6 : (l0.length : Int) ≥ 24
   ·rw [if_pos c6] at H;have c6b0 : decide (24 ≤ (l0.length : Int)) = true := decide_eq_true c6;have c6b1 : decide (24 ≤ l0.length) = true := decide_eq_true (by omega);clear c6;(first | rw [c6b0] | (simp only [i64_w, i32_w]; rw [c6b0]) | skip);have H' := Aside0.mk H;clear H;go_wp2_with (first | ((with_reducible refine gate_callee (f := 18) rfl ?_); refine goesL_ (some 12) rfl rfl Try.func18 (by kernel_rfl) rfl #[.slice A0 l0.length c0] rfl la_ ?_; (with_reducible refine (sawmilllaw14_small.calls k _ _ l0 true _ ?side1 ?side2 A4.out).mono ?_); (case side1 => exact csC_ ((Kd.C_below HR0.out HB.out))); (case side2 => exact HC0.out); rintro e w' ⟨rfl, ⟨nd, rfl⟩⟩; refine ⟨_, rfl, ?_⟩))
    go_meet
    case rel => exact ⟨_, (true), rs_, H', ⟨by first | omega | exact Nat.le_refl _⟩, ⟨be_⟩⟩
   ·rw [if_neg c6] at H;have c6b0 : decide (24 ≤ (l0.length : Int)) = false := decide_eq_false c6;have c6b1 : decide (24 ≤ l0.length) = false := decide_eq_false (by omega);clear c6;(first | rw [c6b0] | (simp only [i64_w, i32_w]; rw [c6b0]) | skip);replace H := Option.bind_eq_some_iff.mp H;obtain ⟨t10002, A70, H⟩ := H;replace H : (sawmilllaw14_ShapeAlong.j0 k l0 a1 (t10002 != 0)) = some r := H;have A7 := Aside0.mk A70;clear A70;have H' := Aside0.mk H;clear H;go_wp2_with (first | ((with_reducible refine gate_callee (f := 18) rfl ?_); refine goesL_ (some 12) rfl rfl Try.func18 (by kernel_rfl) rfl #[.slice A0 l0.length c0] rfl la_ ?_; (with_reducible refine (sawmilllaw14_small.calls k _ _ l0 true _ ?side1 ?side2 A4.out).mono ?_); (case side1 => exact csC_ ((Kd.C_below HR0.out HB.out))); (case side2 => exact HC0.out); rintro e w' ⟨rfl, ⟨nd, rfl⟩⟩; refine ⟨_, rfl, ?_⟩) | (go_at_call 25; (with_reducible refine (solid_Check.calls k _ _ l0 t10002 _ ?side1 ?side2 A7.out).mono ?_); (case side1 => exact csC_ ((Kd.C_below HR0.out be_))); (case side2 => exact HC0.out); rintro e w8 ⟨rfl, hb⟩; replace HB := bA_ hb; (try clear hb); (try clear hk)))
    go_meet
    case rel => exact ⟨_, ((t10002 != 0)), rs_, H', ⟨by first | omega | exact Nat.le_refl _⟩, ⟨be_⟩⟩
  ·replace c5 := Bool.eq_false_iff.mpr c5;subst c5;(have H1 : (sawmilllaw14_ShapeAlong.j0 k l0 a1 true) = some r := by rw [if_neg (show ¬ (false = true) by decide)] at H; exact H);clear H;have H := H1;clear H1;have H' := Aside0.mk H;clear H;go_wp2_with (first | ((with_reducible refine gate_callee (f := 18) rfl ?_); refine goesL_ (some 12) rfl rfl Try.func18 (by kernel_rfl) rfl #[.slice A0 l0.length c0] rfl la_ ?_; (with_reducible refine (sawmilllaw14_small.calls k _ _ l0 false _ ?side1 ?side2 A4.out).mono ?_); (case side1 => exact csC_ ((Kd.C_below HR0.out HB.out))); (case side2 => exact HC0.out); rintro e w' ⟨rfl, ⟨nd, rfl⟩⟩; refine ⟨_, rfl, ?_⟩))
   go_meet
   case rel => exact ⟨_, (true), rs_, H', ⟨by first | omega | exact Nat.le_refl _⟩, ⟨be_⟩⟩
 case rest =>
  clear HC3;(try clear c1);(try clear p2);(try clear c5);(try clear c6);(try clear c6b0);(try clear c6b1);obtain ⟨kq, x23_2, rfl, HA, HJ2, HB⟩ := hcut;cases kq with
  | zero => exact absurd HA.out (by simp [sawmilllaw14_ShapeAlong.j0])
  | succ kj2 =>
   have H := HA.out;clear HA;simp only [sawmilllaw14_ShapeAlong.j0] at H
   by_cases c9 : x23_2 = true
   ·subst c9;(have H1 : ((sawmilllaw14_awake.f kj2).bind fun t10003 => (some t10003)) = some r := by rw [if_pos rfl] at H; exact H);clear H;have H := H1;clear H1;replace H := Option.bind_eq_some_iff.mp H;obtain ⟨t10003, A100, H⟩ := H;replace H : (some t10003) = some r := H;have A10 := Aside0.mk A100;clear A100;obtain rfl := Option.some.inj H;go_wp2_with (first | ((with_reducible refine gate_callee (f := 11) rfl ?_); refine goesL_ (some 24) rfl rfl Try.func11 (by kernel_rfl) rfl #[] rfl la_ ?_; (with_reducible refine (sawmilllaw14_awake.calls kj2  t10003 _ A10.out).mono ?_); rintro e w11 ⟨rfl, hb⟩; refine ⟨_, rfl, ?_⟩; replace HB := bA_ hb; (try clear hb); (try clear hk)));go_ret;exact ⟨er_, be_⟩
   ·replace c9 := Bool.eq_false_iff.mpr c9;subst c9;(have H1 : ((solid_Length.f kj2 l0).bind fun t10004 => (if a1 ≤ 0 then (sawmilllaw14_ShapeAlong.j1 kj2 l0 a1 t10004 true) else (sawmilllaw14_ShapeAlong.j1 kj2 l0 a1 t10004 (decide (a1 ≥ t10004))))) = some r := by rw [if_neg (show ¬ (false = true) by decide)] at H; exact H);clear H;have H := H1;clear H1;replace H := Option.bind_eq_some_iff.mp H;obtain ⟨t10004, A120, H⟩ := H;replace H : (if a1 ≤ 0 then (sawmilllaw14_ShapeAlong.j1 kj2 l0 a1 t10004 true) else (sawmilllaw14_ShapeAlong.j1 kj2 l0 a1 t10004 (decide (a1 ≥ t10004)))) = some r := H;have A12 := Aside0.mk A120;clear A120;have HC13 := Aside0.mk H;clear H
    go_upto_region 4 with (first | ((with_reducible refine gate_callee (f := 33) rfl ?_); refine goesL_ (some 26) rfl rfl Try.func33 (by kernel_rfl) rfl #[.slice A0 l0.length c0] rfl la_ ?_; (with_reducible refine (solid_Length.calls kj2 _ _ l0 t10004 _ ?side1 ?side2 A12.out).mono ?_); (case side1 => exact csC_ ((Kd.C_below HR0.out HB.out))); (case side2 => exact HC0.out); rintro e w14 ⟨rfl, hb⟩; refine ⟨_, rfl, ?_⟩; replace HB := bA_ hb; (try clear hb); (try clear hk)))
    (try simp only [Act.put, List.setIfInBounds_toArray, List.set_cons_zero, List.set_cons_succ])
    go_cut [33] (fun v33 wc => ∃ (kq : Nat) (x33_12 : Bool), v33 = .bool x33_12 ∧ Aside0 (sawmilllaw14_ShapeAlong.j1 kq l0 a1 t10004 x33_12 = some r) ∧ Aside0 (kq ≤ kj2) ∧ Aside0 (Below w.heap.size w wc))
    case first =>
     have H := HC13.out;clear HC13
     by_cases c15 : a1 ≤ 0
     ·rw [if_pos c15] at H;have c15b0 : decide (a1 ≤ 0) = true := decide_eq_true c15;clear c15;(first | rw [c15b0] | (simp only [i64_w, i32_w]; rw [c15b0]) | skip);have H' := Aside0.mk H;clear H;go_wp2
      go_meet
      case rel => exact ⟨_, (true), rs_, H', ⟨by have := HJ2.out; first | omega | exact Nat.le_refl _⟩, ⟨be_⟩⟩
     ·rw [if_neg c15] at H;have c15b0 : decide (a1 ≤ 0) = false := decide_eq_false c15;clear c15;(first | rw [c15b0] | (simp only [i64_w, i32_w]; rw [c15b0]) | skip);have H' := Aside0.mk H;clear H;go_wp2
      go_meet
      case rel => exact ⟨_, (decide (a1 ≥ t10004)), rs_, H', ⟨by have := HJ2.out; first | omega | exact Nat.le_refl _⟩, ⟨be_⟩⟩
    case rest =>
     clear HC13;(try clear c1);(try clear p2);(try clear c3);(try clear c5);(try clear c6);(try clear c6b0);(try clear c6b1);(try clear c9);(try clear c10);(try clear c11);(try clear c15);(try clear c15b0);(try clear p2);obtain ⟨kq, x33_12, rfl, HA, HJ12, HB⟩ := hcut;cases kq with
     | zero => exact absurd HA.out (by simp [sawmilllaw14_ShapeAlong.j1])
     | succ kj12 =>
      have H := HA.out;clear HA;simp only [sawmilllaw14_ShapeAlong.j1] at H
      by_cases c16 : x33_12 = true
      ·subst c16;(have H1 : ((sawmilllaw14_awake.f kj12).bind fun t10005 => (some t10005)) = some r := by rw [if_pos rfl] at H; exact H);clear H;have H := H1;clear H1;replace H := Option.bind_eq_some_iff.mp H;obtain ⟨t10005, A170, H⟩ := H;replace H : (some t10005) = some r := H;have A17 := Aside0.mk A170;clear A170;obtain rfl := Option.some.inj H;go_wp2_with (first | ((with_reducible refine gate_callee (f := 11) rfl ?_); refine goesL_ (some 34) rfl rfl Try.func11 (by kernel_rfl) rfl #[] rfl la_ ?_; (with_reducible refine (sawmilllaw14_awake.calls kj12  t10005 _ A17.out).mono ?_); rintro e w18 ⟨rfl, hb⟩; refine ⟨_, rfl, ?_⟩; replace HB := bA_ hb; (try clear hb); (try clear hk)));go_ret;exact ⟨er_, be_⟩
      ·replace c16 := Bool.eq_false_iff.mpr c16;subst c16;(have H1 : ((some (([] : List (S36)) : List (S36))).bind fun y10006 => ((solid_Cut.f kj12 l0 0 a1).bind fun t10009 => (if y10006.length + t10009.length < 3518437208883 then ((some (y10006 ++ t10009 : List (S36))).bind fun y10012 => ((solid_Cut.f kj12 l0 a1 t10004).bind fun t10015 => (if y10012.length + t10015.length < 3518437208883 then ((some (y10012 ++ t10015 : List (S36))).bind fun y10018 => ((solid_Length.f kj12 y10018).bind fun t10021 => (if t10021 = t10004 then ((shape_Top.f kj12 y10018).bind fun t10022 => ((shape_Top.f kj12 l0).bind fun t10023 => (if t10022 = t10023 then ((shape_Taper.f kj12 y10018).bind fun t10024 => ((shape_Taper.f kj12 l0).bind fun t10025 => (sawmilllaw14_ShapeAlong.j2 kj12 l0 (t10024 != t10025)))) else (sawmilllaw14_ShapeAlong.j2 kj12 l0 true)))) else (sawmilllaw14_ShapeAlong.j2 kj12 l0 true)))) else (none)))) else (none)))) = some r := by rw [if_neg (show ¬ (false = true) by decide)] at H; exact H);clear H;have H := H1;clear H1;obtain ⟨y10006, hy10006⟩ : ∃ y_ : List (S36), y_ = (([] : List (S36))) := ⟨_, rfl⟩;(replace H : ((solid_Cut.f kj12 l0 0 a1).bind fun t10009 => (if y10006.length + t10009.length < 3518437208883 then ((some (y10006 ++ t10009 : List (S36))).bind fun y10012 => ((solid_Cut.f kj12 l0 a1 t10004).bind fun t10015 => (if y10012.length + t10015.length < 3518437208883 then ((some (y10012 ++ t10015 : List (S36))).bind fun y10018 => ((solid_Length.f kj12 y10018).bind fun t10021 => (if t10021 = t10004 then ((shape_Top.f kj12 y10018).bind fun t10022 => ((shape_Top.f kj12 l0).bind fun t10023 => (if t10022 = t10023 then ((shape_Taper.f kj12 y10018).bind fun t10024 => ((shape_Taper.f kj12 l0).bind fun t10025 => (sawmilllaw14_ShapeAlong.j2 kj12 l0 (t10024 != t10025)))) else (sawmilllaw14_ShapeAlong.j2 kj12 l0 true)))) else (sawmilllaw14_ShapeAlong.j2 kj12 l0 true)))) else (none)))) else (none))) = some r := by first | (rw [hy10006]; with_reducible exact H) | (have H2_ := (Option.bind_some _ _).symm.trans H; rw [hy10006]; with_reducible exact H2_) | (have H2_ := (Option.bind_some _ _).symm.trans H; with_reducible exact H2_) | with_reducible exact H | (rw [hy10006]; exact H) | exact H);have Ny10006 := Aside0.mk hy10006;clear hy10006;replace H := Option.bind_eq_some_iff.mp H;obtain ⟨t10009, A190, H⟩ := H;replace H : (if y10006.length + t10009.length < 3518437208883 then ((some (y10006 ++ t10009 : List (S36))).bind fun y10012 => ((solid_Cut.f kj12 l0 a1 t10004).bind fun t10015 => (if y10012.length + t10015.length < 3518437208883 then ((some (y10012 ++ t10015 : List (S36))).bind fun y10018 => ((solid_Length.f kj12 y10018).bind fun t10021 => (if t10021 = t10004 then ((shape_Top.f kj12 y10018).bind fun t10022 => ((shape_Top.f kj12 l0).bind fun t10023 => (if t10022 = t10023 then ((shape_Taper.f kj12 y10018).bind fun t10024 => ((shape_Taper.f kj12 l0).bind fun t10025 => (sawmilllaw14_ShapeAlong.j2 kj12 l0 (t10024 != t10025)))) else (sawmilllaw14_ShapeAlong.j2 kj12 l0 true)))) else (sawmilllaw14_ShapeAlong.j2 kj12 l0 true)))) else (none)))) else (none)) = some r := H;have A19 := Aside0.mk A190;clear A190
       by_cases c20 : y10006.length + t10009.length < 3518437208883
       ·rw [if_pos c20] at H;have LMc20 := Aside0.mk c20;clear c20;obtain ⟨y10012, hy10012⟩ : ∃ y_ : List (S36), y_ = (y10006 ++ t10009) := ⟨_, rfl⟩;(replace H : ((solid_Cut.f kj12 l0 a1 t10004).bind fun t10015 => (if y10012.length + t10015.length < 3518437208883 then ((some (y10012 ++ t10015 : List (S36))).bind fun y10018 => ((solid_Length.f kj12 y10018).bind fun t10021 => (if t10021 = t10004 then ((shape_Top.f kj12 y10018).bind fun t10022 => ((shape_Top.f kj12 l0).bind fun t10023 => (if t10022 = t10023 then ((shape_Taper.f kj12 y10018).bind fun t10024 => ((shape_Taper.f kj12 l0).bind fun t10025 => (sawmilllaw14_ShapeAlong.j2 kj12 l0 (t10024 != t10025)))) else (sawmilllaw14_ShapeAlong.j2 kj12 l0 true)))) else (sawmilllaw14_ShapeAlong.j2 kj12 l0 true)))) else (none))) = some r := by first | (rw [hy10012]; with_reducible exact H) | (have H2_ := (Option.bind_some _ _).symm.trans H; rw [hy10012]; with_reducible exact H2_) | (have H2_ := (Option.bind_some _ _).symm.trans H; with_reducible exact H2_) | with_reducible exact H | (rw [hy10012]; exact H) | exact H);have Ny10012 := Aside0.mk hy10012;clear hy10012;replace H := Option.bind_eq_some_iff.mp H;obtain ⟨t10015, A210, H⟩ := H;replace H : (if y10012.length + t10015.length < 3518437208883 then ((some (y10012 ++ t10015 : List (S36))).bind fun y10018 => ((solid_Length.f kj12 y10018).bind fun t10021 => (if t10021 = t10004 then ((shape_Top.f kj12 y10018).bind fun t10022 => ((shape_Top.f kj12 l0).bind fun t10023 => (if t10022 = t10023 then ((shape_Taper.f kj12 y10018).bind fun t10024 => ((shape_Taper.f kj12 l0).bind fun t10025 => (sawmilllaw14_ShapeAlong.j2 kj12 l0 (t10024 != t10025)))) else (sawmilllaw14_ShapeAlong.j2 kj12 l0 true)))) else (sawmilllaw14_ShapeAlong.j2 kj12 l0 true)))) else (none)) = some r := H;have A21 := Aside0.mk A210;clear A210
        by_cases c22 : y10012.length + t10015.length < 3518437208883
        ·rw [if_pos c22] at H;have LMc22 := Aside0.mk c22;clear c22;obtain ⟨y10018, hy10018⟩ : ∃ y_ : List (S36), y_ = (y10012 ++ t10015) := ⟨_, rfl⟩;(replace H : ((solid_Length.f kj12 y10018).bind fun t10021 => (if t10021 = t10004 then ((shape_Top.f kj12 y10018).bind fun t10022 => ((shape_Top.f kj12 l0).bind fun t10023 => (if t10022 = t10023 then ((shape_Taper.f kj12 y10018).bind fun t10024 => ((shape_Taper.f kj12 l0).bind fun t10025 => (sawmilllaw14_ShapeAlong.j2 kj12 l0 (t10024 != t10025)))) else (sawmilllaw14_ShapeAlong.j2 kj12 l0 true)))) else (sawmilllaw14_ShapeAlong.j2 kj12 l0 true))) = some r := by first | (rw [hy10018]; with_reducible exact H) | (have H2_ := (Option.bind_some _ _).symm.trans H; rw [hy10018]; with_reducible exact H2_) | (have H2_ := (Option.bind_some _ _).symm.trans H; with_reducible exact H2_) | with_reducible exact H | (rw [hy10018]; exact H) | exact H);have Ny10018 := Aside0.mk hy10018;clear hy10018;have HC23 := Aside0.mk H;clear H
         go_upto_region 7 with (first | ((with_reducible refine gate_dst (N := 35) rfl ?_); (try (refine gate_guard (by rfl) ?_; dsimp only)); refine Kd.N_lit k36 _ 36 ?hg (N' := 35) ?hd (xs := ([] : List (S36))) (inner := []) (ok := (fun _ => True)) (okp := (fun _ => True)) ?hr ?hp (fun _ hk => hk) ((show ∀ k_, wc.heap.size ≤ k_ → (fun _ => True) k_ from fun k_ hk => trivial) _ (Nat.le_refl _)) (Below.refl _ _) (Nat.le_refl _) (by simp) ?_; (case hd => rfl); (case hg => rfl); (case hr => first | (go_simp; done) | (go_simp; rfl)); (case hp => exact (Reps.none _ _)); intro v10007 w24 ho25 hb hg_ hnew_; clear hg_ hnew_; (first | rw [← Ny10006.out] at ho25 | (simp only [Int.reduceToNat] at ho25; rw [← Ny10006.out] at ho25)); have HO10008 := A_ (Kd.N_lower ho25 bz_); replace HB := bA_ hb; clear hb ho25) | ((with_reducible refine gate_callee (f := 34) rfl ?_); refine goesL_ (some 39) rfl rfl Try.func34 (by kernel_rfl) rfl #[.slice A0 l0.length c0, .agg #[.int .i64 0, .int .i64 a1]] rfl la_ ?_; (with_reducible refine (solid_Cut.calls kj12 (fun k_ => k_ < w.heap.size) _ _ l0 0 a1 t10009 _ ?side1 A19.out).mono ?_); (case side1 => exact Kd.V_mk HC0.out (Kd.F_below (Kd.C_F k36_heap HR0.out) be_)); rintro e w26 ⟨v10010, rfl, ho0, hb⟩; refine ⟨_, rfl, ?_⟩; have HO10011 := A_ (Kd.N_lower (Kd.N_mono (ok' := fun k_ => some k_ ≠ (v10007 : Value).ownBlock) ho0 (fun k_ hk_ => Or.elim hk_ (fun hs_ => fun e_ => Nat.not_le.2 hs_ (Kd.N_base HO10008.out k_ e_.symm)) (fun hn_ => (Kd.fresh' (Kd.N_lt (fN_ HO10008.out)) k_ hn_)))) bz_); replace HO10008 := A_ (Kd.N_elder' (fN_ HO10008.out) (Kd.N_base ho0) hb); replace HB := bA_ hb; (try clear hb); (try clear hk); (try clear ho0); obtain ⟨Ao28, co28, eo28⟩ := Kd.N_slice HO10011.out; subst eo28) | ((with_reducible refine gate_builtin (b := .append) (xs := #[.tmp 35, .tmp 39]) rfl ?_); (try (refine gate_guard (by rfl) ?_; dsimp only)); at_builtin; refine Kd.N_append_rows k36 (w0 := w) w.heap.size rfl (.tmp 35) (.tmp 39) 31 36 (.agg #[(.int .i64 0), (.int .i64 0), (.slice none 0 0)]) 40 rfl Try.underlying31 info36 rfl (by decide) (by omega) v10007 y10006 t10009 _ _ _ (fun _ => True) (fun k_ => ((fun _ => True)) k_ ∧ some k_ ≠ (v10007 : Value).ownBlock) rfl rfl ?aO ?aR (fun _ hk => hk) ?aF ?aB ?aS ?aL ?_; (case aR => exact (by skip; exact Kd.N_F (Kd.N_mono (ok' := (fun k_ => ((fun _ => True)) k_ ∧ some k_ ≠ (v10007 : Value).ownBlock)) (HO10011.out) (fun k_ hk => ⟨trivial, hk⟩)))); (case aB => exact be_); (case aF => exact (fun _ _ => trivial)); (case aO => exact (by (with_reducible repeat (first | apply Kd.N_alloc | apply Kd.N_drewN | apply Kd.N_drew)); exact Kd.N_mono HO10008.out (fun _ hk => trivial))); (case aS => exact bz_); (case aL => have := LMc20.out; omega); intro v10013 w27 ho hb hg hat; rw [← Ny10012.out] at ho; have n0_ := A_ (Kd.N_afterv (ok := (fun _ => True)) (by (with_reducible repeat (first | apply Kd.N_alloc | apply Kd.N_drewN | apply Kd.N_drew)); exact Kd.N_mono HO10011.out (fun _ hk => ⟨trivial, hk⟩)) hg hat); have n1_ := A_ (hb); have n2_ := A_ (ho); clear HO10011 HB HO10008; have HO10011 := n0_; have HB := n1_; have HO10014 := n2_; clear n0_ n1_ n2_; clear ho hb hg hat) | ((with_reducible refine gate_callee (f := 34) rfl ?_); refine goesL_ (some 45) rfl rfl Try.func34 (by kernel_rfl) rfl #[.slice A0 l0.length c0, .agg #[.int .i64 a1, .int .i64 t10004]] rfl la_ ?_; (with_reducible refine (solid_Cut.calls kj12 (fun k_ => k_ < w.heap.size) _ _ l0 a1 t10004 t10015 _ ?side1 A21.out).mono ?_); (case side1 => exact Kd.V_mk HC0.out (Kd.F_below (Kd.C_F k36_heap HR0.out) be_)); rintro e w29 ⟨v10016, rfl, ho0, hb⟩; refine ⟨_, rfl, ?_⟩; have HO10017 := A_ (Kd.N_lower (Kd.N_mono (ok' := fun k_ => some k_ ≠ (.slice Ao28 t10009.length co28 : Value).ownBlock ∧ some k_ ≠ (v10013 : Value).ownBlock) ho0 (fun k_ hk_ => ⟨Or.elim hk_ (fun hs_ => fun e_ => Nat.not_le.2 hs_ (Kd.N_base HO10011.out k_ e_.symm)) (fun hn_ => (Kd.fresh' (Kd.N_lt (fN_ HO10011.out)) k_ hn_)), Or.elim hk_ (fun hs_ => fun e_ => Nat.not_le.2 hs_ (Kd.N_base HO10014.out k_ e_.symm)) (fun hn_ => (Kd.fresh' (Kd.N_lt (fN_ HO10014.out)) k_ hn_))⟩)) bz_); replace HO10011 := A_ (Kd.N_elder' (fN_ HO10011.out) (Kd.N_base ho0) hb); replace HO10014 := A_ (Kd.N_elder' (fN_ HO10014.out) (Kd.N_base ho0) hb); replace HB := bA_ hb; (try clear hb); (try clear hk); (try clear ho0); obtain ⟨Ao31, co31, eo31⟩ := Kd.N_slice HO10017.out; subst eo31) | ((with_reducible refine gate_builtin (b := .append) (xs := #[.tmp 40, .tmp 45]) rfl ?_); (try (refine gate_guard (by rfl) ?_; dsimp only)); at_builtin; refine Kd.N_append_rows k36 (w0 := w) w.heap.size rfl (.tmp 40) (.tmp 45) 31 36 (.agg #[(.int .i64 0), (.int .i64 0), (.slice none 0 0)]) 40 rfl Try.underlying31 info36 rfl (by decide) (by omega) v10013 y10012 t10015 _ _ _ (fun _ => True) (fun k_ => ((fun _ => True)) k_ ∧ some k_ ≠ (v10013 : Value).ownBlock) rfl rfl ?aO ?aR (fun _ hk => hk) ?aF ?aB ?aS ?aL ?_; (case aR => exact (by skip; exact Kd.N_F (Kd.N_mono (ok' := (fun k_ => ((fun _ => True)) k_ ∧ some k_ ≠ (v10013 : Value).ownBlock)) (HO10017.out) (fun k_ hk => ⟨trivial, hk.2⟩)))); (case aB => exact be_); (case aF => exact (fun _ _ => trivial)); (case aO => exact (by (with_reducible repeat (first | apply Kd.N_alloc | apply Kd.N_drewN | apply Kd.N_drew)); exact Kd.N_mono HO10014.out (fun _ hk => trivial))); (case aS => exact bz_); (case aL => have := LMc22.out; omega); intro v10019 w30 ho hb hg hat; rw [← Ny10018.out] at ho; have n0_ := A_ (Kd.N_afterv (ok := (fun k_ => some k_ ≠ (.slice Ao31 t10015.length co31 : Value).ownBlock)) (by (with_reducible repeat (first | apply Kd.N_alloc | apply Kd.N_drewN | apply Kd.N_drew)); exact Kd.N_mono HO10011.out (fun _ hk => ⟨hk.2, hk.1.2⟩)) hg hat); have n1_ := A_ (Kd.N_afterv (ok := (fun k_ => some k_ ≠ (.slice Ao28 t10009.length co28 : Value).ownBlock)) (fN_ HO10017.out) hg hat); have n2_ := A_ (hb); have n3_ := A_ (ho); clear HO10011 HO10017 HB HO10014; have HO10011 := n0_; have HO10017 := n1_; have HB := n2_; have HO10020 := n3_; clear n0_ n1_ n2_ n3_; clear ho hb hg hat))
         (try simp only [Act.put, List.setIfInBounds_toArray, List.set_cons_zero, List.set_cons_succ])
         go_cut [64] (fun v64 wc => ∃ (kq : Nat) (x64_22 : Bool), v64 = .bool x64_22 ∧ Aside0 (sawmilllaw14_ShapeAlong.j2 kq l0 x64_22 = some r) ∧ Aside0 (kq ≤ kj12) ∧ Aside0 (Below w.heap.size w wc))
         case first =>
          have H := HC23.out;clear HC23;replace H := Option.bind_eq_some_iff.mp H;obtain ⟨t10021, A320, H⟩ := H;replace H : (if t10021 = t10004 then ((shape_Top.f kj12 y10018).bind fun t10022 => ((shape_Top.f kj12 l0).bind fun t10023 => (if t10022 = t10023 then ((shape_Taper.f kj12 y10018).bind fun t10024 => ((shape_Taper.f kj12 l0).bind fun t10025 => (sawmilllaw14_ShapeAlong.j2 kj12 l0 (t10024 != t10025)))) else (sawmilllaw14_ShapeAlong.j2 kj12 l0 true)))) else (sawmilllaw14_ShapeAlong.j2 kj12 l0 true)) = some r := H;have A32 := Aside0.mk A320;clear A320
          by_cases c33 : t10021 = t10004
          ·rw [if_pos c33] at H;have c33b0 : (t10021 == t10004) = true := beq_iff_eq.mpr c33;have c33b1 : (t10021 != t10004) = false := bne_eq_false_iff_eq.mpr c33;clear c33;(first | rw [c33b0] | (simp only [i64_w, i32_w]; rw [c33b0]) | skip);replace H := Option.bind_eq_some_iff.mp H;obtain ⟨t10022, A340, H⟩ := H;replace H : ((shape_Top.f kj12 l0).bind fun t10023 => (if t10022 = t10023 then ((shape_Taper.f kj12 y10018).bind fun t10024 => ((shape_Taper.f kj12 l0).bind fun t10025 => (sawmilllaw14_ShapeAlong.j2 kj12 l0 (t10024 != t10025)))) else (sawmilllaw14_ShapeAlong.j2 kj12 l0 true))) = some r := H;have A34 := Aside0.mk A340;clear A340;replace H := Option.bind_eq_some_iff.mp H;obtain ⟨t10023, A350, H⟩ := H;replace H : (if t10022 = t10023 then ((shape_Taper.f kj12 y10018).bind fun t10024 => ((shape_Taper.f kj12 l0).bind fun t10025 => (sawmilllaw14_ShapeAlong.j2 kj12 l0 (t10024 != t10025)))) else (sawmilllaw14_ShapeAlong.j2 kj12 l0 true)) = some r := H;have A35 := Aside0.mk A350;clear A350
           by_cases c36 : t10022 = t10023
           ·rw [if_pos c36] at H;have c36b0 : (t10022 == t10023) = true := beq_iff_eq.mpr c36;have c36b1 : (t10022 != t10023) = false := bne_eq_false_iff_eq.mpr c36;clear c36;replace H := Option.bind_eq_some_iff.mp H;obtain ⟨t10024, A370, H⟩ := H;replace H : ((shape_Taper.f kj12 l0).bind fun t10025 => (sawmilllaw14_ShapeAlong.j2 kj12 l0 (t10024 != t10025))) = some r := H;have A37 := Aside0.mk A370;clear A370;replace H := Option.bind_eq_some_iff.mp H;obtain ⟨t10025, A380, H⟩ := H;replace H : (sawmilllaw14_ShapeAlong.j2 kj12 l0 (t10024 != t10025)) = some r := H;have A38 := Aside0.mk A380;clear A380;have H' := Aside0.mk H;clear H;obtain ⟨Ao39, co39, eo39⟩ := Kd.N_slice HO10020.out;subst eo39;go_wp2_with (first | ((with_reducible refine gate_callee (f := 33) rfl ?_); refine goesL_ (some 48) rfl rfl Try.func33 (by kernel_rfl) rfl #[.slice Ao39 y10018.length co39] rfl la_ ?_; (with_reducible refine (solid_Length.calls kj12 _ _ y10018 t10021 _ ?side1 ?side2 A32.out).mono ?_); (case side1 => exact csC_ ((Kd.N_reads' HO10020.out).2.2)); (case side2 => exact (Kd.N_reads' HO10020.out).2.1); rintro e w40 ⟨rfl, hb⟩; refine ⟨_, rfl, ?_⟩; replace HO10011 := kN_ HO10011 hb; replace HO10017 := kN_ HO10017 hb; replace HO10020 := kN_ HO10020 hb; replace HB := bA_ hb; (try clear hb); (try clear hk)) | (go_at_call 19; (with_reducible refine (shape_Top.calls kj12 _ _ y10018 t10022 _ ?side1 ?side2 A34.out).mono ?_); (case side1 => exact csC_ ((Kd.N_reads' HO10020.out).2.2)); (case side2 => exact (Kd.N_reads' HO10020.out).2.1); rintro e w41 ⟨rfl, hb⟩; replace HO10011 := kN_ HO10011 hb; replace HO10017 := kN_ HO10017 hb; replace HO10020 := kN_ HO10020 hb; replace HB := bA_ hb; (try clear hb); (try clear hk)) | (go_at_call 19; (with_reducible refine (shape_Top.calls kj12 _ _ l0 t10023 _ ?side1 ?side2 A35.out).mono ?_); (case side1 => exact csC_ ((Kd.C_below HR0.out HB.out))); (case side2 => exact HC0.out); rintro e w42 ⟨rfl, hb⟩; replace HO10011 := kN_ HO10011 hb; replace HO10017 := kN_ HO10017 hb; replace HO10020 := kN_ HO10020 hb; replace HB := bA_ hb; (try clear hb); (try clear hk)) | (go_at_call 21; (with_reducible refine (shape_Taper.calls kj12 _ _ y10018 t10024 _ ?side1 ?side2 A37.out).mono ?_); (case side1 => exact csC_ ((Kd.N_reads' HO10020.out).2.2)); (case side2 => exact (Kd.N_reads' HO10020.out).2.1); rintro e w43 ⟨rfl, hb⟩; replace HO10011 := kN_ HO10011 hb; replace HO10017 := kN_ HO10017 hb; replace HO10020 := kN_ HO10020 hb; replace HB := bA_ hb; (try clear hb); (try clear hk)) | (go_at_call 21; (with_reducible refine (shape_Taper.calls kj12 _ _ l0 t10025 _ ?side1 ?side2 A38.out).mono ?_); (case side1 => exact csC_ ((Kd.C_below HR0.out HB.out))); (case side2 => exact HC0.out); rintro e w44 ⟨rfl, hb⟩; replace HO10011 := kN_ HO10011 hb; replace HO10017 := kN_ HO10017 hb; replace HO10020 := kN_ HO10020 hb; replace HB := bA_ hb; (try clear hb); (try clear hk)))
            go_meet
            case rel => exact ⟨_, ((t10024 != t10025)), rs_, H', ⟨by have := HJ2.out; have := HJ12.out; first | omega | exact Nat.le_refl _⟩, ⟨be_⟩⟩
           ·rw [if_neg c36] at H;have c36b0 : (t10022 == t10023) = false := beq_eq_false_iff_ne.mpr c36;have c36b1 : (t10022 != t10023) = true := bne_iff_ne.mpr c36;have H' := Aside0.mk H;clear H;obtain ⟨Ao45, co45, eo45⟩ := Kd.N_slice HO10020.out;subst eo45;go_wp2_with (first | ((with_reducible refine gate_callee (f := 33) rfl ?_); refine goesL_ (some 48) rfl rfl Try.func33 (by kernel_rfl) rfl #[.slice Ao45 y10018.length co45] rfl la_ ?_; (with_reducible refine (solid_Length.calls kj12 _ _ y10018 t10021 _ ?side1 ?side2 A32.out).mono ?_); (case side1 => exact csC_ ((Kd.N_reads' HO10020.out).2.2)); (case side2 => exact (Kd.N_reads' HO10020.out).2.1); rintro e w46 ⟨rfl, hb⟩; refine ⟨_, rfl, ?_⟩; replace HO10011 := kN_ HO10011 hb; replace HO10017 := kN_ HO10017 hb; replace HO10020 := kN_ HO10020 hb; replace HB := bA_ hb; (try clear hb); (try clear hk)) | (go_at_call 19; (with_reducible refine (shape_Top.calls kj12 _ _ y10018 t10022 _ ?side1 ?side2 A34.out).mono ?_); (case side1 => exact csC_ ((Kd.N_reads' HO10020.out).2.2)); (case side2 => exact (Kd.N_reads' HO10020.out).2.1); rintro e w47 ⟨rfl, hb⟩; replace HO10011 := kN_ HO10011 hb; replace HO10017 := kN_ HO10017 hb; replace HO10020 := kN_ HO10020 hb; replace HB := bA_ hb; (try clear hb); (try clear hk)) | (go_at_call 19; (with_reducible refine (shape_Top.calls kj12 _ _ l0 t10023 _ ?side1 ?side2 A35.out).mono ?_); (case side1 => exact csC_ ((Kd.C_below HR0.out HB.out))); (case side2 => exact HC0.out); rintro e w48 ⟨rfl, hb⟩; replace HO10011 := kN_ HO10011 hb; replace HO10017 := kN_ HO10017 hb; replace HO10020 := kN_ HO10020 hb; replace HB := bA_ hb; (try clear hb); (try clear hk)))
            go_meet
            case rel => exact ⟨_, (true), rs_, H', ⟨by have := HJ2.out; have := HJ12.out; first | omega | exact Nat.le_refl _⟩, ⟨be_⟩⟩
          ·rw [if_neg c33] at H;have c33b0 : (t10021 == t10004) = false := beq_eq_false_iff_ne.mpr c33;have c33b1 : (t10021 != t10004) = true := bne_iff_ne.mpr c33;(first | rw [c33b0] | (simp only [i64_w, i32_w]; rw [c33b0]) | skip);have H' := Aside0.mk H;clear H;obtain ⟨Ao49, co49, eo49⟩ := Kd.N_slice HO10020.out;subst eo49;go_wp2_with (first | ((with_reducible refine gate_callee (f := 33) rfl ?_); refine goesL_ (some 48) rfl rfl Try.func33 (by kernel_rfl) rfl #[.slice Ao49 y10018.length co49] rfl la_ ?_; (with_reducible refine (solid_Length.calls kj12 _ _ y10018 t10021 _ ?side1 ?side2 A32.out).mono ?_); (case side1 => exact csC_ ((Kd.N_reads' HO10020.out).2.2)); (case side2 => exact (Kd.N_reads' HO10020.out).2.1); rintro e w50 ⟨rfl, hb⟩; refine ⟨_, rfl, ?_⟩; replace HO10011 := kN_ HO10011 hb; replace HO10017 := kN_ HO10017 hb; replace HO10020 := kN_ HO10020 hb; replace HB := bA_ hb; (try clear hb); (try clear hk)))
           go_meet
           case rel => exact ⟨_, (true), rs_, H', ⟨by have := HJ2.out; have := HJ12.out; first | omega | exact Nat.le_refl _⟩, ⟨be_⟩⟩
         case rest =>
          clear HC23;(try clear c1);(try clear c2);(try clear p2);(try clear c3);(try clear c5);(try clear c6);(try clear c6b0);(try clear c6b1);(try clear c9);(try clear c10);(try clear c11);(try clear c15);(try clear c15b0);(try clear c16);(try clear c18);(try clear c20);(try clear c22);(try clear c33);(try clear c33b0);(try clear c33b1);(try clear c34);(try clear c36);(try clear c36b0);(try clear c36b1);(try clear p2);obtain ⟨kq, x64_22, rfl, HA, HJ22, HB⟩ := hcut;cases kq with
          | zero => exact absurd HA.out (by simp [sawmilllaw14_ShapeAlong.j2])
          | succ kj22 =>
           have H := HA.out;clear HA;simp only [sawmilllaw14_ShapeAlong.j2] at H
           by_cases c51 : x64_22 = true
           ·subst c51;(have H1 : (some false) = some r := by rw [if_pos rfl] at H; exact H);clear H;have H := H1;clear H1;obtain rfl := Option.some.inj H;go_wp2;go_ret;exact ⟨er_, be_⟩
           ·replace c51 := Bool.eq_false_iff.mpr c51;subst c51;(have H1 : (sawmilllaw14_ShapeAlong.l0 kj22 l0 ([] : List (S36)) 0) = some r := by rw [if_neg (show ¬ (false = true) by decide)] at H; exact H);clear H;have H := H1;clear H1;have H' := Aside0.mk H;clear H;go_wp2
            go_loopg [7, 8] kj22 (fun kq v7 v8 w' => ∃ (x7_4 : List (S36)) (x8_4 : Int), v8 = .int .i64 x8_4 ∧ Aside0 (sawmilllaw14_ShapeAlong.l0 kq l0 x7_4 x8_4 = some r) ∧ Aside0 (kq ≤ kj22) ∧ Aside0 (Kd.N k36 36 w' w.heap.size (fun _ => True) v7 x7_4) ∧ Aside0 (Below w.heap.size w w'))
            case atStart => exact ⟨(([] : List (S36))), (0), rs_, H', ⟨Nat.le_refl _⟩, ⟨by first | exact Kd.S_nil _ _ _ _ _ | exact Kd.N_nil _ _ _ _ _ | exact Kd.V_nil _ _ _ _ _ | exact Kd.Q_nil _ _ _ _ _ | exact Kd.R_nil _ _ _ _ _⟩, ⟨be_⟩⟩
            case round =>
             clear H';(try clear c1);(try clear c2);(try clear p2);(try clear c3);(try clear c5);(try clear c6);(try clear c6b0);(try clear c6b1);(try clear c9);(try clear c10);(try clear c11);(try clear c15);(try clear c15b0);(try clear c16);(try clear c18);(try clear c20);(try clear c22);(try clear c33);(try clear c33b0);(try clear c33b1);(try clear c34);(try clear c36);(try clear c36b0);(try clear c36b1);(try clear c51);(try clear p2);obtain ⟨x7_4, x8_4, rfl, HA, HK4, HO_7, HB⟩ := hrel;cases gk with
             | zero => exact absurd HA.out (by simp [sawmilllaw14_ShapeAlong.l0])
             | succ k4 =>
              have H := HA.out;clear HA;simp only [sawmilllaw14_ShapeAlong.l0] at H
              by_cases c52 : x8_4 < (l0.length : Int)
              ·rw [if_pos c52] at H;have c52b0 : decide (x8_4 < (l0.length : Int)) = true := decide_eq_true c52;clear c52
               by_cases c53 : 0 ≤ x8_4
               ·rw [if_pos c53] at H;have c53b0 : decide (0 ≤ x8_4) = true := decide_eq_true c53;clear c53;replace H := Option.bind_eq_some_iff.mp H;obtain ⟨⟨t10028, t10029⟩, A540, H⟩ := H;replace H : (if x7_4.length < 3518437208883 then (sawmilllaw14_ShapeAlong.l0 k4 l0 (x7_4 ++ [(⟨(rd_T36 l0 x8_4).f0, (⟨t10028, t10029⟩ : S24)⟩ : S36)]) (wrap64 (x8_4 + 1))) else (none)) = some r := H;have A54 := Aside0.mk A540;clear A540
                by_cases c55 : x7_4.length < 3518437208883
                ·rw [if_pos c55] at H;have LMc55 := Aside0.mk c55;clear c55;obtain ⟨y10032, hy10032⟩ : ∃ y_ : List (S36), y_ = (x7_4 ++ [(⟨(rd_T36 l0 x8_4).f0, (⟨t10028, t10029⟩ : S24)⟩ : S36)]) := ⟨_, rfl⟩;(replace H : (sawmilllaw14_ShapeAlong.l0 k4 l0 y10032 (wrap64 (x8_4 + 1))) = some r := by first | (rw [hy10032]; with_reducible exact H) | (have H2_ := (Option.bind_some _ _).symm.trans H; rw [hy10032]; with_reducible exact H2_) | (have H2_ := (Option.bind_some _ _).symm.trans H; with_reducible exact H2_) | with_reducible exact H | (rw [hy10032]; exact H) | exact H);have Ny10032 := Aside0.mk hy10032;clear hy10032;have H' := Aside0.mk H;clear H;(try go_wp2);replace HO_7 := A_ (Kd.N_drew HO_7.out);replace HB := A_ (below_drew1 HB.out);have p10026 : 0 ≤ (x8_4 : Int) := as_;have q10026 : x8_4 < (l0.length : Int) := as_;obtain ⟨ad10026, A10026_2, c10026_2, e10026, hx10026_0, hx10026_1, hx10026_2, hl10026_2, hi10026_2⟩ := at_T36 HR0.out x8_4 p10026 q10026;have hw10026_2 := hx10026_2;have hw10026_1 := hx10026_1;have hw10026_0 := hx10026_0;cases e10026;replace hx10026_0 := bc_ HB hx10026_0;replace hx10026_1 := bc_ HB hx10026_1;replace hx10026_2 := bc_ HB hx10026_2;have HR10026_2 := Aside0.mk hi10026_2;have HC10026_2 := Aside0.mk hl10026_2;clear hi10026_2 hl10026_2;replace p10026 := eq_true p10026;replace q10026 := eq_true q10026;have p10027 : 0 ≤ (x8_4 : Int) := as_;have q10027 : x8_4 < (l0.length : Int) := as_;obtain ⟨ad10027, A10027_2, c10027_2, e10027, hx10027_0, hx10027_1, hx10027_2, hl10027_2, hi10027_2⟩ := at_T36 HR0.out x8_4 p10027 q10027;have hw10027_2 := hx10027_2;have hw10027_1 := hx10027_1;have hw10027_0 := hx10027_0;obtain rfl : ad10026 = ad10027 := (by injection e10027);replace hx10027_0 := bc_ HB hx10027_0;replace hx10027_1 := bc_ HB hx10027_1;replace hx10027_2 := bc_ HB hx10027_2;have HR10027_2 := Aside0.mk hi10027_2;have HC10027_2 := Aside0.mk hl10027_2;clear hi10027_2 hl10027_2;replace p10027 := eq_true p10027;replace q10027 := eq_true q10027;have ea_ := Option.some.inj (hx10026_2.symm.trans hx10027_2);injection ea_ with ea_ en_ ec_;subst ea_;subst ec_;clear en_;refine start_ (n := 16) (S := fun w' => w'.cell? (ad10026.add ((x8_4).toNat * 3)) = some (.int .i64 ((rd_T36 l0 x8_4).f0)) ∧ w'.cell? ⟨(ad10026.add ((x8_4).toNat * 3)).block, (ad10026.add ((x8_4).toNat * 3)).off + 1, none⟩ = some (.int .i64 ((rd_T36 l0 x8_4).f1.f0)) ∧ w'.cell? ⟨(ad10026.add ((x8_4).toNat * 3)).block, (ad10026.add ((x8_4).toNat * 3)).off + 2, none⟩ = some (.slice A10026_2 ((rd_T36 l0 x8_4).f1.f1).length c10026_2) ∧ w'.cell? (ad10026.add ((x8_4).toNat * 3)) = some (.int .i64 ((rd_T36 l0 x8_4).f0)) ∧ w'.cell? ⟨(ad10026.add ((x8_4).toNat * 3)).block, (ad10026.add ((x8_4).toNat * 3)).off + 1, none⟩ = some (.int .i64 ((rd_T36 l0 x8_4).f1.f0)) ∧ w'.cell? ⟨(ad10026.add ((x8_4).toNat * 3)).block, (ad10026.add ((x8_4).toNat * 3)).off + 2, none⟩ = some (.slice A10026_2 ((rd_T36 l0 x8_4).f1.f1).length c10026_2)) (ds := []) #[f_,f_,f_,f_,f_,f_,f_,f_,f_,f_,f_,f_,f_,f_,f_,f_] (by kernel_rfl) rfl rfl ⟨(bc_ HB hw10026_0), (bc_ HB hw10026_1), (bc_ HB hw10026_2), (bc_ HB hw10027_0), (bc_ HB hw10027_1), (bc_ HB hw10027_2)⟩ (fun hHeld => ?_); refine with_tabW sawmilllaw14_ShapeAlong.tab13 sawmilllaw14_ShapeAlong.bits13 (fun HT_ HW_ => ?_);generalize wr.drew = w56 at HO_7 HB HR10026_2 HR10027_2 hx10026_0 hx10026_1 hx10026_2 hx10027_0 hx10027_1 hx10027_2 hHeld ⊢;refine pu_ (i := 0) (N := some 71) #[t_,f_,f_,f_,f_,f_,f_,f_,f_,f_,f_,f_,f_,f_,f_,f_] ?_;refine pu_ (i := 1) (N := some 72) #[t_,t_,f_,f_,f_,f_,f_,f_,f_,f_,f_,f_,f_,f_,f_,f_] ?_;refine pu_ (i := 2) (N := some 73) #[t_,t_,t_,f_,f_,f_,f_,f_,f_,f_,f_,f_,f_,f_,f_,f_] ?_;refine pu_ (i := 3) (N := some 74) #[t_,t_,t_,t_,f_,f_,f_,f_,f_,f_,f_,f_,f_,f_,f_,f_] ?_;refine pu_ (i := 4) (N := some 75) #[t_,t_,t_,t_,t_,f_,f_,f_,f_,f_,f_,f_,f_,f_,f_,f_] ?_;refine pu_ (i := 6) (N := some 77) #[t_,t_,t_,t_,t_,f_,t_,f_,f_,f_,f_,f_,f_,f_,f_,f_] ?_
                 refine pu_ (i := 7) (N := some 78) #[t_,t_,t_,t_,t_,f_,t_,t_,f_,f_,f_,f_,f_,f_,f_,f_] ?_;refine pu_ (i := 8) (N := some 79) #[t_,t_,t_,t_,t_,f_,t_,t_,t_,f_,f_,f_,f_,f_,f_,f_] ?_;refine pu_ (i := 9) (N := some 80) #[t_,t_,t_,t_,t_,f_,t_,t_,t_,t_,f_,f_,f_,f_,f_,f_] ?_;refine take_ (i := 5) (N := some 76) #[t_,t_,t_,t_,t_,t_,t_,t_,t_,t_,f_,f_,f_,f_,f_,f_] rfl rfl (take_ofW HT_.out HW_.out (by kernel_rfl)) id3_ (Or.inl ⟨by rfl, by rintro w' ⟨s0, s1, s2, s3, s4, s5⟩; go_simp; with_reducible rfl⟩) hHeld pt_ ?_;refine take_ (i := 10) (N := some 81) #[t_,t_,t_,t_,t_,t_,t_,t_,t_,t_,t_,f_,f_,f_,f_,f_] rfl rfl (take_ofW HT_.out HW_.out (by kernel_rfl)) id3_ (Or.inl ⟨by rfl, by rintro w' ⟨s0, s1, s2, s3, s4, s5⟩; go_simp; with_reducible rfl⟩) hHeld pt_ ?_;refine one_ (i := 11) (N := some 82) #[t_,t_,t_,t_,t_,t_,t_,t_,t_,t_,t_,t_,f_,f_,f_,f_] rfl rfl (one_of HT_.out (by kernel_rfl)) (by decide) (fun K hK => ?_);refine goes_ Try.func30 (by kernel_rfl) rfl #[.agg #[.int .i64 ((rd_T36 l0 x8_4).f1.f0), .slice A10026_2 ((rd_T36 l0 x8_4).f1.f1).length c10026_2]] (by rfl) rfl rfl la_ ?_;(with_reducible refine (section_Mirror.calls k4 ((rd_T36 l0 x8_4).f1.f0) _ _ ((rd_T36 l0 x8_4).f1.f1) t10028 t10029 _ ?side1 ?side2 A54.out).mono ?_);(case side1 => exact csC_ ((Kd.C_below HR10027_2.out HB.out)));(case side2 => exact HC10027_2.out);rintro e w57 ⟨v10030, rfl, ho0, hb⟩;refine ⟨_, rfl, ?_⟩;replace HO_7 := A_ (Kd.N_elder' (fN_ HO_7.out) (Kd.R_base ho0) hb);have HO10031 := A_ (Kd.R_lower ho0 bz_);replace HB := bA_ hb;(try clear hb);(try clear hk);(try clear ho0);obtain ⟨Ao58, co58, eo58⟩ := Kd.R_slice HO10031.out;(first | subst eo58 | (injection eo58 with f1_ f2_ f3_; have f4_ := f1_.symm; have f5_ := f3_.symm; clear f1_ f2_ f3_; subst f4_; subst f5_));refine hK.out _ _ ⟨(bc_ HB hw10026_0), (bc_ HB hw10026_1), (bc_ HB hw10026_2), (bc_ HB hw10027_0), (bc_ HB hw10027_1), (bc_ HB hw10027_2)⟩ (fun hHeld => ?_);clear hK K;refine norm_ (a' := ?_) ?_ ?_;rotate_left
                 ·show Act.put _ (some 82) _ = _
                  simp only [Act.put, List.setIfInBounds_toArray, List.set_cons_zero, List.set_cons_succ, i64_w, i32_w];rfl
                 refine pu_ (i := 12) (N := some 83) #[t_,t_,t_,t_,t_,t_,t_,t_,t_,t_,t_,t_,t_,f_,f_,f_] ?_;refine one_ (i := 13) (N := some 84) #[t_,t_,t_,t_,t_,t_,t_,t_,t_,t_,t_,t_,t_,t_,f_,f_] rfl rfl (one_of HT_.out (by kernel_rfl)) (by decide) (fun K hK => ?_);refine value_ (w1 := ?_) (v := ?_) (by rfl) rfl ?_ ?_;rotate_left 2
                 ·go_simp
                  constructor
                  ·rfl
                  ·rfl
                 refine hK.out _ _ ⟨(World.cell?_alloc_lt _ _ _ (World.block_lt_of_cell? _ _ ((bc_ HB hw10026_0)))).trans ((bc_ HB hw10026_0)), (World.cell?_alloc_lt _ _ _ (World.block_lt_of_cell? _ _ ((bc_ HB hw10026_1)))).trans ((bc_ HB hw10026_1)), (World.cell?_alloc_lt _ _ _ (World.block_lt_of_cell? _ _ ((bc_ HB hw10026_2)))).trans ((bc_ HB hw10026_2)), (World.cell?_alloc_lt _ _ _ (World.block_lt_of_cell? _ _ ((bc_ HB hw10027_0)))).trans ((bc_ HB hw10027_0)), (World.cell?_alloc_lt _ _ _ (World.block_lt_of_cell? _ _ ((bc_ HB hw10027_1)))).trans ((bc_ HB hw10027_1)), (World.cell?_alloc_lt _ _ _ (World.block_lt_of_cell? _ _ ((bc_ HB hw10027_2)))).trans ((bc_ HB hw10027_2))⟩ (fun hHeld => ?_);clear hK K;refine norm_ (a' := ?_) ?_ ?_;rotate_left
                 ·show Act.put _ (some 84) _ = _
                  simp only [Act.put, List.setIfInBounds_toArray, List.set_cons_zero, List.set_cons_succ, i64_w, i32_w];rfl
                 refine one_ (i := 14) (N := some 85) #[t_,t_,t_,t_,t_,t_,t_,t_,t_,t_,t_,t_,t_,t_,t_,f_] rfl rfl (one_of HT_.out (by kernel_rfl)) (by decide) (fun K hK => ?_);refine Kd.N_append_step k36 (w0 := w) w.heap.size (by rfl) (.tmp 71) (.tmp 84) 31 36 (.agg #[(.int .i64 0), (.int .i64 0), (.slice none 0 0)]) 40 rfl Try.underlying31 info36 rfl (by decide) (by omega) u7 x7_4 (⟨(rd_T36 l0 x8_4).f0, (⟨t10028, t10029⟩ : S24)⟩ : S36) [.int .i64 ((rd_T36 l0 x8_4).f0), .int .i64 t10028, .slice Ao58 t10029.length co58] (fun _ => True) (fun k_ => ((fun _ => True)) k_ ∧ some k_ ≠ (u7 : Value).ownBlock) rfl rfl ?aP (fun _ hk => hk) ?aF ?aO ?aB ?aS ?aL ?_;(case aP => exact (k36_mkF _ _ (⟨(rd_T36 l0 x8_4).f0, (⟨t10028, t10029⟩ : S24)⟩ : S36) (Kd.R_reads' (Kd.R_mono (ok' := (fun k_ => ((fun _ => True)) k_ ∧ some k_ ≠ (u7 : Value).ownBlock)) (Kd.R_apart' (HO10031.out) (Kd.N_typed HO_7.out) (by decide)) (fun k_ hk => ⟨trivial, hk.2⟩))).2.1 (Kd.R_F (Kd.R_mono (ok' := (fun k_ => ((fun _ => True)) k_ ∧ some k_ ≠ (u7 : Value).ownBlock)) (Kd.R_apart' (HO10031.out) (Kd.N_typed HO_7.out) (by decide)) (fun k_ hk => ⟨trivial, hk.2⟩)))));(case aB => exact be_);(case aF => exact (fun _ _ => trivial));(case aO => exact (by (with_reducible repeat (first | apply Kd.N_alloc | apply Kd.N_drewN | apply Kd.N_drew)); exact Kd.N_mono HO_7.out (fun _ hk => trivial)));(case aS => exact bz_);(case aL => have := LMc55.out; omega);intro v10033 w59 ho hb hg hat;rw [← Ny10032.out] at ho;have n0_ := A_ (hb);have n1_ := A_ (ho);clear HB HO_7 HO10031;have HB := n0_;have HO10034 := n1_;clear n0_ n1_ ho hb hg hat;refine hK.out _ _ ⟨(bc_ HB hw10026_0), (bc_ HB hw10026_1), (bc_ HB hw10026_2), (bc_ HB hw10027_0), (bc_ HB hw10027_1), (bc_ HB hw10027_2)⟩ (fun hHeld => ?_);clear hK K;refine norm_ (a' := ?_) ?_ ?_;rotate_left
                 ·show Act.put _ (some 85) _ = _
                  simp only [Act.put, List.setIfInBounds_toArray, List.set_cons_zero, List.set_cons_succ, i64_w, i32_w];rfl
                 refine pu_ (i := 15) (N := some 7) #[t_,t_,t_,t_,t_,t_,t_,t_,t_,t_,t_,t_,t_,t_,t_,t_] ?_;refine done_ (done_of HT_.out (by kernel_rfl)) ?_;(try clear hHeld);try go_wp2
                 go_roundg k4
                 case measure => have := HJ2.out; have := HJ12.out; have := HJ22.out; have := HK4.out; omega
                 case rel => exact ⟨(y10032), (wrap64 (x8_4 + 1)), rs_, H', ⟨by have := HJ2.out; have := HJ12.out; have := HJ22.out; have := HK4.out; omega⟩, ⟨fN_ HO10034.out⟩, ⟨be_⟩⟩
                ·rw [if_neg c55] at H;exact absurd H (by simp)
               ·rw [if_neg c53] at H;exact absurd H (by simp)
              ·rw [if_neg c52] at H;have c52b0 : decide (x8_4 < (l0.length : Int)) = false := decide_eq_false c52;clear c52;replace H := Option.bind_eq_some_iff.mp H;obtain ⟨t10035, A600, H⟩ := H;replace H : ((shape_Sweep.f k4 x7_4).bind fun t10036 => ((shape_Top.f k4 x7_4).bind fun t10037 => ((shape_Top.f k4 l0).bind fun t10038 => (if t10037 = t10038 then ((shape_Taper.f k4 x7_4).bind fun t10039 => ((shape_Taper.f k4 l0).bind fun t10040 => (if t10039 = t10040 then (if (wrap64 (t10035 - t10036)) ≤ 1 then (if (wrap64 (t10036 - t10035)) ≤ 1 then ((sawmilllaw14_awake.f k4).bind fun t10041 => (some t10041)) else (some false)) else (some false)) else (some false)))) else (some false))))) = some r := H;have A60 := Aside0.mk A600;clear A600;replace H := Option.bind_eq_some_iff.mp H;obtain ⟨t10036, A610, H⟩ := H;replace H : ((shape_Top.f k4 x7_4).bind fun t10037 => ((shape_Top.f k4 l0).bind fun t10038 => (if t10037 = t10038 then ((shape_Taper.f k4 x7_4).bind fun t10039 => ((shape_Taper.f k4 l0).bind fun t10040 => (if t10039 = t10040 then (if (wrap64 (t10035 - t10036)) ≤ 1 then (if (wrap64 (t10036 - t10035)) ≤ 1 then ((sawmilllaw14_awake.f k4).bind fun t10041 => (some t10041)) else (some false)) else (some false)) else (some false)))) else (some false)))) = some r := H;have A61 := Aside0.mk A610;clear A610;replace H := Option.bind_eq_some_iff.mp H;obtain ⟨t10037, A620, H⟩ := H;replace H : ((shape_Top.f k4 l0).bind fun t10038 => (if t10037 = t10038 then ((shape_Taper.f k4 x7_4).bind fun t10039 => ((shape_Taper.f k4 l0).bind fun t10040 => (if t10039 = t10040 then (if (wrap64 (t10035 - t10036)) ≤ 1 then (if (wrap64 (t10036 - t10035)) ≤ 1 then ((sawmilllaw14_awake.f k4).bind fun t10041 => (some t10041)) else (some false)) else (some false)) else (some false)))) else (some false))) = some r := H;have A62 := Aside0.mk A620;clear A620;replace H := Option.bind_eq_some_iff.mp H;obtain ⟨t10038, A630, H⟩ := H;replace H : (if t10037 = t10038 then ((shape_Taper.f k4 x7_4).bind fun t10039 => ((shape_Taper.f k4 l0).bind fun t10040 => (if t10039 = t10040 then (if (wrap64 (t10035 - t10036)) ≤ 1 then (if (wrap64 (t10036 - t10035)) ≤ 1 then ((sawmilllaw14_awake.f k4).bind fun t10041 => (some t10041)) else (some false)) else (some false)) else (some false)))) else (some false)) = some r := H;have A63 := Aside0.mk A630;clear A630
               by_cases c64 : t10037 = t10038
               ·rw [if_pos c64] at H;have c64b0 : (t10037 == t10038) = true := beq_iff_eq.mpr c64;have c64b1 : (t10037 != t10038) = false := bne_eq_false_iff_eq.mpr c64;clear c64;replace H := Option.bind_eq_some_iff.mp H;obtain ⟨t10039, A650, H⟩ := H;replace H : ((shape_Taper.f k4 l0).bind fun t10040 => (if t10039 = t10040 then (if (wrap64 (t10035 - t10036)) ≤ 1 then (if (wrap64 (t10036 - t10035)) ≤ 1 then ((sawmilllaw14_awake.f k4).bind fun t10041 => (some t10041)) else (some false)) else (some false)) else (some false))) = some r := H;have A65 := Aside0.mk A650;clear A650;replace H := Option.bind_eq_some_iff.mp H;obtain ⟨t10040, A660, H⟩ := H;replace H : (if t10039 = t10040 then (if (wrap64 (t10035 - t10036)) ≤ 1 then (if (wrap64 (t10036 - t10035)) ≤ 1 then ((sawmilllaw14_awake.f k4).bind fun t10041 => (some t10041)) else (some false)) else (some false)) else (some false)) = some r := H;have A66 := Aside0.mk A660;clear A660
                by_cases c67 : t10039 = t10040
                ·rw [if_pos c67] at H;have c67b0 : (t10039 == t10040) = true := beq_iff_eq.mpr c67;have c67b1 : (t10039 != t10040) = false := bne_eq_false_iff_eq.mpr c67;clear c67
                 by_cases c68 : (wrap64 (t10035 - t10036)) ≤ 1
                 ·rw [if_pos c68] at H;have c68b0 : decide ((wrap64 (t10035 - t10036)) ≤ 1) = true := decide_eq_true c68;clear c68
                  by_cases c69 : (wrap64 (t10036 - t10035)) ≤ 1
                  ·rw [if_pos c69] at H;have c69b0 : decide ((wrap64 (t10036 - t10035)) ≤ 1) = true := decide_eq_true c69;clear c69;replace H := Option.bind_eq_some_iff.mp H;obtain ⟨t10041, A700, H⟩ := H;replace H : (some t10041) = some r := H;have A70 := Aside0.mk A700;clear A700;obtain rfl := Option.some.inj H;go_wp2_with (first | ((with_reducible refine gate_callee (f := 23) rfl ?_); refine goesL_ (some 87) rfl rfl Try.func23 (by kernel_rfl) rfl #[.slice A0 l0.length c0] rfl la_ ?_; (with_reducible refine (shape_Sweep.calls k4 _ _ l0 t10035 _ ?side1 ?side2 A60.out).mono ?_); (case side1 => exact csC_ ((Kd.C_below HR0.out HB.out))); (case side2 => exact HC0.out); rintro e w71 ⟨rfl, hb⟩; refine ⟨_, rfl, ?_⟩; replace HO_7 := kN_ HO_7 hb; replace HB := bA_ hb; (try clear hb); (try clear hk); obtain ⟨Ao72, co72, eo72⟩ := Kd.N_slice HO_7.out; subst eo72) | ((with_reducible refine gate_callee (f := 23) rfl ?_); refine goesL_ (some 89) rfl rfl Try.func23 (by kernel_rfl) rfl #[.slice Ao72 x7_4.length co72] rfl la_ ?_; (with_reducible refine (shape_Sweep.calls k4 _ _ x7_4 t10036 _ ?side1 ?side2 A61.out).mono ?_); (case side1 => exact csC_ ((Kd.N_reads' HO_7.out).2.2)); (case side2 => exact (Kd.N_reads' HO_7.out).2.1); rintro e w73 ⟨rfl, hb⟩; refine ⟨_, rfl, ?_⟩; replace HO_7 := kN_ HO_7 hb; replace HB := bA_ hb; (try clear hb); (try clear hk)) | ((with_reducible refine gate_callee (f := 19) rfl ?_); refine goesL_ (some 91) rfl rfl Try.func19 (by kernel_rfl) rfl #[.slice Ao72 x7_4.length co72] rfl la_ ?_; (with_reducible refine (shape_Top.calls k4 _ _ x7_4 t10037 _ ?side1 ?side2 A62.out).mono ?_); (case side1 => exact csC_ ((Kd.N_reads' HO_7.out).2.2)); (case side2 => exact (Kd.N_reads' HO_7.out).2.1); rintro e w74 ⟨rfl, hb⟩; refine ⟨_, rfl, ?_⟩; replace HO_7 := kN_ HO_7 hb; replace HB := bA_ hb; (try clear hb); (try clear hk)) | ((with_reducible refine gate_callee (f := 19) rfl ?_); refine goesL_ (some 93) rfl rfl Try.func19 (by kernel_rfl) rfl #[.slice A0 l0.length c0] rfl la_ ?_; (with_reducible refine (shape_Top.calls k4 _ _ l0 t10038 _ ?side1 ?side2 A63.out).mono ?_); (case side1 => exact csC_ ((Kd.C_below HR0.out HB.out))); (case side2 => exact HC0.out); rintro e w75 ⟨rfl, hb⟩; refine ⟨_, rfl, ?_⟩; replace HO_7 := kN_ HO_7 hb; replace HB := bA_ hb; (try clear hb); (try clear hk)) | (go_at_call 21; (with_reducible refine (shape_Taper.calls k4 _ _ x7_4 t10039 _ ?side1 ?side2 A65.out).mono ?_); (case side1 => exact csC_ ((Kd.N_reads' HO_7.out).2.2)); (case side2 => exact (Kd.N_reads' HO_7.out).2.1); rintro e w76 ⟨rfl, hb⟩; replace HO_7 := kN_ HO_7 hb; replace HB := bA_ hb; (try clear hb); (try clear hk)) | (go_at_call 21; (with_reducible refine (shape_Taper.calls k4 _ _ l0 t10040 _ ?side1 ?side2 A66.out).mono ?_); (case side1 => exact csC_ ((Kd.C_below HR0.out HB.out))); (case side2 => exact HC0.out); rintro e w77 ⟨rfl, hb⟩; replace HO_7 := kN_ HO_7 hb; replace HB := bA_ hb; (try clear hb); (try clear hk)) | (go_at_call 11; (with_reducible refine (sawmilllaw14_awake.calls k4  t10041 _ A70.out).mono ?_); rintro e w78 ⟨rfl, hb⟩; replace HO_7 := kN_ HO_7 hb; replace HB := bA_ hb; (try clear hb); (try clear hk)));go_ret;exact ⟨er_, be_⟩
                  ·rw [if_neg c69] at H;have c69b0 : decide ((wrap64 (t10036 - t10035)) ≤ 1) = false := decide_eq_false c69;clear c69;obtain rfl := Option.some.inj H;go_wp2_with (first | ((with_reducible refine gate_callee (f := 23) rfl ?_); refine goesL_ (some 87) rfl rfl Try.func23 (by kernel_rfl) rfl #[.slice A0 l0.length c0] rfl la_ ?_; (with_reducible refine (shape_Sweep.calls k4 _ _ l0 t10035 _ ?side1 ?side2 A60.out).mono ?_); (case side1 => exact csC_ ((Kd.C_below HR0.out HB.out))); (case side2 => exact HC0.out); rintro e w79 ⟨rfl, hb⟩; refine ⟨_, rfl, ?_⟩; replace HO_7 := kN_ HO_7 hb; replace HB := bA_ hb; (try clear hb); (try clear hk); obtain ⟨Ao80, co80, eo80⟩ := Kd.N_slice HO_7.out; subst eo80) | ((with_reducible refine gate_callee (f := 23) rfl ?_); refine goesL_ (some 89) rfl rfl Try.func23 (by kernel_rfl) rfl #[.slice Ao80 x7_4.length co80] rfl la_ ?_; (with_reducible refine (shape_Sweep.calls k4 _ _ x7_4 t10036 _ ?side1 ?side2 A61.out).mono ?_); (case side1 => exact csC_ ((Kd.N_reads' HO_7.out).2.2)); (case side2 => exact (Kd.N_reads' HO_7.out).2.1); rintro e w81 ⟨rfl, hb⟩; refine ⟨_, rfl, ?_⟩; replace HO_7 := kN_ HO_7 hb; replace HB := bA_ hb; (try clear hb); (try clear hk)) | ((with_reducible refine gate_callee (f := 19) rfl ?_); refine goesL_ (some 91) rfl rfl Try.func19 (by kernel_rfl) rfl #[.slice Ao80 x7_4.length co80] rfl la_ ?_; (with_reducible refine (shape_Top.calls k4 _ _ x7_4 t10037 _ ?side1 ?side2 A62.out).mono ?_); (case side1 => exact csC_ ((Kd.N_reads' HO_7.out).2.2)); (case side2 => exact (Kd.N_reads' HO_7.out).2.1); rintro e w82 ⟨rfl, hb⟩; refine ⟨_, rfl, ?_⟩; replace HO_7 := kN_ HO_7 hb; replace HB := bA_ hb; (try clear hb); (try clear hk)) | ((with_reducible refine gate_callee (f := 19) rfl ?_); refine goesL_ (some 93) rfl rfl Try.func19 (by kernel_rfl) rfl #[.slice A0 l0.length c0] rfl la_ ?_; (with_reducible refine (shape_Top.calls k4 _ _ l0 t10038 _ ?side1 ?side2 A63.out).mono ?_); (case side1 => exact csC_ ((Kd.C_below HR0.out HB.out))); (case side2 => exact HC0.out); rintro e w83 ⟨rfl, hb⟩; refine ⟨_, rfl, ?_⟩; replace HO_7 := kN_ HO_7 hb; replace HB := bA_ hb; (try clear hb); (try clear hk)) | (go_at_call 21; (with_reducible refine (shape_Taper.calls k4 _ _ x7_4 t10039 _ ?side1 ?side2 A65.out).mono ?_); (case side1 => exact csC_ ((Kd.N_reads' HO_7.out).2.2)); (case side2 => exact (Kd.N_reads' HO_7.out).2.1); rintro e w84 ⟨rfl, hb⟩; replace HO_7 := kN_ HO_7 hb; replace HB := bA_ hb; (try clear hb); (try clear hk)) | (go_at_call 21; (with_reducible refine (shape_Taper.calls k4 _ _ l0 t10040 _ ?side1 ?side2 A66.out).mono ?_); (case side1 => exact csC_ ((Kd.C_below HR0.out HB.out))); (case side2 => exact HC0.out); rintro e w85 ⟨rfl, hb⟩; replace HO_7 := kN_ HO_7 hb; replace HB := bA_ hb; (try clear hb); (try clear hk)));go_ret;exact ⟨er_, be_⟩
                 ·rw [if_neg c68] at H;have c68b0 : decide ((wrap64 (t10035 - t10036)) ≤ 1) = false := decide_eq_false c68;clear c68;obtain rfl := Option.some.inj H;go_wp2_with (first | ((with_reducible refine gate_callee (f := 23) rfl ?_); refine goesL_ (some 87) rfl rfl Try.func23 (by kernel_rfl) rfl #[.slice A0 l0.length c0] rfl la_ ?_; (with_reducible refine (shape_Sweep.calls k4 _ _ l0 t10035 _ ?side1 ?side2 A60.out).mono ?_); (case side1 => exact csC_ ((Kd.C_below HR0.out HB.out))); (case side2 => exact HC0.out); rintro e w86 ⟨rfl, hb⟩; refine ⟨_, rfl, ?_⟩; replace HO_7 := kN_ HO_7 hb; replace HB := bA_ hb; (try clear hb); (try clear hk); obtain ⟨Ao87, co87, eo87⟩ := Kd.N_slice HO_7.out; subst eo87) | ((with_reducible refine gate_callee (f := 23) rfl ?_); refine goesL_ (some 89) rfl rfl Try.func23 (by kernel_rfl) rfl #[.slice Ao87 x7_4.length co87] rfl la_ ?_; (with_reducible refine (shape_Sweep.calls k4 _ _ x7_4 t10036 _ ?side1 ?side2 A61.out).mono ?_); (case side1 => exact csC_ ((Kd.N_reads' HO_7.out).2.2)); (case side2 => exact (Kd.N_reads' HO_7.out).2.1); rintro e w88 ⟨rfl, hb⟩; refine ⟨_, rfl, ?_⟩; replace HO_7 := kN_ HO_7 hb; replace HB := bA_ hb; (try clear hb); (try clear hk)) | ((with_reducible refine gate_callee (f := 19) rfl ?_); refine goesL_ (some 91) rfl rfl Try.func19 (by kernel_rfl) rfl #[.slice Ao87 x7_4.length co87] rfl la_ ?_; (with_reducible refine (shape_Top.calls k4 _ _ x7_4 t10037 _ ?side1 ?side2 A62.out).mono ?_); (case side1 => exact csC_ ((Kd.N_reads' HO_7.out).2.2)); (case side2 => exact (Kd.N_reads' HO_7.out).2.1); rintro e w89 ⟨rfl, hb⟩; refine ⟨_, rfl, ?_⟩; replace HO_7 := kN_ HO_7 hb; replace HB := bA_ hb; (try clear hb); (try clear hk)) | ((with_reducible refine gate_callee (f := 19) rfl ?_); refine goesL_ (some 93) rfl rfl Try.func19 (by kernel_rfl) rfl #[.slice A0 l0.length c0] rfl la_ ?_; (with_reducible refine (shape_Top.calls k4 _ _ l0 t10038 _ ?side1 ?side2 A63.out).mono ?_); (case side1 => exact csC_ ((Kd.C_below HR0.out HB.out))); (case side2 => exact HC0.out); rintro e w90 ⟨rfl, hb⟩; refine ⟨_, rfl, ?_⟩; replace HO_7 := kN_ HO_7 hb; replace HB := bA_ hb; (try clear hb); (try clear hk)) | (go_at_call 21; (with_reducible refine (shape_Taper.calls k4 _ _ x7_4 t10039 _ ?side1 ?side2 A65.out).mono ?_); (case side1 => exact csC_ ((Kd.N_reads' HO_7.out).2.2)); (case side2 => exact (Kd.N_reads' HO_7.out).2.1); rintro e w91 ⟨rfl, hb⟩; replace HO_7 := kN_ HO_7 hb; replace HB := bA_ hb; (try clear hb); (try clear hk)) | (go_at_call 21; (with_reducible refine (shape_Taper.calls k4 _ _ l0 t10040 _ ?side1 ?side2 A66.out).mono ?_); (case side1 => exact csC_ ((Kd.C_below HR0.out HB.out))); (case side2 => exact HC0.out); rintro e w92 ⟨rfl, hb⟩; replace HO_7 := kN_ HO_7 hb; replace HB := bA_ hb; (try clear hb); (try clear hk)));go_ret;exact ⟨er_, be_⟩
                ·rw [if_neg c67] at H;have c67b0 : (t10039 == t10040) = false := beq_eq_false_iff_ne.mpr c67;have c67b1 : (t10039 != t10040) = true := bne_iff_ne.mpr c67;obtain rfl := Option.some.inj H;go_wp2_with (first | ((with_reducible refine gate_callee (f := 23) rfl ?_); refine goesL_ (some 87) rfl rfl Try.func23 (by kernel_rfl) rfl #[.slice A0 l0.length c0] rfl la_ ?_; (with_reducible refine (shape_Sweep.calls k4 _ _ l0 t10035 _ ?side1 ?side2 A60.out).mono ?_); (case side1 => exact csC_ ((Kd.C_below HR0.out HB.out))); (case side2 => exact HC0.out); rintro e w93 ⟨rfl, hb⟩; refine ⟨_, rfl, ?_⟩; replace HO_7 := kN_ HO_7 hb; replace HB := bA_ hb; (try clear hb); (try clear hk); obtain ⟨Ao94, co94, eo94⟩ := Kd.N_slice HO_7.out; subst eo94) | ((with_reducible refine gate_callee (f := 23) rfl ?_); refine goesL_ (some 89) rfl rfl Try.func23 (by kernel_rfl) rfl #[.slice Ao94 x7_4.length co94] rfl la_ ?_; (with_reducible refine (shape_Sweep.calls k4 _ _ x7_4 t10036 _ ?side1 ?side2 A61.out).mono ?_); (case side1 => exact csC_ ((Kd.N_reads' HO_7.out).2.2)); (case side2 => exact (Kd.N_reads' HO_7.out).2.1); rintro e w95 ⟨rfl, hb⟩; refine ⟨_, rfl, ?_⟩; replace HO_7 := kN_ HO_7 hb; replace HB := bA_ hb; (try clear hb); (try clear hk)) | ((with_reducible refine gate_callee (f := 19) rfl ?_); refine goesL_ (some 91) rfl rfl Try.func19 (by kernel_rfl) rfl #[.slice Ao94 x7_4.length co94] rfl la_ ?_; (with_reducible refine (shape_Top.calls k4 _ _ x7_4 t10037 _ ?side1 ?side2 A62.out).mono ?_); (case side1 => exact csC_ ((Kd.N_reads' HO_7.out).2.2)); (case side2 => exact (Kd.N_reads' HO_7.out).2.1); rintro e w96 ⟨rfl, hb⟩; refine ⟨_, rfl, ?_⟩; replace HO_7 := kN_ HO_7 hb; replace HB := bA_ hb; (try clear hb); (try clear hk)) | ((with_reducible refine gate_callee (f := 19) rfl ?_); refine goesL_ (some 93) rfl rfl Try.func19 (by kernel_rfl) rfl #[.slice A0 l0.length c0] rfl la_ ?_; (with_reducible refine (shape_Top.calls k4 _ _ l0 t10038 _ ?side1 ?side2 A63.out).mono ?_); (case side1 => exact csC_ ((Kd.C_below HR0.out HB.out))); (case side2 => exact HC0.out); rintro e w97 ⟨rfl, hb⟩; refine ⟨_, rfl, ?_⟩; replace HO_7 := kN_ HO_7 hb; replace HB := bA_ hb; (try clear hb); (try clear hk)) | (go_at_call 21; (with_reducible refine (shape_Taper.calls k4 _ _ x7_4 t10039 _ ?side1 ?side2 A65.out).mono ?_); (case side1 => exact csC_ ((Kd.N_reads' HO_7.out).2.2)); (case side2 => exact (Kd.N_reads' HO_7.out).2.1); rintro e w98 ⟨rfl, hb⟩; replace HO_7 := kN_ HO_7 hb; replace HB := bA_ hb; (try clear hb); (try clear hk)) | (go_at_call 21; (with_reducible refine (shape_Taper.calls k4 _ _ l0 t10040 _ ?side1 ?side2 A66.out).mono ?_); (case side1 => exact csC_ ((Kd.C_below HR0.out HB.out))); (case side2 => exact HC0.out); rintro e w99 ⟨rfl, hb⟩; replace HO_7 := kN_ HO_7 hb; replace HB := bA_ hb; (try clear hb); (try clear hk)));go_ret;exact ⟨er_, be_⟩
               ·rw [if_neg c64] at H;have c64b0 : (t10037 == t10038) = false := beq_eq_false_iff_ne.mpr c64;have c64b1 : (t10037 != t10038) = true := bne_iff_ne.mpr c64;obtain rfl := Option.some.inj H;go_wp2_with (first | ((with_reducible refine gate_callee (f := 23) rfl ?_); refine goesL_ (some 87) rfl rfl Try.func23 (by kernel_rfl) rfl #[.slice A0 l0.length c0] rfl la_ ?_; (with_reducible refine (shape_Sweep.calls k4 _ _ l0 t10035 _ ?side1 ?side2 A60.out).mono ?_); (case side1 => exact csC_ ((Kd.C_below HR0.out HB.out))); (case side2 => exact HC0.out); rintro e w100 ⟨rfl, hb⟩; refine ⟨_, rfl, ?_⟩; replace HO_7 := kN_ HO_7 hb; replace HB := bA_ hb; (try clear hb); (try clear hk); obtain ⟨Ao101, co101, eo101⟩ := Kd.N_slice HO_7.out; subst eo101) | ((with_reducible refine gate_callee (f := 23) rfl ?_); refine goesL_ (some 89) rfl rfl Try.func23 (by kernel_rfl) rfl #[.slice Ao101 x7_4.length co101] rfl la_ ?_; (with_reducible refine (shape_Sweep.calls k4 _ _ x7_4 t10036 _ ?side1 ?side2 A61.out).mono ?_); (case side1 => exact csC_ ((Kd.N_reads' HO_7.out).2.2)); (case side2 => exact (Kd.N_reads' HO_7.out).2.1); rintro e w102 ⟨rfl, hb⟩; refine ⟨_, rfl, ?_⟩; replace HO_7 := kN_ HO_7 hb; replace HB := bA_ hb; (try clear hb); (try clear hk)) | ((with_reducible refine gate_callee (f := 19) rfl ?_); refine goesL_ (some 91) rfl rfl Try.func19 (by kernel_rfl) rfl #[.slice Ao101 x7_4.length co101] rfl la_ ?_; (with_reducible refine (shape_Top.calls k4 _ _ x7_4 t10037 _ ?side1 ?side2 A62.out).mono ?_); (case side1 => exact csC_ ((Kd.N_reads' HO_7.out).2.2)); (case side2 => exact (Kd.N_reads' HO_7.out).2.1); rintro e w103 ⟨rfl, hb⟩; refine ⟨_, rfl, ?_⟩; replace HO_7 := kN_ HO_7 hb; replace HB := bA_ hb; (try clear hb); (try clear hk)) | ((with_reducible refine gate_callee (f := 19) rfl ?_); refine goesL_ (some 93) rfl rfl Try.func19 (by kernel_rfl) rfl #[.slice A0 l0.length c0] rfl la_ ?_; (with_reducible refine (shape_Top.calls k4 _ _ l0 t10038 _ ?side1 ?side2 A63.out).mono ?_); (case side1 => exact csC_ ((Kd.C_below HR0.out HB.out))); (case side2 => exact HC0.out); rintro e w104 ⟨rfl, hb⟩; refine ⟨_, rfl, ?_⟩; replace HO_7 := kN_ HO_7 hb; replace HB := bA_ hb; (try clear hb); (try clear hk)));go_ret;exact ⟨er_, be_⟩
        ·rw [if_neg c22] at H;exact absurd H (by simp)
       ·rw [if_neg c20] at H;exact absurd H (by simp)

end Go.Proofs.Ytdbjoopkliafeaa.P

end
section
namespace Go.Proofs.Ytdbjoopkliafeaa.P
open Go Go.RowKit Go.Proofs.YtdbjoopkliafeaaW.PrintWords Go.Proofs.YtdbjoopkliafeaaW.PrintLast Go.Proofs.YtdbjoopkliafeaaW.PrintMore
def Opens {α : Type} (P : Program) (d : Kd α) (t : TypeId) (ok : α → Prop) : Prop :=
 ∀ (H : Type) (enc : TypeId × Value → H) (w : World) (base : Nat) (spare : Nat → Bool) (held : Bool) (fuel : Nat) (cs : List Value) (x : DataW H × List MemPlace),
  DataW.trod enc P w base spare held fuel t cs = some x → ∃ v, d.K w v cs ∧ ok v
theorem opens_int {P : Program} {t : TypeId} {k : IntKind} (ht : P.underlying t = some (.int k)) : Opens P (Kd.int k) t (fun n => (Lit.int k n).wf = true) := by
 intro H enc w base spare held fuel cs x h;obtain ⟨n, rfl, _, hw⟩ := DataW.trod_int ht h;exact ⟨n, rfl, hw⟩
theorem opens_string {P : Program} {t : TypeId} (ht : P.underlying t = some .string) : Opens P Kd.string t (fun s => s.size ≤ maxLen) := by
 intro H enc w base spare held fuel cs x h;obtain ⟨n, rfl, _, hw⟩ := DataW.trod_string ht h;exact ⟨n, rfl, hw⟩
theorem opens_slice {α : Type} {P : Program} {d : Kd α} {t e : TypeId} {ok : α → Prop} (e' : Nat) (ht : P.underlying t = some (.slice e)) (hc : P.cellsOf e = d.sz) (hd : Opens P d e ok) :
  Opens P (Kd.slice e' d) t (fun xs => (∀ x ∈ xs, ok x) ∧ xs.length ≤ maxLen) := by
 intro H enc w base spare held fuel cs x h
 rcases DataW.trod_slice ht h with ⟨rfl, _⟩ | ⟨a, len, cap, elems, rest, n, _, rfl, _, hb, hl, hm, hlen, hel, _, _⟩
 ·exact ⟨[], ⟨none, 0, rfl, Nat.le_refl _, rfl, by simp, fun h => absurd h (by simp)⟩, by simp, by simp⟩
 ·have key : ∀ m, m ≤ len → ∃ xs : List α, xs.length = m ∧ ∀ j p, xs[j]? = some p → ∃ c, w.cells? base (a.add (j * d.sz)) d.sz = some c ∧ d.K w p c ∧ ok p := by
   intro m
   induction m with
   | zero => exact fun _ => ⟨[], rfl, fun j p h => by simp at h⟩
   | succ m ih =>
    intro hm;obtain ⟨xs, hx, hp⟩ := ih (by omega);have h1 := hel m (by omega);rw [List.getElem?_eq_getElem (by omega), hc, Option.bind_eq_some_iff] at h1;obtain ⟨c, hcs, ht⟩ := h1;obtain ⟨v, hk, ho⟩ := hd H enc w base spare held n c _ ht;refine ⟨xs ++ [v], by simp [hx], fun j p h => ?_⟩
    rcases Nat.lt_or_ge j m with hj | hj
    ·rw [List.getElem?_append_left (by omega)] at h;exact hp j p h
    ·have : j = m := by
      have := (List.getElem?_eq_some_iff.1 h).1;simp at this
      omega
     subst this;rw [List.getElem?_append_right (by omega), hx] at h;simp at h;subst h;exact ⟨c, hcs, hk, ho⟩
  obtain ⟨xs, hx, hp⟩ := key len (Nat.le_refl _);have hlm : len ≤ maxLen := Nat.le_trans hl hm;refine ⟨xs, ⟨some a, cap, by rw [hx], by omega, ?_⟩, fun x hxm => ?_, by omega⟩
  ·refine ⟨rfl, by unfold maxLen at hlm; omega, fun _ => ⟨a, rfl, fun j p h => ?_⟩⟩;obtain ⟨c, hcs, hk, _⟩ := hp j p h;have h3 := World.cells?_some hcs;refine ⟨c, d.K_len hk, hk, fun i u hu => ?_⟩;have hi := (List.getElem?_eq_some_iff.1 hu).1;have h4 := h3.2.2 i (by have := d.K_len hk; omega);rw [hu] at h4;rw [← add_add];exact h4
  ·obtain ⟨j, hj⟩ := List.getElem?_of_mem hxm;exact (hp j x hj).choose_spec.2.2
theorem opens_iso {α β : Type} {P : Program} {d : Kd α} {t : TypeId} {ok : α → Prop} {f : β → α} (g : α → β) (hg : ∀ x, f (g x) = x) (hd : Opens P d t ok) : Opens P (Kd.iso d f) t (fun y => ok (f y)) := by
 intro H enc w base spare held fuel cs x h;obtain ⟨v, hk, ho⟩ := hd H enc w base spare held fuel cs x h;exact ⟨g v, by show d.K w (f (g v)) cs; rw [hg]; exact hk, by show ok (f (g v)); rw [hg]; exact ho⟩
def OpensF {α : Type} (P : Program) (d : Kd α) (fs : List Field) (o tot : Nat) (ok : α → Prop) : Prop :=
 ∀ (H : Type) (enc : TypeId × Value → H) (w : World) (base : Nat) (spare : Nat → Bool) (held : Bool) (n : Nat) (cs : List Value), cs.length = tot →
  (∀ f ∈ fs, ∃ y, DataW.trod enc P w base spare held n f.type ((cs.drop f.offset).take (P.cellsOf f.type)) = some y) → ∃ v, d.K w v (cs.drop o) ∧ ok v
theorem opensF_last {α : Type} {P : Program} {d : Kd α} {f : Field} {o tot k : Nat} {ok : α → Prop} (ho : f.offset = o) (hk : P.cellsOf f.type = k) (ht : tot ≤ o + k) (hd : Opens P d f.type ok) : OpensF P d [f] o tot ok := by
 intro H enc w base spare held n cs hl hf;obtain ⟨y, hy⟩ := hf f (by simp);rw [ho, hk, List.take_of_length_le (by simp; omega)] at hy;exact hd H enc w base spare held n _ _ hy
theorem opensF_cons {α β : Type} {P : Program} {d : Kd α} {d2 : Kd β} {f : Field} {fs : List Field} {o tot k : Nat} {ok : α → Prop} {ok2 : β → Prop} (ho : f.offset = o) (hk : P.cellsOf f.type = k) (hd : Opens P d f.type ok) (hr : OpensF P d2 fs (o + k) tot ok2) :
  OpensF P (Kd.pair d d2) (f :: fs) o tot (fun x => ok x.1 ∧ ok2 x.2) := by
 intro H enc w base spare held n cs hl hf;obtain ⟨y, hy⟩ := hf f (by simp);rw [ho, hk] at hy;obtain ⟨v, hv, ov⟩ := hd H enc w base spare held n _ _ hy;obtain ⟨u, hu, ou⟩ := hr H enc w base spare held n cs hl (fun g hg => hf g (by simp [hg]));refine ⟨(v, u), ⟨_, _, ?_, hv, hu⟩, ov, ou⟩;rw [← List.drop_drop, List.take_append_drop]
theorem opens_struct {α : Type} {P : Program} {d : Kd α} {t : TypeId} {fs : Array Field} {l : List Field} {tot : Nat} {ok : α → Prop} (ht : P.underlying t = some (.struct fs)) (hl : fs.toList = l) (hc : P.cellsOf t = tot) (hF : OpensF P d l 0 tot ok) : Opens P d t ok := by
 intro H enc w base spare held fuel cs x h;obtain ⟨xs, n, _, _, hlen, hxl, hf⟩ := DataW.trod_struct ht h
 have := hF H enc w base spare held n cs (by rw [hlen, hc]) (fun f hm => by
  rw [← hl] at hm;obtain ⟨i, hi⟩ := List.getElem?_of_mem hm;have h1 := hf i f (by simpa using hi)
  have hi2 : i < xs.length := by
   have := (List.getElem?_eq_some_iff.1 hi).1;simp at this
   omega
  rw [List.getElem?_eq_getElem hi2] at h1;exact ⟨_, h1⟩)
 simpa using this
def W49 (x : S49) : Prop := ((Lit.int .i64 x.f0).wf = true) ∧ ((Lit.int .i64 x.f1).wf = true)
theorem o49 : Opens Try.prog k49 49 W49 := opens_iso (f := fun x : S49 => (x.f0, x.f1)) (fun p => ⟨p.1, p.2⟩) (fun _ => rfl) (opens_struct (tot := 2) Try.underlying49 rfl (by kernel_rfl) (opensF_cons (o := 0) (tot := 2) (k := 1) rfl (by kernel_rfl) (opens_int Try.underlying3) (opensF_last (o := 1) (tot := 2) (k := 1) rfl (by kernel_rfl) (by decide) (opens_int Try.underlying3))))
def W24 (x : S24) : Prop := ((Lit.int .i64 x.f0).wf = true) ∧ ((∀ x_ ∈ x.f1, W49 x_) ∧ x.f1.length ≤ maxLen)
theorem o24 : Opens Try.prog k24 24 W24 := opens_iso (f := fun x : S24 => (x.f0, x.f1)) (fun p => ⟨p.1, p.2⟩) (fun _ => rfl) (opens_struct (tot := 2) Try.underlying24 rfl (by kernel_rfl) (opensF_cons (o := 0) (tot := 2) (k := 1) rfl (by kernel_rfl) (opens_int Try.underlying3) (opensF_last (o := 1) (tot := 2) (k := 1) rfl (by kernel_rfl) (by decide) (opens_slice (α := S49) 49 Try.underlying22 (by kernel_rfl) o49))))
def W36 (x : S36) : Prop := ((Lit.int .i64 x.f0).wf = true) ∧ (W24 x.f1)
theorem o36 : Opens Try.prog k36 36 W36 := opens_iso (f := fun x : S36 => (x.f0, x.f1)) (fun p => ⟨p.1, p.2⟩) (fun _ => rfl) (opens_struct (tot := 3) Try.underlying36 rfl (by kernel_rfl) (opensF_cons (o := 0) (tot := 3) (k := 1) rfl (by kernel_rfl) (opens_int Try.underlying3) (opensF_last (o := 1) (tot := 3) (k := 2) rfl (by kernel_rfl) (by decide) o24)))
end Go.Proofs.Ytdbjoopkliafeaa.P

end
section
namespace Go.Proofs.Ytdbjoopkliafeaa.P
open Go Go.RowKit Go.Proofs.YtdbjoopkliafeaaW.PrintWords Go.Proofs.YtdbjoopkliafeaaW.PrintLast Go.Proofs.YtdbjoopkliafeaaW.PrintMore
attribute [local go_sem] max2_int min2_int max_two min_two max_three min_three max_four min_four max_five min_eight max_eight   -- for this text's walks alone
set_option linter.unusedVariables false
set_option linter.unusedSimpArgs false

def sawmillref10_beyond.f (a0 : Int) : Option (Bool) := if a0 < (-600) then (some true) else (some (decide (a0 > 600)))
set_option maxHeartbeats 8000000 in
set_option maxRecDepth 100000 in
theorem sawmillref10_beyond.calls (a0 : Int) (r : Bool) (w : World) (h : sawmillref10_beyond.f a0 = some r) :
  Calls Try.prog 62 #[.int .i64 a0] w fun e w' => e = .returned (.bool r) ∧ Drawn0 w w' := by
 have H : (if a0 < (-600) then (some true) else (some (decide (a0 > 600)))) = some r := h;clear h
 by_cases c2 : a0 < (-600)
 ·rw [if_pos c2] at H;have c2b0 : decide (a0 < (-600)) = true := decide_eq_true c2;clear c2;obtain rfl := Option.some.inj H;go_enter Try.func62, Try.ntmps62;go_wp2;go_ret;exact ⟨by first | rfl | (simp; done) | (simp [*]; done), by repeat (first | exact Drawn0.refl _ | apply Drawn0.step)⟩
 ·rw [if_neg c2] at H;have c2b0 : decide (a0 < (-600)) = false := decide_eq_false c2;clear c2;obtain rfl := Option.some.inj H;go_enter Try.func62, Try.ntmps62;go_wp2;go_ret;exact ⟨by first | rfl | (simp; done) | (simp [*]; done), by repeat (first | exact Drawn0.refl _ | apply Drawn0.step)⟩

end Go.Proofs.Ytdbjoopkliafeaa.P

end
section
namespace Go.Proofs.Ytdbjoopkliafeaa.P
open Go Go.RowKit Go.Proofs.YtdbjoopkliafeaaW.PrintWords Go.Proofs.YtdbjoopkliafeaaW.PrintLast Go.Proofs.YtdbjoopkliafeaaW.PrintMore
attribute [local go_sem] max2_int min2_int max_two min_two max_three min_three max_four min_four max_five min_eight max_eight   -- for this text's walks alone
set_option linter.unusedVariables false
set_option linter.unusedSimpArgs false

def sawmillref10_empty.f (a0_0 : Int) (a0_1 : Int) : Option (Bool) := some (decide (a0_0 ≥ a0_1))
set_option maxHeartbeats 8000000 in
set_option maxRecDepth 100000 in
theorem sawmillref10_empty.calls (a0_0 : Int) (a0_1 : Int) (r : Bool) (w : World) (h : sawmillref10_empty.f a0_0 a0_1 = some r) :
  Calls Try.prog 63 #[.agg #[.int .i64 a0_0, .int .i64 a0_1]] w fun e w' => e = .returned (.bool r) ∧ Below w.heap.size w w' := by
 have hu49 := Try.underlying49;have HB := A_ (Below.refl w.heap.size w);have H : (some (decide (a0_0 ≥ a0_1))) = some r := h;clear h;obtain rfl := Option.some.inj H;go_enter Try.func63, Try.ntmps63;go_wp2_with (first | ((with_reducible refine gate_dst (N := 1) rfl ?_); refine bx_ 1 (cs := #[.int .i64 a0_0, .int .i64 a0_1]) (t := 49) ?_; intro gb63001 hg w2 hbox hb; have BK63001 := A_ hbox; have GW63001 := gz_ (w := w) hg; have GE63001 := gz_ (w := w) hg; replace HB := bA_ hb; clear hb hbox hg; have hcz3_0 := cz0_ BK63001; have hcz3_1 := cz1_ BK63001; have hfz3_0 := fz_ BK63001 0; have hfz3_1 := fz_ BK63001 1));go_ret;exact ⟨er_, be_⟩

end Go.Proofs.Ytdbjoopkliafeaa.P

end
section
namespace Go.Proofs.Ytdbjoopkliafeaa.P
open Go Go.RowKit Go.Proofs.YtdbjoopkliafeaaW.PrintWords Go.Proofs.YtdbjoopkliafeaaW.PrintLast Go.Proofs.YtdbjoopkliafeaaW.PrintMore
attribute [local go_sem] max2_int min2_int max_two min_two max_three min_three max_four min_four max_five min_eight max_eight   -- for this text's walks alone
set_option linter.unusedVariables false
set_option linter.unusedSimpArgs false

attribute [local go_sem high] eqA49
mutual
def sawmillref10_Check.j0 : Nat → Int → Bool → Int → List (S49) → Option (Int)
 | 0, _, _, _, _ => none
 | k + 1, x3, x20, x37002000, x37002001 => if x20 = true then (some 9) else (sawmillref10_Check.l0 k x3 0 x37002000 x37002001)
def sawmillref10_Check.l0 : Nat → Int → Int → Int → List (S49) → Option (Int)
 | 0, _, _, _, _ => none
 | k + 1, x3, x4, x37002000, x37002001 => if x4 < x3 then (if 0 ≤ x4 then (if x4 < (x37002001.length : Int) then ((sawmillref10_beyond.f ((rd_T49 x37002001 x4).f0)).bind fun t37003 => (if t37003 = true then (some 9) else ((sawmillref10_beyond.f ((rd_T49 x37002001 x4).f1)).bind fun t37005 => (if t37005 = true then (some 9) else (sawmillref10_Check.l0 k x3 (wrap64 (x4 + 1)) x37002000 x37002001))))) else (none)) else (none)) else (if x3 = 0 then (if x37002000 = 0 then (some 0) else (some 19)) else (if 0 < (x37002001.length : Int) then ((sawmillref10_empty.f ((rd_T49 x37002001 0).f0) ((rd_T49 x37002001 0).f1)).bind fun t37007 => (if t37007 = true then (sawmillref10_Check.j2 k x3 true x37002000 x37002001) else (if 0 ≤ (wrap64 (x3 - 1)) then (if (wrap64 (x3 - 1)) < (x37002001.length : Int) then ((sawmillref10_empty.f ((rd_T49 x37002001 (wrap64 (x3 - 1))).f0) ((rd_T49 x37002001 (wrap64 (x3 - 1))).f1)).bind fun t37009 => (sawmillref10_Check.j2 k x3 t37009 x37002000 x37002001)) else (none)) else (none)))) else (none)))
def sawmillref10_Check.j2 : Nat → Int → Bool → Int → List (S49) → Option (Int)
 | 0, _, _, _, _ => none
 | k + 1, x3, x60, x37002000, x37002001 => if x60 = true then (some 19) else (sawmillref10_Check.l1 k x3 0 x37002000 x37002001)
def sawmillref10_Check.l1 : Nat → Int → Int → Int → List (S49) → Option (Int)
 | 0, _, _, _, _ => none
 | k + 1, x3, x5, x37002000, x37002001 => if x5 < x3 then (if 0 ≤ x5 then (if x5 < (x37002001.length : Int) then ((sawmillref10_empty.f ((rd_T49 x37002001 x5).f0) ((rd_T49 x37002001 x5).f1)).bind fun t37011 => (if t37011 = true then (if (!(((rd_T49 x37002001 x5).f0) == 0) || (!(((rd_T49 x37002001 x5).f1) == 0))) = true then (some 19) else (sawmillref10_Check.l1 k x3 (wrap64 (x5 + 1)) x37002000 x37002001)) else (sawmillref10_Check.l1 k x3 (wrap64 (x5 + 1)) x37002000 x37002001))) else (none)) else (none)) else (some 0)
end
def sawmillref10_Check.f (k : Nat) (a0_0 : Int) (l0_1 : List (S49)) : Option (Int) := if (l0_1.length : Int) > 120 then (some 4) else (if a0_0 < (-60) then (sawmillref10_Check.j0 k (l0_1.length : Int) true a0_0 l0_1) else (sawmillref10_Check.j0 k (l0_1.length : Int) (decide (a0_0 > (wrap64 (60 - (l0_1.length : Int))))) a0_0 l0_1))
theorem sawmillref10_Check.mono_l : ∀ k, (∀ y0 y1 y2 y3, LeO (sawmillref10_Check.j0 k y0 y1 y2 y3) (sawmillref10_Check.j0 (k + 1) y0 y1 y2 y3)) ∧ (∀ y0 y1 y2 y3, LeO (sawmillref10_Check.l0 k y0 y1 y2 y3) (sawmillref10_Check.l0 (k + 1) y0 y1 y2 y3)) ∧ (∀ y0 y1 y2 y3, LeO (sawmillref10_Check.j2 k y0 y1 y2 y3) (sawmillref10_Check.j2 (k + 1) y0 y1 y2 y3)) ∧ (∀ y0 y1 y2 y3, LeO (sawmillref10_Check.l1 k y0 y1 y2 y3) (sawmillref10_Check.l1 (k + 1) y0 y1 y2 y3))
 | 0 => ⟨fun _ _ _ _ r h => by simp [sawmillref10_Check.j0] at h, fun _ _ _ _ r h => by simp [sawmillref10_Check.l0] at h, fun _ _ _ _ r h => by simp [sawmillref10_Check.j2] at h, fun _ _ _ _ r h => by simp [sawmillref10_Check.l1] at h⟩
 | k + 1 => by
  obtain ⟨ih0, ih1, ih2, ih3⟩ := sawmillref10_Check.mono_l k;refine ⟨?_, ?_, ?_, ?_⟩
  ·intro y0 y1 y2 y3;unfold sawmillref10_Check.j0
   repeat' first
   | (with_reducible exact ih0 _ _ _ _)
   | (with_reducible exact ih1 _ _ _ _)
   | (with_reducible exact ih2 _ _ _ _)
   | (with_reducible exact ih3 _ _ _ _)
   | (with_reducible exact LeO.refl _)
   | (with_reducible exact LeO.none _)
   | (with_reducible refine LeO.ite ?_ ?_)
   | (with_reducible refine LeO.bind ?_ (fun _ => ?_))
   | exact ih0 _ _ _ _
   | exact ih1 _ _ _ _
   | exact ih2 _ _ _ _
   | exact ih3 _ _ _ _
   | exact LeO.none _
   | refine LeO.ite ?_ ?_
   | refine LeO.bind ?_ (fun _ => ?_)
  ·intro y0 y1 y2 y3;unfold sawmillref10_Check.l0
   repeat' first
   | (with_reducible exact ih0 _ _ _ _)
   | (with_reducible exact ih1 _ _ _ _)
   | (with_reducible exact ih2 _ _ _ _)
   | (with_reducible exact ih3 _ _ _ _)
   | (with_reducible exact LeO.refl _)
   | (with_reducible exact LeO.none _)
   | (with_reducible refine LeO.ite ?_ ?_)
   | (with_reducible refine LeO.bind ?_ (fun _ => ?_))
   | exact ih0 _ _ _ _
   | exact ih1 _ _ _ _
   | exact ih2 _ _ _ _
   | exact ih3 _ _ _ _
   | exact LeO.none _
   | refine LeO.ite ?_ ?_
   | refine LeO.bind ?_ (fun _ => ?_)
  ·intro y0 y1 y2 y3;unfold sawmillref10_Check.j2
   repeat' first
   | (with_reducible exact ih0 _ _ _ _)
   | (with_reducible exact ih1 _ _ _ _)
   | (with_reducible exact ih2 _ _ _ _)
   | (with_reducible exact ih3 _ _ _ _)
   | (with_reducible exact LeO.refl _)
   | (with_reducible exact LeO.none _)
   | (with_reducible refine LeO.ite ?_ ?_)
   | (with_reducible refine LeO.bind ?_ (fun _ => ?_))
   | exact ih0 _ _ _ _
   | exact ih1 _ _ _ _
   | exact ih2 _ _ _ _
   | exact ih3 _ _ _ _
   | exact LeO.none _
   | refine LeO.ite ?_ ?_
   | refine LeO.bind ?_ (fun _ => ?_)
  ·intro y0 y1 y2 y3;unfold sawmillref10_Check.l1
   repeat' first
   | (with_reducible exact ih0 _ _ _ _)
   | (with_reducible exact ih1 _ _ _ _)
   | (with_reducible exact ih2 _ _ _ _)
   | (with_reducible exact ih3 _ _ _ _)
   | (with_reducible exact LeO.refl _)
   | (with_reducible exact LeO.none _)
   | (with_reducible refine LeO.ite ?_ ?_)
   | (with_reducible refine LeO.bind ?_ (fun _ => ?_))
   | exact ih0 _ _ _ _
   | exact ih1 _ _ _ _
   | exact ih2 _ _ _ _
   | exact ih3 _ _ _ _
   | exact LeO.none _
   | refine LeO.ite ?_ ?_
   | refine LeO.bind ?_ (fun _ => ?_)
theorem sawmillref10_Check.mono : ∀ a0 a1 k, LeO (sawmillref10_Check.f k a0 a1) (sawmillref10_Check.f (k + 1) a0 a1) := by
 intro a0 a1 k;obtain ⟨ih0, ih1, ih2, ih3⟩ := sawmillref10_Check.mono_l k;unfold sawmillref10_Check.f
 repeat' first
   | (with_reducible exact ih0 _ _ _ _)
   | (with_reducible exact ih1 _ _ _ _)
   | (with_reducible exact ih2 _ _ _ _)
   | (with_reducible exact ih3 _ _ _ _)
   | (with_reducible exact LeO.refl _)
   | (with_reducible exact LeO.none _)
   | (with_reducible refine LeO.ite ?_ ?_)
   | (with_reducible refine LeO.bind ?_ (fun _ => ?_))
   | exact ih0 _ _ _ _
   | exact ih1 _ _ _ _
   | exact ih2 _ _ _ _
   | exact ih3 _ _ _ _
   | exact LeO.none _
   | refine LeO.ite ?_ ?_
   | refine LeO.bind ?_ (fun _ => ?_)
set_option maxHeartbeats 8000000 in
set_option maxRecDepth 100000 in
theorem sawmillref10_Check.calls (k : Nat) (a0_0 : Int) (A0_1 : Option Addr) (c0_1 : Nat) (l0_1 : List (S49)) (r : Int) (w : World) (hr0_1 : Kd.C k49 w A0_1 l0_1.length l0_1) (hc0_1 : l0_1.length ≤ c0_1) (h : sawmillref10_Check.f k a0_0 l0_1 = some r) :
  Calls Try.prog 37 #[.agg #[.int .i64 a0_0, .slice A0_1 l0_1.length c0_1]] w fun e w' => e = .returned (.int .i64 r) ∧ Below w.heap.size w w' := by
 have hu24 := Try.underlying24;have hu49 := Try.underlying49;have HR0_1 := Aside0.mk hr0_1;have HC0_1 := Aside0.mk hc0_1;clear hr0_1 hc0_1;have HB := A_ (Below.refl w.heap.size w);have H : (if (l0_1.length : Int) > 120 then (some 4) else (if a0_0 < (-60) then (sawmillref10_Check.j0 k (l0_1.length : Int) true a0_0 l0_1) else (sawmillref10_Check.j0 k (l0_1.length : Int) (decide (a0_0 > (wrap64 (60 - (l0_1.length : Int))))) a0_0 l0_1))) = some r := h;clear h
 by_cases c2 : (l0_1.length : Int) > 120
 ·rw [if_pos c2] at H;have c2b0 : decide (120 < (l0_1.length : Int)) = true := decide_eq_true c2;have c2b1 : decide (120 < l0_1.length) = true := decide_eq_true (by omega);clear c2;obtain rfl := Option.some.inj H;go_enter Try.func37, Try.ntmps37;go_wp2_with (first | ((with_reducible refine gate_dst (N := 1) rfl ?_); refine bx_ 1 (cs := #[.int .i64 a0_0, .slice A0_1 l0_1.length c0_1]) (t := 24) ?_; intro gb37001 hg w3 hbox hb; have BK37001 := A_ hbox; have GW37001 := gz_ (w := w) hg; have GE37001 := gz_ (w := w) hg; replace HB := bA_ hb; clear hb hbox hg; have hcz4_0 := cz0_ BK37001; have hcz4_1 := cz1_ BK37001; have hfz4_0 := fz_ BK37001 0; have hfz4_1 := fz_ BK37001 1));go_ret;exact ⟨er_, be_⟩
 ·rw [if_neg c2] at H;have c2b0 : decide (120 < (l0_1.length : Int)) = false := decide_eq_false c2;have c2b1 : decide (120 < l0_1.length) = false := decide_eq_false (by omega);clear c2;have HC5 := Aside0.mk H;clear H;go_enter Try.func37, Try.ntmps37
  go_upto_region 4 with (first | ((with_reducible refine gate_dst (N := 1) rfl ?_); refine bx_ 1 (cs := #[.int .i64 a0_0, .slice A0_1 l0_1.length c0_1]) (t := 24) ?_; intro gb37001 hg w6 hbox hb; have BK37001 := A_ hbox; have GW37001 := gz_ (w := w) hg; have GE37001 := gz_ (w := w) hg; replace HB := bA_ hb; clear hb hbox hg; have hcz7_0 := cz0_ BK37001; have hcz7_1 := cz1_ BK37001; have hfz7_0 := fz_ BK37001 0; have hfz7_1 := fz_ BK37001 1))
  (try simp only [Act.put, List.setIfInBounds_toArray, List.set_cons_zero, List.set_cons_succ])
  go_cut [20] (fun v20 wc => ∃ (kq : Nat) (x20_4 : Bool), v20 = .bool x20_4 ∧ Aside0 (sawmillref10_Check.j0 kq (l0_1.length : Int) x20_4 a0_0 l0_1 = some r) ∧ Aside0 (kq ≤ k) ∧ Aside0 (wc.heap[gb37001]? = some (.cells #[.int .i64 a0_0, (.slice A0_1 l0_1.length c0_1)] 24 (0, 0))) ∧ Aside0 (Below w.heap.size w wc))
  case first =>
   have H := HC5.out;clear HC5
   by_cases c8 : a0_0 < (-60)
   ·rw [if_pos c8] at H;have c8b0 : decide (a0_0 < (-60)) = true := decide_eq_true c8;clear c8;(first | rw [c8b0] | (simp only [i64_w, i32_w]; rw [c8b0]) | skip);have H' := Aside0.mk H;clear H;have hcz9_0 := cz0_ BK37001;have hcz9_1 := cz1_ BK37001;have hfz9_0 := fz_ BK37001 0;have hfz9_1 := fz_ BK37001 1;go_wp2
    go_meet
    case rel => exact ⟨_, (true), rs_, H', ⟨by first | omega | exact Nat.le_refl _⟩, ⟨fb_ BK37001.out⟩, ⟨be_⟩⟩
   ·rw [if_neg c8] at H;have c8b0 : decide (a0_0 < (-60)) = false := decide_eq_false c8;clear c8;(first | rw [c8b0] | (simp only [i64_w, i32_w]; rw [c8b0]) | skip);have H' := Aside0.mk H;clear H;have hcz10_0 := cz0_ BK37001;have hcz10_1 := cz1_ BK37001;have hfz10_0 := fz_ BK37001 0;have hfz10_1 := fz_ BK37001 1;go_wp2
    go_meet
    case rel => exact ⟨_, (decide (a0_0 > (wrap64 (60 - (l0_1.length : Int))))), rs_, H', ⟨by first | omega | exact Nat.le_refl _⟩, ⟨fb_ BK37001.out⟩, ⟨be_⟩⟩
  case rest =>
   clear HC5;(try clear c2);(try clear c2b0);(try clear c2b1);(try clear p2);(try clear c3);(try clear p6);(try clear c8);(try clear c8b0);(try clear hcz10_0);(try clear hcz10_1);(try clear hcz4_0);(try clear hcz4_1);(try clear hcz7_0);(try clear hcz7_1);(try clear hcz9_0);(try clear hcz9_1);(try clear hfz10_0);(try clear hfz10_1);(try clear hfz4_0);(try clear hfz4_1);(try clear hfz7_0);(try clear hfz7_1);(try clear hfz9_0);(try clear hfz9_1);obtain ⟨kq, x20_4, rfl, HA, HJ4, BK37001, HB⟩ := hcut;cases kq with
   | zero => exact absurd HA.out (by simp [sawmillref10_Check.j0])
   | succ kj4 =>
    have H := HA.out;clear HA;simp only [sawmillref10_Check.j0] at H
    by_cases c11 : x20_4 = true
    ·subst c11;(have H1 : (some 9) = some r := by rw [if_pos rfl] at H; exact H);clear H;have H := H1;clear H1;obtain rfl := Option.some.inj H;go_wp2;go_ret;exact ⟨er_, be_⟩
    ·replace c11 := Bool.eq_false_iff.mpr c11;subst c11;(have H1 : (sawmillref10_Check.l0 kj4 (l0_1.length : Int) 0 a0_0 l0_1) = some r := by rw [if_neg (show ¬ (false = true) by decide)] at H; exact H);clear H;have H := H1;clear H1;have H' := Aside0.mk H;clear H;go_wp2
     go_loopg [4] kj4 (fun kq v4 w' => ∃ (x4_2 : Int), v4 = .int .i64 x4_2 ∧ Aside0 (sawmillref10_Check.l0 kq (l0_1.length : Int) x4_2 a0_0 l0_1 = some r) ∧ Aside0 (kq ≤ kj4) ∧ Aside0 (w'.heap[gb37001]? = some (.cells #[.int .i64 a0_0, (.slice A0_1 l0_1.length c0_1)] 24 (0, 0))) ∧ Aside0 (Below w.heap.size w w'))
     case atStart => exact ⟨(0), rs_, H', ⟨Nat.le_refl _⟩, ⟨fb_ BK37001.out⟩, ⟨be_⟩⟩
     case round =>
      clear H';(try clear c1);(try clear c2);(try clear c2b0);(try clear c2b1);(try clear p2);(try clear c3);(try clear p6);(try clear c8);(try clear c8b0);(try clear c11);(try clear hcz10_0);(try clear hcz10_1);(try clear hcz4_0);(try clear hcz4_1);(try clear hcz7_0);(try clear hcz7_1);(try clear hcz9_0);(try clear hcz9_1);(try clear hfz10_0);(try clear hfz10_1);(try clear hfz4_0);(try clear hfz4_1);(try clear hfz7_0);(try clear hfz7_1);(try clear hfz9_0);(try clear hfz9_1);(try clear p2);(try clear p6);obtain ⟨x4_2, rfl, HA, HK2, BK37001, HB⟩ := hrel;cases gk with
      | zero => exact absurd HA.out (by simp [sawmillref10_Check.l0])
      | succ k2 =>
       have H := HA.out;clear HA;simp only [sawmillref10_Check.l0] at H
       by_cases c12 : x4_2 < (l0_1.length : Int)
       ·rw [if_pos c12] at H;have c12b0 : decide (x4_2 < (l0_1.length : Int)) = true := decide_eq_true c12;clear c12
        by_cases c13 : 0 ≤ x4_2
        ·rw [if_pos c13] at H;have c13b0 : decide (0 ≤ x4_2) = true := decide_eq_true c13;clear c13
         by_cases c14 : x4_2 < (l0_1.length : Int)
         ·rw [if_pos c14] at H;have c14b0 : decide (x4_2 < (l0_1.length : Int)) = true := decide_eq_true c14;clear c14;replace H := Option.bind_eq_some_iff.mp H;obtain ⟨t37003, A150, H⟩ := H;replace H : (if t37003 = true then (some 9) else ((sawmillref10_beyond.f ((rd_T49 l0_1 x4_2).f1)).bind fun t37005 => (if t37005 = true then (some 9) else (sawmillref10_Check.l0 k2 (l0_1.length : Int) (wrap64 (x4_2 + 1)) a0_0 l0_1)))) = some r := H;have A15 := Aside0.mk A150;clear A150
          by_cases c16 : t37003 = true
          ·subst c16;(have H1 : (some 9) = some r := by rw [if_pos rfl] at H; exact H);clear H;have H := H1;clear H1;obtain rfl := Option.some.inj H;have hcz17_0 := cz0_ BK37001;have hcz17_1 := cz1_ BK37001;have hfz17_0 := fz_ BK37001 0;have hfz17_1 := fz_ BK37001 1;have p37002 : 0 ≤ (x4_2 : Int) := as_;have q37002 : x4_2 < (l0_1.length : Int) := as_;obtain ⟨ad37002, e37002, hx37002_0, hx37002_1⟩ := at_T49 HR0_1.out x4_2 p37002 q37002;cases e37002;replace hx37002_0 := bc_ HB hx37002_0;replace hx37002_1 := bc_ HB hx37002_1;replace p37002 := eq_true p37002;replace q37002 := eq_true q37002;go_wp2_with (first | ((with_reducible refine gate_callee (f := 62) rfl ?_); refine goesL_ (some 32) rfl rfl Try.func62 (by kernel_rfl) rfl #[.int .i64 ((rd_T49 l0_1 x4_2).f0)] rfl la_ ?_; (with_reducible refine (sawmillref10_beyond.calls ((rd_T49 l0_1 x4_2).f0) true _ A15.out).mono ?_); rintro e w' ⟨rfl, ⟨nd, rfl⟩⟩; refine ⟨_, rfl, ?_⟩));go_ret;exact ⟨er_, be_⟩
          ·replace c16 := Bool.eq_false_iff.mpr c16;subst c16;(have H1 : ((sawmillref10_beyond.f ((rd_T49 l0_1 x4_2).f1)).bind fun t37005 => (if t37005 = true then (some 9) else (sawmillref10_Check.l0 k2 (l0_1.length : Int) (wrap64 (x4_2 + 1)) a0_0 l0_1))) = some r := by rw [if_neg (show ¬ (false = true) by decide)] at H; exact H);clear H;have H := H1;clear H1;replace H := Option.bind_eq_some_iff.mp H;obtain ⟨t37005, A180, H⟩ := H;replace H : (if t37005 = true then (some 9) else (sawmillref10_Check.l0 k2 (l0_1.length : Int) (wrap64 (x4_2 + 1)) a0_0 l0_1)) = some r := H;have A18 := Aside0.mk A180;clear A180
           by_cases c19 : t37005 = true
           ·subst c19;(have H1 : (some 9) = some r := by rw [if_pos rfl] at H; exact H);clear H;have H := H1;clear H1;obtain rfl := Option.some.inj H;have hcz20_0 := cz0_ BK37001;have hcz20_1 := cz1_ BK37001;have hfz20_0 := fz_ BK37001 0;have hfz20_1 := fz_ BK37001 1;have p37002 : 0 ≤ (x4_2 : Int) := as_;have q37002 : x4_2 < (l0_1.length : Int) := as_;obtain ⟨ad37002, e37002, hx37002_0, hx37002_1⟩ := at_T49 HR0_1.out x4_2 p37002 q37002;cases e37002;replace hx37002_0 := bc_ HB hx37002_0;replace hx37002_1 := bc_ HB hx37002_1;replace p37002 := eq_true p37002;replace q37002 := eq_true q37002;go_wp2_with (first | ((with_reducible refine gate_callee (f := 62) rfl ?_); refine goesL_ (some 32) rfl rfl Try.func62 (by kernel_rfl) rfl #[.int .i64 ((rd_T49 l0_1 x4_2).f0)] rfl la_ ?_; (with_reducible refine (sawmillref10_beyond.calls ((rd_T49 l0_1 x4_2).f0) false _ A15.out).mono ?_); rintro e w' ⟨rfl, ⟨nd, rfl⟩⟩; refine ⟨_, rfl, ?_⟩; have p37004 : 0 ≤ (x4_2 : Int) := as_; have q37004 : x4_2 < (l0_1.length : Int) := as_; obtain ⟨ad37004, e37004, hx37004_0, hx37004_1⟩ := at_T49 HR0_1.out x4_2 p37004 q37004; obtain rfl : ad37002 = ad37004 := (by injection e37004); replace hx37004_0 := bc_ HB hx37004_0; replace hx37004_1 := bc_ HB hx37004_1; replace p37004 := eq_true p37004; replace q37004 := eq_true q37004) | (go_at_call 62; (with_reducible refine (sawmillref10_beyond.calls ((rd_T49 l0_1 x4_2).f1) true _ A18.out).mono ?_); rintro e w' ⟨rfl, ⟨nd, rfl⟩⟩));go_ret;exact ⟨er_, be_⟩
           ·replace c19 := Bool.eq_false_iff.mpr c19;subst c19;(have H1 : (sawmillref10_Check.l0 k2 (l0_1.length : Int) (wrap64 (x4_2 + 1)) a0_0 l0_1) = some r := by rw [if_neg (show ¬ (false = true) by decide)] at H; exact H);clear H;have H := H1;clear H1;have H' := Aside0.mk H;clear H;have hcz21_0 := cz0_ BK37001;have hcz21_1 := cz1_ BK37001;have hfz21_0 := fz_ BK37001 0;have hfz21_1 := fz_ BK37001 1;have p37002 : 0 ≤ (x4_2 : Int) := as_;have q37002 : x4_2 < (l0_1.length : Int) := as_;obtain ⟨ad37002, e37002, hx37002_0, hx37002_1⟩ := at_T49 HR0_1.out x4_2 p37002 q37002;cases e37002;replace hx37002_0 := bc_ HB hx37002_0;replace hx37002_1 := bc_ HB hx37002_1;replace p37002 := eq_true p37002;replace q37002 := eq_true q37002;go_wp2_with (first | ((with_reducible refine gate_callee (f := 62) rfl ?_); refine goesL_ (some 32) rfl rfl Try.func62 (by kernel_rfl) rfl #[.int .i64 ((rd_T49 l0_1 x4_2).f0)] rfl la_ ?_; (with_reducible refine (sawmillref10_beyond.calls ((rd_T49 l0_1 x4_2).f0) false _ A15.out).mono ?_); rintro e w' ⟨rfl, ⟨nd, rfl⟩⟩; refine ⟨_, rfl, ?_⟩; have p37004 : 0 ≤ (x4_2 : Int) := as_; have q37004 : x4_2 < (l0_1.length : Int) := as_; obtain ⟨ad37004, e37004, hx37004_0, hx37004_1⟩ := at_T49 HR0_1.out x4_2 p37004 q37004; obtain rfl : ad37002 = ad37004 := (by injection e37004); replace hx37004_0 := bc_ HB hx37004_0; replace hx37004_1 := bc_ HB hx37004_1; replace p37004 := eq_true p37004; replace q37004 := eq_true q37004) | (go_at_call 62; (with_reducible refine (sawmillref10_beyond.calls ((rd_T49 l0_1 x4_2).f1) false _ A18.out).mono ?_); rintro e w' ⟨rfl, ⟨nd, rfl⟩⟩))
            go_roundg k2
            case measure => have := HJ4.out; have := HK2.out; omega
            case rel => exact ⟨(wrap64 (x4_2 + 1)), rs_, H', ⟨by have := HJ4.out; have := HK2.out; omega⟩, ⟨fb_ BK37001.out⟩, ⟨be_⟩⟩
         ·rw [if_neg c14] at H;exact absurd H (by simp)
        ·rw [if_neg c13] at H;exact absurd H (by simp)
       ·rw [if_neg c12] at H;have c12b0 : decide (x4_2 < (l0_1.length : Int)) = false := decide_eq_false c12;clear c12
        by_cases c22 : (l0_1.length : Int) = 0
        ·rw [if_pos c22] at H;have c22b0 : ((l0_1.length : Int) == 0) = true := beq_iff_eq.mpr c22;have c22b1 : ((l0_1.length : Int) != 0) = false := bne_eq_false_iff_eq.mpr c22;clear c22
         by_cases c23 : a0_0 = 0
         ·rw [if_pos c23] at H;have c23b0 : (a0_0 == 0) = true := beq_iff_eq.mpr c23;have c23b1 : (a0_0 != 0) = false := bne_eq_false_iff_eq.mpr c23;clear c23;obtain rfl := Option.some.inj H;have hcz24_0 := cz0_ BK37001;have hcz24_1 := cz1_ BK37001;have hfz24_0 := fz_ BK37001 0;have hfz24_1 := fz_ BK37001 1;go_wp2;go_ret;exact ⟨er_, be_⟩
         ·rw [if_neg c23] at H;have c23b0 : (a0_0 == 0) = false := beq_eq_false_iff_ne.mpr c23;have c23b1 : (a0_0 != 0) = true := bne_iff_ne.mpr c23;obtain rfl := Option.some.inj H;have hcz25_0 := cz0_ BK37001;have hcz25_1 := cz1_ BK37001;have hfz25_0 := fz_ BK37001 0;have hfz25_1 := fz_ BK37001 1;go_wp2;go_ret;exact ⟨er_, be_⟩
        ·rw [if_neg c22] at H;have c22b0 : ((l0_1.length : Int) == 0) = false := beq_eq_false_iff_ne.mpr c22;have c22b1 : ((l0_1.length : Int) != 0) = true := bne_iff_ne.mpr c22;have c22b2 : ¬ (l0_1 = []) := fun h_ => c22 (by rw [h_]; rfl);have HC26 := Aside0.mk H;clear H
         go_upto_region 15 with (fail)
         go_cut [60] (fun v60 wc => ∃ (kq : Nat) (x60_25 : Bool), v60 = .bool x60_25 ∧ Aside0 (sawmillref10_Check.j2 kq (l0_1.length : Int) x60_25 a0_0 l0_1 = some r) ∧ Aside0 (kq ≤ k2) ∧ Aside0 (wc.heap[gb37001]? = some (.cells #[.int .i64 a0_0, (.slice A0_1 l0_1.length c0_1)] 24 (0, 0))) ∧ Aside0 (Below w.heap.size w wc))
         case first =>
          have H := HC26.out;clear HC26
          by_cases c27 : 0 < (l0_1.length : Int)
          ·rw [if_pos c27] at H;have c27b0 : decide (0 < (l0_1.length : Int)) = true := decide_eq_true c27;have c27b1 : decide (0 < l0_1.length) = true := decide_eq_true (by omega);clear c27;(first | rw [c27b0] | (simp only [i64_w, i32_w]; rw [c27b0]) | skip);replace H := Option.bind_eq_some_iff.mp H;obtain ⟨t37007, A280, H⟩ := H;replace H : (if t37007 = true then (sawmillref10_Check.j2 k2 (l0_1.length : Int) true a0_0 l0_1) else (if 0 ≤ (wrap64 ((l0_1.length : Int) - 1)) then (if (wrap64 ((l0_1.length : Int) - 1)) < (l0_1.length : Int) then ((sawmillref10_empty.f ((rd_T49 l0_1 (wrap64 ((l0_1.length : Int) - 1))).f0) ((rd_T49 l0_1 (wrap64 ((l0_1.length : Int) - 1))).f1)).bind fun t37009 => (sawmillref10_Check.j2 k2 (l0_1.length : Int) t37009 a0_0 l0_1)) else (none)) else (none))) = some r := H;have A28 := Aside0.mk A280;clear A280
           by_cases c29 : t37007 = true
           ·subst c29;(have H1 : (sawmillref10_Check.j2 k2 (l0_1.length : Int) true a0_0 l0_1) = some r := by rw [if_pos rfl] at H; exact H);clear H;have H := H1;clear H1;have H' := Aside0.mk H;clear H;have hcz30_0 := cz0_ BK37001;have hcz30_1 := cz1_ BK37001;have hfz30_0 := fz_ BK37001 0;have hfz30_1 := fz_ BK37001 1;have p37006 : 0 ≤ (0 : Int) := (by omega);have q37006 : 0 < (l0_1.length : Int) := as_;obtain ⟨ad37006, e37006, hx37006_0, hx37006_1⟩ := at_T49 HR0_1.out 0 p37006 q37006;cases e37006;have qi37006 : (0 < l0_1.length) = True := eq_true (by omega);(try rw [show ((0 : Int)).toNat = 0 from rfl] at hx37006_0);(try rw [show 0 * 2 = 0 from rfl] at hx37006_0);(try rw [Addr.add_zero'] at hx37006_0);(try rw [show ((0 : Int)).toNat = 0 from rfl] at hx37006_1);(try rw [show 0 * 2 = 0 from rfl] at hx37006_1);(try rw [Addr.add_zero'] at hx37006_1);replace hx37006_0 := bc_ HB hx37006_0;replace hx37006_1 := bc_ HB hx37006_1;replace p37006 := eq_true p37006;replace q37006 := eq_true q37006;go_wp2_with (first | ((with_reducible refine gate_callee (f := 63) rfl ?_); refine goesL_ (some 51) rfl rfl Try.func63 (by kernel_rfl) rfl #[.agg #[.int .i64 ((rd_T49 l0_1 0).f0), .int .i64 ((rd_T49 l0_1 0).f1)]] rfl la_ ?_; (with_reducible refine (sawmillref10_empty.calls ((rd_T49 l0_1 0).f0) ((rd_T49 l0_1 0).f1) true _ A28.out).mono ?_); rintro e w31 ⟨rfl, hb⟩; refine ⟨_, rfl, ?_⟩; replace BK37001 := bb_ BK37001 hb; replace HB := bA_ hb; (try clear hb)))
            go_meet
            case rel => exact ⟨_, (true), rs_, H', ⟨by have := HJ4.out; have := HK2.out; first | omega | exact Nat.le_refl _⟩, ⟨fb_ BK37001.out⟩, ⟨be_⟩⟩
           ·replace c29 := Bool.eq_false_iff.mpr c29;subst c29;(have H1 : (if 0 ≤ (wrap64 ((l0_1.length : Int) - 1)) then (if (wrap64 ((l0_1.length : Int) - 1)) < (l0_1.length : Int) then ((sawmillref10_empty.f ((rd_T49 l0_1 (wrap64 ((l0_1.length : Int) - 1))).f0) ((rd_T49 l0_1 (wrap64 ((l0_1.length : Int) - 1))).f1)).bind fun t37009 => (sawmillref10_Check.j2 k2 (l0_1.length : Int) t37009 a0_0 l0_1)) else (none)) else (none)) = some r := by rw [if_neg (show ¬ (false = true) by decide)] at H; exact H);clear H;have H := H1;clear H1;obtain ⟨ji32, hji32⟩ : ∃ j_ : Int, (wrap64 ((l0_1.length : Int) - 1)) = j_ := ⟨_, rfl⟩;(replace H : (if 0 ≤ (ji32) then (if (ji32) < (l0_1.length : Int) then ((sawmillref10_empty.f ((rd_T49 l0_1 (ji32)).f0) ((rd_T49 l0_1 (ji32)).f1)).bind fun t37009 => (sawmillref10_Check.j2 k2 (l0_1.length : Int) t37009 a0_0 l0_1)) else (none)) else (none)) = some r := by first | (rw [hji32] at H; exact H) | (simp only [hji32] at H ⊢; exact H));(try rw [hji32] at A28);have hji32w : (IntKind.i64.wrap ((l0_1.length : Int) - 1)) = ji32 := (i64_w _).trans hji32
            by_cases c33 : 0 ≤ (ji32)
            ·rw [if_pos c33] at H;have c33b0 : decide (0 ≤ (ji32)) = true := decide_eq_true c33;clear c33
             by_cases c34 : (ji32) < (l0_1.length : Int)
             ·rw [if_pos c34] at H;have c34b0 : decide ((ji32) < (l0_1.length : Int)) = true := decide_eq_true c34;clear c34;replace H := Option.bind_eq_some_iff.mp H;obtain ⟨t37009, A350, H⟩ := H;replace H : (sawmillref10_Check.j2 k2 (l0_1.length : Int) t37009 a0_0 l0_1) = some r := H;have A35 := Aside0.mk A350;clear A350;have H' := Aside0.mk H;clear H;have hcz36_0 := cz0_ BK37001;have hcz36_1 := cz1_ BK37001;have hfz36_0 := fz_ BK37001 0;have hfz36_1 := fz_ BK37001 1;have p37006 : 0 ≤ (0 : Int) := (by omega);have q37006 : 0 < (l0_1.length : Int) := as_;obtain ⟨ad37006, e37006, hx37006_0, hx37006_1⟩ := at_T49 HR0_1.out 0 p37006 q37006;cases e37006;have qi37006 : (0 < l0_1.length) = True := eq_true (by omega);(try rw [show ((0 : Int)).toNat = 0 from rfl] at hx37006_0);(try rw [show 0 * 2 = 0 from rfl] at hx37006_0);(try rw [Addr.add_zero'] at hx37006_0);(try rw [show ((0 : Int)).toNat = 0 from rfl] at hx37006_1);(try rw [show 0 * 2 = 0 from rfl] at hx37006_1);(try rw [Addr.add_zero'] at hx37006_1);replace hx37006_0 := bc_ HB hx37006_0;replace hx37006_1 := bc_ HB hx37006_1;replace p37006 := eq_true p37006;replace q37006 := eq_true q37006;go_wp2_with (first | ((with_reducible refine gate_callee (f := 63) rfl ?_); refine goesL_ (some 51) rfl rfl Try.func63 (by kernel_rfl) rfl #[.agg #[.int .i64 ((rd_T49 l0_1 0).f0), .int .i64 ((rd_T49 l0_1 0).f1)]] rfl la_ ?_; (with_reducible refine (sawmillref10_empty.calls ((rd_T49 l0_1 0).f0) ((rd_T49 l0_1 0).f1) false _ A28.out).mono ?_); rintro e w37 ⟨rfl, hb⟩; refine ⟨_, rfl, ?_⟩; replace BK37001 := bb_ BK37001 hb; replace HB := bA_ hb; (try clear hb); have hcz38_0 := cz0_ BK37001; have hcz38_1 := cz1_ BK37001; have hfz38_0 := fz_ BK37001 0; have hfz38_1 := fz_ BK37001 1; have p37008 : 0 ≤ ((ji32) : Int) := as_; have q37008 : (ji32) < (l0_1.length : Int) := as_; obtain ⟨ad37008, e37008, hx37008_0, hx37008_1⟩ := at_T49 HR0_1.out (ji32) p37008 q37008; obtain rfl : ad37006 = ad37008 := (by injection e37008); replace hx37008_0 := bc_ HB hx37008_0; replace hx37008_1 := bc_ HB hx37008_1; replace p37008 := eq_true p37008; replace q37008 := eq_true q37008) | (go_at_call 63; (with_reducible refine (sawmillref10_empty.calls ((rd_T49 l0_1 (ji32)).f0) ((rd_T49 l0_1 (ji32)).f1) t37009 _ A35.out).mono ?_); rintro e w39 ⟨rfl, hb⟩; replace BK37001 := bb_ BK37001 hb; replace HB := bA_ hb; (try clear hb)))
              go_meet
              case rel => exact ⟨_, (t37009), rs_, H', ⟨by have := HJ4.out; have := HK2.out; first | omega | exact Nat.le_refl _⟩, ⟨fb_ BK37001.out⟩, ⟨be_⟩⟩
             ·rw [if_neg c34] at H;exact absurd H (by simp)
            ·rw [if_neg c33] at H;exact absurd H (by simp)
          ·rw [if_neg c27] at H;exact absurd H (by simp)
         case rest =>
          clear HC26;(try clear c1);(try clear c2);(try clear c2b0);(try clear c2b1);(try clear p2);(try clear c3);(try clear p3);(try clear q3);(try clear hx3);(try clear qi3);(try clear c6);(try clear p6);(try clear c8);(try clear c8b0);(try clear c11);(try clear c12);(try clear c12b0);(try clear c13);(try clear c13b0);(try clear c14);(try clear c14b0);(try clear c16);(try clear c19);(try clear c22);(try clear c22b0);(try clear c22b1);(try clear c22b2);(try clear c23);(try clear c23b0);(try clear c23b1);(try clear c27);(try clear c27b0);(try clear c27b1);(try clear c29);(try clear c33);(try clear c33b0);(try clear c34);(try clear c34b0);(try clear c37);(try clear p37);(try clear q37);(try clear hx37);(try clear qi37);(try clear hcz10_0);(try clear hcz10_1);(try clear hcz17_0);(try clear hcz17_1);(try clear hcz20_0);(try clear hcz20_1);(try clear hcz21_0);(try clear hcz21_1);(try clear hcz24_0);(try clear hcz24_1);(try clear hcz25_0);(try clear hcz25_1);(try clear hcz30_0);(try clear hcz30_1);(try clear hcz36_0);(try clear hcz36_1);(try clear hcz38_0);(try clear hcz38_1);(try clear hcz4_0);(try clear hcz4_1);(try clear hcz7_0);(try clear hcz7_1);(try clear hcz9_0);(try clear hcz9_1);(try clear hfz10_0);(try clear hfz10_1);(try clear hfz17_0);(try clear hfz17_1);(try clear hfz20_0);(try clear hfz20_1);(try clear hfz21_0);(try clear hfz21_1);(try clear hfz24_0);(try clear hfz24_1);(try clear hfz25_0);(try clear hfz25_1);(try clear hfz30_0);(try clear hfz30_1);(try clear hfz36_0);(try clear hfz36_1);(try clear hfz38_0);(try clear hfz38_1);(try clear hfz4_0);(try clear hfz4_1);(try clear hfz7_0);(try clear hfz7_1);(try clear hfz9_0);(try clear hfz9_1);(try clear hx37002_0);(try clear hx37002_1);(try clear hx37004_0);(try clear hx37004_1);(try clear hx37006_0);(try clear hx37006_1);(try clear hx37008_0);(try clear hx37008_1);(try clear p2);(try clear p37002);(try clear p37004);(try clear p37006);(try clear p37008);(try clear p6);(try clear q37002);(try clear q37004);(try clear q37006);(try clear q37008);obtain ⟨kq, x60_25, rfl, HA, HJ25, BK37001, HB⟩ := hcut;cases kq with
          | zero => exact absurd HA.out (by simp [sawmillref10_Check.j2])
          | succ kj25 =>
           have H := HA.out;clear HA;simp only [sawmillref10_Check.j2] at H
           by_cases c40 : x60_25 = true
           ·subst c40;(have H1 : (some 19) = some r := by rw [if_pos rfl] at H; exact H);clear H;have H := H1;clear H1;obtain rfl := Option.some.inj H;go_wp2;go_ret;exact ⟨er_, be_⟩
           ·replace c40 := Bool.eq_false_iff.mpr c40;subst c40;(have H1 : (sawmillref10_Check.l1 kj25 (l0_1.length : Int) 0 a0_0 l0_1) = some r := by rw [if_neg (show ¬ (false = true) by decide)] at H; exact H);clear H;have H := H1;clear H1;have H' := Aside0.mk H;clear H;go_wp2
            go_loopg [5] kj25 (fun kq v5 w' => ∃ (x5_4 : Int), v5 = .int .i64 x5_4 ∧ Aside0 (sawmillref10_Check.l1 kq (l0_1.length : Int) x5_4 a0_0 l0_1 = some r) ∧ Aside0 (kq ≤ kj25) ∧ Aside0 (w'.heap[gb37001]? = some (.cells #[.int .i64 a0_0, (.slice A0_1 l0_1.length c0_1)] 24 (0, 0))) ∧ Aside0 (Below w.heap.size w w'))
            case atStart => exact ⟨(0), rs_, H', ⟨Nat.le_refl _⟩, ⟨fb_ BK37001.out⟩, ⟨be_⟩⟩
            case round =>
             clear H';(try clear c1);(try clear c2);(try clear c2b0);(try clear c2b1);(try clear p2);(try clear c3);(try clear p3);(try clear q3);(try clear hx3);(try clear qi3);(try clear c4);(try clear c6);(try clear p6);(try clear c8);(try clear c8b0);(try clear c11);(try clear c12);(try clear c12b0);(try clear c13);(try clear c13b0);(try clear c14);(try clear c14b0);(try clear c16);(try clear c19);(try clear c22);(try clear c22b0);(try clear c22b1);(try clear c22b2);(try clear c23);(try clear c23b0);(try clear c23b1);(try clear c27);(try clear c27b0);(try clear c27b1);(try clear c29);(try clear c33);(try clear c33b0);(try clear c34);(try clear c34b0);(try clear c37);(try clear p37);(try clear q37);(try clear hx37);(try clear qi37);(try clear c40);(try clear hcz10_0);(try clear hcz10_1);(try clear hcz17_0);(try clear hcz17_1);(try clear hcz20_0);(try clear hcz20_1);(try clear hcz21_0);(try clear hcz21_1);(try clear hcz24_0);(try clear hcz24_1);(try clear hcz25_0);(try clear hcz25_1);(try clear hcz30_0);(try clear hcz30_1);(try clear hcz36_0);(try clear hcz36_1);(try clear hcz38_0);(try clear hcz38_1);(try clear hcz4_0);(try clear hcz4_1);(try clear hcz7_0);(try clear hcz7_1);(try clear hcz9_0);(try clear hcz9_1);(try clear hfz10_0);(try clear hfz10_1);(try clear hfz17_0);(try clear hfz17_1);(try clear hfz20_0);(try clear hfz20_1);(try clear hfz21_0);(try clear hfz21_1);(try clear hfz24_0);(try clear hfz24_1);(try clear hfz25_0);(try clear hfz25_1);(try clear hfz30_0);(try clear hfz30_1);(try clear hfz36_0);(try clear hfz36_1);(try clear hfz38_0);(try clear hfz38_1);(try clear hfz4_0);(try clear hfz4_1);(try clear hfz7_0);(try clear hfz7_1);(try clear hfz9_0);(try clear hfz9_1);(try clear hx37002_0);(try clear hx37002_1);(try clear hx37004_0);(try clear hx37004_1);(try clear hx37006_0);(try clear hx37006_1);(try clear hx37008_0);(try clear hx37008_1);(try clear p2);(try clear p3);(try clear p37);(try clear p37002);(try clear p37004);(try clear p37006);(try clear p37008);(try clear p6);(try clear q3);(try clear q37);(try clear q37002);(try clear q37004);(try clear q37006);(try clear q37008);obtain ⟨x5_4, rfl, HA, HK4, BK37001, HB⟩ := hrel;cases gk with
             | zero => exact absurd HA.out (by simp [sawmillref10_Check.l1])
             | succ k4 =>
              have H := HA.out;clear HA;simp only [sawmillref10_Check.l1] at H
              by_cases c41 : x5_4 < (l0_1.length : Int)
              ·rw [if_pos c41] at H;have c41b0 : decide (x5_4 < (l0_1.length : Int)) = true := decide_eq_true c41;clear c41
               by_cases c42 : 0 ≤ x5_4
               ·rw [if_pos c42] at H;have c42b0 : decide (0 ≤ x5_4) = true := decide_eq_true c42;clear c42
                by_cases c43 : x5_4 < (l0_1.length : Int)
                ·rw [if_pos c43] at H;have c43b0 : decide (x5_4 < (l0_1.length : Int)) = true := decide_eq_true c43;clear c43;replace H := Option.bind_eq_some_iff.mp H;obtain ⟨t37011, A440, H⟩ := H;replace H : (if t37011 = true then (if (!(((rd_T49 l0_1 x5_4).f0) == 0) || (!(((rd_T49 l0_1 x5_4).f1) == 0))) = true then (some 19) else (sawmillref10_Check.l1 k4 (l0_1.length : Int) (wrap64 (x5_4 + 1)) a0_0 l0_1)) else (sawmillref10_Check.l1 k4 (l0_1.length : Int) (wrap64 (x5_4 + 1)) a0_0 l0_1)) = some r := H;have A44 := Aside0.mk A440;clear A440
                 by_cases c45 : t37011 = true
                 ·subst c45;(have H1 : (if (!(((rd_T49 l0_1 x5_4).f0) == 0) || (!(((rd_T49 l0_1 x5_4).f1) == 0))) = true then (some 19) else (sawmillref10_Check.l1 k4 (l0_1.length : Int) (wrap64 (x5_4 + 1)) a0_0 l0_1)) = some r := by rw [if_pos rfl] at H; exact H);clear H;have H := H1;clear H1
                  by_cases c46 : (!(((rd_T49 l0_1 x5_4).f0) == 0) || (!(((rd_T49 l0_1 x5_4).f1) == 0))) = true
                  ·rw [if_pos c46] at H;have c46b0 : (!(((rd_T49 l0_1 x5_4).f0) == 0) || (!(((rd_T49 l0_1 x5_4).f1) == 0))) = true := c46;clear c46;obtain rfl := Option.some.inj H;have hcz47_0 := cz0_ BK37001;have hcz47_1 := cz1_ BK37001;have hfz47_0 := fz_ BK37001 0;have hfz47_1 := fz_ BK37001 1;have p37010 : 0 ≤ (x5_4 : Int) := as_;have q37010 : x5_4 < (l0_1.length : Int) := as_;obtain ⟨ad37010, e37010, hx37010_0, hx37010_1⟩ := at_T49 HR0_1.out x5_4 p37010 q37010;cases e37010;replace hx37010_0 := bc_ HB hx37010_0;replace hx37010_1 := bc_ HB hx37010_1;replace p37010 := eq_true p37010;replace q37010 := eq_true q37010;go_wp2_with (first | ((with_reducible refine gate_callee (f := 63) rfl ?_); refine goesL_ (some 71) rfl rfl Try.func63 (by kernel_rfl) rfl #[.agg #[.int .i64 ((rd_T49 l0_1 x5_4).f0), .int .i64 ((rd_T49 l0_1 x5_4).f1)]] rfl la_ ?_; (with_reducible refine (sawmillref10_empty.calls ((rd_T49 l0_1 x5_4).f0) ((rd_T49 l0_1 x5_4).f1) true _ A44.out).mono ?_); rintro e w48 ⟨rfl, hb⟩; refine ⟨_, rfl, ?_⟩; replace BK37001 := bb_ BK37001 hb; replace HB := bA_ hb; (try clear hb); have hcz49_0 := cz0_ BK37001; have hcz49_1 := cz1_ BK37001; have hfz49_0 := fz_ BK37001 0; have hfz49_1 := fz_ BK37001 1; have p37012 : 0 ≤ (x5_4 : Int) := as_; have q37012 : x5_4 < (l0_1.length : Int) := as_; obtain ⟨ad37012, e37012, hx37012_0, hx37012_1⟩ := at_T49 HR0_1.out x5_4 p37012 q37012; obtain rfl : ad37010 = ad37012 := (by injection e37012); replace hx37012_0 := bc_ HB hx37012_0; replace hx37012_1 := bc_ HB hx37012_1; replace p37012 := eq_true p37012; replace q37012 := eq_true q37012));go_ret;exact ⟨er_, be_⟩
                  ·rw [if_neg c46] at H;(have c46b0 : (!(((rd_T49 l0_1 x5_4).f0) == 0) || (!(((rd_T49 l0_1 x5_4).f1) == 0))) = false := by simpa using c46);clear c46;have H' := Aside0.mk H;clear H;have hcz50_0 := cz0_ BK37001;have hcz50_1 := cz1_ BK37001;have hfz50_0 := fz_ BK37001 0;have hfz50_1 := fz_ BK37001 1;have p37010 : 0 ≤ (x5_4 : Int) := as_;have q37010 : x5_4 < (l0_1.length : Int) := as_;obtain ⟨ad37010, e37010, hx37010_0, hx37010_1⟩ := at_T49 HR0_1.out x5_4 p37010 q37010;cases e37010;replace hx37010_0 := bc_ HB hx37010_0;replace hx37010_1 := bc_ HB hx37010_1;replace p37010 := eq_true p37010;replace q37010 := eq_true q37010;go_wp2_with (first | ((with_reducible refine gate_callee (f := 63) rfl ?_); refine goesL_ (some 71) rfl rfl Try.func63 (by kernel_rfl) rfl #[.agg #[.int .i64 ((rd_T49 l0_1 x5_4).f0), .int .i64 ((rd_T49 l0_1 x5_4).f1)]] rfl la_ ?_; (with_reducible refine (sawmillref10_empty.calls ((rd_T49 l0_1 x5_4).f0) ((rd_T49 l0_1 x5_4).f1) true _ A44.out).mono ?_); rintro e w51 ⟨rfl, hb⟩; refine ⟨_, rfl, ?_⟩; replace BK37001 := bb_ BK37001 hb; replace HB := bA_ hb; (try clear hb); have hcz52_0 := cz0_ BK37001; have hcz52_1 := cz1_ BK37001; have hfz52_0 := fz_ BK37001 0; have hfz52_1 := fz_ BK37001 1; have p37012 : 0 ≤ (x5_4 : Int) := as_; have q37012 : x5_4 < (l0_1.length : Int) := as_; obtain ⟨ad37012, e37012, hx37012_0, hx37012_1⟩ := at_T49 HR0_1.out x5_4 p37012 q37012; obtain rfl : ad37010 = ad37012 := (by injection e37012); replace hx37012_0 := bc_ HB hx37012_0; replace hx37012_1 := bc_ HB hx37012_1; replace p37012 := eq_true p37012; replace q37012 := eq_true q37012))
                   go_roundg k4
                   case measure => have := HJ4.out; have := HK2.out; have := HJ25.out; have := HK4.out; omega
                   case rel => exact ⟨(wrap64 (x5_4 + 1)), rs_, H', ⟨by have := HJ4.out; have := HK2.out; have := HJ25.out; have := HK4.out; omega⟩, ⟨fb_ BK37001.out⟩, ⟨be_⟩⟩
                 ·replace c45 := Bool.eq_false_iff.mpr c45;subst c45;(have H1 : (sawmillref10_Check.l1 k4 (l0_1.length : Int) (wrap64 (x5_4 + 1)) a0_0 l0_1) = some r := by rw [if_neg (show ¬ (false = true) by decide)] at H; exact H);clear H;have H := H1;clear H1;have H' := Aside0.mk H;clear H;have hcz53_0 := cz0_ BK37001;have hcz53_1 := cz1_ BK37001;have hfz53_0 := fz_ BK37001 0;have hfz53_1 := fz_ BK37001 1;have p37010 : 0 ≤ (x5_4 : Int) := as_;have q37010 : x5_4 < (l0_1.length : Int) := as_;obtain ⟨ad37010, e37010, hx37010_0, hx37010_1⟩ := at_T49 HR0_1.out x5_4 p37010 q37010;cases e37010;replace hx37010_0 := bc_ HB hx37010_0;replace hx37010_1 := bc_ HB hx37010_1;replace p37010 := eq_true p37010;replace q37010 := eq_true q37010;go_wp2_with (first | ((with_reducible refine gate_callee (f := 63) rfl ?_); refine goesL_ (some 71) rfl rfl Try.func63 (by kernel_rfl) rfl #[.agg #[.int .i64 ((rd_T49 l0_1 x5_4).f0), .int .i64 ((rd_T49 l0_1 x5_4).f1)]] rfl la_ ?_; (with_reducible refine (sawmillref10_empty.calls ((rd_T49 l0_1 x5_4).f0) ((rd_T49 l0_1 x5_4).f1) false _ A44.out).mono ?_); rintro e w54 ⟨rfl, hb⟩; refine ⟨_, rfl, ?_⟩; replace BK37001 := bb_ BK37001 hb; replace HB := bA_ hb; (try clear hb)))
                  go_roundg k4
                  case measure => have := HJ4.out; have := HK2.out; have := HJ25.out; have := HK4.out; omega
                  case rel => exact ⟨(wrap64 (x5_4 + 1)), rs_, H', ⟨by have := HJ4.out; have := HK2.out; have := HJ25.out; have := HK4.out; omega⟩, ⟨fb_ BK37001.out⟩, ⟨be_⟩⟩
                ·rw [if_neg c43] at H;exact absurd H (by simp)
               ·rw [if_neg c42] at H;exact absurd H (by simp)
              ·rw [if_neg c41] at H;have c41b0 : decide (x5_4 < (l0_1.length : Int)) = false := decide_eq_false c41;clear c41;obtain rfl := Option.some.inj H;go_wp2;go_ret;exact ⟨er_, be_⟩

end Go.Proofs.Ytdbjoopkliafeaa.P

end
section
namespace Go.Proofs.Ytdbjoopkliafeaa.P
open Go Go.RowKit Go.Proofs.YtdbjoopkliafeaaW.PrintWords Go.Proofs.YtdbjoopkliafeaaW.PrintLast Go.Proofs.YtdbjoopkliafeaaW.PrintMore
attribute [local go_sem] max2_int min2_int max_two min_two max_three min_three max_four min_four max_five min_eight max_eight   -- for this text's walks alone
set_option linter.unusedVariables false
set_option linter.unusedSimpArgs false

def sawmillref10_Valid.f (k : Nat) (a0_0 : Int) (l0_1 : List (S49)) : Option (Int × (List (S49))) := (sawmillref10_Check.f k a0_0 l0_1).bind fun t64003 => (if t64003 = 0 then (some (a0_0, l0_1)) else (some (0, ([] : List (S49)))))
theorem sawmillref10_Valid.mono : ∀ a0 a1 k, LeO (sawmillref10_Valid.f k a0 a1) (sawmillref10_Valid.f (k + 1) a0 a1) := by
 intro a0 a1 k;unfold sawmillref10_Valid.f
 repeat' first
   | (with_reducible exact sawmillref10_Check.mono _ _ _)
   | (with_reducible exact LeO.refl _)
   | (with_reducible exact LeO.none _)
   | (with_reducible refine LeO.ite ?_ ?_)
   | (with_reducible refine LeO.bind ?_ (fun _ => ?_))
   | exact sawmillref10_Check.mono _ _ _
   | exact LeO.none _
   | refine LeO.ite ?_ ?_
   | refine LeO.bind ?_ (fun _ => ?_)
set_option maxHeartbeats 8000000 in
set_option maxRecDepth 100000 in
theorem sawmillref10_Valid.calls (k : Nat) (a0_0 : Int) (P0_1_ : Nat → Prop) (A0_1 : Option Addr) (c0_1 : Nat) (l0_1 : List (S49)) (r1 : Int) (r2 : List (S49)) (w : World) (hs0_1 : Kd.V k49 49 w w.heap.size (fun k_ => P0_1_ k_) (.slice A0_1 l0_1.length c0_1) l0_1) (h : sawmillref10_Valid.f k a0_0 l0_1 = some (r1, r2)) :
  Calls Try.prog 64 #[.agg #[.int .i64 a0_0, .slice A0_1 l0_1.length c0_1]] w fun e w' => ∃ v1_ : Value, e = .returned (.agg #[.int .i64 r1, v1_]) ∧ Kd.V k49 49 w' w.heap.size (fun k_ => (P0_1_ k_ ∨ w.heap.size ≤ k_)) v1_ r2 ∧ Below w.heap.size w w' := by
 have hu24 := Try.underlying24;have HO0_1 := A_ (show Kd.V k49 49 w w.heap.size (fun k_ => (P0_1_ k_ ∨ w.heap.size ≤ k_)) (.slice A0_1 l0_1.length c0_1) l0_1 from Kd.V_mono hs0_1 (fun k_ hk => .inl hk));have HB := A_ (Below.refl w.heap.size w);have H : ((sawmillref10_Check.f k a0_0 l0_1).bind fun t64003 => (if t64003 = 0 then (some (a0_0, l0_1)) else (some (0, ([] : List (S49)))))) = some (r1, r2) := h;clear h;replace H := Option.bind_eq_some_iff.mp H;obtain ⟨t64003, A20, H⟩ := H;replace H : (if t64003 = 0 then (some (a0_0, l0_1)) else (some (0, ([] : List (S49))))) = some (r1, r2) := H;have A2 := Aside0.mk A20;clear A20
 by_cases c3 : t64003 = 0
 ·rw [if_pos c3] at H;have c3b0 : (t64003 == 0) = true := beq_iff_eq.mpr c3;have c3b1 : (t64003 != 0) = false := bne_eq_false_iff_eq.mpr c3;clear c3;simp only [Option.some.injEq, Prod.mk.injEq] at H;obtain ⟨rfl, rfl⟩ := H;go_enter Try.func64, Try.ntmps64;go_wp2_with (first | ((with_reducible refine gate_dst (N := 1) rfl ?_); refine bx_ 1 (cs := #[.int .i64 a0_0, .slice A0_1 l0_1.length c0_1]) (t := 24) ?_; intro gb64001 hg w4 hbox hb; replace HO0_1 := A_ (Kd.V_below (Kd.V_elderB (fV_ HO0_1.out) gb64001 (Nat.le_of_eq hg.symm)) hb); have BK64001 := A_ hbox; have GW64001 := gz_ (w := w) hg; have GE64001 := gz_ (w := w) hg; replace HB := bA_ hb; clear hb hbox hg) | ((with_reducible refine gate_dst (N := 2) rfl ?_); refine bx_ 2 (cs := #[.int .i64 0, .slice none 0 0]) (t := 24) ?_; intro gb64002 hg w5 hbox hb; replace HO0_1 := A_ (Kd.V_below (Kd.V_elderB (fV_ HO0_1.out) gb64002 (Nat.le_of_eq hg.symm)) hb); have BK64002 := A_ hbox; have GW64002 := gz_ (w := w) hg; have GE64002 := gz_ (w := w) hg; replace HB := bA_ hb; have NB64001_64002 := nlt_ BK64001 hg; have NB64002_64001 := ngt_ BK64001 hg; replace BK64001 := bb_ BK64001 hb; clear hb hbox hg; have hnb6 := NB64001_64002.out; have hnc6 := NB64002_64001.out; have hcz7_0 := cz0_ BK64001; have hcz7_1 := cz1_ BK64001; have hfz7_0 := fz_ BK64001 0; have hfz7_1 := fz_ BK64001 1) | ((with_reducible refine gate_callee (f := 37) rfl ?_); refine goesL_ (some 4) rfl rfl Try.func37 (by kernel_rfl) rfl #[.agg #[.int .i64 a0_0, .slice A0_1 l0_1.length c0_1]] rfl la_ ?_; (with_reducible refine (sawmillref10_Check.calls k a0_0 _ _ l0_1 t64003 _ ?side1 ?side2 A2.out).mono ?_); (case side1 => exact csC_ ((Kd.V_reads' HO0_1.out).2.2)); (case side2 => exact (Kd.V_reads' HO0_1.out).2.1); rintro e w8 ⟨rfl, hb⟩; refine ⟨_, rfl, ?_⟩; replace HO0_1 := kV_ HO0_1 hb; replace BK64001 := bb_ BK64001 hb; replace BK64002 := bb_ BK64002 hb; replace HB := bA_ hb; (try clear hb); (try clear hk); have hcz9_0 := cz0_ BK64001; have hcz9_1 := cz1_ BK64001; have hfz9_0 := fz_ BK64001 0; have hfz9_1 := fz_ BK64001 1; have hcz10_0 := cz0_ BK64002; have hcz10_1 := cz1_ BK64002; have hfz10_0 := fz_ BK64002 0; have hfz10_1 := fz_ BK64002 1));refine bodyPost_ret (results_cell_row rfl _ _ gb64002 24 #[.int .i64 a0_0, .slice A0_1 l0_1.length c0_1] (0, 0) _ rfl (ch_ BK64002) Try.underlying24 rfl (by kernel_rfl)) rfl ?_;exact ⟨_, er_, by (with_reducible repeat (first | apply Kd.V_alloc | apply Kd.V_drewN | apply Kd.V_drew)); exact Kd.V_mono (Kd.V_far (p := ⟨gb64002, 1, none⟩) (Kd.V_far (p := ⟨gb64002, 0, none⟩) (Kd.V_mono HO0_1.out (fun k_ hk => (⟨hk, hk.2⟩ : _ ∧ k_ ≠ gb64002))) (fun _ hk => hk.2) (.int .i64 a0_0)) (fun _ hk => hk.2) (.slice A0_1 l0_1.length c0_1)) (fun _ hk => hk.1.1.1), be_⟩
 ·rw [if_neg c3] at H;have c3b0 : (t64003 == 0) = false := beq_eq_false_iff_ne.mpr c3;have c3b1 : (t64003 != 0) = true := bne_iff_ne.mpr c3;simp only [Option.some.injEq, Prod.mk.injEq] at H;obtain ⟨rfl, rfl⟩ := H;go_enter Try.func64, Try.ntmps64;go_wp2_with (first | ((with_reducible refine gate_dst (N := 1) rfl ?_); refine bx_ 1 (cs := #[.int .i64 a0_0, .slice A0_1 l0_1.length c0_1]) (t := 24) ?_; intro gb64001 hg w11 hbox hb; replace HO0_1 := A_ (Kd.V_below (Kd.V_elderB (fV_ HO0_1.out) gb64001 (Nat.le_of_eq hg.symm)) hb); have BK64001 := A_ hbox; have GW64001 := gz_ (w := w) hg; have GE64001 := gz_ (w := w) hg; replace HB := bA_ hb; clear hb hbox hg) | ((with_reducible refine gate_dst (N := 2) rfl ?_); refine bx_ 2 (cs := #[.int .i64 0, .slice none 0 0]) (t := 24) ?_; intro gb64002 hg w12 hbox hb; replace HO0_1 := A_ (Kd.V_below (Kd.V_elderB (fV_ HO0_1.out) gb64002 (Nat.le_of_eq hg.symm)) hb); have BK64002 := A_ hbox; have GW64002 := gz_ (w := w) hg; have GE64002 := gz_ (w := w) hg; replace HB := bA_ hb; have NB64001_64002 := nlt_ BK64001 hg; have NB64002_64001 := ngt_ BK64001 hg; replace BK64001 := bb_ BK64001 hb; clear hb hbox hg; have hnb13 := NB64001_64002.out; have hnc13 := NB64002_64001.out; have hcz14_0 := cz0_ BK64001; have hcz14_1 := cz1_ BK64001; have hfz14_0 := fz_ BK64001 0; have hfz14_1 := fz_ BK64001 1) | ((with_reducible refine gate_callee (f := 37) rfl ?_); refine goesL_ (some 4) rfl rfl Try.func37 (by kernel_rfl) rfl #[.agg #[.int .i64 a0_0, .slice A0_1 l0_1.length c0_1]] rfl la_ ?_; (with_reducible refine (sawmillref10_Check.calls k a0_0 _ _ l0_1 t64003 _ ?side1 ?side2 A2.out).mono ?_); (case side1 => exact csC_ ((Kd.V_reads' HO0_1.out).2.2)); (case side2 => exact (Kd.V_reads' HO0_1.out).2.1); rintro e w15 ⟨rfl, hb⟩; refine ⟨_, rfl, ?_⟩; replace HO0_1 := kV_ HO0_1 hb; replace BK64001 := bb_ BK64001 hb; replace BK64002 := bb_ BK64002 hb; replace HB := bA_ hb; (try clear hb); (try clear hk); have hcz16_0 := cz0_ BK64002; have hcz16_1 := cz1_ BK64002; have hfz16_0 := fz_ BK64002 0; have hfz16_1 := fz_ BK64002 1));refine bodyPost_ret (results_cell_row rfl _ _ gb64002 24 #[.int .i64 0, .slice none 0 0] (0, 0) _ rfl (ch_ BK64002) Try.underlying24 rfl (by kernel_rfl)) rfl ?_;exact ⟨_, er_, Kd.V_nil _ _ _ _ _, be_⟩

end Go.Proofs.Ytdbjoopkliafeaa.P

end
section
namespace Go.Proofs.Ytdbjoopkliafeaa.P
open Go Go.RowKit Go.Proofs.YtdbjoopkliafeaaW.PrintWords Go.Proofs.YtdbjoopkliafeaaW.PrintLast Go.Proofs.YtdbjoopkliafeaaW.PrintMore
attribute [local go_sem] max2_int min2_int max_two min_two max_three min_three max_four min_four max_five min_eight max_eight   -- for this text's walks alone
set_option linter.unusedVariables false
set_option linter.unusedSimpArgs false

def sawmillref10_Area.l0 : Nat → Int → Int → Int → List (S49) → Option (Int)
 | 0, _, _, _, _ => none
 | k + 1, x3, x4, x38002000, x38002001 => if x4 < (x38002001.length : Int) then (if 0 ≤ x4 then (sawmillref10_Area.l0 k (wrap64 (x3 + (wrap64 (10 * (wrap64 (((rd_T49 x38002001 x4).f1) - ((rd_T49 x38002001 x4).f0))))))) (wrap64 (x4 + 1)) x38002000 x38002001) else (none)) else (some x3)
def sawmillref10_Area.f (k : Nat) (a0_0 : Int) (l0_1 : List (S49)) : Option (Int) := (sawmillref10_Valid.f k a0_0 l0_1).bind fun bt38002 => (sawmillref10_Area.l0 k 0 0 bt38002.1 bt38002.2)
theorem sawmillref10_Area.mono_l : ∀ k, (∀ y0 y1 y2 y3, LeO (sawmillref10_Area.l0 k y0 y1 y2 y3) (sawmillref10_Area.l0 (k + 1) y0 y1 y2 y3))
 | 0 => fun _ _ _ _ r h => by simp [sawmillref10_Area.l0] at h
 | k + 1 => by
  have ih0 := sawmillref10_Area.mono_l k
  ·intro y0 y1 y2 y3;unfold sawmillref10_Area.l0
   repeat' first
   | (with_reducible exact ih0 _ _ _ _)
   | (with_reducible exact sawmillref10_Valid.mono _ _ _)
   | (with_reducible exact LeO.refl _)
   | (with_reducible exact LeO.none _)
   | (with_reducible refine LeO.ite ?_ ?_)
   | (with_reducible refine LeO.bind ?_ (fun _ => ?_))
   | exact ih0 _ _ _ _
   | exact sawmillref10_Valid.mono _ _ _
   | exact LeO.none _
   | refine LeO.ite ?_ ?_
   | refine LeO.bind ?_ (fun _ => ?_)
theorem sawmillref10_Area.mono : ∀ a0 a1 k, LeO (sawmillref10_Area.f k a0 a1) (sawmillref10_Area.f (k + 1) a0 a1) := by
 intro a0 a1 k;have ih0 := sawmillref10_Area.mono_l k;unfold sawmillref10_Area.f
 repeat' first
   | (with_reducible exact ih0 _ _ _ _)
   | (with_reducible exact sawmillref10_Valid.mono _ _ _)
   | (with_reducible exact LeO.refl _)
   | (with_reducible exact LeO.none _)
   | (with_reducible refine LeO.ite ?_ ?_)
   | (with_reducible refine LeO.bind ?_ (fun _ => ?_))
   | exact ih0 _ _ _ _
   | exact sawmillref10_Valid.mono _ _ _
   | exact LeO.none _
   | refine LeO.ite ?_ ?_
   | refine LeO.bind ?_ (fun _ => ?_)
set_option maxHeartbeats 8000000 in
set_option maxRecDepth 100000 in
theorem sawmillref10_Area.calls (k : Nat) (a0_0 : Int) (A0_1 : Option Addr) (c0_1 : Nat) (l0_1 : List (S49)) (r : Int) (w : World) (hr0_1 : Kd.C k49 w A0_1 l0_1.length l0_1) (hc0_1 : l0_1.length ≤ c0_1) (h : sawmillref10_Area.f k a0_0 l0_1 = some r) :
  Calls Try.prog 38 #[.agg #[.int .i64 a0_0, .slice A0_1 l0_1.length c0_1]] w fun e w' => e = .returned (.int .i64 r) ∧ Below w.heap.size w w' := by
 have hu24 := Try.underlying24;have HR0_1 := Aside0.mk hr0_1;have HC0_1 := Aside0.mk hc0_1;clear hr0_1 hc0_1;have HB := A_ (Below.refl w.heap.size w);have H : ((sawmillref10_Valid.f k a0_0 l0_1).bind fun bt38002 => (sawmillref10_Area.l0 k 0 0 bt38002.1 bt38002.2)) = some r := h;clear h;replace H := Option.bind_eq_some_iff.mp H;obtain ⟨⟨t38002, t38003⟩, A20, H⟩ := H;replace H : (sawmillref10_Area.l0 k 0 0 t38002 t38003) = some r := H;have A2 := Aside0.mk A20;clear A20;have H' := Aside0.mk H;clear H;go_enter Try.func38, Try.ntmps38;go_wp2_with (first | ((with_reducible refine gate_dst (N := 1) rfl ?_); refine bx_ 1 (cs := #[.int .i64 a0_0, .slice A0_1 l0_1.length c0_1]) (t := 24) ?_; intro gb38001 hg w3 hbox hb; have BK38001 := A_ hbox; have GW38001 := gz_ (w := w) hg; have GE38001 := gz_ (w := w) hg; replace HB := bA_ hb; clear hb hbox hg; have hcz4_0 := cz0_ BK38001; have hcz4_1 := cz1_ BK38001; have hfz4_0 := fz_ BK38001 0; have hfz4_1 := fz_ BK38001 1) | (go_at_call 64; (with_reducible refine (sawmillref10_Valid.calls k a0_0 (fun k_ => k_ < w.heap.size) _ _ l0_1 t38002 t38003 _ ?side1 A2.out).mono ?_); (case side1 => exact Kd.V_mk HC0_1.out (Kd.F_below (Kd.C_F k49_heap HR0_1.out) be_)); rintro e w5 ⟨v38004, rfl, ho0, hb⟩; have HO38005 := A_ (Kd.V_lower (Kd.V_mono (ok' := fun k_ => k_ ≠ gb38001) ho0 (fun k_ hk_ => Or.elim hk_ (fun hs_ => fun e_ => Nat.not_le.2 hs_ (by rw [e_]; exact GW38001.out)) (fun hn_ => (Kd.freshB (g := gb38001) (o := .cells #[.int .i64 a0_0, .slice A0_1 l0_1.length c0_1] 24 (0, 0)) (fb_ BK38001.out) k_ hn_)))) bz_); replace BK38001 := bb_ BK38001 hb; replace HB := bA_ hb; (try clear hb); (try clear hk); (try clear ho0); have hcz6_0 := cz0_ BK38001; have hcz6_1 := cz1_ BK38001; have hfz6_0 := fz_ BK38001 0; have hfz6_1 := fz_ BK38001 1; obtain ⟨Ao7, co7, eo7⟩ := Kd.V_slice HO38005.out; subst eo7))
 repeat (go_quiet (first | ((with_reducible refine gate_dst (N := 1) rfl ?_); refine bx_ 1 (cs := #[.int .i64 a0_0, .slice A0_1 l0_1.length c0_1]) (t := 24) ?_; intro gb38001 hg w3 hbox hb; have BK38001 := A_ hbox; have GW38001 := gz_ (w := w) hg; have GE38001 := gz_ (w := w) hg; replace HB := bA_ hb; clear hb hbox hg; have hcz4_0 := cz0_ BK38001; have hcz4_1 := cz1_ BK38001; have hfz4_0 := fz_ BK38001 0; have hfz4_1 := fz_ BK38001 1) | (go_at_call 64; (with_reducible refine (sawmillref10_Valid.calls k a0_0 (fun k_ => k_ < w.heap.size) _ _ l0_1 t38002 t38003 _ ?side1 A2.out).mono ?_); (case side1 => exact Kd.V_mk HC0_1.out (Kd.F_below (Kd.C_F k49_heap HR0_1.out) be_)); rintro e w5 ⟨v38004, rfl, ho0, hb⟩; have HO38005 := A_ (Kd.V_lower (Kd.V_mono (ok' := fun k_ => k_ ≠ gb38001) ho0 (fun k_ hk_ => Or.elim hk_ (fun hs_ => fun e_ => Nat.not_le.2 hs_ (by rw [e_]; exact GW38001.out)) (fun hn_ => (Kd.freshB (g := gb38001) (o := .cells #[.int .i64 a0_0, .slice A0_1 l0_1.length c0_1] 24 (0, 0)) (fb_ BK38001.out) k_ hn_)))) bz_); replace BK38001 := bb_ BK38001 hb; replace HB := bA_ hb; (try clear hb); (try clear hk); (try clear ho0); have hcz6_0 := cz0_ BK38001; have hcz6_1 := cz1_ BK38001; have hfz6_0 := fz_ BK38001 0; have hfz6_1 := fz_ BK38001 1; obtain ⟨Ao7, co7, eo7⟩ := Kd.V_slice HO38005.out; subst eo7)); try go_wp2_with (first | ((with_reducible refine gate_dst (N := 1) rfl ?_); refine bx_ 1 (cs := #[.int .i64 a0_0, .slice A0_1 l0_1.length c0_1]) (t := 24) ?_; intro gb38001 hg w3 hbox hb; have BK38001 := A_ hbox; have GW38001 := gz_ (w := w) hg; have GE38001 := gz_ (w := w) hg; replace HB := bA_ hb; clear hb hbox hg; have hcz4_0 := cz0_ BK38001; have hcz4_1 := cz1_ BK38001; have hfz4_0 := fz_ BK38001 0; have hfz4_1 := fz_ BK38001 1) | (go_at_call 64; (with_reducible refine (sawmillref10_Valid.calls k a0_0 (fun k_ => k_ < w.heap.size) _ _ l0_1 t38002 t38003 _ ?side1 A2.out).mono ?_); (case side1 => exact Kd.V_mk HC0_1.out (Kd.F_below (Kd.C_F k49_heap HR0_1.out) be_)); rintro e w5 ⟨v38004, rfl, ho0, hb⟩; have HO38005 := A_ (Kd.V_lower (Kd.V_mono (ok' := fun k_ => k_ ≠ gb38001) ho0 (fun k_ hk_ => Or.elim hk_ (fun hs_ => fun e_ => Nat.not_le.2 hs_ (by rw [e_]; exact GW38001.out)) (fun hn_ => (Kd.freshB (g := gb38001) (o := .cells #[.int .i64 a0_0, .slice A0_1 l0_1.length c0_1] 24 (0, 0)) (fb_ BK38001.out) k_ hn_)))) bz_); replace BK38001 := bb_ BK38001 hb; replace HB := bA_ hb; (try clear hb); (try clear hk); (try clear ho0); have hcz6_0 := cz0_ BK38001; have hcz6_1 := cz1_ BK38001; have hfz6_0 := fz_ BK38001 0; have hfz6_1 := fz_ BK38001 1; obtain ⟨Ao7, co7, eo7⟩ := Kd.V_slice HO38005.out; subst eo7)))
 go_loopg [3, 4] k (fun kq v3 v4 w' => ∃ (x3_1 : Int) (x4_1 : Int), v3 = .int .i64 x3_1 ∧ v4 = .int .i64 x4_1 ∧ Aside0 (sawmillref10_Area.l0 kq x3_1 x4_1 t38002 t38003 = some r) ∧ Aside0 (kq ≤ k) ∧ Aside0 (Kd.V k49 49 w' w.heap.size (fun k_ => k_ ≠ gb38001) (.slice Ao7 t38003.length co7) t38003) ∧ Aside0 (w'.heap[gb38001]? = some (.cells #[.int .i64 t38002, (.slice Ao7 t38003.length co7)] 24 (0, 0))) ∧ Aside0 (Below w.heap.size w w'))
 case atStart => exact ⟨(0), (0), rs_, rs_, H', ⟨Nat.le_refl _⟩, ⟨by (with_reducible repeat (first | apply Kd.V_alloc | apply Kd.V_drewN | apply Kd.V_drew)); exact Kd.V_mono (Kd.V_far (p := ⟨gb38001, 1, none⟩) (Kd.V_far (p := ⟨gb38001, 0, none⟩) (Kd.V_mono HO38005.out (fun k_ hk => (⟨hk, hk⟩ : _ ∧ k_ ≠ gb38001))) (fun _ hk => hk.2) (.int .i64 t38002)) (fun _ hk => hk.2) (.slice Ao7 t38003.length co7)) (fun _ hk => hk.1)⟩, ⟨ch_ BK38001⟩, ⟨be_⟩⟩
 case round =>
  clear H';(try clear p2);(try clear c3);(try clear hcz4_0);(try clear hcz4_1);(try clear hcz6_0);(try clear hcz6_1);(try clear hfz4_0);(try clear hfz4_1);(try clear hfz6_0);(try clear hfz6_1);obtain ⟨x3_1, x4_1, rfl, rfl, HA, HK1, HO_38002001, BK38001, HB⟩ := hrel;cases gk with
  | zero => exact absurd HA.out (by simp [sawmillref10_Area.l0])
  | succ k1 =>
   have H := HA.out;clear HA;simp only [sawmillref10_Area.l0] at H
   by_cases c8 : x4_1 < (t38003.length : Int)
   ·rw [if_pos c8] at H;have c8b0 : decide (x4_1 < (t38003.length : Int)) = true := decide_eq_true c8;clear c8
    by_cases c9 : 0 ≤ x4_1
    ·rw [if_pos c9] at H;have c9b0 : decide (0 ≤ x4_1) = true := decide_eq_true c9;clear c9;have H' := Aside0.mk H;clear H;have hcz10_0 := cz0_ BK38001;have hcz10_1 := cz1_ BK38001;have hfz10_0 := fz_ BK38001 0;have hfz10_1 := fz_ BK38001 1;have p38006 : 0 ≤ (x4_1 : Int) := as_;have q38006 : x4_1 < (t38003.length : Int) := as_;obtain ⟨ad38006, e38006, hx38006_0, hx38006_1⟩ := at_T49 (Kd.V_reads' HO_38002001.out).2.2 x4_1 p38006 q38006;cases e38006;replace p38006 := eq_true p38006;replace q38006 := eq_true q38006;have p38007 : 0 ≤ (x4_1 : Int) := as_;have q38007 : x4_1 < (t38003.length : Int) := as_;obtain ⟨ad38007, e38007, hx38007_0, hx38007_1⟩ := at_T49 (Kd.V_reads' HO_38002001.out).2.2 x4_1 p38007 q38007;obtain rfl : ad38006 = ad38007 := (by injection e38007);replace p38007 := eq_true p38007;replace q38007 := eq_true q38007;go_wp2
     repeat (go_quiet (fail); try go_wp2)
     go_roundg k1
     case measure => have := HK1.out; omega
     case rel => exact ⟨(wrap64 (x3_1 + (wrap64 (10 * (wrap64 (((rd_T49 t38003 x4_1).f1) - ((rd_T49 t38003 x4_1).f0))))))), (wrap64 (x4_1 + 1)), rs_, rs_, H', ⟨by have := HK1.out; omega⟩, ⟨fV_ HO_38002001.out⟩, ⟨fb_ BK38001.out⟩, ⟨be_⟩⟩
    ·rw [if_neg c9] at H;exact absurd H (by simp)
   ·rw [if_neg c8] at H;have c8b0 : decide (x4_1 < (t38003.length : Int)) = false := decide_eq_false c8;clear c8;obtain rfl := Option.some.inj H;have hcz11_0 := cz0_ BK38001;have hcz11_1 := cz1_ BK38001;have hfz11_0 := fz_ BK38001 0;have hfz11_1 := fz_ BK38001 1;go_wp2
    repeat (go_quiet (fail); try go_wp2)
    go_ret;exact ⟨er_, be_⟩

end Go.Proofs.Ytdbjoopkliafeaa.P

end
section
namespace Go.Proofs.Ytdbjoopkliafeaa.P
open Go Go.RowKit Go.Proofs.YtdbjoopkliafeaaW.PrintWords Go.Proofs.YtdbjoopkliafeaaW.PrintLast Go.Proofs.YtdbjoopkliafeaaW.PrintMore
attribute [local go_sem] max2_int min2_int max_two min_two max_three min_three max_four min_four max_five min_eight max_eight   -- for this text's walks alone
set_option linter.unusedVariables false
set_option linter.unusedSimpArgs false

def sawmillref10_Bounds.l0 : Nat → Int → Int → List (S49) → Int → Int → Option (Int × Int × Int × Int)
 | 0, _, _, _, _, _ => none
 | k + 1, x4, x66002000, x66002001, x66009000, x66009001 => if x4 < (x66002001.length : Int) then (if 0 ≤ x4 then ((sawmillref10_empty.f ((rd_T49 x66002001 x4).f0) ((rd_T49 x66002001 x4).f1)).bind fun t66010 => (if t66010 = true then (sawmillref10_Bounds.l0 k (wrap64 (x4 + 1)) x66002000 x66002001 x66009000 x66009001) else (sawmillref10_Bounds.l0 k (wrap64 (x4 + 1)) x66002000 x66002001 (mn x66009000 ((rd_T49 x66002001 x4).f0)) (mx x66009001 ((rd_T49 x66002001 x4).f1))))) else (none)) else (some (x66009000, x66009001, wrap64 (10 * x66002000), wrap64 (10 * (wrap64 (x66002000 + (x66002001.length : Int))))))
def sawmillref10_Bounds.f (k : Nat) (a0_0 : Int) (l0_1 : List (S49)) : Option (Int × Int × Int × Int) := (sawmillref10_Valid.f k a0_0 l0_1).bind fun bt66003 => (if (bt66003.2.length : Int) = 0 then (some (0, 0, 0, 0)) else (if 0 < (bt66003.2.length : Int) then (sawmillref10_Bounds.l0 k 0 bt66003.1 bt66003.2 ((rd_T49 bt66003.2 0).f0) ((rd_T49 bt66003.2 0).f1)) else (none)))
theorem sawmillref10_Bounds.mono_l : ∀ k, (∀ y0 y1 y2 y3 y4, LeO (sawmillref10_Bounds.l0 k y0 y1 y2 y3 y4) (sawmillref10_Bounds.l0 (k + 1) y0 y1 y2 y3 y4))
 | 0 => fun _ _ _ _ _ r h => by simp [sawmillref10_Bounds.l0] at h
 | k + 1 => by
  have ih0 := sawmillref10_Bounds.mono_l k
  ·intro y0 y1 y2 y3 y4;unfold sawmillref10_Bounds.l0
   repeat' first
   | (with_reducible exact ih0 _ _ _ _ _)
   | (with_reducible exact sawmillref10_Valid.mono _ _ _)
   | (with_reducible exact LeO.refl _)
   | (with_reducible exact LeO.none _)
   | (with_reducible refine LeO.ite ?_ ?_)
   | (with_reducible refine LeO.bind ?_ (fun _ => ?_))
   | exact ih0 _ _ _ _ _
   | exact sawmillref10_Valid.mono _ _ _
   | exact LeO.none _
   | refine LeO.ite ?_ ?_
   | refine LeO.bind ?_ (fun _ => ?_)
theorem sawmillref10_Bounds.mono : ∀ a0 a1 k, LeO (sawmillref10_Bounds.f k a0 a1) (sawmillref10_Bounds.f (k + 1) a0 a1) := by
 intro a0 a1 k;have ih0 := sawmillref10_Bounds.mono_l k;unfold sawmillref10_Bounds.f
 repeat' first
   | (with_reducible exact ih0 _ _ _ _ _)
   | (with_reducible exact sawmillref10_Valid.mono _ _ _)
   | (with_reducible exact LeO.refl _)
   | (with_reducible exact LeO.none _)
   | (with_reducible refine LeO.ite ?_ ?_)
   | (with_reducible refine LeO.bind ?_ (fun _ => ?_))
   | exact ih0 _ _ _ _ _
   | exact sawmillref10_Valid.mono _ _ _
   | exact LeO.none _
   | refine LeO.ite ?_ ?_
   | refine LeO.bind ?_ (fun _ => ?_)
def sawmillref10_Bounds.T9 : Bool × List (List Nat × List Nat) := (true, [([], []), ([0], [0]), ([], []), ([2], [2]), ([], []), ([3, 4], [3, 4]), ([5], [5]), ([6], [6]), ([1, 7], [1, 7]), ([], []), ([9], [9]), ([], []), ([11], [11]), ([], []), ([12, 13], [12, 13]), ([14], [14]), ([15], [15]), ([10, 16], [10, 16]), ([8, 17], [8, 17]), ([18, 0, 1, 2, 3, 4, 5, 6, 7, 8, 9, 10, 11, 12, 13, 14, 15, 16, 17, 18], [18])])
def sawmillref10_Bounds.B9 : List Nat := [0, 1, 0, 4, 0, 28, 60, 124, 255, 0, 512, 0, 2048, 0, 14336, 30720, 63488, 130560, 262143, 524287]
theorem sawmillref10_Bounds.tab9 : rtab .any (opsOf Try.f66 9) = sawmillref10_Bounds.T9 := by kernel_rfl
theorem sawmillref10_Bounds.bits9 : waitsOk sawmillref10_Bounds.T9.2 sawmillref10_Bounds.B9 = true := by kernel_rfl
set_option maxHeartbeats 8000000 in
set_option maxRecDepth 100000 in
theorem sawmillref10_Bounds.calls (k : Nat) (a0_0 : Int) (A0_1 : Option Addr) (c0_1 : Nat) (l0_1 : List (S49)) (r1 : Int) (r2 : Int) (r3 : Int) (r4 : Int) (w : World) (hr0_1 : Kd.C k49 w A0_1 l0_1.length l0_1) (hc0_1 : l0_1.length ≤ c0_1) (h : sawmillref10_Bounds.f k a0_0 l0_1 = some (r1, r2, r3, r4)) :
  Calls Try.prog 66 #[.agg #[.int .i64 a0_0, .slice A0_1 l0_1.length c0_1]] w fun e w' => e = .returned (.agg #[.int .i64 r1, .int .i64 r2, .int .i64 r3, .int .i64 r4]) ∧ Below w.heap.size w w' := by
 have hu24 := Try.underlying24;have hu54 := Try.underlying54;have hu49 := Try.underlying49;have HR0_1 := Aside0.mk hr0_1;have HC0_1 := Aside0.mk hc0_1;clear hr0_1 hc0_1;have HB := A_ (Below.refl w.heap.size w);have H : ((sawmillref10_Valid.f k a0_0 l0_1).bind fun bt66003 => (if (bt66003.2.length : Int) = 0 then (some (0, 0, 0, 0)) else (if 0 < (bt66003.2.length : Int) then (sawmillref10_Bounds.l0 k 0 bt66003.1 bt66003.2 ((rd_T49 bt66003.2 0).f0) ((rd_T49 bt66003.2 0).f1)) else (none)))) = some (r1, r2, r3, r4) := h;clear h;replace H := Option.bind_eq_some_iff.mp H;obtain ⟨⟨t66003, t66004⟩, A20, H⟩ := H;replace H : (if (t66004.length : Int) = 0 then (some (0, 0, 0, 0)) else (if 0 < (t66004.length : Int) then (sawmillref10_Bounds.l0 k 0 t66003 t66004 ((rd_T49 t66004 0).f0) ((rd_T49 t66004 0).f1)) else (none))) = some (r1, r2, r3, r4) := H;have A2 := Aside0.mk A20;clear A20
 by_cases c3 : (t66004.length : Int) = 0
 ·rw [if_pos c3] at H;have c3b0 : ((t66004.length : Int) == 0) = true := beq_iff_eq.mpr c3;have c3b1 : ((t66004.length : Int) != 0) = false := bne_eq_false_iff_eq.mpr c3;clear c3;simp only [Option.some.injEq, Prod.mk.injEq] at H;obtain ⟨rfl, rfl, rfl, rfl⟩ := H;go_enter Try.func66, Try.ntmps66;go_wp2_with (first | ((with_reducible refine gate_dst (N := 1) rfl ?_); refine bx_ 1 (cs := #[.int .i64 a0_0, .slice A0_1 l0_1.length c0_1]) (t := 24) ?_; intro gb66001 hg w4 hbox hb; have BK66001 := A_ hbox; have GW66001 := gz_ (w := w) hg; have GE66001 := gz_ (w := w) hg; replace HB := bA_ hb; clear hb hbox hg) | ((with_reducible refine gate_dst (N := 2) rfl ?_); refine bx_ 2 (cs := #[.int .i64 0, .int .i64 0, .int .i64 0, .int .i64 0]) (t := 54) ?_; intro gb66002 hg w5 hbox hb; have BK66002 := A_ hbox; have GW66002 := gz_ (w := w) hg; have GE66002 := gz_ (w := w) hg; replace HB := bA_ hb; have NB66001_66002 := nlt_ BK66001 hg; have NB66002_66001 := ngt_ BK66001 hg; replace BK66001 := bb_ BK66001 hb; clear hb hbox hg; have hnb6 := NB66001_66002.out; have hnc6 := NB66002_66001.out; have hcz7_0 := cz0_ BK66001; have hcz7_1 := cz1_ BK66001; have hfz7_0 := fz_ BK66001 0; have hfz7_1 := fz_ BK66001 1) | ((with_reducible refine gate_callee (f := 64) rfl ?_); refine goesL_ (some 6) rfl rfl Try.func64 (by kernel_rfl) rfl #[.agg #[.int .i64 a0_0, .slice A0_1 l0_1.length c0_1]] rfl la_ ?_; (with_reducible refine (sawmillref10_Valid.calls k a0_0 (fun k_ => k_ < w.heap.size) _ _ l0_1 t66003 t66004 _ ?side1 A2.out).mono ?_); (case side1 => exact Kd.V_mk HC0_1.out (Kd.F_below (Kd.C_F k49_heap HR0_1.out) be_)); rintro e w8 ⟨v66005, rfl, ho0, hb⟩; refine ⟨_, rfl, ?_⟩; have HO66006 := A_ (Kd.V_lower (Kd.V_mono (ok' := fun k_ => k_ ≠ gb66001 ∧ k_ ≠ gb66002) ho0 (fun k_ hk_ => ⟨Or.elim hk_ (fun hs_ => fun e_ => Nat.not_le.2 hs_ (by rw [e_]; exact GW66001.out)) (fun hn_ => (Kd.freshB (g := gb66001) (o := .cells #[.int .i64 a0_0, .slice A0_1 l0_1.length c0_1] 24 (0, 0)) (fb_ BK66001.out) k_ hn_)), Or.elim hk_ (fun hs_ => fun e_ => Nat.not_le.2 hs_ (by rw [e_]; exact GW66002.out)) (fun hn_ => (Kd.freshB (g := gb66002) (o := .cells #[.int .i64 0, .int .i64 0, .int .i64 0, .int .i64 0] 54 (0, 0)) (fb_ BK66002.out) k_ hn_))⟩)) bz_); replace BK66001 := bb_ BK66001 hb; replace BK66002 := bb_ BK66002 hb; replace HB := bA_ hb; (try clear hb); (try clear hk); (try clear ho0); have hcz9_0 := cz0_ BK66001; have hcz9_1 := cz1_ BK66001; have hfz9_0 := fz_ BK66001 0; have hfz9_1 := fz_ BK66001 1; obtain ⟨Ao10, co10, eo10⟩ := Kd.V_slice HO66006.out; subst eo10; have hcz11_0 := cz0_ BK66002; have hcz11_1 := cz1_ BK66002; have hcz11_2 := cz2_ BK66002; have hcz11_3 := cz3_ BK66002; have hfz11_0 := fz_ BK66002 0; have hfz11_1 := fz_ BK66002 1; have hfz11_2 := fz_ BK66002 2; have hfz11_3 := fz_ BK66002 3));refine bodyPost_ret (results_cell_row rfl _ _ gb66002 54 #[.int .i64 0, .int .i64 0, .int .i64 0, .int .i64 0] (0, 0) _ rfl (ch_ BK66002) Try.underlying54 rfl (by kernel_rfl)) rfl ?_;exact ⟨er_, be_⟩
 ·rw [if_neg c3] at H;have c3b0 : ((t66004.length : Int) == 0) = false := beq_eq_false_iff_ne.mpr c3;have c3b1 : ((t66004.length : Int) != 0) = true := bne_iff_ne.mpr c3;have c3b2 : ¬ (t66004 = []) := fun h_ => c3 (by rw [h_]; rfl)
  by_cases c12 : 0 < (t66004.length : Int)
  ·rw [if_pos c12] at H;have c12b0 : decide (0 < (t66004.length : Int)) = true := decide_eq_true c12;have c12b1 : decide (0 < t66004.length) = true := decide_eq_true (by omega);clear c12;have H' := Aside0.mk H;clear H;go_enter Try.func66, Try.ntmps66
   go_wp2_with (first | ((with_reducible refine gate_dst (N := 1) rfl ?_); refine bx_ 1 (cs := #[.int .i64 a0_0, .slice A0_1 l0_1.length c0_1]) (t := 24) ?_; intro gb66001 hg w13 hbox hb; have BK66001 := A_ hbox; have GW66001 := gz_ (w := w) hg; have GE66001 := gz_ (w := w) hg; replace HB := bA_ hb; clear hb hbox hg) | ((with_reducible refine gate_dst (N := 2) rfl ?_); refine bx_ 2 (cs := #[.int .i64 0, .int .i64 0, .int .i64 0, .int .i64 0]) (t := 54) ?_; intro gb66002 hg w14 hbox hb; have BK66002 := A_ hbox; have GW66002 := gz_ (w := w) hg; have GE66002 := gz_ (w := w) hg; replace HB := bA_ hb; have NB66001_66002 := nlt_ BK66001 hg; have NB66002_66001 := ngt_ BK66001 hg; replace BK66001 := bb_ BK66001 hb; clear hb hbox hg; have hnb15 := NB66001_66002.out; have hnc15 := NB66002_66001.out; have hcz16_0 := cz0_ BK66001; have hcz16_1 := cz1_ BK66001; have hfz16_0 := fz_ BK66001 0; have hfz16_1 := fz_ BK66001 1) | ((with_reducible refine gate_callee (f := 64) rfl ?_); refine goesL_ (some 6) rfl rfl Try.func64 (by kernel_rfl) rfl #[.agg #[.int .i64 a0_0, .slice A0_1 l0_1.length c0_1]] rfl la_ ?_; (with_reducible refine (sawmillref10_Valid.calls k a0_0 (fun k_ => k_ < w.heap.size) _ _ l0_1 t66003 t66004 _ ?side1 A2.out).mono ?_); (case side1 => exact Kd.V_mk HC0_1.out (Kd.F_below (Kd.C_F k49_heap HR0_1.out) be_)); rintro e w17 ⟨v66005, rfl, ho0, hb⟩; refine ⟨_, rfl, ?_⟩; have HO66006 := A_ (Kd.V_lower (Kd.V_mono (ok' := fun k_ => k_ ≠ gb66001 ∧ k_ ≠ gb66002) ho0 (fun k_ hk_ => ⟨Or.elim hk_ (fun hs_ => fun e_ => Nat.not_le.2 hs_ (by rw [e_]; exact GW66001.out)) (fun hn_ => (Kd.freshB (g := gb66001) (o := .cells #[.int .i64 a0_0, .slice A0_1 l0_1.length c0_1] 24 (0, 0)) (fb_ BK66001.out) k_ hn_)), Or.elim hk_ (fun hs_ => fun e_ => Nat.not_le.2 hs_ (by rw [e_]; exact GW66002.out)) (fun hn_ => (Kd.freshB (g := gb66002) (o := .cells #[.int .i64 0, .int .i64 0, .int .i64 0, .int .i64 0] 54 (0, 0)) (fb_ BK66002.out) k_ hn_))⟩)) bz_); replace BK66001 := bb_ BK66001 hb; replace BK66002 := bb_ BK66002 hb; replace HB := bA_ hb; (try clear hb); (try clear hk); (try clear ho0); have hcz18_0 := cz0_ BK66001; have hcz18_1 := cz1_ BK66001; have hfz18_0 := fz_ BK66001 0; have hfz18_1 := fz_ BK66001 1; obtain ⟨Ao19, co19, eo19⟩ := Kd.V_slice HO66006.out; subst eo19; have p66007 : 0 ≤ (0 : Int) := (by omega); have q66007 : 0 < (t66004.length : Int) := as_; obtain ⟨ad66007, e66007, hx66007_0, hx66007_1⟩ := at_T49 (Kd.V_reads' HO66006.out).2.2 0 p66007 q66007; cases e66007; have qi66007 : (0 < t66004.length) = True := eq_true (by omega); (try rw [show ((0 : Int)).toNat = 0 from rfl] at hx66007_0); (try rw [show 0 * 2 = 0 from rfl] at hx66007_0); (try rw [Addr.add_zero'] at hx66007_0); (try rw [show ((0 : Int)).toNat = 0 from rfl] at hx66007_1); (try rw [show 0 * 2 = 0 from rfl] at hx66007_1); (try rw [Addr.add_zero'] at hx66007_1); have hn66007_0 : ad66007.block ≠ gb66001 := (by have z_ := (Kd.F_in (Kd.V_F HO66006.out) rfl (by omega) (by decide)); first | exact z_ | exact z_.1 | exact z_.2 | exact z_.1.1 | exact z_.1.2 | exact z_.2.1 | exact z_.2.2 | exact z_.1.1.1 | exact z_.1.1.2 | exact z_.2.2.1 | exact z_.2.2.2); have hn66007_1 : ad66007.block ≠ gb66001 := (by have z_ := (Kd.F_in (Kd.V_F HO66006.out) rfl (by omega) (by decide)); first | exact z_ | exact z_.1 | exact z_.2 | exact z_.1.1 | exact z_.1.2 | exact z_.2.1 | exact z_.2.2 | exact z_.1.1.1 | exact z_.1.1.2 | exact z_.2.2.1 | exact z_.2.2.2); replace hx66007_0 := (cell_far (p := ⟨gb66001, 0, none⟩) (by first | (rw [add_block]; exact hn66007_0) | (show (Addr.add _ _).block ≠ _; rw [add_block]; exact hn66007_0) | exact hn66007_0) (.int .i64 t66003)).trans hx66007_0; replace hx66007_1 := (cell_far (p := ⟨gb66001, 0, none⟩) (by first | (rw [add_block]; exact hn66007_0) | (show (Addr.add _ _).block ≠ _; rw [add_block]; exact hn66007_0) | exact hn66007_0) (.int .i64 t66003)).trans hx66007_1; replace hx66007_0 := (cell_far (p := ⟨gb66001, 1, none⟩) (by first | (rw [add_block]; exact hn66007_1) | (show (Addr.add _ _).block ≠ _; rw [add_block]; exact hn66007_1) | exact hn66007_1) (.slice (some ad66007) t66004.length co19)).trans hx66007_0; replace hx66007_1 := (cell_far (p := ⟨gb66001, 1, none⟩) (by first | (rw [add_block]; exact hn66007_1) | (show (Addr.add _ _).block ≠ _; rw [add_block]; exact hn66007_1) | exact hn66007_1) (.slice (some ad66007) t66004.length co19)).trans hx66007_1; clear hn66007_0 hn66007_1; replace p66007 := eq_true p66007; replace q66007 := eq_true q66007) | ((with_reducible refine gate_dst (N := 3) rfl ?_); refine bx_ 3 (cs := #[.int .i64 0, .int .i64 0]) (t := 49) ?_; intro gb66008 hg w20 hbox hb; replace HO66006 := A_ (Kd.V_below (Kd.V_elderB (by (with_reducible repeat (first | apply Kd.V_alloc | apply Kd.V_drewN | apply Kd.V_drew)); exact (Kd.V_mono (Kd.V_far (p := ⟨gb66001, 1, none⟩) (Kd.V_far (p := ⟨gb66001, 0, none⟩) (Kd.V_mono HO66006.out (fun k_ hk => (⟨hk, hk.1⟩ : _ ∧ k_ ≠ gb66001))) (fun _ hk => hk.2) (.int .i64 t66003)) (fun _ hk => hk.2) (.slice (some ad66007) t66004.length co19)) (fun _ h_ => h_.1))) gb66008 (Nat.le_of_eq hg.symm)) hb); have BK66008 := A_ hbox; have GW66008 := gz_ (w := w) hg; have GE66008 := gz_ (w := w) hg; replace HB := bA_ hb; have NB66001_66008 := nlt0_ (g := gb66001) (o := .cells #[.int .i64 t66003, .slice (some ad66007) t66004.length co19] 24 (0, 0)) (ch_ BK66001) hg; have NB66008_66001 := ngt0_ (g := gb66001) (o := .cells #[.int .i64 t66003, .slice (some ad66007) t66004.length co19] 24 (0, 0)) (ch_ BK66001) hg; replace BK66001 := A_ (blk_below (g := gb66001) (o := .cells #[.int .i64 t66003, .slice (some ad66007) t66004.length co19] 24 (0, 0)) (ch_ BK66001) hb); have NB66002_66008 := nlt0_ (g := gb66002) (o := .cells #[.int .i64 0, .int .i64 0, .int .i64 0, .int .i64 0] 54 (0, 0)) (ch_ BK66002) hg; have NB66008_66002 := ngt0_ (g := gb66002) (o := .cells #[.int .i64 0, .int .i64 0, .int .i64 0, .int .i64 0] 54 (0, 0)) (ch_ BK66002) hg; replace BK66002 := A_ (blk_below (g := gb66002) (o := .cells #[.int .i64 0, .int .i64 0, .int .i64 0, .int .i64 0] 54 (0, 0)) (ch_ BK66002) hb); clear hb hbox hg; have hnb21 := NB66008_66001.out; have hnc21 := NB66001_66008.out; have hnb22 := NB66008_66002.out; have hnc22 := NB66002_66008.out; have hcz23_0 := cz0_ BK66008; have hcz23_1 := cz1_ BK66008; have hfz23_0 := fz_ BK66008 0; have hfz23_1 := fz_ BK66008 1))
   go_loopg [4] k (fun kq v4 w' => ∃ (x4_1 : Int) (x66009000_1 : Int) (x66009001_1 : Int), v4 = .int .i64 x4_1 ∧ Aside0 (sawmillref10_Bounds.l0 kq x4_1 t66003 t66004 x66009000_1 x66009001_1 = some (r1, r2, r3, r4)) ∧ Aside0 (kq ≤ k) ∧ Aside0 (Kd.V k49 49 w' w.heap.size (fun k_ => k_ ≠ gb66001 ∧ k_ ≠ gb66002 ∧ k_ ≠ gb66008) (.slice (some ad66007) t66004.length co19) t66004) ∧ Aside0 (w'.heap[gb66001]? = some (.cells #[.int .i64 t66003, (.slice (some ad66007) t66004.length co19)] 24 (0, 0))) ∧ Aside0 (w'.heap[gb66002]? = some (.cells #[.int .i64 0, .int .i64 0, .int .i64 0, .int .i64 0] 54 (0, 0))) ∧ Aside0 (w'.heap[gb66008]? = some (.cells #[.int .i64 x66009000_1, .int .i64 x66009001_1] 49 (0, 0))) ∧ Aside0 (Below w.heap.size w w'))
   case atStart => exact ⟨(0), ((rd_T49 t66004 0).f0), ((rd_T49 t66004 0).f1), rs_, H', ⟨Nat.le_refl _⟩, ⟨by (with_reducible repeat (first | apply Kd.V_alloc | apply Kd.V_drewN | apply Kd.V_drew)); exact Kd.V_mono (Kd.V_far (p := ⟨gb66008, 1, none⟩) (Kd.V_far (p := ⟨gb66008, 0, none⟩) (Kd.V_mono HO66006.out (fun k_ hk => (⟨hk, hk.2⟩ : _ ∧ k_ ≠ gb66008))) (fun _ hk => hk.2) (.int .i64 ((rd_T49 t66004 0).f0))) (fun _ hk => hk.2) (.int .i64 ((rd_T49 t66004 0).f1))) (fun _ hk => ⟨hk.1.1.1, ⟨hk.1.1.2, hk.1.2⟩⟩)⟩, ⟨ch_ BK66001⟩, ⟨ch_ BK66002⟩, ⟨ch_ BK66008⟩, ⟨be_⟩⟩
   case round =>
    clear H';(try clear c1);(try clear c2);(try clear p2);(try clear c3);(try clear c3b0);(try clear c3b1);(try clear c3b2);(try clear c6);(try clear p6);(try clear q6);(try clear hx6);(try clear qi6);(try clear c12);(try clear c12b0);(try clear c12b1);(try clear c15);(try clear c21);(try clear c22);(try clear hcz11_0);(try clear hcz11_1);(try clear hcz11_2);(try clear hcz11_3);(try clear hcz16_0);(try clear hcz16_1);(try clear hcz18_0);(try clear hcz18_1);(try clear hcz23_0);(try clear hcz23_1);(try clear hcz7_0);(try clear hcz7_1);(try clear hcz9_0);(try clear hcz9_1);(try clear hfz11_0);(try clear hfz11_1);(try clear hfz11_2);(try clear hfz11_3);(try clear hfz16_0);(try clear hfz16_1);(try clear hfz18_0);(try clear hfz18_1);(try clear hfz23_0);(try clear hfz23_1);(try clear hfz7_0);(try clear hfz7_1);(try clear hfz9_0);(try clear hfz9_1);(try clear hx66007_0);(try clear hx66007_1);(try clear p66007);(try clear q66007);obtain ⟨x4_1, x66009000_1, x66009001_1, rfl, HA, HK1, HO_66002001, BK66001, BK66002, BK66008, HB⟩ := hrel;cases gk with
    | zero => exact absurd HA.out (by simp [sawmillref10_Bounds.l0])
    | succ k1 =>
     have H := HA.out;clear HA;simp only [sawmillref10_Bounds.l0] at H
     by_cases c24 : x4_1 < (t66004.length : Int)
     ·rw [if_pos c24] at H;have c24b0 : decide (x4_1 < (t66004.length : Int)) = true := decide_eq_true c24;clear c24
      by_cases c25 : 0 ≤ x4_1
      ·rw [if_pos c25] at H;have c25b0 : decide (0 ≤ x4_1) = true := decide_eq_true c25;clear c25;replace H := Option.bind_eq_some_iff.mp H;obtain ⟨t66010, A260, H⟩ := H;replace H : (if t66010 = true then (sawmillref10_Bounds.l0 k1 (wrap64 (x4_1 + 1)) t66003 t66004 x66009000_1 x66009001_1) else (sawmillref10_Bounds.l0 k1 (wrap64 (x4_1 + 1)) t66003 t66004 (mn x66009000_1 ((rd_T49 t66004 x4_1).f0)) (mx x66009001_1 ((rd_T49 t66004 x4_1).f1)))) = some (r1, r2, r3, r4) := H;have A26 := Aside0.mk A260;clear A260
       by_cases c27 : t66010 = true
       ·subst c27;(have H1 : (sawmillref10_Bounds.l0 k1 (wrap64 (x4_1 + 1)) t66003 t66004 x66009000_1 x66009001_1) = some (r1, r2, r3, r4) := by rw [if_pos rfl] at H; exact H);clear H;have H := H1;clear H1;have H' := Aside0.mk H;clear H;have hnb28 := NB66001_66002.out;have hnc28 := NB66002_66001.out;have hnb29 := NB66001_66008.out;have hnc29 := NB66008_66001.out;have hcz30_0 := cz0_ BK66001;have hcz30_1 := cz1_ BK66001;have hfz30_0 := fz_ BK66001 0;have hfz30_1 := fz_ BK66001 1;have p66009 : 0 ≤ (x4_1 : Int) := as_;have q66009 : x4_1 < (t66004.length : Int) := as_;obtain ⟨ad66009, e66009, hx66009_0, hx66009_1⟩ := at_T49 (Kd.V_reads' HO_66002001.out).2.2 x4_1 p66009 q66009;obtain rfl : ad66007 = ad66009 := (by injection e66009);replace p66009 := eq_true p66009;replace q66009 := eq_true q66009;go_wp2_with (first | ((with_reducible refine gate_callee (f := 63) rfl ?_); refine goesL_ (some 28) rfl rfl Try.func63 (by kernel_rfl) rfl #[.agg #[.int .i64 ((rd_T49 t66004 x4_1).f0), .int .i64 ((rd_T49 t66004 x4_1).f1)]] rfl la_ ?_; (with_reducible refine (sawmillref10_empty.calls ((rd_T49 t66004 x4_1).f0) ((rd_T49 t66004 x4_1).f1) true _ A26.out).mono ?_); rintro e w31 ⟨rfl, hb⟩; refine ⟨_, rfl, ?_⟩; replace HO_66002001 := kV_ HO_66002001 hb; replace BK66001 := bb_ BK66001 hb; replace BK66002 := bb_ BK66002 hb; replace BK66008 := bb_ BK66008 hb; replace HB := bA_ hb; (try clear hb); (try clear hk)))
        go_roundg k1
        case measure => have := HK1.out; omega
        case rel => exact ⟨(wrap64 (x4_1 + 1)), (x66009000_1), (x66009001_1), rs_, H', ⟨by have := HK1.out; omega⟩, ⟨fV_ HO_66002001.out⟩, ⟨fb_ BK66001.out⟩, ⟨fb_ BK66002.out⟩, ⟨fb_ BK66008.out⟩, ⟨be_⟩⟩
       ·replace c27 := Bool.eq_false_iff.mpr c27;subst c27;(have H1 : (sawmillref10_Bounds.l0 k1 (wrap64 (x4_1 + 1)) t66003 t66004 (mn x66009000_1 ((rd_T49 t66004 x4_1).f0)) (mx x66009001_1 ((rd_T49 t66004 x4_1).f1))) = some (r1, r2, r3, r4) := by rw [if_neg (show ¬ (false = true) by decide)] at H; exact H);clear H;have H := H1;clear H1;obtain ⟨ji32, hji32⟩ : ∃ j_ : Int, (mn x66009000_1 ((rd_T49 t66004 x4_1).f0)) = j_ := ⟨_, rfl⟩;(replace H : (sawmillref10_Bounds.l0 k1 (wrap64 (x4_1 + 1)) t66003 t66004 ji32 (mx x66009001_1 ((rd_T49 t66004 x4_1).f1))) = some (r1, r2, r3, r4) := by first | (rw [hji32] at H; exact H) | (simp only [hji32] at H ⊢; exact H));(try rw [hji32] at A26);have hji32_ : (if ((rd_T49 t66004 x4_1).f0) < x66009000_1 then ((rd_T49 t66004 x4_1).f0) else x66009000_1) = ji32 := hji32;obtain ⟨ji33, hji33⟩ : ∃ j_ : Int, (mx x66009001_1 ((rd_T49 t66004 x4_1).f1)) = j_ := ⟨_, rfl⟩;(replace H : (sawmillref10_Bounds.l0 k1 (wrap64 (x4_1 + 1)) t66003 t66004 ji32 ji33) = some (r1, r2, r3, r4) := by first | (rw [hji33] at H; exact H) | (simp only [hji33] at H ⊢; exact H));(try rw [hji33] at A26);have hji33_ : (if x66009001_1 < ((rd_T49 t66004 x4_1).f1) then ((rd_T49 t66004 x4_1).f1) else x66009001_1) = ji33 := hji33;have H' := Aside0.mk H;clear H;have hnb34 := NB66001_66002.out;have hnc34 := NB66002_66001.out;have hnb35 := NB66001_66008.out;have hnc35 := NB66008_66001.out;have hcz36_0 := cz0_ BK66001;have hcz36_1 := cz1_ BK66001;have hfz36_0 := fz_ BK66001 0;have hfz36_1 := fz_ BK66001 1;have p66009 : 0 ≤ (x4_1 : Int) := as_;have q66009 : x4_1 < (t66004.length : Int) := as_;obtain ⟨ad66009, e66009, hx66009_0, hx66009_1⟩ := at_T49 (Kd.V_reads' HO_66002001.out).2.2 x4_1 p66009 q66009;obtain rfl : ad66007 = ad66009 := (by injection e66009);replace p66009 := eq_true p66009;replace q66009 := eq_true q66009;(try go_wp2_with (first | ((with_reducible refine gate_callee (f := 63) rfl ?_); refine goesL_ (some 28) rfl rfl Try.func63 (by kernel_rfl) rfl #[.agg #[.int .i64 ((rd_T49 t66004 x4_1).f0), .int .i64 ((rd_T49 t66004 x4_1).f1)]] rfl la_ ?_; (with_reducible refine (sawmillref10_empty.calls ((rd_T49 t66004 x4_1).f0) ((rd_T49 t66004 x4_1).f1) false _ A26.out).mono ?_); rintro e w37 ⟨rfl, hb⟩; refine ⟨_, rfl, ?_⟩; replace HO_66002001 := kV_ HO_66002001 hb; replace BK66001 := bb_ BK66001 hb; replace BK66002 := bb_ BK66002 hb; replace BK66008 := bb_ BK66008 hb; replace HB := bA_ hb; (try clear hb); (try clear hk))));replace HO_66002001 := A_ (Kd.V_drew HO_66002001.out);replace BK66001 := A_ (blk_drew BK66001.out);replace BK66002 := A_ (blk_drew BK66002.out);replace BK66008 := A_ (blk_drew BK66008.out);replace HB := A_ (below_drew1 HB.out);have p66011 : 0 ≤ (x4_1 : Int) := as_;have q66011 : x4_1 < (t66004.length : Int) := as_;obtain ⟨ad66011, e66011, hx66011_0, hx66011_1⟩ := at_T49 (Kd.V_reads' HO_66002001.out).2.2 x4_1 p66011 q66011;obtain rfl : ad66007 = ad66011 := (by injection e66011);replace p66011 := eq_true p66011;replace q66011 := eq_true q66011;have p66012 : 0 ≤ (x4_1 : Int) := as_;have q66012 : x4_1 < (t66004.length : Int) := as_;obtain ⟨ad66012, e66012, hx66012_0, hx66012_1⟩ := at_T49 (Kd.V_reads' HO_66002001.out).2.2 x4_1 p66012 q66012;obtain rfl : ad66007 = ad66012 := (by injection e66012);replace p66012 := eq_true p66012;replace q66012 := eq_true q66012
        refine start_ (n := 20) (S := fun w' => w'.cell? ⟨gb66008, 0, none⟩ = some (.int .i64 x66009000_1) ∧ w'.cell? ⟨gb66008, 1, none⟩ = some (.int .i64 x66009001_1) ∧ w'.cell? ⟨gb66001, 0, none⟩ = some (.int .i64 t66003) ∧ w'.cell? ⟨gb66001, 1, none⟩ = some (.slice (some ad66007) t66004.length co19) ∧ w'.cell? (ad66007.add ((x4_1).toNat * 2)) = some (.int .i64 ((rd_T49 t66004 x4_1).f0)) ∧ w'.cell? ⟨(ad66007.add ((x4_1).toNat * 2)).block, (ad66007.add ((x4_1).toNat * 2)).off + 1, none⟩ = some (.int .i64 ((rd_T49 t66004 x4_1).f1)) ∧ w'.cell? (ad66007.add ((x4_1).toNat * 2)) = some (.int .i64 ((rd_T49 t66004 x4_1).f0)) ∧ w'.cell? ⟨(ad66007.add ((x4_1).toNat * 2)).block, (ad66007.add ((x4_1).toNat * 2)).off + 1, none⟩ = some (.int .i64 ((rd_T49 t66004 x4_1).f1))) (ds := [19]) #[f_,f_,f_,f_,f_,f_,f_,f_,f_,f_,f_,f_,f_,f_,f_,f_,f_,f_,f_,f_] (by kernel_rfl) rfl rfl ⟨cl_ BK66008 0, cl_ BK66008 1, cl_ BK66001 0, cl_ BK66001 1, hx66011_0, hx66011_1, hx66012_0, hx66012_1⟩ (fun hHeld => ?_); refine with_tabW sawmillref10_Bounds.tab9 sawmillref10_Bounds.bits9 (fun HT_ HW_ => ?_);generalize w37.drew = w38 at HO_66002001 BK66001 BK66002 BK66008 HB hx66011_0 hx66011_1 hx66012_0 hx66012_1 hHeld ⊢;refine pu_ (i := 0) (N := some 30) #[t_,f_,f_,f_,f_,f_,f_,f_,f_,f_,f_,f_,f_,f_,f_,f_,f_,f_,f_,f_] ?_;refine pu_ (i := 2) (N := some 32) #[t_,f_,t_,f_,f_,f_,f_,f_,f_,f_,f_,f_,f_,f_,f_,f_,f_,f_,f_,f_] ?_;refine pu_ (i := 4) (N := some 34) #[t_,f_,t_,f_,t_,f_,f_,f_,f_,f_,f_,f_,f_,f_,f_,f_,f_,f_,f_,f_] ?_;refine pu_ (i := 9) (N := some 39) #[t_,f_,t_,f_,t_,f_,f_,f_,f_,t_,f_,f_,f_,f_,f_,f_,f_,f_,f_,f_] ?_;refine pu_ (i := 11) (N := some 41) #[t_,f_,t_,f_,t_,f_,f_,f_,f_,t_,f_,t_,f_,f_,f_,f_,f_,f_,f_,f_] ?_;refine pu_ (i := 13) (N := some 43) #[t_,f_,t_,f_,t_,f_,f_,f_,f_,t_,f_,t_,f_,t_,f_,f_,f_,f_,f_,f_] ?_;refine take_ (i := 1) (N := some 31) #[t_,t_,t_,f_,t_,f_,f_,f_,f_,t_,f_,t_,f_,t_,f_,f_,f_,f_,f_,f_] rfl rfl (take_ofW HT_.out HW_.out (by kernel_rfl)) id3_ (Or.inl ⟨by rfl, by rintro w' ⟨s0, s1, s2, s3, s4, s5, s6, s7⟩; go_simp; with_reducible rfl⟩) hHeld pt_ ?_;refine take_ (i := 3) (N := some 33) #[t_,t_,t_,t_,t_,f_,f_,f_,f_,t_,f_,t_,f_,t_,f_,f_,f_,f_,f_,f_] rfl rfl (take_ofW HT_.out HW_.out (by kernel_rfl)) id3_ (Or.inl ⟨by rfl, by rintro w' ⟨s0, s1, s2, s3, s4, s5, s6, s7⟩; go_simp; with_reducible rfl⟩) hHeld pt_ ?_;refine pu_ (i := 5) (N := some 35) #[t_,t_,t_,t_,t_,t_,f_,f_,f_,t_,f_,t_,f_,t_,f_,f_,f_,f_,f_,f_] ?_;refine pu_ (i := 6) (N := some 36) #[t_,t_,t_,t_,t_,t_,t_,f_,f_,t_,f_,t_,f_,t_,f_,f_,f_,f_,f_,f_] ?_;refine take_ (i := 7) (N := some 37) #[t_,t_,t_,t_,t_,t_,t_,t_,f_,t_,f_,t_,f_,t_,f_,f_,f_,f_,f_,f_] rfl rfl (take_ofW HT_.out HW_.out (by kernel_rfl)) id3_ (Or.inl ⟨by rfl, by rintro w' ⟨s0, s1, s2, s3, s4, s5, s6, s7⟩; go_simp; with_reducible rfl⟩) hHeld pt_ ?_;refine pu_ (i := 8) (N := some 38) #[t_,t_,t_,t_,t_,t_,t_,t_,t_,t_,f_,t_,f_,t_,f_,f_,f_,f_,f_,f_] ?_;refine take_ (i := 10) (N := some 40) #[t_,t_,t_,t_,t_,t_,t_,t_,t_,t_,t_,t_,f_,t_,f_,f_,f_,f_,f_,f_] rfl rfl (take_ofW HT_.out HW_.out (by kernel_rfl)) id3_ (Or.inl ⟨by rfl, by rintro w' ⟨s0, s1, s2, s3, s4, s5, s6, s7⟩; go_simp; with_reducible rfl⟩) hHeld pt_ ?_;refine take_ (i := 12) (N := some 42) #[t_,t_,t_,t_,t_,t_,t_,t_,t_,t_,t_,t_,t_,t_,f_,f_,f_,f_,f_,f_] rfl rfl (take_ofW HT_.out HW_.out (by kernel_rfl)) id3_ (Or.inl ⟨by rfl, by rintro w' ⟨s0, s1, s2, s3, s4, s5, s6, s7⟩; go_simp; with_reducible rfl⟩) hHeld pt_ ?_;refine pu_ (i := 14) (N := some 44) #[t_,t_,t_,t_,t_,t_,t_,t_,t_,t_,t_,t_,t_,t_,t_,f_,f_,f_,f_,f_] ?_;refine pu_ (i := 15) (N := some 45) #[t_,t_,t_,t_,t_,t_,t_,t_,t_,t_,t_,t_,t_,t_,t_,t_,f_,f_,f_,f_] ?_;refine take_ (i := 16) (N := some 46) #[t_,t_,t_,t_,t_,t_,t_,t_,t_,t_,t_,t_,t_,t_,t_,t_,t_,f_,f_,f_] rfl rfl (take_ofW HT_.out HW_.out (by kernel_rfl)) id3_ (Or.inl ⟨by rfl, by rintro w' ⟨s0, s1, s2, s3, s4, s5, s6, s7⟩; go_simp; with_reducible rfl⟩) hHeld pt_ ?_;refine pu_ (i := 17) (N := some 47) #[t_,t_,t_,t_,t_,t_,t_,t_,t_,t_,t_,t_,t_,t_,t_,t_,t_,t_,f_,f_] ?_
        refine pu_ (i := 18) (N := some 48) #[t_,t_,t_,t_,t_,t_,t_,t_,t_,t_,t_,t_,t_,t_,t_,t_,t_,t_,t_,f_] ?_;refine last_ (i := 19) (N := none) #[t_,t_,t_,t_,t_,t_,t_,t_,t_,t_,t_,t_,t_,t_,t_,t_,t_,t_,t_,t_] rfl rfl (one_of HT_.out (by kernel_rfl)) (by decide) (fun K hK => ?_);have hs39 : w38.cell? ⟨gb66008, 0, none⟩ = some (.int .i64 x66009000_1) := cl_ BK66008 0;have hfs39 := fz_ BK66008 0;have hns39_0 := NB66001_66008.out;have hns39_1 := NB66002_66008.out;have hms39_0 := NB66008_66001.out;have hms39_1 := NB66008_66002.out;have hs40 : w38.cell? ⟨gb66008, 1, none⟩ = some (.int .i64 x66009001_1) := cl_ BK66008 1;have hfs40 := fz_ BK66008 1;have hns40_0 := NB66001_66008.out;have hns40_1 := NB66002_66008.out;have hms40_0 := NB66008_66001.out;have hms40_1 := NB66008_66002.out;refine skip_ (w1 := ?_) (by rfl) rfl ?_ ?_;rotate_left
        ·go_simp;rfl
        refine hK.out _ _ ?_;clear hK K;refine done_ (done_of HT_.out (by kernel_rfl)) ?_;(try clear hHeld);try go_wp2
        go_roundg k1
        case measure => have := HK1.out; omega
        case rel => exact ⟨(wrap64 (x4_1 + 1)), (ji32), (ji33), rs_, H', ⟨by have := HK1.out; omega⟩, ⟨by (with_reducible repeat (first | apply Kd.V_alloc | apply Kd.V_drewN | apply Kd.V_drew)); exact Kd.V_mono (Kd.V_far (p := ⟨gb66008, 1, none⟩) (Kd.V_far (p := ⟨gb66008, 0, none⟩) (Kd.V_mono HO_66002001.out (fun k_ hk => (⟨hk, hk.2.2⟩ : _ ∧ k_ ≠ gb66008))) (fun _ hk => hk.2) (.int .i64 ji32)) (fun _ hk => hk.2) (.int .i64 ji33)) (fun _ hk => ⟨hk.1.1, ⟨hk.1.2.1, hk.1.2.2⟩⟩)⟩, ⟨ch_ BK66001⟩, ⟨ch_ BK66002⟩, ⟨ch_ BK66008⟩, ⟨be_⟩⟩
      ·rw [if_neg c25] at H;exact absurd H (by simp)
     ·rw [if_neg c24] at H;have c24b0 : decide (x4_1 < (t66004.length : Int)) = false := decide_eq_false c24;clear c24;simp only [Option.some.injEq, Prod.mk.injEq] at H;obtain ⟨rfl, rfl, rfl, rfl⟩ := H;have hnb41 := NB66001_66002.out;have hnc41 := NB66002_66001.out;have hnb42 := NB66001_66008.out;have hnc42 := NB66008_66001.out;have hcz43_0 := cz0_ BK66001;have hcz43_1 := cz1_ BK66001;have hfz43_0 := fz_ BK66001 0;have hfz43_1 := fz_ BK66001 1;have hnb44 := NB66008_66002.out;have hnc44 := NB66002_66008.out;have hcz45_0 := cz0_ BK66008;have hcz45_1 := cz1_ BK66008;have hfz45_0 := fz_ BK66008 0;have hfz45_1 := fz_ BK66008 1;have hcz46_0 := cz0_ BK66002;have hcz46_1 := cz1_ BK66002;have hcz46_2 := cz2_ BK66002;have hcz46_3 := cz3_ BK66002;have hfz46_0 := fz_ BK66002 0;have hfz46_1 := fz_ BK66002 1;have hfz46_2 := fz_ BK66002 2;have hfz46_3 := fz_ BK66002 3;go_wp2;refine bodyPost_ret (results_cell_row rfl _ _ gb66002 54 #[.int .i64 x66009000_1, .int .i64 x66009001_1, .int .i64 (wrap64 (10 * t66003)), .int .i64 (wrap64 (10 * (wrap64 (t66003 + (t66004.length : Int)))))] (0, 0) _ rfl (ch_ BK66002) Try.underlying54 rfl (by kernel_rfl)) rfl ?_;exact ⟨er_, be_⟩
  ·rw [if_neg c12] at H;exact absurd H (by simp)

end Go.Proofs.Ytdbjoopkliafeaa.P

end
section
namespace Go.Proofs.Ytdbjoopkliafeaa.P
open Go Go.RowKit Go.Proofs.YtdbjoopkliafeaaW.PrintWords Go.Proofs.YtdbjoopkliafeaaW.PrintLast Go.Proofs.YtdbjoopkliafeaaW.PrintMore
attribute [local go_sem] max2_int min2_int max_two min_two max_three min_three max_four min_four max_five min_eight max_eight   -- for this text's walks alone
set_option linter.unusedVariables false
set_option linter.unusedSimpArgs false

mutual
def sawmillref14_Diameter.j0 : Nat → Int → Option (Int)
 | 0, _ => none
 | k + 1, x3 => sawmillref14_Diameter.l0 k x3 0
def sawmillref14_Diameter.l0 : Nat → Int → Int → Option (Int)
 | 0, _, _ => none
 | k + 1, x3, x4 => if (wrap64 ((wrap64 (x4 + 1)) * (wrap64 (x4 + 1)))) ≤ x3 then (sawmillref14_Diameter.l0 k x3 (wrap64 (x4 + 1))) else (some x4)
end
def sawmillref14_Diameter.f (k : Nat) (a0_0 : Int) (l0_1 : List (S49)) : Option (Int) := (sawmillref10_Check.f k a0_0 l0_1).bind fun t13002 => (if t13002 = 0 then ((sawmillref10_Area.f k a0_0 l0_1).bind fun t13003 => (sawmillref14_Diameter.j0 k (wrap64 (Int.tdiv (wrap64 (452 * t13003)) 355)))) else (sawmillref14_Diameter.j0 k 0))
theorem sawmillref14_Diameter.mono_l : ∀ k, (∀ y0, LeO (sawmillref14_Diameter.j0 k y0) (sawmillref14_Diameter.j0 (k + 1) y0)) ∧ (∀ y0 y1, LeO (sawmillref14_Diameter.l0 k y0 y1) (sawmillref14_Diameter.l0 (k + 1) y0 y1))
 | 0 => ⟨fun _ r h => by simp [sawmillref14_Diameter.j0] at h, fun _ _ r h => by simp [sawmillref14_Diameter.l0] at h⟩
 | k + 1 => by
  obtain ⟨ih0, ih1⟩ := sawmillref14_Diameter.mono_l k;refine ⟨?_, ?_⟩
  ·intro y0;unfold sawmillref14_Diameter.j0
   repeat' first
   | (with_reducible exact ih0 _)
   | (with_reducible exact ih1 _ _)
   | (with_reducible exact sawmillref10_Area.mono _ _ _)
   | (with_reducible exact sawmillref10_Check.mono _ _ _)
   | (with_reducible exact LeO.refl _)
   | (with_reducible exact LeO.none _)
   | (with_reducible refine LeO.ite ?_ ?_)
   | (with_reducible refine LeO.bind ?_ (fun _ => ?_))
   | exact ih0 _
   | exact ih1 _ _
   | exact sawmillref10_Area.mono _ _ _
   | exact sawmillref10_Check.mono _ _ _
   | exact LeO.none _
   | refine LeO.ite ?_ ?_
   | refine LeO.bind ?_ (fun _ => ?_)
  ·intro y0 y1;unfold sawmillref14_Diameter.l0
   repeat' first
   | (with_reducible exact ih0 _)
   | (with_reducible exact ih1 _ _)
   | (with_reducible exact sawmillref10_Area.mono _ _ _)
   | (with_reducible exact sawmillref10_Check.mono _ _ _)
   | (with_reducible exact LeO.refl _)
   | (with_reducible exact LeO.none _)
   | (with_reducible refine LeO.ite ?_ ?_)
   | (with_reducible refine LeO.bind ?_ (fun _ => ?_))
   | exact ih0 _
   | exact ih1 _ _
   | exact sawmillref10_Area.mono _ _ _
   | exact sawmillref10_Check.mono _ _ _
   | exact LeO.none _
   | refine LeO.ite ?_ ?_
   | refine LeO.bind ?_ (fun _ => ?_)
theorem sawmillref14_Diameter.mono : ∀ a0 a1 k, LeO (sawmillref14_Diameter.f k a0 a1) (sawmillref14_Diameter.f (k + 1) a0 a1) := by
 intro a0 a1 k;obtain ⟨ih0, ih1⟩ := sawmillref14_Diameter.mono_l k;unfold sawmillref14_Diameter.f
 repeat' first
   | (with_reducible exact ih0 _)
   | (with_reducible exact ih1 _ _)
   | (with_reducible exact sawmillref10_Area.mono _ _ _)
   | (with_reducible exact sawmillref10_Check.mono _ _ _)
   | (with_reducible exact LeO.refl _)
   | (with_reducible exact LeO.none _)
   | (with_reducible refine LeO.ite ?_ ?_)
   | (with_reducible refine LeO.bind ?_ (fun _ => ?_))
   | exact ih0 _
   | exact ih1 _ _
   | exact sawmillref10_Area.mono _ _ _
   | exact sawmillref10_Check.mono _ _ _
   | exact LeO.none _
   | refine LeO.ite ?_ ?_
   | refine LeO.bind ?_ (fun _ => ?_)
set_option maxHeartbeats 8000000 in
set_option maxRecDepth 100000 in
theorem sawmillref14_Diameter.calls (k : Nat) (a0_0 : Int) (A0_1 : Option Addr) (c0_1 : Nat) (l0_1 : List (S49)) (r : Int) (w : World) (hr0_1 : Kd.C k49 w A0_1 l0_1.length l0_1) (hc0_1 : l0_1.length ≤ c0_1) (h : sawmillref14_Diameter.f k a0_0 l0_1 = some r) :
  Calls Try.prog 13 #[.agg #[.int .i64 a0_0, .slice A0_1 l0_1.length c0_1]] w fun e w' => e = .returned (.int .i64 r) ∧ Below w.heap.size w w' := by
 have hu24 := Try.underlying24;have HR0_1 := Aside0.mk hr0_1;have HC0_1 := Aside0.mk hc0_1;clear hr0_1 hc0_1;have HB := A_ (Below.refl w.heap.size w);have H : ((sawmillref10_Check.f k a0_0 l0_1).bind fun t13002 => (if t13002 = 0 then ((sawmillref10_Area.f k a0_0 l0_1).bind fun t13003 => (sawmillref14_Diameter.j0 k (wrap64 (Int.tdiv (wrap64 (452 * t13003)) 355)))) else (sawmillref14_Diameter.j0 k 0))) = some r := h;clear h;replace H := Option.bind_eq_some_iff.mp H;obtain ⟨t13002, A20, H⟩ := H;replace H : (if t13002 = 0 then ((sawmillref10_Area.f k a0_0 l0_1).bind fun t13003 => (sawmillref14_Diameter.j0 k (wrap64 (Int.tdiv (wrap64 (452 * t13003)) 355)))) else (sawmillref14_Diameter.j0 k 0)) = some r := H;have A2 := Aside0.mk A20;clear A20;have HC3 := Aside0.mk H;clear H;go_enter Try.func13, Try.ntmps13
 go_upto_if 7 with (first | ((with_reducible refine gate_dst (N := 1) rfl ?_); refine bx_ 1 (cs := #[.int .i64 a0_0, .slice A0_1 l0_1.length c0_1]) (t := 24) ?_; intro gb13001 hg w4 hbox hb; have BK13001 := A_ hbox; have GW13001 := gz_ (w := w) hg; have GE13001 := gz_ (w := w) hg; replace HB := bA_ hb; clear hb hbox hg; have hcz5_0 := cz0_ BK13001; have hcz5_1 := cz1_ BK13001; have hfz5_0 := fz_ BK13001 0; have hfz5_1 := fz_ BK13001 1) | ((with_reducible refine gate_callee (f := 37) rfl ?_); refine goesL_ (some 6) rfl rfl Try.func37 (by kernel_rfl) rfl #[.agg #[.int .i64 a0_0, .slice A0_1 l0_1.length c0_1]] rfl la_ ?_; (with_reducible refine (sawmillref10_Check.calls k a0_0 _ _ l0_1 t13002 _ ?side1 ?side2 A2.out).mono ?_); (case side1 => exact csC_ ((Kd.C_below HR0_1.out HB.out))); (case side2 => exact HC0_1.out); rintro e w6 ⟨rfl, hb⟩; refine ⟨_, rfl, ?_⟩; replace BK13001 := bb_ BK13001 hb; replace HB := bA_ hb; (try clear hb)))
 (try simp only [Act.put, List.setIfInBounds_toArray, List.set_cons_zero, List.set_cons_succ])
 go_cut [3] (fun v3 wc => ∃ (kq : Nat) (x3_2 : Int), v3 = .int .i64 x3_2 ∧ Aside0 (sawmillref14_Diameter.j0 kq x3_2 = some r) ∧ Aside0 (kq ≤ k) ∧ Aside0 (wc.heap[gb13001]? = some (.cells #[.int .i64 a0_0, (.slice A0_1 l0_1.length c0_1)] 24 (0, 0))) ∧ Aside0 (Below w.heap.size w wc))
 case first =>
  have H := HC3.out;clear HC3
  by_cases c7 : t13002 = 0
  ·rw [if_pos c7] at H;have c7b0 : (t13002 == 0) = true := beq_iff_eq.mpr c7;have c7b1 : (t13002 != 0) = false := bne_eq_false_iff_eq.mpr c7;clear c7;(first | rw [c7b0] | (simp only [i64_w, i32_w]; rw [c7b0]) | skip);replace H := Option.bind_eq_some_iff.mp H;obtain ⟨t13003, A80, H⟩ := H;replace H : (sawmillref14_Diameter.j0 k (wrap64 (Int.tdiv (wrap64 (452 * t13003)) 355))) = some r := H;have A8 := Aside0.mk A80;clear A80;have H' := Aside0.mk H;clear H;have hcz9_0 := cz0_ BK13001;have hcz9_1 := cz1_ BK13001;have hfz9_0 := fz_ BK13001 0;have hfz9_1 := fz_ BK13001 1;go_wp2_with (first | ((with_reducible refine gate_callee (f := 38) rfl ?_); refine goesL_ (some 9) rfl rfl Try.func38 (by kernel_rfl) rfl #[.agg #[.int .i64 a0_0, .slice A0_1 l0_1.length c0_1]] rfl la_ ?_; (with_reducible refine (sawmillref10_Area.calls k a0_0 _ _ l0_1 t13003 _ ?side1 ?side2 A8.out).mono ?_); (case side1 => exact csC_ ((Kd.C_below HR0_1.out HB.out))); (case side2 => exact HC0_1.out); rintro e w10 ⟨rfl, hb⟩; refine ⟨_, rfl, ?_⟩; replace BK13001 := bb_ BK13001 hb; replace HB := bA_ hb; (try clear hb)))
   go_meet
   case rel => exact ⟨_, (wrap64 (Int.tdiv (wrap64 (452 * t13003)) 355)), rs_, H', ⟨by first | omega | exact Nat.le_refl _⟩, ⟨fb_ BK13001.out⟩, ⟨be_⟩⟩
  ·rw [if_neg c7] at H;have c7b0 : (t13002 == 0) = false := beq_eq_false_iff_ne.mpr c7;have c7b1 : (t13002 != 0) = true := bne_iff_ne.mpr c7;(first | rw [c7b0] | (simp only [i64_w, i32_w]; rw [c7b0]) | skip);have H' := Aside0.mk H;clear H;go_wp2
   go_meet
   case rel => exact ⟨_, (0), rs_, H', ⟨by first | omega | exact Nat.le_refl _⟩, ⟨fb_ BK13001.out⟩, ⟨be_⟩⟩
 case rest =>
  clear HC3;(try clear c1);(try clear p2);(try clear c3);(try clear p6);(try clear c7);(try clear c7b0);(try clear c7b1);(try clear hcz5_0);(try clear hcz5_1);(try clear hcz9_0);(try clear hcz9_1);(try clear hfz5_0);(try clear hfz5_1);(try clear hfz9_0);(try clear hfz9_1);obtain ⟨kq, x3_2, rfl, HA, HJ2, BK13001, HB⟩ := hcut;cases kq with
  | zero => exact absurd HA.out (by simp [sawmillref14_Diameter.j0])
  | succ kj2 =>
   have H := HA.out;clear HA;simp only [sawmillref14_Diameter.j0] at H;have H' := Aside0.mk H;clear H;go_wp2
   go_loopg [4] kj2 (fun kq v4 w' => ∃ (x4_2 : Int), v4 = .int .i64 x4_2 ∧ Aside0 (sawmillref14_Diameter.l0 kq x3_2 x4_2 = some r) ∧ Aside0 (kq ≤ kj2) ∧ Aside0 (w'.heap[gb13001]? = some (.cells #[.int .i64 a0_0, (.slice A0_1 l0_1.length c0_1)] 24 (0, 0))) ∧ Aside0 (Below w.heap.size w w'))
   case atStart => exact ⟨(0), rs_, H', ⟨Nat.le_refl _⟩, ⟨fb_ BK13001.out⟩, ⟨be_⟩⟩
   case round =>
    clear H';(try clear c1);(try clear p2);(try clear c3);(try clear p6);(try clear c7);(try clear c7b0);(try clear c7b1);(try clear hcz5_0);(try clear hcz5_1);(try clear hcz9_0);(try clear hcz9_1);(try clear hfz5_0);(try clear hfz5_1);(try clear hfz9_0);(try clear hfz9_1);(try clear p2);(try clear p6);obtain ⟨x4_2, rfl, HA, HK2, BK13001, HB⟩ := hrel;cases gk with
    | zero => exact absurd HA.out (by simp [sawmillref14_Diameter.l0])
    | succ k2 =>
     have H := HA.out;clear HA;simp only [sawmillref14_Diameter.l0] at H
     by_cases c11 : (wrap64 ((wrap64 (x4_2 + 1)) * (wrap64 (x4_2 + 1)))) ≤ x3_2
     ·rw [if_pos c11] at H;have c11b0 : decide ((wrap64 ((wrap64 (x4_2 + 1)) * (wrap64 (x4_2 + 1)))) ≤ x3_2) = true := decide_eq_true c11;clear c11;have H' := Aside0.mk H;clear H;go_wp2
      go_roundg k2
      case measure => have := HJ2.out; have := HK2.out; omega
      case rel => exact ⟨(wrap64 (x4_2 + 1)), rs_, H', ⟨by have := HJ2.out; have := HK2.out; omega⟩, ⟨fb_ BK13001.out⟩, ⟨be_⟩⟩
     ·rw [if_neg c11] at H;have c11b0 : decide ((wrap64 ((wrap64 (x4_2 + 1)) * (wrap64 (x4_2 + 1)))) ≤ x3_2) = false := decide_eq_false c11;clear c11;obtain rfl := Option.some.inj H;go_wp2;go_ret;exact ⟨er_, be_⟩

end Go.Proofs.Ytdbjoopkliafeaa.P

end
section
namespace Go.Proofs.Ytdbjoopkliafeaa.P
open Go Go.RowKit Go.Proofs.YtdbjoopkliafeaaW.PrintWords Go.Proofs.YtdbjoopkliafeaaW.PrintLast Go.Proofs.YtdbjoopkliafeaaW.PrintMore
attribute [local go_sem] max2_int min2_int max_two min_two max_three min_three max_four min_four max_five min_eight max_eight   -- for this text's walks alone
set_option linter.unusedVariables false
set_option linter.unusedSimpArgs false

def sawmillref14_bounds.f (k : Nat) (a0_0 : Int) (l0_1 : List (S49)) : Option (Int × Int × Int × Int) := (sawmillref10_Check.f k a0_0 l0_1).bind fun t40003 => (if t40003 = 0 then ((sawmillref10_Bounds.f k a0_0 l0_1).bind fun bt40004 => (some (bt40004.1, bt40004.2.1, bt40004.2.2.1, bt40004.2.2.2))) else (some (0, 0, 0, 0)))
theorem sawmillref14_bounds.mono : ∀ a0 a1 k, LeO (sawmillref14_bounds.f k a0 a1) (sawmillref14_bounds.f (k + 1) a0 a1) := by
 intro a0 a1 k;unfold sawmillref14_bounds.f
 repeat' first
   | (with_reducible exact sawmillref10_Bounds.mono _ _ _)
   | (with_reducible exact sawmillref10_Check.mono _ _ _)
   | (with_reducible exact LeO.refl _)
   | (with_reducible exact LeO.none _)
   | (with_reducible refine LeO.ite ?_ ?_)
   | (with_reducible refine LeO.bind ?_ (fun _ => ?_))
   | exact sawmillref10_Bounds.mono _ _ _
   | exact sawmillref10_Check.mono _ _ _
   | exact LeO.none _
   | refine LeO.ite ?_ ?_
   | refine LeO.bind ?_ (fun _ => ?_)
set_option maxHeartbeats 8000000 in
set_option maxRecDepth 100000 in
theorem sawmillref14_bounds.calls (k : Nat) (a0_0 : Int) (A0_1 : Option Addr) (c0_1 : Nat) (l0_1 : List (S49)) (r1 : Int) (r2 : Int) (r3 : Int) (r4 : Int) (w : World) (hr0_1 : Kd.C k49 w A0_1 l0_1.length l0_1) (hc0_1 : l0_1.length ≤ c0_1) (h : sawmillref14_bounds.f k a0_0 l0_1 = some (r1, r2, r3, r4)) :
  Calls Try.prog 40 #[.agg #[.int .i64 a0_0, .slice A0_1 l0_1.length c0_1]] w fun e w' => e = .returned (.agg #[.int .i64 r1, .int .i64 r2, .int .i64 r3, .int .i64 r4]) ∧ Below w.heap.size w w' := by
 have hu24 := Try.underlying24;have hu54 := Try.underlying54;have HR0_1 := Aside0.mk hr0_1;have HC0_1 := Aside0.mk hc0_1;clear hr0_1 hc0_1;have HB := A_ (Below.refl w.heap.size w);have H : ((sawmillref10_Check.f k a0_0 l0_1).bind fun t40003 => (if t40003 = 0 then ((sawmillref10_Bounds.f k a0_0 l0_1).bind fun bt40004 => (some (bt40004.1, bt40004.2.1, bt40004.2.2.1, bt40004.2.2.2))) else (some (0, 0, 0, 0)))) = some (r1, r2, r3, r4) := h;clear h;replace H := Option.bind_eq_some_iff.mp H;obtain ⟨t40003, A20, H⟩ := H;replace H : (if t40003 = 0 then ((sawmillref10_Bounds.f k a0_0 l0_1).bind fun bt40004 => (some (bt40004.1, bt40004.2.1, bt40004.2.2.1, bt40004.2.2.2))) else (some (0, 0, 0, 0))) = some (r1, r2, r3, r4) := H;have A2 := Aside0.mk A20;clear A20
 by_cases c3 : t40003 = 0
 ·rw [if_pos c3] at H;have c3b0 : (t40003 == 0) = true := beq_iff_eq.mpr c3;have c3b1 : (t40003 != 0) = false := bne_eq_false_iff_eq.mpr c3;clear c3;replace H := Option.bind_eq_some_iff.mp H;obtain ⟨⟨t40004, t40005, t40006, t40007⟩, A40, H⟩ := H;replace H : (some (t40004, t40005, t40006, t40007)) = some (r1, r2, r3, r4) := H;have A4 := Aside0.mk A40;clear A40;simp only [Option.some.injEq, Prod.mk.injEq] at H;obtain ⟨rfl, rfl, rfl, rfl⟩ := H;go_enter Try.func40, Try.ntmps40;go_wp2_with (first | ((with_reducible refine gate_dst (N := 1) rfl ?_); refine bx_ 1 (cs := #[.int .i64 a0_0, .slice A0_1 l0_1.length c0_1]) (t := 24) ?_; intro gb40001 hg w5 hbox hb; have BK40001 := A_ hbox; have GW40001 := gz_ (w := w) hg; have GE40001 := gz_ (w := w) hg; replace HB := bA_ hb; clear hb hbox hg) | ((with_reducible refine gate_dst (N := 2) rfl ?_); refine bx_ 2 (cs := #[.int .i64 0, .int .i64 0, .int .i64 0, .int .i64 0]) (t := 54) ?_; intro gb40002 hg w6 hbox hb; have BK40002 := A_ hbox; have GW40002 := gz_ (w := w) hg; have GE40002 := gz_ (w := w) hg; replace HB := bA_ hb; have NB40001_40002 := nlt_ BK40001 hg; have NB40002_40001 := ngt_ BK40001 hg; replace BK40001 := bb_ BK40001 hb; clear hb hbox hg; have hnb7 := NB40001_40002.out; have hnc7 := NB40002_40001.out; have hcz8_0 := cz0_ BK40001; have hcz8_1 := cz1_ BK40001; have hfz8_0 := fz_ BK40001 0; have hfz8_1 := fz_ BK40001 1) | ((with_reducible refine gate_callee (f := 37) rfl ?_); refine goesL_ (some 4) rfl rfl Try.func37 (by kernel_rfl) rfl #[.agg #[.int .i64 a0_0, .slice A0_1 l0_1.length c0_1]] rfl la_ ?_; (with_reducible refine (sawmillref10_Check.calls k a0_0 _ _ l0_1 t40003 _ ?side1 ?side2 A2.out).mono ?_); (case side1 => exact csC_ ((Kd.C_below HR0_1.out HB.out))); (case side2 => exact HC0_1.out); rintro e w9 ⟨rfl, hb⟩; refine ⟨_, rfl, ?_⟩; replace BK40001 := bb_ BK40001 hb; replace BK40002 := bb_ BK40002 hb; replace HB := bA_ hb; (try clear hb); have hcz10_0 := cz0_ BK40001; have hcz10_1 := cz1_ BK40001; have hfz10_0 := fz_ BK40001 0; have hfz10_1 := fz_ BK40001 1) | ((with_reducible refine gate_callee (f := 66) rfl ?_); refine goesL_ (some 8) rfl rfl Try.func66 (by kernel_rfl) rfl #[.agg #[.int .i64 a0_0, .slice A0_1 l0_1.length c0_1]] rfl la_ ?_; (with_reducible refine (sawmillref10_Bounds.calls k a0_0 _ _ l0_1 t40004 t40005 t40006 t40007 _ ?side1 ?side2 A4.out).mono ?_); (case side1 => exact csC_ ((Kd.C_below HR0_1.out HB.out))); (case side2 => exact HC0_1.out); rintro e w11 ⟨rfl, hb⟩; refine ⟨_, rfl, ?_⟩; replace BK40001 := bb_ BK40001 hb; replace BK40002 := bb_ BK40002 hb; replace HB := bA_ hb; (try clear hb); have hcz12_0 := cz0_ BK40002; have hcz12_1 := cz1_ BK40002; have hcz12_2 := cz2_ BK40002; have hcz12_3 := cz3_ BK40002; have hfz12_0 := fz_ BK40002 0; have hfz12_1 := fz_ BK40002 1; have hfz12_2 := fz_ BK40002 2; have hfz12_3 := fz_ BK40002 3));refine bodyPost_ret (results_cell_row rfl _ _ gb40002 54 #[.int .i64 t40004, .int .i64 t40005, .int .i64 t40006, .int .i64 t40007] (0, 0) _ rfl (ch_ BK40002) Try.underlying54 rfl (by kernel_rfl)) rfl ?_;exact ⟨er_, be_⟩
 ·rw [if_neg c3] at H;have c3b0 : (t40003 == 0) = false := beq_eq_false_iff_ne.mpr c3;have c3b1 : (t40003 != 0) = true := bne_iff_ne.mpr c3;simp only [Option.some.injEq, Prod.mk.injEq] at H;obtain ⟨rfl, rfl, rfl, rfl⟩ := H;go_enter Try.func40, Try.ntmps40;go_wp2_with (first | ((with_reducible refine gate_dst (N := 1) rfl ?_); refine bx_ 1 (cs := #[.int .i64 a0_0, .slice A0_1 l0_1.length c0_1]) (t := 24) ?_; intro gb40001 hg w13 hbox hb; have BK40001 := A_ hbox; have GW40001 := gz_ (w := w) hg; have GE40001 := gz_ (w := w) hg; replace HB := bA_ hb; clear hb hbox hg) | ((with_reducible refine gate_dst (N := 2) rfl ?_); refine bx_ 2 (cs := #[.int .i64 0, .int .i64 0, .int .i64 0, .int .i64 0]) (t := 54) ?_; intro gb40002 hg w14 hbox hb; have BK40002 := A_ hbox; have GW40002 := gz_ (w := w) hg; have GE40002 := gz_ (w := w) hg; replace HB := bA_ hb; have NB40001_40002 := nlt_ BK40001 hg; have NB40002_40001 := ngt_ BK40001 hg; replace BK40001 := bb_ BK40001 hb; clear hb hbox hg; have hnb15 := NB40001_40002.out; have hnc15 := NB40002_40001.out; have hcz16_0 := cz0_ BK40001; have hcz16_1 := cz1_ BK40001; have hfz16_0 := fz_ BK40001 0; have hfz16_1 := fz_ BK40001 1) | ((with_reducible refine gate_callee (f := 37) rfl ?_); refine goesL_ (some 4) rfl rfl Try.func37 (by kernel_rfl) rfl #[.agg #[.int .i64 a0_0, .slice A0_1 l0_1.length c0_1]] rfl la_ ?_; (with_reducible refine (sawmillref10_Check.calls k a0_0 _ _ l0_1 t40003 _ ?side1 ?side2 A2.out).mono ?_); (case side1 => exact csC_ ((Kd.C_below HR0_1.out HB.out))); (case side2 => exact HC0_1.out); rintro e w17 ⟨rfl, hb⟩; refine ⟨_, rfl, ?_⟩; replace BK40001 := bb_ BK40001 hb; replace BK40002 := bb_ BK40002 hb; replace HB := bA_ hb; (try clear hb); have hcz18_0 := cz0_ BK40002; have hcz18_1 := cz1_ BK40002; have hcz18_2 := cz2_ BK40002; have hcz18_3 := cz3_ BK40002; have hfz18_0 := fz_ BK40002 0; have hfz18_1 := fz_ BK40002 1; have hfz18_2 := fz_ BK40002 2; have hfz18_3 := fz_ BK40002 3));refine bodyPost_ret (results_cell_row rfl _ _ gb40002 54 #[.int .i64 0, .int .i64 0, .int .i64 0, .int .i64 0] (0, 0) _ rfl (ch_ BK40002) Try.underlying54 rfl (by kernel_rfl)) rfl ?_;exact ⟨er_, be_⟩

end Go.Proofs.Ytdbjoopkliafeaa.P

end
section
namespace Go.Proofs.Ytdbjoopkliafeaa.P
open Go Go.RowKit Go.Proofs.YtdbjoopkliafeaaW.PrintWords Go.Proofs.YtdbjoopkliafeaaW.PrintLast Go.Proofs.YtdbjoopkliafeaaW.PrintMore
attribute [local go_sem] max2_int min2_int max_two min_two max_three min_three max_four min_four max_five min_eight max_eight   -- for this text's walks alone
set_option linter.unusedVariables false
set_option linter.unusedSimpArgs false

def sawmillref14_Center2.f (k : Nat) (a0_0 : Int) (l0_1 : List (S49)) : Option (Int × Int) := (sawmillref14_bounds.f k a0_0 l0_1).bind fun bt15003 => (some (wrap64 (bt15003.1 + bt15003.2.1), wrap64 (bt15003.2.2.1 + bt15003.2.2.2)))
theorem sawmillref14_Center2.mono : ∀ a0 a1 k, LeO (sawmillref14_Center2.f k a0 a1) (sawmillref14_Center2.f (k + 1) a0 a1) := by
 intro a0 a1 k;unfold sawmillref14_Center2.f
 repeat' first
   | (with_reducible exact sawmillref14_bounds.mono _ _ _)
   | (with_reducible exact LeO.refl _)
   | (with_reducible exact LeO.none _)
   | (with_reducible refine LeO.ite ?_ ?_)
   | (with_reducible refine LeO.bind ?_ (fun _ => ?_))
   | exact sawmillref14_bounds.mono _ _ _
   | exact LeO.none _
   | refine LeO.ite ?_ ?_
   | refine LeO.bind ?_ (fun _ => ?_)
set_option maxHeartbeats 8000000 in
set_option maxRecDepth 100000 in
theorem sawmillref14_Center2.calls (k : Nat) (a0_0 : Int) (A0_1 : Option Addr) (c0_1 : Nat) (l0_1 : List (S49)) (r1 : Int) (r2 : Int) (w : World) (hr0_1 : Kd.C k49 w A0_1 l0_1.length l0_1) (hc0_1 : l0_1.length ≤ c0_1) (h : sawmillref14_Center2.f k a0_0 l0_1 = some (r1, r2)) :
  Calls Try.prog 15 #[.agg #[.int .i64 a0_0, .slice A0_1 l0_1.length c0_1]] w fun e w' => e = .returned (.agg #[.int .i64 r1, .int .i64 r2]) ∧ Below w.heap.size w w' := by
 have hu24 := Try.underlying24;have hu28 := Try.underlying28;have hu54 := Try.underlying54;have HR0_1 := Aside0.mk hr0_1;have HC0_1 := Aside0.mk hc0_1;clear hr0_1 hc0_1;have HB := A_ (Below.refl w.heap.size w);have H : ((sawmillref14_bounds.f k a0_0 l0_1).bind fun bt15003 => (some (wrap64 (bt15003.1 + bt15003.2.1), wrap64 (bt15003.2.2.1 + bt15003.2.2.2)))) = some (r1, r2) := h;clear h;replace H := Option.bind_eq_some_iff.mp H;obtain ⟨⟨t15003, t15004, t15005, t15006⟩, A20, H⟩ := H;replace H : (some (wrap64 (t15003 + t15004), wrap64 (t15005 + t15006))) = some (r1, r2) := H;have A2 := Aside0.mk A20;clear A20;simp only [Option.some.injEq, Prod.mk.injEq] at H;obtain ⟨rfl, rfl⟩ := H;go_enter Try.func15, Try.ntmps15;go_wp2_with (first | ((with_reducible refine gate_dst (N := 1) rfl ?_); refine bx_ 1 (cs := #[.int .i64 a0_0, .slice A0_1 l0_1.length c0_1]) (t := 24) ?_; intro gb15001 hg w3 hbox hb; have BK15001 := A_ hbox; have GW15001 := gz_ (w := w) hg; have GE15001 := gz_ (w := w) hg; replace HB := bA_ hb; clear hb hbox hg) | ((with_reducible refine gate_dst (N := 2) rfl ?_); refine bx_ 2 (cs := #[.int .i64 0, .int .i64 0]) (t := 28) ?_; intro gb15002 hg w4 hbox hb; have BK15002 := A_ hbox; have GW15002 := gz_ (w := w) hg; have GE15002 := gz_ (w := w) hg; replace HB := bA_ hb; have NB15001_15002 := nlt_ BK15001 hg; have NB15002_15001 := ngt_ BK15001 hg; replace BK15001 := bb_ BK15001 hb; clear hb hbox hg; have hnb5 := NB15001_15002.out; have hnc5 := NB15002_15001.out; have hcz6_0 := cz0_ BK15001; have hcz6_1 := cz1_ BK15001; have hfz6_0 := fz_ BK15001 0; have hfz6_1 := fz_ BK15001 1) | ((with_reducible refine gate_callee (f := 40) rfl ?_); refine goesL_ (some 5) rfl rfl Try.func40 (by kernel_rfl) rfl #[.agg #[.int .i64 a0_0, .slice A0_1 l0_1.length c0_1]] rfl la_ ?_; (with_reducible refine (sawmillref14_bounds.calls k a0_0 _ _ l0_1 t15003 t15004 t15005 t15006 _ ?side1 ?side2 A2.out).mono ?_); (case side1 => exact csC_ ((Kd.C_below HR0_1.out HB.out))); (case side2 => exact HC0_1.out); rintro e w7 ⟨rfl, hb⟩; refine ⟨_, rfl, ?_⟩; replace BK15001 := bb_ BK15001 hb; replace BK15002 := bb_ BK15002 hb; replace HB := bA_ hb; (try clear hb)) | ((with_reducible refine gate_dst (N := 3) rfl ?_); refine bx_ 3 (cs := #[.int .i64 0, .int .i64 0, .int .i64 0, .int .i64 0]) (t := 54) ?_; intro gb15007 hg w8 hbox hb; have BK15007 := A_ hbox; have GW15007 := gz_ (w := w) hg; have GE15007 := gz_ (w := w) hg; replace HB := bA_ hb; have NB15001_15007 := nlt_ BK15001 hg; have NB15007_15001 := ngt_ BK15001 hg; replace BK15001 := bb_ BK15001 hb; have NB15002_15007 := nlt_ BK15002 hg; have NB15007_15002 := ngt_ BK15002 hg; replace BK15002 := bb_ BK15002 hb; clear hb hbox hg; have hnb9 := NB15007_15001.out; have hnc9 := NB15001_15007.out; have hnb10 := NB15007_15002.out; have hnc10 := NB15002_15007.out; have hcz11_0 := cz0_ BK15007; have hcz11_1 := cz1_ BK15007; have hcz11_2 := cz2_ BK15007; have hcz11_3 := cz3_ BK15007; have hfz11_0 := fz_ BK15007 0; have hfz11_1 := fz_ BK15007 1; have hfz11_2 := fz_ BK15007 2; have hfz11_3 := fz_ BK15007 3; have hcz12_0 := cz0_ BK15002; have hcz12_1 := cz1_ BK15002; have hfz12_0 := fz_ BK15002 0; have hfz12_1 := fz_ BK15002 1));refine bodyPost_ret (results_cell_row rfl _ _ gb15002 28 #[.int .i64 (wrap64 (t15003 + t15004)), .int .i64 (wrap64 (t15005 + t15006))] (0, 0) _ rfl (ch_ BK15002) Try.underlying28 rfl (by kernel_rfl)) rfl ?_;exact ⟨er_, be_⟩

end Go.Proofs.Ytdbjoopkliafeaa.P

end
section
namespace Go.Proofs.Ytdbjoopkliafeaa.P
open Go Go.RowKit Go.Proofs.YtdbjoopkliafeaaW.PrintWords Go.Proofs.YtdbjoopkliafeaaW.PrintLast Go.Proofs.YtdbjoopkliafeaaW.PrintMore
attribute [local go_sem] max2_int min2_int max_two min_two max_three min_three max_four min_four max_five min_eight max_eight   -- for this text's walks alone
set_option linter.unusedVariables false
set_option linter.unusedSimpArgs false

def sawmillref14_Oval.f (k : Nat) (a0_0 : Int) (l0_1 : List (S49)) : Option (Int) := (sawmillref14_bounds.f k a0_0 l0_1).bind fun bt17002 => (some (wrap64 ((wrap64 (bt17002.2.1 - bt17002.1)) - (wrap64 (bt17002.2.2.2 - bt17002.2.2.1)))))
theorem sawmillref14_Oval.mono : ∀ a0 a1 k, LeO (sawmillref14_Oval.f k a0 a1) (sawmillref14_Oval.f (k + 1) a0 a1) := by
 intro a0 a1 k;unfold sawmillref14_Oval.f
 repeat' first
   | (with_reducible exact sawmillref14_bounds.mono _ _ _)
   | (with_reducible exact LeO.refl _)
   | (with_reducible exact LeO.none _)
   | (with_reducible refine LeO.ite ?_ ?_)
   | (with_reducible refine LeO.bind ?_ (fun _ => ?_))
   | exact sawmillref14_bounds.mono _ _ _
   | exact LeO.none _
   | refine LeO.ite ?_ ?_
   | refine LeO.bind ?_ (fun _ => ?_)
set_option maxHeartbeats 8000000 in
set_option maxRecDepth 100000 in
theorem sawmillref14_Oval.calls (k : Nat) (a0_0 : Int) (A0_1 : Option Addr) (c0_1 : Nat) (l0_1 : List (S49)) (r : Int) (w : World) (hr0_1 : Kd.C k49 w A0_1 l0_1.length l0_1) (hc0_1 : l0_1.length ≤ c0_1) (h : sawmillref14_Oval.f k a0_0 l0_1 = some r) :
  Calls Try.prog 17 #[.agg #[.int .i64 a0_0, .slice A0_1 l0_1.length c0_1]] w fun e w' => e = .returned (.int .i64 r) ∧ Below w.heap.size w w' := by
 have hu24 := Try.underlying24;have hu54 := Try.underlying54;have HR0_1 := Aside0.mk hr0_1;have HC0_1 := Aside0.mk hc0_1;clear hr0_1 hc0_1;have HB := A_ (Below.refl w.heap.size w);have H : ((sawmillref14_bounds.f k a0_0 l0_1).bind fun bt17002 => (some (wrap64 ((wrap64 (bt17002.2.1 - bt17002.1)) - (wrap64 (bt17002.2.2.2 - bt17002.2.2.1)))))) = some r := h;clear h;replace H := Option.bind_eq_some_iff.mp H;obtain ⟨⟨t17002, t17003, t17004, t17005⟩, A20, H⟩ := H;replace H : (some (wrap64 ((wrap64 (t17003 - t17002)) - (wrap64 (t17005 - t17004))))) = some r := H;have A2 := Aside0.mk A20;clear A20;obtain rfl := Option.some.inj H;go_enter Try.func17, Try.ntmps17;go_wp2_with (first | ((with_reducible refine gate_dst (N := 1) rfl ?_); refine bx_ 1 (cs := #[.int .i64 a0_0, .slice A0_1 l0_1.length c0_1]) (t := 24) ?_; intro gb17001 hg w3 hbox hb; have BK17001 := A_ hbox; have GW17001 := gz_ (w := w) hg; have GE17001 := gz_ (w := w) hg; replace HB := bA_ hb; clear hb hbox hg; have hcz4_0 := cz0_ BK17001; have hcz4_1 := cz1_ BK17001; have hfz4_0 := fz_ BK17001 0; have hfz4_1 := fz_ BK17001 1) | ((with_reducible refine gate_callee (f := 40) rfl ?_); refine goesL_ (some 5) rfl rfl Try.func40 (by kernel_rfl) rfl #[.agg #[.int .i64 a0_0, .slice A0_1 l0_1.length c0_1]] rfl la_ ?_; (with_reducible refine (sawmillref14_bounds.calls k a0_0 _ _ l0_1 t17002 t17003 t17004 t17005 _ ?side1 ?side2 A2.out).mono ?_); (case side1 => exact csC_ ((Kd.C_below HR0_1.out HB.out))); (case side2 => exact HC0_1.out); rintro e w5 ⟨rfl, hb⟩; refine ⟨_, rfl, ?_⟩; replace BK17001 := bb_ BK17001 hb; replace HB := bA_ hb; (try clear hb)) | ((with_reducible refine gate_dst (N := 3) rfl ?_); refine bx_ 3 (cs := #[.int .i64 0, .int .i64 0, .int .i64 0, .int .i64 0]) (t := 54) ?_; intro gb17006 hg w6 hbox hb; have BK17006 := A_ hbox; have GW17006 := gz_ (w := w) hg; have GE17006 := gz_ (w := w) hg; replace HB := bA_ hb; have NB17001_17006 := nlt_ BK17001 hg; have NB17006_17001 := ngt_ BK17001 hg; replace BK17001 := bb_ BK17001 hb; clear hb hbox hg; have hnb7 := NB17006_17001.out; have hnc7 := NB17001_17006.out; have hcz8_0 := cz0_ BK17006; have hcz8_1 := cz1_ BK17006; have hcz8_2 := cz2_ BK17006; have hcz8_3 := cz3_ BK17006; have hfz8_0 := fz_ BK17006 0; have hfz8_1 := fz_ BK17006 1; have hfz8_2 := fz_ BK17006 2; have hfz8_3 := fz_ BK17006 3));go_ret;exact ⟨er_, be_⟩

end Go.Proofs.Ytdbjoopkliafeaa.P

end
