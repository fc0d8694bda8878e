/- Functions of the program: what each computes, and that the call computes it; conditions: the fuel that the plain function asks for. -/
import Derived.Test.YtdgbecllbldcaaaCClassLongerV3
import Derived.Shelf.SlicesQ.IndexFunc
import Derived.Shelf.SlicesE.DeleteFunc
import Derived.ChangeSlices
import Derived.ChangeSame
section
namespace Go.Proofs.Ytdgbecllbldcaaa.P
open Go Go.RowKit Go.Proofs.YtdgbecllbldcaaaW.PrintWords Go.Proofs.YtdgbecllbldcaaaW.PrintLast Go.Proofs.YtdgbecllbldcaaaW.PrintMore
attribute [local go_sem] max2_int min2_int max_two min_two max_three min_three max_four min_four max_five min_eight max_eight   -- for this text's walks alone
set_option linter.unusedVariables false
set_option linter.unusedSimpArgs false
def api_Defect_83.f (l0 : List (S48)) : Option ((List (S48))) := (some (([] : List (S48)) : List (S48))).bind fun yq1 => (if yq1.length + l0.length < 2513169434916 then (some (yq1 ++ l0)) else (none))
set_option maxHeartbeats 8000000 in
set_option maxRecDepth 100000 in
theorem api_Defect_83.calls_some (ad0 : Addr) (c0 : Nat) (l0 : List (S48)) (r : List (S48)) (w : World) (hr0 : Kd.C k48 w (some ad0) l0.length l0) (hc0 : l0.length ≤ c0) (h : api_Defect_83.f l0 = some r) :
  Calls Try.prog 83 #[.slice (some ad0) l0.length c0] w fun e w' => ∃ v0_ : Value, e = .returned (v0_) ∧ Kd.R k48 48 w' w.heap.size (fun _ => True) v0_ r ∧ Below w.heap.size w w' := by
 have HR0 := Aside0.mk hr0;have HC0 := Aside0.mk hc0;clear hr0 hc0;have HB := A_ (Below.refl w.heap.size w);have H : ((some (([] : List (S48)) : List (S48))).bind fun yq1 => (if yq1.length + l0.length < 2513169434916 then (some (yq1 ++ l0)) else (none))) = some r := h;clear h;obtain ⟨yq1, hyq1⟩ : ∃ y_ : List (S48), y_ = (([] : List (S48))) := ⟨_, rfl⟩;(replace H : (if yq1.length + l0.length < 2513169434916 then (some (yq1 ++ l0)) else (none)) = some r := by first | (rw [hyq1]; with_reducible exact H) | (have H2_ := (Option.bind_some _ _).symm.trans H; rw [hyq1]; with_reducible exact H2_) | (have H2_ := (Option.bind_some _ _).symm.trans H; with_reducible exact H2_) | with_reducible exact H | (rw [hyq1]; exact H) | exact H);have Nyq1 := Aside0.mk hyq1;clear hyq1
 by_cases c2 : yq1.length + l0.length < 2513169434916
 ·rw [if_pos c2] at H;have LMc2 := Aside0.mk c2;clear c2;obtain ⟨yq4, hyq4⟩ : ∃ y_ : List (S48), y_ = (yq1 ++ l0) := ⟨_, rfl⟩;(replace H : (some yq4) = some r := by first | (rw [hyq4]; with_reducible exact H) | (have H2_ := (Option.bind_some _ _).symm.trans H; rw [hyq4]; with_reducible exact H2_) | (have H2_ := (Option.bind_some _ _).symm.trans H; with_reducible exact H2_) | with_reducible exact H | (rw [hyq4]; exact H) | exact H);have Nyq4 := Aside0.mk hyq4;clear hyq4;obtain rfl := Option.some.inj H;have qT : ∀ (W : World) (a : Option Addr) (n c n' c' : Nat), (binOp .eql 30 (.slice a n c) (.slice none n' c')).run Try.prog W = .ok (.bool a.isNone) W := fun W a n c n' c' => Lib.run_eql_slice_nil W _ _ a n c n' c' Try.underlying30;go_enter Try.func83, Try.ntmps83;go_wp2_with (first | ((with_reducible refine gate_dst (N := 5) rfl ?_); refine Kd.R_lit k48 _ 48 ?hg (N := 5) ?hd (xs := ([] : List (S48))) (inner := []) (ok := fun _ => True) (okp := fun _ => True) ?hr ?hp (fun _ hk => hk) trivial (Below.refl _ _) (Nat.le_refl _) (by simp) ?_; (case hd => rfl); (case hg => rfl); (case hr => first | (go_simp; done) | (go_simp; rfl)); (case hp => exact (Reps.none _ _)); intro vq2 w3 ho4 hb hg_ hnew_; clear hg_ hnew_; (first | rw [← Nyq1.out] at ho4 | (simp only [Int.reduceToNat] at ho4; rw [← Nyq1.out] at ho4)); have HOq3 := A_ (Kd.R_lower ho4 bz_); replace HB := bA_ hb; clear hb ho4) | ((with_reducible refine gate_builtin (b := .append) (xs := #[.tmp 5, .tmp 6]) rfl ?_); at_builtin; refine Kd.R_append_rows k48 (w0 := w) w.heap.size rfl (.tmp 5) (.tmp 6) 30 48 (.agg #[(.int .i64 0), (.int .i64 0), (.int .i64 0), (.int .i64 0), (.int .i64 0), (.int .i64 0), (.int .i64 0)]) 56 rfl Try.underlying30 info48 rfl (by decide) (by omega) vq2 yq1 l0 _ _ _ (fun _ => True) (fun _ => False) rfl rfl ?aO ?aR (fun _ _ h => h) (fun _ h => h.elim) ?aF ?aB ?aS ?aL ?_; (case aR => repeat (first | exact (Kd.C_below HR0.out HB.out) | (with_reducible refine Kd.C_alloc ?_ _) | (with_reducible refine Kd.C_drewN ?_ _) | (with_reducible refine Kd.C_drew ?_))); (case aB => exact be_); (case aF => exact (fun _ _ => trivial)); (case aO => exact (fR_ HOq3.out)); (case aS => exact bz_); (case aL => have := LMc2.out; omega); intro vq5 w5 ho hb hg hat; rw [← Nyq4.out] at ho; have n0_ := A_ (hb); have n1_ := A_ (ho); clear HB HOq3; have HB := n0_; have HOq6 := n1_; clear n0_ n1_; clear ho hb hg hat));go_ret;exact ⟨_, er_, fR_ HOq6.out, be_⟩
 ·rw [if_neg c2] at H;exact absurd H (by simp)
set_option maxHeartbeats 8000000 in
set_option maxRecDepth 100000 in
theorem api_Defect_83.calls (A0 : Option Addr) (c0 : Nat) (l0 : List (S48)) (r : List (S48)) (w : World) (hr0 : Kd.C k48 w A0 l0.length l0) (hc0 : l0.length ≤ c0) (h : api_Defect_83.f l0 = some r) :
  Calls Try.prog 83 #[.slice A0 l0.length c0] w fun e w' => ∃ v0_ : Value, e = .returned (v0_) ∧ Kd.R k48 48 w' w.heap.size (fun _ => True) v0_ r ∧ Below w.heap.size w w' := by
 rcases A0 with _ | ad0
 ·have hl : l0 = [] := by
   by_cases hz : 0 < l0.length
   ·obtain ⟨ad, he, _⟩ := hr0.2.2 hz;cases he
   ·exact List.eq_nil_of_length_eq_zero (by omega)
  subst hl;(obtain rfl : r = [] := by simpa [api_Defect_83.f] using h.symm);have qT : ∀ (W : World) (a : Option Addr) (n c n' c' : Nat), (binOp .eql 30 (.slice a n c) (.slice none n' c')).run Try.prog W = .ok (.bool a.isNone) W := fun W a n c n' c' => Lib.run_eql_slice_nil W _ _ a n c n' c' Try.underlying30;go_enter Try.func83, Try.ntmps83;go_wp2;go_ret;exact ⟨_, rfl, Kd.R_nil _ _ _ _ _, Below.refl _ _⟩
 ·exact api_Defect_83.calls_some ad0 c0 l0 r w hr0 hc0 h


-- by hand
-- IMPORT Derived.Shelf.SlicesQ.IndexFunc
-- IMPORT Derived.Shelf.SlicesE.DeleteFunc
set_option maxHeartbeats 4000000 in
set_option maxRecDepth 100000 in
theorem kind_is (a0 x0 x1 y0 y1 z0 z1 kind : Int) (K : Nat) (W : World) (hk : W.cell? ⟨K, 0, none⟩ = some (.int .i64 kind)) : Calls Try.prog 85 #[.agg #[.int .i64 a0, .int .i64 x0, .int .i64 x1, .int .i64 y0, .int .i64 y1, .int .i64 z0, .int .i64 z1], .pointer (some ⟨K, 0, none⟩)] W fun e w' => e = .returned (.bool (a0 == kind)) ∧ Below W.heap.size W w' := by
  have hK : K < W.heap.size := World.block_lt_of_cell? _ _ hk;(have hne : K ≠ W.heap.size := by omega);go_enter Try.func85, Try.ntmps85;go_wp2;go_ret;exact ⟨rfl, by repeat (first | exact Below.refl _ _ | apply below_alloc)⟩
set_option maxHeartbeats 4000000 in
set_option maxRecDepth 100000 in
theorem not_kind (a0 x0 x1 y0 y1 z0 z1 kind : Int) (K I : Nat) (W : World) (hk : W.cell? ⟨K, 0, none⟩ = some (.int .i64 kind)) (hi : W.cell? ⟨I, 0, none⟩ = some (.func (.func 85) #[] #[.pointer (some ⟨K, 0, none⟩)])) : Calls Try.prog 84 #[.agg #[.int .i64 a0, .int .i64 x0, .int .i64 x1, .int .i64 y0, .int .i64 y1, .int .i64 z0, .int .i64 z1], .pointer (some ⟨I, 0, none⟩)] W fun e w' => e = .returned (.bool (!(a0 == kind))) ∧ Below W.heap.size W w' := by
  have hI : I < W.heap.size := World.block_lt_of_cell? _ _ hi;have hK : K < W.heap.size := World.block_lt_of_cell? _ _ hk;(have hne : K ≠ W.heap.size := by omega);(have hni : I ≠ W.heap.size := by omega);go_enter Try.func84, Try.ntmps84;go_wp2;go_ret;exact ⟨rfl, by repeat (first | exact Below.refl _ _ | apply below_alloc)⟩

instance : Inhabited S48 := ⟨z48⟩
def enc7 (x : S48) : List Value := [.int .i64 x.f0, .int .i64 x.f1.f0.f0, .int .i64 x.f1.f0.f1, .int .i64 x.f1.f1.f0, .int .i64 x.f1.f1.f1, .int .i64 x.f1.f2.f0, .int .i64 x.f1.f2.f1]
def idx88 : Go.Shelf.Ren := ⟨fun x => if x = 6 then 88 else x, fun x => if x = 22 then 30 else if x = 23 then 48 else if x = 25 then 85 else x, fun x => x⟩
theorem idx88_lay : SlLaysH0.n6 Try.prog idx88 where
  mixed := by kernel_rfl
  f6 := ⟨"slices.IndexFunc[[]sawmill/api.Defect,sawmill/api.Defect]", by decide, by kernel_rfl⟩
  t0 := by kernel_rfl
  a0 := fun w => by kernel_rfl
  z0 := fun w => by kernel_rfl
  v0 := fun w => by kernel_rfl
  t3 := by kernel_rfl
  a3 := fun w => by kernel_rfl
  z3 := fun w => by kernel_rfl
  v3 := fun w => by kernel_rfl
  t4 := by kernel_rfl
  a4 := fun w => by kernel_rfl
  z4 := fun w => by kernel_rfl
  v4 := fun w => by kernel_rfl
  t22 := by kernel_rfl
  a22 := fun w => by kernel_rfl
  z22 := fun w => by kernel_rfl
  v22 := fun w => by kernel_rfl
  t25 := by kernel_rfl
  a25 := fun w => by kernel_rfl
  z25 := fun w => by kernel_rfl
  v25 := fun w => by kernel_rfl

def RowFrom (W : World) (g cap : Nat) (l : List S48) (j : Nat) : Prop := ∃ cur : Array Value, W.heap[g]? = some (.cells cur 48 (0, 0)) ∧ cur.size = cap * 7 ∧ ∀ t, j ≤ t → t < l.length → ∀ (c : Nat) (v : Value), (enc7 l[t]!)[c]? = some v → cur[t * 7 + c]? = some v
theorem RowFrom.cell {W : World} {g cap : Nat} {l : List S48} {j t : Nat} (h : RowFrom W g cap l j) (h1 : j ≤ t) (h2 : t < l.length) {c : Nat} {v : Value} (hv : (enc7 l[t]!)[c]? = some v) : W.cell? ⟨g, t * 7 + c, none⟩ = some v := by
  obtain ⟨cur, hb, _, hc⟩ := h;rw [cell_of_row W g (t * 7 + c) cur 48 (0, 0) hb];exact hc t h1 h2 c v hv
theorem RowFrom.below {W W' : World} {g cap : Nat} {l : List S48} {j : Nat} (h : RowFrom W g cap l j) (hb : W'.heap[g]? = W.heap[g]?) : RowFrom W' g cap l j := by
  obtain ⟨cur, h1, h2, h3⟩ := h;exact ⟨cur, hb.trans h1, h2, h3⟩
theorem pred84 (kind : Int) (K I : Nat) (w : World) (hk : w.cell? ⟨K, 0, none⟩ = some (.int .i64 kind)) (hi : w.cell? ⟨I, 0, none⟩ = some (.func (.func 85) #[] #[.pointer (some ⟨K, 0, none⟩)])) :
    PredBelow Try.prog 84 #[.pointer (some ⟨I, 0, none⟩)] (fun x => .agg (enc7 x).toArray) (fun x => !(x.f0 == kind)) w := fun W x hb => by
  have hK := World.block_lt_of_cell? _ _ hk;have hI := World.block_lt_of_cell? _ _ hi;refine (not_kind x.f0 x.f1.f0.f0 x.f1.f0.f1 x.f1.f1.f0 x.f1.f1.f1 x.f1.f2.f0 x.f1.f2.f1 kind K I W ((hb.cell (p := ⟨K, 0, none⟩) hK).trans hk) ((hb.cell (p := ⟨I, 0, none⟩) hI).trans hi)).mono ?_;rintro e w' ⟨rfl, h⟩;exact ⟨rfl, hb.trans (h.mono hb.size)⟩
theorem index88 (kind : Int) (K I g cap : Nat) (l : List S48) (w : World) (hl : l.length ≤ 9223372036854775807) (hk : w.cell? ⟨K, 0, none⟩ = some (.int .i64 kind)) (hi : w.cell? ⟨I, 0, none⟩ = some (.func (.func 85) #[] #[.pointer (some ⟨K, 0, none⟩)])) (hr : RowFrom w g cap l 0) :
    Calls Try.prog 88 #[.slice (some ⟨g, 0, none⟩) l.length cap, .func (.func 84) #[] #[.pointer (some ⟨I, 0, none⟩)]] w fun e w' => e = .returned (.int .i64 (Lib.idxBy (fun _ y => !(y.f0 == kind)) l default)) ∧ Below w.heap.size w w' := by
  have eg : ∀ args w, (callFunc 84 args).run Try.prog w = .ok (.enter 84 args) w := enters_of Try.func84 (by kernel_rfl) rfl;have hg : g < w.heap.size := by obtain ⟨cur, hb, _⟩ := hr; exact blk_lt hb
  have h := AnyQ.slices_IndexFunc idx88_lay 7 (fun w => by kernel_rfl) (fun w => by kernel_rfl) enc7 (fun _ => rfl) (fun x => !(x.f0 == kind)) 84 #[.pointer (some ⟨I, 0, none⟩)] eg g 0 l.length cap l w (pred84 kind K I w hk hi) (Nat.le_refl _) hl hg (fun j hj i v hv => by
    rw [Nat.zero_add];exact hr.cell (Nat.zero_le _) hj hv)
  rw [List.take_length] at h;exact h

theorem cell_below {B b o : Nat} {w W : World} (h : Below B w W) (hb : b < B) : W.cell? ⟨b, o, none⟩ = w.cell? ⟨b, o, none⟩ := World.cell?_of_block (h.block b hb)
theorem RowFrom.set {W : World} {g cap : Nat} {l : List S48} {j p : Nat} {v : Value} (h : RowFrom W g cap l j) (hp : p < j * 7) : RowFrom (W.setCell ⟨g, p, none⟩ v) g cap l j := by
  obtain ⟨cur, h1, h2, h3⟩ := h;refine ⟨cur.setIfInBounds p v, blk_put h1 p v rfl, by simpa using h2, fun t ht hl c u hu => ?_⟩;rw [Array.getElem?_setIfInBounds_ne (by omega)];exact h3 t ht hl c u hu
theorem below_setg {g p : Nat} {w W : World} {v : Value} (h : Below g w W) : Below g w (W.setCell ⟨g, p, none⟩ v) :=
  h.setCell (Nat.le_refl _) _
def cnt (kind : Int) (l : List S48) : Nat := (l.filter fun x => x.f0 == kind).length
theorem cnt_succ {kind : Int} {l : List S48} {j : Nat} (hj : j < l.length) : cnt kind (l.take (j + 1)) = cnt kind (l.take j) + (if (l[j]!.f0 == kind) = true then 1 else 0) := by
  unfold cnt;rw [List.take_add_one, List.getElem?_eq_getElem hj, getElem!_pos l j hj, Option.toList_some, List.filter_append, List.length_append]
  congr 1
  by_cases h : (l[j].f0 == kind) = true
  · rw [if_pos h, List.filter_cons_of_pos (by exact h)]; rfl
  · rw [if_neg h, List.filter_cons_of_neg (by exact h)]; rfl
def zero7 (m : Nat) : List Value := (Builtin.zeroCells #[.int .i64 0, .int .i64 0, .int .i64 0, .int .i64 0, .int .i64 0, .int .i64 0, .int .i64 0] m).toList
theorem zero7_length (m : Nat) : (zero7 m).length = m * 7 := by simp [zero7, Builtin.zeroCells]
theorem zero7_one (m : Nat) : ∀ v ∈ zero7 m, v.oneCell' = true := by
  intro v hv;unfold zero7 Builtin.zeroCells at hv;simp only [Array.toList_map, List.mem_map] at hv;obtain ⟨i, _, rfl⟩ := hv;have h : i % 7 < 7 := Nat.mod_lt _ (by decide)
  change (#[Value.int .i64 0, .int .i64 0, .int .i64 0, .int .i64 0, .int .i64 0, .int .i64 0, .int .i64 0][i % 7]!).oneCell' = true
  generalize i % 7 = q at h
  match q, h with
  | 0, _ => rfl
  | 1, _ => rfl
  | 2, _ => rfl
  | 3, _ => rfl
  | 4, _ => rfl
  | 5, _ => rfl
  | 6, _ => rfl
theorem clear48 (w : World) (g o m c : Nat) (hm : 0 < m) (hc : ∀ j, j < m * 7 → (w.cell? ⟨g, o + j, none⟩).isSome = true) (hf : ∀ j, j < m * 7 → w.frozen? ⟨g, o + j, none⟩ = false) (ty : TypeId) :
    (Builtin.clear_ #[30] ty #[.slice (some ⟨g, o, none⟩) m c]).run Try.prog w = .ok (.tuple #[]) (w.setCells g o (zero7 m)) := by
  have hst := run_storeCells_cells (P := Try.prog) g o (zero7 m) 0 w (by rw [zero7_length]; simpa using hc) (by rw [zero7_length]; simpa using hf) (zero7_one m);simp only [Nat.add_zero] at hst;(have hv : ∀ w, (zeroValue 48).run Try.prog w = .ok (.agg #[.int .i64 0, .int .i64 0, .int .i64 0, .int .i64 0, .int .i64 0, .int .i64 0, .int .i64 0]) w := fun w => by kernel_rfl);(have ht : Try.prog.underlying 30 = some (.slice 48) := by kernel_rfl);obtain ⟨m, rfl⟩ : ∃ q, m = q + 1 := ⟨m - 1, by omega⟩;unfold zero7 at hst;simp [Builtin.clear_, run_underlying ht, hv, Value.cells, hst, zero7]
theorem below_setCells {g : Nat} : ∀ (vs : List Value) (o : Nat) {w W : World}, Below g w W → Below g w (W.setCells g o vs)
  | [], _, _, _, h => h
  | v :: r, o, _, _, h => below_setCells r (o + 1) (below_setg h)
set_option maxHeartbeats 4000000 in
set_option maxRecDepth 100000 in
theorem delete82 (kind : Int) (K I g cap : Nat) (l : List S48) (w : World) (hl : l.length ≤ 9223372036854775807) (hcap : l.length ≤ cap) (hKg : K < g) (hIg : I < g) (hk : w.cell? ⟨K, 0, none⟩ = some (.int .i64 kind)) (hi : w.cell? ⟨I, 0, none⟩ = some (.func (.func 85) #[] #[.pointer (some ⟨K, 0, none⟩)])) (hr : RowFrom w g cap l 0) :
    Calls Try.prog 82 #[.slice (some ⟨g, 0, none⟩) l.length cap, .func (.func 84) #[] #[.pointer (some ⟨I, 0, none⟩)]] w fun e w' => (∃ A c', e = .returned (.slice A (cnt kind l) c')) ∧ Below g w w' := by
  (have hg : g < w.heap.size := by obtain ⟨cur, hb, _⟩ := hr; exact blk_lt hb);have hIF := index88 kind K I g cap l w (by omega) hk hi hr
  rcases idxByFrom_spec (fun _ (y : S48) => !(y.f0 == kind)) default l 0 with ⟨e1, hall⟩ | ⟨k0, hk0, e1, ht, hall⟩
  · have e2 : Lib.idxBy (fun _ (y : S48) => !(y.f0 == kind)) l default = -1 := e1
    rw [e2] at hIF
    have hc : cnt kind l = l.length := by
      unfold cnt
      rw [List.filter_eq_self.2 (fun x hx => by
        obtain ⟨j, hj, e⟩ := List.getElem_of_mem hx;have := hall j hj;rw [getElem!_pos l j hj, e] at this
        simpa using this)]
    clear e1 e2 hall hr hk hi;go_enter Try.func82, Try.ntmps82;go_wp2_with fail;refine hIF.mono ?_;rintro e w2 ⟨rfl, hb⟩;go_wp2;go_ret;rw [hc];exact ⟨⟨_, _, rfl⟩, hb.mono (Nat.le_of_lt hg)⟩
  · have e2 : Lib.idxBy (fun _ (y : S48) => !(y.f0 == kind)) l default = (k0 : Int) := by unfold Lib.idxBy; rw [e1]; simp
    rw [e2] at hIF;have hne1 : ((k0 : Int) == -1) = false := beq_eq_false_iff_ne.2 (by omega);have w1 : wrap64 ((k0 : Int) + 1) = ((k0 + 1 : Nat) : Int) := by unfold wrap64; omega
    have hst : cnt kind (l.take (k0 + 1)) = k0 := by
      have key : ∀ m, m ≤ k0 → cnt kind (l.take m) = m := by
        intro m
        induction m with
        | zero => intro _; rfl
        | succ m ih =>
          intro hm;have h := hall m (by omega);rw [cnt_succ (by omega), ih (by omega), if_pos (by simpa using h)]
      rw [cnt_succ hk0, key k0 (Nat.le_refl _), if_neg (by simpa using ht)];rfl
    clear e1 e2 ht hall;have HR := Aside0.mk hr;have HK := Aside0.mk hk;have HI := Aside0.mk hi;clear hr hk hi;go_enter Try.func82, Try.ntmps82;go_wp2_with fail;refine hIF.mono ?_;rintro e w2 ⟨rfl, hb⟩;go_wp2;have hbg : Below g w w2 := hb.mono (Nat.le_of_lt hg)
    have HR2 : Aside0 (RowFrom w2 g cap l (k0 + 1)) := ⟨by
      obtain ⟨cur, q1, q2, q3⟩ := HR.out;exact ⟨cur, (hb.block g hg).trans q1, q2, fun t h1 h2 => q3 t (Nat.zero_le _) h2⟩⟩
    clear hb hIF
    go_loopg [5, 6, 7] l.length (fun gg s5 s6 s7 wr => ∃ (i j : Nat), s5 = .int .i64 i ∧ s6 = .int .i64 j ∧ j ≤ l.length ∧ l.length - j ≤ gg ∧ i < j ∧ Aside0 (i = cnt kind (l.take j)) ∧ Below g w wr ∧ Aside0 (RowFrom wr g cap l j))
    case atStart => exact ⟨k0, k0 + 1, rfl, rfl, by omega, by omega, by omega, ⟨hst.symm⟩, hbg, HR2⟩
    case round =>
      obtain ⟨i, j, rfl, rfl, hjl, hgg, hij, hic, hbr, HRj⟩ := hrel;clear HR2 hbg;have hI : wr.cell? ⟨I, 0, none⟩ = some (.func (.func 85) #[] #[.pointer (some ⟨K, 0, none⟩)]) := (cell_below hbr hIg).trans HI.out;have hK : wr.cell? ⟨K, 0, none⟩ = some (.int .i64 kind) := (cell_below hbr hKg).trans HK.out;have hgw : g < wr.heap.size := by obtain ⟨cur, q1, _⟩ := HRj.out; exact blk_lt q1
      by_cases hlt : j < l.length
      · have hltz : (j : Int) < (l.length : Int) := by omega
        have f0 := HRj.out.cell (Nat.le_refl j) hlt (c := 0) (v := .int .i64 l[j]!.f0) rfl;have f1 := HRj.out.cell (Nat.le_refl j) hlt (c := 1) (v := .int .i64 l[j]!.f1.f0.f0) rfl;have f2 := HRj.out.cell (Nat.le_refl j) hlt (c := 2) (v := .int .i64 l[j]!.f1.f0.f1) rfl;have f3 := HRj.out.cell (Nat.le_refl j) hlt (c := 3) (v := .int .i64 l[j]!.f1.f1.f0) rfl;have f4 := HRj.out.cell (Nat.le_refl j) hlt (c := 4) (v := .int .i64 l[j]!.f1.f1.f1) rfl;have f5 := HRj.out.cell (Nat.le_refl j) hlt (c := 5) (v := .int .i64 l[j]!.f1.f2.f0) rfl;have f6 := HRj.out.cell (Nat.le_refl j) hlt (c := 6) (v := .int .i64 l[j]!.f1.f2.f1) rfl;rw [Nat.add_zero] at f0;have hrow := fun (W : World) (h : W.heap[g]? = wr.heap[g]?) => HRj.out.below h;generalize hx : l[j]! = x at f0 f1 f2 f3 f4 f5 f6;have HX := Aside0.mk hx;have HRJ := HRj;clear hx HRj;(have hne3 : g ≠ wr.heap.size := by omega);go_wp2_with fail;refine (not_kind x.f0 x.f1.f0.f0 x.f1.f0.f1 x.f1.f1.f0 x.f1.f1.f1 x.f1.f2.f0 x.f1.f2.f1 kind K I _ ?hk ?hi).mono ?_
        case hk => exact Lib.cell?_alloc_some _ hK
        case hi => exact Lib.cell?_alloc_some _ hI
        rintro e w5 ⟨rfl, hb⟩;have e0 : w5.cell? ⟨wr.heap.size, 0, none⟩ = some (.int .i64 x.f0) := (hb.cell (p := ⟨wr.heap.size, 0, none⟩) (by simp)).trans (by simp);have e1 : w5.cell? ⟨wr.heap.size, 1, none⟩ = some (.int .i64 x.f1.f0.f0) := (hb.cell (p := ⟨wr.heap.size, 1, none⟩) (by simp)).trans (by simp);have e2 : w5.cell? ⟨wr.heap.size, 2, none⟩ = some (.int .i64 x.f1.f0.f1) := (hb.cell (p := ⟨wr.heap.size, 2, none⟩) (by simp)).trans (by simp);have e3 : w5.cell? ⟨wr.heap.size, 3, none⟩ = some (.int .i64 x.f1.f1.f0) := (hb.cell (p := ⟨wr.heap.size, 3, none⟩) (by simp)).trans (by simp);have e4 : w5.cell? ⟨wr.heap.size, 4, none⟩ = some (.int .i64 x.f1.f1.f1) := (hb.cell (p := ⟨wr.heap.size, 4, none⟩) (by simp)).trans (by simp);have e5 : w5.cell? ⟨wr.heap.size, 5, none⟩ = some (.int .i64 x.f1.f2.f0) := (hb.cell (p := ⟨wr.heap.size, 5, none⟩) (by simp)).trans (by simp);have e6 : w5.cell? ⟨wr.heap.size, 6, none⟩ = some (.int .i64 x.f1.f2.f1) := (hb.cell (p := ⟨wr.heap.size, 6, none⟩) (by simp)).trans (by simp);obtain ⟨cur, q1, q2, q3⟩ := HRJ.out;have q5 : w5.heap[g]? = some (.cells cur 48 (0, 0)) := (hb.block g (by simp; omega)).trans ((Below.heap_alloc wr _ g hgw).trans q1);(have hi7 : i * 7 + 6 < cur.size := by omega);have o0 : w5.cell? ⟨g, i * 7, none⟩ = some (cur[i * 7 + 0]'(by omega)) := (cell_of_row w5 g (i * 7 + 0) cur 48 (0, 0) q5).trans (Array.getElem?_eq_getElem (by omega));have z0 : w5.frozen? ⟨g, i * 7, none⟩ = false := blk_frozen q5 (i * 7 + 0);have o1 : w5.cell? ⟨g, i * 7 + 1, none⟩ = some (cur[i * 7 + 1]'(by omega)) := (cell_of_row w5 g (i * 7 + 1) cur 48 (0, 0) q5).trans (Array.getElem?_eq_getElem (by omega));have z1 : w5.frozen? ⟨g, i * 7 + 1, none⟩ = false := blk_frozen q5 (i * 7 + 1);have o2 : w5.cell? ⟨g, i * 7 + 2, none⟩ = some (cur[i * 7 + 2]'(by omega)) := (cell_of_row w5 g (i * 7 + 2) cur 48 (0, 0) q5).trans (Array.getElem?_eq_getElem (by omega));have z2 : w5.frozen? ⟨g, i * 7 + 2, none⟩ = false := blk_frozen q5 (i * 7 + 2);have o3 : w5.cell? ⟨g, i * 7 + 3, none⟩ = some (cur[i * 7 + 3]'(by omega)) := (cell_of_row w5 g (i * 7 + 3) cur 48 (0, 0) q5).trans (Array.getElem?_eq_getElem (by omega));have z3 : w5.frozen? ⟨g, i * 7 + 3, none⟩ = false := blk_frozen q5 (i * 7 + 3);have o4 : w5.cell? ⟨g, i * 7 + 4, none⟩ = some (cur[i * 7 + 4]'(by omega)) := (cell_of_row w5 g (i * 7 + 4) cur 48 (0, 0) q5).trans (Array.getElem?_eq_getElem (by omega));have z4 : w5.frozen? ⟨g, i * 7 + 4, none⟩ = false := blk_frozen q5 (i * 7 + 4);have o5 : w5.cell? ⟨g, i * 7 + 5, none⟩ = some (cur[i * 7 + 5]'(by omega)) := (cell_of_row w5 g (i * 7 + 5) cur 48 (0, 0) q5).trans (Array.getElem?_eq_getElem (by omega));have z5 : w5.frozen? ⟨g, i * 7 + 5, none⟩ = false := blk_frozen q5 (i * 7 + 5);have o6 : w5.cell? ⟨g, i * 7 + 6, none⟩ = some (cur[i * 7 + 6]'(by omega)) := (cell_of_row w5 g (i * 7 + 6) cur 48 (0, 0) q5).trans (Array.getElem?_eq_getElem (by omega));have z6 : w5.frozen? ⟨g, i * 7 + 6, none⟩ = false := blk_frozen q5 (i * 7 + 6);(have hw5 : wr.heap.size + 1 ≤ w5.heap.size := by have := hb.size; simpa using this);have hb5 : Below g w w5 := hbr.trans (((below_alloc (Below.refl _ _) _).mono (Nat.le_of_lt hgw)).trans (hb.mono (by simp; omega)));have Q3 := Aside0.mk q3;have Q5 := Aside0.mk q5;clear q1 q3 q5 hb hrow f0 f1 f2 f3 f4 f5 f6;have hrow5 : Aside0 (RowFrom w5 g cap l (j + 1)) := ⟨⟨cur, Q5.out, q2, fun t h1 h2 => Q3.out t (by omega) h2⟩⟩
        by_cases hq : (x.f0 == kind) = true
        · go_wp2
          go_roundg (l.length - (j + 1))
          case measure => omega
          case rel =>
            refine ⟨i + 1, j + 1, rfl, rfl, by omega, by omega, by omega, ⟨?_⟩, ?_, ⟨?_⟩⟩
            · rw [cnt_succ hlt, HX.out, if_pos hq, hic.out]
            · exact below_setg (below_setg (below_setg (below_setg (below_setg (below_setg (below_setg hb5))))))
            · exact RowFrom.set (RowFrom.set (RowFrom.set (RowFrom.set (RowFrom.set (RowFrom.set (RowFrom.set hrow5.out (by omega)) (by omega)) (by omega)) (by omega)) (by omega)) (by omega)) (by omega)
        · have hq' : (x.f0 == kind) = false := by simpa using hq
          go_wp2
          go_roundg (l.length - (j + 1))
          case measure => omega
          case rel => exact ⟨i, j + 1, rfl, rfl, by omega, by omega, by omega, ⟨by rw [cnt_succ hlt, HX.out, if_neg hq, hic.out]; rfl⟩, hb5, hrow5⟩
      · have hjn : j = l.length := by omega
        subst hjn;(have hltz : ¬ (l.length : Int) < (l.length : Int) := by omega);obtain ⟨cur, q1, q2, q3⟩ := HRj.out;have him : (l.length - i) * 7 + i * 7 = l.length * 7 := by omega
        have hcl := fun ty => clear48 wr g (i * 7) (l.length - i) (cap - i) (by omega) (fun t ht => by
          rw [cell_of_row wr g (i * 7 + t) cur 48 (0, 0) q1, Array.getElem?_eq_getElem (by omega)]; rfl) (fun t ht => blk_frozen q1 (i * 7 + t)) ty
        clear q1 q2 q3;go_wp2;go_ret;refine ⟨⟨some ⟨g, 0, none⟩, cap, ?_⟩, below_setCells _ _ hbr⟩;rw [hic.out, List.take_length];rfl

def defect_Count.f (l0 : List S48) (a1 : Int) : Option Int := (api_Defect_83.f l0).bind fun t => some (cnt a1 t : Int)
theorem rowFrom_of {w : World} {base : Nat} {ok : Nat → Prop} {g cap : Nat} {l : List S48} (h : Kd.R k48 48 w base ok (.slice (some ⟨g, 0, none⟩) l.length cap) l) : RowFrom w g cap l 0 ∧ l.length ≤ cap ∧ base ≤ g := by
  obtain ⟨h0, inner, ⟨hin, hown⟩, hreps⟩ := h;have sz : k48.sz = 7 := rfl;rw [sz] at hin hown hreps
  rcases hown with ⟨hv, _⟩ | ⟨g', cap', cur, hv, hbase, hg, hcap, hmax, hcur, htake⟩
  · cases hv
  · injection hv with h1 h2 h3
    injection h1 with h1;injection h1 with h1;subst h1 h3;refine ⟨⟨cur, hg, hcur, fun t _ ht c v hv => ?_⟩, hcap, hbase⟩;have hm := k48_openM (hreps.2 t l[t] (List.getElem?_eq_getElem ht));rw [getElem!_pos l t ht] at hv
    change (enc7 l[t])[c]? = some v at hv
    (have hc7 : c < 7 := by have := (List.getElem?_eq_some_iff.1 hv).1; exact this);(have e : ((inner.drop (t * 7)).take 7)[c]? = some v := by rw [hm]; exact hv);rw [List.getElem?_take, if_pos hc7, List.getElem?_drop, ← htake, List.getElem?_take, if_pos (by omega), Array.getElem?_toList] at e;exact e
set_option maxHeartbeats 4000000 in
set_option maxRecDepth 100000 in
theorem index88_empty (A : Option Addr) (cap : Nat) (f : Value) (w : World) : Calls Try.prog 88 #[.slice A 0 cap, f] w fun e w' => e = .returned (.int .i64 (-1)) ∧ Below w.heap.size w w' := by
  go_enter Try.func88, Try.ntmps88;go_wp2
  go_loopg [8] 0 (fun _ s8 wr => s8 = .int .i64 0 ∧ wr = w)
  case atStart => exact ⟨rfl, rfl⟩
  case round =>
    obtain ⟨rfl, rfl⟩ := hrel;go_wp2;go_ret;exact ⟨rfl, Below.refl _ _⟩
set_option maxHeartbeats 4000000 in
theorem ofKind67 (kind : Int) (w : World) : Calls Try.prog 67 #[.int .i64 kind] w fun e w' => e = .returned (.func (.func 85) #[] #[.pointer (some ⟨w.heap.size, 0, none⟩)]) ∧ w' = w.alloc (.cells #[.int .i64 kind] 3) := by
  go_enter Try.func67, Try.ntmps67;go_wp2;go_ret;exact ⟨rfl, rfl⟩
set_option maxHeartbeats 4000000 in
set_option maxRecDepth 100000 in
theorem delete82_empty (A : Option Addr) (cap : Nat) (f : Value) (w : World) : Calls Try.prog 82 #[.slice A 0 cap, f] w fun e w' => e = .returned (.slice A 0 cap) ∧ Below w.heap.size w w' := by
  go_enter Try.func82, Try.ntmps82;go_wp2_with fail;refine (index88_empty A cap f w).mono ?_;rintro e w2 ⟨rfl, hb⟩;go_wp2;go_ret;exact ⟨rfl, hb⟩
set_option maxHeartbeats 4000000 in
set_option maxRecDepth 100000 in
theorem chosen66 (kind : Int) (K : Nat) (A0 : Option Addr) (c0 : Nat) (l0 t : List S48) (w : World) (hr0 : Kd.C k48 w A0 l0.length l0) (hc0 : l0.length ≤ c0) (hk : w.cell? ⟨K, 0, none⟩ = some (.int .i64 kind)) (h : api_Defect_83.f l0 = some t) :
    Calls Try.prog 66 #[.slice A0 l0.length c0, .func (.func 85) #[] #[.pointer (some ⟨K, 0, none⟩)]] w fun e w' => (∃ A c', e = .returned (.slice A (cnt kind t) c')) ∧ Below w.heap.size w w' := by
  have HC := Aside0.mk hr0;clear hr0;have hK := World.block_lt_of_cell? _ _ hk;have hb0 := below_alloc (Below.refl w.heap.size w) (.cells #[.func (.func 85) #[] #[.pointer (some ⟨K, 0, none⟩)]] 85);have hcl := api_Defect_83.calls A0 c0 l0 t _ (Kd.C_below HC.out hb0) hc0 h;go_enter Try.func66, Try.ntmps66;go_wp2_with fail;refine hcl.mono ?_;rintro e w2 ⟨v, rfl, hR, hb⟩;have hbb : Below w.heap.size w w2 := hb0.trans (hb.mono hb0.size);have hK2 : w2.cell? ⟨K, 0, none⟩ = some (.int .i64 kind) := (hbb.cell (p := ⟨K, 0, none⟩) hK).trans hk;have hI2 : w2.cell? ⟨w.heap.size, 0, none⟩ = some (.func (.func 85) #[] #[.pointer (some ⟨K, 0, none⟩)]) := (hb.cell (p := ⟨w.heap.size, 0, none⟩) (by simp)).trans (by simp)
  have ht : t.length ≤ 9223372036854775807 := by
    unfold api_Defect_83.f at h;simp only [Option.bind_some] at h
    split at h
    · obtain rfl := Option.some.inj h; simp at *; omega
    · cases h
  by_cases hz : t.length = 0
  · obtain rfl := List.eq_nil_of_length_eq_zero hz
    obtain ⟨A, c, rfl, _, _⟩ := Kd.R_reads hR;have hd := delete82_empty A c (.func (.func 84) #[] #[.pointer (some ⟨w.heap.size, 0, none⟩)]) w2;go_wp2_with fail;refine hd.mono ?_;rintro e w3 ⟨rfl, hb3⟩;go_wp2;go_ret;exact ⟨⟨_, _, rfl⟩, hbb.trans (hb3.mono hbb.size)⟩
  · obtain ⟨ad, c, rfl⟩ := Kd.R_slice1 hR (by omega)
    obtain ⟨g, hg⟩ : ∃ g, ad = ⟨g, 0, none⟩ := by
      obtain ⟨h0, inner, ⟨hin, hown⟩, hreps⟩ := hR
      rcases hown with ⟨hv, _⟩ | ⟨g', cap', cur, hv, _⟩
      · cases hv
      · injection hv with h1 h2 h3
        injection h1 with h1;exact ⟨_, h1⟩
    subst hg;obtain ⟨hr, hcap, hbase⟩ := rowFrom_of hR
    have hgK : K < g := by have : w.heap.size < (w.alloc (.cells #[.func (.func 85) #[] #[.pointer (some ⟨K, 0, none⟩)]] 85)).heap.size := by simp
                           omega
    have hgI : w.heap.size < g := by have : w.heap.size < (w.alloc (.cells #[.func (.func 85) #[] #[.pointer (some ⟨K, 0, none⟩)]] 85)).heap.size := by simp
                                     omega
    have hd := delete82 kind K w.heap.size g c t w2 ht hcap hgK hgI hK2 hI2 hr;go_wp2_with fail;refine hd.mono ?_;rintro e w3 ⟨⟨A, c', rfl⟩, hb3⟩;go_wp2;go_ret;exact ⟨⟨_, _, rfl⟩, hbb.trans (hb3.mono (Nat.le_of_lt hgI))⟩
set_option maxHeartbeats 4000000 in
set_option maxRecDepth 100000 in
theorem defect_Count.calls (A0 : Option Addr) (c0 : Nat) (l0 : List S48) (a1 : Int) (r : Int) (w : World) (hr0 : Kd.C k48 w A0 l0.length l0) (hc0 : l0.length ≤ c0) (h : defect_Count.f l0 a1 = some r) :
    Calls Try.prog 47 #[.slice A0 l0.length c0, .int .i64 a1] w fun e w' => e = .returned (.int .i64 r) ∧ Below w.heap.size w w' := by
  obtain ⟨t, A1, h⟩ := Option.bind_eq_some_iff.mp h;obtain rfl := Option.some.inj h;clear h;have HC := Aside0.mk hr0;clear hr0;have hb0 := below_alloc (Below.refl w.heap.size w) (.cells #[.int .i64 a1] 3);have hcl := chosen66 a1 w.heap.size A0 c0 l0 t _ (Kd.C_below HC.out hb0) hc0 (by simp) A1;go_enter Try.func47, Try.ntmps47;go_wp2_with fail;refine (ofKind67 a1 w).mono ?_;rintro e w2 ⟨rfl, rfl⟩;go_wp2_with fail;refine hcl.mono ?_;rintro e w3 ⟨⟨A, c', rfl⟩, hb3⟩;go_wp2;go_ret;exact ⟨rfl, hb0.trans (hb3.mono hb0.size)⟩


def class_measured_1.f (a0_0 : ByteArray) (a0_1 : Int) (a0_2 : Int) (a0_3 : Int) (a0_4 : Int) (a0_5 : Int) (a0_6 : Int) (a0_7 : Int) (a0_8 : Int) (a1 : Int) (a2 : Int) (a3 : Int) (a4 : Int) (a5 : Int) (a6 : Int) : Option (Bool) := if a1 < a0_1 then (some false) else (if a2 < a0_2 then (some false) else (if a2 > a0_3 then (some false) else (if a3 ≤ a0_4 then (if a4 ≤ a0_5 then (if a5 ≤ a0_6 then (some (decide (a6 ≤ a0_7))) else (some false)) else (some false)) else (some false))))
set_option maxHeartbeats 8000000 in
set_option maxRecDepth 100000 in
theorem class_measured_1.calls (a0_0 : ByteArray) (a0_1 : Int) (a0_2 : Int) (a0_3 : Int) (a0_4 : Int) (a0_5 : Int) (a0_6 : Int) (a0_7 : Int) (a0_8 : Int) (a1 : Int) (a2 : Int) (a3 : Int) (a4 : Int) (a5 : Int) (a6 : Int) (r : Bool) (gbq1 : Nat) (gbq2 : Nat) (gbq3 : Nat) (gbq4 : Nat) (gbq5 : Nat) (gbq6 : Nat) (w : World) (hbq1 : w.heap[gbq1]? = some (.cells #[.int .i64 a1] 3 (0, 0))) (hbq2 : w.heap[gbq2]? = some (.cells #[.int .i64 a2] 3 (0, 0))) (hbq3 : w.heap[gbq3]? = some (.cells #[.int .i64 a3] 3 (0, 0))) (hbq4 : w.heap[gbq4]? = some (.cells #[.int .i64 a4] 3 (0, 0))) (hbq5 : w.heap[gbq5]? = some (.cells #[.int .i64 a5] 3 (0, 0))) (hbq6 : w.heap[gbq6]? = some (.cells #[.int .i64 a6] 3 (0, 0))) (h : class_measured_1.f a0_0 a0_1 a0_2 a0_3 a0_4 a0_5 a0_6 a0_7 a0_8 a1 a2 a3 a4 a5 a6 = some r) :
  Calls Try.prog 48 #[.agg #[.string a0_0, .int .i64 a0_1, .int .i64 a0_2, .int .i64 a0_3, .int .i64 a0_4, .int .i64 a0_5, .int .i64 a0_6, .int .i64 a0_7, .int .i64 a0_8], .pointer (some ⟨gbq1, 0, none⟩), .pointer (some ⟨gbq2, 0, none⟩), .pointer (some ⟨gbq3, 0, none⟩), .pointer (some ⟨gbq4, 0, none⟩), .pointer (some ⟨gbq5, 0, none⟩), .pointer (some ⟨gbq6, 0, none⟩)] w fun e w' => e = .returned (.bool r) ∧ Below w.heap.size w w' := by
 have BKq1 := Aside0.mk hbq1;have hczq1_0 := cz0_ BKq1;have hfzq1_0 := fz_ BKq1 0;clear hbq1;have BKq2 := Aside0.mk hbq2;have hczq2_0 := cz0_ BKq2;have hfzq2_0 := fz_ BKq2 0;clear hbq2;have BKq3 := Aside0.mk hbq3;have hczq3_0 := cz0_ BKq3;have hfzq3_0 := fz_ BKq3 0;clear hbq3;have BKq4 := Aside0.mk hbq4;have hczq4_0 := cz0_ BKq4;have hfzq4_0 := fz_ BKq4 0;clear hbq4;have BKq5 := Aside0.mk hbq5;have hczq5_0 := cz0_ BKq5;have hfzq5_0 := fz_ BKq5 0;clear hbq5;have BKq6 := Aside0.mk hbq6;have hczq6_0 := cz0_ BKq6;have hfzq6_0 := fz_ BKq6 0;clear hbq6;have hu28 := Try.underlying28;have HB := A_ (Below.refl w.heap.size w);have H : (if a1 < a0_1 then (some false) else (if a2 < a0_2 then (some false) else (if a2 > a0_3 then (some false) else (if a3 ≤ a0_4 then (if a4 ≤ a0_5 then (if a5 ≤ a0_6 then (some (decide (a6 ≤ a0_7))) else (some false)) else (some false)) else (some false))))) = some r := h;clear h
 by_cases c8 : a1 < a0_1
 ·rw [if_pos c8] at H;have c8b0 : decide (a1 < a0_1) = true := decide_eq_true c8;clear c8;obtain rfl := Option.some.inj H;go_enter Try.func48, Try.ntmps48;go_wp2_with (first | ((with_reducible refine gate_dst (N := 7) rfl ?_); refine bx_ 7 (cs := #[.string a0_0, .int .i64 a0_1, .int .i64 a0_2, .int .i64 a0_3, .int .i64 a0_4, .int .i64 a0_5, .int .i64 a0_6, .int .i64 a0_7, .int .i64 a0_8]) (t := 28) ?_; intro gbq7 hg w15 hbox hb; have BKq7 := A_ hbox; have GWq7 := gz_ (w := w) hg; have GEq7 := gz_ (w := w) hg; replace HB := bA_ hb; have NBq1_q7 := nlt_ BKq1 hg; have NBq7_q1 := ngt_ BKq1 hg; replace BKq1 := bb_ BKq1 hb; have NBq2_q7 := nlt_ BKq2 hg; have NBq7_q2 := ngt_ BKq2 hg; replace BKq2 := bb_ BKq2 hb; have NBq3_q7 := nlt_ BKq3 hg; have NBq7_q3 := ngt_ BKq3 hg; replace BKq3 := bb_ BKq3 hb; have NBq4_q7 := nlt_ BKq4 hg; have NBq7_q4 := ngt_ BKq4 hg; replace BKq4 := bb_ BKq4 hb; have NBq5_q7 := nlt_ BKq5 hg; have NBq7_q5 := ngt_ BKq5 hg; replace BKq5 := bb_ BKq5 hb; have NBq6_q7 := nlt_ BKq6 hg; have NBq7_q6 := ngt_ BKq6 hg; replace BKq6 := bb_ BKq6 hb; clear hb hbox hg; have hnb21 := NBq1_q7.out; have hnc21 := NBq7_q1.out; have hcz22_0 := cz0_ BKq1; have hfz22_0 := fz_ BKq1 0; have hnb23 := NBq7_q2.out; have hnc23 := NBq2_q7.out; have hnb24 := NBq7_q3.out; have hnc24 := NBq3_q7.out; have hnb25 := NBq7_q4.out; have hnc25 := NBq4_q7.out; have hnb26 := NBq7_q5.out; have hnc26 := NBq5_q7.out; have hnb27 := NBq7_q6.out; have hnc27 := NBq6_q7.out; have hcz28_0 := cz0_ BKq7; have hcz28_1 := cz1_ BKq7; have hcz28_2 := cz2_ BKq7; have hcz28_3 := cz3_ BKq7; have hcz28_4 : w15.cell? ⟨gbq7, 4, none⟩ = some (.int .i64 a0_4) := cl_ BKq7 4; have hcz28_5 : w15.cell? ⟨gbq7, 5, none⟩ = some (.int .i64 a0_5) := cl_ BKq7 5; have hcz28_6 : w15.cell? ⟨gbq7, 6, none⟩ = some (.int .i64 a0_6) := cl_ BKq7 6; have hcz28_7 : w15.cell? ⟨gbq7, 7, none⟩ = some (.int .i64 a0_7) := cl_ BKq7 7; have hcz28_8 : w15.cell? ⟨gbq7, 8, none⟩ = some (.int .i64 a0_8) := cl_ BKq7 8; have hfz28_0 := fz_ BKq7 0; have hfz28_1 := fz_ BKq7 1; have hfz28_2 := fz_ BKq7 2; have hfz28_3 := fz_ BKq7 3; have hfz28_4 := fz_ BKq7 4; have hfz28_5 := fz_ BKq7 5; have hfz28_6 := fz_ BKq7 6; have hfz28_7 := fz_ BKq7 7; have hfz28_8 := fz_ BKq7 8));go_ret;exact ⟨er_, be_⟩
 ·rw [if_neg c8] at H;have c8b0 : decide (a1 < a0_1) = false := decide_eq_false c8;clear c8
  by_cases c29 : a2 < a0_2
  ·rw [if_pos c29] at H;have c29b0 : decide (a2 < a0_2) = true := decide_eq_true c29;clear c29;obtain rfl := Option.some.inj H;go_enter Try.func48, Try.ntmps48;go_wp2_with (first | ((with_reducible refine gate_dst (N := 7) rfl ?_); refine bx_ 7 (cs := #[.string a0_0, .int .i64 a0_1, .int .i64 a0_2, .int .i64 a0_3, .int .i64 a0_4, .int .i64 a0_5, .int .i64 a0_6, .int .i64 a0_7, .int .i64 a0_8]) (t := 28) ?_; intro gbq7 hg w36 hbox hb; have BKq7 := A_ hbox; have GWq7 := gz_ (w := w) hg; have GEq7 := gz_ (w := w) hg; replace HB := bA_ hb; have NBq1_q7 := nlt_ BKq1 hg; have NBq7_q1 := ngt_ BKq1 hg; replace BKq1 := bb_ BKq1 hb; have NBq2_q7 := nlt_ BKq2 hg; have NBq7_q2 := ngt_ BKq2 hg; replace BKq2 := bb_ BKq2 hb; have NBq3_q7 := nlt_ BKq3 hg; have NBq7_q3 := ngt_ BKq3 hg; replace BKq3 := bb_ BKq3 hb; have NBq4_q7 := nlt_ BKq4 hg; have NBq7_q4 := ngt_ BKq4 hg; replace BKq4 := bb_ BKq4 hb; have NBq5_q7 := nlt_ BKq5 hg; have NBq7_q5 := ngt_ BKq5 hg; replace BKq5 := bb_ BKq5 hb; have NBq6_q7 := nlt_ BKq6 hg; have NBq7_q6 := ngt_ BKq6 hg; replace BKq6 := bb_ BKq6 hb; clear hb hbox hg; have hnb42 := NBq1_q7.out; have hnc42 := NBq7_q1.out; have hcz43_0 := cz0_ BKq1; have hfz43_0 := fz_ BKq1 0; have hnb44 := NBq7_q2.out; have hnc44 := NBq2_q7.out; have hnb45 := NBq7_q3.out; have hnc45 := NBq3_q7.out; have hnb46 := NBq7_q4.out; have hnc46 := NBq4_q7.out; have hnb47 := NBq7_q5.out; have hnc47 := NBq5_q7.out; have hnb48 := NBq7_q6.out; have hnc48 := NBq6_q7.out; have hcz49_0 := cz0_ BKq7; have hcz49_1 := cz1_ BKq7; have hcz49_2 := cz2_ BKq7; have hcz49_3 := cz3_ BKq7; have hcz49_4 : w36.cell? ⟨gbq7, 4, none⟩ = some (.int .i64 a0_4) := cl_ BKq7 4; have hcz49_5 : w36.cell? ⟨gbq7, 5, none⟩ = some (.int .i64 a0_5) := cl_ BKq7 5; have hcz49_6 : w36.cell? ⟨gbq7, 6, none⟩ = some (.int .i64 a0_6) := cl_ BKq7 6; have hcz49_7 : w36.cell? ⟨gbq7, 7, none⟩ = some (.int .i64 a0_7) := cl_ BKq7 7; have hcz49_8 : w36.cell? ⟨gbq7, 8, none⟩ = some (.int .i64 a0_8) := cl_ BKq7 8; have hfz49_0 := fz_ BKq7 0; have hfz49_1 := fz_ BKq7 1; have hfz49_2 := fz_ BKq7 2; have hfz49_3 := fz_ BKq7 3; have hfz49_4 := fz_ BKq7 4; have hfz49_5 := fz_ BKq7 5; have hfz49_6 := fz_ BKq7 6; have hfz49_7 := fz_ BKq7 7; have hfz49_8 := fz_ BKq7 8; have hcz54_0 := cz0_ BKq2; have hfz54_0 := fz_ BKq2 0));go_ret;exact ⟨er_, be_⟩
  ·rw [if_neg c29] at H;have c29b0 : decide (a2 < a0_2) = false := decide_eq_false c29;clear c29
   by_cases c55 : a2 > a0_3
   ·rw [if_pos c55] at H;have c55b0 : decide (a0_3 < a2) = true := decide_eq_true c55;clear c55;obtain rfl := Option.some.inj H;go_enter Try.func48, Try.ntmps48;go_wp2_with (first | ((with_reducible refine gate_dst (N := 7) rfl ?_); refine bx_ 7 (cs := #[.string a0_0, .int .i64 a0_1, .int .i64 a0_2, .int .i64 a0_3, .int .i64 a0_4, .int .i64 a0_5, .int .i64 a0_6, .int .i64 a0_7, .int .i64 a0_8]) (t := 28) ?_; intro gbq7 hg w62 hbox hb; have BKq7 := A_ hbox; have GWq7 := gz_ (w := w) hg; have GEq7 := gz_ (w := w) hg; replace HB := bA_ hb; have NBq1_q7 := nlt_ BKq1 hg; have NBq7_q1 := ngt_ BKq1 hg; replace BKq1 := bb_ BKq1 hb; have NBq2_q7 := nlt_ BKq2 hg; have NBq7_q2 := ngt_ BKq2 hg; replace BKq2 := bb_ BKq2 hb; have NBq3_q7 := nlt_ BKq3 hg; have NBq7_q3 := ngt_ BKq3 hg; replace BKq3 := bb_ BKq3 hb; have NBq4_q7 := nlt_ BKq4 hg; have NBq7_q4 := ngt_ BKq4 hg; replace BKq4 := bb_ BKq4 hb; have NBq5_q7 := nlt_ BKq5 hg; have NBq7_q5 := ngt_ BKq5 hg; replace BKq5 := bb_ BKq5 hb; have NBq6_q7 := nlt_ BKq6 hg; have NBq7_q6 := ngt_ BKq6 hg; replace BKq6 := bb_ BKq6 hb; clear hb hbox hg; have hnb68 := NBq1_q7.out; have hnc68 := NBq7_q1.out; have hcz69_0 := cz0_ BKq1; have hfz69_0 := fz_ BKq1 0; have hnb70 := NBq7_q2.out; have hnc70 := NBq2_q7.out; have hnb71 := NBq7_q3.out; have hnc71 := NBq3_q7.out; have hnb72 := NBq7_q4.out; have hnc72 := NBq4_q7.out; have hnb73 := NBq7_q5.out; have hnc73 := NBq5_q7.out; have hnb74 := NBq7_q6.out; have hnc74 := NBq6_q7.out; have hcz75_0 := cz0_ BKq7; have hcz75_1 := cz1_ BKq7; have hcz75_2 := cz2_ BKq7; have hcz75_3 := cz3_ BKq7; have hcz75_4 : w62.cell? ⟨gbq7, 4, none⟩ = some (.int .i64 a0_4) := cl_ BKq7 4; have hcz75_5 : w62.cell? ⟨gbq7, 5, none⟩ = some (.int .i64 a0_5) := cl_ BKq7 5; have hcz75_6 : w62.cell? ⟨gbq7, 6, none⟩ = some (.int .i64 a0_6) := cl_ BKq7 6; have hcz75_7 : w62.cell? ⟨gbq7, 7, none⟩ = some (.int .i64 a0_7) := cl_ BKq7 7; have hcz75_8 : w62.cell? ⟨gbq7, 8, none⟩ = some (.int .i64 a0_8) := cl_ BKq7 8; have hfz75_0 := fz_ BKq7 0; have hfz75_1 := fz_ BKq7 1; have hfz75_2 := fz_ BKq7 2; have hfz75_3 := fz_ BKq7 3; have hfz75_4 := fz_ BKq7 4; have hfz75_5 := fz_ BKq7 5; have hfz75_6 := fz_ BKq7 6; have hfz75_7 := fz_ BKq7 7; have hfz75_8 := fz_ BKq7 8; have hcz80_0 := cz0_ BKq2; have hfz80_0 := fz_ BKq2 0));go_ret;exact ⟨er_, be_⟩
   ·rw [if_neg c55] at H;have c55b0 : decide (a0_3 < a2) = false := decide_eq_false c55;clear c55
    by_cases c81 : a3 ≤ a0_4
    ·rw [if_pos c81] at H;have c81b0 : decide (a3 ≤ a0_4) = true := decide_eq_true c81;clear c81
     by_cases c82 : a4 ≤ a0_5
     ·rw [if_pos c82] at H;have c82b0 : decide (a4 ≤ a0_5) = true := decide_eq_true c82;clear c82
      by_cases c83 : a5 ≤ a0_6
      ·rw [if_pos c83] at H;have c83b0 : decide (a5 ≤ a0_6) = true := decide_eq_true c83;clear c83;obtain rfl := Option.some.inj H;go_enter Try.func48, Try.ntmps48;go_wp2_with (first | ((with_reducible refine gate_dst (N := 7) rfl ?_); refine bx_ 7 (cs := #[.string a0_0, .int .i64 a0_1, .int .i64 a0_2, .int .i64 a0_3, .int .i64 a0_4, .int .i64 a0_5, .int .i64 a0_6, .int .i64 a0_7, .int .i64 a0_8]) (t := 28) ?_; intro gbq7 hg w90 hbox hb; have BKq7 := A_ hbox; have GWq7 := gz_ (w := w) hg; have GEq7 := gz_ (w := w) hg; replace HB := bA_ hb; have NBq1_q7 := nlt_ BKq1 hg; have NBq7_q1 := ngt_ BKq1 hg; replace BKq1 := bb_ BKq1 hb; have NBq2_q7 := nlt_ BKq2 hg; have NBq7_q2 := ngt_ BKq2 hg; replace BKq2 := bb_ BKq2 hb; have NBq3_q7 := nlt_ BKq3 hg; have NBq7_q3 := ngt_ BKq3 hg; replace BKq3 := bb_ BKq3 hb; have NBq4_q7 := nlt_ BKq4 hg; have NBq7_q4 := ngt_ BKq4 hg; replace BKq4 := bb_ BKq4 hb; have NBq5_q7 := nlt_ BKq5 hg; have NBq7_q5 := ngt_ BKq5 hg; replace BKq5 := bb_ BKq5 hb; have NBq6_q7 := nlt_ BKq6 hg; have NBq7_q6 := ngt_ BKq6 hg; replace BKq6 := bb_ BKq6 hb; clear hb hbox hg; have hnb96 := NBq1_q7.out; have hnc96 := NBq7_q1.out; have hcz97_0 := cz0_ BKq1; have hfz97_0 := fz_ BKq1 0; have hnb98 := NBq7_q2.out; have hnc98 := NBq2_q7.out; have hnb99 := NBq7_q3.out; have hnc99 := NBq3_q7.out; have hnb100 := NBq7_q4.out; have hnc100 := NBq4_q7.out; have hnb101 := NBq7_q5.out; have hnc101 := NBq5_q7.out; have hnb102 := NBq7_q6.out; have hnc102 := NBq6_q7.out; have hcz103_0 := cz0_ BKq7; have hcz103_1 := cz1_ BKq7; have hcz103_2 := cz2_ BKq7; have hcz103_3 := cz3_ BKq7; have hcz103_4 : w90.cell? ⟨gbq7, 4, none⟩ = some (.int .i64 a0_4) := cl_ BKq7 4; have hcz103_5 : w90.cell? ⟨gbq7, 5, none⟩ = some (.int .i64 a0_5) := cl_ BKq7 5; have hcz103_6 : w90.cell? ⟨gbq7, 6, none⟩ = some (.int .i64 a0_6) := cl_ BKq7 6; have hcz103_7 : w90.cell? ⟨gbq7, 7, none⟩ = some (.int .i64 a0_7) := cl_ BKq7 7; have hcz103_8 : w90.cell? ⟨gbq7, 8, none⟩ = some (.int .i64 a0_8) := cl_ BKq7 8; have hfz103_0 := fz_ BKq7 0; have hfz103_1 := fz_ BKq7 1; have hfz103_2 := fz_ BKq7 2; have hfz103_3 := fz_ BKq7 3; have hfz103_4 := fz_ BKq7 4; have hfz103_5 := fz_ BKq7 5; have hfz103_6 := fz_ BKq7 6; have hfz103_7 := fz_ BKq7 7; have hfz103_8 := fz_ BKq7 8; have hcz108_0 := cz0_ BKq2; have hfz108_0 := fz_ BKq2 0; have hcz112_0 := cz0_ BKq3; have hfz112_0 := fz_ BKq3 0; have hcz115_0 := cz0_ BKq4; have hfz115_0 := fz_ BKq4 0; have hcz117_0 := cz0_ BKq5; have hfz117_0 := fz_ BKq5 0; have hcz118_0 := cz0_ BKq6; have hfz118_0 := fz_ BKq6 0));go_ret;exact ⟨er_, be_⟩
      ·rw [if_neg c83] at H;have c83b0 : decide (a5 ≤ a0_6) = false := decide_eq_false c83;clear c83;obtain rfl := Option.some.inj H;go_enter Try.func48, Try.ntmps48;go_wp2_with (first | ((with_reducible refine gate_dst (N := 7) rfl ?_); refine bx_ 7 (cs := #[.string a0_0, .int .i64 a0_1, .int .i64 a0_2, .int .i64 a0_3, .int .i64 a0_4, .int .i64 a0_5, .int .i64 a0_6, .int .i64 a0_7, .int .i64 a0_8]) (t := 28) ?_; intro gbq7 hg w125 hbox hb; have BKq7 := A_ hbox; have GWq7 := gz_ (w := w) hg; have GEq7 := gz_ (w := w) hg; replace HB := bA_ hb; have NBq1_q7 := nlt_ BKq1 hg; have NBq7_q1 := ngt_ BKq1 hg; replace BKq1 := bb_ BKq1 hb; have NBq2_q7 := nlt_ BKq2 hg; have NBq7_q2 := ngt_ BKq2 hg; replace BKq2 := bb_ BKq2 hb; have NBq3_q7 := nlt_ BKq3 hg; have NBq7_q3 := ngt_ BKq3 hg; replace BKq3 := bb_ BKq3 hb; have NBq4_q7 := nlt_ BKq4 hg; have NBq7_q4 := ngt_ BKq4 hg; replace BKq4 := bb_ BKq4 hb; have NBq5_q7 := nlt_ BKq5 hg; have NBq7_q5 := ngt_ BKq5 hg; replace BKq5 := bb_ BKq5 hb; have NBq6_q7 := nlt_ BKq6 hg; have NBq7_q6 := ngt_ BKq6 hg; replace BKq6 := bb_ BKq6 hb; clear hb hbox hg; have hnb131 := NBq1_q7.out; have hnc131 := NBq7_q1.out; have hcz132_0 := cz0_ BKq1; have hfz132_0 := fz_ BKq1 0; have hnb133 := NBq7_q2.out; have hnc133 := NBq2_q7.out; have hnb134 := NBq7_q3.out; have hnc134 := NBq3_q7.out; have hnb135 := NBq7_q4.out; have hnc135 := NBq4_q7.out; have hnb136 := NBq7_q5.out; have hnc136 := NBq5_q7.out; have hnb137 := NBq7_q6.out; have hnc137 := NBq6_q7.out; have hcz138_0 := cz0_ BKq7; have hcz138_1 := cz1_ BKq7; have hcz138_2 := cz2_ BKq7; have hcz138_3 := cz3_ BKq7; have hcz138_4 : w125.cell? ⟨gbq7, 4, none⟩ = some (.int .i64 a0_4) := cl_ BKq7 4; have hcz138_5 : w125.cell? ⟨gbq7, 5, none⟩ = some (.int .i64 a0_5) := cl_ BKq7 5; have hcz138_6 : w125.cell? ⟨gbq7, 6, none⟩ = some (.int .i64 a0_6) := cl_ BKq7 6; have hcz138_7 : w125.cell? ⟨gbq7, 7, none⟩ = some (.int .i64 a0_7) := cl_ BKq7 7; have hcz138_8 : w125.cell? ⟨gbq7, 8, none⟩ = some (.int .i64 a0_8) := cl_ BKq7 8; have hfz138_0 := fz_ BKq7 0; have hfz138_1 := fz_ BKq7 1; have hfz138_2 := fz_ BKq7 2; have hfz138_3 := fz_ BKq7 3; have hfz138_4 := fz_ BKq7 4; have hfz138_5 := fz_ BKq7 5; have hfz138_6 := fz_ BKq7 6; have hfz138_7 := fz_ BKq7 7; have hfz138_8 := fz_ BKq7 8; have hcz143_0 := cz0_ BKq2; have hfz143_0 := fz_ BKq2 0; have hcz147_0 := cz0_ BKq3; have hfz147_0 := fz_ BKq3 0; have hcz150_0 := cz0_ BKq4; have hfz150_0 := fz_ BKq4 0; have hcz152_0 := cz0_ BKq5; have hfz152_0 := fz_ BKq5 0));go_ret;exact ⟨er_, be_⟩
     ·rw [if_neg c82] at H;have c82b0 : decide (a4 ≤ a0_5) = false := decide_eq_false c82;clear c82;obtain rfl := Option.some.inj H;go_enter Try.func48, Try.ntmps48;go_wp2_with (first | ((with_reducible refine gate_dst (N := 7) rfl ?_); refine bx_ 7 (cs := #[.string a0_0, .int .i64 a0_1, .int .i64 a0_2, .int .i64 a0_3, .int .i64 a0_4, .int .i64 a0_5, .int .i64 a0_6, .int .i64 a0_7, .int .i64 a0_8]) (t := 28) ?_; intro gbq7 hg w159 hbox hb; have BKq7 := A_ hbox; have GWq7 := gz_ (w := w) hg; have GEq7 := gz_ (w := w) hg; replace HB := bA_ hb; have NBq1_q7 := nlt_ BKq1 hg; have NBq7_q1 := ngt_ BKq1 hg; replace BKq1 := bb_ BKq1 hb; have NBq2_q7 := nlt_ BKq2 hg; have NBq7_q2 := ngt_ BKq2 hg; replace BKq2 := bb_ BKq2 hb; have NBq3_q7 := nlt_ BKq3 hg; have NBq7_q3 := ngt_ BKq3 hg; replace BKq3 := bb_ BKq3 hb; have NBq4_q7 := nlt_ BKq4 hg; have NBq7_q4 := ngt_ BKq4 hg; replace BKq4 := bb_ BKq4 hb; have NBq5_q7 := nlt_ BKq5 hg; have NBq7_q5 := ngt_ BKq5 hg; replace BKq5 := bb_ BKq5 hb; have NBq6_q7 := nlt_ BKq6 hg; have NBq7_q6 := ngt_ BKq6 hg; replace BKq6 := bb_ BKq6 hb; clear hb hbox hg; have hnb165 := NBq1_q7.out; have hnc165 := NBq7_q1.out; have hcz166_0 := cz0_ BKq1; have hfz166_0 := fz_ BKq1 0; have hnb167 := NBq7_q2.out; have hnc167 := NBq2_q7.out; have hnb168 := NBq7_q3.out; have hnc168 := NBq3_q7.out; have hnb169 := NBq7_q4.out; have hnc169 := NBq4_q7.out; have hnb170 := NBq7_q5.out; have hnc170 := NBq5_q7.out; have hnb171 := NBq7_q6.out; have hnc171 := NBq6_q7.out; have hcz172_0 := cz0_ BKq7; have hcz172_1 := cz1_ BKq7; have hcz172_2 := cz2_ BKq7; have hcz172_3 := cz3_ BKq7; have hcz172_4 : w159.cell? ⟨gbq7, 4, none⟩ = some (.int .i64 a0_4) := cl_ BKq7 4; have hcz172_5 : w159.cell? ⟨gbq7, 5, none⟩ = some (.int .i64 a0_5) := cl_ BKq7 5; have hcz172_6 : w159.cell? ⟨gbq7, 6, none⟩ = some (.int .i64 a0_6) := cl_ BKq7 6; have hcz172_7 : w159.cell? ⟨gbq7, 7, none⟩ = some (.int .i64 a0_7) := cl_ BKq7 7; have hcz172_8 : w159.cell? ⟨gbq7, 8, none⟩ = some (.int .i64 a0_8) := cl_ BKq7 8; have hfz172_0 := fz_ BKq7 0; have hfz172_1 := fz_ BKq7 1; have hfz172_2 := fz_ BKq7 2; have hfz172_3 := fz_ BKq7 3; have hfz172_4 := fz_ BKq7 4; have hfz172_5 := fz_ BKq7 5; have hfz172_6 := fz_ BKq7 6; have hfz172_7 := fz_ BKq7 7; have hfz172_8 := fz_ BKq7 8; have hcz177_0 := cz0_ BKq2; have hfz177_0 := fz_ BKq2 0; have hcz181_0 := cz0_ BKq3; have hfz181_0 := fz_ BKq3 0; have hcz184_0 := cz0_ BKq4; have hfz184_0 := fz_ BKq4 0));go_ret;exact ⟨er_, be_⟩
    ·rw [if_neg c81] at H;have c81b0 : decide (a3 ≤ a0_4) = false := decide_eq_false c81;clear c81;obtain rfl := Option.some.inj H;go_enter Try.func48, Try.ntmps48;go_wp2_with (first | ((with_reducible refine gate_dst (N := 7) rfl ?_); refine bx_ 7 (cs := #[.string a0_0, .int .i64 a0_1, .int .i64 a0_2, .int .i64 a0_3, .int .i64 a0_4, .int .i64 a0_5, .int .i64 a0_6, .int .i64 a0_7, .int .i64 a0_8]) (t := 28) ?_; intro gbq7 hg w191 hbox hb; have BKq7 := A_ hbox; have GWq7 := gz_ (w := w) hg; have GEq7 := gz_ (w := w) hg; replace HB := bA_ hb; have NBq1_q7 := nlt_ BKq1 hg; have NBq7_q1 := ngt_ BKq1 hg; replace BKq1 := bb_ BKq1 hb; have NBq2_q7 := nlt_ BKq2 hg; have NBq7_q2 := ngt_ BKq2 hg; replace BKq2 := bb_ BKq2 hb; have NBq3_q7 := nlt_ BKq3 hg; have NBq7_q3 := ngt_ BKq3 hg; replace BKq3 := bb_ BKq3 hb; have NBq4_q7 := nlt_ BKq4 hg; have NBq7_q4 := ngt_ BKq4 hg; replace BKq4 := bb_ BKq4 hb; have NBq5_q7 := nlt_ BKq5 hg; have NBq7_q5 := ngt_ BKq5 hg; replace BKq5 := bb_ BKq5 hb; have NBq6_q7 := nlt_ BKq6 hg; have NBq7_q6 := ngt_ BKq6 hg; replace BKq6 := bb_ BKq6 hb; clear hb hbox hg; have hnb197 := NBq1_q7.out; have hnc197 := NBq7_q1.out; have hcz198_0 := cz0_ BKq1; have hfz198_0 := fz_ BKq1 0; have hnb199 := NBq7_q2.out; have hnc199 := NBq2_q7.out; have hnb200 := NBq7_q3.out; have hnc200 := NBq3_q7.out; have hnb201 := NBq7_q4.out; have hnc201 := NBq4_q7.out; have hnb202 := NBq7_q5.out; have hnc202 := NBq5_q7.out; have hnb203 := NBq7_q6.out; have hnc203 := NBq6_q7.out; have hcz204_0 := cz0_ BKq7; have hcz204_1 := cz1_ BKq7; have hcz204_2 := cz2_ BKq7; have hcz204_3 := cz3_ BKq7; have hcz204_4 : w191.cell? ⟨gbq7, 4, none⟩ = some (.int .i64 a0_4) := cl_ BKq7 4; have hcz204_5 : w191.cell? ⟨gbq7, 5, none⟩ = some (.int .i64 a0_5) := cl_ BKq7 5; have hcz204_6 : w191.cell? ⟨gbq7, 6, none⟩ = some (.int .i64 a0_6) := cl_ BKq7 6; have hcz204_7 : w191.cell? ⟨gbq7, 7, none⟩ = some (.int .i64 a0_7) := cl_ BKq7 7; have hcz204_8 : w191.cell? ⟨gbq7, 8, none⟩ = some (.int .i64 a0_8) := cl_ BKq7 8; have hfz204_0 := fz_ BKq7 0; have hfz204_1 := fz_ BKq7 1; have hfz204_2 := fz_ BKq7 2; have hfz204_3 := fz_ BKq7 3; have hfz204_4 := fz_ BKq7 4; have hfz204_5 := fz_ BKq7 5; have hfz204_6 := fz_ BKq7 6; have hfz204_7 := fz_ BKq7 7; have hfz204_8 := fz_ BKq7 8; have hcz209_0 := cz0_ BKq2; have hfz209_0 := fz_ BKq2 0; have hcz213_0 := cz0_ BKq3; have hfz213_0 := fz_ BKq3 0));go_ret;exact ⟨er_, be_⟩


-- by hand
def class_measured.f (k : Nat) (l : List S58) (d : List S48) : Option (Option (Int × Int × Int × Int × Int × Int)) :=
 (solid_Check.f k l).bind fun a => if (a != 0) = true then some none else (defect_Check.f k d).bind fun b => if (b != 0) = true then some none else
 (shape_Top.f k l).bind fun x1 => (solid_Length.f k l).bind fun x2 => (shape_Sweep.f k l).bind fun x3 => (shape_Taper.f k l).bind fun x4 =>
 (defect_Count.f d 1).bind fun n1 => (defect_Count.f d 2).bind fun n2 => (defect_Count.f d 3).bind fun n3 => some (some (x1, x2, x3, x4, wrap64 (n1 + n2), n3))
def Held (w : World) (g : Nat) (v : Int) : Prop := w.heap[g]? = some (.cells #[.int .i64 v] 3 (0, 0))
theorem Held.below {w W : World} {g B : Nat} {v : Int} (h : Held w g v) (hb : Below B w W) (hg : g < B) : Held W g v := (hb.block g hg).trans h
theorem Held.lt {w : World} {g : Nat} {v : Int} (h : Held w g v) : g < w.heap.size := blk_lt h
theorem Held.alloc {w : World} {g : Nat} {v : Int} (h : Held w g v) (o : Obj) : Held (w.alloc o) g v := (Below.heap_alloc w o g h.lt).trans h
theorem Held.new {w : World} {n : Nat} (v : Int) (h : w.heap.size = n) : Held (w.alloc (.cells #[.int .i64 v] 3)) n v := h ▸ blk_new _ _
def Boxed (w : World) (r : Option (Int × Int × Int × Int × Int × Int)) (v : Value) (w' : World) : Prop := match r with
 | none => v = .nilFunc
 | some (x1, x2, x3, x4, x5, x6) => ∃ g1 g2 g3 g4 g5 g6 : Nat, v = .func (.func 48) #[] #[.pointer (some ⟨g1, 0, none⟩), .pointer (some ⟨g2, 0, none⟩), .pointer (some ⟨g3, 0, none⟩), .pointer (some ⟨g4, 0, none⟩), .pointer (some ⟨g5, 0, none⟩), .pointer (some ⟨g6, 0, none⟩)] ∧
   Held w' g1 x1 ∧ Held w' g2 x2 ∧ Held w' g3 x3 ∧ Held w' g4 x4 ∧ Held w' g5 x5 ∧ Held w' g6 x6
set_option maxHeartbeats 4000000 in
set_option maxRecDepth 100000 in
theorem class_measured.calls (k : Nat) (A0 : Option Addr) (c0 : Nat) (l0 : List S58) (A1 : Option Addr) (c1 : Nat) (l1 : List S48) (r : Option (Int × Int × Int × Int × Int × Int)) (w : World) (hr0 : Kd.C k58 w A0 l0.length l0) (hc0 : l0.length ≤ c0) (hr1 : Kd.C k48 w A1 l1.length l1) (hc1 : l1.length ≤ c1) (h : class_measured.f k l0 l1 = some r) :
  Calls Try.prog 27 #[.slice A0 l0.length c0, .slice A1 l1.length c1] w fun e w' => ∃ v, e = .returned v ∧ Boxed w r v w' ∧ Below w.heap.size w w' := by
 have HC0 := Aside0.mk hr0;have HC1 := Aside0.mk hr1;clear hr0 hr1;unfold class_measured.f at h;obtain ⟨a, A2, h⟩ := Option.bind_eq_some_iff.mp h;have K1 := solid_Check.calls k A0 c0 l0 a w HC0.out hc0 A2
 by_cases ca : (a != 0) = true
 ·rw [if_pos ca] at h;obtain rfl := Option.some.inj h;clear h;go_enter Try.func27, Try.ntmps27;go_wp2_with fail;refine K1.mono ?_;rintro e w1 ⟨rfl, hb⟩;go_wp2;go_ret;exact ⟨_, rfl, rfl, hb⟩
 rw [if_neg ca] at h;(have ca' : (a != 0) = false := by simpa using ca);obtain ⟨b, A3, h⟩ := Option.bind_eq_some_iff.mp h
 by_cases cb : (b != 0) = true
 ·rw [if_pos cb] at h;obtain rfl := Option.some.inj h;clear h;go_enter Try.func27, Try.ntmps27;go_wp2_with fail;refine K1.mono ?_;rintro e w1 ⟨rfl, hb⟩;go_wp2_with fail;refine (defect_Check.calls k A1 c1 l1 b w1 (Kd.C_below HC1.out hb) hc1 A3).mono ?_;rintro e w2 ⟨rfl, hb2⟩;go_wp2;go_ret;exact ⟨_, rfl, rfl, hb.trans (hb2.mono hb.size)⟩
 rw [if_neg cb] at h;(have cb' : (b != 0) = false := by simpa using cb);obtain ⟨x1, B1, h⟩ := Option.bind_eq_some_iff.mp h;obtain ⟨x2, B2, h⟩ := Option.bind_eq_some_iff.mp h;obtain ⟨x3, B3, h⟩ := Option.bind_eq_some_iff.mp h;obtain ⟨x4, B4, h⟩ := Option.bind_eq_some_iff.mp h;obtain ⟨n1, B5, h⟩ := Option.bind_eq_some_iff.mp h;obtain ⟨n2, B6, h⟩ := Option.bind_eq_some_iff.mp h;obtain ⟨n3, B7, h⟩ := Option.bind_eq_some_iff.mp h;obtain rfl := Option.some.inj h;clear h;go_enter Try.func27, Try.ntmps27;go_wp2_with fail;refine K1.mono ?_;rintro e w1 ⟨rfl, hb⟩;go_wp2_with fail;refine (defect_Check.calls k A1 c1 l1 b w1 (Kd.C_below HC1.out hb) hc1 A3).mono ?_;rintro e w2 ⟨rfl, hb2⟩;replace hb := hb.trans (hb2.mono hb.size);go_wp2_with fail;refine (shape_Top.calls k A0 c0 l0 x1 w2 (Kd.C_below HC0.out hb) hc0 B1).mono ?_;rintro e w3 ⟨rfl, hb3⟩;replace hb := hb.trans (hb3.mono hb.size);go_wp2_with fail;refine (solid_Length.calls k A0 c0 l0 x2 w3 (Kd.C_below HC0.out hb) hc0 B2).mono ?_;rintro e w4 ⟨rfl, hb4⟩;replace hb := hb.trans (hb4.mono hb.size);go_wp2_with fail;refine (shape_Sweep.calls k A0 c0 l0 x3 w4 (Kd.C_below HC0.out hb) hc0 B3).mono ?_;rintro e w5 ⟨rfl, hb5⟩;replace hb := hb.trans (hb5.mono hb.size);go_wp2_with fail;refine (shape_Taper.calls k A0 c0 l0 x4 w5 (Kd.C_below HC0.out hb) hc0 B4).mono ?_;rintro e w6 ⟨rfl, hb6⟩;replace hb := hb.trans (hb6.mono hb.size);clear hb2 hb3 hb4 hb5 hb6;have G1 := (((Held.new (w := w6) x1 rfl).alloc (.cells #[.int .i64 x2] 3)).alloc (.cells #[.int .i64 x3] 3)).alloc (.cells #[.int .i64 x4] 3);have G2 := ((Held.new (w := w6.alloc (.cells #[.int .i64 x1] 3)) (n := w6.heap.size + 1) x2 (by simp)).alloc (.cells #[.int .i64 x3] 3)).alloc (.cells #[.int .i64 x4] 3);have G3 := (Held.new (w := (w6.alloc (.cells #[.int .i64 x1] 3)).alloc (.cells #[.int .i64 x2] 3)) (n := w6.heap.size + 1 + 1) x3 (by simp)).alloc (.cells #[.int .i64 x4] 3);have G4 := Held.new (w := ((w6.alloc (.cells #[.int .i64 x1] 3)).alloc (.cells #[.int .i64 x2] 3)).alloc (.cells #[.int .i64 x3] 3)) (n := w6.heap.size + 1 + 1 + 1) x4 (by simp);have hW : Below w.heap.size w ((((w6.alloc (.cells #[.int .i64 x1] 3)).alloc (.cells #[.int .i64 x2] 3)).alloc (.cells #[.int .i64 x3] 3)).alloc (.cells #[.int .i64 x4] 3)) := below_alloc (below_alloc (below_alloc (below_alloc hb _) _) _) _;have hC1 := Kd.C_below HC1.out hW;have k1 := defect_Count.calls A1 c1 l1 1 n1 _ hC1 hc1 B5;clear hC1;go_wp2_with fail;refine k1.mono ?_;rintro e w7 ⟨rfl, hb7⟩;replace G1 := G1.below hb7 G1.lt;replace G2 := G2.below hb7 G2.lt;replace G3 := G3.below hb7 G3.lt;replace G4 := G4.below hb7 G4.lt;replace hW := hW.trans (hb7.mono hW.size);clear hb7 k1;have k2 := defect_Count.calls A1 c1 l1 2 n2 _ (Kd.C_below HC1.out hW) hc1 B6;go_wp2_with fail;refine k2.mono ?_;rintro e w8 ⟨rfl, hb8⟩;replace G1 := G1.below hb8 G1.lt;replace G2 := G2.below hb8 G2.lt;replace G3 := G3.below hb8 G3.lt;replace G4 := G4.below hb8 G4.lt;replace hW := hW.trans (hb8.mono hW.size);clear hb8 k2;replace G1 := G1.alloc (.cells #[.int .i64 (wrap64 (n1 + n2))] 3);replace G2 := G2.alloc (.cells #[.int .i64 (wrap64 (n1 + n2))] 3);replace G3 := G3.alloc (.cells #[.int .i64 (wrap64 (n1 + n2))] 3);replace G4 := G4.alloc (.cells #[.int .i64 (wrap64 (n1 + n2))] 3);have G5 := Held.new (w := w8) (wrap64 (n1 + n2)) rfl;replace hW := below_alloc hW (.cells #[.int .i64 (wrap64 (n1 + n2))] 3);have k3 := defect_Count.calls A1 c1 l1 3 n3 _ (Kd.C_below HC1.out hW) hc1 B7;go_wp2_with fail;refine k3.mono ?_;rintro e w9 ⟨rfl, hb9⟩;replace G1 := G1.below hb9 G1.lt;replace G2 := G2.below hb9 G2.lt;replace G3 := G3.below hb9 G3.lt;replace G4 := G4.below hb9 G4.lt;replace G5 := G5.below hb9 G5.lt;replace hW := hW.trans (hb9.mono hW.size);clear hb9 k3;go_wp2;go_ret;exact ⟨_, rfl, ⟨_, _, _, _, _, _, rfl, G1.alloc _, G2.alloc _, G3.alloc _, G4.alloc _, G5.alloc _, Held.new _ rfl⟩, below_alloc hW _⟩
def fitB (m : Int × Int × Int × Int × Int × Int) (x : S28) : Bool := !(decide (m.1 < x.f1) || decide (m.2.1 < x.f2) || decide (m.2.1 > x.f3)) && (decide (m.2.2.1 ≤ x.f4) && decide (m.2.2.2.1 ≤ x.f5) && decide (m.2.2.2.2.1 ≤ x.f6) && decide (m.2.2.2.2.2 ≤ x.f7))
theorem class_measured_1_fit (m : Int × Int × Int × Int × Int × Int) (x : S28) : class_measured_1.f x.f0 x.f1 x.f2 x.f3 x.f4 x.f5 x.f6 x.f7 x.f8 m.1 m.2.1 m.2.2.1 m.2.2.2.1 m.2.2.2.2.1 m.2.2.2.2.2 = some (fitB m x) := by
 unfold class_measured_1.f fitB
 by_cases c1 : m.1 < x.f1 <;> by_cases c2 : m.2.1 < x.f2 <;> by_cases c3 : m.2.1 > x.f3 <;> by_cases c4 : m.2.2.1 ≤ x.f4 <;> by_cases c5 : m.2.2.2.1 ≤ x.f5 <;> by_cases c6 : m.2.2.2.2.1 ≤ x.f6 <;> simp [c1, c2, c3, c4, c5, c6]
theorem fit_calls (m : Int × Int × Int × Int × Int × Int) (x : S28) (g1 g2 g3 g4 g5 g6 : Nat) (w : World) (h1 : Held w g1 m.1) (h2 : Held w g2 m.2.1) (h3 : Held w g3 m.2.2.1) (h4 : Held w g4 m.2.2.2.1) (h5 : Held w g5 m.2.2.2.2.1) (h6 : Held w g6 m.2.2.2.2.2) :
  Calls Try.prog 48 #[.agg #[.string x.f0, .int .i64 x.f1, .int .i64 x.f2, .int .i64 x.f3, .int .i64 x.f4, .int .i64 x.f5, .int .i64 x.f6, .int .i64 x.f7, .int .i64 x.f8], .pointer (some ⟨g1, 0, none⟩), .pointer (some ⟨g2, 0, none⟩), .pointer (some ⟨g3, 0, none⟩), .pointer (some ⟨g4, 0, none⟩), .pointer (some ⟨g5, 0, none⟩), .pointer (some ⟨g6, 0, none⟩)] w fun e w' => e = .returned (.bool (fitB m x)) ∧ Below w.heap.size w w' :=
 class_measured_1.calls _ _ _ _ _ _ _ _ _ _ _ _ _ _ _ _ g1 g2 g3 g4 g5 g6 w h1 h2 h3 h4 h5 h6 (class_measured_1_fit m x)
theorem class_measured.mono : ∀ a0 a1 k, LeO (class_measured.f k a0 a1) (class_measured.f (k + 1) a0 a1) := by
 intro a0 a1 k;unfold class_measured.f
 repeat' first
   | (with_reducible exact solid_Check.mono _ _)
   | (with_reducible exact defect_Check.mono _ _)
   | (with_reducible exact shape_Top.mono _ _)
   | (with_reducible exact solid_Length.mono _ _)
   | (with_reducible exact shape_Sweep.mono _ _)
   | (with_reducible exact shape_Taper.mono _ _)
   | (with_reducible exact LeO.refl _)
   | (with_reducible exact LeO.none _)
   | (with_reducible refine LeO.ite ?_ ?_)
   | (with_reducible refine LeO.bind ?_ (fun _ => ?_))


-- by hand
def firstFit (m : Int × Int × Int × Int × Int × Int) : List S28 → Int → Int × Bool
 | [], _ => (0, false)
 | x :: l, i => if fitB m x = true then (i, true) else firstFit m l (i + 1)
def class_Of.f (k : Nat) (c : List S28) (l : List S58) (d : List S48) : Option (Int × Bool) := (class_measured.f k l d).bind fun m => match m with
 | none => some (0, false)
 | some m => (class_Check.f k c).bind fun e => if (e != 0) = true then some (0, false) else if c.length < 9223372036854775807 then some (firstFit m c 0) else none
set_option maxHeartbeats 4000000 in
set_option maxRecDepth 100000 in
theorem class_Of.calls (k : Nat) (A0 : Option Addr) (c0 : Nat) (l0 : List S28) (A1 : Option Addr) (c1 : Nat) (l1 : List S58) (A2 : Option Addr) (c2 : Nat) (l2 : List S48) (r0 : Int) (r1 : Bool) (w : World) (hr0 : Kd.C k28 w A0 l0.length l0) (hc0 : l0.length ≤ c0) (hr1 : Kd.C k58 w A1 l1.length l1) (hc1 : l1.length ≤ c1) (hr2 : Kd.C k48 w A2 l2.length l2) (hc2 : l2.length ≤ c2) (h : class_Of.f k l0 l1 l2 = some (r0, r1)) :
  Calls Try.prog 17 #[.slice A0 l0.length c0, .slice A1 l1.length c1, .slice A2 l2.length c2] w fun e w' => e = .returned (.tuple #[.int .i64 r0, .bool r1]) ∧ Below w.heap.size w w' := by
 unfold class_Of.f at h;obtain ⟨m, B0, h⟩ := Option.bind_eq_some_iff.mp h;have K := class_measured.calls k A1 c1 l1 A2 c2 l2 m _ hr1 hc1 hr2 hc2 B0;have HC := Aside0.mk hr0;clear hr1 hr2 hr0;(have q1 : ∀ w, (binOp .eql 59 .nilFunc .nilFunc).run Try.prog w = .ok (.bool true) w := fun _ => by kernel_rfl);(have q2 : ∀ fn xs ys w, (binOp .eql 59 (.func fn xs ys) .nilFunc).run Try.prog w = .ok (.bool false) w := fun _ _ _ _ => by kernel_rfl);cases m with
 | none =>
  (obtain ⟨rfl, rfl⟩ : (0 : Int) = r0 ∧ false = r1 := by simpa using h);go_enter Try.func17, Try.ntmps17;go_wp2_with fail;refine K.mono ?_;rintro e w1 ⟨v, rfl, hm, hb⟩;obtain rfl : v = .nilFunc := hm;go_wp2
  go_ret2
  exact ⟨rfl, hb⟩
 | some m =>
  simp only at h;obtain ⟨ce, B1, h⟩ := Option.bind_eq_some_iff.mp h;have C1 := fun (W : World) (hb : Below w.heap.size w W) => class_Check.calls k A0 c0 l0 ce W (Kd.C_below HC.out hb) hc0 B1
  by_cases hce : (ce != 0) = true
  ·rw [if_pos hce] at h;(obtain ⟨rfl, rfl⟩ : (0 : Int) = r0 ∧ false = r1 := by simpa using h);go_enter Try.func17, Try.ntmps17;go_wp2_with fail;refine K.mono ?_;rintro e w1 ⟨v, rfl, hm, hb⟩;obtain ⟨g1, g2, g3, g4, g5, g6, rfl, h1, h2, h3, h4, h5, h6⟩ := hm;clear h1 h2 h3 h4 h5 h6;have C2 := C1 w1 hb;go_wp2_with fail;refine C2.mono ?_;rintro e w2 ⟨rfl, hb2⟩;go_wp2
   go_ret2
   exact ⟨rfl, hb.trans (hb2.mono hb.size)⟩
  rw [if_neg hce] at h;(have hce' : (ce != 0) = false := by simpa using hce);(have hlen : l0.length < 9223372036854775807 := Decidable.byContradiction fun hn => by rw [if_neg hn] at h; cases h);rw [if_pos hlen] at h;replace h : firstFit m l0 0 = (r0, r1) := Option.some.inj h;go_enter Try.func17, Try.ntmps17;go_wp2_with fail;refine K.mono ?_;rintro e w1 ⟨v, rfl, hm, hb⟩;obtain ⟨g1, g2, g3, g4, g5, g6, rfl, h1, h2, h3, h4, h5, h6⟩ := hm;have C2 := C1 w1 hb;clear C1 K;have HH := A_ (show Held w1 g1 m.1 ∧ Held w1 g2 m.2.1 ∧ Held w1 g3 m.2.2.1 ∧ Held w1 g4 m.2.2.2.1 ∧ Held w1 g5 m.2.2.2.2.1 ∧ Held w1 g6 m.2.2.2.2.2 from ⟨h1, h2, h3, h4, h5, h6⟩);clear h1 h2 h3 h4 h5 h6;go_wp2_with fail;refine C2.mono ?_;rintro e w2 ⟨rfl, hb2⟩;have hbw : Below w.heap.size w w2 := hb.trans (hb2.mono hb.size);clear C2;go_wp2
  go_loopg [23] l0.length (fun gg s23 wr => ∃ i : Nat, s23 = .int .i64 i ∧ i + gg = l0.length ∧ Aside0 (firstFit m (l0.drop i) i = (r0, r1)) ∧ Aside0 (Below w1.heap.size w1 wr) ∧ Aside0 (Below w.heap.size w wr))
  case atStart => exact ⟨0, rfl, by omega, ⟨h⟩, ⟨hb2⟩, ⟨hbw⟩⟩
  case round =>
   obtain ⟨i, rfl, hig, HF, HB1, HB⟩ := hrel;clear hb hb2 hbw
   by_cases hlt : i < l0.length
   ·(have hltz : (i : Int) < (l0.length : Int) := by omega);have hltb : decide ((i : Int) < (l0.length : Int)) = true := decide_eq_true hltz;(have h0 : (0 : Int) ≤ i := by omega);have T := at_T28 (Kd.C_below HC.out HB.out) i (by omega) (by omega);obtain ⟨ad, rfl, t0, t1, t2, t3, t4, t5, t6, t7, t8⟩ := T;rw [Int.toNat_natCast] at t0 t1 t2 t3 t4 t5 t6 t7 t8;(have hrd : rd_T28 l0 i = l0[i] := by unfold rd_T28; rw [Int.toNat_natCast, List.getD_eq_getElem?_getD, List.getElem?_eq_getElem hlt]; rfl);rw [hrd] at t0 t1 t2 t3 t4 t5 t6 t7 t8
    have hf : firstFit m (l0.drop i) i = if fitB m l0[i] = true then ((i : Int), true) else firstFit m (l0.drop (i + 1)) ((i : Int) + 1) := by
     rw [List.drop_eq_getElem_cons hlt]; rfl
    rw [hf] at HF;clear hf hrd;generalize l0[i] = x at *;have hal := below_alloc (Below.refl wr.heap.size wr) (.cells #[.string x.f0, .int .i64 x.f1, .int .i64 x.f2, .int .i64 x.f3, .int .i64 x.f4, .int .i64 x.f5, .int .i64 x.f6, .int .i64 x.f7, .int .i64 x.f8] 28);obtain ⟨h1, h2, h3, h4, h5, h6⟩ := HH.out;have F := fit_calls m x g1 g2 g3 g4 g5 g6 _ ((h1.below HB1.out h1.lt).alloc (.cells #[.string x.f0, .int .i64 x.f1, .int .i64 x.f2, .int .i64 x.f3, .int .i64 x.f4, .int .i64 x.f5, .int .i64 x.f6, .int .i64 x.f7, .int .i64 x.f8] 28)) ((h2.below HB1.out h2.lt).alloc _) ((h3.below HB1.out h3.lt).alloc _) ((h4.below HB1.out h4.lt).alloc _) ((h5.below HB1.out h5.lt).alloc _) ((h6.below HB1.out h6.lt).alloc _);clear h1 h2 h3 h4 h5 h6;(have hw1 : wrap64 ((i : Int) + 1) = ((i + 1 : Nat) : Int) := by unfold wrap64; omega);go_wp2_with fail;refine F.mono ?_;rintro e w3 ⟨rfl, hb3⟩;have HB1' := HB1.out.trans ((hal.trans (hb3.mono hal.size)).mono HB1.out.size);have HB' := HB.out.trans ((hal.trans (hb3.mono hal.size)).mono HB.out.size);clear hb3 hal t0 t1 t2 t3 t4 t5 t6 t7 t8;have hfo := HF.out;cases hfit : fitB m x with
    | true =>
     rw [hfit, if_pos rfl] at hfo;(obtain ⟨rfl, rfl⟩ : (i : Int) = r0 ∧ true = r1 := by simpa using hfo);go_wp2
     go_ret2
     exact ⟨rfl, HB'⟩
    | false =>
     rw [hfit, if_neg (by decide)] at hfo;go_wp2
     go_roundg (l0.length - (i + 1))
     case measure => omega
     case rel => exact ⟨i + 1, rfl, by omega, ⟨hfo⟩, ⟨HB1'⟩, ⟨HB'⟩⟩
   ·(have hltz : ¬ (i : Int) < (l0.length : Int) := by omega);(obtain rfl : i = l0.length := by omega);(obtain ⟨rfl, rfl⟩ : (0 : Int) = r0 ∧ false = r1 := by have := HF.out; simpa [firstFit] using this);go_wp2
    go_ret2
    exact ⟨rfl, HB.out⟩
theorem class_Of.mono : ∀ a0 a1 a2 k, LeO (class_Of.f k a0 a1 a2) (class_Of.f (k + 1) a0 a1 a2) := by
 intro a0 a1 a2 k;unfold class_Of.f;refine LeO.bind (class_measured.mono _ _ _) (fun m => ?_);cases m with
 | none => exact LeO.refl _
 | some m => exact LeO.bind (class_Check.mono _ _) (fun _ => LeO.refl _)


-- by hand
def class_Fits.f (k : Nat) (a0_0 : ByteArray) (a0_1 a0_2 a0_3 a0_4 a0_5 a0_6 a0_7 a0_8 : Int) (l : List S58) (d : List S48) : Option Bool := (class_measured.f k l d).bind fun m => match m with
 | none => some false
 | some m => some (fitB m ⟨a0_0, a0_1, a0_2, a0_3, a0_4, a0_5, a0_6, a0_7, a0_8⟩)
set_option maxHeartbeats 4000000 in
set_option maxRecDepth 100000 in
theorem class_Fits.calls (k : Nat) (a0_0 : ByteArray) (a0_1 a0_2 a0_3 a0_4 a0_5 a0_6 a0_7 a0_8 : Int) (A1 : Option Addr) (c1 : Nat) (l1 : List S58) (A2 : Option Addr) (c2 : Nat) (l2 : List S48) (r : Bool) (w : World) (hr1 : Kd.C k58 w A1 l1.length l1) (hc1 : l1.length ≤ c1) (hr2 : Kd.C k48 w A2 l2.length l2) (hc2 : l2.length ≤ c2) (h : class_Fits.f k a0_0 a0_1 a0_2 a0_3 a0_4 a0_5 a0_6 a0_7 a0_8 l1 l2 = some r) :
  Calls Try.prog 15 #[.agg #[.string a0_0, .int .i64 a0_1, .int .i64 a0_2, .int .i64 a0_3, .int .i64 a0_4, .int .i64 a0_5, .int .i64 a0_6, .int .i64 a0_7, .int .i64 a0_8], .slice A1 l1.length c1, .slice A2 l2.length c2] w fun e w' => e = .returned (.bool r) ∧ Below w.heap.size w w' := by
 unfold class_Fits.f at h;obtain ⟨m, B0, h⟩ := Option.bind_eq_some_iff.mp h;have hb0 := below_alloc (Below.refl w.heap.size w) (.cells #[.string a0_0, .int .i64 a0_1, .int .i64 a0_2, .int .i64 a0_3, .int .i64 a0_4, .int .i64 a0_5, .int .i64 a0_6, .int .i64 a0_7, .int .i64 a0_8] 28);have K := class_measured.calls k A1 c1 l1 A2 c2 l2 m _ (Kd.C_below hr1 hb0) hc1 (Kd.C_below hr2 hb0) hc2 B0;clear hr1 hr2;(have q1 : ∀ w, (binOp .neq 59 .nilFunc .nilFunc).run Try.prog w = .ok (.bool false) w := fun _ => by kernel_rfl);(have q2 : ∀ fn xs ys w, (binOp .neq 59 (.func fn xs ys) .nilFunc).run Try.prog w = .ok (.bool true) w := fun _ _ _ _ => by kernel_rfl);go_enter Try.func15, Try.ntmps15;go_wp2_with fail;refine K.mono ?_;rintro e w1 ⟨v, rfl, hm, hb⟩;have e0 : w1.cell? ⟨w.heap.size, 0, none⟩ = some (.string a0_0) := (hb.cell (p := ⟨w.heap.size, 0, none⟩) (by simp)).trans (by simp);have e1 : w1.cell? ⟨w.heap.size, 1, none⟩ = some (.int .i64 a0_1) := (hb.cell (p := ⟨w.heap.size, 1, none⟩) (by simp)).trans (by simp);have e2 : w1.cell? ⟨w.heap.size, 2, none⟩ = some (.int .i64 a0_2) := (hb.cell (p := ⟨w.heap.size, 2, none⟩) (by simp)).trans (by simp);have e3 : w1.cell? ⟨w.heap.size, 3, none⟩ = some (.int .i64 a0_3) := (hb.cell (p := ⟨w.heap.size, 3, none⟩) (by simp)).trans (by simp);have e4 : w1.cell? ⟨w.heap.size, 4, none⟩ = some (.int .i64 a0_4) := (hb.cell (p := ⟨w.heap.size, 4, none⟩) (by simp)).trans (by simp);have e5 : w1.cell? ⟨w.heap.size, 5, none⟩ = some (.int .i64 a0_5) := (hb.cell (p := ⟨w.heap.size, 5, none⟩) (by simp)).trans (by simp);have e6 : w1.cell? ⟨w.heap.size, 6, none⟩ = some (.int .i64 a0_6) := (hb.cell (p := ⟨w.heap.size, 6, none⟩) (by simp)).trans (by simp);have e7 : w1.cell? ⟨w.heap.size, 7, none⟩ = some (.int .i64 a0_7) := (hb.cell (p := ⟨w.heap.size, 7, none⟩) (by simp)).trans (by simp);have e8 : w1.cell? ⟨w.heap.size, 8, none⟩ = some (.int .i64 a0_8) := (hb.cell (p := ⟨w.heap.size, 8, none⟩) (by simp)).trans (by simp);have hbb := hb0.trans (hb.mono hb0.size);clear hb hb0 K;cases m with
 | none =>
  obtain rfl : v = .nilFunc := hm;obtain rfl := Option.some.inj h;go_wp2;go_ret;exact ⟨rfl, hbb⟩
 | some m =>
  obtain rfl := Option.some.inj h;obtain ⟨g1, g2, g3, g4, g5, g6, rfl, h1, h2, h3, h4, h5, h6⟩ := hm;have F := fit_calls m ⟨a0_0, a0_1, a0_2, a0_3, a0_4, a0_5, a0_6, a0_7, a0_8⟩ g1 g2 g3 g4 g5 g6 w1 h1 h2 h3 h4 h5 h6;clear h1 h2 h3 h4 h5 h6;go_wp2_with fail;refine F.mono ?_;rintro e w2 ⟨rfl, hb2⟩;go_wp2;go_ret;exact ⟨rfl, hbb.trans (hb2.mono hbb.size)⟩
theorem class_Fits.mono : ∀ a0 a1 a2 a3 a4 a5 a6 a7 a8 a9 a10 k, LeO (class_Fits.f k a0 a1 a2 a3 a4 a5 a6 a7 a8 a9 a10) (class_Fits.f (k + 1) a0 a1 a2 a3 a4 a5 a6 a7 a8 a9 a10) := by
 intro a0 a1 a2 a3 a4 a5 a6 a7 a8 a9 a10 k;unfold class_Fits.f;exact LeO.bind (class_measured.mono _ _ _) (fun _ => LeO.refl _)


def solid_Volume.l0 : Nat → Int → List (S68) → Int → Int → Option (Int)
 | 0, _, _, _, _ => none
 | k + 1, x3, x8, x9, x10 => if x10 < x9 then (if 0 ≤ x10 then (if x10 < (x8.length : Int) then ((section_Area.f k ((rd_T68 x8 x10).f1.f0) ((rd_T68 x8 x10).f1.f1)).bind fun tq8 => (solid_Volume.l0 k (wrap64 (x3 + (wrap64 ((wrap64 (((rd_T68 x8 x10).f0.f1) - ((rd_T68 x8 x10).f0.f0))) * tq8)))) x8 x9 (wrap64 (x10 + 1)))) else (none)) else (none)) else (some x3)
def solid_Volume.f (k : Nat) (l0 : List (S58)) : Option (Int) := (solid_whole.f).bind fun btq1 => ((solid_parts.f k l0 btq1.1 btq1.2).bind fun tq3 => (solid_Volume.l0 k 0 tq3 (tq3.length : Int) 0))
theorem solid_Volume.mono_l : ∀ k, (∀ y0 y1 y2 y3, LeO (solid_Volume.l0 k y0 y1 y2 y3) (solid_Volume.l0 (k + 1) y0 y1 y2 y3))
 | 0 => fun _ _ _ _ r h => by simp [solid_Volume.l0] at h
 | k + 1 => by
  have ih0 := solid_Volume.mono_l k
  ·intro y0 y1 y2 y3;unfold solid_Volume.l0
   repeat' first
   | (with_reducible exact ih0 _ _ _ _)
   | (with_reducible exact section_Area.mono _ _ _)
   | (with_reducible exact solid_parts.mono _ _ _ _)
   | (with_reducible exact LeO.refl _)
   | (with_reducible exact LeO.none _)
   | (with_reducible refine LeO.ite ?_ ?_)
   | (with_reducible refine LeO.bind ?_ (fun _ => ?_))
   | exact ih0 _ _ _ _
   | exact section_Area.mono _ _ _
   | exact solid_parts.mono _ _ _ _
   | exact LeO.none _
   | refine LeO.ite ?_ ?_
   | refine LeO.bind ?_ (fun _ => ?_)
theorem solid_Volume.mono : ∀ a0 k, LeO (solid_Volume.f k a0) (solid_Volume.f (k + 1) a0) := by
 intro a0 k;have ih0 := solid_Volume.mono_l k;unfold solid_Volume.f
 repeat' first
   | (with_reducible exact ih0 _ _ _ _)
   | (with_reducible exact section_Area.mono _ _ _)
   | (with_reducible exact solid_parts.mono _ _ _ _)
   | (with_reducible exact LeO.refl _)
   | (with_reducible exact LeO.none _)
   | (with_reducible refine LeO.ite ?_ ?_)
   | (with_reducible refine LeO.bind ?_ (fun _ => ?_))
   | exact ih0 _ _ _ _
   | exact section_Area.mono _ _ _
   | exact solid_parts.mono _ _ _ _
   | exact LeO.none _
   | refine LeO.ite ?_ ?_
   | refine LeO.bind ?_ (fun _ => ?_)
def solid_Volume.T5 : Bool × List (List Nat × List Nat) := (true, [([], []), ([], []), ([1], [1]), ([2], [2]), ([], []), ([4], [4]), ([5], [5]), ([3, 6], [3, 6]), ([], []), ([8], [8]), ([9], [9]), ([7, 10], [7, 10]), ([0, 11], [0, 11]), ([12, 10, 0, 1, 2, 3, 4, 5, 6, 7, 8, 9, 10, 11, 12], [0, 12])])
def solid_Volume.B5 : List Nat := [0, 0, 2, 6, 0, 16, 48, 126, 0, 256, 768, 2046, 4095, 8191]
theorem solid_Volume.tab5 : rtab .any (opsOf Try.f21 5) = solid_Volume.T5 := by kernel_rfl
theorem solid_Volume.bits5 : waitsOk solid_Volume.T5.2 solid_Volume.B5 = true := by kernel_rfl
set_option maxHeartbeats 8000000 in
set_option maxRecDepth 100000 in
theorem solid_Volume.calls (k : Nat) (A0 : Option Addr) (c0 : Nat) (l0 : List (S58)) (r : Int) (w : World) (hr0 : Kd.C k58 w A0 l0.length l0) (hc0 : l0.length ≤ c0) (h : solid_Volume.f k l0 = some r) :
  Calls Try.prog 21 #[.slice A0 l0.length c0] w fun e w' => e = .returned (.int .i64 r) ∧ Below w.heap.size w w' := by
 have hu68 := Try.underlying68;have hu56 := Try.underlying56;have HR0 := Aside0.mk hr0;have HC0 := Aside0.mk hc0;clear hr0 hc0;have HB := A_ (Below.refl w.heap.size w);have H : ((solid_whole.f).bind fun btq1 => ((solid_parts.f k l0 btq1.1 btq1.2).bind fun tq3 => (solid_Volume.l0 k 0 tq3 (tq3.length : Int) 0))) = some r := h;clear h;replace H := Option.bind_eq_some_iff.mp H;obtain ⟨⟨tq1, tq2⟩, A20, H⟩ := H;replace H : ((solid_parts.f k l0 tq1 tq2).bind fun tq3 => (solid_Volume.l0 k 0 tq3 (tq3.length : Int) 0)) = some r := H;have A2 := Aside0.mk A20;clear A20;replace H := Option.bind_eq_some_iff.mp H;obtain ⟨tq3, A30, H⟩ := H;replace H : (solid_Volume.l0 k 0 tq3 (tq3.length : Int) 0) = some r := H;have A3 := Aside0.mk A30;clear A30;have H' := Aside0.mk H;clear H;go_enter Try.func21, Try.ntmps21;go_wp2_with (first | ((with_reducible refine gate_callee (f := 37) rfl ?_); refine goesL_ (some 7) rfl rfl Try.func37 (by kernel_rfl) rfl #[] rfl la_ ?_; (with_reducible refine (solid_whole.calls  tq1 tq2 _ A2.out).mono ?_); rintro e w4 ⟨rfl, hb⟩; refine ⟨_, rfl, ?_⟩; replace HB := bA_ hb; (try clear hb); (try clear hk)) | ((with_reducible refine gate_callee (f := 36) rfl ?_); refine goesL_ (some 8) rfl rfl Try.func36 (by kernel_rfl) rfl #[.slice A0 l0.length c0, .agg #[.int .i64 tq1, .int .i64 tq2]] rfl la_ ?_; (with_reducible refine (solid_parts.calls k (fun k_ => k_ < w.heap.size) _ _ l0 tq1 tq2 tq3 _ ?side1 A3.out).mono ?_); (case side1 => exact Kd.V_mk HC0.out (Kd.F_below (Kd.C_F k58_heap HR0.out) be_)); rintro e w5 ⟨vq4, rfl, ho0, hb⟩; refine ⟨_, rfl, ?_⟩; have HOq5 := A_ (Kd.N_lower (Kd.N_mono (ok' := fun k_ => True) ho0 (fun k_ hk_ => trivial)) bz_); replace HB := bA_ hb; (try clear hb); (try clear hk); (try clear ho0); obtain ⟨Ao6, co6, eo6⟩ := Kd.N_slice HOq5.out; subst eo6))
 go_loopg [3, 10] k (fun kq v3 v10 w' => ∃ (x3_1 : Int) (x10_1 : Int), v3 = .int .i64 x3_1 ∧ v10 = .int .i64 x10_1 ∧ Aside0 (solid_Volume.l0 kq x3_1 tq3 (tq3.length : Int) x10_1 = some r) ∧ Aside0 (kq ≤ k) ∧ Aside0 (Kd.N k68 68 w' w.heap.size (fun _ => True) (.slice Ao6 tq3.length co6) tq3) ∧ Aside0 (Below w.heap.size w w'))
 case atStart => exact ⟨(0), (0), rs_, rs_, H', ⟨Nat.le_refl _⟩, ⟨fN_ HOq5.out⟩, ⟨be_⟩⟩
 case round =>
  clear H';(try clear c2);(try clear p2);(try clear c3);obtain ⟨x3_1, x10_1, rfl, rfl, HA, HK1, HO_8, HB⟩ := hrel;cases gk with
  | zero => exact absurd HA.out (by simp [solid_Volume.l0])
  | succ k1 =>
   have H := HA.out;clear HA;simp only [solid_Volume.l0] at H
   by_cases c7 : x10_1 < (tq3.length : Int)
   ·rw [if_pos c7] at H;have c7b0 : decide (x10_1 < (tq3.length : Int)) = true := decide_eq_true c7;clear c7
    by_cases c8 : 0 ≤ x10_1
    ·rw [if_pos c8] at H;have c8b0 : decide (0 ≤ x10_1) = true := decide_eq_true c8;clear c8
     by_cases c9 : x10_1 < (tq3.length : Int)
     ·rw [if_pos c9] at H;have c9b0 : decide (x10_1 < (tq3.length : Int)) = true := decide_eq_true c9;clear c9;replace H := Option.bind_eq_some_iff.mp H;obtain ⟨tq8, A100, H⟩ := H;replace H : (solid_Volume.l0 k1 (wrap64 (x3_1 + (wrap64 ((wrap64 (((rd_T68 tq3 x10_1).f0.f1) - ((rd_T68 tq3 x10_1).f0.f0))) * tq8)))) tq3 (tq3.length : Int) (wrap64 (x10_1 + 1))) = some r := H;have A10 := Aside0.mk A100;clear A100;have H' := Aside0.mk H;clear H;have pq6 : 0 ≤ (x10_1 : Int) := as_;have qq6 : x10_1 < (tq3.length : Int) := as_;obtain ⟨adq6, Aq6_3, cq6_3, eq6, hxq6_0, hxq6_1, hxq6_2, hxq6_3, hlq6_3, hiq6_3⟩ := at_T68 (Kd.N_reads' HO_8.out).2.2 x10_1 pq6 qq6;cases eq6;obtain ⟨ceq6, hceq6, hMeq6, hccq6⟩ := Kd.N_get HO_8.out z68 x10_1 pq6 (by first | exact qq6 | exact as_ | (have e_ := (Kd.N_reads' HO_8.out).1; omega));obtain ⟨uaq6_3, ucq6_3, rfl, ulq6_3, geq6_3⟩ := k68_openF hMeq6;have hvq6_3 := hccq6 3 _ rfl;rw [add_field _ _ 3 (by omega)] at hvq6_3;replace hvq6_3 := Option.some.inj (hvq6_3.symm.trans hxq6_3);injection hvq6_3 with hva_ hvn_ hvc_;rw [hva_] at geq6_3;rw [hvc_] at ulq6_3;have HLq6_3 := A_ (show Kd.V k44 44 _ w.heap.size _ _ ((rd_T68 tq3 x10_1).f1.f1) from Kd.V_mk ulq6_3 geq6_3);clear hva_ hvn_ hvc_ geq6_3 ulq6_3 hccq6 hceq6;have HRq6_3 := Aside0.mk hiq6_3;have HCq6_3 := Aside0.mk hlq6_3;clear hiq6_3 hlq6_3;replace pq6 := eq_true pq6;replace qq6 := eq_true qq6;(try go_wp2_with (first | ((with_reducible refine gate_dst (N := 5) rfl ?_); refine bx_ 5 (cs := #[.int .i64 0, .int .i64 0, .int .i64 0, .slice none 0 0]) (t := 68) ?_; intro gbq7 hg w11 hbox hb; replace HO_8 := A_ (Kd.N_below (Kd.N_elderB (fN_ HO_8.out) gbq7 (Nat.le_of_eq hg.symm)) hb); replace HLq6_3 := A_ (Kd.V_below (Kd.V_elderB (fV_ HLq6_3.out) gbq7 (Nat.le_of_eq hg.symm)) hb); replace HRq6_3 := A_ (Kd.C_below (by repeat (first | (with_reducible exact HRq6_3.out) | (with_reducible refine Kd.C_alloc ?_ _) | (with_reducible refine Kd.C_drewN ?_ _) | (with_reducible refine Kd.C_drew ?_) | exact HRq6_3.out)) hb); have BKq7 := A_ hbox; have GWq7 := gz_ (w := w) hg; have GEq7 := gz_ (w := w) hg; replace HB := bA_ hb; clear hb hbox hg; obtain ⟨hcz12_0, hcz12_1, hcz12_2, hcz12_3, hfz12_0, hfz12_1, hfz12_2, hfz12_3⟩ := cy4_ BKq7)));have n0_ : Aside0 (Kd.N k68 68 ((((w11.setCell ⟨gbq7, 0, none⟩ (.int .i64 ((rd_T68 tq3 x10_1).f0.f0))).setCell ⟨gbq7, 1, none⟩ (.int .i64 ((rd_T68 tq3 x10_1).f0.f1))).setCell ⟨gbq7, 2, none⟩ (.int .i64 ((rd_T68 tq3 x10_1).f1.f0))).setCell ⟨gbq7, 3, none⟩ (.slice Aq6_3 ((rd_T68 tq3 x10_1).f1.f1).length cq6_3)) w.heap.size (fun k_ => k_ ≠ gbq7) (.slice (some adq6) tq3.length co6) tq3) := ⟨by (with_reducible repeat (first | apply Kd.N_alloc | apply Kd.N_drewN | apply Kd.N_drew)); exact Kd.N_mono (Nf_ (Nf_ (Nf_ (Nf_ (Kd.N_mono HO_8.out (fun k_ hk => (⟨hk, hk.2⟩ : _ ∧ k_ ≠ gbq7))))))) (fun _ hk => hk.1.2)⟩;have n1_ : Aside0 (Kd.V k44 44 ((((w11.setCell ⟨gbq7, 0, none⟩ (.int .i64 ((rd_T68 tq3 x10_1).f0.f0))).setCell ⟨gbq7, 1, none⟩ (.int .i64 ((rd_T68 tq3 x10_1).f0.f1))).setCell ⟨gbq7, 2, none⟩ (.int .i64 ((rd_T68 tq3 x10_1).f1.f0))).setCell ⟨gbq7, 3, none⟩ (.slice Aq6_3 ((rd_T68 tq3 x10_1).f1.f1).length cq6_3)) w.heap.size (fun k_ => some k_ ≠ (.slice (some adq6) tq3.length co6 : Value).ownBlock ∧ k_ ≠ gbq7) (.slice Aq6_3 ((rd_T68 tq3 x10_1).f1.f1).length cq6_3) ((rd_T68 tq3 x10_1).f1.f1)) := ⟨by (with_reducible repeat (first | apply Kd.V_alloc | apply Kd.V_drewN | apply Kd.V_drew)); exact Kd.V_mono (Vf_ (Vf_ (Vf_ (Vf_ (Kd.V_mono HLq6_3.out (fun k_ hk => (⟨hk, hk.2⟩ : _ ∧ k_ ≠ gbq7))))))) (fun _ hk => ⟨hk.1.1.2, hk.1.2⟩)⟩
      have n2_ : Aside0 (((((w11.setCell ⟨gbq7, 0, none⟩ (.int .i64 ((rd_T68 tq3 x10_1).f0.f0))).setCell ⟨gbq7, 1, none⟩ (.int .i64 ((rd_T68 tq3 x10_1).f0.f1))).setCell ⟨gbq7, 2, none⟩ (.int .i64 ((rd_T68 tq3 x10_1).f1.f0))).setCell ⟨gbq7, 3, none⟩ (.slice Aq6_3 ((rd_T68 tq3 x10_1).f1.f1).length cq6_3)).heap[gbq7]? = some (.cells #[.int .i64 ((rd_T68 tq3 x10_1).f0.f0), .int .i64 ((rd_T68 tq3 x10_1).f0.f1), .int .i64 ((rd_T68 tq3 x10_1).f1.f0), .slice Aq6_3 ((rd_T68 tq3 x10_1).f1.f1).length cq6_3] 68 (0, 0))) := ⟨ch_ BKq7⟩;have n3_ : Aside0 (Below w.heap.size w ((((w11.setCell ⟨gbq7, 0, none⟩ (.int .i64 ((rd_T68 tq3 x10_1).f0.f0))).setCell ⟨gbq7, 1, none⟩ (.int .i64 ((rd_T68 tq3 x10_1).f0.f1))).setCell ⟨gbq7, 2, none⟩ (.int .i64 ((rd_T68 tq3 x10_1).f1.f0))).setCell ⟨gbq7, 3, none⟩ (.slice Aq6_3 ((rd_T68 tq3 x10_1).f1.f1).length cq6_3))) := ⟨be_⟩;(try clear HO_8);(try clear HLq6_3);(try clear BKq7);(try clear HB);generalize ((((w11.setCell ⟨gbq7, 0, none⟩ (.int .i64 ((rd_T68 tq3 x10_1).f0.f0))).setCell ⟨gbq7, 1, none⟩ (.int .i64 ((rd_T68 tq3 x10_1).f0.f1))).setCell ⟨gbq7, 2, none⟩ (.int .i64 ((rd_T68 tq3 x10_1).f1.f0))).setCell ⟨gbq7, 3, none⟩ (.slice Aq6_3 ((rd_T68 tq3 x10_1).f1.f1).length cq6_3)) = w13 at n0_ n1_ n2_ n3_ ⊢;have HO_8 := n0_;have HLq6_3 := n1_;have BKq7 := n2_;have HB := n3_;clear n0_ n1_ n2_ n3_;replace HO_8 := A_ (Kd.N_drew HO_8.out);replace HLq6_3 := A_ (Kd.V_drew HLq6_3.out);replace BKq7 := A_ (blk_drew BKq7.out);replace HB := A_ (below_drew1 HB.out);refine start_ (n := 14) (S := fun w' => w'.cell? ⟨gbq7, 0, none⟩ = some (.int .i64 ((rd_T68 tq3 x10_1).f0.f0)) ∧ w'.cell? ⟨gbq7, 1, none⟩ = some (.int .i64 ((rd_T68 tq3 x10_1).f0.f1)) ∧ w'.cell? ⟨gbq7, 2, none⟩ = some (.int .i64 ((rd_T68 tq3 x10_1).f1.f0)) ∧ w'.cell? ⟨gbq7, 3, none⟩ = some (.slice Aq6_3 ((rd_T68 tq3 x10_1).f1.f1).length cq6_3)) (ds := []) #[f_,f_,f_,f_,f_,f_,f_,f_,f_,f_,f_,f_,f_,f_] (by kernel_rfl) rfl rfl ⟨cl_ BKq7 0, cl_ BKq7 1, cl_ BKq7 2, cl_ BKq7 3⟩ (fun hHeld => ?_); refine with_tabW solid_Volume.tab5 solid_Volume.bits5 (fun HT_ HW_ => ?_);generalize w13.drew = w14 at HO_8 HLq6_3 BKq7 HB hHeld ⊢;refine pu_ 0 14 #[t_,f_,f_,f_,f_,f_,f_,f_,f_,f_,f_,f_,f_,f_] ?_;refine pu_ 1 15 #[t_,t_,f_,f_,f_,f_,f_,f_,f_,f_,f_,f_,f_,f_] ?_;refine pu_ 2 16 #[t_,t_,t_,f_,f_,f_,f_,f_,f_,f_,f_,f_,f_,f_] ?_;refine pu_ 4 18 #[t_,t_,t_,f_,t_,f_,f_,f_,f_,f_,f_,f_,f_,f_] ?_;refine pu_ 5 19 #[t_,t_,t_,f_,t_,t_,f_,f_,f_,f_,f_,f_,f_,f_] ?_;refine pu_ 8 22 #[t_,t_,t_,f_,t_,t_,f_,f_,t_,f_,f_,f_,f_,f_] ?_;refine take_ (i := 3) (N := some 17) #[t_,t_,t_,t_,t_,t_,f_,f_,t_,f_,f_,f_,f_,f_] rfl rfl (take_ofW HT_.out HW_.out (by kernel_rfl)) id3_ (Or.inl ⟨by rfl, by rintro w' ⟨s0, s1, s2, s3⟩; go_simp; with_reducible rfl⟩) hHeld pt_ ?_;refine take_ (i := 6) (N := some 20) #[t_,t_,t_,t_,t_,t_,t_,f_,t_,f_,f_,f_,f_,f_] rfl rfl (take_ofW HT_.out HW_.out (by kernel_rfl)) id3_ (Or.inl ⟨by rfl, by rintro w' ⟨s0, s1, s2, s3⟩; go_simp; with_reducible rfl⟩) hHeld pt_ ?_;refine pu_ 7 21 #[t_,t_,t_,t_,t_,t_,t_,t_,t_,f_,f_,f_,f_,f_] ?_;refine take_ (i := 9) (N := some 23) #[t_,t_,t_,t_,t_,t_,t_,t_,t_,t_,f_,f_,f_,f_] rfl rfl (take_ofW HT_.out HW_.out (by kernel_rfl)) id3_ (Or.inl ⟨by rfl, by rintro w' ⟨s0, s1, s2, s3⟩; go_simp; with_reducible rfl⟩) hHeld pt_ ?_;refine one_ (i := 10) (N := some 24) #[t_,t_,t_,t_,t_,t_,t_,t_,t_,t_,t_,f_,f_,f_] rfl rfl (one_of HT_.out (by kernel_rfl)) (by decide) (fun K hK => ?_);refine goes_ Try.func38 (by kernel_rfl) rfl #[.agg #[.int .i64 ((rd_T68 tq3 x10_1).f1.f0), .slice Aq6_3 ((rd_T68 tq3 x10_1).f1.f1).length cq6_3]] (by rfl) rfl rfl la_ ?_;(with_reducible refine (section_Area.calls k1 ((rd_T68 tq3 x10_1).f1.f0) _ _ ((rd_T68 tq3 x10_1).f1.f1) tq8 _ ?side1 ?side2 A10.out).mono ?_);(case side1 => repeat (first | exact ((Kd.V_reads' (fV_ HLq6_3.out)).2.2) | (with_reducible refine Kd.C_alloc ?_ _) | (with_reducible refine Kd.C_drewN ?_ _) | (with_reducible refine Kd.C_drew ?_)));(case side2 => exact HCq6_3.out);rintro e w15 ⟨rfl, hb⟩;refine ⟨_, rfl, ?_⟩
      replace HO_8 := kN_ HO_8 hb;replace HLq6_3 := kV_ HLq6_3 hb;replace BKq7 := bb_ BKq7 hb;replace HB := bA_ hb;(try clear hb);(try clear hk);refine hK.out _ _ ⟨cl_ BKq7 0, cl_ BKq7 1, cl_ BKq7 2, cl_ BKq7 3⟩ (fun hHeld => ?_);clear hK K;refine norm_ (a' := ?_) ?_ ?_;rotate_left
      ·show Act.put _ (some 24) _ = _
       simp only [Act.put, List.setIfInBounds_toArray, List.set_cons_zero, List.set_cons_succ, i64_w, i32_w];rfl
      refine pu_ 11 25 #[t_,t_,t_,t_,t_,t_,t_,t_,t_,t_,t_,t_,f_,f_] ?_;refine pu_ 12 26 #[t_,t_,t_,t_,t_,t_,t_,t_,t_,t_,t_,t_,t_,f_] ?_;refine pu_ 13 3 #[t_,t_,t_,t_,t_,t_,t_,t_,t_,t_,t_,t_,t_,t_] ?_;refine done_ (done_of HT_.out (by kernel_rfl)) ?_;(try clear hHeld);try go_wp2
      go_roundg k1
      case measure => have := HK1.out; omega
      case rel => exact ⟨(wrap64 (x3_1 + (wrap64 ((wrap64 (((rd_T68 tq3 x10_1).f0.f1) - ((rd_T68 tq3 x10_1).f0.f0))) * tq8)))), (wrap64 (x10_1 + 1)), rs_, rs_, H', ⟨by have := HK1.out; omega⟩, ⟨by (with_reducible repeat (first | apply Kd.N_alloc | apply Kd.N_drewN | apply Kd.N_drew)); exact Kd.N_mono HO_8.out (fun _ hk => trivial)⟩, ⟨be_⟩⟩
     ·rw [if_neg c9] at H;exact absurd H (by simp)
    ·rw [if_neg c8] at H;exact absurd H (by simp)
   ·rw [if_neg c7] at H;have c7b0 : decide (x10_1 < (tq3.length : Int)) = false := decide_eq_false c7;clear c7;obtain rfl := Option.some.inj H;go_wp2;go_ret;exact ⟨er_, be_⟩


def class_Price.f (k : Nat) (l0 : List (S28)) (l1 : List (S58)) (l2 : List (S48)) : Option (Int) := (class_Of.f k l0 l1 l2).bind fun btq1 => (if btq1.2 = true then (if 0 ≤ btq1.1 then (if btq1.1 < (l0.length : Int) then ((solid_Volume.f k l1).bind fun tq4 => (some (wrap64 (Int.tdiv (wrap64 (((rd_T28 l0 btq1.1).f8) * tq4)) 1000000000)))) else (none)) else (none)) else (some 0))
theorem class_Price.mono : ∀ a0 a1 a2 k, LeO (class_Price.f k a0 a1 a2) (class_Price.f (k + 1) a0 a1 a2) := by
 intro a0 a1 a2 k;unfold class_Price.f
 repeat' first
   | (with_reducible exact class_Of.mono _ _ _ _)
   | (with_reducible exact solid_Volume.mono _ _)
   | (with_reducible exact LeO.refl _)
   | (with_reducible exact LeO.none _)
   | (with_reducible refine LeO.ite ?_ ?_)
   | (with_reducible refine LeO.bind ?_ (fun _ => ?_))
   | exact class_Of.mono _ _ _ _
   | exact solid_Volume.mono _ _
   | exact LeO.none _
   | refine LeO.ite ?_ ?_
   | refine LeO.bind ?_ (fun _ => ?_)
def class_Price.T4 : Bool × List (List Nat × List Nat) := (true, [([], []), ([], []), ([0, 1], [0, 1]), ([2], [2]), ([3], [3]), ([], []), ([5], [5]), ([4, 6], [4, 6]), ([7], [7]), ([8, 6, 0, 1, 2, 3, 4, 5, 6, 7, 8], [8])])
def class_Price.B4 : List Nat := [0, 0, 3, 7, 15, 0, 32, 127, 255, 511]
theorem class_Price.tab4 : rtab .any (opsOf Try.f19 4) = class_Price.T4 := by kernel_rfl
theorem class_Price.bits4 : waitsOk class_Price.T4.2 class_Price.B4 = true := by kernel_rfl
set_option maxHeartbeats 8000000 in
set_option maxRecDepth 100000 in
theorem class_Price.calls (k : Nat) (A0 : Option Addr) (c0 : Nat) (l0 : List (S28)) (A1 : Option Addr) (c1 : Nat) (l1 : List (S58)) (A2 : Option Addr) (c2 : Nat) (l2 : List (S48)) (r : Int) (w : World) (hr0 : Kd.C k28 w A0 l0.length l0) (hc0 : l0.length ≤ c0) (hr1 : Kd.C k58 w A1 l1.length l1) (hc1 : l1.length ≤ c1) (hr2 : Kd.C k48 w A2 l2.length l2) (hc2 : l2.length ≤ c2) (h : class_Price.f k l0 l1 l2 = some r) :
  Calls Try.prog 19 #[.slice A0 l0.length c0, .slice A1 l1.length c1, .slice A2 l2.length c2] w fun e w' => e = .returned (.int .i64 r) ∧ Below w.heap.size w w' := by
 have HR0 := Aside0.mk hr0;have HC0 := Aside0.mk hc0;clear hr0 hc0;have HR1 := Aside0.mk hr1;have HC1 := Aside0.mk hc1;clear hr1 hc1;have HR2 := Aside0.mk hr2;have HC2 := Aside0.mk hc2;clear hr2 hc2;have HB := A_ (Below.refl w.heap.size w);have H : ((class_Of.f k l0 l1 l2).bind fun btq1 => (if btq1.2 = true then (if 0 ≤ btq1.1 then (if btq1.1 < (l0.length : Int) then ((solid_Volume.f k l1).bind fun tq4 => (some (wrap64 (Int.tdiv (wrap64 (((rd_T28 l0 btq1.1).f8) * tq4)) 1000000000)))) else (none)) else (none)) else (some 0))) = some r := h;clear h;replace H := Option.bind_eq_some_iff.mp H;obtain ⟨⟨tq1, tq2⟩, A40, H⟩ := H;replace H : (if tq2 = true then (if 0 ≤ tq1 then (if tq1 < (l0.length : Int) then ((solid_Volume.f k l1).bind fun tq4 => (some (wrap64 (Int.tdiv (wrap64 (((rd_T28 l0 tq1).f8) * tq4)) 1000000000)))) else (none)) else (none)) else (some 0)) = some r := H;have A4 := Aside0.mk A40;clear A40
 by_cases c5 : tq2 = true
 ·subst c5;(have H1 : (if 0 ≤ tq1 then (if tq1 < (l0.length : Int) then ((solid_Volume.f k l1).bind fun tq4 => (some (wrap64 (Int.tdiv (wrap64 (((rd_T28 l0 tq1).f8) * tq4)) 1000000000)))) else (none)) else (none)) = some r := by rw [if_pos rfl] at H; exact H);clear H;have H := H1;clear H1
  by_cases c6 : 0 ≤ tq1
  ·rw [if_pos c6] at H;have c6b0 : decide (0 ≤ tq1) = true := decide_eq_true c6;clear c6
   by_cases c7 : tq1 < (l0.length : Int)
   ·rw [if_pos c7] at H;have c7b0 : decide (tq1 < (l0.length : Int)) = true := decide_eq_true c7;clear c7;replace H := Option.bind_eq_some_iff.mp H;obtain ⟨tq4, A80, H⟩ := H;replace H : (some (wrap64 (Int.tdiv (wrap64 (((rd_T28 l0 tq1).f8) * tq4)) 1000000000))) = some r := H;have A8 := Aside0.mk A80;clear A80;obtain rfl := Option.some.inj H;go_enter Try.func19, Try.ntmps19;(try go_wp2_with (first | ((with_reducible refine gate_callee (f := 17) rfl ?_); refine goesL_ (some 13) rfl rfl Try.func17 (by kernel_rfl) rfl #[.slice A0 l0.length c0, .slice A1 l1.length c1, .slice A2 l2.length c2] rfl la_ ?_; (with_reducible refine (class_Of.calls k _ _ l0 _ _ l1 _ _ l2 tq1 true _ ?side1 ?side2 ?side3 ?side4 ?side5 ?side6 A4.out).mono ?_); (case side1 => exact csC_ HR0.out); (case side2 => exact HC0.out); (case side3 => exact csC_ HR1.out); (case side4 => exact HC1.out); (case side5 => exact csC_ HR2.out); (case side6 => exact HC2.out); rintro e w9 ⟨rfl, hb⟩; refine ⟨_, rfl, ?_⟩; replace HB := bA_ hb; (try clear hb))));replace HB := A_ (below_drew1 HB.out);have pq3 : 0 ≤ (tq1 : Int) := as_;have qq3 : tq1 < (l0.length : Int) := as_;obtain ⟨adq3, eq3, hxq3_0, hxq3_1, hxq3_2, hxq3_3, hxq3_4, hxq3_5, hxq3_6, hxq3_7, hxq3_8⟩ := at_T28 HR0.out tq1 pq3 qq3;have hwq3_8 := hxq3_8;have hwq3_7 := hxq3_7;have hwq3_6 := hxq3_6;have hwq3_5 := hxq3_5;have hwq3_4 := hxq3_4;have hwq3_3 := hxq3_3;have hwq3_2 := hxq3_2;have hwq3_1 := hxq3_1;have hwq3_0 := hxq3_0;cases eq3;replace hxq3_0 := bc_ HB hxq3_0;replace hxq3_1 := bc_ HB hxq3_1;replace hxq3_2 := bc_ HB hxq3_2;replace hxq3_3 := bc_ HB hxq3_3;replace hxq3_4 := bc_ HB hxq3_4;replace hxq3_5 := bc_ HB hxq3_5;replace hxq3_6 := bc_ HB hxq3_6;replace hxq3_7 := bc_ HB hxq3_7;replace hxq3_8 := bc_ HB hxq3_8;replace pq3 := eq_true pq3;replace qq3 := eq_true qq3;refine start_ (n := 10) (S := fun w' => w'.cell? (adq3.add ((tq1).toNat * 9)) = some (.string ((rd_T28 l0 tq1).f0)) ∧ w'.cell? ⟨(adq3.add ((tq1).toNat * 9)).block, (adq3.add ((tq1).toNat * 9)).off + 1, none⟩ = some (.int .i64 ((rd_T28 l0 tq1).f1)) ∧ w'.cell? ⟨(adq3.add ((tq1).toNat * 9)).block, (adq3.add ((tq1).toNat * 9)).off + 2, none⟩ = some (.int .i64 ((rd_T28 l0 tq1).f2)) ∧ w'.cell? ⟨(adq3.add ((tq1).toNat * 9)).block, (adq3.add ((tq1).toNat * 9)).off + 3, none⟩ = some (.int .i64 ((rd_T28 l0 tq1).f3)) ∧ w'.cell? ⟨(adq3.add ((tq1).toNat * 9)).block, (adq3.add ((tq1).toNat * 9)).off + 4, none⟩ = some (.int .i64 ((rd_T28 l0 tq1).f4)) ∧ w'.cell? ⟨(adq3.add ((tq1).toNat * 9)).block, (adq3.add ((tq1).toNat * 9)).off + 5, none⟩ = some (.int .i64 ((rd_T28 l0 tq1).f5)) ∧ w'.cell? ⟨(adq3.add ((tq1).toNat * 9)).block, (adq3.add ((tq1).toNat * 9)).off + 6, none⟩ = some (.int .i64 ((rd_T28 l0 tq1).f6)) ∧ w'.cell? ⟨(adq3.add ((tq1).toNat * 9)).block, (adq3.add ((tq1).toNat * 9)).off + 7, none⟩ = some (.int .i64 ((rd_T28 l0 tq1).f7)) ∧ w'.cell? ⟨(adq3.add ((tq1).toNat * 9)).block, (adq3.add ((tq1).toNat * 9)).off + 8, none⟩ = some (.int .i64 ((rd_T28 l0 tq1).f8))) (ds := []) #[f_,f_,f_,f_,f_,f_,f_,f_,f_,f_] (by kernel_rfl) rfl rfl ⟨(bc_ HB hwq3_0), (bc_ HB hwq3_1), (bc_ HB hwq3_2), (bc_ HB hwq3_3), (bc_ HB hwq3_4), (bc_ HB hwq3_5), (bc_ HB hwq3_6), (bc_ HB hwq3_7), (bc_ HB hwq3_8)⟩ (fun hHeld => ?_); refine with_tabW class_Price.tab4 class_Price.bits4 (fun HT_ HW_ => ?_);generalize w9.drew = w10 at HB hxq3_0 hxq3_1 hxq3_2 hxq3_3 hxq3_4 hxq3_5 hxq3_6 hxq3_7 hxq3_8 hHeld ⊢;refine pu_ 0 18 #[t_,f_,f_,f_,f_,f_,f_,f_,f_,f_] ?_;refine pu_ 1 19 #[t_,t_,f_,f_,f_,f_,f_,f_,f_,f_] ?_;refine pu_ 2 20 #[t_,t_,t_,f_,f_,f_,f_,f_,f_,f_] ?_;refine pu_ 3 21 #[t_,t_,t_,t_,f_,f_,f_,f_,f_,f_] ?_;refine pu_ 5 23 #[t_,t_,t_,t_,f_,t_,f_,f_,f_,f_] ?_;refine take_ (i := 4) (N := some 22) #[t_,t_,t_,t_,t_,t_,f_,f_,f_,f_] rfl rfl (take_ofW HT_.out HW_.out (by kernel_rfl)) id3_ (Or.inl ⟨by rfl, by rintro w' ⟨s0, s1, s2, s3, s4, s5, s6, s7, s8⟩; go_simp; with_reducible rfl⟩) hHeld pt_ ?_
    refine one_ (i := 6) (N := some 24) #[t_,t_,t_,t_,t_,t_,t_,f_,f_,f_] rfl rfl (one_of HT_.out (by kernel_rfl)) (by decide) (fun K hK => ?_);refine goes_ Try.func21 (by kernel_rfl) rfl #[.slice A1 l1.length c1] (by rfl) rfl rfl la_ ?_;(with_reducible refine (solid_Volume.calls k _ _ l1 tq4 _ ?side1 ?side2 A8.out).mono ?_);(case side1 => exact csC_ ((Kd.C_below HR1.out HB.out)));(case side2 => exact HC1.out);rintro e w11 ⟨rfl, hb⟩;refine ⟨_, rfl, ?_⟩;replace HB := bA_ hb;(try clear hb);refine hK.out _ _ ⟨(bc_ HB hwq3_0), (bc_ HB hwq3_1), (bc_ HB hwq3_2), (bc_ HB hwq3_3), (bc_ HB hwq3_4), (bc_ HB hwq3_5), (bc_ HB hwq3_6), (bc_ HB hwq3_7), (bc_ HB hwq3_8)⟩ (fun hHeld => ?_);clear hK K;refine norm_ (a' := ?_) ?_ ?_;rotate_left
    ·show Act.put _ (some 24) _ = _
     simp only [Act.put, List.setIfInBounds_toArray, List.set_cons_zero, List.set_cons_succ, i64_w, i32_w];rfl
    refine pu_ 7 25 #[t_,t_,t_,t_,t_,t_,t_,t_,f_,f_] ?_;refine pu_ 8 26 #[t_,t_,t_,t_,t_,t_,t_,t_,t_,f_] ?_;refine pu_ 9 6 #[t_,t_,t_,t_,t_,t_,t_,t_,t_,t_] ?_;refine done_ (done_of HT_.out (by kernel_rfl)) ?_;(try clear hHeld);(try go_wp2);go_ret;exact ⟨er_, be_⟩
   ·rw [if_neg c7] at H;exact absurd H (by simp)
  ·rw [if_neg c6] at H;exact absurd H (by simp)
 ·replace c5 := Bool.eq_false_iff.mpr c5;subst c5;(have H1 : (some 0) = some r := by rw [if_neg (show ¬ (false = true) by decide)] at H; exact H);clear H;have H := H1;clear H1;obtain rfl := Option.some.inj H;go_enter Try.func19, Try.ntmps19;go_wp2_with (first | ((with_reducible refine gate_callee (f := 17) rfl ?_); refine goesL_ (some 13) rfl rfl Try.func17 (by kernel_rfl) rfl #[.slice A0 l0.length c0, .slice A1 l1.length c1, .slice A2 l2.length c2] rfl la_ ?_; (with_reducible refine (class_Of.calls k _ _ l0 _ _ l1 _ _ l2 tq1 false _ ?side1 ?side2 ?side3 ?side4 ?side5 ?side6 A4.out).mono ?_); (case side1 => exact csC_ HR0.out); (case side2 => exact HC0.out); (case side3 => exact csC_ HR1.out); (case side4 => exact HC1.out); (case side5 => exact csC_ HR2.out); (case side6 => exact HC2.out); rintro e w12 ⟨rfl, hb⟩; refine ⟨_, rfl, ?_⟩; replace HB := bA_ hb; (try clear hb)));go_ret;exact ⟨er_, be_⟩


def sawmilllaw16_sample.l0 : Nat → Int → Int → Int → List (S44) → Option ((List (S58)) × (List (S48)))
 | 0, _, _, _, _ => none
 | k + 1, x2, xq3o0, xq3o1, xq3o2 => if x2 < 20 then (if xq3o2.length < 8796093022208 then (sawmilllaw16_sample.l0 k (wrap64 (x2 + 1)) xq3o0 xq3o1 (xq3o2 ++ [(⟨(-100), 100⟩ : S44)])) else (none)) else (some ((([(⟨xq3o0, (⟨xq3o1, xq3o2⟩ : S56)⟩ : S58)] : List (S58))), ([] : List (S48))))
def sawmilllaw16_sample.f (k : Nat)  : Option ((List (S58)) × (List (S48))) := sawmilllaw16_sample.l0 k 0 3000 (-10) ([] : List (S44))
theorem sawmilllaw16_sample.mono_l : ∀ k, (∀ y0 y1 y2 y3, LeO (sawmilllaw16_sample.l0 k y0 y1 y2 y3) (sawmilllaw16_sample.l0 (k + 1) y0 y1 y2 y3))
 | 0 => fun _ _ _ _ r h => by simp [sawmilllaw16_sample.l0] at h
 | k + 1 => by
  have ih0 := sawmilllaw16_sample.mono_l k
  ·intro y0 y1 y2 y3;unfold sawmilllaw16_sample.l0
   repeat' first
   | (with_reducible exact ih0 _ _ _ _)
   | (with_reducible exact LeO.refl _)
   | (with_reducible exact LeO.none _)
   | (with_reducible refine LeO.ite ?_ ?_)
   | (with_reducible refine LeO.bind ?_ (fun _ => ?_))
   | exact ih0 _ _ _ _
   | exact LeO.none _
   | refine LeO.ite ?_ ?_
   | refine LeO.bind ?_ (fun _ => ?_)
theorem sawmilllaw16_sample.mono : ∀ k, LeO (sawmilllaw16_sample.f k ) (sawmilllaw16_sample.f (k + 1) ) := by
 intro  k;have ih0 := sawmilllaw16_sample.mono_l k;unfold sawmilllaw16_sample.f
 repeat' first
   | (with_reducible exact ih0 _ _ _ _)
   | (with_reducible exact LeO.refl _)
   | (with_reducible exact LeO.none _)
   | (with_reducible refine LeO.ite ?_ ?_)
   | (with_reducible refine LeO.bind ?_ (fun _ => ?_))
   | exact ih0 _ _ _ _
   | exact LeO.none _
   | refine LeO.ite ?_ ?_
   | refine LeO.bind ?_ (fun _ => ?_)
set_option maxHeartbeats 8000000 in
set_option maxRecDepth 100000 in
theorem sawmilllaw16_sample.calls (k : Nat)  (r1 : List (S58)) (r2 : List (S48)) (w : World) (h : sawmilllaw16_sample.f k  = some (r1, r2)) :
  Calls Try.prog 26 #[] w fun e w' => ∃ v0_ v1_ : Value, e = .returned (.agg #[v0_, v1_]) ∧ Kd.N k58 58 w' w.heap.size (fun k_ => (w.heap.size ≤ k_) ∧ some k_ ≠ (v1_ : Value).ownBlock) v0_ r1 ∧ Kd.R k48 48 w' w.heap.size (fun k_ => (w.heap.size ≤ k_)) v1_ r2 ∧ Below w.heap.size w w' := by
 have hu32 := Try.underlying32;have hu56 := Try.underlying56;have hu58 := Try.underlying58;have hu44 := Try.underlying44;have HB := A_ (Below.refl w.heap.size w);have H : (sawmilllaw16_sample.l0 k 0 3000 (-10) ([] : List (S44))) = some (r1, r2) := h;clear h;have H' := Aside0.mk H;clear H;go_enter Try.func26, Try.ntmps26;go_wp2_with (first | ((with_reducible refine gate_dst (N := 0) rfl ?_); refine bx_ 0 (cs := #[.slice none 0 0, .slice none 0 0]) (t := 32) ?_; intro gbq1 hg w1 hbox hb; have BKq1 := A_ hbox; have GWq1 := gz_ (w := w) hg; have GEq1 := gz_ (w := w) hg; replace HB := bA_ hb; clear hb hbox hg) | ((with_reducible refine gate_dst (N := 1) rfl ?_); refine bx_ 1 (cs := #[.int .i64 0, .int .i64 0, .slice none 0 0]) (t := 58) ?_; intro gbq2 hg w2 hbox hb; have BKq2 := A_ hbox; have GWq2 := gz_ (w := w) hg; have GEq2 := gz_ (w := w) hg; replace HB := bA_ hb; have NBq1_q2 := nlt_ BKq1 hg; have NBq2_q1 := ngt_ BKq1 hg; replace BKq1 := bb_ BKq1 hb; clear hb hbox hg; have hnb3 := NBq2_q1.out; have hnc3 := NBq1_q2.out; obtain ⟨hcz4_0, hcz4_1, hcz4_2, hfz4_0, hfz4_1, hfz4_2⟩ := cy3_ BKq2))
 go_loopg [2] k (fun kq v2 w' => ∃ (x2_1 : Int) (xq3o2_1 : List (S44)) (uq3o2 : Value), v2 = .int .i64 x2_1 ∧ Aside0 (sawmilllaw16_sample.l0 kq x2_1 3000 (-10) xq3o2_1 = some (r1, r2)) ∧ Aside0 (kq ≤ k) ∧ Aside0 (Kd.R k44 44 w' w.heap.size (fun k_ => (w.heap.size ≤ k_)) uq3o2 xq3o2_1) ∧ Aside0 (w'.heap[gbq1]? = some (.cells #[(.slice none 0 0), (.slice none 0 0)] 32 (0, 0))) ∧ Aside0 (w'.heap[gbq2]? = some (.cells #[.int .i64 3000, .int .i64 (-10), uq3o2] 58 (0, 0))) ∧ Aside0 (Below w.heap.size w w'))
 case atStart => exact ⟨(0), (([] : List (S44))), (.slice none 0 0), rs_, H', ⟨Nat.le_refl _⟩, ⟨by first | exact Kd.R_nil _ _ _ _ _ | exact Kd.N_nil _ _ _ _ _ | exact Kd.V_nil _ _ _ _ _ | exact Kd.Q_nil _ _ _ _ _ | exact Kd.S_nil _ _ _ _ _⟩, ⟨ch_ BKq1⟩, ⟨ch_ BKq2⟩, ⟨be_⟩⟩
 case round =>
  clear H';(try clear c2);(try clear p2);(try clear c3);(try clear hcz4_0);(try clear hcz4_1);(try clear hcz4_2);(try clear hfz4_0);(try clear hfz4_1);(try clear hfz4_2);obtain ⟨x2_1, xq3o2_1, uq3o2, rfl, HA, HK1, HO_q3o2, BKq1, BKq2, HB⟩ := hrel;cases gk with
  | zero => exact absurd HA.out (by simp [sawmilllaw16_sample.l0])
  | succ k1 =>
   have H := HA.out;clear HA;simp only [sawmilllaw16_sample.l0] at H
   by_cases c5 : x2_1 < 20
   ·rw [if_pos c5] at H;have c5b0 : decide (x2_1 < 20) = true := decide_eq_true c5;clear c5
    by_cases c6 : xq3o2_1.length < 8796093022208
    ·rw [if_pos c6] at H;have LMc6 := Aside0.mk c6;clear c6;obtain ⟨yq3, hyq3⟩ : ∃ y_ : List (S44), y_ = (xq3o2_1 ++ [(⟨(-100), 100⟩ : S44)]) := ⟨_, rfl⟩;(replace H : (sawmilllaw16_sample.l0 k1 (wrap64 (x2_1 + 1)) 3000 (-10) yq3) = some (r1, r2) := by first | (rw [hyq3]; with_reducible exact H) | (have H2_ := (Option.bind_some _ _).symm.trans H; rw [hyq3]; with_reducible exact H2_) | (have H2_ := (Option.bind_some _ _).symm.trans H; with_reducible exact H2_) | with_reducible exact H | (rw [hyq3]; exact H) | exact H);have Nyq3 := Aside0.mk hyq3;clear hyq3;have H' := Aside0.mk H;clear H;have hnb7 := NBq2_q1.out;have hnc7 := NBq1_q2.out;obtain ⟨hcz8_0, hcz8_1, hcz8_2, hfz8_0, hfz8_1, hfz8_2⟩ := cy3_ BKq2;go_wp2_with (first | ((with_reducible refine gate_builtin (b := .append) (xs := #[.tmp 11, .tmp 13]) rfl ?_); at_builtin; refine Kd.R_append k44 (w0 := w) w.heap.size rfl (.tmp 11) (.tmp 13) 54 44 (.agg #[(.int .i64 0), (.int .i64 0)]) 16 rfl Try.underlying54 info44 rfl (by decide) (by omega) uq3o2 xq3o2_1 (⟨(-100), 100⟩ : S44) [.int .i64 (-100), .int .i64 100] (fun k_ => (w.heap.size ≤ k_)) (fun _ => False) rfl rfl ?aP (fun _ hk => hk.elim) ?aF ?aO ?aB ?aS ?aL ?_; (case aP => exact k44_mkM _ _ _ (⟨(-100), 100⟩ : S44)); (case aB => exact be_); (case aF => exact (fun k_ hk => (Nat.le_trans bz_ hk))); (case aO => exact (fR_ HO_q3o2.out)); (case aS => exact bz_); (case aL => have := LMc6.out; omega); intro vq4 w9 ho hb hg hat; rw [← Nyq3.out] at ho; have n0_ := A_ (blk_grown (g := gbq1) (o := .cells #[.slice none 0 0, .slice none 0 0] 32 (0, 0)) (fb_ BKq1.out) hg (Kd.R_ne HO_q3o2.out BKq1.out (by decide))); have n1_ := A_ (blk_grown (g := gbq2) (o := .cells #[.int .i64 3000, .int .i64 (-10), uq3o2] 58 (0, 0)) (fb_ BKq2.out) hg (Kd.R_ne HO_q3o2.out BKq2.out (by decide))); have n2_ := A_ (hb); have n3_ := A_ (ho); clear BKq1 BKq2 HB HO_q3o2; have BKq1 := n0_; have BKq2 := n1_; have HB := n2_; have HOq5 := n3_; clear n0_ n1_ n2_ n3_ ho hb hg hat; obtain ⟨Ao10, co10, eo10⟩ := Kd.R_slice HOq5.out; subst eo10; obtain ⟨hcz11_0, hcz11_1, hcz11_2, hfz11_0, hfz11_1, hfz11_2⟩ := cy3_ BKq2))
     go_roundg k1
     case measure => have := HK1.out; omega
     case rel => exact ⟨(wrap64 (x2_1 + 1)), (yq3), (.slice Ao10 yq3.length co10), rs_, H', ⟨by have := HK1.out; omega⟩, ⟨by (with_reducible repeat (first | apply Kd.R_alloc | apply Kd.R_drewN | apply Kd.R_drew)); exact Kd.R_mono (Rf_ (Kd.R_types HOq5.out BKq2.out (by decide))) (fun _ hk => hk.1)⟩, ⟨ch_ BKq1⟩, ⟨ch_ BKq2⟩, ⟨be_⟩⟩
    ·rw [if_neg c6] at H;exact absurd H (by simp)
   ·rw [if_neg c5] at H;have c5b0 : decide (x2_1 < 20) = false := decide_eq_false c5;clear c5;obtain ⟨yq6, hyq6⟩ : ∃ y_ : List (S58), y_ = (([(⟨3000, (⟨(-10), xq3o2_1⟩ : S56)⟩ : S58)] : List (S58))) := ⟨_, rfl⟩;(replace H : (some (yq6, ([] : List (S48)))) = some (r1, r2) := by first | (rw [hyq6]; with_reducible exact H) | (have H2_ := (Option.bind_some _ _).symm.trans H; rw [hyq6]; with_reducible exact H2_) | (have H2_ := (Option.bind_some _ _).symm.trans H; with_reducible exact H2_) | with_reducible exact H | (rw [hyq6]; exact H) | exact H);have Nyq6 := Aside0.mk hyq6;clear hyq6;simp only [Option.some.injEq, Prod.mk.injEq] at H;obtain ⟨rfl, rfl⟩ := H;have hnb12 := NBq2_q1.out;have hnc12 := NBq1_q2.out;obtain ⟨hcz13_0, hcz13_1, hcz13_2, hfz13_0, hfz13_1, hfz13_2⟩ := cy3_ BKq2;obtain ⟨Ao14, co14, eo14⟩ := Kd.R_slice HO_q3o2.out;subst eo14;go_wp2_with (first | ((with_reducible refine gate_dst (N := 18) rfl ?_); refine Kd.N_lit k58 _ 58 ?hg (N' := 18) ?hd (xs := ([(⟨3000, (⟨(-10), xq3o2_1⟩ : S56)⟩ : S58)] : List (S58))) (inner := [.int .i64 3000, .int .i64 (-10), .slice Ao14 xq3o2_1.length co14]) (ok := (fun k_ => (w.heap.size ≤ k_) ∧ k_ ≠ gbq1 ∧ k_ ≠ gbq2)) (okp := (fun k_ => (w.heap.size ≤ k_) ∧ k_ ≠ gbq1 ∧ k_ ≠ gbq2)) ?hr ?hp (fun _ hk => hk) ((show ∀ k_, wr.heap.size ≤ k_ → (fun k_ => (w.heap.size ≤ k_) ∧ k_ ≠ gbq1 ∧ k_ ≠ gbq2) k_ from fun k_ hk => ⟨(Nat.le_trans bz_ hk), Kd.freshB (g := gbq1) (o := .cells #[.slice none 0 0, .slice none 0 0] 32 (0, 0)) (fb_ BKq1.out) k_ hk, Kd.freshB (g := gbq2) (o := .cells #[.int .i64 3000, .int .i64 (-10), .slice Ao14 xq3o2_1.length co14] 58 (0, 0)) (fb_ BKq2.out) k_ hk⟩) _ (Nat.le_refl _)) (Below.refl _ _) (Nat.le_refl _) (by simp) ?_; (case hd => rfl); (case hg => rfl); (case hr => first | (go_simp; done) | (go_simp; rfl)); (case hp => exact (Reps.c3 (show Kd.FK k58 _ _ (⟨3000, (⟨(-10), xq3o2_1⟩ : S56)⟩ : S58) [.int .i64 3000, .int .i64 (-10), .slice Ao14 xq3o2_1.length co14] from (k58_mkF _ _ (⟨3000, (⟨(-10), xq3o2_1⟩ : S56)⟩ : S58) (Kd.R_reads' (Kd.R_mono (ok' := (fun k_ => (w.heap.size ≤ k_) ∧ k_ ≠ gbq1 ∧ k_ ≠ gbq2)) (Kd.R_types (Kd.R_types (HO_q3o2.out) BKq1.out (by decide)) BKq2.out (by decide)) (fun k_ hk => ⟨hk.1.1, ⟨hk.1.2, hk.2⟩⟩))).2.1 (Kd.R_F (Kd.R_mono (ok' := (fun k_ => (w.heap.size ≤ k_) ∧ k_ ≠ gbq1 ∧ k_ ≠ gbq2)) (Kd.R_types (Kd.R_types (HO_q3o2.out) BKq1.out (by decide)) BKq2.out (by decide)) (fun k_ hk => ⟨hk.1.1, ⟨hk.1.2, hk.2⟩⟩))))) (Reps.none _ _))); intro vq7 w15 ho16 hb hg_ hnew_; clear hg_ hnew_; (first | rw [← Nyq6.out] at ho16 | (simp only [Int.reduceToNat] at ho16; rw [← Nyq6.out] at ho16)); have HOq8 := A_ (Kd.N_lower ho16 bz_); replace BKq1 := bb_ BKq1 hb; replace BKq2 := bb_ BKq2 hb; replace HO_q3o2 := A_ (Kd.V_below (Kd.R_V (base' := w.heap.size) (fR_ HO_q3o2.out)) hb); replace HB := bA_ hb; clear hb ho16; obtain ⟨Ao17, co17, eo17⟩ := Kd.N_slice HOq8.out; subst eo17; obtain ⟨hcz18_0, hcz18_1, hfz18_0, hfz18_1⟩ := cy2_ BKq1));refine bodyPost_ret (results_cell_row rfl _ _ gbq1 32 #[.slice Ao17 yq6.length co17, .slice none 0 0] (0, 0) _ rfl (ch_ BKq1) Try.underlying32 rfl (by kernel_rfl)) rfl ?_;exact ⟨_, _, er_, by (with_reducible repeat (first | apply Kd.N_alloc | apply Kd.N_drewN | apply Kd.N_drew)); exact Kd.N_mono (Nf_ (Nf_ (Kd.N_mono HOq8.out (fun k_ hk => (⟨hk, hk.2.1⟩ : _ ∧ k_ ≠ gbq1))))) (fun _ hk => ⟨hk.1.1, (by simp [Value.ownBlock])⟩), by first | exact Kd.R_nil _ _ _ _ _ | exact Kd.N_nil _ _ _ _ _ | exact Kd.V_nil _ _ _ _ _ | exact Kd.Q_nil _ _ _ _ _ | exact Kd.S_nil _ _ _ _ _, be_⟩


-- by hand
def clsA : S28 := ⟨⟨#[97]⟩, 225, 3000, 3000, 0, 0, 0, 0, 100⟩
def clsB : S28 := ⟨⟨#[98]⟩, 226, 3000, 3000, 0, 0, 0, 0, 100⟩
def clsZ : S28 := ⟨⟨#[97]⟩, 0, 5, 4, 0, 0, 0, 0, 0⟩
def sawmilllaw16_awake.f (k : Nat) : Option Bool := (sawmilllaw16_sample.f k).bind fun s =>
 if class_Of.f k [clsB, clsA] s.1 [] = some (1, true) ∧ class_Fits.f k clsB.f0 clsB.f1 clsB.f2 clsB.f3 clsB.f4 clsB.f5 clsB.f6 clsB.f7 clsB.f8 s.1 [] = some false ∧ class_Price.f k [clsA] s.1 [] = some 12 ∧
  class_Check.f k [clsA, clsB] = some 0 ∧ class_Check.f k [clsA, clsA] = some 7 ∧ class_Check.f k [clsZ] = some 9 then some true else none
theorem sawmilllaw16_awake.mono : ∀ k, LeO (sawmilllaw16_awake.f k) (sawmilllaw16_awake.f (k + 1)) := by
 intro k;unfold sawmilllaw16_awake.f;refine LeO.bind (sawmilllaw16_sample.mono _) (fun s => ?_);intro r h
 split at h
 ·rename_i c
  rw [if_pos ⟨class_Of.mono _ _ _ _ _ c.1, class_Fits.mono _ _ _ _ _ _ _ _ _ _ _ _ _ c.2.1, class_Price.mono _ _ _ _ _ c.2.2.1, class_Check.mono _ _ _ c.2.2.2.1, class_Check.mono _ _ _ c.2.2.2.2.1, class_Check.mono _ _ _ c.2.2.2.2.2⟩];exact h
 ·cases h
def enc9 (x : S28) : List Value := [.string x.f0, .int .i64 x.f1, .int .i64 x.f2, .int .i64 x.f3, .int .i64 x.f4, .int .i64 x.f5, .int .i64 x.f6, .int .i64 x.f7, .int .i64 x.f8]
theorem flat9 : ∀ (xs : List S28) (j : Nat) (x : S28), xs[j]? = some x → ∀ (i : Nat) (u : Value), (enc9 x)[i]? = some u → (xs.flatMap enc9)[j * 9 + i]? = some u
 | [], _, _, h => by simp at h
 | y :: r, 0, x, h => by
  simp at h;subst h;intro i u hu;rw [List.flatMap_cons, Nat.zero_mul, Nat.zero_add, List.getElem?_append_left (List.getElem?_eq_some_iff.1 hu).1];exact hu
 | y :: r, j + 1, x, h => by
  intro i u hu;have := flat9 r j x (by simpa using h) i u hu;have e : (enc9 y).length = 9 := rfl;rw [List.flatMap_cons, List.getElem?_append_right (by omega), e, show (j + 1) * 9 + i - 9 = j * 9 + i by omega];exact this
theorem rowC {W : World} {g : Nat} (xs : List S28) {cur : Array Value} (hb : W.heap[g]? = some (.cells cur 28 (0, 0))) (hl : xs.length ≤ 1000) (hc : cur.toList = xs.flatMap enc9) : Kd.C k28 W (some ⟨g, 0, none⟩) xs.length xs := by
 refine ⟨rfl, by omega, fun _ => ⟨_, rfl, fun j p h => ⟨enc9 p, rfl, k28_mk W p, fun i u hu => ?_⟩⟩⟩;have h2 := flat9 xs j p h i u hu;rw [← hc, Array.getElem?_toList] at h2;rw [← h2];refine Eq.trans ?_ (cell_of_row W g (j * 9 + i) cur 28 (0, 0) hb);have sz : k28.sz = 9 := rfl;rw [sz];simp [Addr.add]
 split
 ·rename_i c
  rw [c.1, c.2]
 ·rfl
def aCells : Array Value := #[.string ⟨#[97]⟩, .int .i64 225, .int .i64 3000, .int .i64 3000, .int .i64 0, .int .i64 0, .int .i64 0, .int .i64 0, .int .i64 100]
def bCells : Array Value := #[.string ⟨#[98]⟩, .int .i64 226, .int .i64 3000, .int .i64 3000, .int .i64 0, .int .i64 0, .int .i64 0, .int .i64 0, .int .i64 100]
def Ex (w : World) (B : Nat) (A0 : Option Addr) (cc0 : Nat) (V : Value) (s1 : List S58) (W : World) : Prop :=
 W.heap[B]? = some (.cells #[.slice A0 s1.length cc0, V] 32 (0, 0)) ∧ W.heap[B + 1]? = some (.cells aCells 28 (0, 0)) ∧ W.heap[B + 1 + 1]? = some (.cells bCells 28 (0, 0)) ∧ Kd.C k58 W A0 s1.length s1 ∧ Below w.heap.size w W
theorem Ex.step {w : World} {B : Nat} {A0 : Option Addr} {cc0 : Nat} {V : Value} {s1 : List S58} {W W' : World} (h : Ex w B A0 cc0 V s1 W) (hb : Below W.heap.size W W') : Ex w B A0 cc0 V s1 W' :=
 ⟨blk_below h.1 hb, blk_below h.2.1 hb, blk_below h.2.2.1 hb, Kd.C_below h.2.2.2.1 hb, h.2.2.2.2.trans (hb.mono h.2.2.2.2.size)⟩
theorem Ex.x {w : World} {B : Nat} {A0 : Option Addr} {cc0 : Nat} {V : Value} {s1 : List S58} {W : World} (h : Ex w B A0 cc0 V s1 W) : W.cell? ⟨B, 0, none⟩ = some (.slice A0 s1.length cc0) := (blk_cell h.1 0).trans rfl
theorem Ex.a {w : World} {B : Nat} {A0 : Option Addr} {cc0 : Nat} {V : Value} {s1 : List S58} {W : World} (h : Ex w B A0 cc0 V s1 W) : W.cell? ⟨B + 1, 0, none⟩ = some (.string ⟨#[97]⟩) ∧ W.cell? ⟨B + 1, 1, none⟩ = some (.int .i64 225) ∧ W.cell? ⟨B + 1, 2, none⟩ = some (.int .i64 3000) ∧ W.cell? ⟨B + 1, 3, none⟩ = some (.int .i64 3000) ∧ W.cell? ⟨B + 1, 4, none⟩ = some (.int .i64 0) ∧ W.cell? ⟨B + 1, 5, none⟩ = some (.int .i64 0) ∧ W.cell? ⟨B + 1, 6, none⟩ = some (.int .i64 0) ∧ W.cell? ⟨B + 1, 7, none⟩ = some (.int .i64 0) ∧ W.cell? ⟨B + 1, 8, none⟩ = some (.int .i64 100) :=
 ⟨(blk_cell h.2.1 0).trans rfl, (blk_cell h.2.1 1).trans rfl, (blk_cell h.2.1 2).trans rfl, (blk_cell h.2.1 3).trans rfl, (blk_cell h.2.1 4).trans rfl, (blk_cell h.2.1 5).trans rfl, (blk_cell h.2.1 6).trans rfl, (blk_cell h.2.1 7).trans rfl, (blk_cell h.2.1 8).trans rfl⟩
theorem Ex.b {w : World} {B : Nat} {A0 : Option Addr} {cc0 : Nat} {V : Value} {s1 : List S58} {W : World} (h : Ex w B A0 cc0 V s1 W) : W.cell? ⟨B + 1 + 1, 0, none⟩ = some (.string ⟨#[98]⟩) ∧ W.cell? ⟨B + 1 + 1, 1, none⟩ = some (.int .i64 226) ∧ W.cell? ⟨B + 1 + 1, 2, none⟩ = some (.int .i64 3000) ∧ W.cell? ⟨B + 1 + 1, 3, none⟩ = some (.int .i64 3000) ∧ W.cell? ⟨B + 1 + 1, 4, none⟩ = some (.int .i64 0) ∧ W.cell? ⟨B + 1 + 1, 5, none⟩ = some (.int .i64 0) ∧ W.cell? ⟨B + 1 + 1, 6, none⟩ = some (.int .i64 0) ∧ W.cell? ⟨B + 1 + 1, 7, none⟩ = some (.int .i64 0) ∧ W.cell? ⟨B + 1 + 1, 8, none⟩ = some (.int .i64 100) :=
 ⟨(blk_cell h.2.2.1 0).trans rfl, (blk_cell h.2.2.1 1).trans rfl, (blk_cell h.2.2.1 2).trans rfl, (blk_cell h.2.2.1 3).trans rfl, (blk_cell h.2.2.1 4).trans rfl, (blk_cell h.2.2.1 5).trans rfl, (blk_cell h.2.2.1 6).trans rfl, (blk_cell h.2.2.1 7).trans rfl, (blk_cell h.2.2.1 8).trans rfl⟩
theorem CD_nil (W : World) : Kd.C k48 W none ([] : List S48).length [] := Kd.C_nil _ W
set_option maxHeartbeats 4000000 in
set_option maxRecDepth 100000 in
theorem sawmilllaw16_awake.calls (k : Nat) (r : Bool) (w : World) (h : sawmilllaw16_awake.f k = some r) :
  Calls Try.prog 13 #[] w fun e w' => e = .returned (.bool r) ∧ Below w.heap.size w w' := by
 unfold sawmilllaw16_awake.f at h;obtain ⟨⟨s1, s2⟩, A1, h⟩ := Option.bind_eq_some_iff.mp h
 split at h
 rotate_left
 ·cases h
 rename_i c
 obtain ⟨c1, c2, c3, c4, c5, c6⟩ := c;obtain rfl := Option.some.inj h;clear h;have S := sawmilllaw16_sample.calls k s1 s2 w A1;go_enter Try.func13, Try.ntmps13;go_wp2_with fail;refine S.mono ?_;rintro e w1 ⟨v0, v1, rfl, hN, hR, hb⟩;obtain ⟨A0, cc0, rfl, hc0, hC0⟩ := Kd.N_reads hN;obtain ⟨A1', cc1, rfl, hc1, hC1⟩ := Kd.R_reads hR;clear hN hR S;have HC0 := Aside0.mk hC0;clear hC0 hC1
 have E0 : Ex w w1.heap.size A0 cc0 (.slice A1' s2.length cc1) s1 (((w1.alloc (.cells #[.slice A0 s1.length cc0, .slice A1' s2.length cc1] 32)).alloc (.cells aCells 28)).alloc (.cells bCells 28)) := by
  refine ⟨blk_alloc (blk_alloc (blk_new _ _) _) _, blk_alloc (by have := blk_new (w1.alloc (.cells #[.slice A0 s1.length cc0, .slice A1' s2.length cc1] 32)) (.cells aCells 28); simpa using this) _, by have := blk_new ((w1.alloc (.cells #[.slice A0 s1.length cc0, .slice A1' s2.length cc1] 32)).alloc (.cells aCells 28)) (.cells bCells 28); simpa using this, ?_, below_alloc (below_alloc (below_alloc hb _) _) _⟩;have := below_alloc (below_alloc (below_alloc (Below.refl w1.heap.size w1) (.cells #[.slice A0 s1.length cc0, .slice A1' s2.length cc1] 32)) (.cells aCells 28)) (.cells bCells 28);exact Kd.C_below HC0.out this
 clear hb HC0;have E1 := E0.step (below_alloc (Below.refl _ _) (.cells (bCells ++ aCells) 28));have R1 : Kd.C k28 _ (some ⟨w1.heap.size + 1 + 1 + 1, 0, none⟩) _ _ := rowC (W := (((w1.alloc (.cells #[.slice A0 s1.length cc0, .slice A1' s2.length cc1] 32)).alloc (.cells aCells 28)).alloc (.cells bCells 28)).alloc (.cells (bCells ++ aCells) 28)) (g := w1.heap.size + 1 + 1 + 1) [clsB, clsA] (cur := bCells ++ aCells) (by have := blk_new (((w1.alloc (.cells #[.slice A0 s1.length cc0, .slice A1' s2.length cc1] 32)).alloc (.cells aCells 28)).alloc (.cells bCells 28)) (.cells (bCells ++ aCells) 28); simpa using this) (by decide) rfl;have K1 := class_Of.calls k _ 2 _ A0 cc0 s1 none 0 [] 1 true _ R1 (by decide) E1.2.2.2.1 hc0 (CD_nil _) (by decide) c1;go_wp2_with fail;refine K1.mono ?_;rintro e w2 ⟨rfl, hb2⟩;replace E1 := E1.step hb2;clear hb2 K1 R1 E0;have K2 := class_Fits.calls k _ _ _ _ _ _ _ _ _ A0 cc0 s1 none 0 [] false w2 E1.2.2.2.1 hc0 (CD_nil _) (by decide) c2;have hx := E1.x;obtain ⟨b0, b1, b2, b3, b4, b5, b6, b7, b8⟩ := E1.b;obtain ⟨a0, a1, a2, a3, a4, a5, a6, a7, a8⟩ := E1.a;have HE := Aside0.mk E1;clear E1;go_wp2_with fail;refine K2.mono ?_;rintro e w3 ⟨rfl, hb2⟩;have E1 := HE.out.step hb2;clear hb2 K2 hx b0 b1 b2 b3 b4 b5 b6 b7 b8 a0 a1 a2 a3 a4 a5 a6 a7 a8 HE;have hx := E1.x;obtain ⟨a0, a1, a2, a3, a4, a5, a6, a7, a8⟩ := E1.a;have E2 := E1.step (below_alloc (Below.refl _ _) (.cells aCells 28));have hx2 : (w3.alloc (.cells #[.string ⟨#[97]⟩, .int .i64 225, .int .i64 3000, .int .i64 3000, .int .i64 0, .int .i64 0, .int .i64 0, .int .i64 0, .int .i64 100] 28)).cell? ⟨w1.heap.size, 0, none⟩ = some (.slice A0 s1.length cc0) := E2.x;have K3 := class_Price.calls k _ 1 _ A0 cc0 s1 none 0 [] 12 _ (rowC (W := w3.alloc (.cells aCells 28)) (g := w3.heap.size) [clsA] (cur := aCells) (blk_new _ _) (by decide) rfl) (by decide) E2.2.2.2.1 hc0 (CD_nil _) (by decide) c3;have HE := Aside0.mk E2;clear E1 E2;go_wp2_with fail;refine K3.mono ?_;rintro e w4 ⟨rfl, hb2⟩;have E1 := HE.out.step hb2;clear hb2 K3 hx hx2 a0 a1 a2 a3 a4 a5 a6 a7 a8 HE;obtain ⟨b0, b1, b2, b3, b4, b5, b6, b7, b8⟩ := E1.b;obtain ⟨a0, a1, a2, a3, a4, a5, a6, a7, a8⟩ := E1.a;have E2 := E1.step (below_alloc (Below.refl _ _) (.cells (aCells ++ bCells) 28));have K4 := class_Check.calls k _ 2 _ 0 _ (rowC (W := w4.alloc (.cells (aCells ++ bCells) 28)) (g := w4.heap.size) [clsA, clsB] (cur := aCells ++ bCells) (blk_new _ _) (by decide) rfl) (by decide) c4;have HE := Aside0.mk E2;clear E1 E2;go_wp2_with fail;refine K4.mono ?_;rintro e w5 ⟨rfl, hb2⟩;have E1 := HE.out.step hb2;clear hb2 K4 b0 b1 b2 b3 b4 b5 b6 b7 b8 a0 a1 a2 a3 a4 a5 a6 a7 a8 HE;obtain ⟨a0, a1, a2, a3, a4, a5, a6, a7, a8⟩ := E1.a;have E2 := E1.step (below_alloc (Below.refl _ _) (.cells (aCells ++ aCells) 28));have K5 := class_Check.calls k _ 2 _ 7 _ (rowC (W := w5.alloc (.cells (aCells ++ aCells) 28)) (g := w5.heap.size) [clsA, clsA] (cur := aCells ++ aCells) (blk_new _ _) (by decide) rfl) (by decide) c5;have HE := Aside0.mk E2;clear E1 E2;go_wp2_with fail;refine K5.mono ?_;rintro e w6 ⟨rfl, hb2⟩;have E1 := HE.out.step hb2;clear hb2 K5 a0 a1 a2 a3 a4 a5 a6 a7 a8 HE;have E2 := E1.step (below_alloc (Below.refl _ _) (.cells #[.string ⟨#[97]⟩, .int .i64 0, .int .i64 5, .int .i64 4, .int .i64 0, .int .i64 0, .int .i64 0, .int .i64 0, .int .i64 0] 28));have K6 := class_Check.calls k _ 1 _ 9 _ (rowC (W := w6.alloc (.cells #[.string ⟨#[97]⟩, .int .i64 0, .int .i64 5, .int .i64 4, .int .i64 0, .int .i64 0, .int .i64 0, .int .i64 0, .int .i64 0] 28)) (g := w6.heap.size) [clsZ] (blk_new _ _) (by decide) rfl) (by decide) c6;have HE := Aside0.mk E2;clear E1 E2;go_wp2_with fail;refine K6.mono ?_;rintro e w7 ⟨rfl, hb2⟩;have E1 := HE.out.step hb2;go_wp2;go_ret;exact ⟨rfl, E1.2.2.2.2⟩


mutual
def sawmilllaw16_few.j0 : Nat → Bool → List (S58) → List (S48) → Option (Bool)
 | 0, _, _, _ => none
 | k + 1, x13, xq2o0, xq2o1 => if x13 = true then (some false) else (sawmilllaw16_few.l0 k 0 xq2o0 xq2o1)
def sawmilllaw16_few.l0 : Nat → Int → List (S58) → List (S48) → Option (Bool)
 | 0, _, _, _ => none
 | k + 1, x3, xq2o0, xq2o1 => if x3 < (xq2o0.length : Int) then (if 0 ≤ x3 then (if (((rd_T58 xq2o0 x3).f1.f1).length : Int) > 130 then (some false) else (sawmilllaw16_few.l0 k (wrap64 (x3 + 1)) xq2o0 xq2o1)) else (none)) else (some true)
end
def sawmilllaw16_few.f (k : Nat) (l0_0 : List (S58)) (l0_1 : List (S48)) : Option (Bool) := if (l0_0.length : Int) > 30 then (sawmilllaw16_few.j0 k true l0_0 l0_1) else (sawmilllaw16_few.j0 k (decide ((l0_1.length : Int) > 100)) l0_0 l0_1)
theorem sawmilllaw16_few.mono_l : ∀ k, (∀ y0 y1 y2, LeO (sawmilllaw16_few.j0 k y0 y1 y2) (sawmilllaw16_few.j0 (k + 1) y0 y1 y2)) ∧ (∀ y0 y1 y2, LeO (sawmilllaw16_few.l0 k y0 y1 y2) (sawmilllaw16_few.l0 (k + 1) y0 y1 y2))
 | 0 => ⟨fun _ _ _ r h => by simp [sawmilllaw16_few.j0] at h, fun _ _ _ r h => by simp [sawmilllaw16_few.l0] at h⟩
 | k + 1 => by
  obtain ⟨ih0, ih1⟩ := sawmilllaw16_few.mono_l k;refine ⟨?_, ?_⟩
  ·intro y0 y1 y2;unfold sawmilllaw16_few.j0
   repeat' first
   | (with_reducible exact ih0 _ _ _)
   | (with_reducible exact ih1 _ _ _)
   | (with_reducible exact LeO.refl _)
   | (with_reducible exact LeO.none _)
   | (with_reducible refine LeO.ite ?_ ?_)
   | (with_reducible refine LeO.bind ?_ (fun _ => ?_))
   | exact ih0 _ _ _
   | exact ih1 _ _ _
   | exact LeO.none _
   | refine LeO.ite ?_ ?_
   | refine LeO.bind ?_ (fun _ => ?_)
  ·intro y0 y1 y2;unfold sawmilllaw16_few.l0
   repeat' first
   | (with_reducible exact ih0 _ _ _)
   | (with_reducible exact ih1 _ _ _)
   | (with_reducible exact LeO.refl _)
   | (with_reducible exact LeO.none _)
   | (with_reducible refine LeO.ite ?_ ?_)
   | (with_reducible refine LeO.bind ?_ (fun _ => ?_))
   | exact ih0 _ _ _
   | exact ih1 _ _ _
   | exact LeO.none _
   | refine LeO.ite ?_ ?_
   | refine LeO.bind ?_ (fun _ => ?_)
theorem sawmilllaw16_few.mono : ∀ a0 a1 k, LeO (sawmilllaw16_few.f k a0 a1) (sawmilllaw16_few.f (k + 1) a0 a1) := by
 intro a0 a1 k;obtain ⟨ih0, ih1⟩ := sawmilllaw16_few.mono_l k;unfold sawmilllaw16_few.f
 repeat' first
   | (with_reducible exact ih0 _ _ _)
   | (with_reducible exact ih1 _ _ _)
   | (with_reducible exact LeO.refl _)
   | (with_reducible exact LeO.none _)
   | (with_reducible refine LeO.ite ?_ ?_)
   | (with_reducible refine LeO.bind ?_ (fun _ => ?_))
   | exact ih0 _ _ _
   | exact ih1 _ _ _
   | exact LeO.none _
   | refine LeO.ite ?_ ?_
   | refine LeO.bind ?_ (fun _ => ?_)
set_option maxHeartbeats 8000000 in
set_option maxRecDepth 100000 in
theorem sawmilllaw16_few.calls (k : Nat) (A0_0 : Option Addr) (c0_0 : Nat) (l0_0 : List (S58)) (A0_1 : Option Addr) (c0_1 : Nat) (l0_1 : List (S48)) (r : Bool) (w : World) (hr0_0 : Kd.C k58 w A0_0 l0_0.length l0_0) (hc0_0 : l0_0.length ≤ c0_0) (hr0_1 : Kd.C k48 w A0_1 l0_1.length l0_1) (hc0_1 : l0_1.length ≤ c0_1) (h : sawmilllaw16_few.f k l0_0 l0_1 = some r) :
  Calls Try.prog 14 #[.agg #[.slice A0_0 l0_0.length c0_0, .slice A0_1 l0_1.length c0_1]] w fun e w' => e = .returned (.bool r) ∧ Below w.heap.size w w' := by
 have hu32 := Try.underlying32;have HR0_0 := Aside0.mk hr0_0;have HC0_0 := Aside0.mk hc0_0;clear hr0_0 hc0_0;have HR0_1 := Aside0.mk hr0_1;have HC0_1 := Aside0.mk hc0_1;clear hr0_1 hc0_1;have HB := A_ (Below.refl w.heap.size w);have H : (if (l0_0.length : Int) > 30 then (sawmilllaw16_few.j0 k true l0_0 l0_1) else (sawmilllaw16_few.j0 k (decide ((l0_1.length : Int) > 100)) l0_0 l0_1)) = some r := h;clear h;have HC2 := Aside0.mk H;clear H;go_enter Try.func14, Try.ntmps14
 go_upto_region 1 with (first | ((with_reducible refine gate_dst (N := 1) rfl ?_); (try (refine gate_guard (by rfl) ?_; dsimp only)); refine bx_ 1 (cs := #[.slice A0_0 l0_0.length c0_0, .slice A0_1 l0_1.length c0_1]) (t := 32) ?_; intro gbq1 hg w3 hbox hb; have BKq1 := A_ hbox; have GWq1 := gz_ (w := w) hg; have GEq1 := gz_ (w := w) hg; replace HB := bA_ hb; clear hb hbox hg))
 (try simp only [Act.put, List.setIfInBounds_toArray, List.set_cons_zero, List.set_cons_succ])
 go_cut [13] (fun v13 wc => ∃ (kq : Nat) (x13_1 : Bool), v13 = .bool x13_1 ∧ Aside0 (sawmilllaw16_few.j0 kq x13_1 l0_0 l0_1 = some r) ∧ Aside0 (kq ≤ k) ∧ Aside0 (wc.heap[gbq1]? = some (.cells #[(.slice A0_0 l0_0.length c0_0), (.slice A0_1 l0_1.length c0_1)] 32 (0, 0))) ∧ Aside0 (Below w.heap.size w wc))
 case first =>
  have H := HC2.out;clear HC2
  by_cases c4 : (l0_0.length : Int) > 30
  ·rw [if_pos c4] at H;have c4b0 : decide (30 < (l0_0.length : Int)) = true := decide_eq_true c4;have c4b1 : decide (30 < l0_0.length) = true := decide_eq_true (by omega);clear c4;(first | rw [c4b0] | (simp only [i64_w, i32_w]; rw [c4b0]) | skip);have H' := Aside0.mk H;clear H;obtain ⟨hcz5_0, hcz5_1, hfz5_0, hfz5_1⟩ := cy2_ BKq1;go_wp2
   go_meet
   case rel => exact ⟨_, (true), rs_, H', ⟨by first | omega | exact Nat.le_refl _⟩, ⟨fb_ BKq1.out⟩, ⟨be_⟩⟩
  ·rw [if_neg c4] at H;have c4b0 : decide (30 < (l0_0.length : Int)) = false := decide_eq_false c4;have c4b1 : decide (30 < l0_0.length) = false := decide_eq_false (by omega);clear c4;(first | rw [c4b0] | (simp only [i64_w, i32_w]; rw [c4b0]) | skip);have H' := Aside0.mk H;clear H;obtain ⟨hcz6_0, hcz6_1, hfz6_0, hfz6_1⟩ := cy2_ BKq1;go_wp2
   go_meet
   case rel => exact ⟨_, (decide ((l0_1.length : Int) > 100)), rs_, H', ⟨by first | omega | exact Nat.le_refl _⟩, ⟨fb_ BKq1.out⟩, ⟨be_⟩⟩
 case rest =>
  clear HC2;(try clear c1);(try clear p2);(try clear c4);(try clear c4b0);(try clear c4b1);(try clear hcz5_0);(try clear hcz5_1);(try clear hcz6_0);(try clear hcz6_1);(try clear hfz5_0);(try clear hfz5_1);(try clear hfz6_0);(try clear hfz6_1);obtain ⟨kq, x13_1, rfl, HA, HJ1, BKq1, HB⟩ := hcut;cases kq with
  | zero => exact absurd HA.out (by simp [sawmilllaw16_few.j0])
  | succ kj1 =>
   have H := HA.out;clear HA;simp only [sawmilllaw16_few.j0] at H
   by_cases c7 : x13_1 = true
   ·subst c7;(have H1 : (some false) = some r := by rw [if_pos rfl] at H; exact H);clear H;have H := H1;clear H1;obtain rfl := Option.some.inj H;go_wp2;go_ret;exact ⟨er_, be_⟩
   ·replace c7 := Bool.eq_false_iff.mpr c7;subst c7;(have H1 : (sawmilllaw16_few.l0 kj1 0 l0_0 l0_1) = some r := by rw [if_neg (show ¬ (false = true) by decide)] at H; exact H);clear H;have H := H1;clear H1;have H' := Aside0.mk H;clear H;go_wp2
    go_loopg [3] kj1 (fun kq v3 w' => ∃ (x3_2 : Int), v3 = .int .i64 x3_2 ∧ Aside0 (sawmilllaw16_few.l0 kq x3_2 l0_0 l0_1 = some r) ∧ Aside0 (kq ≤ kj1) ∧ Aside0 (w'.heap[gbq1]? = some (.cells #[(.slice A0_0 l0_0.length c0_0), (.slice A0_1 l0_1.length c0_1)] 32 (0, 0))) ∧ Aside0 (Below w.heap.size w w'))
    case atStart => exact ⟨(0), rs_, H', ⟨Nat.le_refl _⟩, ⟨fb_ BKq1.out⟩, ⟨be_⟩⟩
    case round =>
     clear H';(try clear c1);(try clear p2);(try clear c4);(try clear c4b0);(try clear c4b1);(try clear c7);(try clear hcz5_0);(try clear hcz5_1);(try clear hcz6_0);(try clear hcz6_1);(try clear hfz5_0);(try clear hfz5_1);(try clear hfz6_0);(try clear hfz6_1);(try clear p2);obtain ⟨x3_2, rfl, HA, HK2, BKq1, HB⟩ := hrel;cases gk with
     | zero => exact absurd HA.out (by simp [sawmilllaw16_few.l0])
     | succ k2 =>
      have H := HA.out;clear HA;simp only [sawmilllaw16_few.l0] at H
      by_cases c8 : x3_2 < (l0_0.length : Int)
      ·rw [if_pos c8] at H;have c8b0 : decide (x3_2 < (l0_0.length : Int)) = true := decide_eq_true c8;clear c8
       by_cases c9 : 0 ≤ x3_2
       ·rw [if_pos c9] at H;have c9b0 : decide (0 ≤ x3_2) = true := decide_eq_true c9;clear c9
        by_cases c10 : (((rd_T58 l0_0 x3_2).f1.f1).length : Int) > 130
        ·rw [if_pos c10] at H;have c10b0 : decide (130 < (((rd_T58 l0_0 x3_2).f1.f1).length : Int)) = true := decide_eq_true c10;have c10b1 : decide (130 < ((rd_T58 l0_0 x3_2).f1.f1).length) = true := decide_eq_true (by omega);clear c10;obtain rfl := Option.some.inj H;obtain ⟨hcz11_0, hcz11_1, hfz11_0, hfz11_1⟩ := cy2_ BKq1;have pq2 : 0 ≤ (x3_2 : Int) := as_;have qq2 : x3_2 < (l0_0.length : Int) := as_;obtain ⟨adq2, Aq2_2, cq2_2, eq2, hxq2_0, hxq2_1, hxq2_2, hlq2_2, hiq2_2⟩ := at_T58 HR0_0.out x3_2 pq2 qq2;cases eq2;replace hxq2_0 := bc_ HB hxq2_0;replace hxq2_1 := bc_ HB hxq2_1;replace hxq2_2 := bc_ HB hxq2_2;have HRq2_2 := Aside0.mk hiq2_2;have HCq2_2 := Aside0.mk hlq2_2;clear hiq2_2 hlq2_2;replace pq2 := eq_true pq2;replace qq2 := eq_true qq2;go_wp2;go_ret;exact ⟨er_, be_⟩
        ·rw [if_neg c10] at H;have c10b0 : decide (130 < (((rd_T58 l0_0 x3_2).f1.f1).length : Int)) = false := decide_eq_false c10;have c10b1 : decide (130 < ((rd_T58 l0_0 x3_2).f1.f1).length) = false := decide_eq_false (by omega);clear c10;have H' := Aside0.mk H;clear H;obtain ⟨hcz12_0, hcz12_1, hfz12_0, hfz12_1⟩ := cy2_ BKq1;have pq2 : 0 ≤ (x3_2 : Int) := as_;have qq2 : x3_2 < (l0_0.length : Int) := as_;obtain ⟨adq2, Aq2_2, cq2_2, eq2, hxq2_0, hxq2_1, hxq2_2, hlq2_2, hiq2_2⟩ := at_T58 HR0_0.out x3_2 pq2 qq2;cases eq2;replace hxq2_0 := bc_ HB hxq2_0;replace hxq2_1 := bc_ HB hxq2_1;replace hxq2_2 := bc_ HB hxq2_2;have HRq2_2 := Aside0.mk hiq2_2;have HCq2_2 := Aside0.mk hlq2_2;clear hiq2_2 hlq2_2;replace pq2 := eq_true pq2;replace qq2 := eq_true qq2;go_wp2
         go_roundg k2
         case measure => have := HJ1.out; have := HK2.out; omega
         case rel => exact ⟨(wrap64 (x3_2 + 1)), rs_, H', ⟨by have := HJ1.out; have := HK2.out; omega⟩, ⟨fb_ BKq1.out⟩, ⟨be_⟩⟩
       ·rw [if_neg c9] at H;exact absurd H (by simp)
      ·rw [if_neg c8] at H;have c8b0 : decide (x3_2 < (l0_0.length : Int)) = false := decide_eq_false c8;clear c8;obtain rfl := Option.some.inj H;obtain ⟨hcz13_0, hcz13_1, hfz13_0, hfz13_1⟩ := cy2_ BKq1;go_wp2;go_ret;exact ⟨er_, be_⟩


mutual
def sawmilllaw16_ClassLonger.j0 : Nat → List (S28) → List (S28) → List (S28) → Bool → List (S58) → List (S48) → Option (Bool)
 | 0, _, _, _, _, _, _ => none
 | k + 1, x0, x1, x7, x19, xq2o0, xq2o1 => if x19 = true then ((sawmilllaw16_awake.f k).bind fun tq2 => (some tq2)) else (if x7.length + x0.length < 1759218604441 then ((some (x7 ++ x0 : List (S28))).bind fun yq3 => (if yq3.length + x1.length < 1759218604441 then ((some (yq3 ++ x1 : List (S28))).bind fun yq6 => ((sawmilllaw16_short.f k yq6).bind fun tq9 => (if tq9 = true then ((sawmilllaw16_few.f k xq2o0 xq2o1).bind fun tq10 => (if tq10 = true then ((class_Check.f k yq6).bind fun tq11 => (sawmilllaw16_ClassLonger.j1 k x0 yq6 (tq11 != 0) xq2o0 xq2o1)) else (sawmilllaw16_ClassLonger.j1 k x0 yq6 true xq2o0 xq2o1))) else (sawmilllaw16_ClassLonger.j1 k x0 yq6 true xq2o0 xq2o1)))) else (none))) else (none))
def sawmilllaw16_ClassLonger.j1 : Nat → List (S28) → List (S28) → Bool → List (S58) → List (S48) → Option (Bool)
 | 0, _, _, _, _, _ => none
 | k + 1, x0, x7, x39, xq2o0, xq2o1 => if x39 = true then ((sawmilllaw16_awake.f k).bind fun tq12 => (some tq12)) else ((class_Of.f k x0 xq2o0 xq2o1).bind fun btq13 => ((class_Of.f k x7 xq2o0 xq2o1).bind fun btq15 => (if btq13.2 = true then (if btq15.2 = true then (if btq15.1 = btq13.1 then ((sawmilllaw16_awake.f k).bind fun tq17 => (some tq17)) else (some false)) else (some false)) else (if btq15.2 = true then (if btq15.1 ≥ (x0.length : Int) then ((sawmilllaw16_awake.f k).bind fun tq18 => (some tq18)) else (some false)) else ((sawmilllaw16_awake.f k).bind fun tq19 => (some tq19))))))
end
def sawmilllaw16_ClassLonger.f (k : Nat) (l0 : List (S28)) (l1 : List (S28)) (l2_0 : List (S58)) (l2_1 : List (S48)) : Option (Bool) := if (l0.length : Int) > 20 then (sawmilllaw16_ClassLonger.j0 k l0 l1 ([] : List (S28)) true l2_0 l2_1) else (sawmilllaw16_ClassLonger.j0 k l0 l1 ([] : List (S28)) (decide ((l1.length : Int) > 20)) l2_0 l2_1)
theorem sawmilllaw16_ClassLonger.mono_l : ∀ k, (∀ y0 y1 y2 y3 y4 y5, LeO (sawmilllaw16_ClassLonger.j0 k y0 y1 y2 y3 y4 y5) (sawmilllaw16_ClassLonger.j0 (k + 1) y0 y1 y2 y3 y4 y5)) ∧ (∀ y0 y1 y2 y3 y4, LeO (sawmilllaw16_ClassLonger.j1 k y0 y1 y2 y3 y4) (sawmilllaw16_ClassLonger.j1 (k + 1) y0 y1 y2 y3 y4))
 | 0 => ⟨fun _ _ _ _ _ _ r h => by simp [sawmilllaw16_ClassLonger.j0] at h, fun _ _ _ _ _ r h => by simp [sawmilllaw16_ClassLonger.j1] at h⟩
 | k + 1 => by
  obtain ⟨ih0, ih1⟩ := sawmilllaw16_ClassLonger.mono_l k;refine ⟨?_, ?_⟩
  ·intro y0 y1 y2 y3 y4 y5;unfold sawmilllaw16_ClassLonger.j0
   repeat' first
   | (with_reducible exact ih0 _ _ _ _ _ _)
   | (with_reducible exact ih1 _ _ _ _ _)
   | (with_reducible exact class_Check.mono _ _)
   | (with_reducible exact class_Of.mono _ _ _ _)
   | (with_reducible exact sawmilllaw16_awake.mono _)
   | (with_reducible exact sawmilllaw16_few.mono _ _ _)
   | (with_reducible exact sawmilllaw16_short.mono _ _)
   | (with_reducible exact LeO.refl _)
   | (with_reducible exact LeO.none _)
   | (with_reducible refine LeO.ite ?_ ?_)
   | (with_reducible refine LeO.bind ?_ (fun _ => ?_))
   | exact ih0 _ _ _ _ _ _
   | exact ih1 _ _ _ _ _
   | exact class_Check.mono _ _
   | exact class_Of.mono _ _ _ _
   | exact sawmilllaw16_awake.mono _
   | exact sawmilllaw16_few.mono _ _ _
   | exact sawmilllaw16_short.mono _ _
   | exact LeO.none _
   | refine LeO.ite ?_ ?_
   | refine LeO.bind ?_ (fun _ => ?_)
  ·intro y0 y1 y2 y3 y4;unfold sawmilllaw16_ClassLonger.j1
   repeat' first
   | (with_reducible exact ih0 _ _ _ _ _ _)
   | (with_reducible exact ih1 _ _ _ _ _)
   | (with_reducible exact class_Check.mono _ _)
   | (with_reducible exact class_Of.mono _ _ _ _)
   | (with_reducible exact sawmilllaw16_awake.mono _)
   | (with_reducible exact sawmilllaw16_few.mono _ _ _)
   | (with_reducible exact sawmilllaw16_short.mono _ _)
   | (with_reducible exact LeO.refl _)
   | (with_reducible exact LeO.none _)
   | (with_reducible refine LeO.ite ?_ ?_)
   | (with_reducible refine LeO.bind ?_ (fun _ => ?_))
   | exact ih0 _ _ _ _ _ _
   | exact ih1 _ _ _ _ _
   | exact class_Check.mono _ _
   | exact class_Of.mono _ _ _ _
   | exact sawmilllaw16_awake.mono _
   | exact sawmilllaw16_few.mono _ _ _
   | exact sawmilllaw16_short.mono _ _
   | exact LeO.none _
   | refine LeO.ite ?_ ?_
   | refine LeO.bind ?_ (fun _ => ?_)
theorem sawmilllaw16_ClassLonger.mono : ∀ a0 a1 a2 a3 k, LeO (sawmilllaw16_ClassLonger.f k a0 a1 a2 a3) (sawmilllaw16_ClassLonger.f (k + 1) a0 a1 a2 a3) := by
 intro a0 a1 a2 a3 k;obtain ⟨ih0, ih1⟩ := sawmilllaw16_ClassLonger.mono_l k;unfold sawmilllaw16_ClassLonger.f
 repeat' first
   | (with_reducible exact ih0 _ _ _ _ _ _)
   | (with_reducible exact ih1 _ _ _ _ _)
   | (with_reducible exact class_Check.mono _ _)
   | (with_reducible exact class_Of.mono _ _ _ _)
   | (with_reducible exact sawmilllaw16_awake.mono _)
   | (with_reducible exact sawmilllaw16_few.mono _ _ _)
   | (with_reducible exact sawmilllaw16_short.mono _ _)
   | (with_reducible exact LeO.refl _)
   | (with_reducible exact LeO.none _)
   | (with_reducible refine LeO.ite ?_ ?_)
   | (with_reducible refine LeO.bind ?_ (fun _ => ?_))
   | exact ih0 _ _ _ _ _ _
   | exact ih1 _ _ _ _ _
   | exact class_Check.mono _ _
   | exact class_Of.mono _ _ _ _
   | exact sawmilllaw16_awake.mono _
   | exact sawmilllaw16_few.mono _ _ _
   | exact sawmilllaw16_short.mono _ _
   | exact LeO.none _
   | refine LeO.ite ?_ ?_
   | refine LeO.bind ?_ (fun _ => ?_)
set_option maxHeartbeats 8000000 in
set_option maxRecDepth 100000 in
theorem sawmilllaw16_ClassLonger.calls (k : Nat) (A0 : Option Addr) (c0 : Nat) (l0 : List (S28)) (A1 : Option Addr) (c1 : Nat) (l1 : List (S28)) (A2_0 : Option Addr) (c2_0 : Nat) (l2_0 : List (S58)) (A2_1 : Option Addr) (c2_1 : Nat) (l2_1 : List (S48)) (r : Bool) (w : World) (hr0 : Kd.C k28 w A0 l0.length l0) (hc0 : l0.length ≤ c0) (hr1 : Kd.C k28 w A1 l1.length l1) (hc1 : l1.length ≤ c1) (hr2_0 : Kd.C k58 w A2_0 l2_0.length l2_0) (hc2_0 : l2_0.length ≤ c2_0) (hr2_1 : Kd.C k48 w A2_1 l2_1.length l2_1) (hc2_1 : l2_1.length ≤ c2_1) (h : sawmilllaw16_ClassLonger.f k l0 l1 l2_0 l2_1 = some r) :
  Calls Try.prog 9 #[.slice A0 l0.length c0, .slice A1 l1.length c1, .agg #[.slice A2_0 l2_0.length c2_0, .slice A2_1 l2_1.length c2_1]] w fun e w' => e = .returned (.bool r) ∧ Below w.heap.size w w' := by
 have hu32 := Try.underlying32;have HR0 := Aside0.mk hr0;have HC0 := Aside0.mk hc0;clear hr0 hc0;have HR1 := Aside0.mk hr1;have HC1 := Aside0.mk hc1;clear hr1 hc1;have HR2_0 := Aside0.mk hr2_0;have HC2_0 := Aside0.mk hc2_0;clear hr2_0 hc2_0;have HR2_1 := Aside0.mk hr2_1;have HC2_1 := Aside0.mk hc2_1;clear hr2_1 hc2_1;have HB := A_ (Below.refl w.heap.size w);have H : (if (l0.length : Int) > 20 then (sawmilllaw16_ClassLonger.j0 k l0 l1 ([] : List (S28)) true l2_0 l2_1) else (sawmilllaw16_ClassLonger.j0 k l0 l1 ([] : List (S28)) (decide ((l1.length : Int) > 20)) l2_0 l2_1)) = some r := h;clear h;have HC4 := Aside0.mk H;clear H;go_enter Try.func9, Try.ntmps9
 go_upto_region 2 with (first | ((with_reducible refine gate_dst (N := 5) rfl ?_); (try (refine gate_guard (by rfl) ?_; dsimp only)); refine bx_ 5 (cs := #[.slice A2_0 l2_0.length c2_0, .slice A2_1 l2_1.length c2_1]) (t := 32) ?_; intro gbq1 hg w5 hbox hb; have BKq1 := A_ hbox; have GWq1 := gz_ (w := w) hg; have GEq1 := gz_ (w := w) hg; replace HB := bA_ hb; clear hb hbox hg))
 (try simp only [Act.put, List.setIfInBounds_toArray, List.set_cons_zero, List.set_cons_succ])
 go_cut [19] (fun v19 wc => ∃ (kq : Nat) (x19_3 : Bool), v19 = .bool x19_3 ∧ Aside0 (sawmilllaw16_ClassLonger.j0 kq l0 l1 ([] : List (S28)) x19_3 l2_0 l2_1 = some r) ∧ Aside0 (kq ≤ k) ∧ Aside0 (Kd.R k28 28 wc w.heap.size (fun _ => True) (.slice none 0 0) ([] : List (S28))) ∧ Aside0 (wc.heap[gbq1]? = some (.cells #[(.slice A2_0 l2_0.length c2_0), (.slice A2_1 l2_1.length c2_1)] 32 (0, 0))) ∧ Aside0 (Below w.heap.size w wc))
 case first =>
  have H := HC4.out;clear HC4
  by_cases c6 : (l0.length : Int) > 20
  ·rw [if_pos c6] at H;have c6b0 : decide (20 < (l0.length : Int)) = true := decide_eq_true c6;have c6b1 : decide (20 < l0.length) = true := decide_eq_true (by omega);clear c6;(first | rw [c6b0] | (simp only [i64_w, i32_w]; rw [c6b0]) | skip);have H' := Aside0.mk H;clear H;go_wp2
   go_meet
   case rel => exact ⟨_, (true), rs_, H', ⟨by first | omega | exact Nat.le_refl _⟩, ⟨by first | exact Kd.R_nil _ _ _ _ _ | exact Kd.N_nil _ _ _ _ _ | exact Kd.V_nil _ _ _ _ _ | exact Kd.Q_nil _ _ _ _ _ | exact Kd.S_nil _ _ _ _ _⟩, ⟨fb_ BKq1.out⟩, ⟨be_⟩⟩
  ·rw [if_neg c6] at H;have c6b0 : decide (20 < (l0.length : Int)) = false := decide_eq_false c6;have c6b1 : decide (20 < l0.length) = false := decide_eq_false (by omega);clear c6;(first | rw [c6b0] | (simp only [i64_w, i32_w]; rw [c6b0]) | skip);have H' := Aside0.mk H;clear H;go_wp2
   go_meet
   case rel => exact ⟨_, (decide ((l1.length : Int) > 20)), rs_, H', ⟨by first | omega | exact Nat.le_refl _⟩, ⟨by first | exact Kd.R_nil _ _ _ _ _ | exact Kd.N_nil _ _ _ _ _ | exact Kd.V_nil _ _ _ _ _ | exact Kd.Q_nil _ _ _ _ _ | exact Kd.S_nil _ _ _ _ _⟩, ⟨fb_ BKq1.out⟩, ⟨be_⟩⟩
 case rest =>
  clear HC4;(try clear c1);(try clear c2);(try clear p2);(try clear c6);(try clear c6b0);(try clear c6b1);obtain ⟨kq, x19_3, rfl, HA, HJ3, HO_7, BKq1, HB⟩ := hcut;cases kq with
  | zero => exact absurd HA.out (by simp [sawmilllaw16_ClassLonger.j0])
  | succ kj3 =>
   have H := HA.out;clear HA;simp only [sawmilllaw16_ClassLonger.j0] at H
   by_cases c7 : x19_3 = true
   ·subst c7;(have H1 : ((sawmilllaw16_awake.f kj3).bind fun tq2 => (some tq2)) = some r := by rw [if_pos rfl] at H; exact H);clear H;have H := H1;clear H1;replace H := Option.bind_eq_some_iff.mp H;obtain ⟨tq2, A80, H⟩ := H;replace H : (some tq2) = some r := H;have A8 := Aside0.mk A80;clear A80;obtain rfl := Option.some.inj H;go_wp2_with (first | ((with_reducible refine gate_callee (f := 13) rfl ?_); refine goesL_ (some 20) rfl rfl Try.func13 (by kernel_rfl) rfl #[] rfl la_ ?_; (with_reducible refine (sawmilllaw16_awake.calls kj3  tq2 _ A8.out).mono ?_); rintro e w9 ⟨rfl, hb⟩; refine ⟨_, rfl, ?_⟩; replace HO_7 := kR_ HO_7 hb; replace BKq1 := bb_ BKq1 hb; replace HB := bA_ hb; (try clear hb)));go_ret;exact ⟨er_, be_⟩
   ·replace c7 := Bool.eq_false_iff.mpr c7;subst c7;(have H1 : (if ([] : List (S28)).length + l0.length < 1759218604441 then ((some (([] : List (S28)) ++ l0 : List (S28))).bind fun yq3 => (if yq3.length + l1.length < 1759218604441 then ((some (yq3 ++ l1 : List (S28))).bind fun yq6 => ((sawmilllaw16_short.f kj3 yq6).bind fun tq9 => (if tq9 = true then ((sawmilllaw16_few.f kj3 l2_0 l2_1).bind fun tq10 => (if tq10 = true then ((class_Check.f kj3 yq6).bind fun tq11 => (sawmilllaw16_ClassLonger.j1 kj3 l0 yq6 (tq11 != 0) l2_0 l2_1)) else (sawmilllaw16_ClassLonger.j1 kj3 l0 yq6 true l2_0 l2_1))) else (sawmilllaw16_ClassLonger.j1 kj3 l0 yq6 true l2_0 l2_1)))) else (none))) else (none)) = some r := by rw [if_neg (show ¬ (false = true) by decide)] at H; exact H);clear H;have H := H1;clear H1
    by_cases c10 : ([] : List (S28)).length + l0.length < 1759218604441
    ·rw [if_pos c10] at H;have LMc10 := Aside0.mk c10;clear c10;obtain ⟨yq3, hyq3⟩ : ∃ y_ : List (S28), y_ = (([] : List (S28)) ++ l0) := ⟨_, rfl⟩;(replace H : (if yq3.length + l1.length < 1759218604441 then ((some (yq3 ++ l1 : List (S28))).bind fun yq6 => ((sawmilllaw16_short.f kj3 yq6).bind fun tq9 => (if tq9 = true then ((sawmilllaw16_few.f kj3 l2_0 l2_1).bind fun tq10 => (if tq10 = true then ((class_Check.f kj3 yq6).bind fun tq11 => (sawmilllaw16_ClassLonger.j1 kj3 l0 yq6 (tq11 != 0) l2_0 l2_1)) else (sawmilllaw16_ClassLonger.j1 kj3 l0 yq6 true l2_0 l2_1))) else (sawmilllaw16_ClassLonger.j1 kj3 l0 yq6 true l2_0 l2_1)))) else (none)) = some r := by first | (rw [hyq3]; with_reducible exact H) | (have H2_ := (Option.bind_some _ _).symm.trans H; rw [hyq3]; with_reducible exact H2_) | (have H2_ := (Option.bind_some _ _).symm.trans H; with_reducible exact H2_) | with_reducible exact H | (rw [hyq3]; exact H) | exact H);have Nyq3 := Aside0.mk hyq3;clear hyq3
     by_cases c11 : yq3.length + l1.length < 1759218604441
     ·rw [if_pos c11] at H;have LMc11 := Aside0.mk c11;clear c11;obtain ⟨yq6, hyq6⟩ : ∃ y_ : List (S28), y_ = (yq3 ++ l1) := ⟨_, rfl⟩;(replace H : ((sawmilllaw16_short.f kj3 yq6).bind fun tq9 => (if tq9 = true then ((sawmilllaw16_few.f kj3 l2_0 l2_1).bind fun tq10 => (if tq10 = true then ((class_Check.f kj3 yq6).bind fun tq11 => (sawmilllaw16_ClassLonger.j1 kj3 l0 yq6 (tq11 != 0) l2_0 l2_1)) else (sawmilllaw16_ClassLonger.j1 kj3 l0 yq6 true l2_0 l2_1))) else (sawmilllaw16_ClassLonger.j1 kj3 l0 yq6 true l2_0 l2_1))) = some r := by first | (rw [hyq6]; with_reducible exact H) | (have H2_ := (Option.bind_some _ _).symm.trans H; rw [hyq6]; with_reducible exact H2_) | (have H2_ := (Option.bind_some _ _).symm.trans H; with_reducible exact H2_) | with_reducible exact H | (rw [hyq6]; exact H) | exact H);have Nyq6 := Aside0.mk hyq6;clear hyq6;have HC12 := Aside0.mk H;clear H
      go_upto_region 6 with (first | ((with_reducible refine gate_builtin (b := .append) (xs := #[.tmp 21, .tmp 22]) rfl ?_); (try (refine gate_guard (by rfl) ?_; dsimp only)); at_builtin; refine Kd.R_append_rows k28 (w0 := w) w.heap.size rfl (.tmp 21) (.tmp 22) 22 28 (.agg #[(.string ⟨#[]⟩), (.int .i64 0), (.int .i64 0), (.int .i64 0), (.int .i64 0), (.int .i64 0), (.int .i64 0), (.int .i64 0), (.int .i64 0)]) 80 rfl Try.underlying22 info28 rfl (by decide) (by omega) (.slice none 0 0) ([] : List (S28)) l0 _ _ _ (fun _ => True) (fun _ => False) rfl rfl ?aO ?aR (fun _ _ h => h) (fun _ h => h.elim) ?aF ?aB ?aS ?aL ?_; (case aR => repeat (first | exact (Kd.C_below HR0.out HB.out) | (with_reducible refine Kd.C_alloc ?_ _) | (with_reducible refine Kd.C_drewN ?_ _) | (with_reducible refine Kd.C_drew ?_))); (case aB => exact be_); (case aF => exact (fun _ _ => trivial)); (case aO => exact (fR_ HO_7.out)); (case aS => exact bz_); (case aL => have := LMc10.out; omega); intro vq4 w13 ho hb hg hat; rw [← Nyq3.out] at ho; have n0_ := A_ (blk_grown (g := gbq1) (o := .cells #[.slice A2_0 l2_0.length c2_0, .slice A2_1 l2_1.length c2_1] 32 (0, 0)) (fb_ BKq1.out) hg (Kd.R_ne HO_7.out BKq1.out (by decide))); have n1_ := A_ (hb); have n2_ := A_ (ho); clear BKq1 HB HO_7; have BKq1 := n0_; have HB := n1_; have HOq5 := n2_; clear n0_ n1_ n2_; clear ho hb hg hat) | ((with_reducible refine gate_builtin (b := .append) (xs := #[.tmp 24, .tmp 25]) rfl ?_); (try (refine gate_guard (by rfl) ?_; dsimp only)); at_builtin; refine Kd.R_append_rows k28 (w0 := w) w.heap.size rfl (.tmp 24) (.tmp 25) 22 28 (.agg #[(.string ⟨#[]⟩), (.int .i64 0), (.int .i64 0), (.int .i64 0), (.int .i64 0), (.int .i64 0), (.int .i64 0), (.int .i64 0), (.int .i64 0)]) 80 rfl Try.underlying22 info28 rfl (by decide) (by omega) vq4 yq3 l1 _ _ _ (fun _ => True) (fun _ => False) rfl rfl ?aO ?aR (fun _ _ h => h) (fun _ h => h.elim) ?aF ?aB ?aS ?aL ?_; (case aR => repeat (first | exact (Kd.C_below HR1.out HB.out) | (with_reducible refine Kd.C_alloc ?_ _) | (with_reducible refine Kd.C_drewN ?_ _) | (with_reducible refine Kd.C_drew ?_))); (case aB => exact be_); (case aF => exact (fun _ _ => trivial)); (case aO => exact (fR_ HOq5.out)); (case aS => exact bz_); (case aL => have := LMc11.out; omega); intro vq7 w14 ho hb hg hat; rw [← Nyq6.out] at ho; have n0_ := A_ (blk_grown (g := gbq1) (o := .cells #[.slice A2_0 l2_0.length c2_0, .slice A2_1 l2_1.length c2_1] 32 (0, 0)) (fb_ BKq1.out) hg (Kd.R_ne HOq5.out BKq1.out (by decide))); have n1_ := A_ (hb); have n2_ := A_ (ho); clear BKq1 HB HOq5; have BKq1 := n0_; have HB := n1_; have HOq8 := n2_; clear n0_ n1_ n2_; clear ho hb hg hat))
      (try simp only [Act.put, List.setIfInBounds_toArray, List.set_cons_zero, List.set_cons_succ])
      go_cut [39] (fun v39 wc => ∃ (kq : Nat) (x39_11 : Bool), v39 = .bool x39_11 ∧ Aside0 (sawmilllaw16_ClassLonger.j1 kq l0 yq6 x39_11 l2_0 l2_1 = some r) ∧ Aside0 (kq ≤ kj3) ∧ Aside0 (Kd.R k28 28 wc w.heap.size (fun _ => True) vq7 yq6) ∧ Aside0 (wc.heap[gbq1]? = some (.cells #[(.slice A2_0 l2_0.length c2_0), (.slice A2_1 l2_1.length c2_1)] 32 (0, 0))) ∧ Aside0 (Below w.heap.size w wc))
      case first =>
       have H := HC12.out;clear HC12;replace H := Option.bind_eq_some_iff.mp H;obtain ⟨tq9, A150, H⟩ := H;replace H : (if tq9 = true then ((sawmilllaw16_few.f kj3 l2_0 l2_1).bind fun tq10 => (if tq10 = true then ((class_Check.f kj3 yq6).bind fun tq11 => (sawmilllaw16_ClassLonger.j1 kj3 l0 yq6 (tq11 != 0) l2_0 l2_1)) else (sawmilllaw16_ClassLonger.j1 kj3 l0 yq6 true l2_0 l2_1))) else (sawmilllaw16_ClassLonger.j1 kj3 l0 yq6 true l2_0 l2_1)) = some r := H;have A15 := Aside0.mk A150;clear A150
       by_cases c16 : tq9 = true
       ·subst c16;(have H1 : ((sawmilllaw16_few.f kj3 l2_0 l2_1).bind fun tq10 => (if tq10 = true then ((class_Check.f kj3 yq6).bind fun tq11 => (sawmilllaw16_ClassLonger.j1 kj3 l0 yq6 (tq11 != 0) l2_0 l2_1)) else (sawmilllaw16_ClassLonger.j1 kj3 l0 yq6 true l2_0 l2_1))) = some r := by rw [if_pos rfl] at H; exact H);clear H;have H := H1;clear H1;replace H := Option.bind_eq_some_iff.mp H;obtain ⟨tq10, A170, H⟩ := H;replace H : (if tq10 = true then ((class_Check.f kj3 yq6).bind fun tq11 => (sawmilllaw16_ClassLonger.j1 kj3 l0 yq6 (tq11 != 0) l2_0 l2_1)) else (sawmilllaw16_ClassLonger.j1 kj3 l0 yq6 true l2_0 l2_1)) = some r := H;have A17 := Aside0.mk A170;clear A170
        by_cases c18 : tq10 = true
        ·subst c18;(have H1 : ((class_Check.f kj3 yq6).bind fun tq11 => (sawmilllaw16_ClassLonger.j1 kj3 l0 yq6 (tq11 != 0) l2_0 l2_1)) = some r := by rw [if_pos rfl] at H; exact H);clear H;have H := H1;clear H1;replace H := Option.bind_eq_some_iff.mp H;obtain ⟨tq11, A190, H⟩ := H;replace H : (sawmilllaw16_ClassLonger.j1 kj3 l0 yq6 (tq11 != 0) l2_0 l2_1) = some r := H;have A19 := Aside0.mk A190;clear A190;have H' := Aside0.mk H;clear H;obtain ⟨Ao20, co20, eo20⟩ := Kd.R_slice HOq8.out;subst eo20;go_wp2_with (first | ((with_reducible refine gate_callee (f := 10) rfl ?_); refine goesL_ (some 28) rfl rfl Try.func10 (by kernel_rfl) rfl #[.slice Ao20 yq6.length co20] rfl la_ ?_; (with_reducible refine (sawmilllaw16_short.calls kj3 _ _ yq6 true _ ?side1 ?side2 A15.out).mono ?_); (case side1 => exact csC_ ((Kd.R_reads' HOq8.out).2.2)); (case side2 => exact (Kd.R_reads' HOq8.out).2.1); rintro e w' ⟨rfl, ⟨nd, rfl⟩⟩; refine ⟨_, rfl, ?_⟩; obtain ⟨hcz21_0, hcz21_1, hfz21_0, hfz21_1⟩ := cy2_ BKq1) | (go_at_call 14; (with_reducible refine (sawmilllaw16_few.calls kj3 _ _ l2_0 _ _ l2_1 true _ ?side1 ?side2 ?side3 ?side4 A17.out).mono ?_); (case side1 => exact csC_ ((Kd.C_below HR2_0.out be_))); (case side2 => exact HC2_0.out); (case side3 => exact csC_ ((Kd.C_below HR2_1.out be_))); (case side4 => exact HC2_1.out); rintro e w22 ⟨rfl, hb⟩; replace HOq8 := kR_ HOq8 hb; replace BKq1 := bb_ BKq1 hb; replace HB := bA_ hb; (try clear hb)) | (go_at_call 11; (with_reducible refine (class_Check.calls kj3 _ _ yq6 tq11 _ ?side1 ?side2 A19.out).mono ?_); (case side1 => exact csC_ ((Kd.R_reads' HOq8.out).2.2)); (case side2 => exact (Kd.R_reads' HOq8.out).2.1); rintro e w23 ⟨rfl, hb⟩; replace HOq8 := kR_ HOq8 hb; replace BKq1 := bb_ BKq1 hb; replace HB := bA_ hb; (try clear hb)))
         go_meet
         case rel => exact ⟨_, ((tq11 != 0)), rs_, H', ⟨by have := HJ3.out; first | omega | exact Nat.le_refl _⟩, ⟨fR_ HOq8.out⟩, ⟨fb_ BKq1.out⟩, ⟨be_⟩⟩
        ·replace c18 := Bool.eq_false_iff.mpr c18;subst c18;(have H1 : (sawmilllaw16_ClassLonger.j1 kj3 l0 yq6 true l2_0 l2_1) = some r := by rw [if_neg (show ¬ (false = true) by decide)] at H; exact H);clear H;have H := H1;clear H1;have H' := Aside0.mk H;clear H;obtain ⟨Ao24, co24, eo24⟩ := Kd.R_slice HOq8.out;subst eo24;go_wp2_with (first | ((with_reducible refine gate_callee (f := 10) rfl ?_); refine goesL_ (some 28) rfl rfl Try.func10 (by kernel_rfl) rfl #[.slice Ao24 yq6.length co24] rfl la_ ?_; (with_reducible refine (sawmilllaw16_short.calls kj3 _ _ yq6 true _ ?side1 ?side2 A15.out).mono ?_); (case side1 => exact csC_ ((Kd.R_reads' HOq8.out).2.2)); (case side2 => exact (Kd.R_reads' HOq8.out).2.1); rintro e w' ⟨rfl, ⟨nd, rfl⟩⟩; refine ⟨_, rfl, ?_⟩; obtain ⟨hcz25_0, hcz25_1, hfz25_0, hfz25_1⟩ := cy2_ BKq1) | (go_at_call 14; (with_reducible refine (sawmilllaw16_few.calls kj3 _ _ l2_0 _ _ l2_1 false _ ?side1 ?side2 ?side3 ?side4 A17.out).mono ?_); (case side1 => exact csC_ ((Kd.C_below HR2_0.out be_))); (case side2 => exact HC2_0.out); (case side3 => exact csC_ ((Kd.C_below HR2_1.out be_))); (case side4 => exact HC2_1.out); rintro e w26 ⟨rfl, hb⟩; replace HOq8 := kR_ HOq8 hb; replace BKq1 := bb_ BKq1 hb; replace HB := bA_ hb; (try clear hb)))
         go_meet
         case rel => exact ⟨_, (true), rs_, H', ⟨by have := HJ3.out; first | omega | exact Nat.le_refl _⟩, ⟨fR_ HOq8.out⟩, ⟨fb_ BKq1.out⟩, ⟨be_⟩⟩
       ·replace c16 := Bool.eq_false_iff.mpr c16;subst c16;(have H1 : (sawmilllaw16_ClassLonger.j1 kj3 l0 yq6 true l2_0 l2_1) = some r := by rw [if_neg (show ¬ (false = true) by decide)] at H; exact H);clear H;have H := H1;clear H1;have H' := Aside0.mk H;clear H;obtain ⟨Ao27, co27, eo27⟩ := Kd.R_slice HOq8.out;subst eo27;go_wp2_with (first | ((with_reducible refine gate_callee (f := 10) rfl ?_); refine goesL_ (some 28) rfl rfl Try.func10 (by kernel_rfl) rfl #[.slice Ao27 yq6.length co27] rfl la_ ?_; (with_reducible refine (sawmilllaw16_short.calls kj3 _ _ yq6 false _ ?side1 ?side2 A15.out).mono ?_); (case side1 => exact csC_ ((Kd.R_reads' HOq8.out).2.2)); (case side2 => exact (Kd.R_reads' HOq8.out).2.1); rintro e w' ⟨rfl, ⟨nd, rfl⟩⟩; refine ⟨_, rfl, ?_⟩))
        go_meet
        case rel => exact ⟨_, (true), rs_, H', ⟨by have := HJ3.out; first | omega | exact Nat.le_refl _⟩, ⟨fR_ HOq8.out⟩, ⟨fb_ BKq1.out⟩, ⟨be_⟩⟩
      case rest =>
       clear HC12;(try clear c1);(try clear c2);(try clear p2);(try clear c6);(try clear c6b0);(try clear c6b1);(try clear c7);(try clear c9);(try clear c10);(try clear c11);(try clear c13);(try clear c16);(try clear c18);(try clear hcz21_0);(try clear hcz21_1);(try clear hcz25_0);(try clear hcz25_1);(try clear hfz21_0);(try clear hfz21_1);(try clear hfz25_0);(try clear hfz25_1);(try clear p2);obtain ⟨kq, x39_11, rfl, HA, HJ11, HO_7, BKq1, HB⟩ := hcut;cases kq with
       | zero => exact absurd HA.out (by simp [sawmilllaw16_ClassLonger.j1])
       | succ kj11 =>
        have H := HA.out;clear HA;simp only [sawmilllaw16_ClassLonger.j1] at H
        by_cases c28 : x39_11 = true
        ·subst c28;(have H1 : ((sawmilllaw16_awake.f kj11).bind fun tq12 => (some tq12)) = some r := by rw [if_pos rfl] at H; exact H);clear H;have H := H1;clear H1;replace H := Option.bind_eq_some_iff.mp H;obtain ⟨tq12, A290, H⟩ := H;replace H : (some tq12) = some r := H;have A29 := Aside0.mk A290;clear A290;obtain rfl := Option.some.inj H;go_wp2_with (first | ((with_reducible refine gate_callee (f := 13) rfl ?_); refine goesL_ (some 40) rfl rfl Try.func13 (by kernel_rfl) rfl #[] rfl la_ ?_; (with_reducible refine (sawmilllaw16_awake.calls kj11  tq12 _ A29.out).mono ?_); rintro e w30 ⟨rfl, hb⟩; refine ⟨_, rfl, ?_⟩; replace HO_7 := kR_ HO_7 hb; replace BKq1 := bb_ BKq1 hb; replace HB := bA_ hb; (try clear hb)));go_ret;exact ⟨er_, be_⟩
        ·replace c28 := Bool.eq_false_iff.mpr c28;subst c28;(have H1 : ((class_Of.f kj11 l0 l2_0 l2_1).bind fun btq13 => ((class_Of.f kj11 yq6 l2_0 l2_1).bind fun btq15 => (if btq13.2 = true then (if btq15.2 = true then (if btq15.1 = btq13.1 then ((sawmilllaw16_awake.f kj11).bind fun tq17 => (some tq17)) else (some false)) else (some false)) else (if btq15.2 = true then (if btq15.1 ≥ (l0.length : Int) then ((sawmilllaw16_awake.f kj11).bind fun tq18 => (some tq18)) else (some false)) else ((sawmilllaw16_awake.f kj11).bind fun tq19 => (some tq19)))))) = some r := by rw [if_neg (show ¬ (false = true) by decide)] at H; exact H);clear H;have H := H1;clear H1;replace H := Option.bind_eq_some_iff.mp H;obtain ⟨⟨tq13, tq14⟩, A310, H⟩ := H;replace H : ((class_Of.f kj11 yq6 l2_0 l2_1).bind fun btq15 => (if tq14 = true then (if btq15.2 = true then (if btq15.1 = tq13 then ((sawmilllaw16_awake.f kj11).bind fun tq17 => (some tq17)) else (some false)) else (some false)) else (if btq15.2 = true then (if btq15.1 ≥ (l0.length : Int) then ((sawmilllaw16_awake.f kj11).bind fun tq18 => (some tq18)) else (some false)) else ((sawmilllaw16_awake.f kj11).bind fun tq19 => (some tq19))))) = some r := H;have A31 := Aside0.mk A310;clear A310;replace H := Option.bind_eq_some_iff.mp H;obtain ⟨⟨tq15, tq16⟩, A320, H⟩ := H;replace H : (if tq14 = true then (if tq16 = true then (if tq15 = tq13 then ((sawmilllaw16_awake.f kj11).bind fun tq17 => (some tq17)) else (some false)) else (some false)) else (if tq16 = true then (if tq15 ≥ (l0.length : Int) then ((sawmilllaw16_awake.f kj11).bind fun tq18 => (some tq18)) else (some false)) else ((sawmilllaw16_awake.f kj11).bind fun tq19 => (some tq19)))) = some r := H;have A32 := Aside0.mk A320;clear A320
         by_cases c33 : tq14 = true
         ·subst c33;(have H1 : (if tq16 = true then (if tq15 = tq13 then ((sawmilllaw16_awake.f kj11).bind fun tq17 => (some tq17)) else (some false)) else (some false)) = some r := by rw [if_pos rfl] at H; exact H);clear H;have H := H1;clear H1
          by_cases c34 : tq16 = true
          ·subst c34;(have H1 : (if tq15 = tq13 then ((sawmilllaw16_awake.f kj11).bind fun tq17 => (some tq17)) else (some false)) = some r := by rw [if_pos rfl] at H; exact H);clear H;have H := H1;clear H1
           by_cases c35 : tq15 = tq13
           ·rw [if_pos c35] at H;have c35b0 : (tq15 == tq13) = true := beq_iff_eq.mpr c35;have c35b1 : (tq15 != tq13) = false := bne_eq_false_iff_eq.mpr c35;clear c35;replace H := Option.bind_eq_some_iff.mp H;obtain ⟨tq17, A360, H⟩ := H;replace H : (some tq17) = some r := H;have A36 := Aside0.mk A360;clear A360;obtain rfl := Option.some.inj H;obtain ⟨hcz37_0, hcz37_1, hfz37_0, hfz37_1⟩ := cy2_ BKq1;go_wp2_with (first | ((with_reducible refine gate_callee (f := 17) rfl ?_); refine goesL_ (some 47) rfl rfl Try.func17 (by kernel_rfl) rfl #[.slice A0 l0.length c0, .slice A2_0 l2_0.length c2_0, .slice A2_1 l2_1.length c2_1] rfl la_ ?_; (with_reducible refine (class_Of.calls kj11 _ _ l0 _ _ l2_0 _ _ l2_1 tq13 true _ ?side1 ?side2 ?side3 ?side4 ?side5 ?side6 A31.out).mono ?_); (case side1 => exact csC_ ((Kd.C_below HR0.out HB.out))); (case side2 => exact HC0.out); (case side3 => exact csC_ ((Kd.C_below HR2_0.out HB.out))); (case side4 => exact HC2_0.out); (case side5 => exact csC_ ((Kd.C_below HR2_1.out HB.out))); (case side6 => exact HC2_1.out); rintro e w38 ⟨rfl, hb⟩; refine ⟨_, rfl, ?_⟩; replace HO_7 := kR_ HO_7 hb; replace BKq1 := bb_ BKq1 hb; replace HB := bA_ hb; (try clear hb); obtain ⟨hcz39_0, hcz39_1, hfz39_0, hfz39_1⟩ := cy2_ BKq1; obtain ⟨Ao40, co40, eo40⟩ := Kd.R_slice HO_7.out; subst eo40) | ((with_reducible refine gate_callee (f := 17) rfl ?_); refine goesL_ (some 56) rfl rfl Try.func17 (by kernel_rfl) rfl #[.slice Ao40 yq6.length co40, .slice A2_0 l2_0.length c2_0, .slice A2_1 l2_1.length c2_1] rfl la_ ?_; (with_reducible refine (class_Of.calls kj11 _ _ yq6 _ _ l2_0 _ _ l2_1 tq15 true _ ?side1 ?side2 ?side3 ?side4 ?side5 ?side6 A32.out).mono ?_); (case side1 => exact csC_ ((Kd.R_reads' HO_7.out).2.2)); (case side2 => exact (Kd.R_reads' HO_7.out).2.1); (case side3 => exact csC_ ((Kd.C_below HR2_0.out HB.out))); (case side4 => exact HC2_0.out); (case side5 => exact csC_ ((Kd.C_below HR2_1.out HB.out))); (case side6 => exact HC2_1.out); rintro e w41 ⟨rfl, hb⟩; refine ⟨_, rfl, ?_⟩; replace HO_7 := kR_ HO_7 hb; replace BKq1 := bb_ BKq1 hb; replace HB := bA_ hb; (try clear hb)) | (go_at_call 13; (with_reducible refine (sawmilllaw16_awake.calls kj11  tq17 _ A36.out).mono ?_); rintro e w42 ⟨rfl, hb⟩; replace HO_7 := kR_ HO_7 hb; replace BKq1 := bb_ BKq1 hb; replace HB := bA_ hb; (try clear hb)));go_ret;exact ⟨er_, be_⟩
           ·rw [if_neg c35] at H;have c35b0 : (tq15 == tq13) = false := beq_eq_false_iff_ne.mpr c35;have c35b1 : (tq15 != tq13) = true := bne_iff_ne.mpr c35;obtain rfl := Option.some.inj H;obtain ⟨hcz43_0, hcz43_1, hfz43_0, hfz43_1⟩ := cy2_ BKq1;go_wp2_with (first | ((with_reducible refine gate_callee (f := 17) rfl ?_); refine goesL_ (some 47) rfl rfl Try.func17 (by kernel_rfl) rfl #[.slice A0 l0.length c0, .slice A2_0 l2_0.length c2_0, .slice A2_1 l2_1.length c2_1] rfl la_ ?_; (with_reducible refine (class_Of.calls kj11 _ _ l0 _ _ l2_0 _ _ l2_1 tq13 true _ ?side1 ?side2 ?side3 ?side4 ?side5 ?side6 A31.out).mono ?_); (case side1 => exact csC_ ((Kd.C_below HR0.out HB.out))); (case side2 => exact HC0.out); (case side3 => exact csC_ ((Kd.C_below HR2_0.out HB.out))); (case side4 => exact HC2_0.out); (case side5 => exact csC_ ((Kd.C_below HR2_1.out HB.out))); (case side6 => exact HC2_1.out); rintro e w44 ⟨rfl, hb⟩; refine ⟨_, rfl, ?_⟩; replace HO_7 := kR_ HO_7 hb; replace BKq1 := bb_ BKq1 hb; replace HB := bA_ hb; (try clear hb); obtain ⟨hcz45_0, hcz45_1, hfz45_0, hfz45_1⟩ := cy2_ BKq1; obtain ⟨Ao46, co46, eo46⟩ := Kd.R_slice HO_7.out; subst eo46) | ((with_reducible refine gate_callee (f := 17) rfl ?_); refine goesL_ (some 56) rfl rfl Try.func17 (by kernel_rfl) rfl #[.slice Ao46 yq6.length co46, .slice A2_0 l2_0.length c2_0, .slice A2_1 l2_1.length c2_1] rfl la_ ?_; (with_reducible refine (class_Of.calls kj11 _ _ yq6 _ _ l2_0 _ _ l2_1 tq15 true _ ?side1 ?side2 ?side3 ?side4 ?side5 ?side6 A32.out).mono ?_); (case side1 => exact csC_ ((Kd.R_reads' HO_7.out).2.2)); (case side2 => exact (Kd.R_reads' HO_7.out).2.1); (case side3 => exact csC_ ((Kd.C_below HR2_0.out HB.out))); (case side4 => exact HC2_0.out); (case side5 => exact csC_ ((Kd.C_below HR2_1.out HB.out))); (case side6 => exact HC2_1.out); rintro e w47 ⟨rfl, hb⟩; refine ⟨_, rfl, ?_⟩; replace HO_7 := kR_ HO_7 hb; replace BKq1 := bb_ BKq1 hb; replace HB := bA_ hb; (try clear hb)));go_ret;exact ⟨er_, be_⟩
          ·replace c34 := Bool.eq_false_iff.mpr c34;subst c34;(have H1 : (some false) = some r := by rw [if_neg (show ¬ (false = true) by decide)] at H; exact H);clear H;have H := H1;clear H1;obtain rfl := Option.some.inj H;obtain ⟨hcz48_0, hcz48_1, hfz48_0, hfz48_1⟩ := cy2_ BKq1;go_wp2_with (first | ((with_reducible refine gate_callee (f := 17) rfl ?_); refine goesL_ (some 47) rfl rfl Try.func17 (by kernel_rfl) rfl #[.slice A0 l0.length c0, .slice A2_0 l2_0.length c2_0, .slice A2_1 l2_1.length c2_1] rfl la_ ?_; (with_reducible refine (class_Of.calls kj11 _ _ l0 _ _ l2_0 _ _ l2_1 tq13 true _ ?side1 ?side2 ?side3 ?side4 ?side5 ?side6 A31.out).mono ?_); (case side1 => exact csC_ ((Kd.C_below HR0.out HB.out))); (case side2 => exact HC0.out); (case side3 => exact csC_ ((Kd.C_below HR2_0.out HB.out))); (case side4 => exact HC2_0.out); (case side5 => exact csC_ ((Kd.C_below HR2_1.out HB.out))); (case side6 => exact HC2_1.out); rintro e w49 ⟨rfl, hb⟩; refine ⟨_, rfl, ?_⟩; replace HO_7 := kR_ HO_7 hb; replace BKq1 := bb_ BKq1 hb; replace HB := bA_ hb; (try clear hb); obtain ⟨hcz50_0, hcz50_1, hfz50_0, hfz50_1⟩ := cy2_ BKq1; obtain ⟨Ao51, co51, eo51⟩ := Kd.R_slice HO_7.out; subst eo51) | ((with_reducible refine gate_callee (f := 17) rfl ?_); refine goesL_ (some 56) rfl rfl Try.func17 (by kernel_rfl) rfl #[.slice Ao51 yq6.length co51, .slice A2_0 l2_0.length c2_0, .slice A2_1 l2_1.length c2_1] rfl la_ ?_; (with_reducible refine (class_Of.calls kj11 _ _ yq6 _ _ l2_0 _ _ l2_1 tq15 false _ ?side1 ?side2 ?side3 ?side4 ?side5 ?side6 A32.out).mono ?_); (case side1 => exact csC_ ((Kd.R_reads' HO_7.out).2.2)); (case side2 => exact (Kd.R_reads' HO_7.out).2.1); (case side3 => exact csC_ ((Kd.C_below HR2_0.out HB.out))); (case side4 => exact HC2_0.out); (case side5 => exact csC_ ((Kd.C_below HR2_1.out HB.out))); (case side6 => exact HC2_1.out); rintro e w52 ⟨rfl, hb⟩; refine ⟨_, rfl, ?_⟩; replace HO_7 := kR_ HO_7 hb; replace BKq1 := bb_ BKq1 hb; replace HB := bA_ hb; (try clear hb)));go_ret;exact ⟨er_, be_⟩
         ·replace c33 := Bool.eq_false_iff.mpr c33;subst c33;(have H1 : (if tq16 = true then (if tq15 ≥ (l0.length : Int) then ((sawmilllaw16_awake.f kj11).bind fun tq18 => (some tq18)) else (some false)) else ((sawmilllaw16_awake.f kj11).bind fun tq19 => (some tq19))) = some r := by rw [if_neg (show ¬ (false = true) by decide)] at H; exact H);clear H;have H := H1;clear H1
          by_cases c53 : tq16 = true
          ·subst c53;(have H1 : (if tq15 ≥ (l0.length : Int) then ((sawmilllaw16_awake.f kj11).bind fun tq18 => (some tq18)) else (some false)) = some r := by rw [if_pos rfl] at H; exact H);clear H;have H := H1;clear H1
           by_cases c54 : tq15 ≥ (l0.length : Int)
           ·rw [if_pos c54] at H;have c54b0 : decide ((l0.length : Int) ≤ tq15) = true := decide_eq_true c54;clear c54;replace H := Option.bind_eq_some_iff.mp H;obtain ⟨tq18, A550, H⟩ := H;replace H : (some tq18) = some r := H;have A55 := Aside0.mk A550;clear A550;obtain rfl := Option.some.inj H;obtain ⟨hcz56_0, hcz56_1, hfz56_0, hfz56_1⟩ := cy2_ BKq1;go_wp2_with (first | ((with_reducible refine gate_callee (f := 17) rfl ?_); refine goesL_ (some 47) rfl rfl Try.func17 (by kernel_rfl) rfl #[.slice A0 l0.length c0, .slice A2_0 l2_0.length c2_0, .slice A2_1 l2_1.length c2_1] rfl la_ ?_; (with_reducible refine (class_Of.calls kj11 _ _ l0 _ _ l2_0 _ _ l2_1 tq13 false _ ?side1 ?side2 ?side3 ?side4 ?side5 ?side6 A31.out).mono ?_); (case side1 => exact csC_ ((Kd.C_below HR0.out HB.out))); (case side2 => exact HC0.out); (case side3 => exact csC_ ((Kd.C_below HR2_0.out HB.out))); (case side4 => exact HC2_0.out); (case side5 => exact csC_ ((Kd.C_below HR2_1.out HB.out))); (case side6 => exact HC2_1.out); rintro e w57 ⟨rfl, hb⟩; refine ⟨_, rfl, ?_⟩; replace HO_7 := kR_ HO_7 hb; replace BKq1 := bb_ BKq1 hb; replace HB := bA_ hb; (try clear hb); obtain ⟨hcz58_0, hcz58_1, hfz58_0, hfz58_1⟩ := cy2_ BKq1; obtain ⟨Ao59, co59, eo59⟩ := Kd.R_slice HO_7.out; subst eo59) | ((with_reducible refine gate_callee (f := 17) rfl ?_); refine goesL_ (some 56) rfl rfl Try.func17 (by kernel_rfl) rfl #[.slice Ao59 yq6.length co59, .slice A2_0 l2_0.length c2_0, .slice A2_1 l2_1.length c2_1] rfl la_ ?_; (with_reducible refine (class_Of.calls kj11 _ _ yq6 _ _ l2_0 _ _ l2_1 tq15 true _ ?side1 ?side2 ?side3 ?side4 ?side5 ?side6 A32.out).mono ?_); (case side1 => exact csC_ ((Kd.R_reads' HO_7.out).2.2)); (case side2 => exact (Kd.R_reads' HO_7.out).2.1); (case side3 => exact csC_ ((Kd.C_below HR2_0.out HB.out))); (case side4 => exact HC2_0.out); (case side5 => exact csC_ ((Kd.C_below HR2_1.out HB.out))); (case side6 => exact HC2_1.out); rintro e w60 ⟨rfl, hb⟩; refine ⟨_, rfl, ?_⟩; replace HO_7 := kR_ HO_7 hb; replace BKq1 := bb_ BKq1 hb; replace HB := bA_ hb; (try clear hb)) | (go_at_call 13; (with_reducible refine (sawmilllaw16_awake.calls kj11  tq18 _ A55.out).mono ?_); rintro e w61 ⟨rfl, hb⟩; replace HO_7 := kR_ HO_7 hb; replace BKq1 := bb_ BKq1 hb; replace HB := bA_ hb; (try clear hb)));go_ret;exact ⟨er_, be_⟩
           ·rw [if_neg c54] at H;have c54b0 : decide ((l0.length : Int) ≤ tq15) = false := decide_eq_false c54;clear c54;obtain rfl := Option.some.inj H;obtain ⟨hcz62_0, hcz62_1, hfz62_0, hfz62_1⟩ := cy2_ BKq1;go_wp2_with (first | ((with_reducible refine gate_callee (f := 17) rfl ?_); refine goesL_ (some 47) rfl rfl Try.func17 (by kernel_rfl) rfl #[.slice A0 l0.length c0, .slice A2_0 l2_0.length c2_0, .slice A2_1 l2_1.length c2_1] rfl la_ ?_; (with_reducible refine (class_Of.calls kj11 _ _ l0 _ _ l2_0 _ _ l2_1 tq13 false _ ?side1 ?side2 ?side3 ?side4 ?side5 ?side6 A31.out).mono ?_); (case side1 => exact csC_ ((Kd.C_below HR0.out HB.out))); (case side2 => exact HC0.out); (case side3 => exact csC_ ((Kd.C_below HR2_0.out HB.out))); (case side4 => exact HC2_0.out); (case side5 => exact csC_ ((Kd.C_below HR2_1.out HB.out))); (case side6 => exact HC2_1.out); rintro e w63 ⟨rfl, hb⟩; refine ⟨_, rfl, ?_⟩; replace HO_7 := kR_ HO_7 hb; replace BKq1 := bb_ BKq1 hb; replace HB := bA_ hb; (try clear hb); obtain ⟨hcz64_0, hcz64_1, hfz64_0, hfz64_1⟩ := cy2_ BKq1; obtain ⟨Ao65, co65, eo65⟩ := Kd.R_slice HO_7.out; subst eo65) | ((with_reducible refine gate_callee (f := 17) rfl ?_); refine goesL_ (some 56) rfl rfl Try.func17 (by kernel_rfl) rfl #[.slice Ao65 yq6.length co65, .slice A2_0 l2_0.length c2_0, .slice A2_1 l2_1.length c2_1] rfl la_ ?_; (with_reducible refine (class_Of.calls kj11 _ _ yq6 _ _ l2_0 _ _ l2_1 tq15 true _ ?side1 ?side2 ?side3 ?side4 ?side5 ?side6 A32.out).mono ?_); (case side1 => exact csC_ ((Kd.R_reads' HO_7.out).2.2)); (case side2 => exact (Kd.R_reads' HO_7.out).2.1); (case side3 => exact csC_ ((Kd.C_below HR2_0.out HB.out))); (case side4 => exact HC2_0.out); (case side5 => exact csC_ ((Kd.C_below HR2_1.out HB.out))); (case side6 => exact HC2_1.out); rintro e w66 ⟨rfl, hb⟩; refine ⟨_, rfl, ?_⟩; replace HO_7 := kR_ HO_7 hb; replace BKq1 := bb_ BKq1 hb; replace HB := bA_ hb; (try clear hb)));go_ret;exact ⟨er_, be_⟩
          ·replace c53 := Bool.eq_false_iff.mpr c53;subst c53;(have H1 : ((sawmilllaw16_awake.f kj11).bind fun tq19 => (some tq19)) = some r := by rw [if_neg (show ¬ (false = true) by decide)] at H; exact H);clear H;have H := H1;clear H1;replace H := Option.bind_eq_some_iff.mp H;obtain ⟨tq19, A670, H⟩ := H;replace H : (some tq19) = some r := H;have A67 := Aside0.mk A670;clear A670;obtain rfl := Option.some.inj H;obtain ⟨hcz68_0, hcz68_1, hfz68_0, hfz68_1⟩ := cy2_ BKq1;go_wp2_with (first | ((with_reducible refine gate_callee (f := 17) rfl ?_); refine goesL_ (some 47) rfl rfl Try.func17 (by kernel_rfl) rfl #[.slice A0 l0.length c0, .slice A2_0 l2_0.length c2_0, .slice A2_1 l2_1.length c2_1] rfl la_ ?_; (with_reducible refine (class_Of.calls kj11 _ _ l0 _ _ l2_0 _ _ l2_1 tq13 false _ ?side1 ?side2 ?side3 ?side4 ?side5 ?side6 A31.out).mono ?_); (case side1 => exact csC_ ((Kd.C_below HR0.out HB.out))); (case side2 => exact HC0.out); (case side3 => exact csC_ ((Kd.C_below HR2_0.out HB.out))); (case side4 => exact HC2_0.out); (case side5 => exact csC_ ((Kd.C_below HR2_1.out HB.out))); (case side6 => exact HC2_1.out); rintro e w69 ⟨rfl, hb⟩; refine ⟨_, rfl, ?_⟩; replace HO_7 := kR_ HO_7 hb; replace BKq1 := bb_ BKq1 hb; replace HB := bA_ hb; (try clear hb); obtain ⟨hcz70_0, hcz70_1, hfz70_0, hfz70_1⟩ := cy2_ BKq1; obtain ⟨Ao71, co71, eo71⟩ := Kd.R_slice HO_7.out; subst eo71) | ((with_reducible refine gate_callee (f := 17) rfl ?_); refine goesL_ (some 56) rfl rfl Try.func17 (by kernel_rfl) rfl #[.slice Ao71 yq6.length co71, .slice A2_0 l2_0.length c2_0, .slice A2_1 l2_1.length c2_1] rfl la_ ?_; (with_reducible refine (class_Of.calls kj11 _ _ yq6 _ _ l2_0 _ _ l2_1 tq15 false _ ?side1 ?side2 ?side3 ?side4 ?side5 ?side6 A32.out).mono ?_); (case side1 => exact csC_ ((Kd.R_reads' HO_7.out).2.2)); (case side2 => exact (Kd.R_reads' HO_7.out).2.1); (case side3 => exact csC_ ((Kd.C_below HR2_0.out HB.out))); (case side4 => exact HC2_0.out); (case side5 => exact csC_ ((Kd.C_below HR2_1.out HB.out))); (case side6 => exact HC2_1.out); rintro e w72 ⟨rfl, hb⟩; refine ⟨_, rfl, ?_⟩; replace HO_7 := kR_ HO_7 hb; replace BKq1 := bb_ BKq1 hb; replace HB := bA_ hb; (try clear hb)) | (go_at_call 13; (with_reducible refine (sawmilllaw16_awake.calls kj11  tq19 _ A67.out).mono ?_); rintro e w73 ⟨rfl, hb⟩; replace HO_7 := kR_ HO_7 hb; replace BKq1 := bb_ BKq1 hb; replace HB := bA_ hb; (try clear hb)));go_ret;exact ⟨er_, be_⟩
     ·rw [if_neg c11] at H;exact absurd H (by simp)
    ·rw [if_neg c10] at H;exact absurd H (by simp)
end Go.Proofs.Ytdgbecllbldcaaa.P
end
section
namespace Go.Proofs.Ytdgbecllbldcaaa.P
open Go Go.RowKit Go.Proofs.YtdgbecllbldcaaaW.PrintWords Go.Proofs.YtdgbecllbldcaaaW.PrintLast Go.Proofs.YtdgbecllbldcaaaW.PrintMore
def Opens {α : Type} (P : Program) (d : Kd α) (t : TypeId) (ok : α → Prop) : Prop :=
 ∀ (H : Type) (enc : TypeId × Value → H) (w : World) (base : Nat) (spare : Nat → Bool) (held : Bool) (fuel : Nat) (cs : List Value) (x : DataW H × List MemPlace),
  DataW.trod enc P w base spare held fuel t cs = some x → ∃ v, d.K w v cs ∧ ok v
theorem opens_int {P : Program} {t : TypeId} {k : IntKind} (ht : P.underlying t = some (.int k)) : Opens P (Kd.int k) t (fun n => (Lit.int k n).wf = true) := by
 intro H enc w base spare held fuel cs x h;obtain ⟨n, rfl, _, hw⟩ := DataW.trod_int ht h;exact ⟨n, rfl, hw⟩
theorem opens_string {P : Program} {t : TypeId} (ht : P.underlying t = some .string) : Opens P Kd.string t (fun s => s.size ≤ maxLen) := by
 intro H enc w base spare held fuel cs x h;obtain ⟨n, rfl, _, hw⟩ := DataW.trod_string ht h;exact ⟨n, rfl, hw⟩
theorem opens_slice {α : Type} {P : Program} {d : Kd α} {t e : TypeId} {ok : α → Prop} (e' : Nat) (ht : P.underlying t = some (.slice e)) (hc : P.cellsOf e = d.sz) (hd : Opens P d e ok) :
  Opens P (Kd.slice e' d) t (fun xs => (∀ x ∈ xs, ok x) ∧ xs.length ≤ maxLen) := by
 intro H enc w base spare held fuel cs x h
 rcases DataW.trod_slice ht h with ⟨rfl, _⟩ | ⟨a, len, cap, elems, rest, n, _, rfl, _, hb, hl, hm, hlen, hel, _, _⟩
 ·exact ⟨[], ⟨none, 0, rfl, Nat.le_refl _, rfl, by simp, fun h => absurd h (by simp)⟩, by simp, by simp⟩
 ·have key : ∀ m, m ≤ len → ∃ xs : List α, xs.length = m ∧ ∀ j p, xs[j]? = some p → ∃ c, w.cells? base (a.add (j * d.sz)) d.sz = some c ∧ d.K w p c ∧ ok p := by
   intro m
   induction m with
   | zero => exact fun _ => ⟨[], rfl, fun j p h => by simp at h⟩
   | succ m ih =>
    intro hm;obtain ⟨xs, hx, hp⟩ := ih (by omega);have h1 := hel m (by omega);rw [List.getElem?_eq_getElem (by omega), hc, Option.bind_eq_some_iff] at h1;obtain ⟨c, hcs, ht⟩ := h1;obtain ⟨v, hk, ho⟩ := hd H enc w base spare held n c _ ht;refine ⟨xs ++ [v], by simp [hx], fun j p h => ?_⟩
    rcases Nat.lt_or_ge j m with hj | hj
    ·rw [List.getElem?_append_left (by omega)] at h;exact hp j p h
    ·have : j = m := by
      have := (List.getElem?_eq_some_iff.1 h).1;simp at this
      omega
     subst this;rw [List.getElem?_append_right (by omega), hx] at h;simp at h;subst h;exact ⟨c, hcs, hk, ho⟩
  obtain ⟨xs, hx, hp⟩ := key len (Nat.le_refl _);have hlm : len ≤ maxLen := Nat.le_trans hl hm;refine ⟨xs, ⟨some a, cap, by rw [hx], by omega, ?_⟩, fun x hxm => ?_, by omega⟩
  ·refine ⟨rfl, by unfold maxLen at hlm; omega, fun _ => ⟨a, rfl, fun j p h => ?_⟩⟩;obtain ⟨c, hcs, hk, _⟩ := hp j p h;have h3 := World.cells?_some hcs;refine ⟨c, d.K_len hk, hk, fun i u hu => ?_⟩;have hi := (List.getElem?_eq_some_iff.1 hu).1;have h4 := h3.2.2 i (by have := d.K_len hk; omega);rw [hu] at h4;rw [← add_add];exact h4
  ·obtain ⟨j, hj⟩ := List.getElem?_of_mem hxm;exact (hp j x hj).choose_spec.2.2
theorem opens_iso {α β : Type} {P : Program} {d : Kd α} {t : TypeId} {ok : α → Prop} {f : β → α} (g : α → β) (hg : ∀ x, f (g x) = x) (hd : Opens P d t ok) : Opens P (Kd.iso d f) t (fun y => ok (f y)) := by
 intro H enc w base spare held fuel cs x h;obtain ⟨v, hk, ho⟩ := hd H enc w base spare held fuel cs x h;exact ⟨g v, by show d.K w (f (g v)) cs; rw [hg]; exact hk, by show ok (f (g v)); rw [hg]; exact ho⟩
def OpensF {α : Type} (P : Program) (d : Kd α) (fs : List Field) (o tot : Nat) (ok : α → Prop) : Prop :=
 ∀ (H : Type) (enc : TypeId × Value → H) (w : World) (base : Nat) (spare : Nat → Bool) (held : Bool) (n : Nat) (cs : List Value), cs.length = tot →
  (∀ f ∈ fs, ∃ y, DataW.trod enc P w base spare held n f.type ((cs.drop f.offset).take (P.cellsOf f.type)) = some y) → ∃ v, d.K w v (cs.drop o) ∧ ok v
theorem opensF_last {α : Type} {P : Program} {d : Kd α} {f : Field} {o tot k : Nat} {ok : α → Prop} (ho : f.offset = o) (hk : P.cellsOf f.type = k) (ht : tot ≤ o + k) (hd : Opens P d f.type ok) : OpensF P d [f] o tot ok := by
 intro H enc w base spare held n cs hl hf;obtain ⟨y, hy⟩ := hf f (by simp);rw [ho, hk, List.take_of_length_le (by simp; omega)] at hy;exact hd H enc w base spare held n _ _ hy
theorem opensF_cons {α β : Type} {P : Program} {d : Kd α} {d2 : Kd β} {f : Field} {fs : List Field} {o tot k : Nat} {ok : α → Prop} {ok2 : β → Prop} (ho : f.offset = o) (hk : P.cellsOf f.type = k) (hd : Opens P d f.type ok) (hr : OpensF P d2 fs (o + k) tot ok2) :
  OpensF P (Kd.pair d d2) (f :: fs) o tot (fun x => ok x.1 ∧ ok2 x.2) := by
 intro H enc w base spare held n cs hl hf;obtain ⟨y, hy⟩ := hf f (by simp);rw [ho, hk] at hy;obtain ⟨v, hv, ov⟩ := hd H enc w base spare held n _ _ hy;obtain ⟨u, hu, ou⟩ := hr H enc w base spare held n cs hl (fun g hg => hf g (by simp [hg]));refine ⟨(v, u), ⟨_, _, ?_, hv, hu⟩, ov, ou⟩;rw [← List.drop_drop, List.take_append_drop]
theorem opens_struct {α : Type} {P : Program} {d : Kd α} {t : TypeId} {fs : Array Field} {l : List Field} {tot : Nat} {ok : α → Prop} (ht : P.underlying t = some (.struct fs)) (hl : fs.toList = l) (hc : P.cellsOf t = tot) (hF : OpensF P d l 0 tot ok) : Opens P d t ok := by
 intro H enc w base spare held fuel cs x h;obtain ⟨xs, n, _, _, hlen, hxl, hf⟩ := DataW.trod_struct ht h
 have := hF H enc w base spare held n cs (by rw [hlen, hc]) (fun f hm => by
  rw [← hl] at hm;obtain ⟨i, hi⟩ := List.getElem?_of_mem hm;have h1 := hf i f (by simpa using hi)
  have hi2 : i < xs.length := by
   have := (List.getElem?_eq_some_iff.1 hi).1;simp at this
   omega
  rw [List.getElem?_eq_getElem hi2] at h1;exact ⟨_, h1⟩)
 simpa using this
def W28 (x : S28) : Prop := (x.f0.size ≤ maxLen) ∧ ((Lit.int .i64 x.f1).wf = true) ∧ ((Lit.int .i64 x.f2).wf = true) ∧ ((Lit.int .i64 x.f3).wf = true) ∧ ((Lit.int .i64 x.f4).wf = true) ∧ ((Lit.int .i64 x.f5).wf = true) ∧ ((Lit.int .i64 x.f6).wf = true) ∧ ((Lit.int .i64 x.f7).wf = true) ∧ ((Lit.int .i64 x.f8).wf = true)
theorem o28 : Opens Try.prog k28 28 W28 := opens_iso (f := fun x : S28 => (x.f0, x.f1, x.f2, x.f3, x.f4, x.f5, x.f6, x.f7, x.f8)) (fun p => ⟨p.1, p.2.1, p.2.2.1, p.2.2.2.1, p.2.2.2.2.1, p.2.2.2.2.2.1, p.2.2.2.2.2.2.1, p.2.2.2.2.2.2.2.1, p.2.2.2.2.2.2.2.2⟩) (fun _ => rfl) (opens_struct (tot := 9) Try.underlying28 rfl (by kernel_rfl) (opensF_cons (o := 0) (tot := 9) (k := 1) rfl (by kernel_rfl) (opens_string Try.underlying9) (opensF_cons (o := 1) (tot := 9) (k := 1) rfl (by kernel_rfl) (opens_int Try.underlying3) (opensF_cons (o := 2) (tot := 9) (k := 1) rfl (by kernel_rfl) (opens_int Try.underlying3) (opensF_cons (o := 3) (tot := 9) (k := 1) rfl (by kernel_rfl) (opens_int Try.underlying3) (opensF_cons (o := 4) (tot := 9) (k := 1) rfl (by kernel_rfl) (opens_int Try.underlying3) (opensF_cons (o := 5) (tot := 9) (k := 1) rfl (by kernel_rfl) (opens_int Try.underlying3) (opensF_cons (o := 6) (tot := 9) (k := 1) rfl (by kernel_rfl) (opens_int Try.underlying3) (opensF_cons (o := 7) (tot := 9) (k := 1) rfl (by kernel_rfl) (opens_int Try.underlying3) (opensF_last (o := 8) (tot := 9) (k := 1) rfl (by kernel_rfl) (by decide) (opens_int Try.underlying3)))))))))))
def W44 (x : S44) : Prop := ((Lit.int .i64 x.f0).wf = true) ∧ ((Lit.int .i64 x.f1).wf = true)
theorem o44 : Opens Try.prog k44 44 W44 := opens_iso (f := fun x : S44 => (x.f0, x.f1)) (fun p => ⟨p.1, p.2⟩) (fun _ => rfl) (opens_struct (tot := 2) Try.underlying44 rfl (by kernel_rfl) (opensF_cons (o := 0) (tot := 2) (k := 1) rfl (by kernel_rfl) (opens_int Try.underlying3) (opensF_last (o := 1) (tot := 2) (k := 1) rfl (by kernel_rfl) (by decide) (opens_int Try.underlying3))))
def W46 (x : S46) : Prop := (W44 x.f0) ∧ (W44 x.f1) ∧ (W44 x.f2)
theorem o46 : Opens Try.prog k46 46 W46 := opens_iso (f := fun x : S46 => (x.f0, x.f1, x.f2)) (fun p => ⟨p.1, p.2.1, p.2.2⟩) (fun _ => rfl) (opens_struct (tot := 6) Try.underlying46 rfl (by kernel_rfl) (opensF_cons (o := 0) (tot := 6) (k := 2) rfl (by kernel_rfl) o44 (opensF_cons (o := 2) (tot := 6) (k := 2) rfl (by kernel_rfl) o44 (opensF_last (o := 4) (tot := 6) (k := 2) rfl (by kernel_rfl) (by decide) o44))))
def W48 (x : S48) : Prop := ((Lit.int .i64 x.f0).wf = true) ∧ (W46 x.f1)
theorem o48 : Opens Try.prog k48 48 W48 := opens_iso (f := fun x : S48 => (x.f0, x.f1)) (fun p => ⟨p.1, p.2⟩) (fun _ => rfl) (opens_struct (tot := 7) Try.underlying48 rfl (by kernel_rfl) (opensF_cons (o := 0) (tot := 7) (k := 1) rfl (by kernel_rfl) (opens_int Try.underlying3) (opensF_last (o := 1) (tot := 7) (k := 6) rfl (by kernel_rfl) (by decide) o46)))
def W56 (x : S56) : Prop := ((Lit.int .i64 x.f0).wf = true) ∧ ((∀ x_ ∈ x.f1, W44 x_) ∧ x.f1.length ≤ maxLen)
theorem o56 : Opens Try.prog k56 56 W56 := opens_iso (f := fun x : S56 => (x.f0, x.f1)) (fun p => ⟨p.1, p.2⟩) (fun _ => rfl) (opens_struct (tot := 2) Try.underlying56 rfl (by kernel_rfl) (opensF_cons (o := 0) (tot := 2) (k := 1) rfl (by kernel_rfl) (opens_int Try.underlying3) (opensF_last (o := 1) (tot := 2) (k := 1) rfl (by kernel_rfl) (by decide) (opens_slice (α := S44) 44 Try.underlying54 (by kernel_rfl) o44))))
def W58 (x : S58) : Prop := ((Lit.int .i64 x.f0).wf = true) ∧ (W56 x.f1)
theorem o58 : Opens Try.prog k58 58 W58 := opens_iso (f := fun x : S58 => (x.f0, x.f1)) (fun p => ⟨p.1, p.2⟩) (fun _ => rfl) (opens_struct (tot := 3) Try.underlying58 rfl (by kernel_rfl) (opensF_cons (o := 0) (tot := 3) (k := 1) rfl (by kernel_rfl) (opens_int Try.underlying3) (opensF_last (o := 1) (tot := 3) (k := 2) rfl (by kernel_rfl) (by decide) o56)))
def W32 (x : S32) : Prop := ((∀ x_ ∈ x.f0, W58 x_) ∧ x.f0.length ≤ maxLen) ∧ ((∀ x_ ∈ x.f1, W48 x_) ∧ x.f1.length ≤ maxLen)
theorem o32 : Opens Try.prog k32 32 W32 := opens_iso (f := fun x : S32 => (x.f0, x.f1)) (fun p => ⟨p.1, p.2⟩) (fun _ => rfl) (opens_struct (tot := 2) Try.underlying32 rfl (by kernel_rfl) (opensF_cons (o := 0) (tot := 2) (k := 1) rfl (by kernel_rfl) (opens_slice (α := S58) 58 Try.underlying29 (by kernel_rfl) o58) (opensF_last (o := 1) (tot := 2) (k := 1) rfl (by kernel_rfl) (by decide) (opens_slice (α := S48) 48 Try.underlying30 (by kernel_rfl) o48))))
end Go.Proofs.Ytdgbecllbldcaaa.P
end
