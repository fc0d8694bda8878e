/- Words of my own on calls of function values, on min and max, and short forms; conditions stand in each. -/
import Derived.Test.YtdgbecllbldcaaaCClassChecksV0
import Derived.Test.YtdgbecllbldcaaaProg
import Derived.Lib.SliceRun
import Derived.WalkSpells
import Derived.Below
import Derived.Deep.Draws
import Derived.Deep.AppendLies
import Derived.Maps.AppendAt
import Derived.OwnWalk
import Derived.Laws.BytesArg
import Derived.Laws.MakeOwn
import Derived.Laws.OwnMore
import Derived.Deep.OwnRows
import Derived.Tactics
import Derived.Lib.ConvBytes
import Derived.Laws.Slices
import Derived.WalkKit
import Derived.KernelRfl
import Derived.RowKit3
import Derived.Deep.LoopGhost
import Derived.Deep.QuietTactic
import Derived.BigQuiet
import Derived.WideLaws
import Derived.Deep.DeepCutAuto
import Derived.Deep.CutBlock
import Derived.Deep.RegionHeld3
import Derived.Laws.Rows
import Derived.Lib.AppendStr
import Derived.ArgAppend
import Derived.Laws.IdiomCopy
import Derived.OrdersHeld
import Derived.Laws.BitsLemmas
import Derived.RowKit
section
namespace Go.Proofs.Ytdgbecllbldcaaa.P
open Go Go.RowKit Go.Proofs.YtdgbecllbldcaaaW.PrintWords Go.Proofs.YtdgbecllbldcaaaW.PrintLast Go.Proofs.YtdgbecllbldcaaaW.PrintMore
theorem max_five (ats : Array TypeId) (ty : TypeId) (a b c d e : Value) : Builtin.max_ ats ty #[a, b, c, d, e] = (Builtin.max2 a b >>= fun s => Builtin.max2 s c >>= fun s => Builtin.max2 s d >>= fun s => Builtin.max2 s e >>= fun s => pure s) := by simp only [Builtin.max_, List.foldlM_cons, List.foldlM_nil]
theorem max_eight (ats : Array TypeId) (ty : TypeId) (a b c d e f g h : Value) : Builtin.max_ ats ty #[a, b, c, d, e, f, g, h] = (Builtin.max2 a b >>= fun s => Builtin.max2 s c >>= fun s => Builtin.max2 s d >>= fun s => Builtin.max2 s e >>= fun s => Builtin.max2 s f >>= fun s => Builtin.max2 s g >>= fun s => Builtin.max2 s h >>= fun s => pure s) := by simp only [Builtin.max_, List.foldlM_cons, List.foldlM_nil]
theorem min_eight (ats : Array TypeId) (ty : TypeId) (a b c d e f g h : Value) : Builtin.min_ ats ty #[a, b, c, d, e, f, g, h] = (Builtin.min2 a b >>= fun s => Builtin.min2 s c >>= fun s => Builtin.min2 s d >>= fun s => Builtin.min2 s e >>= fun s => Builtin.min2 s f >>= fun s => Builtin.min2 s g >>= fun s => Builtin.min2 s h >>= fun s => pure s) := by simp only [Builtin.min_, List.foldlM_cons, List.foldlM_nil]
def rowfn.f (g : Int → Option (Int × Int)) (i : Int) : Option (Int × Int) := g i
def mapfn.f (g : Int → Int → Option (Int × Int)) (a b : Int) : Option (Int × Int) := g a b
def fnc80 : Unit := ()
theorem fld56_1 (x0 x1 : Value) (W : World) : (Instr.field 56 (.agg #[x0, x1]) 1).run Try.prog W = .ok x1 W := by kernel_rfl
attribute [go_sem] fld56_1
end Go.Proofs.Ytdgbecllbldcaaa.P
end
namespace Go.Proofs.YtdgbecllbldcaaaW.PrintWords
open Go Go.RowKit Go.Proofs.YtdgbecllbldcaaaW.PrintLast Go.Proofs.YtdgbecllbldcaaaW.PrintMore

/-! ### short words for pieces that the printed proofs repeat -/
theorem be_ {w W : World} {b : Nat} (h : Below b w W := by repeat (first | (with_reducible first | exact HB.out | apply below_alloc | apply pw_below_drewN | apply below_drew1 | refine below_set ?_ (Aside0.out (by assumption))) | exact HB.out)) : Below b w W := h
theorem bz_ {w W : World} (h : Below w.heap.size w W := by exact be_) : w.heap.size ≤ W.heap.size := below_size h
theorem bs_ {w W w2 : World} (k : Below W.heap.size W w2) (h : Below w.heap.size w W := by exact be_) : Below w.heap.size w w2 := below_step h k
theorem fb_ {p q : Prop} (h : p) (k : p → q := by intro h_; (with_reducible repeat (first | refine blk_drewN ?_ _ | refine blk_drew ?_ | refine blk_alloc ?_ _)); exact h_) : q := k h
theorem kR_ {α : Type} {k : Kd α} {t : TypeId} {W w w1 : World} {base : Nat} {ok : Nat → Prop} {v : Value} {l : List α} (h : Aside0 (Kd.R k t W base ok v l)) (hb : Below w.heap.size w w1) (m : Kd.R k t W base ok v l → Kd.R k t w base ok v l := by intro h_; (with_reducible repeat (first | apply Kd.R_alloc | apply Kd.R_drewN | apply Kd.R_drew)); exact h_) : Aside0 (Kd.R k t w1 base ok v l) := ⟨Kd.R_below (m h.out) hb⟩
theorem kV_ {α : Type} {k : Kd α} {t : TypeId} {W w w1 : World} {base : Nat} {ok : Nat → Prop} {v : Value} {l : List α} (h : Aside0 (Kd.V k t W base ok v l)) (hb : Below w.heap.size w w1) (m : Kd.V k t W base ok v l → Kd.V k t w base ok v l := by intro h_; (with_reducible repeat (first | apply Kd.V_alloc | apply Kd.V_drewN | apply Kd.V_drew)); exact h_) : Aside0 (Kd.V k t w1 base ok v l) := ⟨Kd.V_below (m h.out) hb⟩
theorem kN_ {α : Type} {k : Kd α} {t : TypeId} {W w w1 : World} {base : Nat} {ok : Nat → Prop} {v : Value} {l : List α} (h : Aside0 (Kd.N k t W base ok v l)) (hb : Below w.heap.size w w1) (m : Kd.N k t W base ok v l → Kd.N k t w base ok v l := by intro h_; (with_reducible repeat (first | apply Kd.N_alloc | apply Kd.N_drewN | apply Kd.N_drew)); exact h_) : Aside0 (Kd.N k t w1 base ok v l) := ⟨Kd.N_below (m h.out) hb⟩
theorem csC_ {p q : Prop} (h : p) (k : p → q := by intro h_; repeat (first | exact h_ | (with_reducible refine Kd.C_alloc ?_ _) | (with_reducible refine Kd.C_drewN ?_ _) | (with_reducible refine Kd.C_drew ?_))) : q := k h
theorem csR_ {p q : Prop} (h : p) (k : p → q := by intro h_; repeat (first | exact h_ | (with_reducible refine Kd.R_alloc ?_ _) | (with_reducible refine Kd.R_drewN ?_ _) | (with_reducible refine Kd.R_drew ?_))) : q := k h
theorem csV_ {p q : Prop} (h : p) (k : p → q := by intro h_; repeat (first | exact h_ | (with_reducible refine Kd.V_alloc ?_ _) | (with_reducible refine Kd.V_drewN ?_ _) | (with_reducible refine Kd.V_drew ?_))) : q := k h
theorem csN_ {p q : Prop} (h : p) (k : p → q := by intro h_; repeat (first | exact h_ | (with_reducible refine Kd.N_alloc ?_ _) | (with_reducible refine Kd.N_drewN ?_ _) | (with_reducible refine Kd.N_drew ?_))) : q := k h
theorem fR_ {p q : Prop} (h : p) (k : p → q := by intro h_; (with_reducible repeat (first | apply Kd.R_alloc | apply Kd.R_drewN | apply Kd.R_drew)); exact h_) : q := k h
theorem fV_ {p q : Prop} (h : p) (k : p → q := by intro h_; (with_reducible repeat (first | apply Kd.V_alloc | apply Kd.V_drewN | apply Kd.V_drew)); exact h_) : q := k h
theorem fN_ {p q : Prop} (h : p) (k : p → q := by intro h_; (with_reducible repeat (first | apply Kd.N_alloc | apply Kd.N_drewN | apply Kd.N_drew)); exact h_) : q := k h
theorem fC_ {p q : Prop} (h : p) (k : p → q := by intro h_; (with_reducible repeat (first | apply Kd.C_alloc | apply Kd.C_drewN | apply Kd.C_drew)); exact h_) : q := k h
theorem la_ {p : Prop} (h : p := by (try simp only [List.map_toArray, List.map_cons, List.map_nil]); first | done | rfl | (simp only [List.length_drop, List.length_take]; rfl)) : p := h
theorem A_ {p : Prop} (h : p) : Aside0 p := ⟨h⟩
theorem bA_ {w W w2 : World} (k : Below W.heap.size W w2) (h : Below w.heap.size w W := by exact be_) : Aside0 (Below w.heap.size w w2) := ⟨below_step h k⟩
theorem bb_ {w w1 W : World} {g : Nat} {o : Obj} (h : Aside0 (W.heap[g]? = some o)) (hb : Below w.heap.size w w1) (k : W.heap[g]? = some o → w.heap[g]? = some o := by intro h_; (with_reducible repeat (first | refine blk_drewN ?_ _ | refine blk_drew ?_ | refine blk_alloc ?_ _)); exact h_) : Aside0 (w1.heap[g]? = some o) := ⟨blk_below (k h.out) hb⟩
theorem gz_ {w W : World} {g : Nat} (hg : g = W.heap.size) (h : Below w.heap.size w W := by exact be_) : Aside0 (w.heap.size ≤ g) := ⟨hg ▸ below_size h⟩
theorem cz0_ {w : World} {g : Nat} {t : TypeId} {a : Value} {l : List Value} (h : Aside0 (w.heap[g]? = some (.cells (List.toArray (a :: l)) t (0, 0)))) : w.cell? ⟨g, 0, none⟩ = some a := (blk_cell h.out 0).trans rfl
theorem cz1_ {w : World} {g : Nat} {t : TypeId} {a b : Value} {l : List Value} (h : Aside0 (w.heap[g]? = some (.cells (List.toArray (a :: b :: l)) t (0, 0)))) : w.cell? ⟨g, 1, none⟩ = some b := (blk_cell h.out 1).trans rfl
theorem cz2_ {w : World} {g : Nat} {t : TypeId} {a b c : Value} {l : List Value} (h : Aside0 (w.heap[g]? = some (.cells (List.toArray (a :: b :: c :: l)) t (0, 0)))) : w.cell? ⟨g, 2, none⟩ = some c := (blk_cell h.out 2).trans rfl
theorem cz3_ {w : World} {g : Nat} {t : TypeId} {a b c d : Value} {l : List Value} (h : Aside0 (w.heap[g]? = some (.cells (List.toArray (a :: b :: c :: d :: l)) t (0, 0)))) : w.cell? ⟨g, 3, none⟩ = some d := (blk_cell h.out 3).trans rfl
theorem ne_ {p q : Prop} (h : p) (k : p → q := by intro h_; first | exact h_ | (rw [add_block]; exact h_) | (show (Addr.add _ _).block ≠ _; rw [add_block]; exact h_) | (dsimp only; exact h_)) : q := k h
theorem nl_ {w : World} {a : Addr} {v : Value} {g b : Nat} (h : w.cell? a = some v) (k : Aside0 (w.heap.size ≤ g)) (e : a.block = b := by first | rfl | exact add_block _ _ | (rw [add_block])) : b ≠ g := Nat.ne_of_lt (Nat.lt_of_lt_of_le (e ▸ World.block_lt_of_cell? _ _ h) k.out)
theorem bc_ {w W : World} {a : Addr} {v : Value} (hb : Aside0 (Below w.heap.size w W)) (h : w.cell? a = some v) : W.cell? a = some v := (hb.out.cell (World.block_lt_of_cell? w _ h)).trans h
theorem as_ {p : Prop} [Decidable p] (h : decide p = true := by first | (with_reducible assumption) | assumption) : p := of_decide_eq_true h
abbrev t_ : Bool := true
abbrev f_ : Bool := false
theorem bp0_ {w : World} {g : Nat} {t : TypeId} {a u : Value} {l : List Value} (h : w.heap[g]? = some (.cells (List.toArray (a :: l)) t (0, 0))) : (w.setCell ⟨g, 0, none⟩ u).heap[g]? = some (.cells (List.toArray (u :: l)) t (0, 0)) := blk_put h 0 u rfl
theorem bp1_ {w : World} {g : Nat} {t : TypeId} {a b u : Value} {l : List Value} (h : w.heap[g]? = some (.cells (List.toArray (a :: b :: l)) t (0, 0))) : (w.setCell ⟨g, 1, none⟩ u).heap[g]? = some (.cells (List.toArray (a :: u :: l)) t (0, 0)) := blk_put h 1 u rfl
theorem bp2_ {w : World} {g : Nat} {t : TypeId} {a b c u : Value} {l : List Value} (h : w.heap[g]? = some (.cells (List.toArray (a :: b :: c :: l)) t (0, 0))) : (w.setCell ⟨g, 2, none⟩ u).heap[g]? = some (.cells (List.toArray (a :: b :: u :: l)) t (0, 0)) := blk_put h 2 u rfl
theorem bp3_ {w : World} {g : Nat} {t : TypeId} {a b c d u : Value} {l : List Value} (h : w.heap[g]? = some (.cells (List.toArray (a :: b :: c :: d :: l)) t (0, 0))) : (w.setCell ⟨g, 3, none⟩ u).heap[g]? = some (.cells (List.toArray (a :: b :: c :: u :: l)) t (0, 0)) := blk_put h 3 u rfl
theorem bp4_ {w : World} {g : Nat} {t : TypeId} {a b c d e u : Value} {l : List Value} (h : w.heap[g]? = some (.cells (List.toArray (a :: b :: c :: d :: e :: l)) t (0, 0))) : (w.setCell ⟨g, 4, none⟩ u).heap[g]? = some (.cells (List.toArray (a :: b :: c :: d :: u :: l)) t (0, 0)) := blk_put h 4 u rfl
theorem bp5_ {w : World} {g : Nat} {t : TypeId} {a b c d e f u : Value} {l : List Value} (h : w.heap[g]? = some (.cells (List.toArray (a :: b :: c :: d :: e :: f :: l)) t (0, 0))) : (w.setCell ⟨g, 5, none⟩ u).heap[g]? = some (.cells (List.toArray (a :: b :: c :: d :: e :: u :: l)) t (0, 0)) := blk_put h 5 u rfl
theorem bp6_ {w : World} {g : Nat} {t : TypeId} {a b c d e f g1 u : Value} {l : List Value} (h : w.heap[g]? = some (.cells (List.toArray (a :: b :: c :: d :: e :: f :: g1 :: l)) t (0, 0))) : (w.setCell ⟨g, 6, none⟩ u).heap[g]? = some (.cells (List.toArray (a :: b :: c :: d :: e :: f :: u :: l)) t (0, 0)) := blk_put h 6 u rfl
theorem bp7_ {w : World} {g : Nat} {t : TypeId} {a b c d e f g1 g2 u : Value} {l : List Value} (h : w.heap[g]? = some (.cells (List.toArray (a :: b :: c :: d :: e :: f :: g1 :: g2 :: l)) t (0, 0))) : (w.setCell ⟨g, 7, none⟩ u).heap[g]? = some (.cells (List.toArray (a :: b :: c :: d :: e :: f :: g1 :: u :: l)) t (0, 0)) := blk_put h 7 u rfl
theorem bp8_ {w : World} {g : Nat} {t : TypeId} {a b c d e f g1 g2 g3 u : Value} {l : List Value} (h : w.heap[g]? = some (.cells (List.toArray (a :: b :: c :: d :: e :: f :: g1 :: g2 :: g3 :: l)) t (0, 0))) : (w.setCell ⟨g, 8, none⟩ u).heap[g]? = some (.cells (List.toArray (a :: b :: c :: d :: e :: f :: g1 :: g2 :: u :: l)) t (0, 0)) := blk_put h 8 u rfl
theorem bp9_ {w : World} {g : Nat} {t : TypeId} {a b c d e f g1 g2 g3 g4 u : Value} {l : List Value} (h : w.heap[g]? = some (.cells (List.toArray (a :: b :: c :: d :: e :: f :: g1 :: g2 :: g3 :: g4 :: l)) t (0, 0))) : (w.setCell ⟨g, 9, none⟩ u).heap[g]? = some (.cells (List.toArray (a :: b :: c :: d :: e :: f :: g1 :: g2 :: g3 :: u :: l)) t (0, 0)) := blk_put h 9 u rfl
theorem bf_ {w : World} {g g' i : Nat} {t : TypeId} {cs : Array Value} {u : Value} (h : w.heap[g]? = some (.cells cs t (0, 0))) (hp : Aside0 (g ≠ g')) : (w.setCell ⟨g', i, none⟩ u).heap[g]? = some (.cells cs t (0, 0)) := blk_far h hp.out u
theorem ch_ {p q : Prop} (h : Aside0 p) (k : p → q := by intro h_; repeat (first | (with_reducible exact h_) | (with_reducible first | refine blk_drewN ?_ _ | refine blk_drew ?_ | refine blk_alloc ?_ _ | apply bp0_ | apply bp1_ | apply bp2_ | apply bp3_ | apply bp4_ | apply bp5_ | apply bp6_ | apply bp7_ | apply bp8_ | apply bp9_ | refine bf_ ?_ (by assumption)))) : q := k h.out
theorem nlt0_ {W : World} {g g' : Nat} {o : Obj} (h : W.heap[g]? = some o) (hg : g' = W.heap.size) : Aside0 (g ≠ g') := ⟨hg ▸ Nat.ne_of_lt (blk_lt h)⟩
theorem ngt0_ {W : World} {g g' : Nat} {o : Obj} (h : W.heap[g]? = some o) (hg : g' = W.heap.size) : Aside0 (g' ≠ g) := ⟨hg ▸ Nat.ne_of_gt (blk_lt h)⟩
theorem fz_ {w : World} {g : Nat} {t : TypeId} {cs : Array Value} (h : Aside0 (w.heap[g]? = some (.cells cs t (0, 0)))) (i : Nat) : w.frozen? ⟨g, i, none⟩ = false := blk_frozen h.out i
theorem cl_ {w : World} {g : Nat} {t : TypeId} {cs : Array Value} {v : Value} (h : Aside0 (w.heap[g]? = some (.cells cs t (0, 0)))) (i : Nat) (e : cs[i]? = some v := by exact rfl) : w.cell? ⟨g, i, none⟩ = some v := (blk_cell h.out i).trans e
theorem cy2_ {w : World} {g : Nat} {t : TypeId} {a b : Value} (h : Aside0 (w.heap[g]? = some (.cells #[a, b] t (0, 0)))) : w.cell? ⟨g, 0, none⟩ = some a ∧ w.cell? ⟨g, 1, none⟩ = some b ∧ w.frozen? ⟨g, 0, none⟩ = false ∧ w.frozen? ⟨g, 1, none⟩ = false := ⟨cz0_ h, cz1_ h, fz_ h 0, fz_ h 1⟩
theorem cy3_ {w : World} {g : Nat} {t : TypeId} {a b c : Value} (h : Aside0 (w.heap[g]? = some (.cells #[a, b, c] t (0, 0)))) : w.cell? ⟨g, 0, none⟩ = some a ∧ w.cell? ⟨g, 1, none⟩ = some b ∧ w.cell? ⟨g, 2, none⟩ = some c ∧ w.frozen? ⟨g, 0, none⟩ = false ∧ w.frozen? ⟨g, 1, none⟩ = false ∧ w.frozen? ⟨g, 2, none⟩ = false := ⟨cz0_ h, cz1_ h, cz2_ h, fz_ h 0, fz_ h 1, fz_ h 2⟩
theorem cy4_ {w : World} {g : Nat} {t : TypeId} {a b c d : Value} (h : Aside0 (w.heap[g]? = some (.cells #[a, b, c, d] t (0, 0)))) : w.cell? ⟨g, 0, none⟩ = some a ∧ w.cell? ⟨g, 1, none⟩ = some b ∧ w.cell? ⟨g, 2, none⟩ = some c ∧ w.cell? ⟨g, 3, none⟩ = some d ∧ w.frozen? ⟨g, 0, none⟩ = false ∧ w.frozen? ⟨g, 1, none⟩ = false ∧ w.frozen? ⟨g, 2, none⟩ = false ∧ w.frozen? ⟨g, 3, none⟩ = false := ⟨cz0_ h, cz1_ h, cz2_ h, cz3_ h, fz_ h 0, fz_ h 1, fz_ h 2, fz_ h 3⟩
theorem Nf_ {α : Type} {d : Kd α} {e : Nat} {w : World} {base : Nat} {ok : Nat → Prop} {v : Value} {xs : List α} {g i : Nat} {u : Value} (h : Kd.N d e w base (fun k => ok k ∧ k ≠ g) v xs) : Kd.N d e (w.setCell ⟨g, i, none⟩ u) base (fun k => ok k ∧ k ≠ g) v xs := Kd.N_far h (fun _ hk => hk.2) u
theorem Vf_ {α : Type} {d : Kd α} {e : Nat} {w : World} {base : Nat} {ok : Nat → Prop} {v : Value} {xs : List α} {g i : Nat} {u : Value} (h : Kd.V d e w base (fun k => ok k ∧ k ≠ g) v xs) : Kd.V d e (w.setCell ⟨g, i, none⟩ u) base (fun k => ok k ∧ k ≠ g) v xs := Kd.V_far h (fun _ hk => hk.2) u
theorem Rf_ {α : Type} {d : Kd α} {e : Nat} {w : World} {base : Nat} {ok : Nat → Prop} {v : Value} {xs : List α} {g i : Nat} {u : Value} (h : Kd.R d e w base (fun k => ok k ∧ k ≠ g) v xs) : Kd.R d e (w.setCell ⟨g, i, none⟩ u) base (fun k => ok k ∧ k ≠ g) v xs := Kd.R_far h (fun _ hk => hk.2) u
theorem hs_ {w w1 : World} {a : Addr} {v : Value} (hb : Below w.heap.size w w1) (h : w.cell? a = some v) : w1.cell? a = some v := (hb.cell (World.block_lt_of_cell? _ _ h)).trans h
theorem rs_ {p : Prop} (h : p := by first | rfl | (simp; done) | (simp [*]; done)) : p := h
theorem id3_ {p : Prop} (h : p := by exact fun _ _ _ h => h) : p := h
theorem pu_ {P : Program} {ops : Array Oper} {Q : Exit → Act → World → Prop} {md : Region.Mode} {S : World → Prop} {ds : List Nat} (i : Nat) (n_ : Tmp) {oi : Oper} {v : Value} {fuel : Nat} {l : Array Bool} {a : Act} {w : World} (l' : Array Bool) {a' : Act} (h : wpAnyLast P md ops Q S ds fuel l' a' w) (hi : ops[i]? = some oi := by exact rfl) (hN : oi.dst = some n_ := by exact rfl) (hc : anyB md ops l l' i = true := by exact any_of HT_.out (by kernel_rfl))
  (hQ : ∀ c a w, Q (.panic c) (a.put oi.dst v) w → Q (.panic c) a w := by exact fun _ _ _ h => h) (hy : Yields P ops oi v a := by refine Or.inl ⟨by rfl, ?_⟩; intro w'; go_simp; with_reducible rfl) (ha : a.put (some n_) v = a' := by simp only [Act.put, List.setIfInBounds_toArray, List.set_cons_zero, List.set_cons_succ, i64_w, i32_w]; rfl) : wpAnyLast P md ops Q S ds (fuel + 1) l a w := pure_ l' hi hN hc hQ hy ha h
theorem pu_n {P : Program} {ops : Array Oper} {Q : Exit → Act → World → Prop} {md : Region.Mode} {S : World → Prop} {ds : List Nat} (i : Nat) {oi : Oper} {v : Value} {fuel : Nat} {l : Array Bool} {a : Act} {w : World} (l' : Array Bool) {a' : Act} (h : wpAnyLast P md ops Q S ds fuel l' a' w) (hi : ops[i]? = some oi := by exact rfl) (hN : oi.dst = none := by exact rfl) (hc : anyB md ops l l' i = true := by exact any_of HT_.out (by kernel_rfl))
  (hQ : ∀ c a w, Q (.panic c) (a.put oi.dst v) w → Q (.panic c) a w := by exact fun _ _ _ h => h) (hy : Yields P ops oi v a := by refine Or.inl ⟨by rfl, ?_⟩; intro w'; go_simp; with_reducible rfl) (ha : a.put none v = a' := by simp only [Act.put, List.setIfInBounds_toArray, List.set_cons_zero, List.set_cons_succ, i64_w, i32_w]; rfl) : wpAnyLast P md ops Q S ds (fuel + 1) l a w := pure_ l' hi hN hc hQ hy ha h
theorem pk_ {P : Program} {ops : Array Oper} {Q : Exit → Act → World → Prop} {md : Region.Mode} {S : World → Prop} {ds : List Nat} (i : Nat) (n_ : Tmp) {oi : Oper} {v : Value} {fuel : Nat} {l : Array Bool} {a : Act} {w : World} (l' : Array Bool) {a' : Act} (h : wpAnyLast P md ops Q S ds fuel l' a' w) (hi : ops[i]? = some oi := by exact rfl) (hN : oi.dst = some n_ := by exact rfl) (hc : anyB md ops l l' i = true := by kernel_rfl)
  (hQ : ∀ c a w, Q (.panic c) (a.put oi.dst v) w → Q (.panic c) a w := by exact fun _ _ _ h => h) (hy : Yields P ops oi v a := by refine Or.inl ⟨by rfl, ?_⟩; intro w'; go_simp; with_reducible rfl) (ha : a.put (some n_) v = a' := by simp only [Act.put, List.setIfInBounds_toArray, List.set_cons_zero, List.set_cons_succ, i64_w, i32_w]; rfl) : wpAnyLast P md ops Q S ds (fuel + 1) l a w := pure_ l' hi hN hc hQ hy ha h
theorem pk_n {P : Program} {ops : Array Oper} {Q : Exit → Act → World → Prop} {md : Region.Mode} {S : World → Prop} {ds : List Nat} (i : Nat) {oi : Oper} {v : Value} {fuel : Nat} {l : Array Bool} {a : Act} {w : World} (l' : Array Bool) {a' : Act} (h : wpAnyLast P md ops Q S ds fuel l' a' w) (hi : ops[i]? = some oi := by exact rfl) (hN : oi.dst = none := by exact rfl) (hc : anyB md ops l l' i = true := by kernel_rfl)
  (hQ : ∀ c a w, Q (.panic c) (a.put oi.dst v) w → Q (.panic c) a w := by exact fun _ _ _ h => h) (hy : Yields P ops oi v a := by refine Or.inl ⟨by rfl, ?_⟩; intro w'; go_simp; with_reducible rfl) (ha : a.put none v = a' := by simp only [Act.put, List.setIfInBounds_toArray, List.set_cons_zero, List.set_cons_succ, i64_w, i32_w]; rfl) : wpAnyLast P md ops Q S ds (fuel + 1) l a w := pure_ l' hi hN hc hQ hy ha h
theorem pn_ {P : Program} {ops : Array Oper} {Q : Exit → Act → World → Prop} {md : Region.Mode} {S : World → Prop} {ds : List Nat} (i : Nat) (n_ : Tmp) {oi : Oper} {fuel : Nat} {l : Array Bool} {a : Act} {w : World} (l' : Array Bool) {a' : Act} (h : wpAnyLast P md ops Q S ds fuel l' a' w) (hi : ops[i]? = some oi := by exact rfl) (hN : oi.dst = some n_ := by exact rfl) (hc : anyB md ops l l' i = true := by exact any_of HT_.out (by kernel_rfl))
  (hQ : ∀ c a w, Q (.panic c) (a.put oi.dst undef) w → Q (.panic c) a w := by exact fun _ _ _ h => h) (hy : Yields P ops oi undef a := by exact Or.inr ⟨by rfl, rfl⟩) (ha : a.put (some n_) undef = a' := by simp only [Act.put, List.setIfInBounds_toArray, List.set_cons_zero, List.set_cons_succ, i64_w, i32_w]; rfl) : wpAnyLast P md ops Q S ds (fuel + 1) l a w := pure_ l' hi hN hc hQ hy ha h
theorem pn_n {P : Program} {ops : Array Oper} {Q : Exit → Act → World → Prop} {md : Region.Mode} {S : World → Prop} {ds : List Nat} (i : Nat) {oi : Oper} {fuel : Nat} {l : Array Bool} {a : Act} {w : World} (l' : Array Bool) {a' : Act} (h : wpAnyLast P md ops Q S ds fuel l' a' w) (hi : ops[i]? = some oi := by exact rfl) (hN : oi.dst = none := by exact rfl) (hc : anyB md ops l l' i = true := by exact any_of HT_.out (by kernel_rfl))
  (hQ : ∀ c a w, Q (.panic c) (a.put oi.dst undef) w → Q (.panic c) a w := by exact fun _ _ _ h => h) (hy : Yields P ops oi undef a := by exact Or.inr ⟨by rfl, rfl⟩) (ha : a.put none undef = a' := by simp only [Act.put, List.setIfInBounds_toArray, List.set_cons_zero, List.set_cons_succ, i64_w, i32_w]; rfl) : wpAnyLast P md ops Q S ds (fuel + 1) l a w := pure_ l' hi hN hc hQ hy ha h
theorem pm_ {P : Program} {ops : Array Oper} {Q : Exit → Act → World → Prop} {md : Region.Mode} {S : World → Prop} {ds : List Nat} (i : Nat) (n_ : Tmp) {oi : Oper} {fuel : Nat} {l : Array Bool} {a : Act} {w : World} (l' : Array Bool) {a' : Act} (h : wpAnyLast P md ops Q S ds fuel l' a' w) (hi : ops[i]? = some oi := by exact rfl) (hN : oi.dst = some n_ := by exact rfl) (hc : anyB md ops l l' i = true := by kernel_rfl)
  (hQ : ∀ c a w, Q (.panic c) (a.put oi.dst undef) w → Q (.panic c) a w := by exact fun _ _ _ h => h) (hy : Yields P ops oi undef a := by exact Or.inr ⟨by rfl, rfl⟩) (ha : a.put (some n_) undef = a' := by simp only [Act.put, List.setIfInBounds_toArray, List.set_cons_zero, List.set_cons_succ, i64_w, i32_w]; rfl) : wpAnyLast P md ops Q S ds (fuel + 1) l a w := pure_ l' hi hN hc hQ hy ha h
theorem pm_n {P : Program} {ops : Array Oper} {Q : Exit → Act → World → Prop} {md : Region.Mode} {S : World → Prop} {ds : List Nat} (i : Nat) {oi : Oper} {fuel : Nat} {l : Array Bool} {a : Act} {w : World} (l' : Array Bool) {a' : Act} (h : wpAnyLast P md ops Q S ds fuel l' a' w) (hi : ops[i]? = some oi := by exact rfl) (hN : oi.dst = none := by exact rfl) (hc : anyB md ops l l' i = true := by kernel_rfl)
  (hQ : ∀ c a w, Q (.panic c) (a.put oi.dst undef) w → Q (.panic c) a w := by exact fun _ _ _ h => h) (hy : Yields P ops oi undef a := by exact Or.inr ⟨by rfl, rfl⟩) (ha : a.put none undef = a' := by simp only [Act.put, List.setIfInBounds_toArray, List.set_cons_zero, List.set_cons_succ, i64_w, i32_w]; rfl) : wpAnyLast P md ops Q S ds (fuel + 1) l a w := pure_ l' hi hN hc hQ hy ha h
theorem pt_ {p : Prop} (h : p := by simp only [Act.put, List.setIfInBounds_toArray, List.set_cons_zero, List.set_cons_succ, i64_w, i32_w]; rfl) : p := h
theorem nlt_ {w W : World} {g g' : Nat} {o : Obj} (h : Aside0 (W.heap[g]? = some o)) (hg : g' = w.heap.size) (k : W.heap[g]? = some o → w.heap[g]? = some o := by intro h_; (with_reducible repeat (first | refine blk_drewN ?_ _ | refine blk_drew ?_ | refine blk_alloc ?_ _)); exact h_) : Aside0 (g ≠ g') := ⟨hg ▸ Nat.ne_of_lt (blk_lt (k h.out))⟩
theorem ngt_ {w W : World} {g g' : Nat} {o : Obj} (h : Aside0 (W.heap[g]? = some o)) (hg : g' = w.heap.size) (k : W.heap[g]? = some o → w.heap[g]? = some o := by intro h_; (with_reducible repeat (first | refine blk_drewN ?_ _ | refine blk_drew ?_ | refine blk_alloc ?_ _)); exact h_) : Aside0 (g' ≠ g) := ⟨hg ▸ Nat.ne_of_gt (blk_lt (k h.out))⟩
theorem bx_ {P : Program} {ops : Array Oper} {rest : List Oper} {Q : Exit → Act → World → Prop} {o : Oper} {a : Act} {W : World} (N : Tmp) {cs : Array Value} {t : TypeId} (h : ∀ g, g = W.heap.size → ∀ w1, w1.heap[g]? = some (.cells cs t (0, 0)) → Below W.heap.size W w1 → wpList P ops Q rest (a.put o.dst (.pointer (some ⟨g, 0, none⟩))) w1)
    (hgd : o.guard = none := by rfl) (hd : o.dst = some N := by rfl) (hrun : (execOp a.eval o).run P W = .ok (.value (.pointer (some ⟨W.heap.size, 0, none⟩))) (W.alloc (.cells cs t (0, 0))) := by first | (go_simp; done) | (go_simp; rfl)) : wpList P ops Q (o :: rest) a W := box_event hgd hd hrun h
theorem er_ {p : Prop} (h : p := by first | rfl | (simp [errW_none, errW_some] <;> rfl) | (simp [*, errW_none, errW_some] <;> rfl)) : p := h
abbrev y : Bool := true
abbrev n : Bool := false
abbrev q0_ : Array Bool := #[y,y,y,y,n,y,y,y,y,y,n,y,y,n,n]
abbrev q1_ : Array Bool := #[y,y,y,y,y,y,y,y,y,y,n,n,y,n,n]
abbrev q2_ : Array Bool := #[y,y,y,y,y,y,y,y,y,y,n,y,n,n,n]
abbrev q3_ : Array Bool := #[y,y,y,y,y,y,y,y,y,y,n,y,y,n,n]
abbrev q4_ : Array Bool := #[y,y,y,y,y,y,y,y,y,y,y,n,y,n,n]
abbrev q5_ : Array Bool := #[y,y,y,y,y,y,y,y,y,y,y,y,n,n,n]
abbrev q6_ : Array Bool := #[y,y,y,y,y,y,y,y,y,y,y,y,y,n,n]
end Go.Proofs.YtdgbecllbldcaaaW.PrintWords
