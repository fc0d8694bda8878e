/- Words of my own on calls of function values, on min and max, and short forms; conditions stand in each. -/
import Derived.Test.YtdbjoopkliafeaaCShapeAreasV0
import Derived.Test.YtdbjoopkliafeaaProg
import Derived.Lib.SliceRun
import Derived.WalkSpells
import Derived.Below
import Derived.Deep.Draws
import Derived.Deep.AppendLies
import Derived.Maps.AppendAt
import Derived.OwnWalk
import Derived.Laws.BytesArg
import Derived.Laws.MakeOwn
import Derived.Laws.OwnMore
import Derived.Deep.OwnRows
import Derived.Tactics
import Derived.Lib.ConvBytes
import Derived.Laws.Slices
import Derived.WalkKit
import Derived.KernelRfl
import Derived.RowKit3
import Derived.Deep.LoopGhost
import Derived.Deep.QuietTactic
import Derived.BigQuiet
import Derived.WideLaws
import Derived.Deep.DeepCutAuto
import Derived.Deep.CutBlock
import Derived.Deep.RegionHeld3
import Derived.Laws.Rows
import Derived.Lib.AppendStr
import Derived.ArgAppend
import Derived.Laws.IdiomCopy
import Derived.OrdersHeld
import Derived.Laws.BitsLemmas
import Derived.RowKit
section
namespace Go.Proofs.Ytdbjoopkliafeaa.P
open Go Go.RowKit Go.Proofs.YtdbjoopkliafeaaW.PrintWords Go.Proofs.YtdbjoopkliafeaaW.PrintLast Go.Proofs.YtdbjoopkliafeaaW.PrintMore
section
variable {P : Program} {ops : Array Oper} {Q : Exit → Act → World → Prop}
theorem gate_calleeV {rest : List Oper} {o : Oper} {a : Act} {W : World} {t : Operand} {os : Array Operand} {ts : Array TypeId} (_ho : o.op = .call { callee := .value t, args := os, argTypes := ts }) (h : wpList P ops Q (o :: rest) a W) : wpList P ops Q (o :: rest) a W := h
theorem goesV_ {rest : List Oper} {oi : Oper} {a : Act} {w : World} (N : Option Tmp) (hd : oi.dst = N) (hg : oi.guard = none) {f : FuncId} {fn : Func} {os : Array Operand} {ts : Array TypeId} (hf : P.funcs[f]? = some fn) (hname : (fn.name == "runtime.NumGoroutine") = false) (hb : fn.body.isSome = true) (args : Array Value) {t : Operand} {first cap : Array Value}
    (hop : oi.op = .call { callee := .value t, args := os, argTypes := ts }) (ht : a.eval t = .func (.func f) first cap) (hargs : (first ++ os.map a.eval) ++ cap = args)
    (h : Calls P f args w fun e w' => ∃ v, e = .returned v ∧ wpList P ops Q rest (a.put N v) w') : wpList P ops Q (oi :: rest) a w := by
  refine wpList_plain hg fun K hK => ?_
  have he := enters_ hf hname hb args w
  have hrun : (execOp a.eval oi).run P w = .ok (.enter f args) w := by
    unfold execOp
    simp [hop, ht, resolve, Deferred.ofValue, invoke, hargs, he]
  unfold Oper.wp
  rw [hrun, Oper.upon_enter]
  refine h.mono fun e w'' hh => ?_
  obtain ⟨v, rfl, hk⟩ := hh
  subst hd
  exact hK _ _ hk
theorem goesW_ {rest : List Oper} {oi : Oper} {a : Act} {w : World} (N : Option Tmp) (hd : oi.dst = N) (hg : oi.guard = none) {f : FuncId} {fn : Func} {os : Array Operand} {ts : Array TypeId} (hf : P.funcs[f]? = some fn) (hname : (fn.name == "runtime.NumGoroutine") = false) (hb : fn.body.isSome = true) (args : Array Value) {t : Operand} (cap : Array Value)
    (hop : oi.op = .call { callee := .value t, args := os, argTypes := ts }) (ht : a.eval t = .func (.func f) #[] cap) (hargs : os.map a.eval = args)
    (h : Calls P f (args ++ cap) w fun e w' => ∃ v, e = .returned v ∧ wpList P ops Q rest (a.put N v) w') : wpList P ops Q (oi :: rest) a w :=
  goesV_ N hd hg hf hname hb (args ++ cap) hop ht (by rw [hargs, Array.empty_append]) h
end
theorem max_five (ats : Array TypeId) (ty : TypeId) (a b c d e : Value) : Builtin.max_ ats ty #[a, b, c, d, e] = (Builtin.max2 a b >>= fun s => Builtin.max2 s c >>= fun s => Builtin.max2 s d >>= fun s => Builtin.max2 s e >>= fun s => pure s) := by simp only [Builtin.max_, List.foldlM_cons, List.foldlM_nil]
theorem max_eight (ats : Array TypeId) (ty : TypeId) (a b c d e f g h : Value) : Builtin.max_ ats ty #[a, b, c, d, e, f, g, h] = (Builtin.max2 a b >>= fun s => Builtin.max2 s c >>= fun s => Builtin.max2 s d >>= fun s => Builtin.max2 s e >>= fun s => Builtin.max2 s f >>= fun s => Builtin.max2 s g >>= fun s => Builtin.max2 s h >>= fun s => pure s) := by simp only [Builtin.max_, List.foldlM_cons, List.foldlM_nil]
theorem min_eight (ats : Array TypeId) (ty : TypeId) (a b c d e f g h : Value) : Builtin.min_ ats ty #[a, b, c, d, e, f, g, h] = (Builtin.min2 a b >>= fun s => Builtin.min2 s c >>= fun s => Builtin.min2 s d >>= fun s => Builtin.min2 s e >>= fun s => Builtin.min2 s f >>= fun s => Builtin.min2 s g >>= fun s => Builtin.min2 s h >>= fun s => pure s) := by simp only [Builtin.min_, List.foldlM_cons, List.foldlM_nil]
def rowfn.f (g : Int → Option (Int × Int)) (i : Int) : Option (Int × Int) := g i
def fnc67 : Unit := ()
theorem fld24_1 (x0 x1 : Value) (W : World) : (Instr.field 24 (.agg #[x0, x1]) 1).run Try.prog W = .ok x1 W := by kernel_rfl
attribute [go_sem] fld24_1
end Go.Proofs.Ytdbjoopkliafeaa.P
end
namespace Go.Proofs.YtdbjoopkliafeaaW.PrintWords
open Go Go.RowKit Go.Proofs.YtdbjoopkliafeaaW.PrintLast Go.Proofs.YtdbjoopkliafeaaW.PrintMore

/-! ### short words for pieces that the printed proofs repeat -/
theorem be_ {w W : World} {b : Nat} (h : Below b w W := by repeat (first | (with_reducible first | exact HB.out | apply below_alloc | apply pw_below_drewN | apply below_drew1 | refine below_set ?_ (Aside0.out (by assumption))) | exact HB.out)) : Below b w W := h
theorem bz_ {w W : World} (h : Below w.heap.size w W := by exact be_) : w.heap.size ≤ W.heap.size := below_size h
theorem bs_ {w W w2 : World} (k : Below W.heap.size W w2) (h : Below w.heap.size w W := by exact be_) : Below w.heap.size w w2 := below_step h k
theorem fb_ {p q : Prop} (h : p) (k : p → q := by intro h_; (with_reducible repeat (first | refine blk_drewN ?_ _ | refine blk_drew ?_ | refine blk_alloc ?_ _)); exact h_) : q := k h
theorem kR_ {α : Type} {k : Kd α} {t : TypeId} {W w w1 : World} {base : Nat} {ok : Nat → Prop} {v : Value} {l : List α} (h : Aside0 (Kd.R k t W base ok v l)) (hb : Below w.heap.size w w1) (m : Kd.R k t W base ok v l → Kd.R k t w base ok v l := by intro h_; (with_reducible repeat (first | apply Kd.R_alloc | apply Kd.R_drewN | apply Kd.R_drew)); exact h_) : Aside0 (Kd.R k t w1 base ok v l) := ⟨Kd.R_below (m h.out) hb⟩
theorem kV_ {α : Type} {k : Kd α} {t : TypeId} {W w w1 : World} {base : Nat} {ok : Nat → Prop} {v : Value} {l : List α} (h : Aside0 (Kd.V k t W base ok v l)) (hb : Below w.heap.size w w1) (m : Kd.V k t W base ok v l → Kd.V k t w base ok v l := by intro h_; (with_reducible repeat (first | apply Kd.V_alloc | apply Kd.V_drewN | apply Kd.V_drew)); exact h_) : Aside0 (Kd.V k t w1 base ok v l) := ⟨Kd.V_below (m h.out) hb⟩
theorem kN_ {α : Type} {k : Kd α} {t : TypeId} {W w w1 : World} {base : Nat} {ok : Nat → Prop} {v : Value} {l : List α} (h : Aside0 (Kd.N k t W base ok v l)) (hb : Below w.heap.size w w1) (m : Kd.N k t W base ok v l → Kd.N k t w base ok v l := by intro h_; (with_reducible repeat (first | apply Kd.N_alloc | apply Kd.N_drewN | apply Kd.N_drew)); exact h_) : Aside0 (Kd.N k t w1 base ok v l) := ⟨Kd.N_below (m h.out) hb⟩
theorem fR_ {p q : Prop} (h : p) (k : p → q := by intro h_; (with_reducible repeat (first | apply Kd.R_alloc | apply Kd.R_drewN | apply Kd.R_drew)); exact h_) : q := k h
theorem fV_ {p q : Prop} (h : p) (k : p → q := by intro h_; (with_reducible repeat (first | apply Kd.V_alloc | apply Kd.V_drewN | apply Kd.V_drew)); exact h_) : q := k h
theorem fN_ {p q : Prop} (h : p) (k : p → q := by intro h_; (with_reducible repeat (first | apply Kd.N_alloc | apply Kd.N_drewN | apply Kd.N_drew)); exact h_) : q := k h
theorem fC_ {p q : Prop} (h : p) (k : p → q := by intro h_; (with_reducible repeat (first | apply Kd.C_alloc | apply Kd.C_drewN | apply Kd.C_drew)); exact h_) : q := k h
theorem la_ {p : Prop} (h : p := by (try simp only [List.map_toArray, List.map_cons, List.map_nil]); first | done | rfl | (simp only [List.length_drop, List.length_take]; rfl)) : p := h
theorem A_ {p : Prop} (h : p) : Aside0 p := ⟨h⟩
theorem bA_ {w W w2 : World} (k : Below W.heap.size W w2) (h : Below w.heap.size w W := by exact be_) : Aside0 (Below w.heap.size w w2) := ⟨below_step h k⟩
theorem bb_ {w w1 W : World} {g : Nat} {o : Obj} (h : Aside0 (W.heap[g]? = some o)) (hb : Below w.heap.size w w1) (k : W.heap[g]? = some o → w.heap[g]? = some o := by intro h_; (with_reducible repeat (first | refine blk_drewN ?_ _ | refine blk_drew ?_ | refine blk_alloc ?_ _)); exact h_) : Aside0 (w1.heap[g]? = some o) := ⟨blk_below (k h.out) hb⟩
theorem gz_ {w W : World} {g : Nat} (hg : g = W.heap.size) (h : Below w.heap.size w W := by exact be_) : Aside0 (w.heap.size ≤ g) := ⟨hg ▸ below_size h⟩
theorem cz0_ {w : World} {g : Nat} {t : TypeId} {a : Value} {l : List Value} (h : Aside0 (w.heap[g]? = some (.cells (List.toArray (a :: l)) t (0, 0)))) : w.cell? ⟨g, 0, none⟩ = some a := (blk_cell h.out 0).trans rfl
theorem cz1_ {w : World} {g : Nat} {t : TypeId} {a b : Value} {l : List Value} (h : Aside0 (w.heap[g]? = some (.cells (List.toArray (a :: b :: l)) t (0, 0)))) : w.cell? ⟨g, 1, none⟩ = some b := (blk_cell h.out 1).trans rfl
theorem cz2_ {w : World} {g : Nat} {t : TypeId} {a b c : Value} {l : List Value} (h : Aside0 (w.heap[g]? = some (.cells (List.toArray (a :: b :: c :: l)) t (0, 0)))) : w.cell? ⟨g, 2, none⟩ = some c := (blk_cell h.out 2).trans rfl
theorem cz3_ {w : World} {g : Nat} {t : TypeId} {a b c d : Value} {l : List Value} (h : Aside0 (w.heap[g]? = some (.cells (List.toArray (a :: b :: c :: d :: l)) t (0, 0)))) : w.cell? ⟨g, 3, none⟩ = some d := (blk_cell h.out 3).trans rfl
theorem ne_ {p q : Prop} (h : p) (k : p → q := by intro h_; first | exact h_ | (rw [add_block]; exact h_) | (show (Addr.add _ _).block ≠ _; rw [add_block]; exact h_) | (dsimp only; exact h_)) : q := k h
theorem nl_ {w : World} {a : Addr} {v : Value} {g b : Nat} (h : w.cell? a = some v) (k : Aside0 (w.heap.size ≤ g)) (e : a.block = b := by first | rfl | exact add_block _ _ | (rw [add_block])) : b ≠ g := Nat.ne_of_lt (Nat.lt_of_lt_of_le (e ▸ World.block_lt_of_cell? _ _ h) k.out)
theorem bc_ {w W : World} {a : Addr} {v : Value} (hb : Aside0 (Below w.heap.size w W)) (h : w.cell? a = some v) : W.cell? a = some v := (hb.out.cell (World.block_lt_of_cell? w _ h)).trans h
theorem as_ {p : Prop} [Decidable p] (h : decide p = true := by first | (with_reducible assumption) | assumption) : p := of_decide_eq_true h
theorem er_ {p : Prop} (h : p := by first | rfl | (simp [errW_none, errW_some] <;> rfl) | (simp [*, errW_none, errW_some] <;> rfl)) : p := h
end Go.Proofs.YtdbjoopkliafeaaW.PrintWords
