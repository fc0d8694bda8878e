/- Functions of the program: what each computes, and that the call computes it; conditions: the fuel that the plain function asks for. -/
import Derived.Test.YtdbjoopkliafeaaCShapeLogsV1
import Derived.Test.YtdbjoopkliafeaaProg
import Derived.Below
import Derived.Deep.Draws
import Derived.Deep.AppendLies
import Derived.Maps.AppendAt
import Derived.OwnWalk
import Derived.Laws.BytesArg
import Derived.Laws.MakeOwn
import Derived.Laws.OwnMore
import Derived.Deep.OwnRows
import Derived.Tactics
import Derived.Lib.ConvBytes
import Derived.Laws.Slices
import Derived.WalkKit
import Derived.KernelRfl
import Derived.RowKit3
import Derived.Deep.LoopGhost
import Derived.Deep.QuietTactic
import Derived.BigQuiet
import Derived.WideLaws
import Derived.Deep.DeepCutAuto
import Derived.Deep.CutBlock
import Derived.Deep.RegionHeld3
import Derived.Laws.Rows
import Derived.Lib.AppendStr
import Derived.ArgAppend
import Derived.Laws.IdiomCopy
import Derived.OrdersHeld
import Derived.Laws.BitsLemmas
import Derived.RowKit
section
namespace Go.Proofs.Ytdbjoopkliafeaa.P
open Go Go.RowKit Go.Proofs.YtdbjoopkliafeaaW.PrintWords Go.Proofs.YtdbjoopkliafeaaW.PrintLast Go.Proofs.YtdbjoopkliafeaaW.PrintMore
attribute [local go_sem] max2_int min2_int max_two min_two max_three min_three max_four min_four max_five min_eight max_eight   -- for this text's walks alone
set_option linter.unusedVariables false
set_option linter.unusedSimpArgs false



def errW : Option Int → Value
 | none => .nilIface
 | some c => .iface 0 (.int .i64 c)
theorem errW_none : errW none = .nilIface := rfl
theorem errW_some (c : Int) : errW (some c) = .iface 0 (.int .i64 c) := rfl

theorem info3 : (Try.prog.info? 3).map (fun i => (i.zero, i.size, i.bytes)) = some (some (.int .i64 0), 1, 8) := by kernel_rfl
theorem info36 : (Try.prog.info? 36).map (fun i => (i.zero, i.size, i.bytes)) = some (some (.agg #[(.int .i64 0), (.int .i64 0), (.slice none 0 0)]), 3, 40) := by kernel_rfl
theorem info49 : (Try.prog.info? 49).map (fun i => (i.zero, i.size, i.bytes)) = some (some (.agg #[(.int .i64 0), (.int .i64 0)]), 2, 16) := by kernel_rfl
theorem info72 : (Try.prog.info? 72).map (fun i => (i.zero, i.size, i.bytes)) = some (some (.agg #[(.int .i64 0), (.int .i64 0), (.int .i64 0), (.slice none 0 0)]), 4, 48) := by kernel_rfl
-- the values' own types
structure S49 where
 f0 : Int
 f1 : Int
def z49 : S49 := ⟨(0 : Int), (0 : Int)⟩
def k49 : Kd S49 := Kd.iso (Kd.pair (Kd.int .i64) (Kd.int .i64)) (fun x : S49 => (x.f0, x.f1))
theorem k49_heap : Kd.Heap k49 := Kd.heap_iso _ (Kd.heap_pair (Kd.heap_int .i64) (Kd.heap_int .i64))
theorem k49_open {w : World} {x : S49} {cs : List Value} (h : k49.K w x cs) : cs = [.int .i64 x.f0, .int .i64 x.f1] := by
 obtain ⟨_, _, rfl, rfl, rfl⟩ := h
 exact rfl
theorem k49_openM {w : World} {base : Nat} {ok : Nat → Prop} {x : S49} {cs : List Value} (h : k49.M w base ok x cs) : cs = [.int .i64 x.f0, .int .i64 x.f1] := by
 obtain ⟨_, _, rfl, rfl, rfl⟩ := h
 exact rfl
theorem k49_mk (w : World) (x : S49)  : k49.K w x [.int .i64 x.f0, .int .i64 x.f1] := ⟨[.int .i64 x.f0], [.int .i64 x.f1], rfl, rfl, rfl⟩
theorem k49_mkM (w : World) (base : Nat) (ok : Nat → Prop) (x : S49)  : k49.M w base ok x [.int .i64 x.f0, .int .i64 x.f1] := ⟨[.int .i64 x.f0], [.int .i64 x.f1], rfl, rfl, rfl⟩
theorem k49_mkF (W : World) (ok : Nat → Prop) (x : S49) : Kd.FK k49 W ok x [.int .i64 x.f0, .int .i64 x.f1] := fun W2 _ => k49_mk W2 x
def rd_T49 (xs : List S49) (i : Int) : S49 := xs.getD i.toNat z49
theorem at_T49 {w : World} {A : Option Addr} {n : Nat} {xs : List S49} (h : Kd.C k49 w A n xs) (i : Int) (h0 : 0 ≤ i) (h1 : i < n) : ∃ ad , A = some ad ∧ w.cell? (ad.add (i.toNat * 2)) = some (.int .i64 (rd_T49 xs i).f0) ∧ w.cell? ⟨(ad.add (i.toNat * 2)).block, (ad.add (i.toNat * 2)).off + 1, none⟩ = some (.int .i64 (rd_T49 xs i).f1) := by
 obtain ⟨ad, c, e, _, hK, hc0⟩ := Kd.C_get h z49 i h0 h1
 have hc : ∀ j u, c[j]? = some u → w.cell? (ad.add (i.toNat * 2 + j)) = some u := hc0
 obtain rfl := k49_open hK
 exact ⟨ad, e, hc 0 _ rfl, by rw [← add_field _ _ 1 (by omega)]; exact hc 1 _ rfl⟩

def rd_L2 (xs : List (List S49)) (i : Int) : (List S49) := xs.getD i.toNat ([] : List S49)
theorem at_L2 {w : World} {A : Option Addr} {n : Nat} {xs : List (List S49)} (h : Kd.C (Kd.slice 49 k49) w A n xs) (i : Int) (h0 : 0 ≤ i) (h1 : i < n) : ∃ ad A0 c0, A = some ad ∧ w.cell? (ad.add i.toNat) = some (.slice A0 (rd_L2 xs i).length c0) ∧ (rd_L2 xs i).length ≤ c0 ∧ k49.C w A0 (rd_L2 xs i).length (rd_L2 xs i) := by
 obtain ⟨ad, c, e, _, hK, hc0⟩ := Kd.C_get h ([] : List S49) i h0 h1
 have hc : ∀ j u, c[j]? = some u → w.cell? (ad.add (i.toNat * 1 + j)) = some u := hc0
 obtain ⟨A0, c0, rfl, l0, g0⟩ := hK
 exact ⟨ad, A0, c0, e, by have hq := hc 0 _ rfl; rwa [Nat.mul_one, Nat.add_zero] at hq, l0, g0⟩

structure S24 where
 f0 : Int
 f1 : (List S49)
def z24 : S24 := ⟨(0 : Int), ([] : List S49)⟩
def k24 : Kd S24 := Kd.iso (Kd.pair (Kd.int .i64) (Kd.slice 49 k49)) (fun x : S24 => (x.f0, x.f1))
theorem k24_heap : Kd.Heap k24 := Kd.heap_iso _ (Kd.heap_pair (Kd.heap_int .i64) (Kd.heap_slice 49 k49_heap))
theorem k24_open {w : World} {x : S24} {cs : List Value} (h : k24.K w x cs) : ∃ A1 c1, cs = [.int .i64 x.f0, .slice A1 x.f1.length c1] ∧ x.f1.length ≤ c1 ∧ k49.C w A1 x.f1.length x.f1 := by
 obtain ⟨_, _, rfl, rfl, ⟨A1, c1, rfl, l1, g1⟩⟩ := h
 exact ⟨A1, c1, rfl, l1, g1⟩
theorem k24_openM {w : World} {base : Nat} {ok : Nat → Prop} {x : S24} {cs : List Value} (h : k24.M w base ok x cs) : ∃ v1, cs = [.int .i64 x.f0, v1] ∧ k49.R 49 w base ok v1 x.f1 := by
 obtain ⟨_, _, rfl, rfl, ⟨v1, rfl, g1⟩⟩ := h
 exact ⟨v1, rfl, g1⟩
theorem k24_mk (w : World) (x : S24) {A1 : Option Addr} {c1 : Nat} (l1 : x.f1.length ≤ c1) (g1 : k49.C w A1 x.f1.length x.f1) : k24.K w x [.int .i64 x.f0, .slice A1 x.f1.length c1] := ⟨[.int .i64 x.f0], [.slice A1 x.f1.length c1], rfl, rfl, ⟨A1, c1, rfl, l1, g1⟩⟩
theorem k24_mkM (w : World) (base : Nat) (ok : Nat → Prop) (x : S24) {v1 : Value} (g1 : k49.R 49 w base ok v1 x.f1) : k24.M w base ok x [.int .i64 x.f0, v1] := ⟨[.int .i64 x.f0], [v1], rfl, rfl, ⟨v1, rfl, g1⟩⟩
theorem k24_openF {W : World} {ok : Nat → Prop} {x : S24} {cs : List Value} (h : Kd.FK k24 W ok x cs) : ∃ A1 c1, cs = [.int .i64 x.f0, .slice A1 x.f1.length c1] ∧ x.f1.length ≤ c1 ∧ Kd.F k49 W ok A1 x.f1.length x.f1 := by
 obtain ⟨A1, c1, rfl, l1, _⟩ := k24_open (Kd.FK_now h)
 exact ⟨A1, c1, rfl, l1, (fun W' hW => by obtain ⟨A1_, c1_, he, l1_, g1_⟩ := k24_open (h W' hW); injection (Option.some.inj (show some (Value.slice A1 x.f1.length c1) = some (Value.slice A1_ x.f1.length c1_) from congrArg (fun l => l[1]?) he)) with ha_ _ _; rw [ha_]; exact g1_)⟩
theorem k24_mkF (W : World) (ok : Nat → Prop) (x : S24) {A1 : Option Addr} {c1 : Nat} (l1 : x.f1.length ≤ c1) (g1 : Kd.F k49 W ok A1 x.f1.length x.f1) : Kd.FK k24 W ok x [.int .i64 x.f0, .slice A1 x.f1.length c1] := fun W2 hW => k24_mk W2 x l1 (g1 W2 hW)
def rd_T24 (xs : List S24) (i : Int) : S24 := xs.getD i.toNat z24
theorem at_T24 {w : World} {A : Option Addr} {n : Nat} {xs : List S24} (h : Kd.C k24 w A n xs) (i : Int) (h0 : 0 ≤ i) (h1 : i < n) : ∃ ad A1 c1, A = some ad ∧ w.cell? (ad.add (i.toNat * 2)) = some (.int .i64 (rd_T24 xs i).f0) ∧ w.cell? ⟨(ad.add (i.toNat * 2)).block, (ad.add (i.toNat * 2)).off + 1, none⟩ = some (.slice A1 (rd_T24 xs i).f1.length c1) ∧ (rd_T24 xs i).f1.length ≤ c1 ∧ k49.C w A1 (rd_T24 xs i).f1.length (rd_T24 xs i).f1 := by
 obtain ⟨ad, c, e, _, hK, hc0⟩ := Kd.C_get h z24 i h0 h1
 have hc : ∀ j u, c[j]? = some u → w.cell? (ad.add (i.toNat * 2 + j)) = some u := hc0
 obtain ⟨A1, c1, rfl, l1, g1⟩ := k24_open hK
 exact ⟨ad, A1, c1, e, hc 0 _ rfl, by rw [← add_field _ _ 1 (by omega)]; exact hc 1 _ rfl, l1, g1⟩

structure S36 where
 f0 : Int
 f1 : S24
def z36 : S36 := ⟨(0 : Int), z24⟩
def k36 : Kd S36 := Kd.iso (Kd.pair (Kd.int .i64) k24) (fun x : S36 => (x.f0, x.f1))
theorem k36_heap : Kd.Heap k36 := Kd.heap_iso _ (Kd.heap_pair (Kd.heap_int .i64) k24_heap)
theorem k36_open {w : World} {x : S36} {cs : List Value} (h : k36.K w x cs) : ∃ A2 c2, cs = [.int .i64 x.f0, .int .i64 x.f1.f0, .slice A2 x.f1.f1.length c2] ∧ x.f1.f1.length ≤ c2 ∧ k49.C w A2 x.f1.f1.length x.f1.f1 := by
 obtain ⟨_, _, rfl, rfl, s1⟩ := h
 obtain ⟨A2, c2, rfl, l2, g2⟩ := k24_open s1
 exact ⟨A2, c2, rfl, l2, g2⟩
theorem k36_openM {w : World} {base : Nat} {ok : Nat → Prop} {x : S36} {cs : List Value} (h : k36.M w base ok x cs) : ∃ v2, cs = [.int .i64 x.f0, .int .i64 x.f1.f0, v2] ∧ k49.R 49 w base ok v2 x.f1.f1 := by
 obtain ⟨_, _, rfl, rfl, s1⟩ := h
 obtain ⟨v2, rfl, g2⟩ := k24_openM s1
 exact ⟨v2, rfl, g2⟩
theorem k36_mk (w : World) (x : S36) {A2 : Option Addr} {c2 : Nat} (l2 : x.f1.f1.length ≤ c2) (g2 : k49.C w A2 x.f1.f1.length x.f1.f1) : k36.K w x [.int .i64 x.f0, .int .i64 x.f1.f0, .slice A2 x.f1.f1.length c2] := ⟨[.int .i64 x.f0], [.int .i64 x.f1.f0, .slice A2 x.f1.f1.length c2], rfl, rfl, (k24_mk w x.f1 l2 g2)⟩
theorem k36_mkM (w : World) (base : Nat) (ok : Nat → Prop) (x : S36) {v2 : Value} (g2 : k49.R 49 w base ok v2 x.f1.f1) : k36.M w base ok x [.int .i64 x.f0, .int .i64 x.f1.f0, v2] := ⟨[.int .i64 x.f0], [.int .i64 x.f1.f0, v2], rfl, rfl, (k24_mkM w base ok x.f1 g2)⟩
theorem k36_openF {W : World} {ok : Nat → Prop} {x : S36} {cs : List Value} (h : Kd.FK k36 W ok x cs) : ∃ A2 c2, cs = [.int .i64 x.f0, .int .i64 x.f1.f0, .slice A2 x.f1.f1.length c2] ∧ x.f1.f1.length ≤ c2 ∧ Kd.F k49 W ok A2 x.f1.f1.length x.f1.f1 := by
 obtain ⟨A2, c2, rfl, l2, _⟩ := k36_open (Kd.FK_now h)
 exact ⟨A2, c2, rfl, l2, (fun W' hW => by obtain ⟨A2_, c2_, he, l2_, g2_⟩ := k36_open (h W' hW); injection (Option.some.inj (show some (Value.slice A2 x.f1.f1.length c2) = some (Value.slice A2_ x.f1.f1.length c2_) from congrArg (fun l => l[2]?) he)) with ha_ _ _; rw [ha_]; exact g2_)⟩
theorem k36_mkF (W : World) (ok : Nat → Prop) (x : S36) {A2 : Option Addr} {c2 : Nat} (l2 : x.f1.f1.length ≤ c2) (g2 : Kd.F k49 W ok A2 x.f1.f1.length x.f1.f1) : Kd.FK k36 W ok x [.int .i64 x.f0, .int .i64 x.f1.f0, .slice A2 x.f1.f1.length c2] := fun W2 hW => k36_mk W2 x l2 (g2 W2 hW)
def rd_T36 (xs : List S36) (i : Int) : S36 := xs.getD i.toNat z36
theorem at_T36 {w : World} {A : Option Addr} {n : Nat} {xs : List S36} (h : Kd.C k36 w A n xs) (i : Int) (h0 : 0 ≤ i) (h1 : i < n) : ∃ ad A2 c2, A = some ad ∧ w.cell? (ad.add (i.toNat * 3)) = some (.int .i64 (rd_T36 xs i).f0) ∧ w.cell? ⟨(ad.add (i.toNat * 3)).block, (ad.add (i.toNat * 3)).off + 1, none⟩ = some (.int .i64 (rd_T36 xs i).f1.f0) ∧ w.cell? ⟨(ad.add (i.toNat * 3)).block, (ad.add (i.toNat * 3)).off + 2, none⟩ = some (.slice A2 (rd_T36 xs i).f1.f1.length c2) ∧ (rd_T36 xs i).f1.f1.length ≤ c2 ∧ k49.C w A2 (rd_T36 xs i).f1.f1.length (rd_T36 xs i).f1.f1 := by
 obtain ⟨ad, c, e, _, hK, hc0⟩ := Kd.C_get h z36 i h0 h1
 have hc : ∀ j u, c[j]? = some u → w.cell? (ad.add (i.toNat * 3 + j)) = some u := hc0
 obtain ⟨A2, c2, rfl, l2, g2⟩ := k36_open hK
 exact ⟨ad, A2, c2, e, hc 0 _ rfl, by rw [← add_field _ _ 1 (by omega)]; exact hc 1 _ rfl, by rw [← add_field _ _ 2 (by omega)]; exact hc 2 _ rfl, l2, g2⟩

structure S72 where
 f0 : S49
 f1 : S24
def z72 : S72 := ⟨z49, z24⟩
def k72 : Kd S72 := Kd.iso (Kd.pair k49 k24) (fun x : S72 => (x.f0, x.f1))
theorem k72_heap : Kd.Heap k72 := Kd.heap_iso _ (Kd.heap_pair k49_heap k24_heap)
theorem k72_open {w : World} {x : S72} {cs : List Value} (h : k72.K w x cs) : ∃ A3 c3, cs = [.int .i64 x.f0.f0, .int .i64 x.f0.f1, .int .i64 x.f1.f0, .slice A3 x.f1.f1.length c3] ∧ x.f1.f1.length ≤ c3 ∧ k49.C w A3 x.f1.f1.length x.f1.f1 := by
 obtain ⟨_, _, rfl, s0, s2⟩ := h
 obtain rfl := k49_open s0
 obtain ⟨A3, c3, rfl, l3, g3⟩ := k24_open s2
 exact ⟨A3, c3, rfl, l3, g3⟩
theorem k72_openM {w : World} {base : Nat} {ok : Nat → Prop} {x : S72} {cs : List Value} (h : k72.M w base ok x cs) : ∃ v3, cs = [.int .i64 x.f0.f0, .int .i64 x.f0.f1, .int .i64 x.f1.f0, v3] ∧ k49.R 49 w base ok v3 x.f1.f1 := by
 obtain ⟨_, _, rfl, s0, s2⟩ := h
 obtain rfl := k49_openM s0
 obtain ⟨v3, rfl, g3⟩ := k24_openM s2
 exact ⟨v3, rfl, g3⟩
theorem k72_mk (w : World) (x : S72) {A3 : Option Addr} {c3 : Nat} (l3 : x.f1.f1.length ≤ c3) (g3 : k49.C w A3 x.f1.f1.length x.f1.f1) : k72.K w x [.int .i64 x.f0.f0, .int .i64 x.f0.f1, .int .i64 x.f1.f0, .slice A3 x.f1.f1.length c3] := ⟨[.int .i64 x.f0.f0, .int .i64 x.f0.f1], [.int .i64 x.f1.f0, .slice A3 x.f1.f1.length c3], rfl, (k49_mk w x.f0 ), (k24_mk w x.f1 l3 g3)⟩
theorem k72_mkM (w : World) (base : Nat) (ok : Nat → Prop) (x : S72) {v3 : Value} (g3 : k49.R 49 w base ok v3 x.f1.f1) : k72.M w base ok x [.int .i64 x.f0.f0, .int .i64 x.f0.f1, .int .i64 x.f1.f0, v3] := ⟨[.int .i64 x.f0.f0, .int .i64 x.f0.f1], [.int .i64 x.f1.f0, v3], rfl, (k49_mkM w base ok x.f0 ), (k24_mkM w base ok x.f1 g3)⟩
theorem k72_openF {W : World} {ok : Nat → Prop} {x : S72} {cs : List Value} (h : Kd.FK k72 W ok x cs) : ∃ A3 c3, cs = [.int .i64 x.f0.f0, .int .i64 x.f0.f1, .int .i64 x.f1.f0, .slice A3 x.f1.f1.length c3] ∧ x.f1.f1.length ≤ c3 ∧ Kd.F k49 W ok A3 x.f1.f1.length x.f1.f1 := by
 obtain ⟨A3, c3, rfl, l3, _⟩ := k72_open (Kd.FK_now h)
 exact ⟨A3, c3, rfl, l3, (fun W' hW => by obtain ⟨A3_, c3_, he, l3_, g3_⟩ := k72_open (h W' hW); injection (Option.some.inj (show some (Value.slice A3 x.f1.f1.length c3) = some (Value.slice A3_ x.f1.f1.length c3_) from congrArg (fun l => l[3]?) he)) with ha_ _ _; rw [ha_]; exact g3_)⟩
theorem k72_mkF (W : World) (ok : Nat → Prop) (x : S72) {A3 : Option Addr} {c3 : Nat} (l3 : x.f1.f1.length ≤ c3) (g3 : Kd.F k49 W ok A3 x.f1.f1.length x.f1.f1) : Kd.FK k72 W ok x [.int .i64 x.f0.f0, .int .i64 x.f0.f1, .int .i64 x.f1.f0, .slice A3 x.f1.f1.length c3] := fun W2 hW => k72_mk W2 x l3 (g3 W2 hW)
def rd_T72 (xs : List S72) (i : Int) : S72 := xs.getD i.toNat z72
theorem at_T72 {w : World} {A : Option Addr} {n : Nat} {xs : List S72} (h : Kd.C k72 w A n xs) (i : Int) (h0 : 0 ≤ i) (h1 : i < n) : ∃ ad A3 c3, A = some ad ∧ w.cell? (ad.add (i.toNat * 4)) = some (.int .i64 (rd_T72 xs i).f0.f0) ∧ w.cell? ⟨(ad.add (i.toNat * 4)).block, (ad.add (i.toNat * 4)).off + 1, none⟩ = some (.int .i64 (rd_T72 xs i).f0.f1) ∧ w.cell? ⟨(ad.add (i.toNat * 4)).block, (ad.add (i.toNat * 4)).off + 2, none⟩ = some (.int .i64 (rd_T72 xs i).f1.f0) ∧ w.cell? ⟨(ad.add (i.toNat * 4)).block, (ad.add (i.toNat * 4)).off + 3, none⟩ = some (.slice A3 (rd_T72 xs i).f1.f1.length c3) ∧ (rd_T72 xs i).f1.f1.length ≤ c3 ∧ k49.C w A3 (rd_T72 xs i).f1.f1.length (rd_T72 xs i).f1.f1 := by
 obtain ⟨ad, c, e, _, hK, hc0⟩ := Kd.C_get h z72 i h0 h1
 have hc : ∀ j u, c[j]? = some u → w.cell? (ad.add (i.toNat * 4 + j)) = some u := hc0
 obtain ⟨A3, c3, rfl, l3, g3⟩ := k72_open hK
 exact ⟨ad, A3, c3, e, hc 0 _ rfl, by rw [← add_field _ _ 1 (by omega)]; exact hc 1 _ rfl, by rw [← add_field _ _ 2 (by omega)]; exact hc 2 _ rfl, by rw [← add_field _ _ 3 (by omega)]; exact hc 3 _ rfl, l3, g3⟩

end Go.Proofs.Ytdbjoopkliafeaa.P

end
section
namespace Go.Proofs.Ytdbjoopkliafeaa.P
open Go Go.RowKit Go.Proofs.YtdbjoopkliafeaaW.PrintWords Go.Proofs.YtdbjoopkliafeaaW.PrintLast Go.Proofs.YtdbjoopkliafeaaW.PrintMore
attribute [local go_sem] max2_int min2_int max_two min_two max_three min_three max_four min_four max_five min_eight max_eight   -- for this text's walks alone
set_option linter.unusedVariables false
set_option linter.unusedSimpArgs false

theorem eqA49 (d : Nat) (w : World) (x0 y0 : Int) (x1 y1 : Int) :
  (Op.equalIn (d + 2) 49 (.agg #[.int .i64 x0, .int .i64 x1]) (.agg #[.int .i64 y0, .int .i64 y1])).run Try.prog w = .ok (x0 == y0 && (x1 == y1)) w := by
 refine eqA_of Try.underlying49 (by kernel_rfl) ?_
 refine eqf_cons (by rfl) (by go_simp; rfl) (by go_simp; rfl) (by go_simp) ?_
 exact eqf_last (by rfl) (by go_simp; rfl) (by go_simp; rfl) (by go_simp)
end Go.Proofs.Ytdbjoopkliafeaa.P

end
section
namespace Go.Proofs.Ytdbjoopkliafeaa.P
open Go Go.RowKit Go.Proofs.YtdbjoopkliafeaaW.PrintWords Go.Proofs.YtdbjoopkliafeaaW.PrintLast Go.Proofs.YtdbjoopkliafeaaW.PrintMore
attribute [local go_sem] max2_int min2_int max_two min_two max_three min_three max_four min_four max_five min_eight max_eight   -- for this text's walks alone
set_option linter.unusedVariables false
set_option linter.unusedSimpArgs false

def section_outside.f (a0_0 : Int) (a0_1 : Int) : Option (Bool) := if (mn a0_0 a0_1) < (-600) then (some true) else (some (decide ((mx a0_0 a0_1) > 600)))
set_option maxHeartbeats 8000000 in
set_option maxRecDepth 100000 in
theorem section_outside.calls (a0_0 : Int) (a0_1 : Int) (r : Bool) (w : World) (h : section_outside.f a0_0 a0_1 = some r) :
  Calls Try.prog 54 #[.agg #[.int .i64 a0_0, .int .i64 a0_1]] w fun e w' => e = .returned (.bool r) ∧ Below w.heap.size w w' := by
 have hu49 := Try.underlying49
 have HB := Aside0.mk (Below.refl w.heap.size w)
 have H : (if (mn a0_0 a0_1) < (-600) then (some true) else (some (decide ((mx a0_0 a0_1) > 600)))) = some r := h
 clear h
 obtain ⟨ji2, hji2⟩ : ∃ j_ : Int, (mn a0_0 a0_1) = j_ := ⟨_, rfl⟩
 replace H : (if (ji2) < (-600) then (some true) else (some (decide ((mx a0_0 a0_1) > 600)))) = some r := by first | (rw [hji2] at H; exact H) | (simp only [hji2] at H ⊢; exact H)
 have hji2_ : (if a0_1 < a0_0 then a0_1 else a0_0) = ji2 := hji2
 by_cases c3 : (ji2) < (-600)
 ·rw [if_pos c3] at H
  have c3b0 : decide ((ji2) < (-600)) = true := decide_eq_true c3
  clear c3
  obtain rfl := Option.some.inj H
  go_enter Try.func54, Try.ntmps54
  go_wp2_with (first | ((with_reducible refine gate_dst (N := 1) rfl ?_); (try (refine gate_guard (by rfl) ?_; dsimp only)); refine box_event ?hg (N := 1) ?hd (cs := #[.int .i64 a0_0, .int .i64 a0_1]) (t := 49) ?hr ?_; (case hd => rfl); (case hg => rfl); (case hr => first | (go_simp; done) | (go_simp; rfl)); intro gb54001 hg w4 hbox hb; have n0_ := Aside0.mk (bs_ hb); have n1_ := Aside0.mk (hbox); have n2_ := Aside0.mk ((by rw [hg]; exact bz_ : w.heap.size ≤ gb54001)); have n3_ := Aside0.mk ((by rw [hg]; exact bz_ : w.heap.size ≤ gb54001)); clear HB; have HB := n0_; have BK54001 := n1_; have GW54001 := n2_; have GE54001 := n3_; clear n0_ n1_ n2_ n3_ hb hbox hg; have hcz5_0 : w4.cell? ⟨gb54001, 0, none⟩ = some (.int .i64 a0_0) := (blk_cell BK54001.out 0).trans rfl; have hcz5_1 : w4.cell? ⟨gb54001, 1, none⟩ = some (.int .i64 a0_1) := (blk_cell BK54001.out 1).trans rfl; have hfz5_0 := blk_frozen BK54001.out 0; have hfz5_1 := blk_frozen BK54001.out 1))
  go_ret
  exact ⟨by first | rfl | (simp [errW_none, errW_some] <;> rfl) | (simp only [← hji2]; first | rfl | (simp [errW_none, errW_some] <;> rfl)) | (simp [*, errW_none, errW_some] <;> rfl), be_⟩
 ·rw [if_neg c3] at H
  have c3b0 : decide ((ji2) < (-600)) = false := decide_eq_false c3
  clear c3
  obtain ⟨ji6, hji6⟩ : ∃ j_ : Int, (mx a0_0 a0_1) = j_ := ⟨_, rfl⟩
  replace H : (some (decide ((ji6) > 600))) = some r := by first | (rw [hji6] at H; exact H) | (simp only [hji6] at H ⊢; exact H)
  have hji6_ : (if a0_0 < a0_1 then a0_1 else a0_0) = ji6 := hji6
  obtain rfl := Option.some.inj H
  go_enter Try.func54, Try.ntmps54
  go_wp2_with (first | ((with_reducible refine gate_dst (N := 1) rfl ?_); (try (refine gate_guard (by rfl) ?_; dsimp only)); refine box_event ?hg (N := 1) ?hd (cs := #[.int .i64 a0_0, .int .i64 a0_1]) (t := 49) ?hr ?_; (case hd => rfl); (case hg => rfl); (case hr => first | (go_simp; done) | (go_simp; rfl)); intro gb54001 hg w7 hbox hb; have n0_ := Aside0.mk (bs_ hb); have n1_ := Aside0.mk (hbox); have n2_ := Aside0.mk ((by rw [hg]; exact bz_ : w.heap.size ≤ gb54001)); have n3_ := Aside0.mk ((by rw [hg]; exact bz_ : w.heap.size ≤ gb54001)); clear HB; have HB := n0_; have BK54001 := n1_; have GW54001 := n2_; have GE54001 := n3_; clear n0_ n1_ n2_ n3_ hb hbox hg; have hcz8_0 : w7.cell? ⟨gb54001, 0, none⟩ = some (.int .i64 a0_0) := (blk_cell BK54001.out 0).trans rfl; have hcz8_1 : w7.cell? ⟨gb54001, 1, none⟩ = some (.int .i64 a0_1) := (blk_cell BK54001.out 1).trans rfl; have hfz8_0 := blk_frozen BK54001.out 0; have hfz8_1 := blk_frozen BK54001.out 1))
  go_ret
  exact ⟨by first | rfl | (simp [errW_none, errW_some] <;> rfl) | (simp only [← hji2, ← hji6]; first | rfl | (simp [errW_none, errW_some] <;> rfl)) | (simp [*, errW_none, errW_some] <;> rfl), be_⟩

end Go.Proofs.Ytdbjoopkliafeaa.P

end
section
namespace Go.Proofs.Ytdbjoopkliafeaa.P
open Go Go.RowKit Go.Proofs.YtdbjoopkliafeaaW.PrintWords Go.Proofs.YtdbjoopkliafeaaW.PrintLast Go.Proofs.YtdbjoopkliafeaaW.PrintMore
attribute [local go_sem] max2_int min2_int max_two min_two max_three min_three max_four min_four max_five min_eight max_eight   -- for this text's walks alone
set_option linter.unusedVariables false
set_option linter.unusedSimpArgs false

def section_empty.f (a0_0 : Int) (a0_1 : Int) : Option (Bool) := some (decide (a0_0 ≥ a0_1))
set_option maxHeartbeats 8000000 in
set_option maxRecDepth 100000 in
theorem section_empty.calls (a0_0 : Int) (a0_1 : Int) (r : Bool) (w : World) (h : section_empty.f a0_0 a0_1 = some r) :
  Calls Try.prog 55 #[.agg #[.int .i64 a0_0, .int .i64 a0_1]] w fun e w' => e = .returned (.bool r) ∧ Below w.heap.size w w' := by
 have hu49 := Try.underlying49
 have HB := Aside0.mk (Below.refl w.heap.size w)
 have H : (some (decide (a0_0 ≥ a0_1))) = some r := h
 clear h
 obtain rfl := Option.some.inj H
 go_enter Try.func55, Try.ntmps55
 go_wp2_with (first | ((with_reducible refine gate_dst (N := 1) rfl ?_); refine box_event ?hg (N := 1) ?hd (cs := #[.int .i64 a0_0, .int .i64 a0_1]) (t := 49) ?hr ?_; (case hd => rfl); (case hg => rfl); (case hr => first | (go_simp; done) | (go_simp; rfl)); intro gb55001 hg w2 hbox hb; have n0_ := Aside0.mk (bs_ hb); have n1_ := Aside0.mk (hbox); have n2_ := Aside0.mk ((by rw [hg]; exact bz_ : w.heap.size ≤ gb55001)); have n3_ := Aside0.mk ((by rw [hg]; exact bz_ : w.heap.size ≤ gb55001)); clear HB; have HB := n0_; have BK55001 := n1_; have GW55001 := n2_; have GE55001 := n3_; clear n0_ n1_ n2_ n3_ hb hbox hg; have hcz3_0 : w2.cell? ⟨gb55001, 0, none⟩ = some (.int .i64 a0_0) := (blk_cell BK55001.out 0).trans rfl; have hcz3_1 : w2.cell? ⟨gb55001, 1, none⟩ = some (.int .i64 a0_1) := (blk_cell BK55001.out 1).trans rfl; have hfz3_0 := blk_frozen BK55001.out 0; have hfz3_1 := blk_frozen BK55001.out 1))
 go_ret
 exact ⟨er_, be_⟩

end Go.Proofs.Ytdbjoopkliafeaa.P

end
section
namespace Go.Proofs.Ytdbjoopkliafeaa.P
open Go Go.RowKit Go.Proofs.YtdbjoopkliafeaaW.PrintWords Go.Proofs.YtdbjoopkliafeaaW.PrintLast Go.Proofs.YtdbjoopkliafeaaW.PrintMore
attribute [local go_sem] max2_int min2_int max_two min_two max_three min_three max_four min_four max_five min_eight max_eight   -- for this text's walks alone
set_option linter.unusedVariables false
set_option linter.unusedSimpArgs false

attribute [local go_sem high] eqA49
mutual
def section_Check.j0 : Nat → Int → Bool → Int → List (S49) → Option (Int)
 | 0, _, _, _, _ => none
 | k + 1, x3, x22, x29002000, x29002001 => if x22 = true then (some 9) else (section_Check.l0 k x3 x29002001 (x29002001.length : Int) 0 x29002000 x29002001)
def section_Check.l0 : Nat → Int → List (S49) → Int → Int → Int → List (S49) → Option (Int)
 | 0, _, _, _, _, _, _ => none
 | k + 1, x3, x24, x25, x26, x29002000, x29002001 => if x26 < x25 then (if 0 ≤ x26 then (if x26 < (x24.length : Int) then ((section_outside.f ((rd_T49 x24 x26).f0) ((rd_T49 x24 x26).f1)).bind fun t29004 => (if t29004 = true then (some 9) else (section_Check.l0 k x3 x24 x25 (wrap64 (x26 + 1)) x29002000 x29002001))) else (none)) else (none)) else (if x3 = 0 then (if x29002000 = 0 then (some 0) else (some 19)) else (if 0 < (x29002001.length : Int) then ((section_empty.f ((rd_T49 x29002001 0).f0) ((rd_T49 x29002001 0).f1)).bind fun t29006 => (if t29006 = true then (section_Check.j2 k true x29002000 x29002001) else (if 0 ≤ (wrap64 (x3 - 1)) then (if (wrap64 (x3 - 1)) < (x29002001.length : Int) then ((section_empty.f ((rd_T49 x29002001 (wrap64 (x3 - 1))).f0) ((rd_T49 x29002001 (wrap64 (x3 - 1))).f1)).bind fun t29008 => (section_Check.j2 k t29008 x29002000 x29002001)) else (none)) else (none)))) else (none)))
def section_Check.j2 : Nat → Bool → Int → List (S49) → Option (Int)
 | 0, _, _, _ => none
 | k + 1, x51, x29002000, x29002001 => if x51 = true then (some 19) else (section_Check.l1 k x29002001 (x29002001.length : Int) 0)
def section_Check.l1 : Nat → List (S49) → Int → Int → Option (Int)
 | 0, _, _, _ => none
 | k + 1, x53, x54, x55 => if x55 < x54 then (if 0 ≤ x55 then (if x55 < (x53.length : Int) then ((section_empty.f ((rd_T49 x53 x55).f0) ((rd_T49 x53 x55).f1)).bind fun t29011 => (if t29011 = true then (if (!(((rd_T49 x53 x55).f0) == 0) || (!(((rd_T49 x53 x55).f1) == 0))) = true then (some 19) else (section_Check.l1 k x53 x54 (wrap64 (x55 + 1)))) else (section_Check.l1 k x53 x54 (wrap64 (x55 + 1))))) else (none)) else (none)) else (some 0)
end
def section_Check.f (k : Nat) (a0_0 : Int) (l0_1 : List (S49)) : Option (Int) := if (l0_1.length : Int) > 120 then (some 4) else (if a0_0 < (-60) then (section_Check.j0 k (l0_1.length : Int) true a0_0 l0_1) else (section_Check.j0 k (l0_1.length : Int) (decide (a0_0 > (wrap64 (60 - (l0_1.length : Int))))) a0_0 l0_1))
theorem section_Check.mono_l : ∀ k, (∀ y0 y1 y2 y3, LeO (section_Check.j0 k y0 y1 y2 y3) (section_Check.j0 (k + 1) y0 y1 y2 y3)) ∧ (∀ y0 y1 y2 y3 y4 y5, LeO (section_Check.l0 k y0 y1 y2 y3 y4 y5) (section_Check.l0 (k + 1) y0 y1 y2 y3 y4 y5)) ∧ (∀ y0 y1 y2, LeO (section_Check.j2 k y0 y1 y2) (section_Check.j2 (k + 1) y0 y1 y2)) ∧ (∀ y0 y1 y2, LeO (section_Check.l1 k y0 y1 y2) (section_Check.l1 (k + 1) y0 y1 y2))
 | 0 => ⟨fun _ _ _ _ r h => by simp [section_Check.j0] at h, fun _ _ _ _ _ _ r h => by simp [section_Check.l0] at h, fun _ _ _ r h => by simp [section_Check.j2] at h, fun _ _ _ r h => by simp [section_Check.l1] at h⟩
 | k + 1 => by
  obtain ⟨ih0, ih1, ih2, ih3⟩ := section_Check.mono_l k
  refine ⟨?_, ?_, ?_, ?_⟩
  ·intro y0 y1 y2 y3
   unfold section_Check.j0
   repeat' first
   | (with_reducible exact ih0 _ _ _ _)
   | (with_reducible exact ih1 _ _ _ _ _ _)
   | (with_reducible exact ih2 _ _ _)
   | (with_reducible exact ih3 _ _ _)
   | (with_reducible exact LeO.refl _)
   | (with_reducible exact LeO.none _)
   | (with_reducible refine LeO.ite ?_ ?_)
   | (with_reducible refine LeO.bind ?_ (fun _ => ?_))
   | exact ih0 _ _ _ _
   | exact ih1 _ _ _ _ _ _
   | exact ih2 _ _ _
   | exact ih3 _ _ _
   | exact LeO.none _
   | refine LeO.ite ?_ ?_
   | refine LeO.bind ?_ (fun _ => ?_)
  ·intro y0 y1 y2 y3 y4 y5
   unfold section_Check.l0
   repeat' first
   | (with_reducible exact ih0 _ _ _ _)
   | (with_reducible exact ih1 _ _ _ _ _ _)
   | (with_reducible exact ih2 _ _ _)
   | (with_reducible exact ih3 _ _ _)
   | (with_reducible exact LeO.refl _)
   | (with_reducible exact LeO.none _)
   | (with_reducible refine LeO.ite ?_ ?_)
   | (with_reducible refine LeO.bind ?_ (fun _ => ?_))
   | exact ih0 _ _ _ _
   | exact ih1 _ _ _ _ _ _
   | exact ih2 _ _ _
   | exact ih3 _ _ _
   | exact LeO.none _
   | refine LeO.ite ?_ ?_
   | refine LeO.bind ?_ (fun _ => ?_)
  ·intro y0 y1 y2
   unfold section_Check.j2
   repeat' first
   | (with_reducible exact ih0 _ _ _ _)
   | (with_reducible exact ih1 _ _ _ _ _ _)
   | (with_reducible exact ih2 _ _ _)
   | (with_reducible exact ih3 _ _ _)
   | (with_reducible exact LeO.refl _)
   | (with_reducible exact LeO.none _)
   | (with_reducible refine LeO.ite ?_ ?_)
   | (with_reducible refine LeO.bind ?_ (fun _ => ?_))
   | exact ih0 _ _ _ _
   | exact ih1 _ _ _ _ _ _
   | exact ih2 _ _ _
   | exact ih3 _ _ _
   | exact LeO.none _
   | refine LeO.ite ?_ ?_
   | refine LeO.bind ?_ (fun _ => ?_)
  ·intro y0 y1 y2
   unfold section_Check.l1
   repeat' first
   | (with_reducible exact ih0 _ _ _ _)
   | (with_reducible exact ih1 _ _ _ _ _ _)
   | (with_reducible exact ih2 _ _ _)
   | (with_reducible exact ih3 _ _ _)
   | (with_reducible exact LeO.refl _)
   | (with_reducible exact LeO.none _)
   | (with_reducible refine LeO.ite ?_ ?_)
   | (with_reducible refine LeO.bind ?_ (fun _ => ?_))
   | exact ih0 _ _ _ _
   | exact ih1 _ _ _ _ _ _
   | exact ih2 _ _ _
   | exact ih3 _ _ _
   | exact LeO.none _
   | refine LeO.ite ?_ ?_
   | refine LeO.bind ?_ (fun _ => ?_)
theorem section_Check.mono : ∀ a0 a1 k, LeO (section_Check.f k a0 a1) (section_Check.f (k + 1) a0 a1) := by
 intro a0 a1 k
 obtain ⟨ih0, ih1, ih2, ih3⟩ := section_Check.mono_l k
 unfold section_Check.f
 repeat' first
   | (with_reducible exact ih0 _ _ _ _)
   | (with_reducible exact ih1 _ _ _ _ _ _)
   | (with_reducible exact ih2 _ _ _)
   | (with_reducible exact ih3 _ _ _)
   | (with_reducible exact LeO.refl _)
   | (with_reducible exact LeO.none _)
   | (with_reducible refine LeO.ite ?_ ?_)
   | (with_reducible refine LeO.bind ?_ (fun _ => ?_))
   | exact ih0 _ _ _ _
   | exact ih1 _ _ _ _ _ _
   | exact ih2 _ _ _
   | exact ih3 _ _ _
   | exact LeO.none _
   | refine LeO.ite ?_ ?_
   | refine LeO.bind ?_ (fun _ => ?_)
set_option maxHeartbeats 8000000 in
set_option maxRecDepth 100000 in
theorem section_Check.calls (k : Nat) (a0_0 : Int) (A0_1 : Option Addr) (c0_1 : Nat) (l0_1 : List (S49)) (r : Int) (w : World) (hr0_1 : Kd.C k49 w A0_1 l0_1.length l0_1) (hc0_1 : l0_1.length ≤ c0_1) (h : section_Check.f k a0_0 l0_1 = some r) :
  Calls Try.prog 29 #[.agg #[.int .i64 a0_0, .slice A0_1 l0_1.length c0_1]] w fun e w' => e = .returned (.int .i64 r) ∧ Below w.heap.size w w' := by
 have hu24 := Try.underlying24
 have hu49 := Try.underlying49
 have HR0_1 := Aside0.mk hr0_1
 have HC0_1 := Aside0.mk hc0_1
 clear hr0_1 hc0_1
 have HB := Aside0.mk (Below.refl w.heap.size w)
 have H : (if (l0_1.length : Int) > 120 then (some 4) else (if a0_0 < (-60) then (section_Check.j0 k (l0_1.length : Int) true a0_0 l0_1) else (section_Check.j0 k (l0_1.length : Int) (decide (a0_0 > (wrap64 (60 - (l0_1.length : Int))))) a0_0 l0_1))) = some r := h
 clear h
 by_cases c2 : (l0_1.length : Int) > 120
 ·rw [if_pos c2] at H
  have c2b0 : decide (120 < (l0_1.length : Int)) = true := decide_eq_true c2
  have c2b1 : decide (120 < l0_1.length) = true := decide_eq_true (by omega)
  clear c2
  obtain rfl := Option.some.inj H
  go_enter Try.func29, Try.ntmps29
  go_wp2_with (first | ((with_reducible refine gate_dst (N := 1) rfl ?_); refine box_event ?hg (N := 1) ?hd (cs := #[.int .i64 a0_0, .slice A0_1 l0_1.length c0_1]) (t := 24) ?hr ?_; (case hd => rfl); (case hg => rfl); (case hr => first | (go_simp; done) | (go_simp; rfl)); intro gb29001 hg w3 hbox hb; have n0_ := Aside0.mk (bs_ hb); have n1_ := Aside0.mk (hbox); have n2_ := Aside0.mk ((by rw [hg]; exact bz_ : w.heap.size ≤ gb29001)); have n3_ := Aside0.mk ((by rw [hg]; exact bz_ : w.heap.size ≤ gb29001)); clear HB; have HB := n0_; have BK29001 := n1_; have GW29001 := n2_; have GE29001 := n3_; clear n0_ n1_ n2_ n3_ hb hbox hg; have hcz4_0 : w3.cell? ⟨gb29001, 0, none⟩ = some (.int .i64 a0_0) := (blk_cell BK29001.out 0).trans rfl; have hcz4_1 : w3.cell? ⟨gb29001, 1, none⟩ = some (.slice A0_1 l0_1.length c0_1) := (blk_cell BK29001.out 1).trans rfl; have hfz4_0 := blk_frozen BK29001.out 0; have hfz4_1 := blk_frozen BK29001.out 1))
  go_ret
  exact ⟨er_, be_⟩
 ·rw [if_neg c2] at H
  have c2b0 : decide (120 < (l0_1.length : Int)) = false := decide_eq_false c2
  have c2b1 : decide (120 < l0_1.length) = false := decide_eq_false (by omega)
  clear c2
  have HC5 := Aside0.mk H
  clear H
  go_enter Try.func29, Try.ntmps29
  go_upto_region 4 with (first | ((with_reducible refine gate_dst (N := 1) rfl ?_); refine box_event ?hg (N := 1) ?hd (cs := #[.int .i64 a0_0, .slice A0_1 l0_1.length c0_1]) (t := 24) ?hr ?_; (case hd => rfl); (case hg => rfl); (case hr => first | (go_simp; done) | (go_simp; rfl)); intro gb29001 hg w6 hbox hb; have n0_ := Aside0.mk (bs_ hb); have n1_ := Aside0.mk (hbox); have n2_ := Aside0.mk ((by rw [hg]; exact bz_ : w.heap.size ≤ gb29001)); have n3_ := Aside0.mk ((by rw [hg]; exact bz_ : w.heap.size ≤ gb29001)); clear HB; have HB := n0_; have BK29001 := n1_; have GW29001 := n2_; have GE29001 := n3_; clear n0_ n1_ n2_ n3_ hb hbox hg; have hcz7_0 : w6.cell? ⟨gb29001, 0, none⟩ = some (.int .i64 a0_0) := (blk_cell BK29001.out 0).trans rfl; have hcz7_1 : w6.cell? ⟨gb29001, 1, none⟩ = some (.slice A0_1 l0_1.length c0_1) := (blk_cell BK29001.out 1).trans rfl; have hfz7_0 := blk_frozen BK29001.out 0; have hfz7_1 := blk_frozen BK29001.out 1))
  (try simp only [Act.put, List.setIfInBounds_toArray, List.set_cons_zero, List.set_cons_succ])
  go_cut [22] (fun v22 wc => ∃ (kq : Nat) (x22_4 : Bool), v22 = .bool x22_4 ∧ Aside0 (section_Check.j0 kq (l0_1.length : Int) x22_4 a0_0 l0_1 = some r) ∧ Aside0 (kq ≤ k) ∧ Aside0 (wc.heap[gb29001]? = some (.cells #[.int .i64 a0_0, (.slice A0_1 l0_1.length c0_1)] 24 (0, 0))) ∧ Aside0 (Below w.heap.size w wc))
  case first =>
   have H := HC5.out
   clear HC5
   by_cases c8 : a0_0 < (-60)
   ·rw [if_pos c8] at H
    have c8b0 : decide (a0_0 < (-60)) = true := decide_eq_true c8
    clear c8
    (first | rw [c8b0] | (simp only [i64_w, i32_w]; rw [c8b0]) | skip)
    have H' := Aside0.mk H
    clear H
    have hcz9_0 : w6.cell? ⟨gb29001, 0, none⟩ = some (.int .i64 a0_0) := (blk_cell BK29001.out 0).trans rfl
    have hcz9_1 : w6.cell? ⟨gb29001, 1, none⟩ = some (.slice A0_1 l0_1.length c0_1) := (blk_cell BK29001.out 1).trans rfl
    have hfz9_0 := blk_frozen BK29001.out 0
    have hfz9_1 := blk_frozen BK29001.out 1
    go_wp2
    go_meet
    case rel => exact ⟨_, (true), (by first | rfl | (simp; done) | (simp [*]; done)), H', ⟨by first | omega | exact Nat.le_refl _⟩, ⟨fb_ BK29001.out⟩, ⟨be_⟩⟩
   ·rw [if_neg c8] at H
    have c8b0 : decide (a0_0 < (-60)) = false := decide_eq_false c8
    clear c8
    (first | rw [c8b0] | (simp only [i64_w, i32_w]; rw [c8b0]) | skip)
    have H' := Aside0.mk H
    clear H
    have hcz10_0 : w6.cell? ⟨gb29001, 0, none⟩ = some (.int .i64 a0_0) := (blk_cell BK29001.out 0).trans rfl
    have hcz10_1 : w6.cell? ⟨gb29001, 1, none⟩ = some (.slice A0_1 l0_1.length c0_1) := (blk_cell BK29001.out 1).trans rfl
    have hfz10_0 := blk_frozen BK29001.out 0
    have hfz10_1 := blk_frozen BK29001.out 1
    go_wp2
    go_meet
    case rel => exact ⟨_, (decide (a0_0 > (wrap64 (60 - (l0_1.length : Int))))), (by first | rfl | (simp; done) | (simp [*]; done)), H', ⟨by first | omega | exact Nat.le_refl _⟩, ⟨fb_ BK29001.out⟩, ⟨be_⟩⟩
  case rest =>
   clear HC5
   try clear c2
   try clear c2b0
   try clear c2b1
   try clear p2
   try clear p6
   try clear c8
   try clear c8b0
   try clear hcz10_0
   try clear hcz10_1
   try clear hcz4_0
   try clear hcz4_1
   try clear hcz7_0
   try clear hcz7_1
   try clear hcz9_0
   try clear hcz9_1
   try clear hfz10_0
   try clear hfz10_1
   try clear hfz4_0
   try clear hfz4_1
   try clear hfz7_0
   try clear hfz7_1
   try clear hfz9_0
   try clear hfz9_1
   obtain ⟨kq, x22_4, rfl, HA, HJ4, BK29001, HB⟩ := hcut
   cases kq with
   | zero => exact absurd HA.out (by simp [section_Check.j0])
   | succ kj4 =>
    have H := HA.out
    clear HA
    simp only [section_Check.j0] at H
    by_cases c11 : x22_4 = true
    ·subst c11
     have H1 : (some 9) = some r := by rw [if_pos rfl] at H; exact H
     clear H
     have H := H1
     clear H1
     obtain rfl := Option.some.inj H
     go_wp2
     go_ret
     exact ⟨er_, be_⟩
    ·replace c11 := Bool.eq_false_iff.mpr c11
     subst c11
     have H1 : (section_Check.l0 kj4 (l0_1.length : Int) l0_1 (l0_1.length : Int) 0 a0_0 l0_1) = some r := by rw [if_neg (show ¬ (false = true) by decide)] at H; exact H
     clear H
     have H := H1
     clear H1
     have H' := Aside0.mk H
     clear H
     have hcz12_0 : wc.cell? ⟨gb29001, 0, none⟩ = some (.int .i64 a0_0) := (blk_cell BK29001.out 0).trans rfl
     have hcz12_1 : wc.cell? ⟨gb29001, 1, none⟩ = some (.slice A0_1 l0_1.length c0_1) := (blk_cell BK29001.out 1).trans rfl
     have hfz12_0 := blk_frozen BK29001.out 0
     have hfz12_1 := blk_frozen BK29001.out 1
     go_wp2
     go_loopg [26] kj4 (fun kq v26 w' => ∃ (x26_2 : Int), v26 = .int .i64 x26_2 ∧ Aside0 (section_Check.l0 kq (l0_1.length : Int) l0_1 (l0_1.length : Int) x26_2 a0_0 l0_1 = some r) ∧ Aside0 (kq ≤ kj4) ∧ Aside0 (w'.heap[gb29001]? = some (.cells #[.int .i64 a0_0, (.slice A0_1 l0_1.length c0_1)] 24 (0, 0))) ∧ Aside0 (Below w.heap.size w w'))
     case atStart => exact ⟨(0), (by first | rfl | (simp; done) | (simp [*]; done)), H', ⟨Nat.le_refl _⟩, ⟨fb_ BK29001.out⟩, ⟨be_⟩⟩
     case round =>
      clear H'
      try clear c1
      try clear c2
      try clear c2b0
      try clear c2b1
      try clear p2
      try clear p6
      try clear c8
      try clear c8b0
      try clear c11
      try clear hcz10_0
      try clear hcz10_1
      try clear hcz12_0
      try clear hcz12_1
      try clear hcz4_0
      try clear hcz4_1
      try clear hcz7_0
      try clear hcz7_1
      try clear hcz9_0
      try clear hcz9_1
      try clear hfz10_0
      try clear hfz10_1
      try clear hfz12_0
      try clear hfz12_1
      try clear hfz4_0
      try clear hfz4_1
      try clear hfz7_0
      try clear hfz7_1
      try clear hfz9_0
      try clear hfz9_1
      try clear p2
      try clear p6
      obtain ⟨x26_2, rfl, HA, HK2, BK29001, HB⟩ := hrel
      cases gk with
      | zero => exact absurd HA.out (by simp [section_Check.l0])
      | succ k2 =>
       have H := HA.out
       clear HA
       simp only [section_Check.l0] at H
       by_cases c13 : x26_2 < (l0_1.length : Int)
       ·rw [if_pos c13] at H
        have c13b0 : decide (x26_2 < (l0_1.length : Int)) = true := decide_eq_true c13
        clear c13
        by_cases c14 : 0 ≤ x26_2
        ·rw [if_pos c14] at H
         have c14b0 : decide (0 ≤ x26_2) = true := decide_eq_true c14
         clear c14
         by_cases c15 : x26_2 < (l0_1.length : Int)
         ·rw [if_pos c15] at H
          have c15b0 : decide (x26_2 < (l0_1.length : Int)) = true := decide_eq_true c15
          clear c15
          replace H := Option.bind_eq_some_iff.mp H
          obtain ⟨t29004, A160, H⟩ := H
          replace H : (if t29004 = true then (some 9) else (section_Check.l0 k2 (l0_1.length : Int) l0_1 (l0_1.length : Int) (wrap64 (x26_2 + 1)) a0_0 l0_1)) = some r := H
          have A16 := Aside0.mk A160
          clear A160
          by_cases c17 : t29004 = true
          ·subst c17
           have H1 : (some 9) = some r := by rw [if_pos rfl] at H; exact H
           clear H
           have H := H1
           clear H1
           obtain rfl := Option.some.inj H
           have p29002 : 0 ≤ (x26_2 : Int) := of_decide_eq_true (by first | (with_reducible assumption) | assumption)
           have q29002 : x26_2 < (l0_1.length : Int) := of_decide_eq_true (by first | (with_reducible assumption) | assumption)
           obtain ⟨ad29002, e29002, hx29002_0, hx29002_1⟩ := at_T49 HR0_1.out x26_2 p29002 q29002
           cases e29002
           replace hx29002_0 := (HB.out.cell (World.block_lt_of_cell? w _ hx29002_0)).trans hx29002_0
           replace hx29002_1 := (HB.out.cell (World.block_lt_of_cell? w _ hx29002_1)).trans hx29002_1
           replace p29002 := eq_true p29002
           replace q29002 := eq_true q29002
           go_wp2_with (first | ((with_reducible refine gate_dst (N := 5) rfl ?_); refine box_event ?hg (N := 5) ?hd (cs := #[.int .i64 0, .int .i64 0]) (t := 49) ?hr ?_; (case hd => rfl); (case hg => rfl); (case hr => first | (go_simp; done) | (go_simp; rfl)); intro gb29003 hg w18 hbox hb; have n0_ := Aside0.mk (blk_below (g := gb29001) (o := .cells #[.int .i64 a0_0, .slice (some ad29002) l0_1.length c0_1] 24 (0, 0)) (fb_ BK29001.out) hb); have n1_ := Aside0.mk (bs_ hb); have n2_ := Aside0.mk (hbox); have n3_ := Aside0.mk ((by rw [hg]; exact bz_ : w.heap.size ≤ gb29003)); have n4_ := Aside0.mk ((by rw [hg]; exact bz_ : w.heap.size ≤ gb29003)); have n5_ := Aside0.mk ((by rw [hg]; exact Nat.ne_of_lt (blk_lt (g := gb29001) (o := .cells #[.int .i64 a0_0, .slice (some ad29002) l0_1.length c0_1] 24 (0, 0)) (fb_ BK29001.out)) : gb29001 ≠ gb29003)); have n6_ := Aside0.mk ((by rw [hg]; exact Nat.ne_of_gt (blk_lt (g := gb29001) (o := .cells #[.int .i64 a0_0, .slice (some ad29002) l0_1.length c0_1] 24 (0, 0)) (fb_ BK29001.out)) : gb29003 ≠ gb29001)); clear BK29001 HB; have BK29001 := n0_; have HB := n1_; have BK29003 := n2_; have GW29003 := n3_; have GE29003 := n4_; have NB29001_29003 := n5_; have NB29003_29001 := n6_; clear n0_ n1_ n2_ n3_ n4_ n5_ n6_ hb hbox hg; have hnb19 := NB29003_29001.out; have hnc19 := NB29001_29003.out; have hcz20_0 : w18.cell? ⟨gb29003, 0, none⟩ = some (.int .i64 0) := (blk_cell BK29003.out 0).trans rfl; have hcz20_1 : w18.cell? ⟨gb29003, 1, none⟩ = some (.int .i64 0) := (blk_cell BK29003.out 1).trans rfl; have hfz20_0 := blk_frozen BK29003.out 0; have hfz20_1 := blk_frozen BK29003.out 1) | ((with_reducible refine gate_callee (f := 54) rfl ?_); refine goesL_ (some 31) rfl rfl Try.func54 (by kernel_rfl) rfl #[.agg #[.int .i64 ((rd_T49 l0_1 x26_2).f0), .int .i64 ((rd_T49 l0_1 x26_2).f1)]] rfl la_ ?_; (with_reducible refine (section_outside.calls ((rd_T49 l0_1 x26_2).f0) ((rd_T49 l0_1 x26_2).f1) true _ A16.out).mono ?_); rintro e w21 ⟨rfl, hb⟩; refine ⟨_, rfl, ?_⟩; have n0_ := Aside0.mk (blk_below (g := gb29001) (o := .cells #[.int .i64 a0_0, .slice (some ad29002) l0_1.length c0_1] 24 (0, 0)) (by (with_reducible repeat (first | refine blk_drewN ?_ _ | refine blk_drew ?_ | refine blk_alloc ?_ _)); refine blk_far ?_ NB29001_29003.out _; (with_reducible repeat (first | refine blk_drewN ?_ _ | refine blk_drew ?_ | refine blk_alloc ?_ _)); refine blk_far ?_ NB29001_29003.out _; (with_reducible repeat (first | refine blk_drewN ?_ _ | refine blk_drew ?_ | refine blk_alloc ?_ _)); exact BK29001.out) hb); have n1_ := Aside0.mk (blk_below (g := gb29003) (o := .cells #[.int .i64 ((rd_T49 l0_1 x26_2).f0), .int .i64 ((rd_T49 l0_1 x26_2).f1)] 49 (0, 0)) (by (with_reducible repeat (first | refine blk_drewN ?_ _ | refine blk_drew ?_ | refine blk_alloc ?_ _)); refine blk_put (cs := #[.int .i64 ((rd_T49 l0_1 x26_2).f0), .int .i64 0]) ?_ 1 _ rfl; (with_reducible repeat (first | refine blk_drewN ?_ _ | refine blk_drew ?_ | refine blk_alloc ?_ _)); refine blk_put (cs := #[.int .i64 0, .int .i64 0]) ?_ 0 _ rfl; (with_reducible repeat (first | refine blk_drewN ?_ _ | refine blk_drew ?_ | refine blk_alloc ?_ _)); exact BK29003.out) hb); have n2_ := Aside0.mk (bs_ hb); clear BK29001 BK29003 HB; have BK29001 := n0_; have BK29003 := n1_; have HB := n2_; clear n0_ n1_ n2_; (try clear hb); (try clear hb2); (try clear hk); (try clear hi)))
           go_ret
           exact ⟨er_, be_⟩
          ·replace c17 := Bool.eq_false_iff.mpr c17
           subst c17
           have H1 : (section_Check.l0 k2 (l0_1.length : Int) l0_1 (l0_1.length : Int) (wrap64 (x26_2 + 1)) a0_0 l0_1) = some r := by rw [if_neg (show ¬ (false = true) by decide)] at H; exact H
           clear H
           have H := H1
           clear H1
           have H' := Aside0.mk H
           clear H
           have p29002 : 0 ≤ (x26_2 : Int) := of_decide_eq_true (by first | (with_reducible assumption) | assumption)
           have q29002 : x26_2 < (l0_1.length : Int) := of_decide_eq_true (by first | (with_reducible assumption) | assumption)
           obtain ⟨ad29002, e29002, hx29002_0, hx29002_1⟩ := at_T49 HR0_1.out x26_2 p29002 q29002
           cases e29002
           replace hx29002_0 := (HB.out.cell (World.block_lt_of_cell? w _ hx29002_0)).trans hx29002_0
           replace hx29002_1 := (HB.out.cell (World.block_lt_of_cell? w _ hx29002_1)).trans hx29002_1
           replace p29002 := eq_true p29002
           replace q29002 := eq_true q29002
           go_wp2_with (first | ((with_reducible refine gate_dst (N := 5) rfl ?_); refine box_event ?hg (N := 5) ?hd (cs := #[.int .i64 0, .int .i64 0]) (t := 49) ?hr ?_; (case hd => rfl); (case hg => rfl); (case hr => first | (go_simp; done) | (go_simp; rfl)); intro gb29003 hg w22 hbox hb; have n0_ := Aside0.mk (blk_below (g := gb29001) (o := .cells #[.int .i64 a0_0, .slice (some ad29002) l0_1.length c0_1] 24 (0, 0)) (fb_ BK29001.out) hb); have n1_ := Aside0.mk (bs_ hb); have n2_ := Aside0.mk (hbox); have n3_ := Aside0.mk ((by rw [hg]; exact bz_ : w.heap.size ≤ gb29003)); have n4_ := Aside0.mk ((by rw [hg]; exact bz_ : w.heap.size ≤ gb29003)); have n5_ := Aside0.mk ((by rw [hg]; exact Nat.ne_of_lt (blk_lt (g := gb29001) (o := .cells #[.int .i64 a0_0, .slice (some ad29002) l0_1.length c0_1] 24 (0, 0)) (fb_ BK29001.out)) : gb29001 ≠ gb29003)); have n6_ := Aside0.mk ((by rw [hg]; exact Nat.ne_of_gt (blk_lt (g := gb29001) (o := .cells #[.int .i64 a0_0, .slice (some ad29002) l0_1.length c0_1] 24 (0, 0)) (fb_ BK29001.out)) : gb29003 ≠ gb29001)); clear BK29001 HB; have BK29001 := n0_; have HB := n1_; have BK29003 := n2_; have GW29003 := n3_; have GE29003 := n4_; have NB29001_29003 := n5_; have NB29003_29001 := n6_; clear n0_ n1_ n2_ n3_ n4_ n5_ n6_ hb hbox hg; have hnb23 := NB29003_29001.out; have hnc23 := NB29001_29003.out; have hcz24_0 : w22.cell? ⟨gb29003, 0, none⟩ = some (.int .i64 0) := (blk_cell BK29003.out 0).trans rfl; have hcz24_1 : w22.cell? ⟨gb29003, 1, none⟩ = some (.int .i64 0) := (blk_cell BK29003.out 1).trans rfl; have hfz24_0 := blk_frozen BK29003.out 0; have hfz24_1 := blk_frozen BK29003.out 1) | ((with_reducible refine gate_callee (f := 54) rfl ?_); refine goesL_ (some 31) rfl rfl Try.func54 (by kernel_rfl) rfl #[.agg #[.int .i64 ((rd_T49 l0_1 x26_2).f0), .int .i64 ((rd_T49 l0_1 x26_2).f1)]] rfl la_ ?_; (with_reducible refine (section_outside.calls ((rd_T49 l0_1 x26_2).f0) ((rd_T49 l0_1 x26_2).f1) false _ A16.out).mono ?_); rintro e w25 ⟨rfl, hb⟩; refine ⟨_, rfl, ?_⟩; have n0_ := Aside0.mk (blk_below (g := gb29001) (o := .cells #[.int .i64 a0_0, .slice (some ad29002) l0_1.length c0_1] 24 (0, 0)) (by (with_reducible repeat (first | refine blk_drewN ?_ _ | refine blk_drew ?_ | refine blk_alloc ?_ _)); refine blk_far ?_ NB29001_29003.out _; (with_reducible repeat (first | refine blk_drewN ?_ _ | refine blk_drew ?_ | refine blk_alloc ?_ _)); refine blk_far ?_ NB29001_29003.out _; (with_reducible repeat (first | refine blk_drewN ?_ _ | refine blk_drew ?_ | refine blk_alloc ?_ _)); exact BK29001.out) hb); have n1_ := Aside0.mk (blk_below (g := gb29003) (o := .cells #[.int .i64 ((rd_T49 l0_1 x26_2).f0), .int .i64 ((rd_T49 l0_1 x26_2).f1)] 49 (0, 0)) (by (with_reducible repeat (first | refine blk_drewN ?_ _ | refine blk_drew ?_ | refine blk_alloc ?_ _)); refine blk_put (cs := #[.int .i64 ((rd_T49 l0_1 x26_2).f0), .int .i64 0]) ?_ 1 _ rfl; (with_reducible repeat (first | refine blk_drewN ?_ _ | refine blk_drew ?_ | refine blk_alloc ?_ _)); refine blk_put (cs := #[.int .i64 0, .int .i64 0]) ?_ 0 _ rfl; (with_reducible repeat (first | refine blk_drewN ?_ _ | refine blk_drew ?_ | refine blk_alloc ?_ _)); exact BK29003.out) hb); have n2_ := Aside0.mk (bs_ hb); clear BK29001 BK29003 HB; have BK29001 := n0_; have BK29003 := n1_; have HB := n2_; clear n0_ n1_ n2_; (try clear hb); (try clear hb2); (try clear hk); (try clear hi)))
           go_roundg k2
           case measure => have := HJ4.out; have := HK2.out; omega
           case rel => exact ⟨(wrap64 (x26_2 + 1)), (by first | rfl | (simp; done) | (simp [*]; done)), H', ⟨by have := HJ4.out; have := HK2.out; omega⟩, ⟨fb_ BK29001.out⟩, ⟨be_⟩⟩
         ·rw [if_neg c15] at H
          exact absurd H (by simp)
        ·rw [if_neg c14] at H
         exact absurd H (by simp)
       ·rw [if_neg c13] at H
        have c13b0 : decide (x26_2 < (l0_1.length : Int)) = false := decide_eq_false c13
        clear c13
        by_cases c26 : (l0_1.length : Int) = 0
        ·rw [if_pos c26] at H
         have c26b0 : ((l0_1.length : Int) == 0) = true := beq_iff_eq.mpr c26
         have c26b1 : ((l0_1.length : Int) != 0) = false := bne_eq_false_iff_eq.mpr c26
         clear c26
         by_cases c27 : a0_0 = 0
         ·rw [if_pos c27] at H
          have c27b0 : (a0_0 == 0) = true := beq_iff_eq.mpr c27
          have c27b1 : (a0_0 != 0) = false := bne_eq_false_iff_eq.mpr c27
          clear c27
          obtain rfl := Option.some.inj H
          have hcz28_0 : wr.cell? ⟨gb29001, 0, none⟩ = some (.int .i64 a0_0) := (blk_cell BK29001.out 0).trans rfl
          have hcz28_1 : wr.cell? ⟨gb29001, 1, none⟩ = some (.slice A0_1 l0_1.length c0_1) := (blk_cell BK29001.out 1).trans rfl
          have hfz28_0 := blk_frozen BK29001.out 0
          have hfz28_1 := blk_frozen BK29001.out 1
          go_wp2
          go_ret
          exact ⟨er_, be_⟩
         ·rw [if_neg c27] at H
          have c27b0 : (a0_0 == 0) = false := beq_eq_false_iff_ne.mpr c27
          have c27b1 : (a0_0 != 0) = true := bne_iff_ne.mpr c27
          obtain rfl := Option.some.inj H
          have hcz29_0 : wr.cell? ⟨gb29001, 0, none⟩ = some (.int .i64 a0_0) := (blk_cell BK29001.out 0).trans rfl
          have hcz29_1 : wr.cell? ⟨gb29001, 1, none⟩ = some (.slice A0_1 l0_1.length c0_1) := (blk_cell BK29001.out 1).trans rfl
          have hfz29_0 := blk_frozen BK29001.out 0
          have hfz29_1 := blk_frozen BK29001.out 1
          go_wp2
          go_ret
          exact ⟨er_, be_⟩
        ·rw [if_neg c26] at H
         have c26b0 : ((l0_1.length : Int) == 0) = false := beq_eq_false_iff_ne.mpr c26
         have c26b1 : ((l0_1.length : Int) != 0) = true := bne_iff_ne.mpr c26
         have c26b2 : ¬ (l0_1 = []) := fun h_ => c26 (by rw [h_]; rfl)
         have HC30 := Aside0.mk H
         clear H
         go_upto_region 16 with (fail)
         go_cut [51] (fun v51 wc => ∃ (kq : Nat) (x51_29 : Bool), v51 = .bool x51_29 ∧ Aside0 (section_Check.j2 kq x51_29 a0_0 l0_1 = some r) ∧ Aside0 (kq ≤ k2) ∧ Aside0 (wc.heap[gb29001]? = some (.cells #[.int .i64 a0_0, (.slice A0_1 l0_1.length c0_1)] 24 (0, 0))) ∧ Aside0 (Below w.heap.size w wc))
         case first =>
          have H := HC30.out
          clear HC30
          by_cases c31 : 0 < (l0_1.length : Int)
          ·rw [if_pos c31] at H
           have c31b0 : decide (0 < (l0_1.length : Int)) = true := decide_eq_true c31
           have c31b1 : decide (0 < l0_1.length) = true := decide_eq_true (by omega)
           clear c31
           (first | rw [c31b0] | (simp only [i64_w, i32_w]; rw [c31b0]) | skip)
           replace H := Option.bind_eq_some_iff.mp H
           obtain ⟨t29006, A320, H⟩ := H
           replace H : (if t29006 = true then (section_Check.j2 k2 true a0_0 l0_1) else (if 0 ≤ (wrap64 ((l0_1.length : Int) - 1)) then (if (wrap64 ((l0_1.length : Int) - 1)) < (l0_1.length : Int) then ((section_empty.f ((rd_T49 l0_1 (wrap64 ((l0_1.length : Int) - 1))).f0) ((rd_T49 l0_1 (wrap64 ((l0_1.length : Int) - 1))).f1)).bind fun t29008 => (section_Check.j2 k2 t29008 a0_0 l0_1)) else (none)) else (none))) = some r := H
           have A32 := Aside0.mk A320
           clear A320
           by_cases c33 : t29006 = true
           ·subst c33
            have H1 : (section_Check.j2 k2 true a0_0 l0_1) = some r := by rw [if_pos rfl] at H; exact H
            clear H
            have H := H1
            clear H1
            have H' := Aside0.mk H
            clear H
            have hcz34_0 : wr.cell? ⟨gb29001, 0, none⟩ = some (.int .i64 a0_0) := (blk_cell BK29001.out 0).trans rfl
            have hcz34_1 : wr.cell? ⟨gb29001, 1, none⟩ = some (.slice A0_1 l0_1.length c0_1) := (blk_cell BK29001.out 1).trans rfl
            have hfz34_0 := blk_frozen BK29001.out 0
            have hfz34_1 := blk_frozen BK29001.out 1
            have p29005 : 0 ≤ (0 : Int) := (by omega)
            have q29005 : 0 < (l0_1.length : Int) := of_decide_eq_true (by first | (with_reducible assumption) | assumption)
            obtain ⟨ad29005, e29005, hx29005_0, hx29005_1⟩ := at_T49 HR0_1.out 0 p29005 q29005
            cases e29005
            have qi29005 : (0 < l0_1.length) = True := eq_true (by omega)
            (try rw [show ((0 : Int)).toNat = 0 from rfl] at hx29005_0)
            (try rw [show 0 * 2 = 0 from rfl] at hx29005_0)
            (try rw [Addr.add_zero'] at hx29005_0)
            (try rw [show ((0 : Int)).toNat = 0 from rfl] at hx29005_1)
            (try rw [show 0 * 2 = 0 from rfl] at hx29005_1)
            (try rw [Addr.add_zero'] at hx29005_1)
            replace hx29005_0 := (HB.out.cell (World.block_lt_of_cell? w _ hx29005_0)).trans hx29005_0
            replace hx29005_1 := (HB.out.cell (World.block_lt_of_cell? w _ hx29005_1)).trans hx29005_1
            replace p29005 := eq_true p29005
            replace q29005 := eq_true q29005
            go_wp2_with (first | ((with_reducible refine gate_callee (f := 55) rfl ?_); refine goesL_ (some 42) rfl rfl Try.func55 (by kernel_rfl) rfl #[.agg #[.int .i64 ((rd_T49 l0_1 0).f0), .int .i64 ((rd_T49 l0_1 0).f1)]] rfl la_ ?_; (with_reducible refine (section_empty.calls ((rd_T49 l0_1 0).f0) ((rd_T49 l0_1 0).f1) true _ A32.out).mono ?_); rintro e w35 ⟨rfl, hb⟩; refine ⟨_, rfl, ?_⟩; have n0_ := Aside0.mk (blk_below (g := gb29001) (o := .cells #[.int .i64 a0_0, .slice (some ad29005) l0_1.length c0_1] 24 (0, 0)) (fb_ BK29001.out) hb); have n1_ := Aside0.mk (bs_ hb); clear BK29001 HB; have BK29001 := n0_; have HB := n1_; clear n0_ n1_; (try clear hb); (try clear hb2); (try clear hk); (try clear hi)))
            go_meet
            case rel => exact ⟨_, (true), (by first | rfl | (simp; done) | (simp [*]; done)), H', ⟨by have := HJ4.out; have := HK2.out; first | omega | exact Nat.le_refl _⟩, ⟨fb_ BK29001.out⟩, ⟨be_⟩⟩
           ·replace c33 := Bool.eq_false_iff.mpr c33
            subst c33
            have H1 : (if 0 ≤ (wrap64 ((l0_1.length : Int) - 1)) then (if (wrap64 ((l0_1.length : Int) - 1)) < (l0_1.length : Int) then ((section_empty.f ((rd_T49 l0_1 (wrap64 ((l0_1.length : Int) - 1))).f0) ((rd_T49 l0_1 (wrap64 ((l0_1.length : Int) - 1))).f1)).bind fun t29008 => (section_Check.j2 k2 t29008 a0_0 l0_1)) else (none)) else (none)) = some r := by rw [if_neg (show ¬ (false = true) by decide)] at H; exact H
            clear H
            have H := H1
            clear H1
            obtain ⟨ji36, hji36⟩ : ∃ j_ : Int, (wrap64 ((l0_1.length : Int) - 1)) = j_ := ⟨_, rfl⟩
            replace H : (if 0 ≤ (ji36) then (if (ji36) < (l0_1.length : Int) then ((section_empty.f ((rd_T49 l0_1 (ji36)).f0) ((rd_T49 l0_1 (ji36)).f1)).bind fun t29008 => (section_Check.j2 k2 t29008 a0_0 l0_1)) else (none)) else (none)) = some r := by first | (rw [hji36] at H; exact H) | (simp only [hji36] at H ⊢; exact H)
            (try rw [hji36] at A32)
            have hji36w : (IntKind.i64.wrap ((l0_1.length : Int) - 1)) = ji36 := (i64_w _).trans hji36
            by_cases c37 : 0 ≤ (ji36)
            ·rw [if_pos c37] at H
             have c37b0 : decide (0 ≤ (ji36)) = true := decide_eq_true c37
             clear c37
             by_cases c38 : (ji36) < (l0_1.length : Int)
             ·rw [if_pos c38] at H
              have c38b0 : decide ((ji36) < (l0_1.length : Int)) = true := decide_eq_true c38
              clear c38
              replace H := Option.bind_eq_some_iff.mp H
              obtain ⟨t29008, A390, H⟩ := H
              replace H : (section_Check.j2 k2 t29008 a0_0 l0_1) = some r := H
              have A39 := Aside0.mk A390
              clear A390
              have H' := Aside0.mk H
              clear H
              have hcz40_0 : wr.cell? ⟨gb29001, 0, none⟩ = some (.int .i64 a0_0) := (blk_cell BK29001.out 0).trans rfl
              have hcz40_1 : wr.cell? ⟨gb29001, 1, none⟩ = some (.slice A0_1 l0_1.length c0_1) := (blk_cell BK29001.out 1).trans rfl
              have hfz40_0 := blk_frozen BK29001.out 0
              have hfz40_1 := blk_frozen BK29001.out 1
              have p29005 : 0 ≤ (0 : Int) := (by omega)
              have q29005 : 0 < (l0_1.length : Int) := of_decide_eq_true (by first | (with_reducible assumption) | assumption)
              obtain ⟨ad29005, e29005, hx29005_0, hx29005_1⟩ := at_T49 HR0_1.out 0 p29005 q29005
              cases e29005
              have qi29005 : (0 < l0_1.length) = True := eq_true (by omega)
              (try rw [show ((0 : Int)).toNat = 0 from rfl] at hx29005_0)
              (try rw [show 0 * 2 = 0 from rfl] at hx29005_0)
              (try rw [Addr.add_zero'] at hx29005_0)
              (try rw [show ((0 : Int)).toNat = 0 from rfl] at hx29005_1)
              (try rw [show 0 * 2 = 0 from rfl] at hx29005_1)
              (try rw [Addr.add_zero'] at hx29005_1)
              replace hx29005_0 := (HB.out.cell (World.block_lt_of_cell? w _ hx29005_0)).trans hx29005_0
              replace hx29005_1 := (HB.out.cell (World.block_lt_of_cell? w _ hx29005_1)).trans hx29005_1
              replace p29005 := eq_true p29005
              replace q29005 := eq_true q29005
              go_wp2_with (first | ((with_reducible refine gate_callee (f := 55) rfl ?_); refine goesL_ (some 42) rfl rfl Try.func55 (by kernel_rfl) rfl #[.agg #[.int .i64 ((rd_T49 l0_1 0).f0), .int .i64 ((rd_T49 l0_1 0).f1)]] rfl la_ ?_; (with_reducible refine (section_empty.calls ((rd_T49 l0_1 0).f0) ((rd_T49 l0_1 0).f1) false _ A32.out).mono ?_); rintro e w41 ⟨rfl, hb⟩; refine ⟨_, rfl, ?_⟩; have n0_ := Aside0.mk (blk_below (g := gb29001) (o := .cells #[.int .i64 a0_0, .slice (some ad29005) l0_1.length c0_1] 24 (0, 0)) (fb_ BK29001.out) hb); have n1_ := Aside0.mk (bs_ hb); clear BK29001 HB; have BK29001 := n0_; have HB := n1_; clear n0_ n1_; (try clear hb); (try clear hb2); (try clear hk); (try clear hi); have hcz42_0 : w41.cell? ⟨gb29001, 0, none⟩ = some (.int .i64 a0_0) := (blk_cell BK29001.out 0).trans rfl; have hcz42_1 : w41.cell? ⟨gb29001, 1, none⟩ = some (.slice (some ad29005) l0_1.length c0_1) := (blk_cell BK29001.out 1).trans rfl; have hfz42_0 := blk_frozen BK29001.out 0; have hfz42_1 := blk_frozen BK29001.out 1; have p29007 : 0 ≤ ((ji36) : Int) := of_decide_eq_true (by first | (with_reducible assumption) | assumption); have q29007 : (ji36) < (l0_1.length : Int) := of_decide_eq_true (by first | (with_reducible assumption) | assumption); obtain ⟨ad29007, e29007, hx29007_0, hx29007_1⟩ := at_T49 HR0_1.out (ji36) p29007 q29007; obtain rfl : ad29005 = ad29007 := (by injection e29007); replace hx29007_0 := (HB.out.cell (World.block_lt_of_cell? w _ hx29007_0)).trans hx29007_0; replace hx29007_1 := (HB.out.cell (World.block_lt_of_cell? w _ hx29007_1)).trans hx29007_1; replace p29007 := eq_true p29007; replace q29007 := eq_true q29007) | (go_at_call 55; (with_reducible refine (section_empty.calls ((rd_T49 l0_1 (ji36)).f0) ((rd_T49 l0_1 (ji36)).f1) t29008 _ A39.out).mono ?_); rintro e w43 ⟨rfl, hb⟩; have n0_ := Aside0.mk (blk_below (g := gb29001) (o := .cells #[.int .i64 a0_0, .slice (some ad29005) l0_1.length c0_1] 24 (0, 0)) (fb_ BK29001.out) hb); have n1_ := Aside0.mk (bs_ hb); clear BK29001 HB; have BK29001 := n0_; have HB := n1_; clear n0_ n1_; (try clear hb); (try clear hb2); (try clear hk); (try clear hi)))
              go_meet
              case rel => exact ⟨_, (t29008), (by first | rfl | (simp; done) | (simp [*]; done)), H', ⟨by have := HJ4.out; have := HK2.out; first | omega | exact Nat.le_refl _⟩, ⟨fb_ BK29001.out⟩, ⟨be_⟩⟩
             ·rw [if_neg c38] at H
              exact absurd H (by simp)
            ·rw [if_neg c37] at H
             exact absurd H (by simp)
          ·rw [if_neg c31] at H
           exact absurd H (by simp)
         case rest =>
          clear HC30
          try clear c1
          try clear c2
          try clear c2b0
          try clear c2b1
          try clear p2
          try clear q2
          try clear hx2
          try clear qi2
          try clear c3
          try clear c5
          try clear p6
          try clear c8
          try clear c8b0
          try clear c11
          try clear c13
          try clear c13b0
          try clear c14
          try clear c14b0
          try clear c15
          try clear c15b0
          try clear c17
          try clear c19
          try clear c23
          try clear c26
          try clear c26b0
          try clear c26b1
          try clear c26b2
          try clear c27
          try clear c27b0
          try clear c27b1
          try clear c29
          try clear p29
          try clear q29
          try clear hx29
          try clear qi29
          try clear c31
          try clear c31b0
          try clear c31b1
          try clear c33
          try clear c37
          try clear c37b0
          try clear c38
          try clear c38b0
          try clear hcz10_0
          try clear hcz10_1
          try clear hcz12_0
          try clear hcz12_1
          try clear hcz20_0
          try clear hcz20_1
          try clear hcz24_0
          try clear hcz24_1
          try clear hcz28_0
          try clear hcz28_1
          try clear hcz29_0
          try clear hcz29_1
          try clear hcz34_0
          try clear hcz34_1
          try clear hcz40_0
          try clear hcz40_1
          try clear hcz42_0
          try clear hcz42_1
          try clear hcz4_0
          try clear hcz4_1
          try clear hcz7_0
          try clear hcz7_1
          try clear hcz9_0
          try clear hcz9_1
          try clear hfz10_0
          try clear hfz10_1
          try clear hfz12_0
          try clear hfz12_1
          try clear hfz20_0
          try clear hfz20_1
          try clear hfz24_0
          try clear hfz24_1
          try clear hfz28_0
          try clear hfz28_1
          try clear hfz29_0
          try clear hfz29_1
          try clear hfz34_0
          try clear hfz34_1
          try clear hfz40_0
          try clear hfz40_1
          try clear hfz42_0
          try clear hfz42_1
          try clear hfz4_0
          try clear hfz4_1
          try clear hfz7_0
          try clear hfz7_1
          try clear hfz9_0
          try clear hfz9_1
          try clear hx29002_0
          try clear hx29002_1
          try clear hx29005_0
          try clear hx29005_1
          try clear hx29007_0
          try clear hx29007_1
          try clear p2
          try clear p29002
          try clear p29005
          try clear p29007
          try clear p6
          try clear q29002
          try clear q29005
          try clear q29007
          obtain ⟨kq, x51_29, rfl, HA, HJ29, BK29001, HB⟩ := hcut
          cases kq with
          | zero => exact absurd HA.out (by simp [section_Check.j2])
          | succ kj29 =>
           have H := HA.out
           clear HA
           simp only [section_Check.j2] at H
           by_cases c44 : x51_29 = true
           ·subst c44
            have H1 : (some 19) = some r := by rw [if_pos rfl] at H; exact H
            clear H
            have H := H1
            clear H1
            obtain rfl := Option.some.inj H
            go_wp2
            go_ret
            exact ⟨er_, be_⟩
           ·replace c44 := Bool.eq_false_iff.mpr c44
            subst c44
            have H1 : (section_Check.l1 kj29 l0_1 (l0_1.length : Int) 0) = some r := by rw [if_neg (show ¬ (false = true) by decide)] at H; exact H
            clear H
            have H := H1
            clear H1
            have H' := Aside0.mk H
            clear H
            have hcz45_0 : wc.cell? ⟨gb29001, 0, none⟩ = some (.int .i64 a0_0) := (blk_cell BK29001.out 0).trans rfl
            have hcz45_1 : wc.cell? ⟨gb29001, 1, none⟩ = some (.slice A0_1 l0_1.length c0_1) := (blk_cell BK29001.out 1).trans rfl
            have hfz45_0 := blk_frozen BK29001.out 0
            have hfz45_1 := blk_frozen BK29001.out 1
            go_wp2
            go_loopg [55] kj29 (fun kq v55 w' => ∃ (x55_4 : Int), v55 = .int .i64 x55_4 ∧ Aside0 (section_Check.l1 kq l0_1 (l0_1.length : Int) x55_4 = some r) ∧ Aside0 (kq ≤ kj29) ∧ Aside0 (w'.heap[gb29001]? = some (.cells #[.int .i64 a0_0, (.slice A0_1 l0_1.length c0_1)] 24 (0, 0))) ∧ Aside0 (Below w.heap.size w w'))
            case atStart => exact ⟨(0), (by first | rfl | (simp; done) | (simp [*]; done)), H', ⟨Nat.le_refl _⟩, ⟨fb_ BK29001.out⟩, ⟨be_⟩⟩
            case round =>
             clear H'
             try clear c1
             try clear c2
             try clear c2b0
             try clear c2b1
             try clear p2
             try clear q2
             try clear hx2
             try clear qi2
             try clear c3
             try clear c4
             try clear c5
             try clear p6
             try clear c8
             try clear c8b0
             try clear c11
             try clear c13
             try clear c13b0
             try clear c14
             try clear c14b0
             try clear c15
             try clear c15b0
             try clear c17
             try clear c19
             try clear c23
             try clear c26
             try clear c26b0
             try clear c26b1
             try clear c26b2
             try clear c27
             try clear c27b0
             try clear c27b1
             try clear c29
             try clear p29
             try clear q29
             try clear hx29
             try clear qi29
             try clear c31
             try clear c31b0
             try clear c31b1
             try clear c33
             try clear c37
             try clear c37b0
             try clear c38
             try clear c38b0
             try clear c44
             try clear hcz10_0
             try clear hcz10_1
             try clear hcz12_0
             try clear hcz12_1
             try clear hcz20_0
             try clear hcz20_1
             try clear hcz24_0
             try clear hcz24_1
             try clear hcz28_0
             try clear hcz28_1
             try clear hcz29_0
             try clear hcz29_1
             try clear hcz34_0
             try clear hcz34_1
             try clear hcz40_0
             try clear hcz40_1
             try clear hcz42_0
             try clear hcz42_1
             try clear hcz45_0
             try clear hcz45_1
             try clear hcz4_0
             try clear hcz4_1
             try clear hcz7_0
             try clear hcz7_1
             try clear hcz9_0
             try clear hcz9_1
             try clear hfz10_0
             try clear hfz10_1
             try clear hfz12_0
             try clear hfz12_1
             try clear hfz20_0
             try clear hfz20_1
             try clear hfz24_0
             try clear hfz24_1
             try clear hfz28_0
             try clear hfz28_1
             try clear hfz29_0
             try clear hfz29_1
             try clear hfz34_0
             try clear hfz34_1
             try clear hfz40_0
             try clear hfz40_1
             try clear hfz42_0
             try clear hfz42_1
             try clear hfz45_0
             try clear hfz45_1
             try clear hfz4_0
             try clear hfz4_1
             try clear hfz7_0
             try clear hfz7_1
             try clear hfz9_0
             try clear hfz9_1
             try clear hx29002_0
             try clear hx29002_1
             try clear hx29005_0
             try clear hx29005_1
             try clear hx29007_0
             try clear hx29007_1
             try clear p2
             try clear p29
             try clear p29002
             try clear p29005
             try clear p29007
             try clear p6
             try clear q2
             try clear q29
             try clear q29002
             try clear q29005
             try clear q29007
             obtain ⟨x55_4, rfl, HA, HK4, BK29001, HB⟩ := hrel
             cases gk with
             | zero => exact absurd HA.out (by simp [section_Check.l1])
             | succ k4 =>
              have H := HA.out
              clear HA
              simp only [section_Check.l1] at H
              by_cases c46 : x55_4 < (l0_1.length : Int)
              ·rw [if_pos c46] at H
               have c46b0 : decide (x55_4 < (l0_1.length : Int)) = true := decide_eq_true c46
               clear c46
               by_cases c47 : 0 ≤ x55_4
               ·rw [if_pos c47] at H
                have c47b0 : decide (0 ≤ x55_4) = true := decide_eq_true c47
                clear c47
                by_cases c48 : x55_4 < (l0_1.length : Int)
                ·rw [if_pos c48] at H
                 have c48b0 : decide (x55_4 < (l0_1.length : Int)) = true := decide_eq_true c48
                 clear c48
                 replace H := Option.bind_eq_some_iff.mp H
                 obtain ⟨t29011, A490, H⟩ := H
                 replace H : (if t29011 = true then (if (!(((rd_T49 l0_1 x55_4).f0) == 0) || (!(((rd_T49 l0_1 x55_4).f1) == 0))) = true then (some 19) else (section_Check.l1 k4 l0_1 (l0_1.length : Int) (wrap64 (x55_4 + 1)))) else (section_Check.l1 k4 l0_1 (l0_1.length : Int) (wrap64 (x55_4 + 1)))) = some r := H
                 have A49 := Aside0.mk A490
                 clear A490
                 by_cases c50 : t29011 = true
                 ·subst c50
                  have H1 : (if (!(((rd_T49 l0_1 x55_4).f0) == 0) || (!(((rd_T49 l0_1 x55_4).f1) == 0))) = true then (some 19) else (section_Check.l1 k4 l0_1 (l0_1.length : Int) (wrap64 (x55_4 + 1)))) = some r := by rw [if_pos rfl] at H; exact H
                  clear H
                  have H := H1
                  clear H1
                  by_cases c51 : (!(((rd_T49 l0_1 x55_4).f0) == 0) || (!(((rd_T49 l0_1 x55_4).f1) == 0))) = true
                  ·rw [if_pos c51] at H
                   have c51b0 : (!(((rd_T49 l0_1 x55_4).f0) == 0) || (!(((rd_T49 l0_1 x55_4).f1) == 0))) = true := c51
                   clear c51
                   obtain rfl := Option.some.inj H
                   have p29009 : 0 ≤ (x55_4 : Int) := of_decide_eq_true (by first | (with_reducible assumption) | assumption)
                   have q29009 : x55_4 < (l0_1.length : Int) := of_decide_eq_true (by first | (with_reducible assumption) | assumption)
                   obtain ⟨ad29009, e29009, hx29009_0, hx29009_1⟩ := at_T49 HR0_1.out x55_4 p29009 q29009
                   cases e29009
                   replace hx29009_0 := (HB.out.cell (World.block_lt_of_cell? w _ hx29009_0)).trans hx29009_0
                   replace hx29009_1 := (HB.out.cell (World.block_lt_of_cell? w _ hx29009_1)).trans hx29009_1
                   replace p29009 := eq_true p29009
                   replace q29009 := eq_true q29009
                   go_wp2_with (first | ((with_reducible refine gate_dst (N := 7) rfl ?_); refine box_event ?hg (N := 7) ?hd (cs := #[.int .i64 0, .int .i64 0]) (t := 49) ?hr ?_; (case hd => rfl); (case hg => rfl); (case hr => first | (go_simp; done) | (go_simp; rfl)); intro gb29010 hg w52 hbox hb; have n0_ := Aside0.mk (blk_below (g := gb29001) (o := .cells #[.int .i64 a0_0, .slice (some ad29009) l0_1.length c0_1] 24 (0, 0)) (fb_ BK29001.out) hb); have n1_ := Aside0.mk (bs_ hb); have n2_ := Aside0.mk (hbox); have n3_ := Aside0.mk ((by rw [hg]; exact bz_ : w.heap.size ≤ gb29010)); have n4_ := Aside0.mk ((by rw [hg]; exact bz_ : w.heap.size ≤ gb29010)); have n5_ := Aside0.mk ((by rw [hg]; exact Nat.ne_of_lt (blk_lt (g := gb29001) (o := .cells #[.int .i64 a0_0, .slice (some ad29009) l0_1.length c0_1] 24 (0, 0)) (fb_ BK29001.out)) : gb29001 ≠ gb29010)); have n6_ := Aside0.mk ((by rw [hg]; exact Nat.ne_of_gt (blk_lt (g := gb29001) (o := .cells #[.int .i64 a0_0, .slice (some ad29009) l0_1.length c0_1] 24 (0, 0)) (fb_ BK29001.out)) : gb29010 ≠ gb29001)); clear BK29001 HB; have BK29001 := n0_; have HB := n1_; have BK29010 := n2_; have GW29010 := n3_; have GE29010 := n4_; have NB29001_29010 := n5_; have NB29010_29001 := n6_; clear n0_ n1_ n2_ n3_ n4_ n5_ n6_ hb hbox hg; have hnb53 := NB29010_29001.out; have hnc53 := NB29001_29010.out; have hcz54_0 : w52.cell? ⟨gb29010, 0, none⟩ = some (.int .i64 0) := (blk_cell BK29010.out 0).trans rfl; have hcz54_1 : w52.cell? ⟨gb29010, 1, none⟩ = some (.int .i64 0) := (blk_cell BK29010.out 1).trans rfl; have hfz54_0 := blk_frozen BK29010.out 0; have hfz54_1 := blk_frozen BK29010.out 1) | ((with_reducible refine gate_callee (f := 55) rfl ?_); refine goesL_ (some 60) rfl rfl Try.func55 (by kernel_rfl) rfl #[.agg #[.int .i64 ((rd_T49 l0_1 x55_4).f0), .int .i64 ((rd_T49 l0_1 x55_4).f1)]] rfl la_ ?_; (with_reducible refine (section_empty.calls ((rd_T49 l0_1 x55_4).f0) ((rd_T49 l0_1 x55_4).f1) true _ A49.out).mono ?_); rintro e w55 ⟨rfl, hb⟩; refine ⟨_, rfl, ?_⟩; have n0_ := Aside0.mk (blk_below (g := gb29001) (o := .cells #[.int .i64 a0_0, .slice (some ad29009) l0_1.length c0_1] 24 (0, 0)) (by (with_reducible repeat (first | refine blk_drewN ?_ _ | refine blk_drew ?_ | refine blk_alloc ?_ _)); refine blk_far ?_ NB29001_29010.out _; (with_reducible repeat (first | refine blk_drewN ?_ _ | refine blk_drew ?_ | refine blk_alloc ?_ _)); refine blk_far ?_ NB29001_29010.out _; (with_reducible repeat (first | refine blk_drewN ?_ _ | refine blk_drew ?_ | refine blk_alloc ?_ _)); exact BK29001.out) hb); have n1_ := Aside0.mk (blk_below (g := gb29010) (o := .cells #[.int .i64 ((rd_T49 l0_1 x55_4).f0), .int .i64 ((rd_T49 l0_1 x55_4).f1)] 49 (0, 0)) (by (with_reducible repeat (first | refine blk_drewN ?_ _ | refine blk_drew ?_ | refine blk_alloc ?_ _)); refine blk_put (cs := #[.int .i64 ((rd_T49 l0_1 x55_4).f0), .int .i64 0]) ?_ 1 _ rfl; (with_reducible repeat (first | refine blk_drewN ?_ _ | refine blk_drew ?_ | refine blk_alloc ?_ _)); refine blk_put (cs := #[.int .i64 0, .int .i64 0]) ?_ 0 _ rfl; (with_reducible repeat (first | refine blk_drewN ?_ _ | refine blk_drew ?_ | refine blk_alloc ?_ _)); exact BK29010.out) hb); have n2_ := Aside0.mk (bs_ hb); clear BK29001 BK29010 HB; have BK29001 := n0_; have BK29010 := n1_; have HB := n2_; clear n0_ n1_ n2_; (try clear hb); (try clear hb2); (try clear hk); (try clear hi); have hcz56_0 : w55.cell? ⟨gb29010, 0, none⟩ = some (.int .i64 ((rd_T49 l0_1 x55_4).f0)) := (blk_cell BK29010.out 0).trans rfl; have hcz56_1 : w55.cell? ⟨gb29010, 1, none⟩ = some (.int .i64 ((rd_T49 l0_1 x55_4).f1)) := (blk_cell BK29010.out 1).trans rfl; have hfz56_0 := blk_frozen BK29010.out 0; have hfz56_1 := blk_frozen BK29010.out 1))
                   go_ret
                   exact ⟨er_, be_⟩
                  ·rw [if_neg c51] at H
                   have c51b0 : (!(((rd_T49 l0_1 x55_4).f0) == 0) || (!(((rd_T49 l0_1 x55_4).f1) == 0))) = false := by simpa using c51
                   clear c51
                   have H' := Aside0.mk H
                   clear H
                   have p29009 : 0 ≤ (x55_4 : Int) := of_decide_eq_true (by first | (with_reducible assumption) | assumption)
                   have q29009 : x55_4 < (l0_1.length : Int) := of_decide_eq_true (by first | (with_reducible assumption) | assumption)
                   obtain ⟨ad29009, e29009, hx29009_0, hx29009_1⟩ := at_T49 HR0_1.out x55_4 p29009 q29009
                   cases e29009
                   replace hx29009_0 := (HB.out.cell (World.block_lt_of_cell? w _ hx29009_0)).trans hx29009_0
                   replace hx29009_1 := (HB.out.cell (World.block_lt_of_cell? w _ hx29009_1)).trans hx29009_1
                   replace p29009 := eq_true p29009
                   replace q29009 := eq_true q29009
                   go_wp2_with (first | ((with_reducible refine gate_dst (N := 7) rfl ?_); refine box_event ?hg (N := 7) ?hd (cs := #[.int .i64 0, .int .i64 0]) (t := 49) ?hr ?_; (case hd => rfl); (case hg => rfl); (case hr => first | (go_simp; done) | (go_simp; rfl)); intro gb29010 hg w57 hbox hb; have n0_ := Aside0.mk (blk_below (g := gb29001) (o := .cells #[.int .i64 a0_0, .slice (some ad29009) l0_1.length c0_1] 24 (0, 0)) (fb_ BK29001.out) hb); have n1_ := Aside0.mk (bs_ hb); have n2_ := Aside0.mk (hbox); have n3_ := Aside0.mk ((by rw [hg]; exact bz_ : w.heap.size ≤ gb29010)); have n4_ := Aside0.mk ((by rw [hg]; exact bz_ : w.heap.size ≤ gb29010)); have n5_ := Aside0.mk ((by rw [hg]; exact Nat.ne_of_lt (blk_lt (g := gb29001) (o := .cells #[.int .i64 a0_0, .slice (some ad29009) l0_1.length c0_1] 24 (0, 0)) (fb_ BK29001.out)) : gb29001 ≠ gb29010)); have n6_ := Aside0.mk ((by rw [hg]; exact Nat.ne_of_gt (blk_lt (g := gb29001) (o := .cells #[.int .i64 a0_0, .slice (some ad29009) l0_1.length c0_1] 24 (0, 0)) (fb_ BK29001.out)) : gb29010 ≠ gb29001)); clear BK29001 HB; have BK29001 := n0_; have HB := n1_; have BK29010 := n2_; have GW29010 := n3_; have GE29010 := n4_; have NB29001_29010 := n5_; have NB29010_29001 := n6_; clear n0_ n1_ n2_ n3_ n4_ n5_ n6_ hb hbox hg; have hnb58 := NB29010_29001.out; have hnc58 := NB29001_29010.out; have hcz59_0 : w57.cell? ⟨gb29010, 0, none⟩ = some (.int .i64 0) := (blk_cell BK29010.out 0).trans rfl; have hcz59_1 : w57.cell? ⟨gb29010, 1, none⟩ = some (.int .i64 0) := (blk_cell BK29010.out 1).trans rfl; have hfz59_0 := blk_frozen BK29010.out 0; have hfz59_1 := blk_frozen BK29010.out 1) | ((with_reducible refine gate_callee (f := 55) rfl ?_); refine goesL_ (some 60) rfl rfl Try.func55 (by kernel_rfl) rfl #[.agg #[.int .i64 ((rd_T49 l0_1 x55_4).f0), .int .i64 ((rd_T49 l0_1 x55_4).f1)]] rfl la_ ?_; (with_reducible refine (section_empty.calls ((rd_T49 l0_1 x55_4).f0) ((rd_T49 l0_1 x55_4).f1) true _ A49.out).mono ?_); rintro e w60 ⟨rfl, hb⟩; refine ⟨_, rfl, ?_⟩; have n0_ := Aside0.mk (blk_below (g := gb29001) (o := .cells #[.int .i64 a0_0, .slice (some ad29009) l0_1.length c0_1] 24 (0, 0)) (by (with_reducible repeat (first | refine blk_drewN ?_ _ | refine blk_drew ?_ | refine blk_alloc ?_ _)); refine blk_far ?_ NB29001_29010.out _; (with_reducible repeat (first | refine blk_drewN ?_ _ | refine blk_drew ?_ | refine blk_alloc ?_ _)); refine blk_far ?_ NB29001_29010.out _; (with_reducible repeat (first | refine blk_drewN ?_ _ | refine blk_drew ?_ | refine blk_alloc ?_ _)); exact BK29001.out) hb); have n1_ := Aside0.mk (blk_below (g := gb29010) (o := .cells #[.int .i64 ((rd_T49 l0_1 x55_4).f0), .int .i64 ((rd_T49 l0_1 x55_4).f1)] 49 (0, 0)) (by (with_reducible repeat (first | refine blk_drewN ?_ _ | refine blk_drew ?_ | refine blk_alloc ?_ _)); refine blk_put (cs := #[.int .i64 ((rd_T49 l0_1 x55_4).f0), .int .i64 0]) ?_ 1 _ rfl; (with_reducible repeat (first | refine blk_drewN ?_ _ | refine blk_drew ?_ | refine blk_alloc ?_ _)); refine blk_put (cs := #[.int .i64 0, .int .i64 0]) ?_ 0 _ rfl; (with_reducible repeat (first | refine blk_drewN ?_ _ | refine blk_drew ?_ | refine blk_alloc ?_ _)); exact BK29010.out) hb); have n2_ := Aside0.mk (bs_ hb); clear BK29001 BK29010 HB; have BK29001 := n0_; have BK29010 := n1_; have HB := n2_; clear n0_ n1_ n2_; (try clear hb); (try clear hb2); (try clear hk); (try clear hi); have hcz61_0 : w60.cell? ⟨gb29010, 0, none⟩ = some (.int .i64 ((rd_T49 l0_1 x55_4).f0)) := (blk_cell BK29010.out 0).trans rfl; have hcz61_1 : w60.cell? ⟨gb29010, 1, none⟩ = some (.int .i64 ((rd_T49 l0_1 x55_4).f1)) := (blk_cell BK29010.out 1).trans rfl; have hfz61_0 := blk_frozen BK29010.out 0; have hfz61_1 := blk_frozen BK29010.out 1))
                   go_roundg k4
                   case measure => have := HJ4.out; have := HK2.out; have := HJ29.out; have := HK4.out; omega
                   case rel => exact ⟨(wrap64 (x55_4 + 1)), (by first | rfl | (simp; done) | (simp [*]; done)), H', ⟨by have := HJ4.out; have := HK2.out; have := HJ29.out; have := HK4.out; omega⟩, ⟨fb_ BK29001.out⟩, ⟨be_⟩⟩
                 ·replace c50 := Bool.eq_false_iff.mpr c50
                  subst c50
                  have H1 : (section_Check.l1 k4 l0_1 (l0_1.length : Int) (wrap64 (x55_4 + 1))) = some r := by rw [if_neg (show ¬ (false = true) by decide)] at H; exact H
                  clear H
                  have H := H1
                  clear H1
                  have H' := Aside0.mk H
                  clear H
                  have p29009 : 0 ≤ (x55_4 : Int) := of_decide_eq_true (by first | (with_reducible assumption) | assumption)
                  have q29009 : x55_4 < (l0_1.length : Int) := of_decide_eq_true (by first | (with_reducible assumption) | assumption)
                  obtain ⟨ad29009, e29009, hx29009_0, hx29009_1⟩ := at_T49 HR0_1.out x55_4 p29009 q29009
                  cases e29009
                  replace hx29009_0 := (HB.out.cell (World.block_lt_of_cell? w _ hx29009_0)).trans hx29009_0
                  replace hx29009_1 := (HB.out.cell (World.block_lt_of_cell? w _ hx29009_1)).trans hx29009_1
                  replace p29009 := eq_true p29009
                  replace q29009 := eq_true q29009
                  go_wp2_with (first | ((with_reducible refine gate_dst (N := 7) rfl ?_); refine box_event ?hg (N := 7) ?hd (cs := #[.int .i64 0, .int .i64 0]) (t := 49) ?hr ?_; (case hd => rfl); (case hg => rfl); (case hr => first | (go_simp; done) | (go_simp; rfl)); intro gb29010 hg w62 hbox hb; have n0_ := Aside0.mk (blk_below (g := gb29001) (o := .cells #[.int .i64 a0_0, .slice (some ad29009) l0_1.length c0_1] 24 (0, 0)) (fb_ BK29001.out) hb); have n1_ := Aside0.mk (bs_ hb); have n2_ := Aside0.mk (hbox); have n3_ := Aside0.mk ((by rw [hg]; exact bz_ : w.heap.size ≤ gb29010)); have n4_ := Aside0.mk ((by rw [hg]; exact bz_ : w.heap.size ≤ gb29010)); have n5_ := Aside0.mk ((by rw [hg]; exact Nat.ne_of_lt (blk_lt (g := gb29001) (o := .cells #[.int .i64 a0_0, .slice (some ad29009) l0_1.length c0_1] 24 (0, 0)) (fb_ BK29001.out)) : gb29001 ≠ gb29010)); have n6_ := Aside0.mk ((by rw [hg]; exact Nat.ne_of_gt (blk_lt (g := gb29001) (o := .cells #[.int .i64 a0_0, .slice (some ad29009) l0_1.length c0_1] 24 (0, 0)) (fb_ BK29001.out)) : gb29010 ≠ gb29001)); clear BK29001 HB; have BK29001 := n0_; have HB := n1_; have BK29010 := n2_; have GW29010 := n3_; have GE29010 := n4_; have NB29001_29010 := n5_; have NB29010_29001 := n6_; clear n0_ n1_ n2_ n3_ n4_ n5_ n6_ hb hbox hg; have hnb63 := NB29010_29001.out; have hnc63 := NB29001_29010.out; have hcz64_0 : w62.cell? ⟨gb29010, 0, none⟩ = some (.int .i64 0) := (blk_cell BK29010.out 0).trans rfl; have hcz64_1 : w62.cell? ⟨gb29010, 1, none⟩ = some (.int .i64 0) := (blk_cell BK29010.out 1).trans rfl; have hfz64_0 := blk_frozen BK29010.out 0; have hfz64_1 := blk_frozen BK29010.out 1) | ((with_reducible refine gate_callee (f := 55) rfl ?_); refine goesL_ (some 60) rfl rfl Try.func55 (by kernel_rfl) rfl #[.agg #[.int .i64 ((rd_T49 l0_1 x55_4).f0), .int .i64 ((rd_T49 l0_1 x55_4).f1)]] rfl la_ ?_; (with_reducible refine (section_empty.calls ((rd_T49 l0_1 x55_4).f0) ((rd_T49 l0_1 x55_4).f1) false _ A49.out).mono ?_); rintro e w65 ⟨rfl, hb⟩; refine ⟨_, rfl, ?_⟩; have n0_ := Aside0.mk (blk_below (g := gb29001) (o := .cells #[.int .i64 a0_0, .slice (some ad29009) l0_1.length c0_1] 24 (0, 0)) (by (with_reducible repeat (first | refine blk_drewN ?_ _ | refine blk_drew ?_ | refine blk_alloc ?_ _)); refine blk_far ?_ NB29001_29010.out _; (with_reducible repeat (first | refine blk_drewN ?_ _ | refine blk_drew ?_ | refine blk_alloc ?_ _)); refine blk_far ?_ NB29001_29010.out _; (with_reducible repeat (first | refine blk_drewN ?_ _ | refine blk_drew ?_ | refine blk_alloc ?_ _)); exact BK29001.out) hb); have n1_ := Aside0.mk (blk_below (g := gb29010) (o := .cells #[.int .i64 ((rd_T49 l0_1 x55_4).f0), .int .i64 ((rd_T49 l0_1 x55_4).f1)] 49 (0, 0)) (by (with_reducible repeat (first | refine blk_drewN ?_ _ | refine blk_drew ?_ | refine blk_alloc ?_ _)); refine blk_put (cs := #[.int .i64 ((rd_T49 l0_1 x55_4).f0), .int .i64 0]) ?_ 1 _ rfl; (with_reducible repeat (first | refine blk_drewN ?_ _ | refine blk_drew ?_ | refine blk_alloc ?_ _)); refine blk_put (cs := #[.int .i64 0, .int .i64 0]) ?_ 0 _ rfl; (with_reducible repeat (first | refine blk_drewN ?_ _ | refine blk_drew ?_ | refine blk_alloc ?_ _)); exact BK29010.out) hb); have n2_ := Aside0.mk (bs_ hb); clear BK29001 BK29010 HB; have BK29001 := n0_; have BK29010 := n1_; have HB := n2_; clear n0_ n1_ n2_; (try clear hb); (try clear hb2); (try clear hk); (try clear hi)))
                  go_roundg k4
                  case measure => have := HJ4.out; have := HK2.out; have := HJ29.out; have := HK4.out; omega
                  case rel => exact ⟨(wrap64 (x55_4 + 1)), (by first | rfl | (simp; done) | (simp [*]; done)), H', ⟨by have := HJ4.out; have := HK2.out; have := HJ29.out; have := HK4.out; omega⟩, ⟨fb_ BK29001.out⟩, ⟨be_⟩⟩
                ·rw [if_neg c48] at H
                 exact absurd H (by simp)
               ·rw [if_neg c47] at H
                exact absurd H (by simp)
              ·rw [if_neg c46] at H
               have c46b0 : decide (x55_4 < (l0_1.length : Int)) = false := decide_eq_false c46
               clear c46
               obtain rfl := Option.some.inj H
               go_wp2
               go_ret
               exact ⟨er_, be_⟩

end Go.Proofs.Ytdbjoopkliafeaa.P

end
section
namespace Go.Proofs.Ytdbjoopkliafeaa.P
open Go Go.RowKit Go.Proofs.YtdbjoopkliafeaaW.PrintWords Go.Proofs.YtdbjoopkliafeaaW.PrintLast Go.Proofs.YtdbjoopkliafeaaW.PrintMore
attribute [local go_sem] max2_int min2_int max_two min_two max_three min_three max_four min_four max_five min_eight max_eight   -- for this text's walks alone
set_option linter.unusedVariables false
set_option linter.unusedSimpArgs false

def section_valid.f (k : Nat) (a0_0 : Int) (l0_1 : List (S49)) : Option (Int × (List (S49))) := (section_Check.f k a0_0 l0_1).bind fun t49003 => (if t49003 = 0 then (some (a0_0, l0_1)) else (some (0, ([] : List (S49)))))
theorem section_valid.mono : ∀ a0 a1 k, LeO (section_valid.f k a0 a1) (section_valid.f (k + 1) a0 a1) := by
 intro a0 a1 k
 unfold section_valid.f
 repeat' first
   | (with_reducible exact section_Check.mono _ _ _)
   | (with_reducible exact LeO.refl _)
   | (with_reducible exact LeO.none _)
   | (with_reducible refine LeO.ite ?_ ?_)
   | (with_reducible refine LeO.bind ?_ (fun _ => ?_))
   | exact section_Check.mono _ _ _
   | exact LeO.none _
   | refine LeO.ite ?_ ?_
   | refine LeO.bind ?_ (fun _ => ?_)
set_option maxHeartbeats 8000000 in
set_option maxRecDepth 100000 in
theorem section_valid.calls (k : Nat) (a0_0 : Int) (P0_1_ : Nat → Prop) (A0_1 : Option Addr) (c0_1 : Nat) (l0_1 : List (S49)) (r1 : Int) (r2 : List (S49)) (w : World) (hs0_1 : Kd.V k49 49 w w.heap.size (fun k_ => P0_1_ k_) (.slice A0_1 l0_1.length c0_1) l0_1) (h : section_valid.f k a0_0 l0_1 = some (r1, r2)) :
  Calls Try.prog 49 #[.agg #[.int .i64 a0_0, .slice A0_1 l0_1.length c0_1]] w fun e w' => ∃ v1_ : Value, e = .returned (.agg #[.int .i64 r1, v1_]) ∧ Kd.V k49 49 w' w.heap.size (fun k_ => (P0_1_ k_ ∨ w.heap.size ≤ k_)) v1_ r2 ∧ Below w.heap.size w w' := by
 have hu24 := Try.underlying24
 have HO0_1 := Aside0.mk (show Kd.V k49 49 w w.heap.size (fun k_ => (P0_1_ k_ ∨ w.heap.size ≤ k_)) (.slice A0_1 l0_1.length c0_1) l0_1 from Kd.V_mono hs0_1 (fun k_ hk => .inl hk))
 have HB := Aside0.mk (Below.refl w.heap.size w)
 have H : ((section_Check.f k a0_0 l0_1).bind fun t49003 => (if t49003 = 0 then (some (a0_0, l0_1)) else (some (0, ([] : List (S49)))))) = some (r1, r2) := h
 clear h
 replace H := Option.bind_eq_some_iff.mp H
 obtain ⟨t49003, A20, H⟩ := H
 replace H : (if t49003 = 0 then (some (a0_0, l0_1)) else (some (0, ([] : List (S49))))) = some (r1, r2) := H
 have A2 := Aside0.mk A20
 clear A20
 by_cases c3 : t49003 = 0
 ·rw [if_pos c3] at H
  have c3b0 : (t49003 == 0) = true := beq_iff_eq.mpr c3
  have c3b1 : (t49003 != 0) = false := bne_eq_false_iff_eq.mpr c3
  clear c3
  simp only [Option.some.injEq, Prod.mk.injEq] at H
  obtain ⟨rfl, rfl⟩ := H
  go_enter Try.func49, Try.ntmps49
  go_wp2_with (first | ((with_reducible refine gate_dst (N := 1) rfl ?_); refine box_event ?hg (N := 1) ?hd (cs := #[.int .i64 a0_0, .slice A0_1 l0_1.length c0_1]) (t := 24) ?hr ?_; (case hd => rfl); (case hg => rfl); (case hr => first | (go_simp; done) | (go_simp; rfl)); intro gb49001 hg w4 hbox hb; have n0_ := Aside0.mk (Kd.V_below (Kd.V_elderB (fV_ HO0_1.out) gb49001 (Nat.le_of_eq hg.symm)) hb); have n1_ := Aside0.mk (bs_ hb); have n2_ := Aside0.mk (hbox); have n3_ := Aside0.mk ((by rw [hg]; exact bz_ : w.heap.size ≤ gb49001)); have n4_ := Aside0.mk ((by rw [hg]; exact bz_ : w.heap.size ≤ gb49001)); clear HO0_1 HB; have HO0_1 := n0_; have HB := n1_; have BK49001 := n2_; have GW49001 := n3_; have GE49001 := n4_; clear n0_ n1_ n2_ n3_ n4_; clear hb hbox hg) | ((with_reducible refine gate_dst (N := 2) rfl ?_); refine box_event ?hg (N := 2) ?hd (cs := #[.int .i64 0, .slice none 0 0]) (t := 24) ?hr ?_; (case hd => rfl); (case hg => rfl); (case hr => first | (go_simp; done) | (go_simp; rfl)); intro gb49002 hg w5 hbox hb; have n0_ := Aside0.mk (Kd.V_below (Kd.V_elderB (fV_ HO0_1.out) gb49002 (Nat.le_of_eq hg.symm)) hb); have n1_ := Aside0.mk (blk_below (g := gb49001) (o := .cells #[.int .i64 a0_0, .slice A0_1 l0_1.length c0_1] 24 (0, 0)) (fb_ BK49001.out) hb); have n2_ := Aside0.mk (bs_ hb); have n3_ := Aside0.mk (hbox); have n4_ := Aside0.mk ((by rw [hg]; exact bz_ : w.heap.size ≤ gb49002)); have n5_ := Aside0.mk ((by rw [hg]; exact bz_ : w.heap.size ≤ gb49002)); have n6_ := Aside0.mk ((by rw [hg]; exact Nat.ne_of_lt (blk_lt (g := gb49001) (o := .cells #[.int .i64 a0_0, .slice A0_1 l0_1.length c0_1] 24 (0, 0)) (fb_ BK49001.out)) : gb49001 ≠ gb49002)); have n7_ := Aside0.mk ((by rw [hg]; exact Nat.ne_of_gt (blk_lt (g := gb49001) (o := .cells #[.int .i64 a0_0, .slice A0_1 l0_1.length c0_1] 24 (0, 0)) (fb_ BK49001.out)) : gb49002 ≠ gb49001)); clear HO0_1 BK49001 HB; have HO0_1 := n0_; have BK49001 := n1_; have HB := n2_; have BK49002 := n3_; have GW49002 := n4_; have GE49002 := n5_; have NB49001_49002 := n6_; have NB49002_49001 := n7_; clear n0_ n1_ n2_ n3_ n4_ n5_ n6_ n7_ hb hbox hg; have hnb6 := NB49001_49002.out; have hnc6 := NB49002_49001.out; have hcz7_0 : w5.cell? ⟨gb49001, 0, none⟩ = some (.int .i64 a0_0) := (blk_cell BK49001.out 0).trans rfl; have hcz7_1 : w5.cell? ⟨gb49001, 1, none⟩ = some (.slice A0_1 l0_1.length c0_1) := (blk_cell BK49001.out 1).trans rfl; have hfz7_0 := blk_frozen BK49001.out 0; have hfz7_1 := blk_frozen BK49001.out 1) | ((with_reducible refine gate_callee (f := 29) rfl ?_); refine goesL_ (some 4) rfl rfl Try.func29 (by kernel_rfl) rfl #[.agg #[.int .i64 a0_0, .slice A0_1 l0_1.length c0_1]] rfl la_ ?_; (with_reducible refine (section_Check.calls k a0_0 _ _ l0_1 t49003 _ ?side1 ?side2 A2.out).mono ?_); (case side1 => repeat (first | exact (Kd.V_reads' HO0_1.out).2.2 | (with_reducible refine Kd.C_alloc ?_ _) | (with_reducible refine Kd.C_drewN ?_ _) | (with_reducible refine Kd.C_drew ?_))); (case side2 => exact (Kd.V_reads' HO0_1.out).2.1); rintro e w8 ⟨rfl, hb⟩; refine ⟨_, rfl, ?_⟩; have n0_ := Aside0.mk (Kd.V_below (fV_ HO0_1.out) hb); have n1_ := Aside0.mk (blk_below (g := gb49001) (o := .cells #[.int .i64 a0_0, .slice A0_1 l0_1.length c0_1] 24 (0, 0)) (fb_ BK49001.out) hb); have n2_ := Aside0.mk (blk_below (g := gb49002) (o := .cells #[.int .i64 0, .slice none 0 0] 24 (0, 0)) (fb_ BK49002.out) hb); have n3_ := Aside0.mk (bs_ hb); clear HO0_1 BK49001 BK49002 HB; have HO0_1 := n0_; have BK49001 := n1_; have BK49002 := n2_; have HB := n3_; clear n0_ n1_ n2_ n3_; (try clear hb); (try clear hb2); (try clear hk); (try clear hi); have hcz9_0 : w8.cell? ⟨gb49001, 0, none⟩ = some (.int .i64 a0_0) := (blk_cell BK49001.out 0).trans rfl; have hcz9_1 : w8.cell? ⟨gb49001, 1, none⟩ = some (.slice A0_1 l0_1.length c0_1) := (blk_cell BK49001.out 1).trans rfl; have hfz9_0 := blk_frozen BK49001.out 0; have hfz9_1 := blk_frozen BK49001.out 1; have hcz10_0 : w8.cell? ⟨gb49002, 0, none⟩ = some (.int .i64 0) := (blk_cell BK49002.out 0).trans rfl; have hcz10_1 : w8.cell? ⟨gb49002, 1, none⟩ = some (.slice none 0 0) := (blk_cell BK49002.out 1).trans rfl; have hfz10_0 := blk_frozen BK49002.out 0; have hfz10_1 := blk_frozen BK49002.out 1))
  refine bodyPost_ret (results_cell_row rfl _ _ gb49002 24 #[.int .i64 a0_0, .slice A0_1 l0_1.length c0_1] (0, 0) _ rfl (by (with_reducible repeat (first | refine blk_drewN ?_ _ | refine blk_drew ?_ | refine blk_alloc ?_ _)); refine blk_put (cs := #[.int .i64 a0_0, .slice none 0 0]) ?_ 1 _ rfl; (with_reducible repeat (first | refine blk_drewN ?_ _ | refine blk_drew ?_ | refine blk_alloc ?_ _)); refine blk_put (cs := #[.int .i64 0, .slice none 0 0]) ?_ 0 _ rfl; (with_reducible repeat (first | refine blk_drewN ?_ _ | refine blk_drew ?_ | refine blk_alloc ?_ _)); exact BK49002.out) Try.underlying24 rfl (by kernel_rfl)) rfl ?_
  exact ⟨_, er_, by (with_reducible repeat (first | apply Kd.V_alloc | apply Kd.V_drewN | apply Kd.V_drew)); exact Kd.V_mono (Kd.V_far (p := ⟨gb49002, 1, none⟩) (Kd.V_far (p := ⟨gb49002, 0, none⟩) (Kd.V_mono HO0_1.out (fun k_ hk => (⟨hk, hk.2⟩ : _ ∧ k_ ≠ gb49002))) (fun _ hk => hk.2) (.int .i64 a0_0)) (fun _ hk => hk.2) (.slice A0_1 l0_1.length c0_1)) (fun _ hk => hk.1.1.1), be_⟩
 ·rw [if_neg c3] at H
  have c3b0 : (t49003 == 0) = false := beq_eq_false_iff_ne.mpr c3
  have c3b1 : (t49003 != 0) = true := bne_iff_ne.mpr c3
  simp only [Option.some.injEq, Prod.mk.injEq] at H
  obtain ⟨rfl, rfl⟩ := H
  go_enter Try.func49, Try.ntmps49
  go_wp2_with (first | ((with_reducible refine gate_dst (N := 1) rfl ?_); refine box_event ?hg (N := 1) ?hd (cs := #[.int .i64 a0_0, .slice A0_1 l0_1.length c0_1]) (t := 24) ?hr ?_; (case hd => rfl); (case hg => rfl); (case hr => first | (go_simp; done) | (go_simp; rfl)); intro gb49001 hg w11 hbox hb; have n0_ := Aside0.mk (Kd.V_below (Kd.V_elderB (fV_ HO0_1.out) gb49001 (Nat.le_of_eq hg.symm)) hb); have n1_ := Aside0.mk (bs_ hb); have n2_ := Aside0.mk (hbox); have n3_ := Aside0.mk ((by rw [hg]; exact bz_ : w.heap.size ≤ gb49001)); have n4_ := Aside0.mk ((by rw [hg]; exact bz_ : w.heap.size ≤ gb49001)); clear HO0_1 HB; have HO0_1 := n0_; have HB := n1_; have BK49001 := n2_; have GW49001 := n3_; have GE49001 := n4_; clear n0_ n1_ n2_ n3_ n4_; clear hb hbox hg) | ((with_reducible refine gate_dst (N := 2) rfl ?_); refine box_event ?hg (N := 2) ?hd (cs := #[.int .i64 0, .slice none 0 0]) (t := 24) ?hr ?_; (case hd => rfl); (case hg => rfl); (case hr => first | (go_simp; done) | (go_simp; rfl)); intro gb49002 hg w12 hbox hb; have n0_ := Aside0.mk (Kd.V_below (Kd.V_elderB (fV_ HO0_1.out) gb49002 (Nat.le_of_eq hg.symm)) hb); have n1_ := Aside0.mk (blk_below (g := gb49001) (o := .cells #[.int .i64 a0_0, .slice A0_1 l0_1.length c0_1] 24 (0, 0)) (fb_ BK49001.out) hb); have n2_ := Aside0.mk (bs_ hb); have n3_ := Aside0.mk (hbox); have n4_ := Aside0.mk ((by rw [hg]; exact bz_ : w.heap.size ≤ gb49002)); have n5_ := Aside0.mk ((by rw [hg]; exact bz_ : w.heap.size ≤ gb49002)); have n6_ := Aside0.mk ((by rw [hg]; exact Nat.ne_of_lt (blk_lt (g := gb49001) (o := .cells #[.int .i64 a0_0, .slice A0_1 l0_1.length c0_1] 24 (0, 0)) (fb_ BK49001.out)) : gb49001 ≠ gb49002)); have n7_ := Aside0.mk ((by rw [hg]; exact Nat.ne_of_gt (blk_lt (g := gb49001) (o := .cells #[.int .i64 a0_0, .slice A0_1 l0_1.length c0_1] 24 (0, 0)) (fb_ BK49001.out)) : gb49002 ≠ gb49001)); clear HO0_1 BK49001 HB; have HO0_1 := n0_; have BK49001 := n1_; have HB := n2_; have BK49002 := n3_; have GW49002 := n4_; have GE49002 := n5_; have NB49001_49002 := n6_; have NB49002_49001 := n7_; clear n0_ n1_ n2_ n3_ n4_ n5_ n6_ n7_ hb hbox hg; have hnb13 := NB49001_49002.out; have hnc13 := NB49002_49001.out; have hcz14_0 : w12.cell? ⟨gb49001, 0, none⟩ = some (.int .i64 a0_0) := (blk_cell BK49001.out 0).trans rfl; have hcz14_1 : w12.cell? ⟨gb49001, 1, none⟩ = some (.slice A0_1 l0_1.length c0_1) := (blk_cell BK49001.out 1).trans rfl; have hfz14_0 := blk_frozen BK49001.out 0; have hfz14_1 := blk_frozen BK49001.out 1) | ((with_reducible refine gate_callee (f := 29) rfl ?_); refine goesL_ (some 4) rfl rfl Try.func29 (by kernel_rfl) rfl #[.agg #[.int .i64 a0_0, .slice A0_1 l0_1.length c0_1]] rfl la_ ?_; (with_reducible refine (section_Check.calls k a0_0 _ _ l0_1 t49003 _ ?side1 ?side2 A2.out).mono ?_); (case side1 => repeat (first | exact (Kd.V_reads' HO0_1.out).2.2 | (with_reducible refine Kd.C_alloc ?_ _) | (with_reducible refine Kd.C_drewN ?_ _) | (with_reducible refine Kd.C_drew ?_))); (case side2 => exact (Kd.V_reads' HO0_1.out).2.1); rintro e w15 ⟨rfl, hb⟩; refine ⟨_, rfl, ?_⟩; have n0_ := Aside0.mk (Kd.V_below (fV_ HO0_1.out) hb); have n1_ := Aside0.mk (blk_below (g := gb49001) (o := .cells #[.int .i64 a0_0, .slice A0_1 l0_1.length c0_1] 24 (0, 0)) (fb_ BK49001.out) hb); have n2_ := Aside0.mk (blk_below (g := gb49002) (o := .cells #[.int .i64 0, .slice none 0 0] 24 (0, 0)) (fb_ BK49002.out) hb); have n3_ := Aside0.mk (bs_ hb); clear HO0_1 BK49001 BK49002 HB; have HO0_1 := n0_; have BK49001 := n1_; have BK49002 := n2_; have HB := n3_; clear n0_ n1_ n2_ n3_; (try clear hb); (try clear hb2); (try clear hk); (try clear hi); have hcz16_0 : w15.cell? ⟨gb49002, 0, none⟩ = some (.int .i64 0) := (blk_cell BK49002.out 0).trans rfl; have hcz16_1 : w15.cell? ⟨gb49002, 1, none⟩ = some (.slice none 0 0) := (blk_cell BK49002.out 1).trans rfl; have hfz16_0 := blk_frozen BK49002.out 0; have hfz16_1 := blk_frozen BK49002.out 1))
  refine bodyPost_ret (results_cell_row rfl _ _ gb49002 24 #[.int .i64 0, .slice none 0 0] (0, 0) _ rfl (by (with_reducible repeat (first | refine blk_drewN ?_ _ | refine blk_drew ?_ | refine blk_alloc ?_ _)); refine blk_put (cs := #[.int .i64 0, .slice none 0 0]) ?_ 1 _ rfl; (with_reducible repeat (first | refine blk_drewN ?_ _ | refine blk_drew ?_ | refine blk_alloc ?_ _)); refine blk_put (cs := #[.int .i64 0, .slice none 0 0]) ?_ 0 _ rfl; (with_reducible repeat (first | refine blk_drewN ?_ _ | refine blk_drew ?_ | refine blk_alloc ?_ _)); exact BK49002.out) Try.underlying24 rfl (by kernel_rfl)) rfl ?_
  exact ⟨_, er_, Kd.V_nil _ _ _ _ _, be_⟩

end Go.Proofs.Ytdbjoopkliafeaa.P

end
section
namespace Go.Proofs.Ytdbjoopkliafeaa.P
open Go Go.RowKit Go.Proofs.YtdbjoopkliafeaaW.PrintWords Go.Proofs.YtdbjoopkliafeaaW.PrintLast Go.Proofs.YtdbjoopkliafeaaW.PrintMore
attribute [local go_sem] max2_int min2_int max_two min_two max_three min_three max_four min_four max_five min_eight max_eight   -- for this text's walks alone
set_option linter.unusedVariables false
set_option linter.unusedSimpArgs false

def span_empty.f (a0_0 : Int) (a0_1 : Int) : Option (Bool) := some (decide (a0_0 ≥ a0_1))
set_option maxHeartbeats 8000000 in
set_option maxRecDepth 100000 in
theorem span_empty.calls (a0_0 : Int) (a0_1 : Int) (r : Bool) (w : World) (h : span_empty.f a0_0 a0_1 = some r) :
  Calls Try.prog 69 #[.agg #[.int .i64 a0_0, .int .i64 a0_1]] w fun e w' => e = .returned (.bool r) ∧ Below w.heap.size w w' := by
 have hu49 := Try.underlying49
 have HB := Aside0.mk (Below.refl w.heap.size w)
 have H : (some (decide (a0_0 ≥ a0_1))) = some r := h
 clear h
 obtain rfl := Option.some.inj H
 go_enter Try.func69, Try.ntmps69
 go_wp2_with (first | ((with_reducible refine gate_dst (N := 1) rfl ?_); refine box_event ?hg (N := 1) ?hd (cs := #[.int .i64 a0_0, .int .i64 a0_1]) (t := 49) ?hr ?_; (case hd => rfl); (case hg => rfl); (case hr => first | (go_simp; done) | (go_simp; rfl)); intro gb69001 hg w2 hbox hb; have n0_ := Aside0.mk (bs_ hb); have n1_ := Aside0.mk (hbox); have n2_ := Aside0.mk ((by rw [hg]; exact bz_ : w.heap.size ≤ gb69001)); have n3_ := Aside0.mk ((by rw [hg]; exact bz_ : w.heap.size ≤ gb69001)); clear HB; have HB := n0_; have BK69001 := n1_; have GW69001 := n2_; have GE69001 := n3_; clear n0_ n1_ n2_ n3_ hb hbox hg; have hcz3_0 : w2.cell? ⟨gb69001, 0, none⟩ = some (.int .i64 a0_0) := (blk_cell BK69001.out 0).trans rfl; have hcz3_1 : w2.cell? ⟨gb69001, 1, none⟩ = some (.int .i64 a0_1) := (blk_cell BK69001.out 1).trans rfl; have hfz3_0 := blk_frozen BK69001.out 0; have hfz3_1 := blk_frozen BK69001.out 1))
 go_ret
 exact ⟨er_, be_⟩

end Go.Proofs.Ytdbjoopkliafeaa.P

end
section
namespace Go.Proofs.Ytdbjoopkliafeaa.P
open Go Go.RowKit Go.Proofs.YtdbjoopkliafeaaW.PrintWords Go.Proofs.YtdbjoopkliafeaaW.PrintLast Go.Proofs.YtdbjoopkliafeaaW.PrintMore
attribute [local go_sem] max2_int min2_int max_two min_two max_three min_three max_four min_four max_five min_eight max_eight   -- for this text's walks alone
set_option linter.unusedVariables false
set_option linter.unusedSimpArgs false

def span_Len.f (a0_0 : Int) (a0_1 : Int) : Option (Int) := (span_empty.f a0_0 a0_1).bind fun t50002 => (if t50002 = true then (some 0) else (if a0_0 < 0 then (if a0_1 > (wrap64 (9223372036854775807 + a0_0)) then (some 9223372036854775807) else (some (wrap64 (a0_1 - a0_0)))) else (some (wrap64 (a0_1 - a0_0)))))
set_option maxHeartbeats 8000000 in
set_option maxRecDepth 100000 in
theorem span_Len.calls (a0_0 : Int) (a0_1 : Int) (r : Int) (w : World) (h : span_Len.f a0_0 a0_1 = some r) :
  Calls Try.prog 50 #[.agg #[.int .i64 a0_0, .int .i64 a0_1]] w fun e w' => e = .returned (.int .i64 r) ∧ Below w.heap.size w w' := by
 have hu49 := Try.underlying49
 have HB := Aside0.mk (Below.refl w.heap.size w)
 have H : ((span_empty.f a0_0 a0_1).bind fun t50002 => (if t50002 = true then (some 0) else (if a0_0 < 0 then (if a0_1 > (wrap64 (9223372036854775807 + a0_0)) then (some 9223372036854775807) else (some (wrap64 (a0_1 - a0_0)))) else (some (wrap64 (a0_1 - a0_0)))))) = some r := h
 clear h
 replace H := Option.bind_eq_some_iff.mp H
 obtain ⟨t50002, A20, H⟩ := H
 replace H : (if t50002 = true then (some 0) else (if a0_0 < 0 then (if a0_1 > (wrap64 (9223372036854775807 + a0_0)) then (some 9223372036854775807) else (some (wrap64 (a0_1 - a0_0)))) else (some (wrap64 (a0_1 - a0_0))))) = some r := H
 have A2 := Aside0.mk A20
 clear A20
 by_cases c3 : t50002 = true
 ·subst c3
  have H1 : (some 0) = some r := by rw [if_pos rfl] at H; exact H
  clear H
  have H := H1
  clear H1
  obtain rfl := Option.some.inj H
  go_enter Try.func50, Try.ntmps50
  go_wp2_with (first | ((with_reducible refine gate_dst (N := 1) rfl ?_); refine box_event ?hg (N := 1) ?hd (cs := #[.int .i64 a0_0, .int .i64 a0_1]) (t := 49) ?hr ?_; (case hd => rfl); (case hg => rfl); (case hr => first | (go_simp; done) | (go_simp; rfl)); intro gb50001 hg w4 hbox hb; have n0_ := Aside0.mk (bs_ hb); have n1_ := Aside0.mk (hbox); have n2_ := Aside0.mk ((by rw [hg]; exact bz_ : w.heap.size ≤ gb50001)); have n3_ := Aside0.mk ((by rw [hg]; exact bz_ : w.heap.size ≤ gb50001)); clear HB; have HB := n0_; have BK50001 := n1_; have GW50001 := n2_; have GE50001 := n3_; clear n0_ n1_ n2_ n3_ hb hbox hg; have hcz5_0 : w4.cell? ⟨gb50001, 0, none⟩ = some (.int .i64 a0_0) := (blk_cell BK50001.out 0).trans rfl; have hcz5_1 : w4.cell? ⟨gb50001, 1, none⟩ = some (.int .i64 a0_1) := (blk_cell BK50001.out 1).trans rfl; have hfz5_0 := blk_frozen BK50001.out 0; have hfz5_1 := blk_frozen BK50001.out 1) | ((with_reducible refine gate_callee (f := 69) rfl ?_); refine goesL_ (some 4) rfl rfl Try.func69 (by kernel_rfl) rfl #[.agg #[.int .i64 a0_0, .int .i64 a0_1]] rfl la_ ?_; (with_reducible refine (span_empty.calls a0_0 a0_1 true _ A2.out).mono ?_); rintro e w6 ⟨rfl, hb⟩; refine ⟨_, rfl, ?_⟩; have n0_ := Aside0.mk (blk_below (g := gb50001) (o := .cells #[.int .i64 a0_0, .int .i64 a0_1] 49 (0, 0)) (fb_ BK50001.out) hb); have n1_ := Aside0.mk (bs_ hb); clear BK50001 HB; have BK50001 := n0_; have HB := n1_; clear n0_ n1_; (try clear hb); (try clear hb2); (try clear hk); (try clear hi)))
  go_ret
  exact ⟨er_, be_⟩
 ·replace c3 := Bool.eq_false_iff.mpr c3
  subst c3
  have H1 : (if a0_0 < 0 then (if a0_1 > (wrap64 (9223372036854775807 + a0_0)) then (some 9223372036854775807) else (some (wrap64 (a0_1 - a0_0)))) else (some (wrap64 (a0_1 - a0_0)))) = some r := by rw [if_neg (show ¬ (false = true) by decide)] at H; exact H
  clear H
  have H := H1
  clear H1
  by_cases c7 : a0_0 < 0
  ·rw [if_pos c7] at H
   have c7b0 : decide (a0_0 < 0) = true := decide_eq_true c7
   clear c7
   by_cases c8 : a0_1 > (wrap64 (9223372036854775807 + a0_0))
   ·rw [if_pos c8] at H
    have c8b0 : decide ((wrap64 (9223372036854775807 + a0_0)) < a0_1) = true := decide_eq_true c8
    clear c8
    obtain rfl := Option.some.inj H
    go_enter Try.func50, Try.ntmps50
    go_wp2_with (first | ((with_reducible refine gate_dst (N := 1) rfl ?_); refine box_event ?hg (N := 1) ?hd (cs := #[.int .i64 a0_0, .int .i64 a0_1]) (t := 49) ?hr ?_; (case hd => rfl); (case hg => rfl); (case hr => first | (go_simp; done) | (go_simp; rfl)); intro gb50001 hg w9 hbox hb; have n0_ := Aside0.mk (bs_ hb); have n1_ := Aside0.mk (hbox); have n2_ := Aside0.mk ((by rw [hg]; exact bz_ : w.heap.size ≤ gb50001)); have n3_ := Aside0.mk ((by rw [hg]; exact bz_ : w.heap.size ≤ gb50001)); clear HB; have HB := n0_; have BK50001 := n1_; have GW50001 := n2_; have GE50001 := n3_; clear n0_ n1_ n2_ n3_ hb hbox hg; have hcz10_0 : w9.cell? ⟨gb50001, 0, none⟩ = some (.int .i64 a0_0) := (blk_cell BK50001.out 0).trans rfl; have hcz10_1 : w9.cell? ⟨gb50001, 1, none⟩ = some (.int .i64 a0_1) := (blk_cell BK50001.out 1).trans rfl; have hfz10_0 := blk_frozen BK50001.out 0; have hfz10_1 := blk_frozen BK50001.out 1) | ((with_reducible refine gate_callee (f := 69) rfl ?_); refine goesL_ (some 4) rfl rfl Try.func69 (by kernel_rfl) rfl #[.agg #[.int .i64 a0_0, .int .i64 a0_1]] rfl la_ ?_; (with_reducible refine (span_empty.calls a0_0 a0_1 false _ A2.out).mono ?_); rintro e w11 ⟨rfl, hb⟩; refine ⟨_, rfl, ?_⟩; have n0_ := Aside0.mk (blk_below (g := gb50001) (o := .cells #[.int .i64 a0_0, .int .i64 a0_1] 49 (0, 0)) (fb_ BK50001.out) hb); have n1_ := Aside0.mk (bs_ hb); clear BK50001 HB; have BK50001 := n0_; have HB := n1_; clear n0_ n1_; (try clear hb); (try clear hb2); (try clear hk); (try clear hi); have hcz12_0 : w11.cell? ⟨gb50001, 0, none⟩ = some (.int .i64 a0_0) := (blk_cell BK50001.out 0).trans rfl; have hcz12_1 : w11.cell? ⟨gb50001, 1, none⟩ = some (.int .i64 a0_1) := (blk_cell BK50001.out 1).trans rfl; have hfz12_0 := blk_frozen BK50001.out 0; have hfz12_1 := blk_frozen BK50001.out 1))
    go_ret
    exact ⟨er_, be_⟩
   ·rw [if_neg c8] at H
    have c8b0 : decide ((wrap64 (9223372036854775807 + a0_0)) < a0_1) = false := decide_eq_false c8
    clear c8
    obtain rfl := Option.some.inj H
    go_enter Try.func50, Try.ntmps50
    go_wp2_with (first | ((with_reducible refine gate_dst (N := 1) rfl ?_); refine box_event ?hg (N := 1) ?hd (cs := #[.int .i64 a0_0, .int .i64 a0_1]) (t := 49) ?hr ?_; (case hd => rfl); (case hg => rfl); (case hr => first | (go_simp; done) | (go_simp; rfl)); intro gb50001 hg w13 hbox hb; have n0_ := Aside0.mk (bs_ hb); have n1_ := Aside0.mk (hbox); have n2_ := Aside0.mk ((by rw [hg]; exact bz_ : w.heap.size ≤ gb50001)); have n3_ := Aside0.mk ((by rw [hg]; exact bz_ : w.heap.size ≤ gb50001)); clear HB; have HB := n0_; have BK50001 := n1_; have GW50001 := n2_; have GE50001 := n3_; clear n0_ n1_ n2_ n3_ hb hbox hg; have hcz14_0 : w13.cell? ⟨gb50001, 0, none⟩ = some (.int .i64 a0_0) := (blk_cell BK50001.out 0).trans rfl; have hcz14_1 : w13.cell? ⟨gb50001, 1, none⟩ = some (.int .i64 a0_1) := (blk_cell BK50001.out 1).trans rfl; have hfz14_0 := blk_frozen BK50001.out 0; have hfz14_1 := blk_frozen BK50001.out 1) | ((with_reducible refine gate_callee (f := 69) rfl ?_); refine goesL_ (some 4) rfl rfl Try.func69 (by kernel_rfl) rfl #[.agg #[.int .i64 a0_0, .int .i64 a0_1]] rfl la_ ?_; (with_reducible refine (span_empty.calls a0_0 a0_1 false _ A2.out).mono ?_); rintro e w15 ⟨rfl, hb⟩; refine ⟨_, rfl, ?_⟩; have n0_ := Aside0.mk (blk_below (g := gb50001) (o := .cells #[.int .i64 a0_0, .int .i64 a0_1] 49 (0, 0)) (fb_ BK50001.out) hb); have n1_ := Aside0.mk (bs_ hb); clear BK50001 HB; have BK50001 := n0_; have HB := n1_; clear n0_ n1_; (try clear hb); (try clear hb2); (try clear hk); (try clear hi); have hcz16_0 : w15.cell? ⟨gb50001, 0, none⟩ = some (.int .i64 a0_0) := (blk_cell BK50001.out 0).trans rfl; have hcz16_1 : w15.cell? ⟨gb50001, 1, none⟩ = some (.int .i64 a0_1) := (blk_cell BK50001.out 1).trans rfl; have hfz16_0 := blk_frozen BK50001.out 0; have hfz16_1 := blk_frozen BK50001.out 1))
    go_ret
    exact ⟨er_, be_⟩
  ·rw [if_neg c7] at H
   have c7b0 : decide (a0_0 < 0) = false := decide_eq_false c7
   clear c7
   obtain rfl := Option.some.inj H
   go_enter Try.func50, Try.ntmps50
   go_wp2_with (first | ((with_reducible refine gate_dst (N := 1) rfl ?_); refine box_event ?hg (N := 1) ?hd (cs := #[.int .i64 a0_0, .int .i64 a0_1]) (t := 49) ?hr ?_; (case hd => rfl); (case hg => rfl); (case hr => first | (go_simp; done) | (go_simp; rfl)); intro gb50001 hg w17 hbox hb; have n0_ := Aside0.mk (bs_ hb); have n1_ := Aside0.mk (hbox); have n2_ := Aside0.mk ((by rw [hg]; exact bz_ : w.heap.size ≤ gb50001)); have n3_ := Aside0.mk ((by rw [hg]; exact bz_ : w.heap.size ≤ gb50001)); clear HB; have HB := n0_; have BK50001 := n1_; have GW50001 := n2_; have GE50001 := n3_; clear n0_ n1_ n2_ n3_ hb hbox hg; have hcz18_0 : w17.cell? ⟨gb50001, 0, none⟩ = some (.int .i64 a0_0) := (blk_cell BK50001.out 0).trans rfl; have hcz18_1 : w17.cell? ⟨gb50001, 1, none⟩ = some (.int .i64 a0_1) := (blk_cell BK50001.out 1).trans rfl; have hfz18_0 := blk_frozen BK50001.out 0; have hfz18_1 := blk_frozen BK50001.out 1) | ((with_reducible refine gate_callee (f := 69) rfl ?_); refine goesL_ (some 4) rfl rfl Try.func69 (by kernel_rfl) rfl #[.agg #[.int .i64 a0_0, .int .i64 a0_1]] rfl la_ ?_; (with_reducible refine (span_empty.calls a0_0 a0_1 false _ A2.out).mono ?_); rintro e w19 ⟨rfl, hb⟩; refine ⟨_, rfl, ?_⟩; have n0_ := Aside0.mk (blk_below (g := gb50001) (o := .cells #[.int .i64 a0_0, .int .i64 a0_1] 49 (0, 0)) (fb_ BK50001.out) hb); have n1_ := Aside0.mk (bs_ hb); clear BK50001 HB; have BK50001 := n0_; have HB := n1_; clear n0_ n1_; (try clear hb); (try clear hb2); (try clear hk); (try clear hi); have hcz20_0 : w19.cell? ⟨gb50001, 0, none⟩ = some (.int .i64 a0_0) := (blk_cell BK50001.out 0).trans rfl; have hcz20_1 : w19.cell? ⟨gb50001, 1, none⟩ = some (.int .i64 a0_1) := (blk_cell BK50001.out 1).trans rfl; have hfz20_0 := blk_frozen BK50001.out 0; have hfz20_1 := blk_frozen BK50001.out 1))
   go_ret
   exact ⟨er_, be_⟩

end Go.Proofs.Ytdbjoopkliafeaa.P

end
section
namespace Go.Proofs.Ytdbjoopkliafeaa.P
open Go Go.RowKit Go.Proofs.YtdbjoopkliafeaaW.PrintWords Go.Proofs.YtdbjoopkliafeaaW.PrintLast Go.Proofs.YtdbjoopkliafeaaW.PrintMore
attribute [local go_sem] max2_int min2_int max_two min_two max_three min_three max_four min_four max_five min_eight max_eight   -- for this text's walks alone
set_option linter.unusedVariables false
set_option linter.unusedSimpArgs false

def section_Area.l0 : Nat → Int → List (S49) → Int → Int → Option (Int)
 | 0, _, _, _, _ => none
 | k + 1, x3, x8, x9, x10 => if x10 < x9 then (if 0 ≤ x10 then (if x10 < (x8.length : Int) then ((span_Len.f ((rd_T49 x8 x10).f0) ((rd_T49 x8 x10).f1)).bind fun t27008 => (section_Area.l0 k (wrap64 (x3 + t27008)) x8 x9 (wrap64 (x10 + 1)))) else (none)) else (none)) else (some (wrap64 (10 * x3)))
def section_Area.f (k : Nat) (a0_0 : Int) (l0_1 : List (S49)) : Option (Int) := (section_valid.f k a0_0 l0_1).bind fun bt27002 => (section_Area.l0 k 0 bt27002.2 (bt27002.2.length : Int) 0)
theorem section_Area.mono_l : ∀ k, (∀ y0 y1 y2 y3, LeO (section_Area.l0 k y0 y1 y2 y3) (section_Area.l0 (k + 1) y0 y1 y2 y3))
 | 0 => fun _ _ _ _ r h => by simp [section_Area.l0] at h
 | k + 1 => by
  have ih0 := section_Area.mono_l k
  ·intro y0 y1 y2 y3
   unfold section_Area.l0
   repeat' first
   | (with_reducible exact ih0 _ _ _ _)
   | (with_reducible exact section_valid.mono _ _ _)
   | (with_reducible exact LeO.refl _)
   | (with_reducible exact LeO.none _)
   | (with_reducible refine LeO.ite ?_ ?_)
   | (with_reducible refine LeO.bind ?_ (fun _ => ?_))
   | exact ih0 _ _ _ _
   | exact section_valid.mono _ _ _
   | exact LeO.none _
   | refine LeO.ite ?_ ?_
   | refine LeO.bind ?_ (fun _ => ?_)
theorem section_Area.mono : ∀ a0 a1 k, LeO (section_Area.f k a0 a1) (section_Area.f (k + 1) a0 a1) := by
 intro a0 a1 k
 have ih0 := section_Area.mono_l k
 unfold section_Area.f
 repeat' first
   | (with_reducible exact ih0 _ _ _ _)
   | (with_reducible exact section_valid.mono _ _ _)
   | (with_reducible exact LeO.refl _)
   | (with_reducible exact LeO.none _)
   | (with_reducible refine LeO.ite ?_ ?_)
   | (with_reducible refine LeO.bind ?_ (fun _ => ?_))
   | exact ih0 _ _ _ _
   | exact section_valid.mono _ _ _
   | exact LeO.none _
   | refine LeO.ite ?_ ?_
   | refine LeO.bind ?_ (fun _ => ?_)
set_option maxHeartbeats 8000000 in
set_option maxRecDepth 100000 in
theorem section_Area.calls (k : Nat) (a0_0 : Int) (A0_1 : Option Addr) (c0_1 : Nat) (l0_1 : List (S49)) (r : Int) (w : World) (hr0_1 : Kd.C k49 w A0_1 l0_1.length l0_1) (hc0_1 : l0_1.length ≤ c0_1) (h : section_Area.f k a0_0 l0_1 = some r) :
  Calls Try.prog 27 #[.agg #[.int .i64 a0_0, .slice A0_1 l0_1.length c0_1]] w fun e w' => e = .returned (.int .i64 r) ∧ Below w.heap.size w w' := by
 have hu24 := Try.underlying24
 have hu49 := Try.underlying49
 have HR0_1 := Aside0.mk hr0_1
 have HC0_1 := Aside0.mk hc0_1
 clear hr0_1 hc0_1
 have HB := Aside0.mk (Below.refl w.heap.size w)
 have H : ((section_valid.f k a0_0 l0_1).bind fun bt27002 => (section_Area.l0 k 0 bt27002.2 (bt27002.2.length : Int) 0)) = some r := h
 clear h
 replace H := Option.bind_eq_some_iff.mp H
 obtain ⟨⟨t27002, t27003⟩, A20, H⟩ := H
 replace H : (section_Area.l0 k 0 t27003 (t27003.length : Int) 0) = some r := H
 have A2 := Aside0.mk A20
 clear A20
 have H' := Aside0.mk H
 clear H
 go_enter Try.func27, Try.ntmps27
 go_wp2_with (first | ((with_reducible refine gate_dst (N := 1) rfl ?_); refine box_event ?hg (N := 1) ?hd (cs := #[.int .i64 a0_0, .slice A0_1 l0_1.length c0_1]) (t := 24) ?hr ?_; (case hd => rfl); (case hg => rfl); (case hr => first | (go_simp; done) | (go_simp; rfl)); intro gb27001 hg w3 hbox hb; have n0_ := Aside0.mk (bs_ hb); have n1_ := Aside0.mk (hbox); have n2_ := Aside0.mk ((by rw [hg]; exact bz_ : w.heap.size ≤ gb27001)); have n3_ := Aside0.mk ((by rw [hg]; exact bz_ : w.heap.size ≤ gb27001)); clear HB; have HB := n0_; have BK27001 := n1_; have GW27001 := n2_; have GE27001 := n3_; clear n0_ n1_ n2_ n3_ hb hbox hg; have hcz4_0 : w3.cell? ⟨gb27001, 0, none⟩ = some (.int .i64 a0_0) := (blk_cell BK27001.out 0).trans rfl; have hcz4_1 : w3.cell? ⟨gb27001, 1, none⟩ = some (.slice A0_1 l0_1.length c0_1) := (blk_cell BK27001.out 1).trans rfl; have hfz4_0 := blk_frozen BK27001.out 0; have hfz4_1 := blk_frozen BK27001.out 1) | ((with_reducible refine gate_callee (f := 49) rfl ?_); refine goesL_ (some 7) rfl rfl Try.func49 (by kernel_rfl) rfl #[.agg #[.int .i64 a0_0, .slice A0_1 l0_1.length c0_1]] rfl la_ ?_; (with_reducible refine (section_valid.calls k a0_0 (fun k_ => k_ < w.heap.size) _ _ l0_1 t27002 t27003 _ ?side1 A2.out).mono ?_); (case side1 => exact Kd.V_mk HC0_1.out (Kd.F_below (Kd.C_F k49_heap HR0_1.out) be_)); rintro e w5 ⟨v27004, rfl, ho0, hb⟩; refine ⟨_, rfl, ?_⟩; have n0_ := Aside0.mk (Kd.V_lower (Kd.V_mono (ok' := fun k_ => k_ ≠ gb27001) ho0 (fun k_ hk_ => Or.elim hk_ (fun hs_ => fun e_ => Nat.not_le.2 hs_ (by rw [e_]; exact GW27001.out)) (fun hn_ => (Kd.freshB (g := gb27001) (o := .cells #[.int .i64 a0_0, .slice A0_1 l0_1.length c0_1] 24 (0, 0)) (fb_ BK27001.out) k_ hn_)))) bz_); have n1_ := Aside0.mk (blk_below (g := gb27001) (o := .cells #[.int .i64 a0_0, .slice A0_1 l0_1.length c0_1] 24 (0, 0)) (fb_ BK27001.out) hb); have n2_ := Aside0.mk (bs_ hb); clear BK27001 HB; have HO27005 := n0_; have BK27001 := n1_; have HB := n2_; clear n0_ n1_ n2_; (try clear hb); (try clear hb2); (try clear hk); (try clear hi); (try clear ho0); obtain ⟨Ao6, co6, eo6⟩ := Kd.V_slice HO27005.out; subst eo6))
 go_loopg [3, 10] k (fun kq v3 v10 w' => ∃ (x3_1 : Int) (x10_1 : Int), v3 = .int .i64 x3_1 ∧ v10 = .int .i64 x10_1 ∧ Aside0 (section_Area.l0 kq x3_1 t27003 (t27003.length : Int) x10_1 = some r) ∧ Aside0 (kq ≤ k) ∧ Aside0 (Kd.V k49 49 w' w.heap.size (fun k_ => k_ ≠ gb27001) (.slice Ao6 t27003.length co6) t27003) ∧ Aside0 (w'.heap[gb27001]? = some (.cells #[.int .i64 a0_0, (.slice A0_1 l0_1.length c0_1)] 24 (0, 0))) ∧ Aside0 (Below w.heap.size w w'))
 case atStart => exact ⟨(0), (0), (by first | rfl | (simp; done) | (simp [*]; done)), (by first | rfl | (simp; done) | (simp [*]; done)), H', ⟨Nat.le_refl _⟩, ⟨fV_ HO27005.out⟩, ⟨fb_ BK27001.out⟩, ⟨be_⟩⟩
 case round =>
  clear H'
  try clear c2
  try clear p2
  try clear c4
  try clear hcz4_0
  try clear hcz4_1
  try clear hfz4_0
  try clear hfz4_1
  obtain ⟨x3_1, x10_1, rfl, rfl, HA, HK1, HO_8, BK27001, HB⟩ := hrel
  cases gk with
  | zero => exact absurd HA.out (by simp [section_Area.l0])
  | succ k1 =>
   have H := HA.out
   clear HA
   simp only [section_Area.l0] at H
   by_cases c7 : x10_1 < (t27003.length : Int)
   ·rw [if_pos c7] at H
    have c7b0 : decide (x10_1 < (t27003.length : Int)) = true := decide_eq_true c7
    clear c7
    by_cases c8 : 0 ≤ x10_1
    ·rw [if_pos c8] at H
     have c8b0 : decide (0 ≤ x10_1) = true := decide_eq_true c8
     clear c8
     by_cases c9 : x10_1 < (t27003.length : Int)
     ·rw [if_pos c9] at H
      have c9b0 : decide (x10_1 < (t27003.length : Int)) = true := decide_eq_true c9
      clear c9
      replace H := Option.bind_eq_some_iff.mp H
      obtain ⟨t27008, A100, H⟩ := H
      replace H : (section_Area.l0 k1 (wrap64 (x3_1 + t27008)) t27003 (t27003.length : Int) (wrap64 (x10_1 + 1))) = some r := H
      have A10 := Aside0.mk A100
      clear A100
      have H' := Aside0.mk H
      clear H
      have p27006 : 0 ≤ (x10_1 : Int) := of_decide_eq_true (by first | (with_reducible assumption) | assumption)
      have q27006 : x10_1 < (t27003.length : Int) := of_decide_eq_true (by first | (with_reducible assumption) | assumption)
      obtain ⟨ad27006, e27006, hx27006_0, hx27006_1⟩ := at_T49 (Kd.V_reads' HO_8.out).2.2 x10_1 p27006 q27006
      cases e27006
      replace p27006 := eq_true p27006
      replace q27006 := eq_true q27006
      go_wp2_with (first | ((with_reducible refine gate_dst (N := 5) rfl ?_); refine box_event ?hg (N := 5) ?hd (cs := #[.int .i64 0, .int .i64 0]) (t := 49) ?hr ?_; (case hd => rfl); (case hg => rfl); (case hr => first | (go_simp; done) | (go_simp; rfl)); intro gb27007 hg w11 hbox hb; have n0_ := Aside0.mk (Kd.V_below (Kd.V_elderB (fV_ HO_8.out) gb27007 (Nat.le_of_eq hg.symm)) hb); have n1_ := Aside0.mk (blk_below (g := gb27001) (o := .cells #[.int .i64 a0_0, .slice A0_1 l0_1.length c0_1] 24 (0, 0)) (fb_ BK27001.out) hb); have n2_ := Aside0.mk (bs_ hb); have n3_ := Aside0.mk (hbox); have n4_ := Aside0.mk ((by rw [hg]; exact bz_ : w.heap.size ≤ gb27007)); have n5_ := Aside0.mk ((by rw [hg]; exact bz_ : w.heap.size ≤ gb27007)); have n6_ := Aside0.mk ((by rw [hg]; exact Nat.ne_of_lt (blk_lt (g := gb27001) (o := .cells #[.int .i64 a0_0, .slice A0_1 l0_1.length c0_1] 24 (0, 0)) (fb_ BK27001.out)) : gb27001 ≠ gb27007)); have n7_ := Aside0.mk ((by rw [hg]; exact Nat.ne_of_gt (blk_lt (g := gb27001) (o := .cells #[.int .i64 a0_0, .slice A0_1 l0_1.length c0_1] 24 (0, 0)) (fb_ BK27001.out)) : gb27007 ≠ gb27001)); clear HO_8 BK27001 HB; have HO_8 := n0_; have BK27001 := n1_; have HB := n2_; have BK27007 := n3_; have GW27007 := n4_; have GE27007 := n5_; have NB27001_27007 := n6_; have NB27007_27001 := n7_; clear n0_ n1_ n2_ n3_ n4_ n5_ n6_ n7_ hb hbox hg; have hnb12 := NB27007_27001.out; have hnc12 := NB27001_27007.out; have hcz13_0 : w11.cell? ⟨gb27007, 0, none⟩ = some (.int .i64 0) := (blk_cell BK27007.out 0).trans rfl; have hcz13_1 : w11.cell? ⟨gb27007, 1, none⟩ = some (.int .i64 0) := (blk_cell BK27007.out 1).trans rfl; have hfz13_0 := blk_frozen BK27007.out 0; have hfz13_1 := blk_frozen BK27007.out 1) | ((with_reducible refine gate_callee (f := 50) rfl ?_); refine goesL_ (some 16) rfl rfl Try.func50 (by kernel_rfl) rfl #[.agg #[.int .i64 ((rd_T49 t27003 x10_1).f0), .int .i64 ((rd_T49 t27003 x10_1).f1)]] rfl la_ ?_; (with_reducible refine (span_Len.calls ((rd_T49 t27003 x10_1).f0) ((rd_T49 t27003 x10_1).f1) t27008 _ A10.out).mono ?_); rintro e w14 ⟨rfl, hb⟩; refine ⟨_, rfl, ?_⟩; have n0_ := Aside0.mk (Kd.V_below (by (with_reducible repeat (first | apply Kd.V_alloc | apply Kd.V_drewN | apply Kd.V_drew)); exact (Kd.V_mono (Kd.V_far (p := ⟨gb27007, 1, none⟩) (Kd.V_far (p := ⟨gb27007, 0, none⟩) (Kd.V_mono HO_8.out (fun k_ hk => (⟨hk, hk.2⟩ : _ ∧ k_ ≠ gb27007))) (fun _ hk => hk.2) (.int .i64 ((rd_T49 t27003 x10_1).f0))) (fun _ hk => hk.2) (.int .i64 ((rd_T49 t27003 x10_1).f1))) (fun _ h_ => h_.1))) hb); have n1_ := Aside0.mk (blk_below (g := gb27001) (o := .cells #[.int .i64 a0_0, .slice A0_1 l0_1.length c0_1] 24 (0, 0)) (by (with_reducible repeat (first | refine blk_drewN ?_ _ | refine blk_drew ?_ | refine blk_alloc ?_ _)); refine blk_far ?_ NB27001_27007.out _; (with_reducible repeat (first | refine blk_drewN ?_ _ | refine blk_drew ?_ | refine blk_alloc ?_ _)); refine blk_far ?_ NB27001_27007.out _; (with_reducible repeat (first | refine blk_drewN ?_ _ | refine blk_drew ?_ | refine blk_alloc ?_ _)); exact BK27001.out) hb); have n2_ := Aside0.mk (blk_below (g := gb27007) (o := .cells #[.int .i64 ((rd_T49 t27003 x10_1).f0), .int .i64 ((rd_T49 t27003 x10_1).f1)] 49 (0, 0)) (by (with_reducible repeat (first | refine blk_drewN ?_ _ | refine blk_drew ?_ | refine blk_alloc ?_ _)); refine blk_put (cs := #[.int .i64 ((rd_T49 t27003 x10_1).f0), .int .i64 0]) ?_ 1 _ rfl; (with_reducible repeat (first | refine blk_drewN ?_ _ | refine blk_drew ?_ | refine blk_alloc ?_ _)); refine blk_put (cs := #[.int .i64 0, .int .i64 0]) ?_ 0 _ rfl; (with_reducible repeat (first | refine blk_drewN ?_ _ | refine blk_drew ?_ | refine blk_alloc ?_ _)); exact BK27007.out) hb); have n3_ := Aside0.mk (bs_ hb); clear HO_8 BK27001 BK27007 HB; have HO_8 := n0_; have BK27001 := n1_; have BK27007 := n2_; have HB := n3_; clear n0_ n1_ n2_ n3_; (try clear hb); (try clear hb2); (try clear hk); (try clear hi)))
      go_roundg k1
      case measure => have := HK1.out; omega
      case rel => exact ⟨(wrap64 (x3_1 + t27008)), (wrap64 (x10_1 + 1)), (by first | rfl | (simp; done) | (simp [*]; done)), (by first | rfl | (simp; done) | (simp [*]; done)), H', ⟨by have := HK1.out; omega⟩, ⟨by (with_reducible repeat (first | apply Kd.V_alloc | apply Kd.V_drewN | apply Kd.V_drew)); exact Kd.V_mono HO_8.out (fun _ hk => hk.1)⟩, ⟨fb_ BK27001.out⟩, ⟨be_⟩⟩
     ·rw [if_neg c9] at H
      exact absurd H (by simp)
    ·rw [if_neg c8] at H
     exact absurd H (by simp)
   ·rw [if_neg c7] at H
    have c7b0 : decide (x10_1 < (t27003.length : Int)) = false := decide_eq_false c7
    clear c7
    obtain rfl := Option.some.inj H
    go_wp2
    go_ret
    exact ⟨er_, be_⟩

end Go.Proofs.Ytdbjoopkliafeaa.P

end
section
namespace Go.Proofs.Ytdbjoopkliafeaa.P
open Go Go.RowKit Go.Proofs.YtdbjoopkliafeaaW.PrintWords Go.Proofs.YtdbjoopkliafeaaW.PrintLast Go.Proofs.YtdbjoopkliafeaaW.PrintMore
attribute [local go_sem] max2_int min2_int max_two min_two max_three min_three max_four min_four max_five min_eight max_eight   -- for this text's walks alone
set_option linter.unusedVariables false
set_option linter.unusedSimpArgs false

def units_Root.l0 : Nat → Int → Int → Int → Option (Int)
 | 0, _, _, _ => none
 | k + 1, x0, x3, x4 => if x4 ≥ 0 then (if 0 ≤ x4 then (if (Go.bits .or .i64 x3 (shl .i64 1 x4)) = 0 then (none) else (if (Go.bits .or .i64 x3 (shl .i64 1 x4)) ≤ (wrap64 (Int.tdiv x0 (Go.bits .or .i64 x3 (shl .i64 1 x4)))) then (units_Root.l0 k x0 (Go.bits .or .i64 x3 (shl .i64 1 x4)) (wrap64 (x4 - 1))) else (units_Root.l0 k x0 x3 (wrap64 (x4 - 1))))) else (none)) else (some x3)
def units_Root.f (k : Nat) (a0 : Int) : Option (Int) := if a0 ≤ 0 then (some 0) else (units_Root.l0 k a0 0 31)
theorem units_Root.mono_l : ∀ k, (∀ y0 y1 y2, LeO (units_Root.l0 k y0 y1 y2) (units_Root.l0 (k + 1) y0 y1 y2))
 | 0 => fun _ _ _ r h => by simp [units_Root.l0] at h
 | k + 1 => by
  have ih0 := units_Root.mono_l k
  ·intro y0 y1 y2
   unfold units_Root.l0
   repeat' first
   | (with_reducible exact ih0 _ _ _)
   | (with_reducible exact LeO.refl _)
   | (with_reducible exact LeO.none _)
   | (with_reducible refine LeO.ite ?_ ?_)
   | (with_reducible refine LeO.bind ?_ (fun _ => ?_))
   | exact ih0 _ _ _
   | exact LeO.none _
   | refine LeO.ite ?_ ?_
   | refine LeO.bind ?_ (fun _ => ?_)
theorem units_Root.mono : ∀ a0 k, LeO (units_Root.f k a0) (units_Root.f (k + 1) a0) := by
 intro a0 k
 have ih0 := units_Root.mono_l k
 unfold units_Root.f
 repeat' first
   | (with_reducible exact ih0 _ _ _)
   | (with_reducible exact LeO.refl _)
   | (with_reducible exact LeO.none _)
   | (with_reducible refine LeO.ite ?_ ?_)
   | (with_reducible refine LeO.bind ?_ (fun _ => ?_))
   | exact ih0 _ _ _
   | exact LeO.none _
   | refine LeO.ite ?_ ?_
   | refine LeO.bind ?_ (fun _ => ?_)
set_option maxHeartbeats 8000000 in
set_option maxRecDepth 100000 in
theorem units_Root.calls (k : Nat) (a0 : Int) (r : Int) (w : World) (h : units_Root.f k a0 = some r) :
  Calls Try.prog 36 #[.int .i64 a0] w fun e w' => e = .returned (.int .i64 r) ∧ Drawn0 w w' := by
 have H : (if a0 ≤ 0 then (some 0) else (units_Root.l0 k a0 0 31)) = some r := h
 clear h
 by_cases c2 : a0 ≤ 0
 ·rw [if_pos c2] at H
  have c2b0 : decide (a0 ≤ 0) = true := decide_eq_true c2
  clear c2
  obtain rfl := Option.some.inj H
  go_enter Try.func36, Try.ntmps36
  go_wp2
  go_ret
  exact ⟨by first | rfl | (simp; done) | (simp [*]; done), by repeat (first | exact Drawn0.refl _ | apply Drawn0.step)⟩
 ·rw [if_neg c2] at H
  have c2b0 : decide (a0 ≤ 0) = false := decide_eq_false c2
  clear c2
  have H' := Aside0.mk H
  clear H
  go_enter Try.func36, Try.ntmps36
  go_wp2
  go_loopg [3, 4] k (fun kq v3 v4 w' => ∃ (x3_1 : Int) (x4_1 : Int), v3 = .int .i64 x3_1 ∧ v4 = .int .i64 x4_1 ∧ Aside0 (units_Root.l0 kq a0 x3_1 x4_1 = some r) ∧ Aside0 (kq ≤ k) ∧ Drawn0 w w')
  case atStart => exact ⟨(0), (31), (by first | rfl | (simp; done) | (simp [*]; done)), (by first | rfl | (simp; done) | (simp [*]; done)), H', ⟨Nat.le_refl _⟩, by repeat (first | exact Drawn0.refl _ | apply Drawn0.step)⟩
  case round =>
   clear H'
   try clear c2
   try clear c2b0
   try clear p2
   obtain ⟨x3_1, x4_1, rfl, rfl, HA, HK1, ⟨m1, rfl⟩⟩ := hrel
   cases gk with
   | zero => exact absurd HA.out (by simp [units_Root.l0])
   | succ k1 =>
    have H := HA.out
    clear HA
    simp only [units_Root.l0] at H
    by_cases c3 : x4_1 ≥ 0
    ·rw [if_pos c3] at H
     have c3b0 : decide (0 ≤ x4_1) = true := decide_eq_true c3
     clear c3
     by_cases c4 : 0 ≤ x4_1
     ·rw [if_pos c4] at H
      have c4b0 := eq_true c4
      have c4b1 : decide (0 ≤ x4_1) = true := decide_eq_true c4
      clear c4
      obtain ⟨ji5, hji5⟩ : ∃ j_ : Int, (shl .i64 1 x4_1) = j_ := ⟨_, rfl⟩
      replace H : (if (Go.bits .or .i64 x3_1 (ji5)) = 0 then (none) else (if (Go.bits .or .i64 x3_1 (ji5)) ≤ (wrap64 (Int.tdiv a0 (Go.bits .or .i64 x3_1 (ji5)))) then (units_Root.l0 k1 a0 (Go.bits .or .i64 x3_1 (ji5)) (wrap64 (x4_1 - 1))) else (units_Root.l0 k1 a0 x3_1 (wrap64 (x4_1 - 1))))) = some r := by first | (rw [hji5] at H; exact H) | (simp only [hji5] at H ⊢; exact H)
      have hji5_ : (IntKind.i64.wrap (1 * 2 ^ min x4_1.toNat 64)) = ji5 := hji5
      have hji5z : x4_1 ≤ 64 → (IntKind.i64.wrap (1 * 2 ^ x4_1.toNat)) = ji5 := shl_small hji5
      have hji5u : (IntKind.i64.wrap (2 ^ min x4_1.toNat 64)) = ji5 := by have h_ := hji5_; rw [Int.one_mul] at h_; exact h_
      have hji5v : x4_1 ≤ 64 → (IntKind.i64.wrap (2 ^ x4_1.toNat)) = ji5 := fun hle_ => by have h_ := hji5z hle_; rw [Int.one_mul] at h_; exact h_
      have hji5y : (wrap64 (1 * 2 ^ min x4_1.toNat 64)) = ji5 := (i64_w _).symm.trans hji5_
      have hji5x : x4_1 ≤ 64 → (wrap64 (1 * 2 ^ x4_1.toNat)) = ji5 := fun h_ => (i64_w _).symm.trans (hji5z h_)
      by_cases c6 : (Go.bits .or .i64 x3_1 (ji5)) = 0
      ·rw [if_pos c6] at H
       exact absurd H (by simp)
      ·rw [if_neg c6] at H
       have c6b0 : ((Go.bits .or .i64 x3_1 (ji5)) == 0) = false := beq_eq_false_iff_ne.mpr c6
       have c6b1 : ((Go.bits .or .i64 x3_1 (ji5)) != 0) = true := bne_iff_ne.mpr c6
       by_cases c7 : (Go.bits .or .i64 x3_1 (ji5)) ≤ (wrap64 (Int.tdiv a0 (Go.bits .or .i64 x3_1 (ji5))))
       ·rw [if_pos c7] at H
        have c7b0 : decide ((Go.bits .or .i64 x3_1 (ji5)) ≤ (wrap64 (Int.tdiv a0 (Go.bits .or .i64 x3_1 (ji5))))) = true := decide_eq_true c7
        clear c7
        have H' := Aside0.mk H
        clear H
        go_wp2
        go_roundg k1
        case measure => have := HK1.out; omega
        case rel => exact ⟨(Go.bits .or .i64 x3_1 (ji5)), (wrap64 (x4_1 - 1)), (by first | rfl | (simp; done) | (simp only [← hji5] <;> (first | rfl | simp)) | (simp [*]; done)), (by first | rfl | (simp; done) | (simp [*]; done)), H', ⟨by have := HK1.out; omega⟩, by repeat (first | exact Drawn0.refl _ | apply Drawn0.step)⟩
       ·rw [if_neg c7] at H
        have c7b0 : decide ((Go.bits .or .i64 x3_1 (ji5)) ≤ (wrap64 (Int.tdiv a0 (Go.bits .or .i64 x3_1 (ji5))))) = false := decide_eq_false c7
        clear c7
        have H' := Aside0.mk H
        clear H
        go_wp2
        go_roundg k1
        case measure => have := HK1.out; omega
        case rel => exact ⟨(x3_1), (wrap64 (x4_1 - 1)), (by first | rfl | (simp; done) | (simp [*]; done)), (by first | rfl | (simp; done) | (simp [*]; done)), H', ⟨by have := HK1.out; omega⟩, by repeat (first | exact Drawn0.refl _ | apply Drawn0.step)⟩
     ·rw [if_neg c4] at H
      exact absurd H (by simp)
    ·rw [if_neg c3] at H
     have c3b0 : decide (0 ≤ x4_1) = false := decide_eq_false c3
     clear c3
     obtain rfl := Option.some.inj H
     go_wp2
     go_ret
     exact ⟨by first | rfl | (simp; done) | (simp [*]; done), by repeat (first | exact Drawn0.refl _ | apply Drawn0.step)⟩

end Go.Proofs.Ytdbjoopkliafeaa.P

end
section
namespace Go.Proofs.Ytdbjoopkliafeaa.P
open Go Go.RowKit Go.Proofs.YtdbjoopkliafeaaW.PrintWords Go.Proofs.YtdbjoopkliafeaaW.PrintLast Go.Proofs.YtdbjoopkliafeaaW.PrintMore
attribute [local go_sem] max2_int min2_int max_two min_two max_three min_three max_four min_four max_five min_eight max_eight   -- for this text's walks alone
set_option linter.unusedVariables false
set_option linter.unusedSimpArgs false

def shape_Diameter.f (k : Nat) (a0_0 : Int) (l0_1 : List (S49)) : Option (Int) := (section_Area.f k a0_0 l0_1).bind fun t12002 => ((units_Root.f k (wrap64 (Int.tdiv (wrap64 (452 * t12002)) 355))).bind fun t12003 => (some t12003))
theorem shape_Diameter.mono : ∀ a0 a1 k, LeO (shape_Diameter.f k a0 a1) (shape_Diameter.f (k + 1) a0 a1) := by
 intro a0 a1 k
 unfold shape_Diameter.f
 repeat' first
   | (with_reducible exact section_Area.mono _ _ _)
   | (with_reducible exact units_Root.mono _ _)
   | (with_reducible exact LeO.refl _)
   | (with_reducible exact LeO.none _)
   | (with_reducible refine LeO.ite ?_ ?_)
   | (with_reducible refine LeO.bind ?_ (fun _ => ?_))
   | exact section_Area.mono _ _ _
   | exact units_Root.mono _ _
   | exact LeO.none _
   | refine LeO.ite ?_ ?_
   | refine LeO.bind ?_ (fun _ => ?_)
set_option maxHeartbeats 8000000 in
set_option maxRecDepth 100000 in
theorem shape_Diameter.calls (k : Nat) (a0_0 : Int) (A0_1 : Option Addr) (c0_1 : Nat) (l0_1 : List (S49)) (r : Int) (w : World) (hr0_1 : Kd.C k49 w A0_1 l0_1.length l0_1) (hc0_1 : l0_1.length ≤ c0_1) (h : shape_Diameter.f k a0_0 l0_1 = some r) :
  Calls Try.prog 12 #[.agg #[.int .i64 a0_0, .slice A0_1 l0_1.length c0_1]] w fun e w' => e = .returned (.int .i64 r) ∧ Below w.heap.size w w' := by
 have hu24 := Try.underlying24
 have HR0_1 := Aside0.mk hr0_1
 have HC0_1 := Aside0.mk hc0_1
 clear hr0_1 hc0_1
 have HB := Aside0.mk (Below.refl w.heap.size w)
 have H : ((section_Area.f k a0_0 l0_1).bind fun t12002 => ((units_Root.f k (wrap64 (Int.tdiv (wrap64 (452 * t12002)) 355))).bind fun t12003 => (some t12003))) = some r := h
 clear h
 replace H := Option.bind_eq_some_iff.mp H
 obtain ⟨t12002, A20, H⟩ := H
 replace H : ((units_Root.f k (wrap64 (Int.tdiv (wrap64 (452 * t12002)) 355))).bind fun t12003 => (some t12003)) = some r := H
 have A2 := Aside0.mk A20
 clear A20
 replace H := Option.bind_eq_some_iff.mp H
 obtain ⟨t12003, A30, H⟩ := H
 replace H : (some t12003) = some r := H
 have A3 := Aside0.mk A30
 clear A30
 obtain rfl := Option.some.inj H
 go_enter Try.func12, Try.ntmps12
 go_wp2_with (first | ((with_reducible refine gate_dst (N := 1) rfl ?_); refine box_event ?hg (N := 1) ?hd (cs := #[.int .i64 a0_0, .slice A0_1 l0_1.length c0_1]) (t := 24) ?hr ?_; (case hd => rfl); (case hg => rfl); (case hr => first | (go_simp; done) | (go_simp; rfl)); intro gb12001 hg w4 hbox hb; have n0_ := Aside0.mk (bs_ hb); have n1_ := Aside0.mk (hbox); have n2_ := Aside0.mk ((by rw [hg]; exact bz_ : w.heap.size ≤ gb12001)); have n3_ := Aside0.mk ((by rw [hg]; exact bz_ : w.heap.size ≤ gb12001)); clear HB; have HB := n0_; have BK12001 := n1_; have GW12001 := n2_; have GE12001 := n3_; clear n0_ n1_ n2_ n3_ hb hbox hg; have hcz5_0 : w4.cell? ⟨gb12001, 0, none⟩ = some (.int .i64 a0_0) := (blk_cell BK12001.out 0).trans rfl; have hcz5_1 : w4.cell? ⟨gb12001, 1, none⟩ = some (.slice A0_1 l0_1.length c0_1) := (blk_cell BK12001.out 1).trans rfl; have hfz5_0 := blk_frozen BK12001.out 0; have hfz5_1 := blk_frozen BK12001.out 1) | ((with_reducible refine gate_callee (f := 27) rfl ?_); refine goesL_ (some 4) rfl rfl Try.func27 (by kernel_rfl) rfl #[.agg #[.int .i64 a0_0, .slice A0_1 l0_1.length c0_1]] rfl la_ ?_; (with_reducible refine (section_Area.calls k a0_0 _ _ l0_1 t12002 _ ?side1 ?side2 A2.out).mono ?_); (case side1 => repeat (first | exact (Kd.C_below HR0_1.out HB.out) | (with_reducible refine Kd.C_alloc ?_ _) | (with_reducible refine Kd.C_drewN ?_ _) | (with_reducible refine Kd.C_drew ?_))); (case side2 => exact HC0_1.out); rintro e w6 ⟨rfl, hb⟩; refine ⟨_, rfl, ?_⟩; have n0_ := Aside0.mk (blk_below (g := gb12001) (o := .cells #[.int .i64 a0_0, .slice A0_1 l0_1.length c0_1] 24 (0, 0)) (fb_ BK12001.out) hb); have n1_ := Aside0.mk (bs_ hb); clear BK12001 HB; have BK12001 := n0_; have HB := n1_; clear n0_ n1_; (try clear hb); (try clear hb2); (try clear hk); (try clear hi)) | ((with_reducible refine gate_callee (f := 36) rfl ?_); refine goesL_ (some 7) rfl rfl Try.func36 (by kernel_rfl) rfl #[.int .i64 (wrap64 (Int.tdiv (wrap64 (452 * t12002)) 355))] rfl la_ ?_; (with_reducible refine (units_Root.calls k (wrap64 (Int.tdiv (wrap64 (452 * t12002)) 355)) t12003 _ A3.out).mono ?_); rintro e w' ⟨rfl, ⟨nd, rfl⟩⟩; refine ⟨_, rfl, ?_⟩))
 go_ret
 exact ⟨er_, be_⟩

end Go.Proofs.Ytdbjoopkliafeaa.P

end
section
namespace Go.Proofs.Ytdbjoopkliafeaa.P
open Go Go.RowKit Go.Proofs.YtdbjoopkliafeaaW.PrintWords Go.Proofs.YtdbjoopkliafeaaW.PrintLast Go.Proofs.YtdbjoopkliafeaaW.PrintMore
attribute [local go_sem] max2_int min2_int max_two min_two max_three min_three max_four min_four max_five min_eight max_eight   -- for this text's walks alone
set_option linter.unusedVariables false
set_option linter.unusedSimpArgs false

def solid_Check.l0 : Nat → Int → List (S36) → Int → Int → Option (Int)
 | 0, _, _, _, _ => none
 | k + 1, x3, x13, x14, x15 => if x15 < x14 then (if 0 ≤ x15 then (if x15 < (x13.length : Int) then ((section_Check.f k ((rd_T36 x13 x15).f1.f0) ((rd_T36 x13 x15).f1.f1)).bind fun t25003 => (if t25003 = 0 then (if (((rd_T36 x13 x15).f1.f1).length : Int) = 0 then (some 18) else (if ((rd_T36 x13 x15).f0) < 1 then (some 9) else (if ((rd_T36 x13 x15).f0) > x3 then (some 9) else (solid_Check.l0 k (wrap64 (x3 - ((rd_T36 x13 x15).f0))) x13 x14 (wrap64 (x15 + 1)))))) else (some t25003))) else (none)) else (none)) else (some 0)
def solid_Check.f (k : Nat) (l0 : List (S36)) : Option (Int) := if (l0.length : Int) = 0 then (some 3) else (if (l0.length : Int) > 24 then (some 4) else (solid_Check.l0 k 20000 l0 (l0.length : Int) 0))
theorem solid_Check.mono_l : ∀ k, (∀ y0 y1 y2 y3, LeO (solid_Check.l0 k y0 y1 y2 y3) (solid_Check.l0 (k + 1) y0 y1 y2 y3))
 | 0 => fun _ _ _ _ r h => by simp [solid_Check.l0] at h
 | k + 1 => by
  have ih0 := solid_Check.mono_l k
  ·intro y0 y1 y2 y3
   unfold solid_Check.l0
   repeat' first
   | (with_reducible exact ih0 _ _ _ _)
   | (with_reducible exact section_Check.mono _ _ _)
   | (with_reducible exact LeO.refl _)
   | (with_reducible exact LeO.none _)
   | (with_reducible refine LeO.ite ?_ ?_)
   | (with_reducible refine LeO.bind ?_ (fun _ => ?_))
   | exact ih0 _ _ _ _
   | exact section_Check.mono _ _ _
   | exact LeO.none _
   | refine LeO.ite ?_ ?_
   | refine LeO.bind ?_ (fun _ => ?_)
theorem solid_Check.mono : ∀ a0 k, LeO (solid_Check.f k a0) (solid_Check.f (k + 1) a0) := by
 intro a0 k
 have ih0 := solid_Check.mono_l k
 unfold solid_Check.f
 repeat' first
   | (with_reducible exact ih0 _ _ _ _)
   | (with_reducible exact section_Check.mono _ _ _)
   | (with_reducible exact LeO.refl _)
   | (with_reducible exact LeO.none _)
   | (with_reducible refine LeO.ite ?_ ?_)
   | (with_reducible refine LeO.bind ?_ (fun _ => ?_))
   | exact ih0 _ _ _ _
   | exact section_Check.mono _ _ _
   | exact LeO.none _
   | refine LeO.ite ?_ ?_
   | refine LeO.bind ?_ (fun _ => ?_)
set_option maxHeartbeats 8000000 in
set_option maxRecDepth 100000 in
theorem solid_Check.calls (k : Nat) (A0 : Option Addr) (c0 : Nat) (l0 : List (S36)) (r : Int) (w : World) (hr0 : Kd.C k36 w A0 l0.length l0) (hc0 : l0.length ≤ c0) (h : solid_Check.f k l0 = some r) :
  Calls Try.prog 25 #[.slice A0 l0.length c0] w fun e w' => e = .returned (.int .i64 r) ∧ Below w.heap.size w w' := by
 have hu36 := Try.underlying36
 have hu24 := Try.underlying24
 have HR0 := Aside0.mk hr0
 have HC0 := Aside0.mk hc0
 clear hr0 hc0
 have HB := Aside0.mk (Below.refl w.heap.size w)
 have H : (if (l0.length : Int) = 0 then (some 3) else (if (l0.length : Int) > 24 then (some 4) else (solid_Check.l0 k 20000 l0 (l0.length : Int) 0))) = some r := h
 clear h
 by_cases c2 : (l0.length : Int) = 0
 ·rw [if_pos c2] at H
  have c2b0 : ((l0.length : Int) == 0) = true := beq_iff_eq.mpr c2
  have c2b1 : ((l0.length : Int) != 0) = false := bne_eq_false_iff_eq.mpr c2
  clear c2
  obtain rfl := Option.some.inj H
  go_enter Try.func25, Try.ntmps25
  go_wp2
  go_ret
  exact ⟨er_, be_⟩
 ·rw [if_neg c2] at H
  have c2b0 : ((l0.length : Int) == 0) = false := beq_eq_false_iff_ne.mpr c2
  have c2b1 : ((l0.length : Int) != 0) = true := bne_iff_ne.mpr c2
  have c2b2 : ¬ (l0 = []) := fun h_ => c2 (by rw [h_]; rfl)
  by_cases c3 : (l0.length : Int) > 24
  ·rw [if_pos c3] at H
   have c3b0 : decide (24 < (l0.length : Int)) = true := decide_eq_true c3
   have c3b1 : decide (24 < l0.length) = true := decide_eq_true (by omega)
   clear c3
   obtain rfl := Option.some.inj H
   go_enter Try.func25, Try.ntmps25
   go_wp2
   go_ret
   exact ⟨er_, be_⟩
  ·rw [if_neg c3] at H
   have c3b0 : decide (24 < (l0.length : Int)) = false := decide_eq_false c3
   have c3b1 : decide (24 < l0.length) = false := decide_eq_false (by omega)
   clear c3
   have H' := Aside0.mk H
   clear H
   go_enter Try.func25, Try.ntmps25
   go_wp2
   go_loopg [3, 15] k (fun kq v3 v15 w' => ∃ (x3_1 : Int) (x15_1 : Int), v3 = .int .i64 x3_1 ∧ v15 = .int .i64 x15_1 ∧ Aside0 (solid_Check.l0 kq x3_1 l0 (l0.length : Int) x15_1 = some r) ∧ Aside0 (kq ≤ k) ∧ Aside0 (Below w.heap.size w w'))
   case atStart => exact ⟨(20000), (0), (by first | rfl | (simp; done) | (simp [*]; done)), (by first | rfl | (simp; done) | (simp [*]; done)), H', ⟨Nat.le_refl _⟩, ⟨be_⟩⟩
   case round =>
    clear H'
    try clear c2
    try clear c2b0
    try clear c2b1
    try clear c2b2
    try clear p2
    try clear c3
    try clear c3b0
    try clear c3b1
    obtain ⟨x3_1, x15_1, rfl, rfl, HA, HK1, HB⟩ := hrel
    cases gk with
    | zero => exact absurd HA.out (by simp [solid_Check.l0])
    | succ k1 =>
     have H := HA.out
     clear HA
     simp only [solid_Check.l0] at H
     by_cases c4 : x15_1 < (l0.length : Int)
     ·rw [if_pos c4] at H
      have c4b0 : decide (x15_1 < (l0.length : Int)) = true := decide_eq_true c4
      clear c4
      by_cases c5 : 0 ≤ x15_1
      ·rw [if_pos c5] at H
       have c5b0 : decide (0 ≤ x15_1) = true := decide_eq_true c5
       clear c5
       by_cases c6 : x15_1 < (l0.length : Int)
       ·rw [if_pos c6] at H
        have c6b0 : decide (x15_1 < (l0.length : Int)) = true := decide_eq_true c6
        clear c6
        replace H := Option.bind_eq_some_iff.mp H
        obtain ⟨t25003, A70, H⟩ := H
        replace H : (if t25003 = 0 then (if (((rd_T36 l0 x15_1).f1.f1).length : Int) = 0 then (some 18) else (if ((rd_T36 l0 x15_1).f0) < 1 then (some 9) else (if ((rd_T36 l0 x15_1).f0) > x3_1 then (some 9) else (solid_Check.l0 k1 (wrap64 (x3_1 - ((rd_T36 l0 x15_1).f0))) l0 (l0.length : Int) (wrap64 (x15_1 + 1)))))) else (some t25003)) = some r := H
        have A7 := Aside0.mk A70
        clear A70
        by_cases c8 : t25003 = 0
        ·rw [if_pos c8] at H
         have c8b0 : (t25003 == 0) = true := beq_iff_eq.mpr c8
         have c8b1 : (t25003 != 0) = false := bne_eq_false_iff_eq.mpr c8
         clear c8
         by_cases c9 : (((rd_T36 l0 x15_1).f1.f1).length : Int) = 0
         ·rw [if_pos c9] at H
          have c9b0 : ((((rd_T36 l0 x15_1).f1.f1).length : Int) == 0) = true := beq_iff_eq.mpr c9
          have c9b1 : ((((rd_T36 l0 x15_1).f1.f1).length : Int) != 0) = false := bne_eq_false_iff_eq.mpr c9
          clear c9
          obtain rfl := Option.some.inj H
          have p25001 : 0 ≤ (x15_1 : Int) := of_decide_eq_true (by first | (with_reducible assumption) | assumption)
          have q25001 : x15_1 < (l0.length : Int) := of_decide_eq_true (by first | (with_reducible assumption) | assumption)
          obtain ⟨ad25001, A25001_2, c25001_2, e25001, hx25001_0, hx25001_1, hx25001_2, hl25001_2, hi25001_2⟩ := at_T36 HR0.out x15_1 p25001 q25001
          cases e25001
          replace hx25001_0 := (HB.out.cell (World.block_lt_of_cell? w _ hx25001_0)).trans hx25001_0
          replace hx25001_1 := (HB.out.cell (World.block_lt_of_cell? w _ hx25001_1)).trans hx25001_1
          replace hx25001_2 := (HB.out.cell (World.block_lt_of_cell? w _ hx25001_2)).trans hx25001_2
          have HR25001_2 := Aside0.mk hi25001_2
          have HC25001_2 := Aside0.mk hl25001_2
          clear hi25001_2 hl25001_2
          replace p25001 := eq_true p25001
          replace q25001 := eq_true q25001
          go_wp2_with (first | ((with_reducible refine gate_dst (N := 5) rfl ?_); refine box_event ?hg (N := 5) ?hd (cs := #[.int .i64 0, .int .i64 0, .slice none 0 0]) (t := 36) ?hr ?_; (case hd => rfl); (case hg => rfl); (case hr => first | (go_simp; done) | (go_simp; rfl)); intro gb25002 hg w10 hbox hb; have n0_ := Aside0.mk (bs_ hb); have n1_ := Aside0.mk (hbox); have n2_ := Aside0.mk ((by rw [hg]; exact bz_ : w.heap.size ≤ gb25002)); have n3_ := Aside0.mk ((by rw [hg]; exact bz_ : w.heap.size ≤ gb25002)); clear HB; have HB := n0_; have BK25002 := n1_; have GW25002 := n2_; have GE25002 := n3_; clear n0_ n1_ n2_ n3_ hb hbox hg; have hcz11_0 : w10.cell? ⟨gb25002, 0, none⟩ = some (.int .i64 0) := (blk_cell BK25002.out 0).trans rfl; have hcz11_1 : w10.cell? ⟨gb25002, 1, none⟩ = some (.int .i64 0) := (blk_cell BK25002.out 1).trans rfl; have hcz11_2 : w10.cell? ⟨gb25002, 2, none⟩ = some (.slice none 0 0) := (blk_cell BK25002.out 2).trans rfl; have hfz11_0 := blk_frozen BK25002.out 0; have hfz11_1 := blk_frozen BK25002.out 1; have hfz11_2 := blk_frozen BK25002.out 2) | ((with_reducible refine gate_callee (f := 29) rfl ?_); refine goesL_ (some 21) rfl rfl Try.func29 (by kernel_rfl) rfl #[.agg #[.int .i64 ((rd_T36 l0 x15_1).f1.f0), .slice A25001_2 ((rd_T36 l0 x15_1).f1.f1).length c25001_2]] rfl la_ ?_; (with_reducible refine (section_Check.calls k1 ((rd_T36 l0 x15_1).f1.f0) _ _ ((rd_T36 l0 x15_1).f1.f1) t25003 _ ?side1 ?side2 A7.out).mono ?_); (case side1 => exact Kd.C_below HR25001_2.out be_); (case side2 => exact HC25001_2.out); rintro e w12 ⟨rfl, hb⟩; refine ⟨_, rfl, ?_⟩; have n0_ := Aside0.mk (blk_below (g := gb25002) (o := .cells #[.int .i64 ((rd_T36 l0 x15_1).f0), .int .i64 ((rd_T36 l0 x15_1).f1.f0), .slice A25001_2 ((rd_T36 l0 x15_1).f1.f1).length c25001_2] 36 (0, 0)) (by (with_reducible repeat (first | refine blk_drewN ?_ _ | refine blk_drew ?_ | refine blk_alloc ?_ _)); refine blk_put (cs := #[.int .i64 ((rd_T36 l0 x15_1).f0), .int .i64 ((rd_T36 l0 x15_1).f1.f0), .slice none 0 0]) ?_ 2 _ rfl; (with_reducible repeat (first | refine blk_drewN ?_ _ | refine blk_drew ?_ | refine blk_alloc ?_ _)); refine blk_put (cs := #[.int .i64 ((rd_T36 l0 x15_1).f0), .int .i64 0, .slice none 0 0]) ?_ 1 _ rfl; (with_reducible repeat (first | refine blk_drewN ?_ _ | refine blk_drew ?_ | refine blk_alloc ?_ _)); refine blk_put (cs := #[.int .i64 0, .int .i64 0, .slice none 0 0]) ?_ 0 _ rfl; (with_reducible repeat (first | refine blk_drewN ?_ _ | refine blk_drew ?_ | refine blk_alloc ?_ _)); exact BK25002.out) hb); have n1_ := Aside0.mk (bs_ hb); clear BK25002 HB; have BK25002 := n0_; have HB := n1_; clear n0_ n1_; (try clear hb); (try clear hb2); (try clear hk); (try clear hi); have hcz13_0 : w12.cell? ⟨gb25002, 0, none⟩ = some (.int .i64 ((rd_T36 l0 x15_1).f0)) := (blk_cell BK25002.out 0).trans rfl; have hcz13_1 : w12.cell? ⟨gb25002, 1, none⟩ = some (.int .i64 ((rd_T36 l0 x15_1).f1.f0)) := (blk_cell BK25002.out 1).trans rfl; have hcz13_2 : w12.cell? ⟨gb25002, 2, none⟩ = some (.slice A25001_2 ((rd_T36 l0 x15_1).f1.f1).length c25001_2) := (blk_cell BK25002.out 2).trans rfl; have hfz13_0 := blk_frozen BK25002.out 0; have hfz13_1 := blk_frozen BK25002.out 1; have hfz13_2 := blk_frozen BK25002.out 2))
          go_ret
          exact ⟨er_, be_⟩
         ·rw [if_neg c9] at H
          have c9b0 : ((((rd_T36 l0 x15_1).f1.f1).length : Int) == 0) = false := beq_eq_false_iff_ne.mpr c9
          have c9b1 : ((((rd_T36 l0 x15_1).f1.f1).length : Int) != 0) = true := bne_iff_ne.mpr c9
          have c9b2 : ¬ (((rd_T36 l0 x15_1).f1.f1) = []) := fun h_ => c9 (by rw [h_]; rfl)
          by_cases c14 : ((rd_T36 l0 x15_1).f0) < 1
          ·rw [if_pos c14] at H
           have c14b0 : decide (((rd_T36 l0 x15_1).f0) < 1) = true := decide_eq_true c14
           clear c14
           obtain rfl := Option.some.inj H
           have p25001 : 0 ≤ (x15_1 : Int) := of_decide_eq_true (by first | (with_reducible assumption) | assumption)
           have q25001 : x15_1 < (l0.length : Int) := of_decide_eq_true (by first | (with_reducible assumption) | assumption)
           obtain ⟨ad25001, A25001_2, c25001_2, e25001, hx25001_0, hx25001_1, hx25001_2, hl25001_2, hi25001_2⟩ := at_T36 HR0.out x15_1 p25001 q25001
           cases e25001
           replace hx25001_0 := (HB.out.cell (World.block_lt_of_cell? w _ hx25001_0)).trans hx25001_0
           replace hx25001_1 := (HB.out.cell (World.block_lt_of_cell? w _ hx25001_1)).trans hx25001_1
           replace hx25001_2 := (HB.out.cell (World.block_lt_of_cell? w _ hx25001_2)).trans hx25001_2
           have HR25001_2 := Aside0.mk hi25001_2
           have HC25001_2 := Aside0.mk hl25001_2
           clear hi25001_2 hl25001_2
           replace p25001 := eq_true p25001
           replace q25001 := eq_true q25001
           go_wp2_with (first | ((with_reducible refine gate_dst (N := 5) rfl ?_); refine box_event ?hg (N := 5) ?hd (cs := #[.int .i64 0, .int .i64 0, .slice none 0 0]) (t := 36) ?hr ?_; (case hd => rfl); (case hg => rfl); (case hr => first | (go_simp; done) | (go_simp; rfl)); intro gb25002 hg w15 hbox hb; have n0_ := Aside0.mk (bs_ hb); have n1_ := Aside0.mk (hbox); have n2_ := Aside0.mk ((by rw [hg]; exact bz_ : w.heap.size ≤ gb25002)); have n3_ := Aside0.mk ((by rw [hg]; exact bz_ : w.heap.size ≤ gb25002)); clear HB; have HB := n0_; have BK25002 := n1_; have GW25002 := n2_; have GE25002 := n3_; clear n0_ n1_ n2_ n3_ hb hbox hg; have hcz16_0 : w15.cell? ⟨gb25002, 0, none⟩ = some (.int .i64 0) := (blk_cell BK25002.out 0).trans rfl; have hcz16_1 : w15.cell? ⟨gb25002, 1, none⟩ = some (.int .i64 0) := (blk_cell BK25002.out 1).trans rfl; have hcz16_2 : w15.cell? ⟨gb25002, 2, none⟩ = some (.slice none 0 0) := (blk_cell BK25002.out 2).trans rfl; have hfz16_0 := blk_frozen BK25002.out 0; have hfz16_1 := blk_frozen BK25002.out 1; have hfz16_2 := blk_frozen BK25002.out 2) | ((with_reducible refine gate_callee (f := 29) rfl ?_); refine goesL_ (some 21) rfl rfl Try.func29 (by kernel_rfl) rfl #[.agg #[.int .i64 ((rd_T36 l0 x15_1).f1.f0), .slice A25001_2 ((rd_T36 l0 x15_1).f1.f1).length c25001_2]] rfl la_ ?_; (with_reducible refine (section_Check.calls k1 ((rd_T36 l0 x15_1).f1.f0) _ _ ((rd_T36 l0 x15_1).f1.f1) t25003 _ ?side1 ?side2 A7.out).mono ?_); (case side1 => exact Kd.C_below HR25001_2.out be_); (case side2 => exact HC25001_2.out); rintro e w17 ⟨rfl, hb⟩; refine ⟨_, rfl, ?_⟩; have n0_ := Aside0.mk (blk_below (g := gb25002) (o := .cells #[.int .i64 ((rd_T36 l0 x15_1).f0), .int .i64 ((rd_T36 l0 x15_1).f1.f0), .slice A25001_2 ((rd_T36 l0 x15_1).f1.f1).length c25001_2] 36 (0, 0)) (by (with_reducible repeat (first | refine blk_drewN ?_ _ | refine blk_drew ?_ | refine blk_alloc ?_ _)); refine blk_put (cs := #[.int .i64 ((rd_T36 l0 x15_1).f0), .int .i64 ((rd_T36 l0 x15_1).f1.f0), .slice none 0 0]) ?_ 2 _ rfl; (with_reducible repeat (first | refine blk_drewN ?_ _ | refine blk_drew ?_ | refine blk_alloc ?_ _)); refine blk_put (cs := #[.int .i64 ((rd_T36 l0 x15_1).f0), .int .i64 0, .slice none 0 0]) ?_ 1 _ rfl; (with_reducible repeat (first | refine blk_drewN ?_ _ | refine blk_drew ?_ | refine blk_alloc ?_ _)); refine blk_put (cs := #[.int .i64 0, .int .i64 0, .slice none 0 0]) ?_ 0 _ rfl; (with_reducible repeat (first | refine blk_drewN ?_ _ | refine blk_drew ?_ | refine blk_alloc ?_ _)); exact BK25002.out) hb); have n1_ := Aside0.mk (bs_ hb); clear BK25002 HB; have BK25002 := n0_; have HB := n1_; clear n0_ n1_; (try clear hb); (try clear hb2); (try clear hk); (try clear hi); have hcz18_0 : w17.cell? ⟨gb25002, 0, none⟩ = some (.int .i64 ((rd_T36 l0 x15_1).f0)) := (blk_cell BK25002.out 0).trans rfl; have hcz18_1 : w17.cell? ⟨gb25002, 1, none⟩ = some (.int .i64 ((rd_T36 l0 x15_1).f1.f0)) := (blk_cell BK25002.out 1).trans rfl; have hcz18_2 : w17.cell? ⟨gb25002, 2, none⟩ = some (.slice A25001_2 ((rd_T36 l0 x15_1).f1.f1).length c25001_2) := (blk_cell BK25002.out 2).trans rfl; have hfz18_0 := blk_frozen BK25002.out 0; have hfz18_1 := blk_frozen BK25002.out 1; have hfz18_2 := blk_frozen BK25002.out 2))
           go_ret
           exact ⟨er_, be_⟩
          ·rw [if_neg c14] at H
           have c14b0 : decide (((rd_T36 l0 x15_1).f0) < 1) = false := decide_eq_false c14
           clear c14
           by_cases c19 : ((rd_T36 l0 x15_1).f0) > x3_1
           ·rw [if_pos c19] at H
            have c19b0 : decide (x3_1 < ((rd_T36 l0 x15_1).f0)) = true := decide_eq_true c19
            clear c19
            obtain rfl := Option.some.inj H
            have p25001 : 0 ≤ (x15_1 : Int) := of_decide_eq_true (by first | (with_reducible assumption) | assumption)
            have q25001 : x15_1 < (l0.length : Int) := of_decide_eq_true (by first | (with_reducible assumption) | assumption)
            obtain ⟨ad25001, A25001_2, c25001_2, e25001, hx25001_0, hx25001_1, hx25001_2, hl25001_2, hi25001_2⟩ := at_T36 HR0.out x15_1 p25001 q25001
            cases e25001
            replace hx25001_0 := (HB.out.cell (World.block_lt_of_cell? w _ hx25001_0)).trans hx25001_0
            replace hx25001_1 := (HB.out.cell (World.block_lt_of_cell? w _ hx25001_1)).trans hx25001_1
            replace hx25001_2 := (HB.out.cell (World.block_lt_of_cell? w _ hx25001_2)).trans hx25001_2
            have HR25001_2 := Aside0.mk hi25001_2
            have HC25001_2 := Aside0.mk hl25001_2
            clear hi25001_2 hl25001_2
            replace p25001 := eq_true p25001
            replace q25001 := eq_true q25001
            go_wp2_with (first | ((with_reducible refine gate_dst (N := 5) rfl ?_); refine box_event ?hg (N := 5) ?hd (cs := #[.int .i64 0, .int .i64 0, .slice none 0 0]) (t := 36) ?hr ?_; (case hd => rfl); (case hg => rfl); (case hr => first | (go_simp; done) | (go_simp; rfl)); intro gb25002 hg w20 hbox hb; have n0_ := Aside0.mk (bs_ hb); have n1_ := Aside0.mk (hbox); have n2_ := Aside0.mk ((by rw [hg]; exact bz_ : w.heap.size ≤ gb25002)); have n3_ := Aside0.mk ((by rw [hg]; exact bz_ : w.heap.size ≤ gb25002)); clear HB; have HB := n0_; have BK25002 := n1_; have GW25002 := n2_; have GE25002 := n3_; clear n0_ n1_ n2_ n3_ hb hbox hg; have hcz21_0 : w20.cell? ⟨gb25002, 0, none⟩ = some (.int .i64 0) := (blk_cell BK25002.out 0).trans rfl; have hcz21_1 : w20.cell? ⟨gb25002, 1, none⟩ = some (.int .i64 0) := (blk_cell BK25002.out 1).trans rfl; have hcz21_2 : w20.cell? ⟨gb25002, 2, none⟩ = some (.slice none 0 0) := (blk_cell BK25002.out 2).trans rfl; have hfz21_0 := blk_frozen BK25002.out 0; have hfz21_1 := blk_frozen BK25002.out 1; have hfz21_2 := blk_frozen BK25002.out 2) | ((with_reducible refine gate_callee (f := 29) rfl ?_); refine goesL_ (some 21) rfl rfl Try.func29 (by kernel_rfl) rfl #[.agg #[.int .i64 ((rd_T36 l0 x15_1).f1.f0), .slice A25001_2 ((rd_T36 l0 x15_1).f1.f1).length c25001_2]] rfl la_ ?_; (with_reducible refine (section_Check.calls k1 ((rd_T36 l0 x15_1).f1.f0) _ _ ((rd_T36 l0 x15_1).f1.f1) t25003 _ ?side1 ?side2 A7.out).mono ?_); (case side1 => exact Kd.C_below HR25001_2.out be_); (case side2 => exact HC25001_2.out); rintro e w22 ⟨rfl, hb⟩; refine ⟨_, rfl, ?_⟩; have n0_ := Aside0.mk (blk_below (g := gb25002) (o := .cells #[.int .i64 ((rd_T36 l0 x15_1).f0), .int .i64 ((rd_T36 l0 x15_1).f1.f0), .slice A25001_2 ((rd_T36 l0 x15_1).f1.f1).length c25001_2] 36 (0, 0)) (by (with_reducible repeat (first | refine blk_drewN ?_ _ | refine blk_drew ?_ | refine blk_alloc ?_ _)); refine blk_put (cs := #[.int .i64 ((rd_T36 l0 x15_1).f0), .int .i64 ((rd_T36 l0 x15_1).f1.f0), .slice none 0 0]) ?_ 2 _ rfl; (with_reducible repeat (first | refine blk_drewN ?_ _ | refine blk_drew ?_ | refine blk_alloc ?_ _)); refine blk_put (cs := #[.int .i64 ((rd_T36 l0 x15_1).f0), .int .i64 0, .slice none 0 0]) ?_ 1 _ rfl; (with_reducible repeat (first | refine blk_drewN ?_ _ | refine blk_drew ?_ | refine blk_alloc ?_ _)); refine blk_put (cs := #[.int .i64 0, .int .i64 0, .slice none 0 0]) ?_ 0 _ rfl; (with_reducible repeat (first | refine blk_drewN ?_ _ | refine blk_drew ?_ | refine blk_alloc ?_ _)); exact BK25002.out) hb); have n1_ := Aside0.mk (bs_ hb); clear BK25002 HB; have BK25002 := n0_; have HB := n1_; clear n0_ n1_; (try clear hb); (try clear hb2); (try clear hk); (try clear hi); have hcz23_0 : w22.cell? ⟨gb25002, 0, none⟩ = some (.int .i64 ((rd_T36 l0 x15_1).f0)) := (blk_cell BK25002.out 0).trans rfl; have hcz23_1 : w22.cell? ⟨gb25002, 1, none⟩ = some (.int .i64 ((rd_T36 l0 x15_1).f1.f0)) := (blk_cell BK25002.out 1).trans rfl; have hcz23_2 : w22.cell? ⟨gb25002, 2, none⟩ = some (.slice A25001_2 ((rd_T36 l0 x15_1).f1.f1).length c25001_2) := (blk_cell BK25002.out 2).trans rfl; have hfz23_0 := blk_frozen BK25002.out 0; have hfz23_1 := blk_frozen BK25002.out 1; have hfz23_2 := blk_frozen BK25002.out 2))
            go_ret
            exact ⟨er_, be_⟩
           ·rw [if_neg c19] at H
            have c19b0 : decide (x3_1 < ((rd_T36 l0 x15_1).f0)) = false := decide_eq_false c19
            clear c19
            have H' := Aside0.mk H
            clear H
            have p25001 : 0 ≤ (x15_1 : Int) := of_decide_eq_true (by first | (with_reducible assumption) | assumption)
            have q25001 : x15_1 < (l0.length : Int) := of_decide_eq_true (by first | (with_reducible assumption) | assumption)
            obtain ⟨ad25001, A25001_2, c25001_2, e25001, hx25001_0, hx25001_1, hx25001_2, hl25001_2, hi25001_2⟩ := at_T36 HR0.out x15_1 p25001 q25001
            cases e25001
            replace hx25001_0 := (HB.out.cell (World.block_lt_of_cell? w _ hx25001_0)).trans hx25001_0
            replace hx25001_1 := (HB.out.cell (World.block_lt_of_cell? w _ hx25001_1)).trans hx25001_1
            replace hx25001_2 := (HB.out.cell (World.block_lt_of_cell? w _ hx25001_2)).trans hx25001_2
            have HR25001_2 := Aside0.mk hi25001_2
            have HC25001_2 := Aside0.mk hl25001_2
            clear hi25001_2 hl25001_2
            replace p25001 := eq_true p25001
            replace q25001 := eq_true q25001
            go_wp2_with (first | ((with_reducible refine gate_dst (N := 5) rfl ?_); refine box_event ?hg (N := 5) ?hd (cs := #[.int .i64 0, .int .i64 0, .slice none 0 0]) (t := 36) ?hr ?_; (case hd => rfl); (case hg => rfl); (case hr => first | (go_simp; done) | (go_simp; rfl)); intro gb25002 hg w24 hbox hb; have n0_ := Aside0.mk (bs_ hb); have n1_ := Aside0.mk (hbox); have n2_ := Aside0.mk ((by rw [hg]; exact bz_ : w.heap.size ≤ gb25002)); have n3_ := Aside0.mk ((by rw [hg]; exact bz_ : w.heap.size ≤ gb25002)); clear HB; have HB := n0_; have BK25002 := n1_; have GW25002 := n2_; have GE25002 := n3_; clear n0_ n1_ n2_ n3_ hb hbox hg; have hcz25_0 : w24.cell? ⟨gb25002, 0, none⟩ = some (.int .i64 0) := (blk_cell BK25002.out 0).trans rfl; have hcz25_1 : w24.cell? ⟨gb25002, 1, none⟩ = some (.int .i64 0) := (blk_cell BK25002.out 1).trans rfl; have hcz25_2 : w24.cell? ⟨gb25002, 2, none⟩ = some (.slice none 0 0) := (blk_cell BK25002.out 2).trans rfl; have hfz25_0 := blk_frozen BK25002.out 0; have hfz25_1 := blk_frozen BK25002.out 1; have hfz25_2 := blk_frozen BK25002.out 2) | ((with_reducible refine gate_callee (f := 29) rfl ?_); refine goesL_ (some 21) rfl rfl Try.func29 (by kernel_rfl) rfl #[.agg #[.int .i64 ((rd_T36 l0 x15_1).f1.f0), .slice A25001_2 ((rd_T36 l0 x15_1).f1.f1).length c25001_2]] rfl la_ ?_; (with_reducible refine (section_Check.calls k1 ((rd_T36 l0 x15_1).f1.f0) _ _ ((rd_T36 l0 x15_1).f1.f1) t25003 _ ?side1 ?side2 A7.out).mono ?_); (case side1 => exact Kd.C_below HR25001_2.out be_); (case side2 => exact HC25001_2.out); rintro e w26 ⟨rfl, hb⟩; refine ⟨_, rfl, ?_⟩; have n0_ := Aside0.mk (blk_below (g := gb25002) (o := .cells #[.int .i64 ((rd_T36 l0 x15_1).f0), .int .i64 ((rd_T36 l0 x15_1).f1.f0), .slice A25001_2 ((rd_T36 l0 x15_1).f1.f1).length c25001_2] 36 (0, 0)) (by (with_reducible repeat (first | refine blk_drewN ?_ _ | refine blk_drew ?_ | refine blk_alloc ?_ _)); refine blk_put (cs := #[.int .i64 ((rd_T36 l0 x15_1).f0), .int .i64 ((rd_T36 l0 x15_1).f1.f0), .slice none 0 0]) ?_ 2 _ rfl; (with_reducible repeat (first | refine blk_drewN ?_ _ | refine blk_drew ?_ | refine blk_alloc ?_ _)); refine blk_put (cs := #[.int .i64 ((rd_T36 l0 x15_1).f0), .int .i64 0, .slice none 0 0]) ?_ 1 _ rfl; (with_reducible repeat (first | refine blk_drewN ?_ _ | refine blk_drew ?_ | refine blk_alloc ?_ _)); refine blk_put (cs := #[.int .i64 0, .int .i64 0, .slice none 0 0]) ?_ 0 _ rfl; (with_reducible repeat (first | refine blk_drewN ?_ _ | refine blk_drew ?_ | refine blk_alloc ?_ _)); exact BK25002.out) hb); have n1_ := Aside0.mk (bs_ hb); clear BK25002 HB; have BK25002 := n0_; have HB := n1_; clear n0_ n1_; (try clear hb); (try clear hb2); (try clear hk); (try clear hi); have hcz27_0 : w26.cell? ⟨gb25002, 0, none⟩ = some (.int .i64 ((rd_T36 l0 x15_1).f0)) := (blk_cell BK25002.out 0).trans rfl; have hcz27_1 : w26.cell? ⟨gb25002, 1, none⟩ = some (.int .i64 ((rd_T36 l0 x15_1).f1.f0)) := (blk_cell BK25002.out 1).trans rfl; have hcz27_2 : w26.cell? ⟨gb25002, 2, none⟩ = some (.slice A25001_2 ((rd_T36 l0 x15_1).f1.f1).length c25001_2) := (blk_cell BK25002.out 2).trans rfl; have hfz27_0 := blk_frozen BK25002.out 0; have hfz27_1 := blk_frozen BK25002.out 1; have hfz27_2 := blk_frozen BK25002.out 2))
            go_roundg k1
            case measure => have := HK1.out; omega
            case rel => exact ⟨(wrap64 (x3_1 - ((rd_T36 l0 x15_1).f0))), (wrap64 (x15_1 + 1)), (by first | rfl | (simp; done) | (simp [*]; done)), (by first | rfl | (simp; done) | (simp [*]; done)), H', ⟨by have := HK1.out; omega⟩, ⟨be_⟩⟩
        ·rw [if_neg c8] at H
         have c8b0 : (t25003 == 0) = false := beq_eq_false_iff_ne.mpr c8
         have c8b1 : (t25003 != 0) = true := bne_iff_ne.mpr c8
         obtain rfl := Option.some.inj H
         have p25001 : 0 ≤ (x15_1 : Int) := of_decide_eq_true (by first | (with_reducible assumption) | assumption)
         have q25001 : x15_1 < (l0.length : Int) := of_decide_eq_true (by first | (with_reducible assumption) | assumption)
         obtain ⟨ad25001, A25001_2, c25001_2, e25001, hx25001_0, hx25001_1, hx25001_2, hl25001_2, hi25001_2⟩ := at_T36 HR0.out x15_1 p25001 q25001
         cases e25001
         replace hx25001_0 := (HB.out.cell (World.block_lt_of_cell? w _ hx25001_0)).trans hx25001_0
         replace hx25001_1 := (HB.out.cell (World.block_lt_of_cell? w _ hx25001_1)).trans hx25001_1
         replace hx25001_2 := (HB.out.cell (World.block_lt_of_cell? w _ hx25001_2)).trans hx25001_2
         have HR25001_2 := Aside0.mk hi25001_2
         have HC25001_2 := Aside0.mk hl25001_2
         clear hi25001_2 hl25001_2
         replace p25001 := eq_true p25001
         replace q25001 := eq_true q25001
         go_wp2_with (first | ((with_reducible refine gate_dst (N := 5) rfl ?_); refine box_event ?hg (N := 5) ?hd (cs := #[.int .i64 0, .int .i64 0, .slice none 0 0]) (t := 36) ?hr ?_; (case hd => rfl); (case hg => rfl); (case hr => first | (go_simp; done) | (go_simp; rfl)); intro gb25002 hg w28 hbox hb; have n0_ := Aside0.mk (bs_ hb); have n1_ := Aside0.mk (hbox); have n2_ := Aside0.mk ((by rw [hg]; exact bz_ : w.heap.size ≤ gb25002)); have n3_ := Aside0.mk ((by rw [hg]; exact bz_ : w.heap.size ≤ gb25002)); clear HB; have HB := n0_; have BK25002 := n1_; have GW25002 := n2_; have GE25002 := n3_; clear n0_ n1_ n2_ n3_ hb hbox hg; have hcz29_0 : w28.cell? ⟨gb25002, 0, none⟩ = some (.int .i64 0) := (blk_cell BK25002.out 0).trans rfl; have hcz29_1 : w28.cell? ⟨gb25002, 1, none⟩ = some (.int .i64 0) := (blk_cell BK25002.out 1).trans rfl; have hcz29_2 : w28.cell? ⟨gb25002, 2, none⟩ = some (.slice none 0 0) := (blk_cell BK25002.out 2).trans rfl; have hfz29_0 := blk_frozen BK25002.out 0; have hfz29_1 := blk_frozen BK25002.out 1; have hfz29_2 := blk_frozen BK25002.out 2) | ((with_reducible refine gate_callee (f := 29) rfl ?_); refine goesL_ (some 21) rfl rfl Try.func29 (by kernel_rfl) rfl #[.agg #[.int .i64 ((rd_T36 l0 x15_1).f1.f0), .slice A25001_2 ((rd_T36 l0 x15_1).f1.f1).length c25001_2]] rfl la_ ?_; (with_reducible refine (section_Check.calls k1 ((rd_T36 l0 x15_1).f1.f0) _ _ ((rd_T36 l0 x15_1).f1.f1) t25003 _ ?side1 ?side2 A7.out).mono ?_); (case side1 => exact Kd.C_below HR25001_2.out be_); (case side2 => exact HC25001_2.out); rintro e w30 ⟨rfl, hb⟩; refine ⟨_, rfl, ?_⟩; have n0_ := Aside0.mk (blk_below (g := gb25002) (o := .cells #[.int .i64 ((rd_T36 l0 x15_1).f0), .int .i64 ((rd_T36 l0 x15_1).f1.f0), .slice A25001_2 ((rd_T36 l0 x15_1).f1.f1).length c25001_2] 36 (0, 0)) (by (with_reducible repeat (first | refine blk_drewN ?_ _ | refine blk_drew ?_ | refine blk_alloc ?_ _)); refine blk_put (cs := #[.int .i64 ((rd_T36 l0 x15_1).f0), .int .i64 ((rd_T36 l0 x15_1).f1.f0), .slice none 0 0]) ?_ 2 _ rfl; (with_reducible repeat (first | refine blk_drewN ?_ _ | refine blk_drew ?_ | refine blk_alloc ?_ _)); refine blk_put (cs := #[.int .i64 ((rd_T36 l0 x15_1).f0), .int .i64 0, .slice none 0 0]) ?_ 1 _ rfl; (with_reducible repeat (first | refine blk_drewN ?_ _ | refine blk_drew ?_ | refine blk_alloc ?_ _)); refine blk_put (cs := #[.int .i64 0, .int .i64 0, .slice none 0 0]) ?_ 0 _ rfl; (with_reducible repeat (first | refine blk_drewN ?_ _ | refine blk_drew ?_ | refine blk_alloc ?_ _)); exact BK25002.out) hb); have n1_ := Aside0.mk (bs_ hb); clear BK25002 HB; have BK25002 := n0_; have HB := n1_; clear n0_ n1_; (try clear hb); (try clear hb2); (try clear hk); (try clear hi)))
         go_ret
         exact ⟨er_, be_⟩
       ·rw [if_neg c6] at H
        exact absurd H (by simp)
      ·rw [if_neg c5] at H
       exact absurd H (by simp)
     ·rw [if_neg c4] at H
      have c4b0 : decide (x15_1 < (l0.length : Int)) = false := decide_eq_false c4
      clear c4
      obtain rfl := Option.some.inj H
      go_wp2
      go_ret
      exact ⟨er_, be_⟩

end Go.Proofs.Ytdbjoopkliafeaa.P

end
section
namespace Go.Proofs.Ytdbjoopkliafeaa.P
open Go Go.RowKit Go.Proofs.YtdbjoopkliafeaaW.PrintWords Go.Proofs.YtdbjoopkliafeaaW.PrintLast Go.Proofs.YtdbjoopkliafeaaW.PrintMore
attribute [local go_sem] max2_int min2_int max_two min_two max_three min_three max_four min_four max_five min_eight max_eight   -- for this text's walks alone
set_option linter.unusedVariables false
set_option linter.unusedSimpArgs false

def shape_Top.f (k : Nat) (l0 : List (S36)) : Option (Int) := (solid_Check.f k l0).bind fun t19001 => (if t19001 = 0 then (if 0 ≤ (wrap64 ((l0.length : Int) - 1)) then (if (wrap64 ((l0.length : Int) - 1)) < (l0.length : Int) then ((shape_Diameter.f k ((rd_T36 l0 (wrap64 ((l0.length : Int) - 1))).f1.f0) ((rd_T36 l0 (wrap64 ((l0.length : Int) - 1))).f1.f1)).bind fun t19003 => (some t19003)) else (none)) else (none)) else (some 0))
theorem shape_Top.mono : ∀ a0 k, LeO (shape_Top.f k a0) (shape_Top.f (k + 1) a0) := by
 intro a0 k
 unfold shape_Top.f
 repeat' first
   | (with_reducible exact shape_Diameter.mono _ _ _)
   | (with_reducible exact solid_Check.mono _ _)
   | (with_reducible exact LeO.refl _)
   | (with_reducible exact LeO.none _)
   | (with_reducible refine LeO.ite ?_ ?_)
   | (with_reducible refine LeO.bind ?_ (fun _ => ?_))
   | exact shape_Diameter.mono _ _ _
   | exact solid_Check.mono _ _
   | exact LeO.none _
   | refine LeO.ite ?_ ?_
   | refine LeO.bind ?_ (fun _ => ?_)
set_option maxHeartbeats 8000000 in
set_option maxRecDepth 100000 in
theorem shape_Top.calls (k : Nat) (A0 : Option Addr) (c0 : Nat) (l0 : List (S36)) (r : Int) (w : World) (hr0 : Kd.C k36 w A0 l0.length l0) (hc0 : l0.length ≤ c0) (h : shape_Top.f k l0 = some r) :
  Calls Try.prog 19 #[.slice A0 l0.length c0] w fun e w' => e = .returned (.int .i64 r) ∧ Below w.heap.size w w' := by
 have hu24 := Try.underlying24
 have HR0 := Aside0.mk hr0
 have HC0 := Aside0.mk hc0
 clear hr0 hc0
 have HB := Aside0.mk (Below.refl w.heap.size w)
 have H : ((solid_Check.f k l0).bind fun t19001 => (if t19001 = 0 then (if 0 ≤ (wrap64 ((l0.length : Int) - 1)) then (if (wrap64 ((l0.length : Int) - 1)) < (l0.length : Int) then ((shape_Diameter.f k ((rd_T36 l0 (wrap64 ((l0.length : Int) - 1))).f1.f0) ((rd_T36 l0 (wrap64 ((l0.length : Int) - 1))).f1.f1)).bind fun t19003 => (some t19003)) else (none)) else (none)) else (some 0))) = some r := h
 clear h
 replace H := Option.bind_eq_some_iff.mp H
 obtain ⟨t19001, A20, H⟩ := H
 replace H : (if t19001 = 0 then (if 0 ≤ (wrap64 ((l0.length : Int) - 1)) then (if (wrap64 ((l0.length : Int) - 1)) < (l0.length : Int) then ((shape_Diameter.f k ((rd_T36 l0 (wrap64 ((l0.length : Int) - 1))).f1.f0) ((rd_T36 l0 (wrap64 ((l0.length : Int) - 1))).f1.f1)).bind fun t19003 => (some t19003)) else (none)) else (none)) else (some 0)) = some r := H
 have A2 := Aside0.mk A20
 clear A20
 by_cases c3 : t19001 = 0
 ·rw [if_pos c3] at H
  have c3b0 : (t19001 == 0) = true := beq_iff_eq.mpr c3
  have c3b1 : (t19001 != 0) = false := bne_eq_false_iff_eq.mpr c3
  clear c3
  obtain ⟨ji4, hji4⟩ : ∃ j_ : Int, (wrap64 ((l0.length : Int) - 1)) = j_ := ⟨_, rfl⟩
  replace H : (if 0 ≤ (ji4) then (if (ji4) < (l0.length : Int) then ((shape_Diameter.f k ((rd_T36 l0 (ji4)).f1.f0) ((rd_T36 l0 (ji4)).f1.f1)).bind fun t19003 => (some t19003)) else (none)) else (none)) = some r := by first | (rw [hji4] at H; exact H) | (simp only [hji4] at H ⊢; exact H)
  (try rw [hji4] at A2)
  have hji4w : (IntKind.i64.wrap ((l0.length : Int) - 1)) = ji4 := (i64_w _).trans hji4
  by_cases c5 : 0 ≤ (ji4)
  ·rw [if_pos c5] at H
   have c5b0 : decide (0 ≤ (ji4)) = true := decide_eq_true c5
   clear c5
   by_cases c6 : (ji4) < (l0.length : Int)
   ·rw [if_pos c6] at H
    have c6b0 : decide ((ji4) < (l0.length : Int)) = true := decide_eq_true c6
    clear c6
    replace H := Option.bind_eq_some_iff.mp H
    obtain ⟨t19003, A70, H⟩ := H
    replace H : (some t19003) = some r := H
    have A7 := Aside0.mk A70
    clear A70
    obtain rfl := Option.some.inj H
    go_enter Try.func19, Try.ntmps19
    go_wp2_with (first | ((with_reducible refine gate_callee (f := 25) rfl ?_); refine goesL_ (some 4) rfl rfl Try.func25 (by kernel_rfl) rfl #[.slice A0 l0.length c0] rfl la_ ?_; (with_reducible refine (solid_Check.calls k _ _ l0 t19001 _ ?side1 ?side2 A2.out).mono ?_); (case side1 => repeat (first | exact HR0.out | (with_reducible refine Kd.C_alloc ?_ _) | (with_reducible refine Kd.C_drewN ?_ _) | (with_reducible refine Kd.C_drew ?_))); (case side2 => exact HC0.out); rintro e w8 ⟨rfl, hb⟩; refine ⟨_, rfl, ?_⟩; have n0_ := Aside0.mk (bs_ hb); clear HB; have HB := n0_; clear n0_; (try clear hb); (try clear hb2); (try clear hk); (try clear hi); have p19002 : 0 ≤ ((ji4) : Int) := of_decide_eq_true (by first | (with_reducible assumption) | assumption); have q19002 : (ji4) < (l0.length : Int) := of_decide_eq_true (by first | (with_reducible assumption) | assumption); obtain ⟨ad19002, A19002_2, c19002_2, e19002, hx19002_0, hx19002_1, hx19002_2, hl19002_2, hi19002_2⟩ := at_T36 HR0.out (ji4) p19002 q19002; cases e19002; replace hx19002_0 := (HB.out.cell (World.block_lt_of_cell? w _ hx19002_0)).trans hx19002_0; replace hx19002_1 := (HB.out.cell (World.block_lt_of_cell? w _ hx19002_1)).trans hx19002_1; replace hx19002_2 := (HB.out.cell (World.block_lt_of_cell? w _ hx19002_2)).trans hx19002_2; have HR19002_2 := Aside0.mk hi19002_2; have HC19002_2 := Aside0.mk hl19002_2; clear hi19002_2 hl19002_2; replace p19002 := eq_true p19002; replace q19002 := eq_true q19002) | ((with_reducible refine gate_callee (f := 12) rfl ?_); refine goesL_ (some 13) rfl rfl Try.func12 (by kernel_rfl) rfl #[.agg #[.int .i64 ((rd_T36 l0 (ji4)).f1.f0), .slice A19002_2 ((rd_T36 l0 (ji4)).f1.f1).length c19002_2]] rfl (by (try simp only [List.map_toArray, List.map_cons, List.map_nil]); first | done | (simp only [hji4]; rfl) | rfl | (simp only [List.length_drop, List.length_take]; rfl)) ?_; (with_reducible refine (shape_Diameter.calls k ((rd_T36 l0 (ji4)).f1.f0) _ _ ((rd_T36 l0 (ji4)).f1.f1) t19003 _ ?side1 ?side2 A7.out).mono ?_); (case side1 => repeat (first | exact (Kd.C_below HR19002_2.out HB.out) | (with_reducible refine Kd.C_alloc ?_ _) | (with_reducible refine Kd.C_drewN ?_ _) | (with_reducible refine Kd.C_drew ?_))); (case side2 => exact HC19002_2.out); rintro e w9 ⟨rfl, hb⟩; refine ⟨_, rfl, ?_⟩; have n0_ := Aside0.mk (bs_ hb); clear HB; have HB := n0_; clear n0_; (try clear hb); (try clear hb2); (try clear hk); (try clear hi)))
    go_ret
    exact ⟨by first | rfl | (simp [errW_none, errW_some] <;> rfl) | (simp only [← hji4]; first | rfl | (simp [errW_none, errW_some] <;> rfl)) | (simp [*, errW_none, errW_some] <;> rfl), be_⟩
   ·rw [if_neg c6] at H
    exact absurd H (by simp)
  ·rw [if_neg c5] at H
   exact absurd H (by simp)
 ·rw [if_neg c3] at H
  have c3b0 : (t19001 == 0) = false := beq_eq_false_iff_ne.mpr c3
  have c3b1 : (t19001 != 0) = true := bne_iff_ne.mpr c3
  obtain rfl := Option.some.inj H
  go_enter Try.func19, Try.ntmps19
  go_wp2_with (first | ((with_reducible refine gate_callee (f := 25) rfl ?_); refine goesL_ (some 4) rfl rfl Try.func25 (by kernel_rfl) rfl #[.slice A0 l0.length c0] rfl la_ ?_; (with_reducible refine (solid_Check.calls k _ _ l0 t19001 _ ?side1 ?side2 A2.out).mono ?_); (case side1 => repeat (first | exact HR0.out | (with_reducible refine Kd.C_alloc ?_ _) | (with_reducible refine Kd.C_drewN ?_ _) | (with_reducible refine Kd.C_drew ?_))); (case side2 => exact HC0.out); rintro e w10 ⟨rfl, hb⟩; refine ⟨_, rfl, ?_⟩; have n0_ := Aside0.mk (bs_ hb); clear HB; have HB := n0_; clear n0_; (try clear hb); (try clear hb2); (try clear hk); (try clear hi)))
  go_ret
  exact ⟨er_, be_⟩

end Go.Proofs.Ytdbjoopkliafeaa.P

end
section
namespace Go.Proofs.Ytdbjoopkliafeaa.P
open Go Go.RowKit Go.Proofs.YtdbjoopkliafeaaW.PrintWords Go.Proofs.YtdbjoopkliafeaaW.PrintLast Go.Proofs.YtdbjoopkliafeaaW.PrintMore
attribute [local go_sem] max2_int min2_int max_two min_two max_three min_three max_four min_four max_five min_eight max_eight   -- for this text's walks alone
set_option linter.unusedVariables false
set_option linter.unusedSimpArgs false

def solid_whole.f  : Option (Int × Int) := some (0, 20000)
set_option maxHeartbeats 8000000 in
set_option maxRecDepth 100000 in
theorem solid_whole.calls  (r1 : Int) (r2 : Int) (w : World) (h : solid_whole.f  = some (r1, r2)) :
  Calls Try.prog 47 #[] w fun e w' => e = .returned (.agg #[.int .i64 r1, .int .i64 r2]) ∧ Below w.heap.size w w' := by
 have hu49 := Try.underlying49
 have HB := Aside0.mk (Below.refl w.heap.size w)
 have H : (some (0, 20000)) = some (r1, r2) := h
 clear h
 simp only [Option.some.injEq, Prod.mk.injEq] at H
 obtain ⟨rfl, rfl⟩ := H
 go_enter Try.func47, Try.ntmps47
 go_wp2_with (first | ((with_reducible refine gate_dst (N := 0) rfl ?_); refine box_event ?hg (N := 0) ?hd (cs := #[.int .i64 0, .int .i64 0]) (t := 49) ?hr ?_; (case hd => rfl); (case hg => rfl); (case hr => first | (go_simp; done) | (go_simp; rfl)); intro gb47001 hg w1 hbox hb; have n0_ := Aside0.mk (bs_ hb); have n1_ := Aside0.mk (hbox); have n2_ := Aside0.mk ((by rw [hg]; exact bz_ : w.heap.size ≤ gb47001)); have n3_ := Aside0.mk ((by rw [hg]; exact bz_ : w.heap.size ≤ gb47001)); clear HB; have HB := n0_; have BK47001 := n1_; have GW47001 := n2_; have GE47001 := n3_; clear n0_ n1_ n2_ n3_ hb hbox hg; have hcz2_0 : w1.cell? ⟨gb47001, 0, none⟩ = some (.int .i64 0) := (blk_cell BK47001.out 0).trans rfl; have hcz2_1 : w1.cell? ⟨gb47001, 1, none⟩ = some (.int .i64 0) := (blk_cell BK47001.out 1).trans rfl; have hfz2_0 := blk_frozen BK47001.out 0; have hfz2_1 := blk_frozen BK47001.out 1))
 refine bodyPost_ret (results_cell_row rfl _ _ gb47001 49 #[.int .i64 0, .int .i64 20000] (0, 0) _ rfl (by (with_reducible repeat (first | refine blk_drewN ?_ _ | refine blk_drew ?_ | refine blk_alloc ?_ _)); refine blk_put (cs := #[.int .i64 0, .int .i64 0]) ?_ 1 _ rfl; (with_reducible repeat (first | refine blk_drewN ?_ _ | refine blk_drew ?_ | refine blk_alloc ?_ _)); refine blk_put (cs := #[.int .i64 0, .int .i64 0]) ?_ 0 _ rfl; (with_reducible repeat (first | refine blk_drewN ?_ _ | refine blk_drew ?_ | refine blk_alloc ?_ _)); exact BK47001.out) Try.underlying49 rfl (by kernel_rfl)) rfl ?_
 exact ⟨er_, be_⟩

end Go.Proofs.Ytdbjoopkliafeaa.P

end
section
namespace Go.Proofs.Ytdbjoopkliafeaa.P
open Go Go.RowKit Go.Proofs.YtdbjoopkliafeaaW.PrintWords Go.Proofs.YtdbjoopkliafeaaW.PrintLast Go.Proofs.YtdbjoopkliafeaaW.PrintMore
attribute [local go_sem] max2_int min2_int max_two min_two max_three min_three max_four min_four max_five min_eight max_eight   -- for this text's walks alone
set_option linter.unusedVariables false
set_option linter.unusedSimpArgs false

def span_Meet.f (a0_0 : Int) (a0_1 : Int) (a1_0 : Int) (a1_1 : Int) : Option (Int × Int) := (span_empty.f a0_0 a0_1).bind fun t53005 => (if t53005 = true then (some (0, 0)) else ((span_empty.f a1_0 a1_1).bind fun t53006 => (if t53006 = true then (some (0, 0)) else ((span_empty.f (mx a0_0 a1_0) (mn a0_1 a1_1)).bind fun t53007 => (if t53007 = true then (some (0, 0)) else (some (mx a0_0 a1_0, mn a0_1 a1_1)))))))
set_option maxHeartbeats 8000000 in
set_option maxRecDepth 100000 in
theorem span_Meet.calls (a0_0 : Int) (a0_1 : Int) (a1_0 : Int) (a1_1 : Int) (r1 : Int) (r2 : Int) (w : World) (h : span_Meet.f a0_0 a0_1 a1_0 a1_1 = some (r1, r2)) :
  Calls Try.prog 53 #[.agg #[.int .i64 a0_0, .int .i64 a0_1], .agg #[.int .i64 a1_0, .int .i64 a1_1]] w fun e w' => e = .returned (.agg #[.int .i64 r1, .int .i64 r2]) ∧ Below w.heap.size w w' := by
 have hu49 := Try.underlying49
 have HB := Aside0.mk (Below.refl w.heap.size w)
 have H : ((span_empty.f a0_0 a0_1).bind fun t53005 => (if t53005 = true then (some (0, 0)) else ((span_empty.f a1_0 a1_1).bind fun t53006 => (if t53006 = true then (some (0, 0)) else ((span_empty.f (mx a0_0 a1_0) (mn a0_1 a1_1)).bind fun t53007 => (if t53007 = true then (some (0, 0)) else (some (mx a0_0 a1_0, mn a0_1 a1_1)))))))) = some (r1, r2) := h
 clear h
 obtain ⟨ji3, hji3⟩ : ∃ j_ : Int, (mx a0_0 a1_0) = j_ := ⟨_, rfl⟩
 replace H : ((span_empty.f a0_0 a0_1).bind fun t53005 => (if t53005 = true then (some (0, 0)) else ((span_empty.f a1_0 a1_1).bind fun t53006 => (if t53006 = true then (some (0, 0)) else ((span_empty.f (ji3) (mn a0_1 a1_1)).bind fun t53007 => (if t53007 = true then (some (0, 0)) else (some (ji3, mn a0_1 a1_1)))))))) = some (r1, r2) := by first | (rw [hji3] at H; exact H) | (simp only [hji3] at H ⊢; exact H)
 have hji3_ : (if a0_0 < a1_0 then a1_0 else a0_0) = ji3 := hji3
 obtain ⟨ji4, hji4⟩ : ∃ j_ : Int, (mn a0_1 a1_1) = j_ := ⟨_, rfl⟩
 replace H : ((span_empty.f a0_0 a0_1).bind fun t53005 => (if t53005 = true then (some (0, 0)) else ((span_empty.f a1_0 a1_1).bind fun t53006 => (if t53006 = true then (some (0, 0)) else ((span_empty.f (ji3) (ji4)).bind fun t53007 => (if t53007 = true then (some (0, 0)) else (some (ji3, ji4)))))))) = some (r1, r2) := by first | (rw [hji4] at H; exact H) | (simp only [hji4] at H ⊢; exact H)
 have hji4_ : (if a1_1 < a0_1 then a1_1 else a0_1) = ji4 := hji4
 replace H := Option.bind_eq_some_iff.mp H
 obtain ⟨t53005, A50, H⟩ := H
 replace H : (if t53005 = true then (some (0, 0)) else ((span_empty.f a1_0 a1_1).bind fun t53006 => (if t53006 = true then (some (0, 0)) else ((span_empty.f (ji3) (ji4)).bind fun t53007 => (if t53007 = true then (some (0, 0)) else (some (ji3, ji4))))))) = some (r1, r2) := H
 have A5 := Aside0.mk A50
 clear A50
 by_cases c6 : t53005 = true
 ·subst c6
  have H1 : (some (0, 0)) = some (r1, r2) := by rw [if_pos rfl] at H; exact H
  clear H
  have H := H1
  clear H1
  simp only [Option.some.injEq, Prod.mk.injEq] at H
  obtain ⟨rfl, rfl⟩ := H
  go_enter Try.func53, Try.ntmps53
  go_wp2_with (first | ((with_reducible refine gate_dst (N := 2) rfl ?_); refine box_event ?hg (N := 2) ?hd (cs := #[.int .i64 a0_0, .int .i64 a0_1]) (t := 49) ?hr ?_; (case hd => rfl); (case hg => rfl); (case hr => first | (go_simp; done) | (go_simp; rfl)); intro gb53001 hg w7 hbox hb; have n0_ := Aside0.mk (bs_ hb); have n1_ := Aside0.mk (hbox); have n2_ := Aside0.mk ((by rw [hg]; exact bz_ : w.heap.size ≤ gb53001)); have n3_ := Aside0.mk ((by rw [hg]; exact bz_ : w.heap.size ≤ gb53001)); clear HB; have HB := n0_; have BK53001 := n1_; have GW53001 := n2_; have GE53001 := n3_; clear n0_ n1_ n2_ n3_; clear hb hbox hg) | ((with_reducible refine gate_dst (N := 3) rfl ?_); refine box_event ?hg (N := 3) ?hd (cs := #[.int .i64 a1_0, .int .i64 a1_1]) (t := 49) ?hr ?_; (case hd => rfl); (case hg => rfl); (case hr => first | (go_simp; done) | (go_simp; rfl)); intro gb53002 hg w8 hbox hb; have n0_ := Aside0.mk (blk_below (g := gb53001) (o := .cells #[.int .i64 a0_0, .int .i64 a0_1] 49 (0, 0)) (fb_ BK53001.out) hb); have n1_ := Aside0.mk (bs_ hb); have n2_ := Aside0.mk (hbox); have n3_ := Aside0.mk ((by rw [hg]; exact bz_ : w.heap.size ≤ gb53002)); have n4_ := Aside0.mk ((by rw [hg]; exact bz_ : w.heap.size ≤ gb53002)); have n5_ := Aside0.mk ((by rw [hg]; exact Nat.ne_of_lt (blk_lt (g := gb53001) (o := .cells #[.int .i64 a0_0, .int .i64 a0_1] 49 (0, 0)) (fb_ BK53001.out)) : gb53001 ≠ gb53002)); have n6_ := Aside0.mk ((by rw [hg]; exact Nat.ne_of_gt (blk_lt (g := gb53001) (o := .cells #[.int .i64 a0_0, .int .i64 a0_1] 49 (0, 0)) (fb_ BK53001.out)) : gb53002 ≠ gb53001)); clear BK53001 HB; have BK53001 := n0_; have HB := n1_; have BK53002 := n2_; have GW53002 := n3_; have GE53002 := n4_; have NB53001_53002 := n5_; have NB53002_53001 := n6_; clear n0_ n1_ n2_ n3_ n4_ n5_ n6_; clear hb hbox hg) | ((with_reducible refine gate_dst (N := 4) rfl ?_); refine box_event ?hg (N := 4) ?hd (cs := #[.int .i64 0, .int .i64 0]) (t := 49) ?hr ?_; (case hd => rfl); (case hg => rfl); (case hr => first | (go_simp; done) | (go_simp; rfl)); intro gb53003 hg w9 hbox hb; have n0_ := Aside0.mk (blk_below (g := gb53001) (o := .cells #[.int .i64 a0_0, .int .i64 a0_1] 49 (0, 0)) (fb_ BK53001.out) hb); have n1_ := Aside0.mk (blk_below (g := gb53002) (o := .cells #[.int .i64 a1_0, .int .i64 a1_1] 49 (0, 0)) (fb_ BK53002.out) hb); have n2_ := Aside0.mk (bs_ hb); have n3_ := Aside0.mk (hbox); have n4_ := Aside0.mk ((by rw [hg]; exact bz_ : w.heap.size ≤ gb53003)); have n5_ := Aside0.mk ((by rw [hg]; exact bz_ : w.heap.size ≤ gb53003)); have n6_ := Aside0.mk ((by rw [hg]; exact Nat.ne_of_lt (blk_lt (g := gb53001) (o := .cells #[.int .i64 a0_0, .int .i64 a0_1] 49 (0, 0)) (fb_ BK53001.out)) : gb53001 ≠ gb53003)); have n7_ := Aside0.mk ((by rw [hg]; exact Nat.ne_of_gt (blk_lt (g := gb53001) (o := .cells #[.int .i64 a0_0, .int .i64 a0_1] 49 (0, 0)) (fb_ BK53001.out)) : gb53003 ≠ gb53001)); have n8_ := Aside0.mk ((by rw [hg]; exact Nat.ne_of_lt (blk_lt (g := gb53002) (o := .cells #[.int .i64 a1_0, .int .i64 a1_1] 49 (0, 0)) (fb_ BK53002.out)) : gb53002 ≠ gb53003)); have n9_ := Aside0.mk ((by rw [hg]; exact Nat.ne_of_gt (blk_lt (g := gb53002) (o := .cells #[.int .i64 a1_0, .int .i64 a1_1] 49 (0, 0)) (fb_ BK53002.out)) : gb53003 ≠ gb53002)); clear BK53001 BK53002 HB; have BK53001 := n0_; have BK53002 := n1_; have HB := n2_; have BK53003 := n3_; have GW53003 := n4_; have GE53003 := n5_; have NB53001_53003 := n6_; have NB53003_53001 := n7_; have NB53002_53003 := n8_; have NB53003_53002 := n9_; clear n0_ n1_ n2_ n3_ n4_ n5_ n6_ n7_ n8_ n9_ hb hbox hg; have hnb10 := NB53001_53002.out; have hnc10 := NB53002_53001.out; have hnb11 := NB53001_53003.out; have hnc11 := NB53003_53001.out; have hcz12_0 : w9.cell? ⟨gb53001, 0, none⟩ = some (.int .i64 a0_0) := (blk_cell BK53001.out 0).trans rfl; have hcz12_1 : w9.cell? ⟨gb53001, 1, none⟩ = some (.int .i64 a0_1) := (blk_cell BK53001.out 1).trans rfl; have hfz12_0 := blk_frozen BK53001.out 0; have hfz12_1 := blk_frozen BK53001.out 1; have hnb13 := NB53002_53003.out; have hnc13 := NB53003_53002.out; have hcz14_0 : w9.cell? ⟨gb53002, 0, none⟩ = some (.int .i64 a1_0) := (blk_cell BK53002.out 0).trans rfl; have hcz14_1 : w9.cell? ⟨gb53002, 1, none⟩ = some (.int .i64 a1_1) := (blk_cell BK53002.out 1).trans rfl; have hfz14_0 := blk_frozen BK53002.out 0; have hfz14_1 := blk_frozen BK53002.out 1) | ((with_reducible refine gate_dst (N := 5) rfl ?_); refine box_event ?hg (N := 5) ?hd (cs := #[.int .i64 0, .int .i64 0]) (t := 49) ?hr ?_; (case hd => rfl); (case hg => rfl); (case hr => first | (go_simp; done) | (go_simp; rfl)); intro gb53004 hg w15 hbox hb; have n0_ := Aside0.mk (blk_below (g := gb53001) (o := .cells #[.int .i64 a0_0, .int .i64 a0_1] 49 (0, 0)) (fb_ BK53001.out) hb); have n1_ := Aside0.mk (blk_below (g := gb53002) (o := .cells #[.int .i64 a1_0, .int .i64 a1_1] 49 (0, 0)) (fb_ BK53002.out) hb); have n2_ := Aside0.mk (blk_below (g := gb53003) (o := .cells #[.int .i64 0, .int .i64 0] 49 (0, 0)) (fb_ BK53003.out) hb); have n3_ := Aside0.mk (bs_ hb); have n4_ := Aside0.mk (hbox); have n5_ := Aside0.mk ((by rw [hg]; exact bz_ : w.heap.size ≤ gb53004)); have n6_ := Aside0.mk ((by rw [hg]; exact bz_ : w.heap.size ≤ gb53004)); have n7_ := Aside0.mk ((by rw [hg]; exact Nat.ne_of_lt (blk_lt (g := gb53001) (o := .cells #[.int .i64 a0_0, .int .i64 a0_1] 49 (0, 0)) (fb_ BK53001.out)) : gb53001 ≠ gb53004)); have n8_ := Aside0.mk ((by rw [hg]; exact Nat.ne_of_gt (blk_lt (g := gb53001) (o := .cells #[.int .i64 a0_0, .int .i64 a0_1] 49 (0, 0)) (fb_ BK53001.out)) : gb53004 ≠ gb53001)); have n9_ := Aside0.mk ((by rw [hg]; exact Nat.ne_of_lt (blk_lt (g := gb53002) (o := .cells #[.int .i64 a1_0, .int .i64 a1_1] 49 (0, 0)) (fb_ BK53002.out)) : gb53002 ≠ gb53004)); have n10_ := Aside0.mk ((by rw [hg]; exact Nat.ne_of_gt (blk_lt (g := gb53002) (o := .cells #[.int .i64 a1_0, .int .i64 a1_1] 49 (0, 0)) (fb_ BK53002.out)) : gb53004 ≠ gb53002)); have n11_ := Aside0.mk ((by rw [hg]; exact Nat.ne_of_lt (blk_lt (g := gb53003) (o := .cells #[.int .i64 0, .int .i64 0] 49 (0, 0)) (fb_ BK53003.out)) : gb53003 ≠ gb53004)); have n12_ := Aside0.mk ((by rw [hg]; exact Nat.ne_of_gt (blk_lt (g := gb53003) (o := .cells #[.int .i64 0, .int .i64 0] 49 (0, 0)) (fb_ BK53003.out)) : gb53004 ≠ gb53003)); clear BK53001 BK53002 BK53003 HB; have BK53001 := n0_; have BK53002 := n1_; have BK53003 := n2_; have HB := n3_; have BK53004 := n4_; have GW53004 := n5_; have GE53004 := n6_; have NB53001_53004 := n7_; have NB53004_53001 := n8_; have NB53002_53004 := n9_; have NB53004_53002 := n10_; have NB53003_53004 := n11_; have NB53004_53003 := n12_; clear n0_ n1_ n2_ n3_ n4_ n5_ n6_ n7_ n8_ n9_ n10_ n11_ n12_ hb hbox hg; have hnb16 := NB53004_53001.out; have hnc16 := NB53001_53004.out; have hnb17 := NB53004_53002.out; have hnc17 := NB53002_53004.out; have hnb18 := NB53004_53003.out; have hnc18 := NB53003_53004.out; have hcz19_0 : w15.cell? ⟨gb53004, 0, none⟩ = some (.int .i64 0) := (blk_cell BK53004.out 0).trans rfl; have hcz19_1 : w15.cell? ⟨gb53004, 1, none⟩ = some (.int .i64 0) := (blk_cell BK53004.out 1).trans rfl; have hfz19_0 := blk_frozen BK53004.out 0; have hfz19_1 := blk_frozen BK53004.out 1; have hcz20_0 : w15.cell? ⟨gb53001, 0, none⟩ = some (.int .i64 a0_0) := (blk_cell BK53001.out 0).trans rfl; have hcz20_1 : w15.cell? ⟨gb53001, 1, none⟩ = some (.int .i64 a0_1) := (blk_cell BK53001.out 1).trans rfl; have hfz20_0 := blk_frozen BK53001.out 0; have hfz20_1 := blk_frozen BK53001.out 1) | ((with_reducible refine gate_callee (f := 69) rfl ?_); refine goesL_ (some 18) rfl rfl Try.func69 (by kernel_rfl) rfl #[.agg #[.int .i64 a0_0, .int .i64 a0_1]] rfl la_ ?_; (with_reducible refine (span_empty.calls a0_0 a0_1 true _ A5.out).mono ?_); rintro e w21 ⟨rfl, hb⟩; refine ⟨_, rfl, ?_⟩; have n0_ := Aside0.mk (blk_below (g := gb53001) (o := .cells #[.int .i64 a0_0, .int .i64 a0_1] 49 (0, 0)) (by (with_reducible repeat (first | refine blk_drewN ?_ _ | refine blk_drew ?_ | refine blk_alloc ?_ _)); refine blk_far ?_ NB53001_53004.out _; (with_reducible repeat (first | refine blk_drewN ?_ _ | refine blk_drew ?_ | refine blk_alloc ?_ _)); refine blk_far ?_ NB53001_53004.out _; (with_reducible repeat (first | refine blk_drewN ?_ _ | refine blk_drew ?_ | refine blk_alloc ?_ _)); exact BK53001.out) hb); have n1_ := Aside0.mk (blk_below (g := gb53002) (o := .cells #[.int .i64 a1_0, .int .i64 a1_1] 49 (0, 0)) (by (with_reducible repeat (first | refine blk_drewN ?_ _ | refine blk_drew ?_ | refine blk_alloc ?_ _)); refine blk_far ?_ NB53002_53004.out _; (with_reducible repeat (first | refine blk_drewN ?_ _ | refine blk_drew ?_ | refine blk_alloc ?_ _)); refine blk_far ?_ NB53002_53004.out _; (with_reducible repeat (first | refine blk_drewN ?_ _ | refine blk_drew ?_ | refine blk_alloc ?_ _)); exact BK53002.out) hb); have n2_ := Aside0.mk (blk_below (g := gb53003) (o := .cells #[.int .i64 0, .int .i64 0] 49 (0, 0)) (by (with_reducible repeat (first | refine blk_drewN ?_ _ | refine blk_drew ?_ | refine blk_alloc ?_ _)); refine blk_far ?_ NB53003_53004.out _; (with_reducible repeat (first | refine blk_drewN ?_ _ | refine blk_drew ?_ | refine blk_alloc ?_ _)); refine blk_far ?_ NB53003_53004.out _; (with_reducible repeat (first | refine blk_drewN ?_ _ | refine blk_drew ?_ | refine blk_alloc ?_ _)); exact BK53003.out) hb); have n3_ := Aside0.mk (blk_below (g := gb53004) (o := .cells #[.int .i64 ji3, .int .i64 ji4] 49 (0, 0)) (by (with_reducible repeat (first | refine blk_drewN ?_ _ | refine blk_drew ?_ | refine blk_alloc ?_ _)); refine blk_put (cs := #[.int .i64 ji3, .int .i64 0]) ?_ 1 _ rfl; (with_reducible repeat (first | refine blk_drewN ?_ _ | refine blk_drew ?_ | refine blk_alloc ?_ _)); refine blk_put (cs := #[.int .i64 0, .int .i64 0]) ?_ 0 _ rfl; (with_reducible repeat (first | refine blk_drewN ?_ _ | refine blk_drew ?_ | refine blk_alloc ?_ _)); exact BK53004.out) hb); have n4_ := Aside0.mk (bs_ hb); clear BK53001 BK53002 BK53003 BK53004 HB; have BK53001 := n0_; have BK53002 := n1_; have BK53003 := n2_; have BK53004 := n3_; have HB := n4_; clear n0_ n1_ n2_ n3_ n4_; (try clear hb); (try clear hb2); (try clear hk); (try clear hi); have hcz22_0 : w21.cell? ⟨gb53003, 0, none⟩ = some (.int .i64 0) := (blk_cell BK53003.out 0).trans rfl; have hcz22_1 : w21.cell? ⟨gb53003, 1, none⟩ = some (.int .i64 0) := (blk_cell BK53003.out 1).trans rfl; have hfz22_0 := blk_frozen BK53003.out 0; have hfz22_1 := blk_frozen BK53003.out 1))
  refine bodyPost_ret (results_cell_row rfl _ _ gb53003 49 #[.int .i64 0, .int .i64 0] (0, 0) _ rfl (by (with_reducible repeat (first | refine blk_drewN ?_ _ | refine blk_drew ?_ | refine blk_alloc ?_ _)); refine blk_put (cs := #[.int .i64 0, .int .i64 0]) ?_ 1 _ rfl; (with_reducible repeat (first | refine blk_drewN ?_ _ | refine blk_drew ?_ | refine blk_alloc ?_ _)); refine blk_put (cs := #[.int .i64 0, .int .i64 0]) ?_ 0 _ rfl; (with_reducible repeat (first | refine blk_drewN ?_ _ | refine blk_drew ?_ | refine blk_alloc ?_ _)); exact BK53003.out) Try.underlying49 rfl (by kernel_rfl)) rfl ?_
  exact ⟨by first | rfl | (simp [errW_none, errW_some] <;> rfl) | (simp only [← hji3, ← hji4]; first | rfl | (simp [errW_none, errW_some] <;> rfl)) | (simp [*, errW_none, errW_some] <;> rfl), be_⟩
 ·replace c6 := Bool.eq_false_iff.mpr c6
  subst c6
  have H1 : ((span_empty.f a1_0 a1_1).bind fun t53006 => (if t53006 = true then (some (0, 0)) else ((span_empty.f (ji3) (ji4)).bind fun t53007 => (if t53007 = true then (some (0, 0)) else (some (ji3, ji4)))))) = some (r1, r2) := by rw [if_neg (show ¬ (false = true) by decide)] at H; exact H
  clear H
  have H := H1
  clear H1
  replace H := Option.bind_eq_some_iff.mp H
  obtain ⟨t53006, A230, H⟩ := H
  replace H : (if t53006 = true then (some (0, 0)) else ((span_empty.f (ji3) (ji4)).bind fun t53007 => (if t53007 = true then (some (0, 0)) else (some (ji3, ji4))))) = some (r1, r2) := H
  have A23 := Aside0.mk A230
  clear A230
  by_cases c24 : t53006 = true
  ·subst c24
   have H1 : (some (0, 0)) = some (r1, r2) := by rw [if_pos rfl] at H; exact H
   clear H
   have H := H1
   clear H1
   simp only [Option.some.injEq, Prod.mk.injEq] at H
   obtain ⟨rfl, rfl⟩ := H
   go_enter Try.func53, Try.ntmps53
   go_wp2_with (first | ((with_reducible refine gate_dst (N := 2) rfl ?_); refine box_event ?hg (N := 2) ?hd (cs := #[.int .i64 a0_0, .int .i64 a0_1]) (t := 49) ?hr ?_; (case hd => rfl); (case hg => rfl); (case hr => first | (go_simp; done) | (go_simp; rfl)); intro gb53001 hg w25 hbox hb; have n0_ := Aside0.mk (bs_ hb); have n1_ := Aside0.mk (hbox); have n2_ := Aside0.mk ((by rw [hg]; exact bz_ : w.heap.size ≤ gb53001)); have n3_ := Aside0.mk ((by rw [hg]; exact bz_ : w.heap.size ≤ gb53001)); clear HB; have HB := n0_; have BK53001 := n1_; have GW53001 := n2_; have GE53001 := n3_; clear n0_ n1_ n2_ n3_; clear hb hbox hg) | ((with_reducible refine gate_dst (N := 3) rfl ?_); refine box_event ?hg (N := 3) ?hd (cs := #[.int .i64 a1_0, .int .i64 a1_1]) (t := 49) ?hr ?_; (case hd => rfl); (case hg => rfl); (case hr => first | (go_simp; done) | (go_simp; rfl)); intro gb53002 hg w26 hbox hb; have n0_ := Aside0.mk (blk_below (g := gb53001) (o := .cells #[.int .i64 a0_0, .int .i64 a0_1] 49 (0, 0)) (fb_ BK53001.out) hb); have n1_ := Aside0.mk (bs_ hb); have n2_ := Aside0.mk (hbox); have n3_ := Aside0.mk ((by rw [hg]; exact bz_ : w.heap.size ≤ gb53002)); have n4_ := Aside0.mk ((by rw [hg]; exact bz_ : w.heap.size ≤ gb53002)); have n5_ := Aside0.mk ((by rw [hg]; exact Nat.ne_of_lt (blk_lt (g := gb53001) (o := .cells #[.int .i64 a0_0, .int .i64 a0_1] 49 (0, 0)) (fb_ BK53001.out)) : gb53001 ≠ gb53002)); have n6_ := Aside0.mk ((by rw [hg]; exact Nat.ne_of_gt (blk_lt (g := gb53001) (o := .cells #[.int .i64 a0_0, .int .i64 a0_1] 49 (0, 0)) (fb_ BK53001.out)) : gb53002 ≠ gb53001)); clear BK53001 HB; have BK53001 := n0_; have HB := n1_; have BK53002 := n2_; have GW53002 := n3_; have GE53002 := n4_; have NB53001_53002 := n5_; have NB53002_53001 := n6_; clear n0_ n1_ n2_ n3_ n4_ n5_ n6_; clear hb hbox hg) | ((with_reducible refine gate_dst (N := 4) rfl ?_); refine box_event ?hg (N := 4) ?hd (cs := #[.int .i64 0, .int .i64 0]) (t := 49) ?hr ?_; (case hd => rfl); (case hg => rfl); (case hr => first | (go_simp; done) | (go_simp; rfl)); intro gb53003 hg w27 hbox hb; have n0_ := Aside0.mk (blk_below (g := gb53001) (o := .cells #[.int .i64 a0_0, .int .i64 a0_1] 49 (0, 0)) (fb_ BK53001.out) hb); have n1_ := Aside0.mk (blk_below (g := gb53002) (o := .cells #[.int .i64 a1_0, .int .i64 a1_1] 49 (0, 0)) (fb_ BK53002.out) hb); have n2_ := Aside0.mk (bs_ hb); have n3_ := Aside0.mk (hbox); have n4_ := Aside0.mk ((by rw [hg]; exact bz_ : w.heap.size ≤ gb53003)); have n5_ := Aside0.mk ((by rw [hg]; exact bz_ : w.heap.size ≤ gb53003)); have n6_ := Aside0.mk ((by rw [hg]; exact Nat.ne_of_lt (blk_lt (g := gb53001) (o := .cells #[.int .i64 a0_0, .int .i64 a0_1] 49 (0, 0)) (fb_ BK53001.out)) : gb53001 ≠ gb53003)); have n7_ := Aside0.mk ((by rw [hg]; exact Nat.ne_of_gt (blk_lt (g := gb53001) (o := .cells #[.int .i64 a0_0, .int .i64 a0_1] 49 (0, 0)) (fb_ BK53001.out)) : gb53003 ≠ gb53001)); have n8_ := Aside0.mk ((by rw [hg]; exact Nat.ne_of_lt (blk_lt (g := gb53002) (o := .cells #[.int .i64 a1_0, .int .i64 a1_1] 49 (0, 0)) (fb_ BK53002.out)) : gb53002 ≠ gb53003)); have n9_ := Aside0.mk ((by rw [hg]; exact Nat.ne_of_gt (blk_lt (g := gb53002) (o := .cells #[.int .i64 a1_0, .int .i64 a1_1] 49 (0, 0)) (fb_ BK53002.out)) : gb53003 ≠ gb53002)); clear BK53001 BK53002 HB; have BK53001 := n0_; have BK53002 := n1_; have HB := n2_; have BK53003 := n3_; have GW53003 := n4_; have GE53003 := n5_; have NB53001_53003 := n6_; have NB53003_53001 := n7_; have NB53002_53003 := n8_; have NB53003_53002 := n9_; clear n0_ n1_ n2_ n3_ n4_ n5_ n6_ n7_ n8_ n9_ hb hbox hg; have hnb28 := NB53001_53002.out; have hnc28 := NB53002_53001.out; have hnb29 := NB53001_53003.out; have hnc29 := NB53003_53001.out; have hcz30_0 : w27.cell? ⟨gb53001, 0, none⟩ = some (.int .i64 a0_0) := (blk_cell BK53001.out 0).trans rfl; have hcz30_1 : w27.cell? ⟨gb53001, 1, none⟩ = some (.int .i64 a0_1) := (blk_cell BK53001.out 1).trans rfl; have hfz30_0 := blk_frozen BK53001.out 0; have hfz30_1 := blk_frozen BK53001.out 1; have hnb31 := NB53002_53003.out; have hnc31 := NB53003_53002.out; have hcz32_0 : w27.cell? ⟨gb53002, 0, none⟩ = some (.int .i64 a1_0) := (blk_cell BK53002.out 0).trans rfl; have hcz32_1 : w27.cell? ⟨gb53002, 1, none⟩ = some (.int .i64 a1_1) := (blk_cell BK53002.out 1).trans rfl; have hfz32_0 := blk_frozen BK53002.out 0; have hfz32_1 := blk_frozen BK53002.out 1) | ((with_reducible refine gate_dst (N := 5) rfl ?_); refine box_event ?hg (N := 5) ?hd (cs := #[.int .i64 0, .int .i64 0]) (t := 49) ?hr ?_; (case hd => rfl); (case hg => rfl); (case hr => first | (go_simp; done) | (go_simp; rfl)); intro gb53004 hg w33 hbox hb; have n0_ := Aside0.mk (blk_below (g := gb53001) (o := .cells #[.int .i64 a0_0, .int .i64 a0_1] 49 (0, 0)) (fb_ BK53001.out) hb); have n1_ := Aside0.mk (blk_below (g := gb53002) (o := .cells #[.int .i64 a1_0, .int .i64 a1_1] 49 (0, 0)) (fb_ BK53002.out) hb); have n2_ := Aside0.mk (blk_below (g := gb53003) (o := .cells #[.int .i64 0, .int .i64 0] 49 (0, 0)) (fb_ BK53003.out) hb); have n3_ := Aside0.mk (bs_ hb); have n4_ := Aside0.mk (hbox); have n5_ := Aside0.mk ((by rw [hg]; exact bz_ : w.heap.size ≤ gb53004)); have n6_ := Aside0.mk ((by rw [hg]; exact bz_ : w.heap.size ≤ gb53004)); have n7_ := Aside0.mk ((by rw [hg]; exact Nat.ne_of_lt (blk_lt (g := gb53001) (o := .cells #[.int .i64 a0_0, .int .i64 a0_1] 49 (0, 0)) (fb_ BK53001.out)) : gb53001 ≠ gb53004)); have n8_ := Aside0.mk ((by rw [hg]; exact Nat.ne_of_gt (blk_lt (g := gb53001) (o := .cells #[.int .i64 a0_0, .int .i64 a0_1] 49 (0, 0)) (fb_ BK53001.out)) : gb53004 ≠ gb53001)); have n9_ := Aside0.mk ((by rw [hg]; exact Nat.ne_of_lt (blk_lt (g := gb53002) (o := .cells #[.int .i64 a1_0, .int .i64 a1_1] 49 (0, 0)) (fb_ BK53002.out)) : gb53002 ≠ gb53004)); have n10_ := Aside0.mk ((by rw [hg]; exact Nat.ne_of_gt (blk_lt (g := gb53002) (o := .cells #[.int .i64 a1_0, .int .i64 a1_1] 49 (0, 0)) (fb_ BK53002.out)) : gb53004 ≠ gb53002)); have n11_ := Aside0.mk ((by rw [hg]; exact Nat.ne_of_lt (blk_lt (g := gb53003) (o := .cells #[.int .i64 0, .int .i64 0] 49 (0, 0)) (fb_ BK53003.out)) : gb53003 ≠ gb53004)); have n12_ := Aside0.mk ((by rw [hg]; exact Nat.ne_of_gt (blk_lt (g := gb53003) (o := .cells #[.int .i64 0, .int .i64 0] 49 (0, 0)) (fb_ BK53003.out)) : gb53004 ≠ gb53003)); clear BK53001 BK53002 BK53003 HB; have BK53001 := n0_; have BK53002 := n1_; have BK53003 := n2_; have HB := n3_; have BK53004 := n4_; have GW53004 := n5_; have GE53004 := n6_; have NB53001_53004 := n7_; have NB53004_53001 := n8_; have NB53002_53004 := n9_; have NB53004_53002 := n10_; have NB53003_53004 := n11_; have NB53004_53003 := n12_; clear n0_ n1_ n2_ n3_ n4_ n5_ n6_ n7_ n8_ n9_ n10_ n11_ n12_ hb hbox hg; have hnb34 := NB53004_53001.out; have hnc34 := NB53001_53004.out; have hnb35 := NB53004_53002.out; have hnc35 := NB53002_53004.out; have hnb36 := NB53004_53003.out; have hnc36 := NB53003_53004.out; have hcz37_0 : w33.cell? ⟨gb53004, 0, none⟩ = some (.int .i64 0) := (blk_cell BK53004.out 0).trans rfl; have hcz37_1 : w33.cell? ⟨gb53004, 1, none⟩ = some (.int .i64 0) := (blk_cell BK53004.out 1).trans rfl; have hfz37_0 := blk_frozen BK53004.out 0; have hfz37_1 := blk_frozen BK53004.out 1; have hcz38_0 : w33.cell? ⟨gb53001, 0, none⟩ = some (.int .i64 a0_0) := (blk_cell BK53001.out 0).trans rfl; have hcz38_1 : w33.cell? ⟨gb53001, 1, none⟩ = some (.int .i64 a0_1) := (blk_cell BK53001.out 1).trans rfl; have hfz38_0 := blk_frozen BK53001.out 0; have hfz38_1 := blk_frozen BK53001.out 1) | ((with_reducible refine gate_callee (f := 69) rfl ?_); refine goesL_ (some 18) rfl rfl Try.func69 (by kernel_rfl) rfl #[.agg #[.int .i64 a0_0, .int .i64 a0_1]] rfl la_ ?_; (with_reducible refine (span_empty.calls a0_0 a0_1 false _ A5.out).mono ?_); rintro e w39 ⟨rfl, hb⟩; refine ⟨_, rfl, ?_⟩; have n0_ := Aside0.mk (blk_below (g := gb53001) (o := .cells #[.int .i64 a0_0, .int .i64 a0_1] 49 (0, 0)) (by (with_reducible repeat (first | refine blk_drewN ?_ _ | refine blk_drew ?_ | refine blk_alloc ?_ _)); refine blk_far ?_ NB53001_53004.out _; (with_reducible repeat (first | refine blk_drewN ?_ _ | refine blk_drew ?_ | refine blk_alloc ?_ _)); refine blk_far ?_ NB53001_53004.out _; (with_reducible repeat (first | refine blk_drewN ?_ _ | refine blk_drew ?_ | refine blk_alloc ?_ _)); exact BK53001.out) hb); have n1_ := Aside0.mk (blk_below (g := gb53002) (o := .cells #[.int .i64 a1_0, .int .i64 a1_1] 49 (0, 0)) (by (with_reducible repeat (first | refine blk_drewN ?_ _ | refine blk_drew ?_ | refine blk_alloc ?_ _)); refine blk_far ?_ NB53002_53004.out _; (with_reducible repeat (first | refine blk_drewN ?_ _ | refine blk_drew ?_ | refine blk_alloc ?_ _)); refine blk_far ?_ NB53002_53004.out _; (with_reducible repeat (first | refine blk_drewN ?_ _ | refine blk_drew ?_ | refine blk_alloc ?_ _)); exact BK53002.out) hb); have n2_ := Aside0.mk (blk_below (g := gb53003) (o := .cells #[.int .i64 0, .int .i64 0] 49 (0, 0)) (by (with_reducible repeat (first | refine blk_drewN ?_ _ | refine blk_drew ?_ | refine blk_alloc ?_ _)); refine blk_far ?_ NB53003_53004.out _; (with_reducible repeat (first | refine blk_drewN ?_ _ | refine blk_drew ?_ | refine blk_alloc ?_ _)); refine blk_far ?_ NB53003_53004.out _; (with_reducible repeat (first | refine blk_drewN ?_ _ | refine blk_drew ?_ | refine blk_alloc ?_ _)); exact BK53003.out) hb); have n3_ := Aside0.mk (blk_below (g := gb53004) (o := .cells #[.int .i64 ji3, .int .i64 ji4] 49 (0, 0)) (by (with_reducible repeat (first | refine blk_drewN ?_ _ | refine blk_drew ?_ | refine blk_alloc ?_ _)); refine blk_put (cs := #[.int .i64 ji3, .int .i64 0]) ?_ 1 _ rfl; (with_reducible repeat (first | refine blk_drewN ?_ _ | refine blk_drew ?_ | refine blk_alloc ?_ _)); refine blk_put (cs := #[.int .i64 0, .int .i64 0]) ?_ 0 _ rfl; (with_reducible repeat (first | refine blk_drewN ?_ _ | refine blk_drew ?_ | refine blk_alloc ?_ _)); exact BK53004.out) hb); have n4_ := Aside0.mk (bs_ hb); clear BK53001 BK53002 BK53003 BK53004 HB; have BK53001 := n0_; have BK53002 := n1_; have BK53003 := n2_; have BK53004 := n3_; have HB := n4_; clear n0_ n1_ n2_ n3_ n4_; (try clear hb); (try clear hb2); (try clear hk); (try clear hi); have hcz40_0 : w39.cell? ⟨gb53002, 0, none⟩ = some (.int .i64 a1_0) := (blk_cell BK53002.out 0).trans rfl; have hcz40_1 : w39.cell? ⟨gb53002, 1, none⟩ = some (.int .i64 a1_1) := (blk_cell BK53002.out 1).trans rfl; have hfz40_0 := blk_frozen BK53002.out 0; have hfz40_1 := blk_frozen BK53002.out 1) | (go_at_call 69; (with_reducible refine (span_empty.calls a1_0 a1_1 true _ A23.out).mono ?_); rintro e w41 ⟨rfl, hb⟩; have n0_ := Aside0.mk (blk_below (g := gb53001) (o := .cells #[.int .i64 a0_0, .int .i64 a0_1] 49 (0, 0)) (fb_ BK53001.out) hb); have n1_ := Aside0.mk (blk_below (g := gb53002) (o := .cells #[.int .i64 a1_0, .int .i64 a1_1] 49 (0, 0)) (fb_ BK53002.out) hb); have n2_ := Aside0.mk (blk_below (g := gb53003) (o := .cells #[.int .i64 0, .int .i64 0] 49 (0, 0)) (fb_ BK53003.out) hb); have n3_ := Aside0.mk (blk_below (g := gb53004) (o := .cells #[.int .i64 ji3, .int .i64 ji4] 49 (0, 0)) (fb_ BK53004.out) hb); have n4_ := Aside0.mk (bs_ hb); clear BK53001 BK53002 BK53003 BK53004 HB; have BK53001 := n0_; have BK53002 := n1_; have BK53003 := n2_; have BK53004 := n3_; have HB := n4_; clear n0_ n1_ n2_ n3_ n4_; (try clear hb); (try clear hb2); (try clear hk); (try clear hi); have hcz42_0 : w41.cell? ⟨gb53003, 0, none⟩ = some (.int .i64 0) := (blk_cell BK53003.out 0).trans rfl; have hcz42_1 : w41.cell? ⟨gb53003, 1, none⟩ = some (.int .i64 0) := (blk_cell BK53003.out 1).trans rfl; have hfz42_0 := blk_frozen BK53003.out 0; have hfz42_1 := blk_frozen BK53003.out 1))
   refine bodyPost_ret (results_cell_row rfl _ _ gb53003 49 #[.int .i64 0, .int .i64 0] (0, 0) _ rfl (by (with_reducible repeat (first | refine blk_drewN ?_ _ | refine blk_drew ?_ | refine blk_alloc ?_ _)); refine blk_put (cs := #[.int .i64 0, .int .i64 0]) ?_ 1 _ rfl; (with_reducible repeat (first | refine blk_drewN ?_ _ | refine blk_drew ?_ | refine blk_alloc ?_ _)); refine blk_put (cs := #[.int .i64 0, .int .i64 0]) ?_ 0 _ rfl; (with_reducible repeat (first | refine blk_drewN ?_ _ | refine blk_drew ?_ | refine blk_alloc ?_ _)); exact BK53003.out) Try.underlying49 rfl (by kernel_rfl)) rfl ?_
   exact ⟨by first | rfl | (simp [errW_none, errW_some] <;> rfl) | (simp only [← hji3, ← hji4]; first | rfl | (simp [errW_none, errW_some] <;> rfl)) | (simp [*, errW_none, errW_some] <;> rfl), be_⟩
  ·replace c24 := Bool.eq_false_iff.mpr c24
   subst c24
   have H1 : ((span_empty.f (ji3) (ji4)).bind fun t53007 => (if t53007 = true then (some (0, 0)) else (some (ji3, ji4)))) = some (r1, r2) := by rw [if_neg (show ¬ (false = true) by decide)] at H; exact H
   clear H
   have H := H1
   clear H1
   replace H := Option.bind_eq_some_iff.mp H
   obtain ⟨t53007, A430, H⟩ := H
   replace H : (if t53007 = true then (some (0, 0)) else (some (ji3, ji4))) = some (r1, r2) := H
   have A43 := Aside0.mk A430
   clear A430
   by_cases c44 : t53007 = true
   ·subst c44
    have H1 : (some (0, 0)) = some (r1, r2) := by rw [if_pos rfl] at H; exact H
    clear H
    have H := H1
    clear H1
    simp only [Option.some.injEq, Prod.mk.injEq] at H
    obtain ⟨rfl, rfl⟩ := H
    go_enter Try.func53, Try.ntmps53
    go_wp2_with (first | ((with_reducible refine gate_dst (N := 2) rfl ?_); refine box_event ?hg (N := 2) ?hd (cs := #[.int .i64 a0_0, .int .i64 a0_1]) (t := 49) ?hr ?_; (case hd => rfl); (case hg => rfl); (case hr => first | (go_simp; done) | (go_simp; rfl)); intro gb53001 hg w45 hbox hb; have n0_ := Aside0.mk (bs_ hb); have n1_ := Aside0.mk (hbox); have n2_ := Aside0.mk ((by rw [hg]; exact bz_ : w.heap.size ≤ gb53001)); have n3_ := Aside0.mk ((by rw [hg]; exact bz_ : w.heap.size ≤ gb53001)); clear HB; have HB := n0_; have BK53001 := n1_; have GW53001 := n2_; have GE53001 := n3_; clear n0_ n1_ n2_ n3_; clear hb hbox hg) | ((with_reducible refine gate_dst (N := 3) rfl ?_); refine box_event ?hg (N := 3) ?hd (cs := #[.int .i64 a1_0, .int .i64 a1_1]) (t := 49) ?hr ?_; (case hd => rfl); (case hg => rfl); (case hr => first | (go_simp; done) | (go_simp; rfl)); intro gb53002 hg w46 hbox hb; have n0_ := Aside0.mk (blk_below (g := gb53001) (o := .cells #[.int .i64 a0_0, .int .i64 a0_1] 49 (0, 0)) (fb_ BK53001.out) hb); have n1_ := Aside0.mk (bs_ hb); have n2_ := Aside0.mk (hbox); have n3_ := Aside0.mk ((by rw [hg]; exact bz_ : w.heap.size ≤ gb53002)); have n4_ := Aside0.mk ((by rw [hg]; exact bz_ : w.heap.size ≤ gb53002)); have n5_ := Aside0.mk ((by rw [hg]; exact Nat.ne_of_lt (blk_lt (g := gb53001) (o := .cells #[.int .i64 a0_0, .int .i64 a0_1] 49 (0, 0)) (fb_ BK53001.out)) : gb53001 ≠ gb53002)); have n6_ := Aside0.mk ((by rw [hg]; exact Nat.ne_of_gt (blk_lt (g := gb53001) (o := .cells #[.int .i64 a0_0, .int .i64 a0_1] 49 (0, 0)) (fb_ BK53001.out)) : gb53002 ≠ gb53001)); clear BK53001 HB; have BK53001 := n0_; have HB := n1_; have BK53002 := n2_; have GW53002 := n3_; have GE53002 := n4_; have NB53001_53002 := n5_; have NB53002_53001 := n6_; clear n0_ n1_ n2_ n3_ n4_ n5_ n6_; clear hb hbox hg) | ((with_reducible refine gate_dst (N := 4) rfl ?_); refine box_event ?hg (N := 4) ?hd (cs := #[.int .i64 0, .int .i64 0]) (t := 49) ?hr ?_; (case hd => rfl); (case hg => rfl); (case hr => first | (go_simp; done) | (go_simp; rfl)); intro gb53003 hg w47 hbox hb; have n0_ := Aside0.mk (blk_below (g := gb53001) (o := .cells #[.int .i64 a0_0, .int .i64 a0_1] 49 (0, 0)) (fb_ BK53001.out) hb); have n1_ := Aside0.mk (blk_below (g := gb53002) (o := .cells #[.int .i64 a1_0, .int .i64 a1_1] 49 (0, 0)) (fb_ BK53002.out) hb); have n2_ := Aside0.mk (bs_ hb); have n3_ := Aside0.mk (hbox); have n4_ := Aside0.mk ((by rw [hg]; exact bz_ : w.heap.size ≤ gb53003)); have n5_ := Aside0.mk ((by rw [hg]; exact bz_ : w.heap.size ≤ gb53003)); have n6_ := Aside0.mk ((by rw [hg]; exact Nat.ne_of_lt (blk_lt (g := gb53001) (o := .cells #[.int .i64 a0_0, .int .i64 a0_1] 49 (0, 0)) (fb_ BK53001.out)) : gb53001 ≠ gb53003)); have n7_ := Aside0.mk ((by rw [hg]; exact Nat.ne_of_gt (blk_lt (g := gb53001) (o := .cells #[.int .i64 a0_0, .int .i64 a0_1] 49 (0, 0)) (fb_ BK53001.out)) : gb53003 ≠ gb53001)); have n8_ := Aside0.mk ((by rw [hg]; exact Nat.ne_of_lt (blk_lt (g := gb53002) (o := .cells #[.int .i64 a1_0, .int .i64 a1_1] 49 (0, 0)) (fb_ BK53002.out)) : gb53002 ≠ gb53003)); have n9_ := Aside0.mk ((by rw [hg]; exact Nat.ne_of_gt (blk_lt (g := gb53002) (o := .cells #[.int .i64 a1_0, .int .i64 a1_1] 49 (0, 0)) (fb_ BK53002.out)) : gb53003 ≠ gb53002)); clear BK53001 BK53002 HB; have BK53001 := n0_; have BK53002 := n1_; have HB := n2_; have BK53003 := n3_; have GW53003 := n4_; have GE53003 := n5_; have NB53001_53003 := n6_; have NB53003_53001 := n7_; have NB53002_53003 := n8_; have NB53003_53002 := n9_; clear n0_ n1_ n2_ n3_ n4_ n5_ n6_ n7_ n8_ n9_ hb hbox hg; have hnb48 := NB53001_53002.out; have hnc48 := NB53002_53001.out; have hnb49 := NB53001_53003.out; have hnc49 := NB53003_53001.out; have hcz50_0 : w47.cell? ⟨gb53001, 0, none⟩ = some (.int .i64 a0_0) := (blk_cell BK53001.out 0).trans rfl; have hcz50_1 : w47.cell? ⟨gb53001, 1, none⟩ = some (.int .i64 a0_1) := (blk_cell BK53001.out 1).trans rfl; have hfz50_0 := blk_frozen BK53001.out 0; have hfz50_1 := blk_frozen BK53001.out 1; have hnb51 := NB53002_53003.out; have hnc51 := NB53003_53002.out; have hcz52_0 : w47.cell? ⟨gb53002, 0, none⟩ = some (.int .i64 a1_0) := (blk_cell BK53002.out 0).trans rfl; have hcz52_1 : w47.cell? ⟨gb53002, 1, none⟩ = some (.int .i64 a1_1) := (blk_cell BK53002.out 1).trans rfl; have hfz52_0 := blk_frozen BK53002.out 0; have hfz52_1 := blk_frozen BK53002.out 1) | ((with_reducible refine gate_dst (N := 5) rfl ?_); refine box_event ?hg (N := 5) ?hd (cs := #[.int .i64 0, .int .i64 0]) (t := 49) ?hr ?_; (case hd => rfl); (case hg => rfl); (case hr => first | (go_simp; done) | (go_simp; rfl)); intro gb53004 hg w53 hbox hb; have n0_ := Aside0.mk (blk_below (g := gb53001) (o := .cells #[.int .i64 a0_0, .int .i64 a0_1] 49 (0, 0)) (fb_ BK53001.out) hb); have n1_ := Aside0.mk (blk_below (g := gb53002) (o := .cells #[.int .i64 a1_0, .int .i64 a1_1] 49 (0, 0)) (fb_ BK53002.out) hb); have n2_ := Aside0.mk (blk_below (g := gb53003) (o := .cells #[.int .i64 0, .int .i64 0] 49 (0, 0)) (fb_ BK53003.out) hb); have n3_ := Aside0.mk (bs_ hb); have n4_ := Aside0.mk (hbox); have n5_ := Aside0.mk ((by rw [hg]; exact bz_ : w.heap.size ≤ gb53004)); have n6_ := Aside0.mk ((by rw [hg]; exact bz_ : w.heap.size ≤ gb53004)); have n7_ := Aside0.mk ((by rw [hg]; exact Nat.ne_of_lt (blk_lt (g := gb53001) (o := .cells #[.int .i64 a0_0, .int .i64 a0_1] 49 (0, 0)) (fb_ BK53001.out)) : gb53001 ≠ gb53004)); have n8_ := Aside0.mk ((by rw [hg]; exact Nat.ne_of_gt (blk_lt (g := gb53001) (o := .cells #[.int .i64 a0_0, .int .i64 a0_1] 49 (0, 0)) (fb_ BK53001.out)) : gb53004 ≠ gb53001)); have n9_ := Aside0.mk ((by rw [hg]; exact Nat.ne_of_lt (blk_lt (g := gb53002) (o := .cells #[.int .i64 a1_0, .int .i64 a1_1] 49 (0, 0)) (fb_ BK53002.out)) : gb53002 ≠ gb53004)); have n10_ := Aside0.mk ((by rw [hg]; exact Nat.ne_of_gt (blk_lt (g := gb53002) (o := .cells #[.int .i64 a1_0, .int .i64 a1_1] 49 (0, 0)) (fb_ BK53002.out)) : gb53004 ≠ gb53002)); have n11_ := Aside0.mk ((by rw [hg]; exact Nat.ne_of_lt (blk_lt (g := gb53003) (o := .cells #[.int .i64 0, .int .i64 0] 49 (0, 0)) (fb_ BK53003.out)) : gb53003 ≠ gb53004)); have n12_ := Aside0.mk ((by rw [hg]; exact Nat.ne_of_gt (blk_lt (g := gb53003) (o := .cells #[.int .i64 0, .int .i64 0] 49 (0, 0)) (fb_ BK53003.out)) : gb53004 ≠ gb53003)); clear BK53001 BK53002 BK53003 HB; have BK53001 := n0_; have BK53002 := n1_; have BK53003 := n2_; have HB := n3_; have BK53004 := n4_; have GW53004 := n5_; have GE53004 := n6_; have NB53001_53004 := n7_; have NB53004_53001 := n8_; have NB53002_53004 := n9_; have NB53004_53002 := n10_; have NB53003_53004 := n11_; have NB53004_53003 := n12_; clear n0_ n1_ n2_ n3_ n4_ n5_ n6_ n7_ n8_ n9_ n10_ n11_ n12_ hb hbox hg; have hnb54 := NB53004_53001.out; have hnc54 := NB53001_53004.out; have hnb55 := NB53004_53002.out; have hnc55 := NB53002_53004.out; have hnb56 := NB53004_53003.out; have hnc56 := NB53003_53004.out; have hcz57_0 : w53.cell? ⟨gb53004, 0, none⟩ = some (.int .i64 0) := (blk_cell BK53004.out 0).trans rfl; have hcz57_1 : w53.cell? ⟨gb53004, 1, none⟩ = some (.int .i64 0) := (blk_cell BK53004.out 1).trans rfl; have hfz57_0 := blk_frozen BK53004.out 0; have hfz57_1 := blk_frozen BK53004.out 1; have hcz58_0 : w53.cell? ⟨gb53001, 0, none⟩ = some (.int .i64 a0_0) := (blk_cell BK53001.out 0).trans rfl; have hcz58_1 : w53.cell? ⟨gb53001, 1, none⟩ = some (.int .i64 a0_1) := (blk_cell BK53001.out 1).trans rfl; have hfz58_0 := blk_frozen BK53001.out 0; have hfz58_1 := blk_frozen BK53001.out 1) | ((with_reducible refine gate_callee (f := 69) rfl ?_); refine goesL_ (some 18) rfl rfl Try.func69 (by kernel_rfl) rfl #[.agg #[.int .i64 a0_0, .int .i64 a0_1]] rfl la_ ?_; (with_reducible refine (span_empty.calls a0_0 a0_1 false _ A5.out).mono ?_); rintro e w59 ⟨rfl, hb⟩; refine ⟨_, rfl, ?_⟩; have n0_ := Aside0.mk (blk_below (g := gb53001) (o := .cells #[.int .i64 a0_0, .int .i64 a0_1] 49 (0, 0)) (by (with_reducible repeat (first | refine blk_drewN ?_ _ | refine blk_drew ?_ | refine blk_alloc ?_ _)); refine blk_far ?_ NB53001_53004.out _; (with_reducible repeat (first | refine blk_drewN ?_ _ | refine blk_drew ?_ | refine blk_alloc ?_ _)); refine blk_far ?_ NB53001_53004.out _; (with_reducible repeat (first | refine blk_drewN ?_ _ | refine blk_drew ?_ | refine blk_alloc ?_ _)); exact BK53001.out) hb); have n1_ := Aside0.mk (blk_below (g := gb53002) (o := .cells #[.int .i64 a1_0, .int .i64 a1_1] 49 (0, 0)) (by (with_reducible repeat (first | refine blk_drewN ?_ _ | refine blk_drew ?_ | refine blk_alloc ?_ _)); refine blk_far ?_ NB53002_53004.out _; (with_reducible repeat (first | refine blk_drewN ?_ _ | refine blk_drew ?_ | refine blk_alloc ?_ _)); refine blk_far ?_ NB53002_53004.out _; (with_reducible repeat (first | refine blk_drewN ?_ _ | refine blk_drew ?_ | refine blk_alloc ?_ _)); exact BK53002.out) hb); have n2_ := Aside0.mk (blk_below (g := gb53003) (o := .cells #[.int .i64 0, .int .i64 0] 49 (0, 0)) (by (with_reducible repeat (first | refine blk_drewN ?_ _ | refine blk_drew ?_ | refine blk_alloc ?_ _)); refine blk_far ?_ NB53003_53004.out _; (with_reducible repeat (first | refine blk_drewN ?_ _ | refine blk_drew ?_ | refine blk_alloc ?_ _)); refine blk_far ?_ NB53003_53004.out _; (with_reducible repeat (first | refine blk_drewN ?_ _ | refine blk_drew ?_ | refine blk_alloc ?_ _)); exact BK53003.out) hb); have n3_ := Aside0.mk (blk_below (g := gb53004) (o := .cells #[.int .i64 ji3, .int .i64 ji4] 49 (0, 0)) (by (with_reducible repeat (first | refine blk_drewN ?_ _ | refine blk_drew ?_ | refine blk_alloc ?_ _)); refine blk_put (cs := #[.int .i64 ji3, .int .i64 0]) ?_ 1 _ rfl; (with_reducible repeat (first | refine blk_drewN ?_ _ | refine blk_drew ?_ | refine blk_alloc ?_ _)); refine blk_put (cs := #[.int .i64 0, .int .i64 0]) ?_ 0 _ rfl; (with_reducible repeat (first | refine blk_drewN ?_ _ | refine blk_drew ?_ | refine blk_alloc ?_ _)); exact BK53004.out) hb); have n4_ := Aside0.mk (bs_ hb); clear BK53001 BK53002 BK53003 BK53004 HB; have BK53001 := n0_; have BK53002 := n1_; have BK53003 := n2_; have BK53004 := n3_; have HB := n4_; clear n0_ n1_ n2_ n3_ n4_; (try clear hb); (try clear hb2); (try clear hk); (try clear hi); have hcz60_0 : w59.cell? ⟨gb53002, 0, none⟩ = some (.int .i64 a1_0) := (blk_cell BK53002.out 0).trans rfl; have hcz60_1 : w59.cell? ⟨gb53002, 1, none⟩ = some (.int .i64 a1_1) := (blk_cell BK53002.out 1).trans rfl; have hfz60_0 := blk_frozen BK53002.out 0; have hfz60_1 := blk_frozen BK53002.out 1) | (go_at_call 69; (with_reducible refine (span_empty.calls a1_0 a1_1 false _ A23.out).mono ?_); rintro e w61 ⟨rfl, hb⟩; have n0_ := Aside0.mk (blk_below (g := gb53001) (o := .cells #[.int .i64 a0_0, .int .i64 a0_1] 49 (0, 0)) (fb_ BK53001.out) hb); have n1_ := Aside0.mk (blk_below (g := gb53002) (o := .cells #[.int .i64 a1_0, .int .i64 a1_1] 49 (0, 0)) (fb_ BK53002.out) hb); have n2_ := Aside0.mk (blk_below (g := gb53003) (o := .cells #[.int .i64 0, .int .i64 0] 49 (0, 0)) (fb_ BK53003.out) hb); have n3_ := Aside0.mk (blk_below (g := gb53004) (o := .cells #[.int .i64 ji3, .int .i64 ji4] 49 (0, 0)) (fb_ BK53004.out) hb); have n4_ := Aside0.mk (bs_ hb); clear BK53001 BK53002 BK53003 BK53004 HB; have BK53001 := n0_; have BK53002 := n1_; have BK53003 := n2_; have BK53004 := n3_; have HB := n4_; clear n0_ n1_ n2_ n3_ n4_; (try clear hb); (try clear hb2); (try clear hk); (try clear hi); have hcz62_0 : w61.cell? ⟨gb53004, 0, none⟩ = some (.int .i64 ji3) := (blk_cell BK53004.out 0).trans rfl; have hcz62_1 : w61.cell? ⟨gb53004, 1, none⟩ = some (.int .i64 ji4) := (blk_cell BK53004.out 1).trans rfl; have hfz62_0 := blk_frozen BK53004.out 0; have hfz62_1 := blk_frozen BK53004.out 1) | (go_at_call 69; (with_reducible refine (span_empty.calls ji3 ji4 true _ A43.out).mono ?_); rintro e w63 ⟨rfl, hb⟩; have n0_ := Aside0.mk (blk_below (g := gb53001) (o := .cells #[.int .i64 a0_0, .int .i64 a0_1] 49 (0, 0)) (fb_ BK53001.out) hb); have n1_ := Aside0.mk (blk_below (g := gb53002) (o := .cells #[.int .i64 a1_0, .int .i64 a1_1] 49 (0, 0)) (fb_ BK53002.out) hb); have n2_ := Aside0.mk (blk_below (g := gb53003) (o := .cells #[.int .i64 0, .int .i64 0] 49 (0, 0)) (fb_ BK53003.out) hb); have n3_ := Aside0.mk (blk_below (g := gb53004) (o := .cells #[.int .i64 ji3, .int .i64 ji4] 49 (0, 0)) (fb_ BK53004.out) hb); have n4_ := Aside0.mk (bs_ hb); clear BK53001 BK53002 BK53003 BK53004 HB; have BK53001 := n0_; have BK53002 := n1_; have BK53003 := n2_; have BK53004 := n3_; have HB := n4_; clear n0_ n1_ n2_ n3_ n4_; (try clear hb); (try clear hb2); (try clear hk); (try clear hi); have hcz64_0 : w63.cell? ⟨gb53003, 0, none⟩ = some (.int .i64 0) := (blk_cell BK53003.out 0).trans rfl; have hcz64_1 : w63.cell? ⟨gb53003, 1, none⟩ = some (.int .i64 0) := (blk_cell BK53003.out 1).trans rfl; have hfz64_0 := blk_frozen BK53003.out 0; have hfz64_1 := blk_frozen BK53003.out 1))
    refine bodyPost_ret (results_cell_row rfl _ _ gb53003 49 #[.int .i64 0, .int .i64 0] (0, 0) _ rfl (by (with_reducible repeat (first | refine blk_drewN ?_ _ | refine blk_drew ?_ | refine blk_alloc ?_ _)); refine blk_put (cs := #[.int .i64 0, .int .i64 0]) ?_ 1 _ rfl; (with_reducible repeat (first | refine blk_drewN ?_ _ | refine blk_drew ?_ | refine blk_alloc ?_ _)); refine blk_put (cs := #[.int .i64 0, .int .i64 0]) ?_ 0 _ rfl; (with_reducible repeat (first | refine blk_drewN ?_ _ | refine blk_drew ?_ | refine blk_alloc ?_ _)); exact BK53003.out) Try.underlying49 rfl (by kernel_rfl)) rfl ?_
    exact ⟨by first | rfl | (simp [errW_none, errW_some] <;> rfl) | (simp only [← hji3, ← hji4]; first | rfl | (simp [errW_none, errW_some] <;> rfl)) | (simp [*, errW_none, errW_some] <;> rfl), be_⟩
   ·replace c44 := Bool.eq_false_iff.mpr c44
    subst c44
    have H1 : (some (ji3, ji4)) = some (r1, r2) := by rw [if_neg (show ¬ (false = true) by decide)] at H; exact H
    clear H
    have H := H1
    clear H1
    simp only [Option.some.injEq, Prod.mk.injEq] at H
    obtain ⟨rfl, rfl⟩ := H
    go_enter Try.func53, Try.ntmps53
    go_wp2_with (first | ((with_reducible refine gate_dst (N := 2) rfl ?_); refine box_event ?hg (N := 2) ?hd (cs := #[.int .i64 a0_0, .int .i64 a0_1]) (t := 49) ?hr ?_; (case hd => rfl); (case hg => rfl); (case hr => first | (go_simp; done) | (go_simp; rfl)); intro gb53001 hg w65 hbox hb; have n0_ := Aside0.mk (bs_ hb); have n1_ := Aside0.mk (hbox); have n2_ := Aside0.mk ((by rw [hg]; exact bz_ : w.heap.size ≤ gb53001)); have n3_ := Aside0.mk ((by rw [hg]; exact bz_ : w.heap.size ≤ gb53001)); clear HB; have HB := n0_; have BK53001 := n1_; have GW53001 := n2_; have GE53001 := n3_; clear n0_ n1_ n2_ n3_; clear hb hbox hg) | ((with_reducible refine gate_dst (N := 3) rfl ?_); refine box_event ?hg (N := 3) ?hd (cs := #[.int .i64 a1_0, .int .i64 a1_1]) (t := 49) ?hr ?_; (case hd => rfl); (case hg => rfl); (case hr => first | (go_simp; done) | (go_simp; rfl)); intro gb53002 hg w66 hbox hb; have n0_ := Aside0.mk (blk_below (g := gb53001) (o := .cells #[.int .i64 a0_0, .int .i64 a0_1] 49 (0, 0)) (fb_ BK53001.out) hb); have n1_ := Aside0.mk (bs_ hb); have n2_ := Aside0.mk (hbox); have n3_ := Aside0.mk ((by rw [hg]; exact bz_ : w.heap.size ≤ gb53002)); have n4_ := Aside0.mk ((by rw [hg]; exact bz_ : w.heap.size ≤ gb53002)); have n5_ := Aside0.mk ((by rw [hg]; exact Nat.ne_of_lt (blk_lt (g := gb53001) (o := .cells #[.int .i64 a0_0, .int .i64 a0_1] 49 (0, 0)) (fb_ BK53001.out)) : gb53001 ≠ gb53002)); have n6_ := Aside0.mk ((by rw [hg]; exact Nat.ne_of_gt (blk_lt (g := gb53001) (o := .cells #[.int .i64 a0_0, .int .i64 a0_1] 49 (0, 0)) (fb_ BK53001.out)) : gb53002 ≠ gb53001)); clear BK53001 HB; have BK53001 := n0_; have HB := n1_; have BK53002 := n2_; have GW53002 := n3_; have GE53002 := n4_; have NB53001_53002 := n5_; have NB53002_53001 := n6_; clear n0_ n1_ n2_ n3_ n4_ n5_ n6_; clear hb hbox hg) | ((with_reducible refine gate_dst (N := 4) rfl ?_); refine box_event ?hg (N := 4) ?hd (cs := #[.int .i64 0, .int .i64 0]) (t := 49) ?hr ?_; (case hd => rfl); (case hg => rfl); (case hr => first | (go_simp; done) | (go_simp; rfl)); intro gb53003 hg w67 hbox hb; have n0_ := Aside0.mk (blk_below (g := gb53001) (o := .cells #[.int .i64 a0_0, .int .i64 a0_1] 49 (0, 0)) (fb_ BK53001.out) hb); have n1_ := Aside0.mk (blk_below (g := gb53002) (o := .cells #[.int .i64 a1_0, .int .i64 a1_1] 49 (0, 0)) (fb_ BK53002.out) hb); have n2_ := Aside0.mk (bs_ hb); have n3_ := Aside0.mk (hbox); have n4_ := Aside0.mk ((by rw [hg]; exact bz_ : w.heap.size ≤ gb53003)); have n5_ := Aside0.mk ((by rw [hg]; exact bz_ : w.heap.size ≤ gb53003)); have n6_ := Aside0.mk ((by rw [hg]; exact Nat.ne_of_lt (blk_lt (g := gb53001) (o := .cells #[.int .i64 a0_0, .int .i64 a0_1] 49 (0, 0)) (fb_ BK53001.out)) : gb53001 ≠ gb53003)); have n7_ := Aside0.mk ((by rw [hg]; exact Nat.ne_of_gt (blk_lt (g := gb53001) (o := .cells #[.int .i64 a0_0, .int .i64 a0_1] 49 (0, 0)) (fb_ BK53001.out)) : gb53003 ≠ gb53001)); have n8_ := Aside0.mk ((by rw [hg]; exact Nat.ne_of_lt (blk_lt (g := gb53002) (o := .cells #[.int .i64 a1_0, .int .i64 a1_1] 49 (0, 0)) (fb_ BK53002.out)) : gb53002 ≠ gb53003)); have n9_ := Aside0.mk ((by rw [hg]; exact Nat.ne_of_gt (blk_lt (g := gb53002) (o := .cells #[.int .i64 a1_0, .int .i64 a1_1] 49 (0, 0)) (fb_ BK53002.out)) : gb53003 ≠ gb53002)); clear BK53001 BK53002 HB; have BK53001 := n0_; have BK53002 := n1_; have HB := n2_; have BK53003 := n3_; have GW53003 := n4_; have GE53003 := n5_; have NB53001_53003 := n6_; have NB53003_53001 := n7_; have NB53002_53003 := n8_; have NB53003_53002 := n9_; clear n0_ n1_ n2_ n3_ n4_ n5_ n6_ n7_ n8_ n9_ hb hbox hg; have hnb68 := NB53001_53002.out; have hnc68 := NB53002_53001.out; have hnb69 := NB53001_53003.out; have hnc69 := NB53003_53001.out; have hcz70_0 : w67.cell? ⟨gb53001, 0, none⟩ = some (.int .i64 a0_0) := (blk_cell BK53001.out 0).trans rfl; have hcz70_1 : w67.cell? ⟨gb53001, 1, none⟩ = some (.int .i64 a0_1) := (blk_cell BK53001.out 1).trans rfl; have hfz70_0 := blk_frozen BK53001.out 0; have hfz70_1 := blk_frozen BK53001.out 1; have hnb71 := NB53002_53003.out; have hnc71 := NB53003_53002.out; have hcz72_0 : w67.cell? ⟨gb53002, 0, none⟩ = some (.int .i64 a1_0) := (blk_cell BK53002.out 0).trans rfl; have hcz72_1 : w67.cell? ⟨gb53002, 1, none⟩ = some (.int .i64 a1_1) := (blk_cell BK53002.out 1).trans rfl; have hfz72_0 := blk_frozen BK53002.out 0; have hfz72_1 := blk_frozen BK53002.out 1) | ((with_reducible refine gate_dst (N := 5) rfl ?_); refine box_event ?hg (N := 5) ?hd (cs := #[.int .i64 0, .int .i64 0]) (t := 49) ?hr ?_; (case hd => rfl); (case hg => rfl); (case hr => first | (go_simp; done) | (go_simp; rfl)); intro gb53004 hg w73 hbox hb; have n0_ := Aside0.mk (blk_below (g := gb53001) (o := .cells #[.int .i64 a0_0, .int .i64 a0_1] 49 (0, 0)) (fb_ BK53001.out) hb); have n1_ := Aside0.mk (blk_below (g := gb53002) (o := .cells #[.int .i64 a1_0, .int .i64 a1_1] 49 (0, 0)) (fb_ BK53002.out) hb); have n2_ := Aside0.mk (blk_below (g := gb53003) (o := .cells #[.int .i64 0, .int .i64 0] 49 (0, 0)) (fb_ BK53003.out) hb); have n3_ := Aside0.mk (bs_ hb); have n4_ := Aside0.mk (hbox); have n5_ := Aside0.mk ((by rw [hg]; exact bz_ : w.heap.size ≤ gb53004)); have n6_ := Aside0.mk ((by rw [hg]; exact bz_ : w.heap.size ≤ gb53004)); have n7_ := Aside0.mk ((by rw [hg]; exact Nat.ne_of_lt (blk_lt (g := gb53001) (o := .cells #[.int .i64 a0_0, .int .i64 a0_1] 49 (0, 0)) (fb_ BK53001.out)) : gb53001 ≠ gb53004)); have n8_ := Aside0.mk ((by rw [hg]; exact Nat.ne_of_gt (blk_lt (g := gb53001) (o := .cells #[.int .i64 a0_0, .int .i64 a0_1] 49 (0, 0)) (fb_ BK53001.out)) : gb53004 ≠ gb53001)); have n9_ := Aside0.mk ((by rw [hg]; exact Nat.ne_of_lt (blk_lt (g := gb53002) (o := .cells #[.int .i64 a1_0, .int .i64 a1_1] 49 (0, 0)) (fb_ BK53002.out)) : gb53002 ≠ gb53004)); have n10_ := Aside0.mk ((by rw [hg]; exact Nat.ne_of_gt (blk_lt (g := gb53002) (o := .cells #[.int .i64 a1_0, .int .i64 a1_1] 49 (0, 0)) (fb_ BK53002.out)) : gb53004 ≠ gb53002)); have n11_ := Aside0.mk ((by rw [hg]; exact Nat.ne_of_lt (blk_lt (g := gb53003) (o := .cells #[.int .i64 0, .int .i64 0] 49 (0, 0)) (fb_ BK53003.out)) : gb53003 ≠ gb53004)); have n12_ := Aside0.mk ((by rw [hg]; exact Nat.ne_of_gt (blk_lt (g := gb53003) (o := .cells #[.int .i64 0, .int .i64 0] 49 (0, 0)) (fb_ BK53003.out)) : gb53004 ≠ gb53003)); clear BK53001 BK53002 BK53003 HB; have BK53001 := n0_; have BK53002 := n1_; have BK53003 := n2_; have HB := n3_; have BK53004 := n4_; have GW53004 := n5_; have GE53004 := n6_; have NB53001_53004 := n7_; have NB53004_53001 := n8_; have NB53002_53004 := n9_; have NB53004_53002 := n10_; have NB53003_53004 := n11_; have NB53004_53003 := n12_; clear n0_ n1_ n2_ n3_ n4_ n5_ n6_ n7_ n8_ n9_ n10_ n11_ n12_ hb hbox hg; have hnb74 := NB53004_53001.out; have hnc74 := NB53001_53004.out; have hnb75 := NB53004_53002.out; have hnc75 := NB53002_53004.out; have hnb76 := NB53004_53003.out; have hnc76 := NB53003_53004.out; have hcz77_0 : w73.cell? ⟨gb53004, 0, none⟩ = some (.int .i64 0) := (blk_cell BK53004.out 0).trans rfl; have hcz77_1 : w73.cell? ⟨gb53004, 1, none⟩ = some (.int .i64 0) := (blk_cell BK53004.out 1).trans rfl; have hfz77_0 := blk_frozen BK53004.out 0; have hfz77_1 := blk_frozen BK53004.out 1; have hcz78_0 : w73.cell? ⟨gb53001, 0, none⟩ = some (.int .i64 a0_0) := (blk_cell BK53001.out 0).trans rfl; have hcz78_1 : w73.cell? ⟨gb53001, 1, none⟩ = some (.int .i64 a0_1) := (blk_cell BK53001.out 1).trans rfl; have hfz78_0 := blk_frozen BK53001.out 0; have hfz78_1 := blk_frozen BK53001.out 1) | ((with_reducible refine gate_callee (f := 69) rfl ?_); refine goesL_ (some 18) rfl rfl Try.func69 (by kernel_rfl) rfl #[.agg #[.int .i64 a0_0, .int .i64 a0_1]] rfl la_ ?_; (with_reducible refine (span_empty.calls a0_0 a0_1 false _ A5.out).mono ?_); rintro e w79 ⟨rfl, hb⟩; refine ⟨_, rfl, ?_⟩; have n0_ := Aside0.mk (blk_below (g := gb53001) (o := .cells #[.int .i64 a0_0, .int .i64 a0_1] 49 (0, 0)) (by (with_reducible repeat (first | refine blk_drewN ?_ _ | refine blk_drew ?_ | refine blk_alloc ?_ _)); refine blk_far ?_ NB53001_53004.out _; (with_reducible repeat (first | refine blk_drewN ?_ _ | refine blk_drew ?_ | refine blk_alloc ?_ _)); refine blk_far ?_ NB53001_53004.out _; (with_reducible repeat (first | refine blk_drewN ?_ _ | refine blk_drew ?_ | refine blk_alloc ?_ _)); exact BK53001.out) hb); have n1_ := Aside0.mk (blk_below (g := gb53002) (o := .cells #[.int .i64 a1_0, .int .i64 a1_1] 49 (0, 0)) (by (with_reducible repeat (first | refine blk_drewN ?_ _ | refine blk_drew ?_ | refine blk_alloc ?_ _)); refine blk_far ?_ NB53002_53004.out _; (with_reducible repeat (first | refine blk_drewN ?_ _ | refine blk_drew ?_ | refine blk_alloc ?_ _)); refine blk_far ?_ NB53002_53004.out _; (with_reducible repeat (first | refine blk_drewN ?_ _ | refine blk_drew ?_ | refine blk_alloc ?_ _)); exact BK53002.out) hb); have n2_ := Aside0.mk (blk_below (g := gb53003) (o := .cells #[.int .i64 0, .int .i64 0] 49 (0, 0)) (by (with_reducible repeat (first | refine blk_drewN ?_ _ | refine blk_drew ?_ | refine blk_alloc ?_ _)); refine blk_far ?_ NB53003_53004.out _; (with_reducible repeat (first | refine blk_drewN ?_ _ | refine blk_drew ?_ | refine blk_alloc ?_ _)); refine blk_far ?_ NB53003_53004.out _; (with_reducible repeat (first | refine blk_drewN ?_ _ | refine blk_drew ?_ | refine blk_alloc ?_ _)); exact BK53003.out) hb); have n3_ := Aside0.mk (blk_below (g := gb53004) (o := .cells #[.int .i64 ji3, .int .i64 ji4] 49 (0, 0)) (by (with_reducible repeat (first | refine blk_drewN ?_ _ | refine blk_drew ?_ | refine blk_alloc ?_ _)); refine blk_put (cs := #[.int .i64 ji3, .int .i64 0]) ?_ 1 _ rfl; (with_reducible repeat (first | refine blk_drewN ?_ _ | refine blk_drew ?_ | refine blk_alloc ?_ _)); refine blk_put (cs := #[.int .i64 0, .int .i64 0]) ?_ 0 _ rfl; (with_reducible repeat (first | refine blk_drewN ?_ _ | refine blk_drew ?_ | refine blk_alloc ?_ _)); exact BK53004.out) hb); have n4_ := Aside0.mk (bs_ hb); clear BK53001 BK53002 BK53003 BK53004 HB; have BK53001 := n0_; have BK53002 := n1_; have BK53003 := n2_; have BK53004 := n3_; have HB := n4_; clear n0_ n1_ n2_ n3_ n4_; (try clear hb); (try clear hb2); (try clear hk); (try clear hi); have hcz80_0 : w79.cell? ⟨gb53002, 0, none⟩ = some (.int .i64 a1_0) := (blk_cell BK53002.out 0).trans rfl; have hcz80_1 : w79.cell? ⟨gb53002, 1, none⟩ = some (.int .i64 a1_1) := (blk_cell BK53002.out 1).trans rfl; have hfz80_0 := blk_frozen BK53002.out 0; have hfz80_1 := blk_frozen BK53002.out 1) | (go_at_call 69; (with_reducible refine (span_empty.calls a1_0 a1_1 false _ A23.out).mono ?_); rintro e w81 ⟨rfl, hb⟩; have n0_ := Aside0.mk (blk_below (g := gb53001) (o := .cells #[.int .i64 a0_0, .int .i64 a0_1] 49 (0, 0)) (fb_ BK53001.out) hb); have n1_ := Aside0.mk (blk_below (g := gb53002) (o := .cells #[.int .i64 a1_0, .int .i64 a1_1] 49 (0, 0)) (fb_ BK53002.out) hb); have n2_ := Aside0.mk (blk_below (g := gb53003) (o := .cells #[.int .i64 0, .int .i64 0] 49 (0, 0)) (fb_ BK53003.out) hb); have n3_ := Aside0.mk (blk_below (g := gb53004) (o := .cells #[.int .i64 ji3, .int .i64 ji4] 49 (0, 0)) (fb_ BK53004.out) hb); have n4_ := Aside0.mk (bs_ hb); clear BK53001 BK53002 BK53003 BK53004 HB; have BK53001 := n0_; have BK53002 := n1_; have BK53003 := n2_; have BK53004 := n3_; have HB := n4_; clear n0_ n1_ n2_ n3_ n4_; (try clear hb); (try clear hb2); (try clear hk); (try clear hi); have hcz82_0 : w81.cell? ⟨gb53004, 0, none⟩ = some (.int .i64 ji3) := (blk_cell BK53004.out 0).trans rfl; have hcz82_1 : w81.cell? ⟨gb53004, 1, none⟩ = some (.int .i64 ji4) := (blk_cell BK53004.out 1).trans rfl; have hfz82_0 := blk_frozen BK53004.out 0; have hfz82_1 := blk_frozen BK53004.out 1) | (go_at_call 69; (with_reducible refine (span_empty.calls ji3 ji4 false _ A43.out).mono ?_); rintro e w83 ⟨rfl, hb⟩; have n0_ := Aside0.mk (blk_below (g := gb53001) (o := .cells #[.int .i64 a0_0, .int .i64 a0_1] 49 (0, 0)) (fb_ BK53001.out) hb); have n1_ := Aside0.mk (blk_below (g := gb53002) (o := .cells #[.int .i64 a1_0, .int .i64 a1_1] 49 (0, 0)) (fb_ BK53002.out) hb); have n2_ := Aside0.mk (blk_below (g := gb53003) (o := .cells #[.int .i64 0, .int .i64 0] 49 (0, 0)) (fb_ BK53003.out) hb); have n3_ := Aside0.mk (blk_below (g := gb53004) (o := .cells #[.int .i64 ji3, .int .i64 ji4] 49 (0, 0)) (fb_ BK53004.out) hb); have n4_ := Aside0.mk (bs_ hb); clear BK53001 BK53002 BK53003 BK53004 HB; have BK53001 := n0_; have BK53002 := n1_; have BK53003 := n2_; have BK53004 := n3_; have HB := n4_; clear n0_ n1_ n2_ n3_ n4_; (try clear hb); (try clear hb2); (try clear hk); (try clear hi); have hcz84_0 : w83.cell? ⟨gb53004, 0, none⟩ = some (.int .i64 ji3) := (blk_cell BK53004.out 0).trans rfl; have hcz84_1 : w83.cell? ⟨gb53004, 1, none⟩ = some (.int .i64 ji4) := (blk_cell BK53004.out 1).trans rfl; have hfz84_0 := blk_frozen BK53004.out 0; have hfz84_1 := blk_frozen BK53004.out 1; have hcz85_0 : w83.cell? ⟨gb53003, 0, none⟩ = some (.int .i64 0) := (blk_cell BK53003.out 0).trans rfl; have hcz85_1 : w83.cell? ⟨gb53003, 1, none⟩ = some (.int .i64 0) := (blk_cell BK53003.out 1).trans rfl; have hfz85_0 := blk_frozen BK53003.out 0; have hfz85_1 := blk_frozen BK53003.out 1))
    refine bodyPost_ret (results_cell_row rfl _ _ gb53003 49 #[.int .i64 ji3, .int .i64 ji4] (0, 0) _ rfl (by (with_reducible repeat (first | refine blk_drewN ?_ _ | refine blk_drew ?_ | refine blk_alloc ?_ _)); refine blk_put (cs := #[.int .i64 ji3, .int .i64 0]) ?_ 1 _ rfl; (with_reducible repeat (first | refine blk_drewN ?_ _ | refine blk_drew ?_ | refine blk_alloc ?_ _)); refine blk_put (cs := #[.int .i64 0, .int .i64 0]) ?_ 0 _ rfl; (with_reducible repeat (first | refine blk_drewN ?_ _ | refine blk_drew ?_ | refine blk_alloc ?_ _)); exact BK53003.out) Try.underlying49 rfl (by kernel_rfl)) rfl ?_
    exact ⟨by first | rfl | (simp [errW_none, errW_some] <;> rfl) | (simp only [← hji3, ← hji4]; first | rfl | (simp [errW_none, errW_some] <;> rfl)) | (simp [*, errW_none, errW_some] <;> rfl), be_⟩

end Go.Proofs.Ytdbjoopkliafeaa.P

end
