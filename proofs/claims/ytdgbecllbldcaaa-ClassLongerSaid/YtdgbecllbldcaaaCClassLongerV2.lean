/- Functions of the program: what each computes, and that the call computes it; conditions: the fuel that the plain function asks for. -/
import Derived.Test.YtdgbecllbldcaaaCClassLongerV1
import Derived.Test.YtdgbecllbldcaaaProg
import Derived.Below
import Derived.Deep.Draws
import Derived.Deep.AppendLies
import Derived.Maps.AppendAt
import Derived.OwnWalk
import Derived.Laws.BytesArg
import Derived.Laws.MakeOwn
import Derived.Laws.OwnMore
import Derived.Deep.OwnRows
import Derived.Tactics
import Derived.Lib.ConvBytes
import Derived.Laws.Slices
import Derived.WalkKit
import Derived.KernelRfl
import Derived.RowKit3
import Derived.Deep.LoopGhost
import Derived.Deep.QuietTactic
import Derived.BigQuiet
import Derived.WideLaws
import Derived.Deep.DeepCutAuto
import Derived.Deep.CutBlock
import Derived.Deep.RegionHeld3
import Derived.Laws.Rows
import Derived.Lib.AppendStr
import Derived.ArgAppend
import Derived.Laws.IdiomCopy
import Derived.OrdersHeld
import Derived.Laws.BitsLemmas
import Derived.RowKit
section
namespace Go.Proofs.Ytdgbecllbldcaaa.P
open Go Go.RowKit Go.Proofs.YtdgbecllbldcaaaW.PrintWords Go.Proofs.YtdgbecllbldcaaaW.PrintLast Go.Proofs.YtdgbecllbldcaaaW.PrintMore
attribute [local go_sem] max2_int min2_int max_two min_two max_three min_three max_four min_four max_five min_eight max_eight   -- for this text's walks alone
set_option linter.unusedVariables false
set_option linter.unusedSimpArgs false
def errW : Option Int → Value
 | none => .nilIface
 | some c => .iface 0 (.int .i64 c)
theorem errW_none : errW none = .nilIface := rfl
theorem errW_some (c : Int) : errW (some c) = .iface 0 (.int .i64 c) := rfl

theorem info3 : (Try.prog.info? 3).map (fun i => (i.zero, i.size, i.bytes)) = some (some (.int .i64 0), 1, 8) := by kernel_rfl
theorem info28 : (Try.prog.info? 28).map (fun i => (i.zero, i.size, i.bytes)) = some (some (.agg #[(.string ⟨#[]⟩), (.int .i64 0), (.int .i64 0), (.int .i64 0), (.int .i64 0), (.int .i64 0), (.int .i64 0), (.int .i64 0), (.int .i64 0)]), 9, 80) := by kernel_rfl
theorem info44 : (Try.prog.info? 44).map (fun i => (i.zero, i.size, i.bytes)) = some (some (.agg #[(.int .i64 0), (.int .i64 0)]), 2, 16) := by kernel_rfl
theorem info48 : (Try.prog.info? 48).map (fun i => (i.zero, i.size, i.bytes)) = some (some (.agg #[(.int .i64 0), (.int .i64 0), (.int .i64 0), (.int .i64 0), (.int .i64 0), (.int .i64 0), (.int .i64 0)]), 7, 56) := by kernel_rfl
theorem info58 : (Try.prog.info? 58).map (fun i => (i.zero, i.size, i.bytes)) = some (some (.agg #[(.int .i64 0), (.int .i64 0), (.slice none 0 0)]), 3, 40) := by kernel_rfl
theorem info68 : (Try.prog.info? 68).map (fun i => (i.zero, i.size, i.bytes)) = some (some (.agg #[(.int .i64 0), (.int .i64 0), (.int .i64 0), (.slice none 0 0)]), 4, 48) := by kernel_rfl
-- the values' own types
structure S28 where
 f0 : ByteArray
 f1 : Int
 f2 : Int
 f3 : Int
 f4 : Int
 f5 : Int
 f6 : Int
 f7 : Int
 f8 : Int
def z28 : S28 := ⟨(⟨#[]⟩ : ByteArray), (0 : Int), (0 : Int), (0 : Int), (0 : Int), (0 : Int), (0 : Int), (0 : Int), (0 : Int)⟩
def k28 : Kd S28 := Kd.iso (Kd.pair Kd.string (Kd.pair (Kd.int .i64) (Kd.pair (Kd.int .i64) (Kd.pair (Kd.int .i64) (Kd.pair (Kd.int .i64) (Kd.pair (Kd.int .i64) (Kd.pair (Kd.int .i64) (Kd.pair (Kd.int .i64) (Kd.int .i64))))))))) (fun x : S28 => (x.f0, x.f1, x.f2, x.f3, x.f4, x.f5, x.f6, x.f7, x.f8))
theorem k28_heap : Kd.Heap k28 := Kd.heap_iso _ (Kd.heap_pair Kd.heap_string (Kd.heap_pair (Kd.heap_int .i64) (Kd.heap_pair (Kd.heap_int .i64) (Kd.heap_pair (Kd.heap_int .i64) (Kd.heap_pair (Kd.heap_int .i64) (Kd.heap_pair (Kd.heap_int .i64) (Kd.heap_pair (Kd.heap_int .i64) (Kd.heap_pair (Kd.heap_int .i64) (Kd.heap_int .i64)))))))))
theorem k28_open {w : World} {x : S28} {cs : List Value} (h : k28.K w x cs) : cs = [.string x.f0, .int .i64 x.f1, .int .i64 x.f2, .int .i64 x.f3, .int .i64 x.f4, .int .i64 x.f5, .int .i64 x.f6, .int .i64 x.f7, .int .i64 x.f8] := by
 obtain ⟨_, _, rfl, rfl, ⟨_, _, rfl, rfl, ⟨_, _, rfl, rfl, ⟨_, _, rfl, rfl, ⟨_, _, rfl, rfl, ⟨_, _, rfl, rfl, ⟨_, _, rfl, rfl, ⟨_, _, rfl, rfl, rfl⟩⟩⟩⟩⟩⟩⟩⟩ := h;exact rfl
theorem k28_openM {w : World} {base : Nat} {ok : Nat → Prop} {x : S28} {cs : List Value} (h : k28.M w base ok x cs) : cs = [.string x.f0, .int .i64 x.f1, .int .i64 x.f2, .int .i64 x.f3, .int .i64 x.f4, .int .i64 x.f5, .int .i64 x.f6, .int .i64 x.f7, .int .i64 x.f8] := by
 obtain ⟨_, _, rfl, rfl, ⟨_, _, rfl, rfl, ⟨_, _, rfl, rfl, ⟨_, _, rfl, rfl, ⟨_, _, rfl, rfl, ⟨_, _, rfl, rfl, ⟨_, _, rfl, rfl, ⟨_, _, rfl, rfl, rfl⟩⟩⟩⟩⟩⟩⟩⟩ := h;exact rfl
theorem k28_mk (w : World) (x : S28)  : k28.K w x [.string x.f0, .int .i64 x.f1, .int .i64 x.f2, .int .i64 x.f3, .int .i64 x.f4, .int .i64 x.f5, .int .i64 x.f6, .int .i64 x.f7, .int .i64 x.f8] := ⟨[.string x.f0], [.int .i64 x.f1, .int .i64 x.f2, .int .i64 x.f3, .int .i64 x.f4, .int .i64 x.f5, .int .i64 x.f6, .int .i64 x.f7, .int .i64 x.f8], rfl, rfl, ⟨[.int .i64 x.f1], [.int .i64 x.f2, .int .i64 x.f3, .int .i64 x.f4, .int .i64 x.f5, .int .i64 x.f6, .int .i64 x.f7, .int .i64 x.f8], rfl, rfl, ⟨[.int .i64 x.f2], [.int .i64 x.f3, .int .i64 x.f4, .int .i64 x.f5, .int .i64 x.f6, .int .i64 x.f7, .int .i64 x.f8], rfl, rfl, ⟨[.int .i64 x.f3], [.int .i64 x.f4, .int .i64 x.f5, .int .i64 x.f6, .int .i64 x.f7, .int .i64 x.f8], rfl, rfl, ⟨[.int .i64 x.f4], [.int .i64 x.f5, .int .i64 x.f6, .int .i64 x.f7, .int .i64 x.f8], rfl, rfl, ⟨[.int .i64 x.f5], [.int .i64 x.f6, .int .i64 x.f7, .int .i64 x.f8], rfl, rfl, ⟨[.int .i64 x.f6], [.int .i64 x.f7, .int .i64 x.f8], rfl, rfl, ⟨[.int .i64 x.f7], [.int .i64 x.f8], rfl, rfl, rfl⟩⟩⟩⟩⟩⟩⟩⟩
theorem k28_mkM (w : World) (base : Nat) (ok : Nat → Prop) (x : S28)  : k28.M w base ok x [.string x.f0, .int .i64 x.f1, .int .i64 x.f2, .int .i64 x.f3, .int .i64 x.f4, .int .i64 x.f5, .int .i64 x.f6, .int .i64 x.f7, .int .i64 x.f8] := ⟨[.string x.f0], [.int .i64 x.f1, .int .i64 x.f2, .int .i64 x.f3, .int .i64 x.f4, .int .i64 x.f5, .int .i64 x.f6, .int .i64 x.f7, .int .i64 x.f8], rfl, rfl, ⟨[.int .i64 x.f1], [.int .i64 x.f2, .int .i64 x.f3, .int .i64 x.f4, .int .i64 x.f5, .int .i64 x.f6, .int .i64 x.f7, .int .i64 x.f8], rfl, rfl, ⟨[.int .i64 x.f2], [.int .i64 x.f3, .int .i64 x.f4, .int .i64 x.f5, .int .i64 x.f6, .int .i64 x.f7, .int .i64 x.f8], rfl, rfl, ⟨[.int .i64 x.f3], [.int .i64 x.f4, .int .i64 x.f5, .int .i64 x.f6, .int .i64 x.f7, .int .i64 x.f8], rfl, rfl, ⟨[.int .i64 x.f4], [.int .i64 x.f5, .int .i64 x.f6, .int .i64 x.f7, .int .i64 x.f8], rfl, rfl, ⟨[.int .i64 x.f5], [.int .i64 x.f6, .int .i64 x.f7, .int .i64 x.f8], rfl, rfl, ⟨[.int .i64 x.f6], [.int .i64 x.f7, .int .i64 x.f8], rfl, rfl, ⟨[.int .i64 x.f7], [.int .i64 x.f8], rfl, rfl, rfl⟩⟩⟩⟩⟩⟩⟩⟩
theorem k28_mkF (W : World) (ok : Nat → Prop) (x : S28) : Kd.FK k28 W ok x [.string x.f0, .int .i64 x.f1, .int .i64 x.f2, .int .i64 x.f3, .int .i64 x.f4, .int .i64 x.f5, .int .i64 x.f6, .int .i64 x.f7, .int .i64 x.f8] := fun W2 _ => k28_mk W2 x
def rd_T28 (xs : List S28) (i : Int) : S28 := xs.getD i.toNat z28
theorem at_T28 {w : World} {A : Option Addr} {n : Nat} {xs : List S28} (h : Kd.C k28 w A n xs) (i : Int) (h0 : 0 ≤ i) (h1 : i < n) : ∃ ad , A = some ad ∧ w.cell? (ad.add (i.toNat * 9)) = some (.string (rd_T28 xs i).f0) ∧ w.cell? ⟨(ad.add (i.toNat * 9)).block, (ad.add (i.toNat * 9)).off + 1, none⟩ = some (.int .i64 (rd_T28 xs i).f1) ∧ w.cell? ⟨(ad.add (i.toNat * 9)).block, (ad.add (i.toNat * 9)).off + 2, none⟩ = some (.int .i64 (rd_T28 xs i).f2) ∧ w.cell? ⟨(ad.add (i.toNat * 9)).block, (ad.add (i.toNat * 9)).off + 3, none⟩ = some (.int .i64 (rd_T28 xs i).f3) ∧ w.cell? ⟨(ad.add (i.toNat * 9)).block, (ad.add (i.toNat * 9)).off + 4, none⟩ = some (.int .i64 (rd_T28 xs i).f4) ∧ w.cell? ⟨(ad.add (i.toNat * 9)).block, (ad.add (i.toNat * 9)).off + 5, none⟩ = some (.int .i64 (rd_T28 xs i).f5) ∧ w.cell? ⟨(ad.add (i.toNat * 9)).block, (ad.add (i.toNat * 9)).off + 6, none⟩ = some (.int .i64 (rd_T28 xs i).f6) ∧ w.cell? ⟨(ad.add (i.toNat * 9)).block, (ad.add (i.toNat * 9)).off + 7, none⟩ = some (.int .i64 (rd_T28 xs i).f7) ∧ w.cell? ⟨(ad.add (i.toNat * 9)).block, (ad.add (i.toNat * 9)).off + 8, none⟩ = some (.int .i64 (rd_T28 xs i).f8) := by
 obtain ⟨ad, c, e, _, hK, hc0⟩ := Kd.C_get h z28 i h0 h1;have hc : ∀ j u, c[j]? = some u → w.cell? (ad.add (i.toNat * 9 + j)) = some u := hc0;obtain rfl := k28_open hK;exact ⟨ad, e, hc 0 _ rfl, by rw [← add_field _ _ 1 (by omega)]; exact hc 1 _ rfl, by rw [← add_field _ _ 2 (by omega)]; exact hc 2 _ rfl, by rw [← add_field _ _ 3 (by omega)]; exact hc 3 _ rfl, by rw [← add_field _ _ 4 (by omega)]; exact hc 4 _ rfl, by rw [← add_field _ _ 5 (by omega)]; exact hc 5 _ rfl, by rw [← add_field _ _ 6 (by omega)]; exact hc 6 _ rfl, by rw [← add_field _ _ 7 (by omega)]; exact hc 7 _ rfl, by rw [← add_field _ _ 8 (by omega)]; exact hc 8 _ rfl⟩

structure S44 where
 f0 : Int
 f1 : Int
def z44 : S44 := ⟨(0 : Int), (0 : Int)⟩
def k44 : Kd S44 := Kd.iso (Kd.pair (Kd.int .i64) (Kd.int .i64)) (fun x : S44 => (x.f0, x.f1))
theorem k44_heap : Kd.Heap k44 := Kd.heap_iso _ (Kd.heap_pair (Kd.heap_int .i64) (Kd.heap_int .i64))
theorem k44_open {w : World} {x : S44} {cs : List Value} (h : k44.K w x cs) : cs = [.int .i64 x.f0, .int .i64 x.f1] := by
 obtain ⟨_, _, rfl, rfl, rfl⟩ := h;exact rfl
theorem k44_openM {w : World} {base : Nat} {ok : Nat → Prop} {x : S44} {cs : List Value} (h : k44.M w base ok x cs) : cs = [.int .i64 x.f0, .int .i64 x.f1] := by
 obtain ⟨_, _, rfl, rfl, rfl⟩ := h;exact rfl
theorem k44_mk (w : World) (x : S44)  : k44.K w x [.int .i64 x.f0, .int .i64 x.f1] := ⟨[.int .i64 x.f0], [.int .i64 x.f1], rfl, rfl, rfl⟩
theorem k44_mkM (w : World) (base : Nat) (ok : Nat → Prop) (x : S44)  : k44.M w base ok x [.int .i64 x.f0, .int .i64 x.f1] := ⟨[.int .i64 x.f0], [.int .i64 x.f1], rfl, rfl, rfl⟩
theorem k44_mkF (W : World) (ok : Nat → Prop) (x : S44) : Kd.FK k44 W ok x [.int .i64 x.f0, .int .i64 x.f1] := fun W2 _ => k44_mk W2 x
def rd_T44 (xs : List S44) (i : Int) : S44 := xs.getD i.toNat z44
theorem at_T44 {w : World} {A : Option Addr} {n : Nat} {xs : List S44} (h : Kd.C k44 w A n xs) (i : Int) (h0 : 0 ≤ i) (h1 : i < n) : ∃ ad , A = some ad ∧ w.cell? (ad.add (i.toNat * 2)) = some (.int .i64 (rd_T44 xs i).f0) ∧ w.cell? ⟨(ad.add (i.toNat * 2)).block, (ad.add (i.toNat * 2)).off + 1, none⟩ = some (.int .i64 (rd_T44 xs i).f1) := by
 obtain ⟨ad, c, e, _, hK, hc0⟩ := Kd.C_get h z44 i h0 h1;have hc : ∀ j u, c[j]? = some u → w.cell? (ad.add (i.toNat * 2 + j)) = some u := hc0;obtain rfl := k44_open hK;exact ⟨ad, e, hc 0 _ rfl, by rw [← add_field _ _ 1 (by omega)]; exact hc 1 _ rfl⟩

def rd_L4 (xs : List (List S44)) (i : Int) : (List S44) := xs.getD i.toNat ([] : List S44)
theorem at_L4 {w : World} {A : Option Addr} {n : Nat} {xs : List (List S44)} (h : Kd.C (Kd.slice 44 k44) w A n xs) (i : Int) (h0 : 0 ≤ i) (h1 : i < n) : ∃ ad A0 c0, A = some ad ∧ w.cell? (ad.add i.toNat) = some (.slice A0 (rd_L4 xs i).length c0) ∧ (rd_L4 xs i).length ≤ c0 ∧ k44.C w A0 (rd_L4 xs i).length (rd_L4 xs i) := by
 obtain ⟨ad, c, e, _, hK, hc0⟩ := Kd.C_get h ([] : List S44) i h0 h1;have hc : ∀ j u, c[j]? = some u → w.cell? (ad.add (i.toNat * 1 + j)) = some u := hc0;obtain ⟨A0, c0, rfl, l0, g0⟩ := hK;exact ⟨ad, A0, c0, e, by have hq := hc 0 _ rfl; rwa [Nat.mul_one, Nat.add_zero] at hq, l0, g0⟩

structure S56 where
 f0 : Int
 f1 : (List S44)
def z56 : S56 := ⟨(0 : Int), ([] : List S44)⟩
def k56 : Kd S56 := Kd.iso (Kd.pair (Kd.int .i64) (Kd.slice 44 k44)) (fun x : S56 => (x.f0, x.f1))
theorem k56_heap : Kd.Heap k56 := Kd.heap_iso _ (Kd.heap_pair (Kd.heap_int .i64) (Kd.heap_slice 44 k44_heap))
theorem k56_open {w : World} {x : S56} {cs : List Value} (h : k56.K w x cs) : ∃ A1 c1, cs = [.int .i64 x.f0, .slice A1 x.f1.length c1] ∧ x.f1.length ≤ c1 ∧ k44.C w A1 x.f1.length x.f1 := by
 obtain ⟨_, _, rfl, rfl, ⟨A1, c1, rfl, l1, g1⟩⟩ := h;exact ⟨A1, c1, rfl, l1, g1⟩
theorem k56_openM {w : World} {base : Nat} {ok : Nat → Prop} {x : S56} {cs : List Value} (h : k56.M w base ok x cs) : ∃ v1, cs = [.int .i64 x.f0, v1] ∧ k44.R 44 w base ok v1 x.f1 := by
 obtain ⟨_, _, rfl, rfl, ⟨v1, rfl, g1⟩⟩ := h;exact ⟨v1, rfl, g1⟩
theorem k56_mk (w : World) (x : S56) {A1 : Option Addr} {c1 : Nat} (l1 : x.f1.length ≤ c1) (g1 : k44.C w A1 x.f1.length x.f1) : k56.K w x [.int .i64 x.f0, .slice A1 x.f1.length c1] := ⟨[.int .i64 x.f0], [.slice A1 x.f1.length c1], rfl, rfl, ⟨A1, c1, rfl, l1, g1⟩⟩
theorem k56_mkM (w : World) (base : Nat) (ok : Nat → Prop) (x : S56) {v1 : Value} (g1 : k44.R 44 w base ok v1 x.f1) : k56.M w base ok x [.int .i64 x.f0, v1] := ⟨[.int .i64 x.f0], [v1], rfl, rfl, ⟨v1, rfl, g1⟩⟩
theorem k56_openF {W : World} {ok : Nat → Prop} {x : S56} {cs : List Value} (h : Kd.FK k56 W ok x cs) : ∃ A1 c1, cs = [.int .i64 x.f0, .slice A1 x.f1.length c1] ∧ x.f1.length ≤ c1 ∧ Kd.F k44 W ok A1 x.f1.length x.f1 := by
 obtain ⟨A1, c1, rfl, l1, _⟩ := k56_open (Kd.FK_now h);exact ⟨A1, c1, rfl, l1, (fun W' hW => by obtain ⟨A1_, c1_, he, l1_, g1_⟩ := k56_open (h W' hW); injection (Option.some.inj (show some (Value.slice A1 x.f1.length c1) = some (Value.slice A1_ x.f1.length c1_) from congrArg (fun l => l[1]?) he)) with ha_ _ _; rw [ha_]; exact g1_)⟩
theorem k56_mkF (W : World) (ok : Nat → Prop) (x : S56) {A1 : Option Addr} {c1 : Nat} (l1 : x.f1.length ≤ c1) (g1 : Kd.F k44 W ok A1 x.f1.length x.f1) : Kd.FK k56 W ok x [.int .i64 x.f0, .slice A1 x.f1.length c1] := fun W2 hW => k56_mk W2 x l1 (g1 W2 hW)
def rd_T56 (xs : List S56) (i : Int) : S56 := xs.getD i.toNat z56
theorem at_T56 {w : World} {A : Option Addr} {n : Nat} {xs : List S56} (h : Kd.C k56 w A n xs) (i : Int) (h0 : 0 ≤ i) (h1 : i < n) : ∃ ad A1 c1, A = some ad ∧ w.cell? (ad.add (i.toNat * 2)) = some (.int .i64 (rd_T56 xs i).f0) ∧ w.cell? ⟨(ad.add (i.toNat * 2)).block, (ad.add (i.toNat * 2)).off + 1, none⟩ = some (.slice A1 (rd_T56 xs i).f1.length c1) ∧ (rd_T56 xs i).f1.length ≤ c1 ∧ k44.C w A1 (rd_T56 xs i).f1.length (rd_T56 xs i).f1 := by
 obtain ⟨ad, c, e, _, hK, hc0⟩ := Kd.C_get h z56 i h0 h1;have hc : ∀ j u, c[j]? = some u → w.cell? (ad.add (i.toNat * 2 + j)) = some u := hc0;obtain ⟨A1, c1, rfl, l1, g1⟩ := k56_open hK;exact ⟨ad, A1, c1, e, hc 0 _ rfl, by rw [← add_field _ _ 1 (by omega)]; exact hc 1 _ rfl, l1, g1⟩

structure S58 where
 f0 : Int
 f1 : S56
def z58 : S58 := ⟨(0 : Int), z56⟩
def k58 : Kd S58 := Kd.iso (Kd.pair (Kd.int .i64) k56) (fun x : S58 => (x.f0, x.f1))
theorem k58_heap : Kd.Heap k58 := Kd.heap_iso _ (Kd.heap_pair (Kd.heap_int .i64) k56_heap)
theorem k58_open {w : World} {x : S58} {cs : List Value} (h : k58.K w x cs) : ∃ A2 c2, cs = [.int .i64 x.f0, .int .i64 x.f1.f0, .slice A2 x.f1.f1.length c2] ∧ x.f1.f1.length ≤ c2 ∧ k44.C w A2 x.f1.f1.length x.f1.f1 := by
 obtain ⟨_, _, rfl, rfl, s1⟩ := h;obtain ⟨A2, c2, rfl, l2, g2⟩ := k56_open s1;exact ⟨A2, c2, rfl, l2, g2⟩
theorem k58_openM {w : World} {base : Nat} {ok : Nat → Prop} {x : S58} {cs : List Value} (h : k58.M w base ok x cs) : ∃ v2, cs = [.int .i64 x.f0, .int .i64 x.f1.f0, v2] ∧ k44.R 44 w base ok v2 x.f1.f1 := by
 obtain ⟨_, _, rfl, rfl, s1⟩ := h;obtain ⟨v2, rfl, g2⟩ := k56_openM s1;exact ⟨v2, rfl, g2⟩
theorem k58_mk (w : World) (x : S58) {A2 : Option Addr} {c2 : Nat} (l2 : x.f1.f1.length ≤ c2) (g2 : k44.C w A2 x.f1.f1.length x.f1.f1) : k58.K w x [.int .i64 x.f0, .int .i64 x.f1.f0, .slice A2 x.f1.f1.length c2] := ⟨[.int .i64 x.f0], [.int .i64 x.f1.f0, .slice A2 x.f1.f1.length c2], rfl, rfl, (k56_mk w x.f1 l2 g2)⟩
theorem k58_mkM (w : World) (base : Nat) (ok : Nat → Prop) (x : S58) {v2 : Value} (g2 : k44.R 44 w base ok v2 x.f1.f1) : k58.M w base ok x [.int .i64 x.f0, .int .i64 x.f1.f0, v2] := ⟨[.int .i64 x.f0], [.int .i64 x.f1.f0, v2], rfl, rfl, (k56_mkM w base ok x.f1 g2)⟩
theorem k58_openF {W : World} {ok : Nat → Prop} {x : S58} {cs : List Value} (h : Kd.FK k58 W ok x cs) : ∃ A2 c2, cs = [.int .i64 x.f0, .int .i64 x.f1.f0, .slice A2 x.f1.f1.length c2] ∧ x.f1.f1.length ≤ c2 ∧ Kd.F k44 W ok A2 x.f1.f1.length x.f1.f1 := by
 obtain ⟨A2, c2, rfl, l2, _⟩ := k58_open (Kd.FK_now h);exact ⟨A2, c2, rfl, l2, (fun W' hW => by obtain ⟨A2_, c2_, he, l2_, g2_⟩ := k58_open (h W' hW); injection (Option.some.inj (show some (Value.slice A2 x.f1.f1.length c2) = some (Value.slice A2_ x.f1.f1.length c2_) from congrArg (fun l => l[2]?) he)) with ha_ _ _; rw [ha_]; exact g2_)⟩
theorem k58_mkF (W : World) (ok : Nat → Prop) (x : S58) {A2 : Option Addr} {c2 : Nat} (l2 : x.f1.f1.length ≤ c2) (g2 : Kd.F k44 W ok A2 x.f1.f1.length x.f1.f1) : Kd.FK k58 W ok x [.int .i64 x.f0, .int .i64 x.f1.f0, .slice A2 x.f1.f1.length c2] := fun W2 hW => k58_mk W2 x l2 (g2 W2 hW)
def rd_T58 (xs : List S58) (i : Int) : S58 := xs.getD i.toNat z58
theorem at_T58 {w : World} {A : Option Addr} {n : Nat} {xs : List S58} (h : Kd.C k58 w A n xs) (i : Int) (h0 : 0 ≤ i) (h1 : i < n) : ∃ ad A2 c2, A = some ad ∧ w.cell? (ad.add (i.toNat * 3)) = some (.int .i64 (rd_T58 xs i).f0) ∧ w.cell? ⟨(ad.add (i.toNat * 3)).block, (ad.add (i.toNat * 3)).off + 1, none⟩ = some (.int .i64 (rd_T58 xs i).f1.f0) ∧ w.cell? ⟨(ad.add (i.toNat * 3)).block, (ad.add (i.toNat * 3)).off + 2, none⟩ = some (.slice A2 (rd_T58 xs i).f1.f1.length c2) ∧ (rd_T58 xs i).f1.f1.length ≤ c2 ∧ k44.C w A2 (rd_T58 xs i).f1.f1.length (rd_T58 xs i).f1.f1 := by
 obtain ⟨ad, c, e, _, hK, hc0⟩ := Kd.C_get h z58 i h0 h1;have hc : ∀ j u, c[j]? = some u → w.cell? (ad.add (i.toNat * 3 + j)) = some u := hc0;obtain ⟨A2, c2, rfl, l2, g2⟩ := k58_open hK;exact ⟨ad, A2, c2, e, hc 0 _ rfl, by rw [← add_field _ _ 1 (by omega)]; exact hc 1 _ rfl, by rw [← add_field _ _ 2 (by omega)]; exact hc 2 _ rfl, l2, g2⟩

def rd_L7 (xs : List (List S58)) (i : Int) : (List S58) := xs.getD i.toNat ([] : List S58)
theorem at_L7 {w : World} {A : Option Addr} {n : Nat} {xs : List (List S58)} (h : Kd.C (Kd.slice 58 k58) w A n xs) (i : Int) (h0 : 0 ≤ i) (h1 : i < n) : ∃ ad A0 c0, A = some ad ∧ w.cell? (ad.add i.toNat) = some (.slice A0 (rd_L7 xs i).length c0) ∧ (rd_L7 xs i).length ≤ c0 ∧ k58.C w A0 (rd_L7 xs i).length (rd_L7 xs i) := by
 obtain ⟨ad, c, e, _, hK, hc0⟩ := Kd.C_get h ([] : List S58) i h0 h1;have hc : ∀ j u, c[j]? = some u → w.cell? (ad.add (i.toNat * 1 + j)) = some u := hc0;obtain ⟨A0, c0, rfl, l0, g0⟩ := hK;exact ⟨ad, A0, c0, e, by have hq := hc 0 _ rfl; rwa [Nat.mul_one, Nat.add_zero] at hq, l0, g0⟩

structure S46 where
 f0 : S44
 f1 : S44
 f2 : S44
def z46 : S46 := ⟨z44, z44, z44⟩
def k46 : Kd S46 := Kd.iso (Kd.pair k44 (Kd.pair k44 k44)) (fun x : S46 => (x.f0, x.f1, x.f2))
theorem k46_heap : Kd.Heap k46 := Kd.heap_iso _ (Kd.heap_pair k44_heap (Kd.heap_pair k44_heap k44_heap))
theorem k46_open {w : World} {x : S46} {cs : List Value} (h : k46.K w x cs) : cs = [.int .i64 x.f0.f0, .int .i64 x.f0.f1, .int .i64 x.f1.f0, .int .i64 x.f1.f1, .int .i64 x.f2.f0, .int .i64 x.f2.f1] := by
 obtain ⟨_, _, rfl, s0, ⟨_, _, rfl, s2, s4⟩⟩ := h;obtain rfl := k44_open s0;obtain rfl := k44_open s2;obtain rfl := k44_open s4;exact rfl
theorem k46_openM {w : World} {base : Nat} {ok : Nat → Prop} {x : S46} {cs : List Value} (h : k46.M w base ok x cs) : cs = [.int .i64 x.f0.f0, .int .i64 x.f0.f1, .int .i64 x.f1.f0, .int .i64 x.f1.f1, .int .i64 x.f2.f0, .int .i64 x.f2.f1] := by
 obtain ⟨_, _, rfl, s0, ⟨_, _, rfl, s2, s4⟩⟩ := h;obtain rfl := k44_openM s0;obtain rfl := k44_openM s2;obtain rfl := k44_openM s4;exact rfl
theorem k46_mk (w : World) (x : S46)  : k46.K w x [.int .i64 x.f0.f0, .int .i64 x.f0.f1, .int .i64 x.f1.f0, .int .i64 x.f1.f1, .int .i64 x.f2.f0, .int .i64 x.f2.f1] := ⟨[.int .i64 x.f0.f0, .int .i64 x.f0.f1], [.int .i64 x.f1.f0, .int .i64 x.f1.f1, .int .i64 x.f2.f0, .int .i64 x.f2.f1], rfl, (k44_mk w x.f0 ), ⟨[.int .i64 x.f1.f0, .int .i64 x.f1.f1], [.int .i64 x.f2.f0, .int .i64 x.f2.f1], rfl, (k44_mk w x.f1 ), (k44_mk w x.f2 )⟩⟩
theorem k46_mkM (w : World) (base : Nat) (ok : Nat → Prop) (x : S46)  : k46.M w base ok x [.int .i64 x.f0.f0, .int .i64 x.f0.f1, .int .i64 x.f1.f0, .int .i64 x.f1.f1, .int .i64 x.f2.f0, .int .i64 x.f2.f1] := ⟨[.int .i64 x.f0.f0, .int .i64 x.f0.f1], [.int .i64 x.f1.f0, .int .i64 x.f1.f1, .int .i64 x.f2.f0, .int .i64 x.f2.f1], rfl, (k44_mkM w base ok x.f0 ), ⟨[.int .i64 x.f1.f0, .int .i64 x.f1.f1], [.int .i64 x.f2.f0, .int .i64 x.f2.f1], rfl, (k44_mkM w base ok x.f1 ), (k44_mkM w base ok x.f2 )⟩⟩
theorem k46_mkF (W : World) (ok : Nat → Prop) (x : S46) : Kd.FK k46 W ok x [.int .i64 x.f0.f0, .int .i64 x.f0.f1, .int .i64 x.f1.f0, .int .i64 x.f1.f1, .int .i64 x.f2.f0, .int .i64 x.f2.f1] := fun W2 _ => k46_mk W2 x
def rd_T46 (xs : List S46) (i : Int) : S46 := xs.getD i.toNat z46
theorem at_T46 {w : World} {A : Option Addr} {n : Nat} {xs : List S46} (h : Kd.C k46 w A n xs) (i : Int) (h0 : 0 ≤ i) (h1 : i < n) : ∃ ad , A = some ad ∧ w.cell? (ad.add (i.toNat * 6)) = some (.int .i64 (rd_T46 xs i).f0.f0) ∧ w.cell? ⟨(ad.add (i.toNat * 6)).block, (ad.add (i.toNat * 6)).off + 1, none⟩ = some (.int .i64 (rd_T46 xs i).f0.f1) ∧ w.cell? ⟨(ad.add (i.toNat * 6)).block, (ad.add (i.toNat * 6)).off + 2, none⟩ = some (.int .i64 (rd_T46 xs i).f1.f0) ∧ w.cell? ⟨(ad.add (i.toNat * 6)).block, (ad.add (i.toNat * 6)).off + 3, none⟩ = some (.int .i64 (rd_T46 xs i).f1.f1) ∧ w.cell? ⟨(ad.add (i.toNat * 6)).block, (ad.add (i.toNat * 6)).off + 4, none⟩ = some (.int .i64 (rd_T46 xs i).f2.f0) ∧ w.cell? ⟨(ad.add (i.toNat * 6)).block, (ad.add (i.toNat * 6)).off + 5, none⟩ = some (.int .i64 (rd_T46 xs i).f2.f1) := by
 obtain ⟨ad, c, e, _, hK, hc0⟩ := Kd.C_get h z46 i h0 h1;have hc : ∀ j u, c[j]? = some u → w.cell? (ad.add (i.toNat * 6 + j)) = some u := hc0;obtain rfl := k46_open hK;exact ⟨ad, e, hc 0 _ rfl, by rw [← add_field _ _ 1 (by omega)]; exact hc 1 _ rfl, by rw [← add_field _ _ 2 (by omega)]; exact hc 2 _ rfl, by rw [← add_field _ _ 3 (by omega)]; exact hc 3 _ rfl, by rw [← add_field _ _ 4 (by omega)]; exact hc 4 _ rfl, by rw [← add_field _ _ 5 (by omega)]; exact hc 5 _ rfl⟩

structure S48 where
 f0 : Int
 f1 : S46
def z48 : S48 := ⟨(0 : Int), z46⟩
def k48 : Kd S48 := Kd.iso (Kd.pair (Kd.int .i64) k46) (fun x : S48 => (x.f0, x.f1))
theorem k48_heap : Kd.Heap k48 := Kd.heap_iso _ (Kd.heap_pair (Kd.heap_int .i64) k46_heap)
theorem k48_open {w : World} {x : S48} {cs : List Value} (h : k48.K w x cs) : cs = [.int .i64 x.f0, .int .i64 x.f1.f0.f0, .int .i64 x.f1.f0.f1, .int .i64 x.f1.f1.f0, .int .i64 x.f1.f1.f1, .int .i64 x.f1.f2.f0, .int .i64 x.f1.f2.f1] := by
 obtain ⟨_, _, rfl, rfl, s1⟩ := h;obtain rfl := k46_open s1;exact rfl
theorem k48_openM {w : World} {base : Nat} {ok : Nat → Prop} {x : S48} {cs : List Value} (h : k48.M w base ok x cs) : cs = [.int .i64 x.f0, .int .i64 x.f1.f0.f0, .int .i64 x.f1.f0.f1, .int .i64 x.f1.f1.f0, .int .i64 x.f1.f1.f1, .int .i64 x.f1.f2.f0, .int .i64 x.f1.f2.f1] := by
 obtain ⟨_, _, rfl, rfl, s1⟩ := h;obtain rfl := k46_openM s1;exact rfl
theorem k48_mk (w : World) (x : S48)  : k48.K w x [.int .i64 x.f0, .int .i64 x.f1.f0.f0, .int .i64 x.f1.f0.f1, .int .i64 x.f1.f1.f0, .int .i64 x.f1.f1.f1, .int .i64 x.f1.f2.f0, .int .i64 x.f1.f2.f1] := ⟨[.int .i64 x.f0], [.int .i64 x.f1.f0.f0, .int .i64 x.f1.f0.f1, .int .i64 x.f1.f1.f0, .int .i64 x.f1.f1.f1, .int .i64 x.f1.f2.f0, .int .i64 x.f1.f2.f1], rfl, rfl, (k46_mk w x.f1 )⟩
theorem k48_mkM (w : World) (base : Nat) (ok : Nat → Prop) (x : S48)  : k48.M w base ok x [.int .i64 x.f0, .int .i64 x.f1.f0.f0, .int .i64 x.f1.f0.f1, .int .i64 x.f1.f1.f0, .int .i64 x.f1.f1.f1, .int .i64 x.f1.f2.f0, .int .i64 x.f1.f2.f1] := ⟨[.int .i64 x.f0], [.int .i64 x.f1.f0.f0, .int .i64 x.f1.f0.f1, .int .i64 x.f1.f1.f0, .int .i64 x.f1.f1.f1, .int .i64 x.f1.f2.f0, .int .i64 x.f1.f2.f1], rfl, rfl, (k46_mkM w base ok x.f1 )⟩
theorem k48_mkF (W : World) (ok : Nat → Prop) (x : S48) : Kd.FK k48 W ok x [.int .i64 x.f0, .int .i64 x.f1.f0.f0, .int .i64 x.f1.f0.f1, .int .i64 x.f1.f1.f0, .int .i64 x.f1.f1.f1, .int .i64 x.f1.f2.f0, .int .i64 x.f1.f2.f1] := fun W2 _ => k48_mk W2 x
def rd_T48 (xs : List S48) (i : Int) : S48 := xs.getD i.toNat z48
theorem at_T48 {w : World} {A : Option Addr} {n : Nat} {xs : List S48} (h : Kd.C k48 w A n xs) (i : Int) (h0 : 0 ≤ i) (h1 : i < n) : ∃ ad , A = some ad ∧ w.cell? (ad.add (i.toNat * 7)) = some (.int .i64 (rd_T48 xs i).f0) ∧ w.cell? ⟨(ad.add (i.toNat * 7)).block, (ad.add (i.toNat * 7)).off + 1, none⟩ = some (.int .i64 (rd_T48 xs i).f1.f0.f0) ∧ w.cell? ⟨(ad.add (i.toNat * 7)).block, (ad.add (i.toNat * 7)).off + 2, none⟩ = some (.int .i64 (rd_T48 xs i).f1.f0.f1) ∧ w.cell? ⟨(ad.add (i.toNat * 7)).block, (ad.add (i.toNat * 7)).off + 3, none⟩ = some (.int .i64 (rd_T48 xs i).f1.f1.f0) ∧ w.cell? ⟨(ad.add (i.toNat * 7)).block, (ad.add (i.toNat * 7)).off + 4, none⟩ = some (.int .i64 (rd_T48 xs i).f1.f1.f1) ∧ w.cell? ⟨(ad.add (i.toNat * 7)).block, (ad.add (i.toNat * 7)).off + 5, none⟩ = some (.int .i64 (rd_T48 xs i).f1.f2.f0) ∧ w.cell? ⟨(ad.add (i.toNat * 7)).block, (ad.add (i.toNat * 7)).off + 6, none⟩ = some (.int .i64 (rd_T48 xs i).f1.f2.f1) := by
 obtain ⟨ad, c, e, _, hK, hc0⟩ := Kd.C_get h z48 i h0 h1;have hc : ∀ j u, c[j]? = some u → w.cell? (ad.add (i.toNat * 7 + j)) = some u := hc0;obtain rfl := k48_open hK;exact ⟨ad, e, hc 0 _ rfl, by rw [← add_field _ _ 1 (by omega)]; exact hc 1 _ rfl, by rw [← add_field _ _ 2 (by omega)]; exact hc 2 _ rfl, by rw [← add_field _ _ 3 (by omega)]; exact hc 3 _ rfl, by rw [← add_field _ _ 4 (by omega)]; exact hc 4 _ rfl, by rw [← add_field _ _ 5 (by omega)]; exact hc 5 _ rfl, by rw [← add_field _ _ 6 (by omega)]; exact hc 6 _ rfl⟩

def rd_L10 (xs : List (List S48)) (i : Int) : (List S48) := xs.getD i.toNat ([] : List S48)
theorem at_L10 {w : World} {A : Option Addr} {n : Nat} {xs : List (List S48)} (h : Kd.C (Kd.slice 48 k48) w A n xs) (i : Int) (h0 : 0 ≤ i) (h1 : i < n) : ∃ ad A0 c0, A = some ad ∧ w.cell? (ad.add i.toNat) = some (.slice A0 (rd_L10 xs i).length c0) ∧ (rd_L10 xs i).length ≤ c0 ∧ k48.C w A0 (rd_L10 xs i).length (rd_L10 xs i) := by
 obtain ⟨ad, c, e, _, hK, hc0⟩ := Kd.C_get h ([] : List S48) i h0 h1;have hc : ∀ j u, c[j]? = some u → w.cell? (ad.add (i.toNat * 1 + j)) = some u := hc0;obtain ⟨A0, c0, rfl, l0, g0⟩ := hK;exact ⟨ad, A0, c0, e, by have hq := hc 0 _ rfl; rwa [Nat.mul_one, Nat.add_zero] at hq, l0, g0⟩

structure S32 where
 f0 : (List S58)
 f1 : (List S48)
def z32 : S32 := ⟨([] : List S58), ([] : List S48)⟩
def k32 : Kd S32 := Kd.iso (Kd.pair (Kd.slice 58 k58) (Kd.slice 48 k48)) (fun x : S32 => (x.f0, x.f1))
theorem k32_heap : Kd.Heap k32 := Kd.heap_iso _ (Kd.heap_pair (Kd.heap_slice 58 k58_heap) (Kd.heap_slice 48 k48_heap))
theorem k32_open {w : World} {x : S32} {cs : List Value} (h : k32.K w x cs) : ∃ A0 c0 A1 c1, cs = [.slice A0 x.f0.length c0, .slice A1 x.f1.length c1] ∧ x.f0.length ≤ c0 ∧ k58.C w A0 x.f0.length x.f0 ∧ x.f1.length ≤ c1 ∧ k48.C w A1 x.f1.length x.f1 := by
 obtain ⟨_, _, rfl, ⟨A0, c0, rfl, l0, g0⟩, ⟨A1, c1, rfl, l1, g1⟩⟩ := h;exact ⟨A0, c0, A1, c1, rfl, l0, g0, l1, g1⟩
theorem k32_openM {w : World} {base : Nat} {ok : Nat → Prop} {x : S32} {cs : List Value} (h : k32.M w base ok x cs) : ∃ v0 v1, cs = [v0, v1] ∧ k58.R 58 w base ok v0 x.f0 ∧ k48.R 48 w base ok v1 x.f1 := by
 obtain ⟨_, _, rfl, ⟨v0, rfl, g0⟩, ⟨v1, rfl, g1⟩⟩ := h;exact ⟨v0, v1, rfl, g0, g1⟩
theorem k32_mk (w : World) (x : S32) {A0 : Option Addr} {c0 : Nat} (l0 : x.f0.length ≤ c0) (g0 : k58.C w A0 x.f0.length x.f0) {A1 : Option Addr} {c1 : Nat} (l1 : x.f1.length ≤ c1) (g1 : k48.C w A1 x.f1.length x.f1) : k32.K w x [.slice A0 x.f0.length c0, .slice A1 x.f1.length c1] := ⟨[.slice A0 x.f0.length c0], [.slice A1 x.f1.length c1], rfl, ⟨A0, c0, rfl, l0, g0⟩, ⟨A1, c1, rfl, l1, g1⟩⟩
theorem k32_mkM (w : World) (base : Nat) (ok : Nat → Prop) (x : S32) {v0 : Value} (g0 : k58.R 58 w base ok v0 x.f0) {v1 : Value} (g1 : k48.R 48 w base ok v1 x.f1) : k32.M w base ok x [v0, v1] := ⟨[v0], [v1], rfl, ⟨v0, rfl, g0⟩, ⟨v1, rfl, g1⟩⟩
theorem k32_openF {W : World} {ok : Nat → Prop} {x : S32} {cs : List Value} (h : Kd.FK k32 W ok x cs) : ∃ A0 c0 A1 c1, cs = [.slice A0 x.f0.length c0, .slice A1 x.f1.length c1] ∧ x.f0.length ≤ c0 ∧ Kd.F k58 W ok A0 x.f0.length x.f0 ∧ x.f1.length ≤ c1 ∧ Kd.F k48 W ok A1 x.f1.length x.f1 := by
 obtain ⟨A0, c0, A1, c1, rfl, l0, _, l1, _⟩ := k32_open (Kd.FK_now h);exact ⟨A0, c0, A1, c1, rfl, l0, (fun W' hW => by obtain ⟨A0_, c0_, A1_, c1_, he, l0_, g0_, l1_, g1_⟩ := k32_open (h W' hW); injection (Option.some.inj (show some (Value.slice A0 x.f0.length c0) = some (Value.slice A0_ x.f0.length c0_) from congrArg (fun l => l[0]?) he)) with ha_ _ _; rw [ha_]; exact g0_), l1, (fun W' hW => by obtain ⟨A0_, c0_, A1_, c1_, he, l0_, g0_, l1_, g1_⟩ := k32_open (h W' hW); injection (Option.some.inj (show some (Value.slice A1 x.f1.length c1) = some (Value.slice A1_ x.f1.length c1_) from congrArg (fun l => l[1]?) he)) with ha_ _ _; rw [ha_]; exact g1_)⟩
theorem k32_mkF (W : World) (ok : Nat → Prop) (x : S32) {A0 : Option Addr} {c0 : Nat} (l0 : x.f0.length ≤ c0) (g0 : Kd.F k58 W ok A0 x.f0.length x.f0) {A1 : Option Addr} {c1 : Nat} (l1 : x.f1.length ≤ c1) (g1 : Kd.F k48 W ok A1 x.f1.length x.f1) : Kd.FK k32 W ok x [.slice A0 x.f0.length c0, .slice A1 x.f1.length c1] := fun W2 hW => k32_mk W2 x l0 (g0 W2 hW) l1 (g1 W2 hW)
def rd_T32 (xs : List S32) (i : Int) : S32 := xs.getD i.toNat z32
theorem at_T32 {w : World} {A : Option Addr} {n : Nat} {xs : List S32} (h : Kd.C k32 w A n xs) (i : Int) (h0 : 0 ≤ i) (h1 : i < n) : ∃ ad A0 c0 A1 c1, A = some ad ∧ w.cell? (ad.add (i.toNat * 2)) = some (.slice A0 (rd_T32 xs i).f0.length c0) ∧ w.cell? ⟨(ad.add (i.toNat * 2)).block, (ad.add (i.toNat * 2)).off + 1, none⟩ = some (.slice A1 (rd_T32 xs i).f1.length c1) ∧ (rd_T32 xs i).f0.length ≤ c0 ∧ k58.C w A0 (rd_T32 xs i).f0.length (rd_T32 xs i).f0 ∧ (rd_T32 xs i).f1.length ≤ c1 ∧ k48.C w A1 (rd_T32 xs i).f1.length (rd_T32 xs i).f1 := by
 obtain ⟨ad, c, e, _, hK, hc0⟩ := Kd.C_get h z32 i h0 h1;have hc : ∀ j u, c[j]? = some u → w.cell? (ad.add (i.toNat * 2 + j)) = some u := hc0;obtain ⟨A0, c0, A1, c1, rfl, l0, g0, l1, g1⟩ := k32_open hK;exact ⟨ad, A0, c0, A1, c1, e, hc 0 _ rfl, by rw [← add_field _ _ 1 (by omega)]; exact hc 1 _ rfl, l0, g0, l1, g1⟩

structure S68 where
 f0 : S44
 f1 : S56
def z68 : S68 := ⟨z44, z56⟩
def k68 : Kd S68 := Kd.iso (Kd.pair k44 k56) (fun x : S68 => (x.f0, x.f1))
theorem k68_heap : Kd.Heap k68 := Kd.heap_iso _ (Kd.heap_pair k44_heap k56_heap)
theorem k68_open {w : World} {x : S68} {cs : List Value} (h : k68.K w x cs) : ∃ A3 c3, cs = [.int .i64 x.f0.f0, .int .i64 x.f0.f1, .int .i64 x.f1.f0, .slice A3 x.f1.f1.length c3] ∧ x.f1.f1.length ≤ c3 ∧ k44.C w A3 x.f1.f1.length x.f1.f1 := by
 obtain ⟨_, _, rfl, s0, s2⟩ := h;obtain rfl := k44_open s0;obtain ⟨A3, c3, rfl, l3, g3⟩ := k56_open s2;exact ⟨A3, c3, rfl, l3, g3⟩
theorem k68_openM {w : World} {base : Nat} {ok : Nat → Prop} {x : S68} {cs : List Value} (h : k68.M w base ok x cs) : ∃ v3, cs = [.int .i64 x.f0.f0, .int .i64 x.f0.f1, .int .i64 x.f1.f0, v3] ∧ k44.R 44 w base ok v3 x.f1.f1 := by
 obtain ⟨_, _, rfl, s0, s2⟩ := h;obtain rfl := k44_openM s0;obtain ⟨v3, rfl, g3⟩ := k56_openM s2;exact ⟨v3, rfl, g3⟩
theorem k68_mk (w : World) (x : S68) {A3 : Option Addr} {c3 : Nat} (l3 : x.f1.f1.length ≤ c3) (g3 : k44.C w A3 x.f1.f1.length x.f1.f1) : k68.K w x [.int .i64 x.f0.f0, .int .i64 x.f0.f1, .int .i64 x.f1.f0, .slice A3 x.f1.f1.length c3] := ⟨[.int .i64 x.f0.f0, .int .i64 x.f0.f1], [.int .i64 x.f1.f0, .slice A3 x.f1.f1.length c3], rfl, (k44_mk w x.f0 ), (k56_mk w x.f1 l3 g3)⟩
theorem k68_mkM (w : World) (base : Nat) (ok : Nat → Prop) (x : S68) {v3 : Value} (g3 : k44.R 44 w base ok v3 x.f1.f1) : k68.M w base ok x [.int .i64 x.f0.f0, .int .i64 x.f0.f1, .int .i64 x.f1.f0, v3] := ⟨[.int .i64 x.f0.f0, .int .i64 x.f0.f1], [.int .i64 x.f1.f0, v3], rfl, (k44_mkM w base ok x.f0 ), (k56_mkM w base ok x.f1 g3)⟩
theorem k68_openF {W : World} {ok : Nat → Prop} {x : S68} {cs : List Value} (h : Kd.FK k68 W ok x cs) : ∃ A3 c3, cs = [.int .i64 x.f0.f0, .int .i64 x.f0.f1, .int .i64 x.f1.f0, .slice A3 x.f1.f1.length c3] ∧ x.f1.f1.length ≤ c3 ∧ Kd.F k44 W ok A3 x.f1.f1.length x.f1.f1 := by
 obtain ⟨A3, c3, rfl, l3, _⟩ := k68_open (Kd.FK_now h);exact ⟨A3, c3, rfl, l3, (fun W' hW => by obtain ⟨A3_, c3_, he, l3_, g3_⟩ := k68_open (h W' hW); injection (Option.some.inj (show some (Value.slice A3 x.f1.f1.length c3) = some (Value.slice A3_ x.f1.f1.length c3_) from congrArg (fun l => l[3]?) he)) with ha_ _ _; rw [ha_]; exact g3_)⟩
theorem k68_mkF (W : World) (ok : Nat → Prop) (x : S68) {A3 : Option Addr} {c3 : Nat} (l3 : x.f1.f1.length ≤ c3) (g3 : Kd.F k44 W ok A3 x.f1.f1.length x.f1.f1) : Kd.FK k68 W ok x [.int .i64 x.f0.f0, .int .i64 x.f0.f1, .int .i64 x.f1.f0, .slice A3 x.f1.f1.length c3] := fun W2 hW => k68_mk W2 x l3 (g3 W2 hW)
def rd_T68 (xs : List S68) (i : Int) : S68 := xs.getD i.toNat z68
theorem at_T68 {w : World} {A : Option Addr} {n : Nat} {xs : List S68} (h : Kd.C k68 w A n xs) (i : Int) (h0 : 0 ≤ i) (h1 : i < n) : ∃ ad A3 c3, A = some ad ∧ w.cell? (ad.add (i.toNat * 4)) = some (.int .i64 (rd_T68 xs i).f0.f0) ∧ w.cell? ⟨(ad.add (i.toNat * 4)).block, (ad.add (i.toNat * 4)).off + 1, none⟩ = some (.int .i64 (rd_T68 xs i).f0.f1) ∧ w.cell? ⟨(ad.add (i.toNat * 4)).block, (ad.add (i.toNat * 4)).off + 2, none⟩ = some (.int .i64 (rd_T68 xs i).f1.f0) ∧ w.cell? ⟨(ad.add (i.toNat * 4)).block, (ad.add (i.toNat * 4)).off + 3, none⟩ = some (.slice A3 (rd_T68 xs i).f1.f1.length c3) ∧ (rd_T68 xs i).f1.f1.length ≤ c3 ∧ k44.C w A3 (rd_T68 xs i).f1.f1.length (rd_T68 xs i).f1.f1 := by
 obtain ⟨ad, c, e, _, hK, hc0⟩ := Kd.C_get h z68 i h0 h1;have hc : ∀ j u, c[j]? = some u → w.cell? (ad.add (i.toNat * 4 + j)) = some u := hc0;obtain ⟨A3, c3, rfl, l3, g3⟩ := k68_open hK;exact ⟨ad, A3, c3, e, hc 0 _ rfl, by rw [← add_field _ _ 1 (by omega)]; exact hc 1 _ rfl, by rw [← add_field _ _ 2 (by omega)]; exact hc 2 _ rfl, by rw [← add_field _ _ 3 (by omega)]; exact hc 3 _ rfl, l3, g3⟩


def sawmilllaw16_short.l0 : Nat → List (S28) → Int → Option (Bool)
 | 0, _, _ => none
 | k + 1, x0, x3 => if x3 < (x0.length : Int) then (if x3 ≥ 20 then (some false) else (if 0 ≤ x3 then (if (((rd_T28 x0 x3).f0).size : Int) > 100 then (some false) else (sawmilllaw16_short.l0 k x0 (wrap64 (x3 + 1)))) else (none))) else (some true)
def sawmilllaw16_short.f (k : Nat) (l0 : List (S28)) : Option (Bool) := sawmilllaw16_short.l0 k l0 0
theorem sawmilllaw16_short.mono_l : ∀ k, (∀ y0 y1, LeO (sawmilllaw16_short.l0 k y0 y1) (sawmilllaw16_short.l0 (k + 1) y0 y1))
 | 0 => fun _ _ r h => by simp [sawmilllaw16_short.l0] at h
 | k + 1 => by
  have ih0 := sawmilllaw16_short.mono_l k
  ·intro y0 y1;unfold sawmilllaw16_short.l0
   repeat' first
   | (with_reducible exact ih0 _ _)
   | (with_reducible exact LeO.refl _)
   | (with_reducible exact LeO.none _)
   | (with_reducible refine LeO.ite ?_ ?_)
   | (with_reducible refine LeO.bind ?_ (fun _ => ?_))
   | exact ih0 _ _
   | exact LeO.none _
   | refine LeO.ite ?_ ?_
   | refine LeO.bind ?_ (fun _ => ?_)
theorem sawmilllaw16_short.mono : ∀ a0 k, LeO (sawmilllaw16_short.f k a0) (sawmilllaw16_short.f (k + 1) a0) := by
 intro a0 k;have ih0 := sawmilllaw16_short.mono_l k;unfold sawmilllaw16_short.f
 repeat' first
   | (with_reducible exact ih0 _ _)
   | (with_reducible exact LeO.refl _)
   | (with_reducible exact LeO.none _)
   | (with_reducible refine LeO.ite ?_ ?_)
   | (with_reducible refine LeO.bind ?_ (fun _ => ?_))
   | exact ih0 _ _
   | exact LeO.none _
   | refine LeO.ite ?_ ?_
   | refine LeO.bind ?_ (fun _ => ?_)
set_option maxHeartbeats 8000000 in
set_option maxRecDepth 100000 in
theorem sawmilllaw16_short.calls (k : Nat) (A0 : Option Addr) (c0 : Nat) (l0 : List (S28)) (r : Bool) (w : World) (hr0 : Kd.C k28 w A0 l0.length l0) (hc0 : l0.length ≤ c0) (h : sawmilllaw16_short.f k l0 = some r) :
  Calls Try.prog 10 #[.slice A0 l0.length c0] w fun e w' => e = .returned (.bool r) ∧ Drawn0 w w' := by
 have HR0 := Aside0.mk hr0;have HC0 := Aside0.mk hc0;clear hr0 hc0;have H : (sawmilllaw16_short.l0 k l0 0) = some r := h;clear h;have H' := Aside0.mk H;clear H;go_enter Try.func10, Try.ntmps10;go_wp2
 go_loopg [3] k (fun kq v3 w' => ∃ (x3_1 : Int), v3 = .int .i64 x3_1 ∧ Aside0 (sawmilllaw16_short.l0 kq l0 x3_1 = some r) ∧ Aside0 (kq ≤ k) ∧ Drawn0 w w')
 case atStart => exact ⟨(0), rs_, H', ⟨Nat.le_refl _⟩, by repeat (first | exact Drawn0.refl _ | apply Drawn0.step)⟩
 case round =>
  clear H';(try clear c1);obtain ⟨x3_1, rfl, HA, HK1, ⟨m1, rfl⟩⟩ := hrel;cases gk with
  | zero => exact absurd HA.out (by simp [sawmilllaw16_short.l0])
  | succ k1 =>
   have H := HA.out;clear HA;simp only [sawmilllaw16_short.l0] at H
   by_cases c2 : x3_1 < (l0.length : Int)
   ·rw [if_pos c2] at H;have c2b0 : decide (x3_1 < (l0.length : Int)) = true := decide_eq_true c2;clear c2
    by_cases c3 : x3_1 ≥ 20
    ·rw [if_pos c3] at H;have c3b0 : decide (20 ≤ x3_1) = true := decide_eq_true c3;clear c3;obtain rfl := Option.some.inj H;go_wp2;go_ret;exact ⟨by first | rfl | (simp; done) | (simp [*]; done), by repeat (first | exact Drawn0.refl _ | apply Drawn0.step)⟩
    ·rw [if_neg c3] at H;have c3b0 : decide (20 ≤ x3_1) = false := decide_eq_false c3;clear c3
     by_cases c4 : 0 ≤ x3_1
     ·rw [if_pos c4] at H;have c4b0 : decide (0 ≤ x3_1) = true := decide_eq_true c4;clear c4
      by_cases c5 : (((rd_T28 l0 x3_1).f0).size : Int) > 100
      ·rw [if_pos c5] at H;have c5b0 : decide (100 < (((rd_T28 l0 x3_1).f0).size : Int)) = true := decide_eq_true c5;have c5b1 : decide (100 < ((rd_T28 l0 x3_1).f0).size) = true := decide_eq_true (by omega);clear c5;obtain rfl := Option.some.inj H;have pq1 : 0 ≤ (x3_1 : Int) := as_;have qq1 : x3_1 < (l0.length : Int) := as_;obtain ⟨adq1, eq1, hxq1_0, hxq1_1, hxq1_2, hxq1_3, hxq1_4, hxq1_5, hxq1_6, hxq1_7, hxq1_8⟩ := at_T28 HR0.out x3_1 pq1 qq1;cases eq1;replace pq1 := eq_true pq1;replace qq1 := eq_true qq1;go_wp2;go_ret;exact ⟨by first | rfl | (simp; done) | (simp [*]; done), by repeat (first | exact Drawn0.refl _ | apply Drawn0.step)⟩
      ·rw [if_neg c5] at H;have c5b0 : decide (100 < (((rd_T28 l0 x3_1).f0).size : Int)) = false := decide_eq_false c5;have c5b1 : decide (100 < ((rd_T28 l0 x3_1).f0).size) = false := decide_eq_false (by omega);clear c5;have H' := Aside0.mk H;clear H;have pq1 : 0 ≤ (x3_1 : Int) := as_;have qq1 : x3_1 < (l0.length : Int) := as_;obtain ⟨adq1, eq1, hxq1_0, hxq1_1, hxq1_2, hxq1_3, hxq1_4, hxq1_5, hxq1_6, hxq1_7, hxq1_8⟩ := at_T28 HR0.out x3_1 pq1 qq1;cases eq1;replace pq1 := eq_true pq1;replace qq1 := eq_true qq1;go_wp2
       go_roundg k1
       case measure => have := HK1.out; omega
       case rel => exact ⟨(wrap64 (x3_1 + 1)), rs_, H', ⟨by have := HK1.out; omega⟩, by repeat (first | exact Drawn0.refl _ | apply Drawn0.step)⟩
     ·rw [if_neg c4] at H;exact absurd H (by simp)
   ·rw [if_neg c2] at H;have c2b0 : decide (x3_1 < (l0.length : Int)) = false := decide_eq_false c2;clear c2;obtain rfl := Option.some.inj H;go_wp2;go_ret;exact ⟨by first | rfl | (simp; done) | (simp [*]; done), by repeat (first | exact Drawn0.refl _ | apply Drawn0.step)⟩


def ident_digit.f (a0 : Int) : Option (Bool) := if 48 ≤ a0 then (some (decide (a0 ≤ 57))) else (some false)
set_option maxHeartbeats 8000000 in
set_option maxRecDepth 100000 in
theorem ident_digit.calls (a0 : Int) (r : Bool) (w : World) (h : ident_digit.f a0 = some r) :
  Calls Try.prog 39 #[.int .u8 a0] w fun e w' => e = .returned (.bool r) ∧ Drawn0 w w' := by
 have H : (if 48 ≤ a0 then (some (decide (a0 ≤ 57))) else (some false)) = some r := h;clear h
 by_cases c2 : 48 ≤ a0
 ·rw [if_pos c2] at H;have c2b0 : decide (48 ≤ a0) = true := decide_eq_true c2;clear c2;obtain rfl := Option.some.inj H;go_enter Try.func39, Try.ntmps39;go_wp2;go_ret;exact ⟨by first | rfl | (simp; done) | (simp [*]; done), by repeat (first | exact Drawn0.refl _ | apply Drawn0.step)⟩
 ·rw [if_neg c2] at H;have c2b0 : decide (48 ≤ a0) = false := decide_eq_false c2;clear c2;obtain rfl := Option.some.inj H;go_enter Try.func39, Try.ntmps39;go_wp2;go_ret;exact ⟨by first | rfl | (simp; done) | (simp [*]; done), by repeat (first | exact Drawn0.refl _ | apply Drawn0.step)⟩


mutual
def ident_IsName.j0 : Nat → ByteArray → Bool → Option (Bool)
 | 0, _, _ => none
 | k + 1, x0, x21 => if x21 = true then (some false) else (ident_IsName.l0 k x0 (x0.size : Int) 0)
def ident_IsName.l0 : Nat → ByteArray → Int → Int → Option (Bool)
 | 0, _, _, _ => none
 | k + 1, x0, x23, x24 => if x24 < x23 then (if 0 ≤ x24 then (if x24 < (x0.size : Int) then ((ident_digit.f (bt x0 x24)).bind fun tq2 => (if tq2 = true then (ident_IsName.l0 k x0 x23 (wrap64 (x24 + 1))) else (if (bt x0 x24) = 95 then (ident_IsName.l0 k x0 x23 (wrap64 (x24 + 1))) else (if (bt x0 x24) < 97 then (some false) else (if (bt x0 x24) > 122 then (some false) else (ident_IsName.l0 k x0 x23 (wrap64 (x24 + 1)))))))) else (none)) else (none)) else (some true)
end
def ident_IsName.f (k : Nat) (a0 : ByteArray) : Option (Bool) := if a0.toList = ([] : List UInt8) then (ident_IsName.j0 k a0 true) else (if (a0.size : Int) > 16 then (ident_IsName.j0 k a0 true) else (if 0 < (a0.size : Int) then ((ident_digit.f (bt a0 0)).bind fun tq1 => (if tq1 = true then (ident_IsName.j0 k a0 true) else (ident_IsName.j0 k a0 ((bt a0 0) == 95)))) else (none)))
theorem ident_IsName.mono_l : ∀ k, (∀ y0 y1, LeO (ident_IsName.j0 k y0 y1) (ident_IsName.j0 (k + 1) y0 y1)) ∧ (∀ y0 y1 y2, LeO (ident_IsName.l0 k y0 y1 y2) (ident_IsName.l0 (k + 1) y0 y1 y2))
 | 0 => ⟨fun _ _ r h => by simp [ident_IsName.j0] at h, fun _ _ _ r h => by simp [ident_IsName.l0] at h⟩
 | k + 1 => by
  obtain ⟨ih0, ih1⟩ := ident_IsName.mono_l k;refine ⟨?_, ?_⟩
  ·intro y0 y1;unfold ident_IsName.j0
   repeat' first
   | (with_reducible exact ih0 _ _)
   | (with_reducible exact ih1 _ _ _)
   | (with_reducible exact LeO.refl _)
   | (with_reducible exact LeO.none _)
   | (with_reducible refine LeO.ite ?_ ?_)
   | (with_reducible refine LeO.bind ?_ (fun _ => ?_))
   | exact ih0 _ _
   | exact ih1 _ _ _
   | exact LeO.none _
   | refine LeO.ite ?_ ?_
   | refine LeO.bind ?_ (fun _ => ?_)
  ·intro y0 y1 y2;unfold ident_IsName.l0
   repeat' first
   | (with_reducible exact ih0 _ _)
   | (with_reducible exact ih1 _ _ _)
   | (with_reducible exact LeO.refl _)
   | (with_reducible exact LeO.none _)
   | (with_reducible refine LeO.ite ?_ ?_)
   | (with_reducible refine LeO.bind ?_ (fun _ => ?_))
   | exact ih0 _ _
   | exact ih1 _ _ _
   | exact LeO.none _
   | refine LeO.ite ?_ ?_
   | refine LeO.bind ?_ (fun _ => ?_)
theorem ident_IsName.mono : ∀ a0 k, LeO (ident_IsName.f k a0) (ident_IsName.f (k + 1) a0) := by
 intro a0 k;obtain ⟨ih0, ih1⟩ := ident_IsName.mono_l k;unfold ident_IsName.f
 repeat' first
   | (with_reducible exact ih0 _ _)
   | (with_reducible exact ih1 _ _ _)
   | (with_reducible exact LeO.refl _)
   | (with_reducible exact LeO.none _)
   | (with_reducible refine LeO.ite ?_ ?_)
   | (with_reducible refine LeO.bind ?_ (fun _ => ?_))
   | exact ih0 _ _
   | exact ih1 _ _ _
   | exact LeO.none _
   | refine LeO.ite ?_ ?_
   | refine LeO.bind ?_ (fun _ => ?_)
set_option maxHeartbeats 8000000 in
set_option maxRecDepth 100000 in
theorem ident_IsName.calls (k : Nat) (a0 : ByteArray) (r : Bool) (w : World) (h : ident_IsName.f k a0 = some r) :
  Calls Try.prog 23 #[.string a0] w fun e w' => e = .returned (.bool r) ∧ Drawn0 w w' := by
 have H : (if a0.toList = ([] : List UInt8) then (ident_IsName.j0 k a0 true) else (if (a0.size : Int) > 16 then (ident_IsName.j0 k a0 true) else (if 0 < (a0.size : Int) then ((ident_digit.f (bt a0 0)).bind fun tq1 => (if tq1 = true then (ident_IsName.j0 k a0 true) else (ident_IsName.j0 k a0 ((bt a0 0) == 95)))) else (none)))) = some r := h;clear h;have HC2 := Aside0.mk H;clear H;go_enter Try.func23, Try.ntmps23
 go_upto_region 1 with (fail)
 go_cut [21] (fun v21 wc => ∃ (kq : Nat) (x21_1 : Bool), v21 = .bool x21_1 ∧ Aside0 (ident_IsName.j0 kq a0 x21_1 = some r) ∧ Aside0 (kq ≤ k) ∧ Drawn0 w wc)
 case first =>
  have H := HC2.out;clear HC2
  by_cases c3 : a0.toList = ([] : List UInt8)
  ·rw [if_pos c3] at H;have c3b0 : (a0.toList == ([] : List UInt8)) = true := beq_iff_eq.mpr c3;have c3b1 : (a0.toList != ([] : List UInt8)) = false := bne_eq_false_iff_eq.mpr c3;clear c3;(first | rw [c3b0] | (simp only [i64_w, i32_w]; rw [c3b0]) | skip);have H' := Aside0.mk H;clear H;go_wp2
   go_meet
   case rel => exact ⟨_, (true), rs_, H', ⟨by first | omega | exact Nat.le_refl _⟩, by repeat (first | exact Drawn0.refl _ | apply Drawn0.step)⟩
  ·rw [if_neg c3] at H;have c3b0 : (a0.toList == ([] : List UInt8)) = false := beq_eq_false_iff_ne.mpr c3;have c3b1 : (a0.toList != ([] : List UInt8)) = true := bne_iff_ne.mpr c3;(first | rw [c3b0] | (simp only [i64_w, i32_w]; rw [c3b0]) | skip)
   by_cases c4 : (a0.size : Int) > 16
   ·rw [if_pos c4] at H;have c4b0 : decide (16 < (a0.size : Int)) = true := decide_eq_true c4;have c4b1 : decide (16 < a0.size) = true := decide_eq_true (by omega);clear c4;have H' := Aside0.mk H;clear H;go_wp2
    go_meet
    case rel => exact ⟨_, (true), rs_, H', ⟨by first | omega | exact Nat.le_refl _⟩, by repeat (first | exact Drawn0.refl _ | apply Drawn0.step)⟩
   ·rw [if_neg c4] at H;have c4b0 : decide (16 < (a0.size : Int)) = false := decide_eq_false c4;have c4b1 : decide (16 < a0.size) = false := decide_eq_false (by omega);clear c4
    by_cases c5 : 0 < (a0.size : Int)
    ·rw [if_pos c5] at H;have c5b0 : decide (0 < (a0.size : Int)) = true := decide_eq_true c5;have c5b1 : decide (0 < a0.size) = true := decide_eq_true (by omega);clear c5;replace H := Option.bind_eq_some_iff.mp H;obtain ⟨tq1, A70, H⟩ := H;replace H : (if tq1 = true then (ident_IsName.j0 k a0 true) else (ident_IsName.j0 k a0 ((bt a0 0) == 95))) = some r := H;have A7 := Aside0.mk A70;clear A70
     by_cases c8 : tq1 = true
     ·subst c8;(have H1 : (ident_IsName.j0 k a0 true) = some r := by rw [if_pos rfl] at H; exact H);clear H;have H := H1;clear H1;have H' := Aside0.mk H;clear H;have p6 : 0 ≤ (0 : Int) := (by omega);have q6 : 0 < a0.size := (by have : (0 : Int) < (a0.size : Int) := as_; omega);have hx6 : ∀ h : 0 < a0.size, ((a0[0]'h).toNat : Int) = bt a0 0 := bt_at a0 0;clear p6;have qi6 : (0 < (a0.size : Int)) = True := eq_true (as_);replace q6 := eq_true q6;go_wp2_with (first | (go_at_call 39; (with_reducible refine (ident_digit.calls (bt a0 0) true _ A7.out).mono ?_); rintro e w' ⟨rfl, ⟨nd, rfl⟩⟩))
      go_meet
      case rel => exact ⟨_, (true), rs_, H', ⟨by first | omega | exact Nat.le_refl _⟩, by repeat (first | exact Drawn0.refl _ | apply Drawn0.step)⟩
     ·replace c8 := Bool.eq_false_iff.mpr c8;subst c8;(have H1 : (ident_IsName.j0 k a0 ((bt a0 0) == 95)) = some r := by rw [if_neg (show ¬ (false = true) by decide)] at H; exact H);clear H;have H := H1;clear H1;have H' := Aside0.mk H;clear H;have p6 : 0 ≤ (0 : Int) := (by omega);have q6 : 0 < a0.size := (by have : (0 : Int) < (a0.size : Int) := as_; omega);have hx6 : ∀ h : 0 < a0.size, ((a0[0]'h).toNat : Int) = bt a0 0 := bt_at a0 0;clear p6;have qi6 : (0 < (a0.size : Int)) = True := eq_true (as_);replace q6 := eq_true q6;go_wp2_with (first | (go_at_call 39; (with_reducible refine (ident_digit.calls (bt a0 0) false _ A7.out).mono ?_); rintro e w' ⟨rfl, ⟨nd, rfl⟩⟩; have p9 : 0 ≤ (0 : Int) := (by omega); have q9 : 0 < a0.size := (by have : (0 : Int) < (a0.size : Int) := as_; omega); have hx9 : ∀ h : 0 < a0.size, ((a0[0]'h).toNat : Int) = bt a0 0 := bt_at a0 0; clear p9; have qi9 : (0 < (a0.size : Int)) = True := eq_true (as_); replace q9 := eq_true q9))
      go_meet
      case rel => exact ⟨_, (((bt a0 0) == 95)), rs_, H', ⟨by first | omega | exact Nat.le_refl _⟩, by repeat (first | exact Drawn0.refl _ | apply Drawn0.step)⟩
    ·rw [if_neg c5] at H;exact absurd H (by simp)
 case rest =>
  clear HC2;(try clear c2);(try clear p2);(try clear c3);(try clear c3b0);(try clear c3b1);(try clear c4);(try clear c4b0);(try clear c4b1);(try clear c5);(try clear c5b0);(try clear c5b1);(try clear p6);(try clear q6);(try clear hx6);(try clear qi6);(try clear c8);(try clear p9);(try clear q9);(try clear hx9);(try clear qi9);(try clear p6);(try clear p9);(try clear q6);(try clear q9);obtain ⟨kq, x21_1, rfl, HA, HJ1, ⟨mc1, rfl⟩⟩ := hcut;cases kq with
  | zero => exact absurd HA.out (by simp [ident_IsName.j0])
  | succ kj1 =>
   have H := HA.out;clear HA;simp only [ident_IsName.j0] at H
   by_cases c10 : x21_1 = true
   ·subst c10;(have H1 : (some false) = some r := by rw [if_pos rfl] at H; exact H);clear H;have H := H1;clear H1;obtain rfl := Option.some.inj H;go_wp2;go_ret;exact ⟨by first | rfl | (simp; done) | (simp [*]; done), by repeat (first | exact Drawn0.refl _ | apply Drawn0.step)⟩
   ·replace c10 := Bool.eq_false_iff.mpr c10;subst c10;(have H1 : (ident_IsName.l0 kj1 a0 (a0.size : Int) 0) = some r := by rw [if_neg (show ¬ (false = true) by decide)] at H; exact H);clear H;have H := H1;clear H1;have H' := Aside0.mk H;clear H;go_wp2
    go_loopg [24] kj1 (fun kq v24 w' => ∃ (x24_2 : Int), v24 = .int .i64 x24_2 ∧ Aside0 (ident_IsName.l0 kq a0 (a0.size : Int) x24_2 = some r) ∧ Aside0 (kq ≤ kj1) ∧ Drawn0 w w')
    case atStart => exact ⟨(0), rs_, H', ⟨Nat.le_refl _⟩, by repeat (first | exact Drawn0.refl _ | apply Drawn0.step)⟩
    case round =>
     clear H';(try clear c1);(try clear c2);(try clear p2);(try clear c3);(try clear c3b0);(try clear c3b1);(try clear c4);(try clear c4b0);(try clear c4b1);(try clear c5);(try clear c5b0);(try clear c5b1);(try clear p6);(try clear q6);(try clear hx6);(try clear qi6);(try clear c8);(try clear p9);(try clear q9);(try clear hx9);(try clear qi9);(try clear c10);(try clear p2);(try clear p6);(try clear p9);(try clear q6);(try clear q9);obtain ⟨x24_2, rfl, HA, HK2, ⟨m2, rfl⟩⟩ := hrel;cases gk with
     | zero => exact absurd HA.out (by simp [ident_IsName.l0])
     | succ k2 =>
      have H := HA.out;clear HA;simp only [ident_IsName.l0] at H
      by_cases c11 : x24_2 < (a0.size : Int)
      ·rw [if_pos c11] at H;have c11b0 : decide (x24_2 < (a0.size : Int)) = true := decide_eq_true c11;clear c11
       by_cases c12 : 0 ≤ x24_2
       ·rw [if_pos c12] at H;have c12b0 : decide (0 ≤ x24_2) = true := decide_eq_true c12;clear c12
        by_cases c13 : x24_2 < (a0.size : Int)
        ·rw [if_pos c13] at H;have c13b0 : decide (x24_2 < (a0.size : Int)) = true := decide_eq_true c13;clear c13;replace H := Option.bind_eq_some_iff.mp H;obtain ⟨tq2, A150, H⟩ := H;replace H : (if tq2 = true then (ident_IsName.l0 k2 a0 (a0.size : Int) (wrap64 (x24_2 + 1))) else (if (bt a0 x24_2) = 95 then (ident_IsName.l0 k2 a0 (a0.size : Int) (wrap64 (x24_2 + 1))) else (if (bt a0 x24_2) < 97 then (some false) else (if (bt a0 x24_2) > 122 then (some false) else (ident_IsName.l0 k2 a0 (a0.size : Int) (wrap64 (x24_2 + 1))))))) = some r := H;have A15 := Aside0.mk A150;clear A150
         by_cases c16 : tq2 = true
         ·subst c16;(have H1 : (ident_IsName.l0 k2 a0 (a0.size : Int) (wrap64 (x24_2 + 1))) = some r := by rw [if_pos rfl] at H; exact H);clear H;have H := H1;clear H1;have H' := Aside0.mk H;clear H;have p14 : 0 ≤ (x24_2 : Int) := as_;have q14 : x24_2 < (a0.size : Int) := as_;have hx14 := bt_at a0 x24_2;replace p14 := eq_true p14;replace q14 := eq_true q14;go_wp2_with (first | ((with_reducible refine gate_callee (f := 39) rfl ?_); refine goesL_ (some 31) rfl rfl Try.func39 (by kernel_rfl) rfl #[.int .u8 (bt a0 x24_2)] rfl la_ ?_; (with_reducible refine (ident_digit.calls (bt a0 x24_2) true _ A15.out).mono ?_); rintro e w' ⟨rfl, ⟨nd, rfl⟩⟩; refine ⟨_, rfl, ?_⟩))
          go_roundg k2
          case measure => have := HJ1.out; have := HK2.out; omega
          case rel => exact ⟨(wrap64 (x24_2 + 1)), rs_, H', ⟨by have := HJ1.out; have := HK2.out; omega⟩, by repeat (first | exact Drawn0.refl _ | apply Drawn0.step)⟩
         ·replace c16 := Bool.eq_false_iff.mpr c16;subst c16;(have H1 : (if (bt a0 x24_2) = 95 then (ident_IsName.l0 k2 a0 (a0.size : Int) (wrap64 (x24_2 + 1))) else (if (bt a0 x24_2) < 97 then (some false) else (if (bt a0 x24_2) > 122 then (some false) else (ident_IsName.l0 k2 a0 (a0.size : Int) (wrap64 (x24_2 + 1)))))) = some r := by rw [if_neg (show ¬ (false = true) by decide)] at H; exact H);clear H;have H := H1;clear H1
          by_cases c17 : (bt a0 x24_2) = 95
          ·rw [if_pos c17] at H;have c17b0 : ((bt a0 x24_2) == 95) = true := beq_iff_eq.mpr c17;have c17b1 : ((bt a0 x24_2) != 95) = false := bne_eq_false_iff_eq.mpr c17;clear c17;have H' := Aside0.mk H;clear H;have p14 : 0 ≤ (x24_2 : Int) := as_;have q14 : x24_2 < (a0.size : Int) := as_;have hx14 := bt_at a0 x24_2;replace p14 := eq_true p14;replace q14 := eq_true q14;go_wp2_with (first | ((with_reducible refine gate_callee (f := 39) rfl ?_); refine goesL_ (some 31) rfl rfl Try.func39 (by kernel_rfl) rfl #[.int .u8 (bt a0 x24_2)] rfl la_ ?_; (with_reducible refine (ident_digit.calls (bt a0 x24_2) false _ A15.out).mono ?_); rintro e w' ⟨rfl, ⟨nd, rfl⟩⟩; refine ⟨_, rfl, ?_⟩))
           go_roundg k2
           case measure => have := HJ1.out; have := HK2.out; omega
           case rel => exact ⟨(wrap64 (x24_2 + 1)), rs_, H', ⟨by have := HJ1.out; have := HK2.out; omega⟩, by repeat (first | exact Drawn0.refl _ | apply Drawn0.step)⟩
          ·rw [if_neg c17] at H;have c17b0 : ((bt a0 x24_2) == 95) = false := beq_eq_false_iff_ne.mpr c17;have c17b1 : ((bt a0 x24_2) != 95) = true := bne_iff_ne.mpr c17
           by_cases c18 : (bt a0 x24_2) < 97
           ·rw [if_pos c18] at H;have c18b0 : decide ((bt a0 x24_2) < 97) = true := decide_eq_true c18;clear c18;obtain rfl := Option.some.inj H;have p14 : 0 ≤ (x24_2 : Int) := as_;have q14 : x24_2 < (a0.size : Int) := as_;have hx14 := bt_at a0 x24_2;replace p14 := eq_true p14;replace q14 := eq_true q14;go_wp2_with (first | ((with_reducible refine gate_callee (f := 39) rfl ?_); refine goesL_ (some 31) rfl rfl Try.func39 (by kernel_rfl) rfl #[.int .u8 (bt a0 x24_2)] rfl la_ ?_; (with_reducible refine (ident_digit.calls (bt a0 x24_2) false _ A15.out).mono ?_); rintro e w' ⟨rfl, ⟨nd, rfl⟩⟩; refine ⟨_, rfl, ?_⟩));go_ret;exact ⟨by first | rfl | (simp; done) | (simp [*]; done), by repeat (first | exact Drawn0.refl _ | apply Drawn0.step)⟩
           ·rw [if_neg c18] at H;have c18b0 : decide ((bt a0 x24_2) < 97) = false := decide_eq_false c18;clear c18
            by_cases c19 : (bt a0 x24_2) > 122
            ·rw [if_pos c19] at H;have c19b0 : decide (122 < (bt a0 x24_2)) = true := decide_eq_true c19;clear c19;obtain rfl := Option.some.inj H;have p14 : 0 ≤ (x24_2 : Int) := as_;have q14 : x24_2 < (a0.size : Int) := as_;have hx14 := bt_at a0 x24_2;replace p14 := eq_true p14;replace q14 := eq_true q14;go_wp2_with (first | ((with_reducible refine gate_callee (f := 39) rfl ?_); refine goesL_ (some 31) rfl rfl Try.func39 (by kernel_rfl) rfl #[.int .u8 (bt a0 x24_2)] rfl la_ ?_; (with_reducible refine (ident_digit.calls (bt a0 x24_2) false _ A15.out).mono ?_); rintro e w' ⟨rfl, ⟨nd, rfl⟩⟩; refine ⟨_, rfl, ?_⟩));go_ret;exact ⟨by first | rfl | (simp; done) | (simp [*]; done), by repeat (first | exact Drawn0.refl _ | apply Drawn0.step)⟩
            ·rw [if_neg c19] at H;have c19b0 : decide (122 < (bt a0 x24_2)) = false := decide_eq_false c19;clear c19;have H' := Aside0.mk H;clear H;have p14 : 0 ≤ (x24_2 : Int) := as_;have q14 : x24_2 < (a0.size : Int) := as_;have hx14 := bt_at a0 x24_2;replace p14 := eq_true p14;replace q14 := eq_true q14;go_wp2_with (first | ((with_reducible refine gate_callee (f := 39) rfl ?_); refine goesL_ (some 31) rfl rfl Try.func39 (by kernel_rfl) rfl #[.int .u8 (bt a0 x24_2)] rfl la_ ?_; (with_reducible refine (ident_digit.calls (bt a0 x24_2) false _ A15.out).mono ?_); rintro e w' ⟨rfl, ⟨nd, rfl⟩⟩; refine ⟨_, rfl, ?_⟩))
             go_roundg k2
             case measure => have := HJ1.out; have := HK2.out; omega
             case rel => exact ⟨(wrap64 (x24_2 + 1)), rs_, H', ⟨by have := HJ1.out; have := HK2.out; omega⟩, by repeat (first | exact Drawn0.refl _ | apply Drawn0.step)⟩
        ·rw [if_neg c13] at H;exact absurd H (by simp)
       ·rw [if_neg c12] at H;exact absurd H (by simp)
      ·rw [if_neg c11] at H;have c11b0 : decide (x24_2 < (a0.size : Int)) = false := decide_eq_false c11;clear c11;obtain rfl := Option.some.inj H;go_wp2;go_ret;exact ⟨by first | rfl | (simp; done) | (simp [*]; done), by repeat (first | exact Drawn0.refl _ | apply Drawn0.step)⟩


mutual
def class_Check.l0 : Nat → List (S28) → List (S28) → Int → Int → Option (Int)
 | 0, _, _, _, _ => none
 | k + 1, x0, x12, x13, x14 => if x14 < x13 then (if 0 ≤ x14 then (if x14 < (x12.length : Int) then ((ident_IsName.f k ((rd_T28 x12 x14).f0)).bind fun tq3 => (if tq3 = true then (if x14 ≤ (x0.length : Int) then ((some (x0.take (x14 : Int).toNat : List (S28))).bind fun yq4 => (class_Check.l1 k x0 x12 x13 x14 yq4 (yq4.length : Int) 0 ((rd_T28 x12 x14).f0) ((rd_T28 x12 x14).f1) ((rd_T28 x12 x14).f2) ((rd_T28 x12 x14).f3) ((rd_T28 x12 x14).f4) ((rd_T28 x12 x14).f5) ((rd_T28 x12 x14).f6) ((rd_T28 x12 x14).f7) ((rd_T28 x12 x14).f8))) else (none)) else (some 6))) else (none)) else (none)) else (some 0)
def class_Check.l1 : Nat → List (S28) → List (S28) → Int → Int → List (S28) → Int → Int → ByteArray → Int → Int → Int → Int → Int → Int → Int → Int → Option (Int)
 | 0, _, _, _, _, _, _, _, _, _, _, _, _, _, _, _, _ => none
 | k + 1, x0, x12, x13, x14, x25, x26, x27, xq3o0, xq3o1, xq3o2, xq3o3, xq3o4, xq3o5, xq3o6, xq3o7, xq3o8 => if x27 < x26 then (if 0 ≤ x27 then (if x27 < (x25.length : Int) then (if ((rd_T28 x25 x27).f0).toList = xq3o0.toList then (some 7) else (class_Check.l1 k x0 x12 x13 x14 x25 x26 (wrap64 (x27 + 1)) xq3o0 xq3o1 xq3o2 xq3o3 xq3o4 xq3o5 xq3o6 xq3o7 xq3o8)) else (none)) else (none)) else (if (mn (mn (mn (mn (mn (mn (mn xq3o1 xq3o2) xq3o3) xq3o4) xq3o5) xq3o6) xq3o7) xq3o8) < 0 then (some 9) else (if (mx (mx (mx (mx (mx (mx (mx xq3o1 xq3o2) xq3o3) xq3o4) xq3o5) xq3o6) xq3o7) xq3o8) > 1000000 then (some 9) else (if xq3o2 > xq3o3 then (some 9) else (class_Check.l0 k x0 x12 x13 (wrap64 (x14 + 1))))))
end
def class_Check.f (k : Nat) (l0 : List (S28)) : Option (Int) := if (l0.length : Int) > 16 then (some 4) else (class_Check.l0 k l0 l0 (l0.length : Int) 0)
theorem class_Check.mono_l : ∀ k, (∀ y0 y1 y2 y3, LeO (class_Check.l0 k y0 y1 y2 y3) (class_Check.l0 (k + 1) y0 y1 y2 y3)) ∧ (∀ y0 y1 y2 y3 y4 y5 y6 y7 y8 y9 y10 y11 y12 y13 y14 y15, LeO (class_Check.l1 k y0 y1 y2 y3 y4 y5 y6 y7 y8 y9 y10 y11 y12 y13 y14 y15) (class_Check.l1 (k + 1) y0 y1 y2 y3 y4 y5 y6 y7 y8 y9 y10 y11 y12 y13 y14 y15))
 | 0 => ⟨fun _ _ _ _ r h => by simp [class_Check.l0] at h, fun _ _ _ _ _ _ _ _ _ _ _ _ _ _ _ _ r h => by simp [class_Check.l1] at h⟩
 | k + 1 => by
  obtain ⟨ih0, ih1⟩ := class_Check.mono_l k;refine ⟨?_, ?_⟩
  ·intro y0 y1 y2 y3;unfold class_Check.l0
   repeat' first
   | (with_reducible exact ih0 _ _ _ _)
   | (with_reducible exact ih1 _ _ _ _ _ _ _ _ _ _ _ _ _ _ _ _)
   | (with_reducible exact ident_IsName.mono _ _)
   | (with_reducible exact LeO.refl _)
   | (with_reducible exact LeO.none _)
   | (with_reducible refine LeO.ite ?_ ?_)
   | (with_reducible refine LeO.bind ?_ (fun _ => ?_))
   | exact ih0 _ _ _ _
   | exact ih1 _ _ _ _ _ _ _ _ _ _ _ _ _ _ _ _
   | exact ident_IsName.mono _ _
   | exact LeO.none _
   | refine LeO.ite ?_ ?_
   | refine LeO.bind ?_ (fun _ => ?_)
  ·intro y0 y1 y2 y3 y4 y5 y6 y7 y8 y9 y10 y11 y12 y13 y14 y15;unfold class_Check.l1
   repeat' first
   | (with_reducible exact ih0 _ _ _ _)
   | (with_reducible exact ih1 _ _ _ _ _ _ _ _ _ _ _ _ _ _ _ _)
   | (with_reducible exact ident_IsName.mono _ _)
   | (with_reducible exact LeO.refl _)
   | (with_reducible exact LeO.none _)
   | (with_reducible refine LeO.ite ?_ ?_)
   | (with_reducible refine LeO.bind ?_ (fun _ => ?_))
   | exact ih0 _ _ _ _
   | exact ih1 _ _ _ _ _ _ _ _ _ _ _ _ _ _ _ _
   | exact ident_IsName.mono _ _
   | exact LeO.none _
   | refine LeO.ite ?_ ?_
   | refine LeO.bind ?_ (fun _ => ?_)
theorem class_Check.mono : ∀ a0 k, LeO (class_Check.f k a0) (class_Check.f (k + 1) a0) := by
 intro a0 k;obtain ⟨ih0, ih1⟩ := class_Check.mono_l k;unfold class_Check.f
 repeat' first
   | (with_reducible exact ih0 _ _ _ _)
   | (with_reducible exact ih1 _ _ _ _ _ _ _ _ _ _ _ _ _ _ _ _)
   | (with_reducible exact ident_IsName.mono _ _)
   | (with_reducible exact LeO.refl _)
   | (with_reducible exact LeO.none _)
   | (with_reducible refine LeO.ite ?_ ?_)
   | (with_reducible refine LeO.bind ?_ (fun _ => ?_))
   | exact ih0 _ _ _ _
   | exact ih1 _ _ _ _ _ _ _ _ _ _ _ _ _ _ _ _
   | exact ident_IsName.mono _ _
   | exact LeO.none _
   | refine LeO.ite ?_ ?_
   | refine LeO.bind ?_ (fun _ => ?_)
set_option maxHeartbeats 8000000 in
set_option maxRecDepth 100000 in
theorem class_Check.calls (k : Nat) (A0 : Option Addr) (c0 : Nat) (l0 : List (S28)) (r : Int) (w : World) (hr0 : Kd.C k28 w A0 l0.length l0) (hc0 : l0.length ≤ c0) (h : class_Check.f k l0 = some r) :
  Calls Try.prog 11 #[.slice A0 l0.length c0] w fun e w' => e = .returned (.int .i64 r) ∧ Below w.heap.size w w' := by
 have hu28 := Try.underlying28;have HR0 := Aside0.mk hr0;have HC0 := Aside0.mk hc0;clear hr0 hc0;have HB := A_ (Below.refl w.heap.size w);have H : (if (l0.length : Int) > 16 then (some 4) else (class_Check.l0 k l0 l0 (l0.length : Int) 0)) = some r := h;clear h
 by_cases c2 : (l0.length : Int) > 16
 ·rw [if_pos c2] at H;have c2b0 : decide (16 < (l0.length : Int)) = true := decide_eq_true c2;have c2b1 : decide (16 < l0.length) = true := decide_eq_true (by omega);clear c2;obtain rfl := Option.some.inj H;go_enter Try.func11, Try.ntmps11;go_wp2;go_ret;exact ⟨er_, be_⟩
 ·rw [if_neg c2] at H;have c2b0 : decide (16 < (l0.length : Int)) = false := decide_eq_false c2;have c2b1 : decide (16 < l0.length) = false := decide_eq_false (by omega);clear c2;have H' := Aside0.mk H;clear H;go_enter Try.func11, Try.ntmps11;go_wp2
  go_loopg [14] k (fun kq v14 w' => ∃ (x14_1 : Int), v14 = .int .i64 x14_1 ∧ Aside0 (class_Check.l0 kq l0 l0 (l0.length : Int) x14_1 = some r) ∧ Aside0 (kq ≤ k) ∧ Aside0 (Below w.heap.size w w'))
  case atStart => exact ⟨(0), rs_, H', ⟨Nat.le_refl _⟩, ⟨be_⟩⟩
  case round =>
   clear H';(try clear c1);(try clear c2);(try clear c2b0);(try clear c2b1);(try clear p2);obtain ⟨x14_1, rfl, HA, HK1, HB⟩ := hrel;cases gk with
   | zero => exact absurd HA.out (by simp [class_Check.l0])
   | succ k1 =>
    have H := HA.out;clear HA;simp only [class_Check.l0] at H
    by_cases c3 : x14_1 < (l0.length : Int)
    ·rw [if_pos c3] at H;have c3b0 : decide (x14_1 < (l0.length : Int)) = true := decide_eq_true c3;clear c3
     by_cases c4 : 0 ≤ x14_1
     ·rw [if_pos c4] at H;have c4b0 : decide (0 ≤ x14_1) = true := decide_eq_true c4;clear c4
      by_cases c5 : x14_1 < (l0.length : Int)
      ·rw [if_pos c5] at H;have c5b0 : decide (x14_1 < (l0.length : Int)) = true := decide_eq_true c5;clear c5;replace H := Option.bind_eq_some_iff.mp H;obtain ⟨tq3, A60, H⟩ := H;replace H : (if tq3 = true then (if x14_1 ≤ (l0.length : Int) then ((some (l0.take (x14_1 : Int).toNat : List (S28))).bind fun yq4 => (class_Check.l1 k1 l0 l0 (l0.length : Int) x14_1 yq4 (yq4.length : Int) 0 ((rd_T28 l0 x14_1).f0) ((rd_T28 l0 x14_1).f1) ((rd_T28 l0 x14_1).f2) ((rd_T28 l0 x14_1).f3) ((rd_T28 l0 x14_1).f4) ((rd_T28 l0 x14_1).f5) ((rd_T28 l0 x14_1).f6) ((rd_T28 l0 x14_1).f7) ((rd_T28 l0 x14_1).f8))) else (none)) else (some 6)) = some r := H;have A6 := Aside0.mk A60;clear A60
       by_cases c7 : tq3 = true
       ·subst c7;(have H1 : (if x14_1 ≤ (l0.length : Int) then ((some (l0.take (x14_1 : Int).toNat : List (S28))).bind fun yq4 => (class_Check.l1 k1 l0 l0 (l0.length : Int) x14_1 yq4 (yq4.length : Int) 0 ((rd_T28 l0 x14_1).f0) ((rd_T28 l0 x14_1).f1) ((rd_T28 l0 x14_1).f2) ((rd_T28 l0 x14_1).f3) ((rd_T28 l0 x14_1).f4) ((rd_T28 l0 x14_1).f5) ((rd_T28 l0 x14_1).f6) ((rd_T28 l0 x14_1).f7) ((rd_T28 l0 x14_1).f8))) else (none)) = some r := by rw [if_pos rfl] at H; exact H);clear H;have H := H1;clear H1;have c8b0 := eq_true (as_ : 0 ≤ x14_1)
        by_cases c9 : x14_1 ≤ (l0.length : Int)
        ·rw [if_pos c9] at H;have c9b0 := eq_true c9;have c9b1 : decide (x14_1 ≤ (l0.length : Int)) = true := decide_eq_true c9;clear c9;obtain ⟨yq4, hyq4⟩ : ∃ y_ : List (S28), y_ = (l0.take (x14_1 : Int).toNat) := ⟨_, rfl⟩;(replace H : (class_Check.l1 k1 l0 l0 (l0.length : Int) x14_1 yq4 (yq4.length : Int) 0 ((rd_T28 l0 x14_1).f0) ((rd_T28 l0 x14_1).f1) ((rd_T28 l0 x14_1).f2) ((rd_T28 l0 x14_1).f3) ((rd_T28 l0 x14_1).f4) ((rd_T28 l0 x14_1).f5) ((rd_T28 l0 x14_1).f6) ((rd_T28 l0 x14_1).f7) ((rd_T28 l0 x14_1).f8)) = some r := by first | (rw [hyq4]; with_reducible exact H) | (have H2_ := (Option.bind_some _ _).symm.trans H; rw [hyq4]; with_reducible exact H2_) | (have H2_ := (Option.bind_some _ _).symm.trans H; with_reducible exact H2_) | with_reducible exact H | (rw [hyq4]; exact H) | exact H);have Nyq4 := Aside0.mk hyq4;clear hyq4;have H' := Aside0.mk H;clear H;have pq1 : 0 ≤ (x14_1 : Int) := as_;have qq1 : x14_1 < (l0.length : Int) := as_;obtain ⟨adq1, eq1, hxq1_0, hxq1_1, hxq1_2, hxq1_3, hxq1_4, hxq1_5, hxq1_6, hxq1_7, hxq1_8⟩ := at_T28 HR0.out x14_1 pq1 qq1;cases eq1;replace hxq1_0 := bc_ HB hxq1_0;replace hxq1_1 := bc_ HB hxq1_1;replace hxq1_2 := bc_ HB hxq1_2;replace hxq1_3 := bc_ HB hxq1_3;replace hxq1_4 := bc_ HB hxq1_4;replace hxq1_5 := bc_ HB hxq1_5;replace hxq1_6 := bc_ HB hxq1_6;replace hxq1_7 := bc_ HB hxq1_7;replace hxq1_8 := bc_ HB hxq1_8;replace pq1 := eq_true pq1;replace qq1 := eq_true qq1
         go_wp2_with (first | ((with_reducible refine gate_dst (N := 4) rfl ?_); refine bx_ 4 (cs := #[.string (⟨#[]⟩ : ByteArray), .int .i64 0, .int .i64 0, .int .i64 0, .int .i64 0, .int .i64 0, .int .i64 0, .int .i64 0, .int .i64 0]) (t := 28) ?_; intro gbq2 hg w10 hbox hb; have BKq2 := A_ hbox; have GWq2 := gz_ (w := w) hg; have GEq2 := gz_ (w := w) hg; replace HB := bA_ hb; clear hb hbox hg; have hcz11_0 := cz0_ BKq2; have hcz11_1 := cz1_ BKq2; have hcz11_2 := cz2_ BKq2; have hcz11_3 := cz3_ BKq2; have hcz11_4 : w10.cell? ⟨gbq2, 4, none⟩ = some (.int .i64 0) := cl_ BKq2 4; have hcz11_5 : w10.cell? ⟨gbq2, 5, none⟩ = some (.int .i64 0) := cl_ BKq2 5; have hcz11_6 : w10.cell? ⟨gbq2, 6, none⟩ = some (.int .i64 0) := cl_ BKq2 6; have hcz11_7 : w10.cell? ⟨gbq2, 7, none⟩ = some (.int .i64 0) := cl_ BKq2 7; have hcz11_8 : w10.cell? ⟨gbq2, 8, none⟩ = some (.int .i64 0) := cl_ BKq2 8; have hfz11_0 := fz_ BKq2 0; have hfz11_1 := fz_ BKq2 1; have hfz11_2 := fz_ BKq2 2; have hfz11_3 := fz_ BKq2 3; have hfz11_4 := fz_ BKq2 4; have hfz11_5 := fz_ BKq2 5; have hfz11_6 := fz_ BKq2 6; have hfz11_7 := fz_ BKq2 7; have hfz11_8 := fz_ BKq2 8) | ((with_reducible refine gate_store (t := 28) (p := 4) rfl ?_); refine store_event (t := 28) (p := 4) (v := ?vo_w12) (w1 := (((((((((w10.setCell ⟨gbq2, 0, none⟩ (.string ((rd_T28 l0 x14_1).f0))).setCell ⟨gbq2, 1, none⟩ (.int .i64 ((rd_T28 l0 x14_1).f1))).setCell ⟨gbq2, 2, none⟩ (.int .i64 ((rd_T28 l0 x14_1).f2))).setCell ⟨gbq2, 3, none⟩ (.int .i64 ((rd_T28 l0 x14_1).f3))).setCell ⟨gbq2, 4, none⟩ (.int .i64 ((rd_T28 l0 x14_1).f4))).setCell ⟨gbq2, 5, none⟩ (.int .i64 ((rd_T28 l0 x14_1).f5))).setCell ⟨gbq2, 6, none⟩ (.int .i64 ((rd_T28 l0 x14_1).f6))).setCell ⟨gbq2, 7, none⟩ (.int .i64 ((rd_T28 l0 x14_1).f7))).setCell ⟨gbq2, 8, none⟩ (.int .i64 ((rd_T28 l0 x14_1).f8)))) ?hg ?ho ?hn ?hr ?_; (case ho => rfl); (case hg => rfl); (case hn => rfl); (case hr => first | (go_simp; done) | (go_simp; rfl)); intro w12 hw; have n0_ : Aside0 (w12.heap[gbq2]? = some (.cells #[.string ((rd_T28 l0 x14_1).f0), .int .i64 ((rd_T28 l0 x14_1).f1), .int .i64 ((rd_T28 l0 x14_1).f2), .int .i64 ((rd_T28 l0 x14_1).f3), .int .i64 ((rd_T28 l0 x14_1).f4), .int .i64 ((rd_T28 l0 x14_1).f5), .int .i64 ((rd_T28 l0 x14_1).f6), .int .i64 ((rd_T28 l0 x14_1).f7), .int .i64 ((rd_T28 l0 x14_1).f8)] 28 (0, 0))) := ⟨(by rw [hw]; exact (ch_ BKq2))⟩; have n1_ : Aside0 (Below w.heap.size w w12) := ⟨(by rw [hw]; exact be_)⟩; clear hw BKq2 HB; have BKq2 := n0_; have HB := n1_; clear n0_ n1_; have hcz13_0 := cz0_ BKq2; have hcz13_1 := cz1_ BKq2; have hcz13_2 := cz2_ BKq2; have hcz13_3 := cz3_ BKq2; have hcz13_4 : w12.cell? ⟨gbq2, 4, none⟩ = some (.int .i64 ((rd_T28 l0 x14_1).f4)) := cl_ BKq2 4; have hcz13_5 : w12.cell? ⟨gbq2, 5, none⟩ = some (.int .i64 ((rd_T28 l0 x14_1).f5)) := cl_ BKq2 5; have hcz13_6 : w12.cell? ⟨gbq2, 6, none⟩ = some (.int .i64 ((rd_T28 l0 x14_1).f6)) := cl_ BKq2 6; have hcz13_7 : w12.cell? ⟨gbq2, 7, none⟩ = some (.int .i64 ((rd_T28 l0 x14_1).f7)) := cl_ BKq2 7; have hcz13_8 : w12.cell? ⟨gbq2, 8, none⟩ = some (.int .i64 ((rd_T28 l0 x14_1).f8)) := cl_ BKq2 8; have hfz13_0 := fz_ BKq2 0; have hfz13_1 := fz_ BKq2 1; have hfz13_2 := fz_ BKq2 2; have hfz13_3 := fz_ BKq2 3; have hfz13_4 := fz_ BKq2 4; have hfz13_5 := fz_ BKq2 5; have hfz13_6 := fz_ BKq2 6; have hfz13_7 := fz_ BKq2 7; have hfz13_8 := fz_ BKq2 8) | ((with_reducible refine gate_callee (f := 23) rfl ?_); refine goesL_ (some 21) rfl rfl Try.func23 (by kernel_rfl) rfl #[.string ((rd_T28 l0 x14_1).f0)] rfl la_ ?_; (with_reducible refine (ident_IsName.calls k1 ((rd_T28 l0 x14_1).f0) true _ A6.out).mono ?_); rintro e w' ⟨rfl, ⟨nd, rfl⟩⟩; refine ⟨_, rfl, ?_⟩; have q14 : (x14_1 : Int) ≤ ((l0.length : Int) : Int) := as_; obtain ⟨i014, hi014, _, hsz14, _⟩ := info_parts info28; have hroom14 : l0.length ≤ c0 := HC0.out; have hC14 : Kd.C k28 _ (some adq1) l0.length l0 := HR0.out; have hcut14 := cut_to (P := Try.prog) 22 28 .i64 Try.underlying22 hi014 (some adq1) l0.length c0 x14_1 (as_) q14 hroom14; have hr14 := Kd.C_take (m := (x14_1 : Int).toNat) hC14 (by omega); have hy14 : yq4.length = (x14_1 : Int).toNat := (by rw [Nyq4.out, List.length_take]; omega); rw [← Nyq4.out] at hr14; rw [← hy14] at hcut14; have HRq7 := Aside0.mk hr14; have HCq7 := A_ (show yq4.length ≤ c0 from by omega); clear hr14 hC14 hroom14 hi014 hsz14; have KY14 := Aside0.mk hy14; clear hy14; replace q14 := eq_true q14))
         go_loopg [27] k1 (fun kq v27 w' => ∃ (x27_2 : Int), v27 = .int .i64 x27_2 ∧ Aside0 (class_Check.l1 kq l0 l0 (l0.length : Int) x14_1 yq4 (yq4.length : Int) x27_2 ((rd_T28 l0 x14_1).f0) ((rd_T28 l0 x14_1).f1) ((rd_T28 l0 x14_1).f2) ((rd_T28 l0 x14_1).f3) ((rd_T28 l0 x14_1).f4) ((rd_T28 l0 x14_1).f5) ((rd_T28 l0 x14_1).f6) ((rd_T28 l0 x14_1).f7) ((rd_T28 l0 x14_1).f8) = some r) ∧ Aside0 (kq ≤ k1) ∧ Aside0 (w'.heap[gbq2]? = some (.cells #[.string ((rd_T28 l0 x14_1).f0), .int .i64 ((rd_T28 l0 x14_1).f1), .int .i64 ((rd_T28 l0 x14_1).f2), .int .i64 ((rd_T28 l0 x14_1).f3), .int .i64 ((rd_T28 l0 x14_1).f4), .int .i64 ((rd_T28 l0 x14_1).f5), .int .i64 ((rd_T28 l0 x14_1).f6), .int .i64 ((rd_T28 l0 x14_1).f7), .int .i64 ((rd_T28 l0 x14_1).f8)] 28 (0, 0))) ∧ Aside0 (Below w.heap.size w w'))
         case atStart => exact ⟨(0), rs_, H', ⟨Nat.le_refl _⟩, ⟨fb_ BKq2.out⟩, ⟨be_⟩⟩
         case round =>
          clear H';(try clear c1);(try clear p1);(try clear q1);(try clear hx1);(try clear c2);(try clear c2b0);(try clear c2b1);(try clear p2);(try clear c3);(try clear c3b0);(try clear c4);(try clear c4b0);(try clear c5);(try clear c5b0);(try clear c7);(try clear c8);(try clear c8b0);(try clear c9);(try clear c9b0);(try clear c9b1);(try clear c11);(try clear p11);(try clear q11);(try clear hx11);(try clear q14);(try clear hcz11_0);(try clear hcz11_1);(try clear hcz11_2);(try clear hcz11_3);(try clear hcz11_4);(try clear hcz11_5);(try clear hcz11_6);(try clear hcz11_7);(try clear hcz11_8);(try clear hcz13_0);(try clear hcz13_1);(try clear hcz13_2);(try clear hcz13_3);(try clear hcz13_4);(try clear hcz13_5);(try clear hcz13_6);(try clear hcz13_7);(try clear hcz13_8);(try clear hfz11_0);(try clear hfz11_1);(try clear hfz11_2);(try clear hfz11_3);(try clear hfz11_4);(try clear hfz11_5);(try clear hfz11_6);(try clear hfz11_7);(try clear hfz11_8);(try clear hfz13_0);(try clear hfz13_1);(try clear hfz13_2);(try clear hfz13_3);(try clear hfz13_4);(try clear hfz13_5);(try clear hfz13_6);(try clear hfz13_7);(try clear hfz13_8);(try clear hxq1_0);(try clear hxq1_1);(try clear hxq1_2);(try clear hxq1_3);(try clear hxq1_4);(try clear hxq1_5);(try clear hxq1_6);(try clear hxq1_7);(try clear hxq1_8);(try clear pq1);(try clear p2);(try clear qq1);(try clear q14);obtain ⟨x27_2, rfl, HA, HK2, BKq2, HB⟩ := hrel;cases gk with
          | zero => exact absurd HA.out (by simp [class_Check.l1])
          | succ k2 =>
           have H := HA.out;clear HA;simp only [class_Check.l1] at H
           by_cases c15 : x27_2 < (yq4.length : Int)
           ·rw [if_pos c15] at H;have c15b0 : decide (x27_2 < (yq4.length : Int)) = true := decide_eq_true c15;clear c15
            by_cases c16 : 0 ≤ x27_2
            ·rw [if_pos c16] at H;have c16b0 : decide (0 ≤ x27_2) = true := decide_eq_true c16;clear c16
             by_cases c17 : x27_2 < (yq4.length : Int)
             ·rw [if_pos c17] at H;have c17b0 : decide (x27_2 < (yq4.length : Int)) = true := decide_eq_true c17;clear c17
              by_cases c18 : ((rd_T28 yq4 x27_2).f0).toList = ((rd_T28 l0 x14_1).f0).toList
              ·rw [if_pos c18] at H;have c18b0 : (((rd_T28 yq4 x27_2).f0).toList == ((rd_T28 l0 x14_1).f0).toList) = true := beq_iff_eq.mpr c18;have c18b1 : (((rd_T28 yq4 x27_2).f0).toList != ((rd_T28 l0 x14_1).f0).toList) = false := bne_eq_false_iff_eq.mpr c18;clear c18;obtain rfl := Option.some.inj H;have pq8 : 0 ≤ (x27_2 : Int) := as_;have qq8 : x27_2 < (yq4.length : Int) := as_;obtain ⟨adq8, eq8, hxq8_0, hxq8_1, hxq8_2, hxq8_3, hxq8_4, hxq8_5, hxq8_6, hxq8_7, hxq8_8⟩ := at_T28 HRq7.out x27_2 pq8 qq8;obtain rfl : adq1 = adq8 := (by injection eq8);replace hxq8_0 := bc_ HB hxq8_0;replace hxq8_1 := bc_ HB hxq8_1;replace hxq8_2 := bc_ HB hxq8_2;replace hxq8_3 := bc_ HB hxq8_3;replace hxq8_4 := bc_ HB hxq8_4;replace hxq8_5 := bc_ HB hxq8_5;replace hxq8_6 := bc_ HB hxq8_6;replace hxq8_7 := bc_ HB hxq8_7;replace hxq8_8 := bc_ HB hxq8_8;replace pq8 := eq_true pq8;replace qq8 := eq_true qq8;go_wp2_with (first | ((with_reducible refine gate_dst (N := 6) rfl ?_); refine bx_ 6 (cs := #[.string (⟨#[]⟩ : ByteArray), .int .i64 0, .int .i64 0, .int .i64 0, .int .i64 0, .int .i64 0, .int .i64 0, .int .i64 0, .int .i64 0]) (t := 28) ?_; intro gbq9 hg w19 hbox hb; have BKq9 := A_ hbox; have GWq9 := gz_ (w := w) hg; have GEq9 := gz_ (w := w) hg; replace HB := bA_ hb; have NBq2_q9 := nlt_ BKq2 hg; have NBq9_q2 := ngt_ BKq2 hg; replace BKq2 := bb_ BKq2 hb; clear hb hbox hg; have hnb20 := NBq9_q2.out; have hnc20 := NBq2_q9.out; have hcz21_0 := cz0_ BKq9; have hcz21_1 := cz1_ BKq9; have hcz21_2 := cz2_ BKq9; have hcz21_3 := cz3_ BKq9; have hcz21_4 : w19.cell? ⟨gbq9, 4, none⟩ = some (.int .i64 0) := cl_ BKq9 4; have hcz21_5 : w19.cell? ⟨gbq9, 5, none⟩ = some (.int .i64 0) := cl_ BKq9 5; have hcz21_6 : w19.cell? ⟨gbq9, 6, none⟩ = some (.int .i64 0) := cl_ BKq9 6; have hcz21_7 : w19.cell? ⟨gbq9, 7, none⟩ = some (.int .i64 0) := cl_ BKq9 7; have hcz21_8 : w19.cell? ⟨gbq9, 8, none⟩ = some (.int .i64 0) := cl_ BKq9 8; have hfz21_0 := fz_ BKq9 0; have hfz21_1 := fz_ BKq9 1; have hfz21_2 := fz_ BKq9 2; have hfz21_3 := fz_ BKq9 3; have hfz21_4 := fz_ BKq9 4; have hfz21_5 := fz_ BKq9 5; have hfz21_6 := fz_ BKq9 6; have hfz21_7 := fz_ BKq9 7; have hfz21_8 := fz_ BKq9 8; have hcz22_0 := cz0_ BKq2; have hcz22_1 := cz1_ BKq2; have hcz22_2 := cz2_ BKq2; have hcz22_3 := cz3_ BKq2; have hcz22_4 : w19.cell? ⟨gbq2, 4, none⟩ = some (.int .i64 ((rd_T28 l0 x14_1).f4)) := cl_ BKq2 4; have hcz22_5 : w19.cell? ⟨gbq2, 5, none⟩ = some (.int .i64 ((rd_T28 l0 x14_1).f5)) := cl_ BKq2 5; have hcz22_6 : w19.cell? ⟨gbq2, 6, none⟩ = some (.int .i64 ((rd_T28 l0 x14_1).f6)) := cl_ BKq2 6; have hcz22_7 : w19.cell? ⟨gbq2, 7, none⟩ = some (.int .i64 ((rd_T28 l0 x14_1).f7)) := cl_ BKq2 7; have hcz22_8 : w19.cell? ⟨gbq2, 8, none⟩ = some (.int .i64 ((rd_T28 l0 x14_1).f8)) := cl_ BKq2 8; have hfz22_0 := fz_ BKq2 0; have hfz22_1 := fz_ BKq2 1; have hfz22_2 := fz_ BKq2 2; have hfz22_3 := fz_ BKq2 3; have hfz22_4 := fz_ BKq2 4; have hfz22_5 := fz_ BKq2 5; have hfz22_6 := fz_ BKq2 6; have hfz22_7 := fz_ BKq2 7; have hfz22_8 := fz_ BKq2 8));go_ret;exact ⟨er_, be_⟩
              ·rw [if_neg c18] at H;have c18b0 : (((rd_T28 yq4 x27_2).f0).toList == ((rd_T28 l0 x14_1).f0).toList) = false := beq_eq_false_iff_ne.mpr c18;have c18b1 : (((rd_T28 yq4 x27_2).f0).toList != ((rd_T28 l0 x14_1).f0).toList) = true := bne_iff_ne.mpr c18;have H' := Aside0.mk H;clear H;have pq8 : 0 ≤ (x27_2 : Int) := as_;have qq8 : x27_2 < (yq4.length : Int) := as_;obtain ⟨adq8, eq8, hxq8_0, hxq8_1, hxq8_2, hxq8_3, hxq8_4, hxq8_5, hxq8_6, hxq8_7, hxq8_8⟩ := at_T28 HRq7.out x27_2 pq8 qq8;obtain rfl : adq1 = adq8 := (by injection eq8);replace hxq8_0 := bc_ HB hxq8_0;replace hxq8_1 := bc_ HB hxq8_1;replace hxq8_2 := bc_ HB hxq8_2;replace hxq8_3 := bc_ HB hxq8_3;replace hxq8_4 := bc_ HB hxq8_4;replace hxq8_5 := bc_ HB hxq8_5;replace hxq8_6 := bc_ HB hxq8_6;replace hxq8_7 := bc_ HB hxq8_7;replace hxq8_8 := bc_ HB hxq8_8;replace pq8 := eq_true pq8;replace qq8 := eq_true qq8;go_wp2_with (first | ((with_reducible refine gate_dst (N := 6) rfl ?_); refine bx_ 6 (cs := #[.string (⟨#[]⟩ : ByteArray), .int .i64 0, .int .i64 0, .int .i64 0, .int .i64 0, .int .i64 0, .int .i64 0, .int .i64 0, .int .i64 0]) (t := 28) ?_; intro gbq9 hg w23 hbox hb; have BKq9 := A_ hbox; have GWq9 := gz_ (w := w) hg; have GEq9 := gz_ (w := w) hg; replace HB := bA_ hb; have NBq2_q9 := nlt_ BKq2 hg; have NBq9_q2 := ngt_ BKq2 hg; replace BKq2 := bb_ BKq2 hb; clear hb hbox hg; have hnb24 := NBq9_q2.out; have hnc24 := NBq2_q9.out; have hcz25_0 := cz0_ BKq9; have hcz25_1 := cz1_ BKq9; have hcz25_2 := cz2_ BKq9; have hcz25_3 := cz3_ BKq9; have hcz25_4 : w23.cell? ⟨gbq9, 4, none⟩ = some (.int .i64 0) := cl_ BKq9 4; have hcz25_5 : w23.cell? ⟨gbq9, 5, none⟩ = some (.int .i64 0) := cl_ BKq9 5; have hcz25_6 : w23.cell? ⟨gbq9, 6, none⟩ = some (.int .i64 0) := cl_ BKq9 6; have hcz25_7 : w23.cell? ⟨gbq9, 7, none⟩ = some (.int .i64 0) := cl_ BKq9 7; have hcz25_8 : w23.cell? ⟨gbq9, 8, none⟩ = some (.int .i64 0) := cl_ BKq9 8; have hfz25_0 := fz_ BKq9 0; have hfz25_1 := fz_ BKq9 1; have hfz25_2 := fz_ BKq9 2; have hfz25_3 := fz_ BKq9 3; have hfz25_4 := fz_ BKq9 4; have hfz25_5 := fz_ BKq9 5; have hfz25_6 := fz_ BKq9 6; have hfz25_7 := fz_ BKq9 7; have hfz25_8 := fz_ BKq9 8; have hcz26_0 := cz0_ BKq2; have hcz26_1 := cz1_ BKq2; have hcz26_2 := cz2_ BKq2; have hcz26_3 := cz3_ BKq2; have hcz26_4 : w23.cell? ⟨gbq2, 4, none⟩ = some (.int .i64 ((rd_T28 l0 x14_1).f4)) := cl_ BKq2 4; have hcz26_5 : w23.cell? ⟨gbq2, 5, none⟩ = some (.int .i64 ((rd_T28 l0 x14_1).f5)) := cl_ BKq2 5; have hcz26_6 : w23.cell? ⟨gbq2, 6, none⟩ = some (.int .i64 ((rd_T28 l0 x14_1).f6)) := cl_ BKq2 6; have hcz26_7 : w23.cell? ⟨gbq2, 7, none⟩ = some (.int .i64 ((rd_T28 l0 x14_1).f7)) := cl_ BKq2 7; have hcz26_8 : w23.cell? ⟨gbq2, 8, none⟩ = some (.int .i64 ((rd_T28 l0 x14_1).f8)) := cl_ BKq2 8; have hfz26_0 := fz_ BKq2 0; have hfz26_1 := fz_ BKq2 1; have hfz26_2 := fz_ BKq2 2; have hfz26_3 := fz_ BKq2 3; have hfz26_4 := fz_ BKq2 4; have hfz26_5 := fz_ BKq2 5; have hfz26_6 := fz_ BKq2 6; have hfz26_7 := fz_ BKq2 7; have hfz26_8 := fz_ BKq2 8))
               go_roundg k2
               case measure => have := HK1.out; have := HK2.out; omega
               case rel => exact ⟨(wrap64 (x27_2 + 1)), rs_, H', ⟨by have := HK1.out; have := HK2.out; omega⟩, ⟨ch_ BKq2⟩, ⟨be_⟩⟩
             ·rw [if_neg c17] at H;exact absurd H (by simp)
            ·rw [if_neg c16] at H;exact absurd H (by simp)
           ·rw [if_neg c15] at H;have c15b0 : decide (x27_2 < (yq4.length : Int)) = false := decide_eq_false c15;clear c15;obtain ⟨ji27, hji27⟩ : ∃ j_ : Int, (mn ((rd_T28 l0 x14_1).f1) ((rd_T28 l0 x14_1).f2)) = j_ := ⟨_, rfl⟩;(replace H : (if (mn (mn (mn (mn (mn (mn (ji27) ((rd_T28 l0 x14_1).f3)) ((rd_T28 l0 x14_1).f4)) ((rd_T28 l0 x14_1).f5)) ((rd_T28 l0 x14_1).f6)) ((rd_T28 l0 x14_1).f7)) ((rd_T28 l0 x14_1).f8)) < 0 then (some 9) else (if (mx (mx (mx (mx (mx (mx (mx ((rd_T28 l0 x14_1).f1) ((rd_T28 l0 x14_1).f2)) ((rd_T28 l0 x14_1).f3)) ((rd_T28 l0 x14_1).f4)) ((rd_T28 l0 x14_1).f5)) ((rd_T28 l0 x14_1).f6)) ((rd_T28 l0 x14_1).f7)) ((rd_T28 l0 x14_1).f8)) > 1000000 then (some 9) else (if ((rd_T28 l0 x14_1).f2) > ((rd_T28 l0 x14_1).f3) then (some 9) else (class_Check.l0 k2 l0 l0 (l0.length : Int) (wrap64 (x14_1 + 1)))))) = some r := by first | (rw [hji27] at H; exact H) | (simp only [hji27] at H ⊢; exact H));have hji27_ : (if ((rd_T28 l0 x14_1).f2) < ((rd_T28 l0 x14_1).f1) then ((rd_T28 l0 x14_1).f2) else ((rd_T28 l0 x14_1).f1)) = ji27 := hji27;obtain ⟨ji28, hji28⟩ : ∃ j_ : Int, (mn (ji27) ((rd_T28 l0 x14_1).f3)) = j_ := ⟨_, rfl⟩;(replace H : (if (mn (mn (mn (mn (mn (ji28) ((rd_T28 l0 x14_1).f4)) ((rd_T28 l0 x14_1).f5)) ((rd_T28 l0 x14_1).f6)) ((rd_T28 l0 x14_1).f7)) ((rd_T28 l0 x14_1).f8)) < 0 then (some 9) else (if (mx (mx (mx (mx (mx (mx (mx ((rd_T28 l0 x14_1).f1) ((rd_T28 l0 x14_1).f2)) ((rd_T28 l0 x14_1).f3)) ((rd_T28 l0 x14_1).f4)) ((rd_T28 l0 x14_1).f5)) ((rd_T28 l0 x14_1).f6)) ((rd_T28 l0 x14_1).f7)) ((rd_T28 l0 x14_1).f8)) > 1000000 then (some 9) else (if ((rd_T28 l0 x14_1).f2) > ((rd_T28 l0 x14_1).f3) then (some 9) else (class_Check.l0 k2 l0 l0 (l0.length : Int) (wrap64 (x14_1 + 1)))))) = some r := by first | (rw [hji28] at H; exact H) | (simp only [hji28] at H ⊢; exact H));have hji28_ : (if ((rd_T28 l0 x14_1).f3) < (ji27) then ((rd_T28 l0 x14_1).f3) else (ji27)) = ji28 := hji28;obtain ⟨ji29, hji29⟩ : ∃ j_ : Int, (mn (ji28) ((rd_T28 l0 x14_1).f4)) = j_ := ⟨_, rfl⟩;(replace H : (if (mn (mn (mn (mn (ji29) ((rd_T28 l0 x14_1).f5)) ((rd_T28 l0 x14_1).f6)) ((rd_T28 l0 x14_1).f7)) ((rd_T28 l0 x14_1).f8)) < 0 then (some 9) else (if (mx (mx (mx (mx (mx (mx (mx ((rd_T28 l0 x14_1).f1) ((rd_T28 l0 x14_1).f2)) ((rd_T28 l0 x14_1).f3)) ((rd_T28 l0 x14_1).f4)) ((rd_T28 l0 x14_1).f5)) ((rd_T28 l0 x14_1).f6)) ((rd_T28 l0 x14_1).f7)) ((rd_T28 l0 x14_1).f8)) > 1000000 then (some 9) else (if ((rd_T28 l0 x14_1).f2) > ((rd_T28 l0 x14_1).f3) then (some 9) else (class_Check.l0 k2 l0 l0 (l0.length : Int) (wrap64 (x14_1 + 1)))))) = some r := by first | (rw [hji29] at H; exact H) | (simp only [hji29] at H ⊢; exact H));have hji29_ : (if ((rd_T28 l0 x14_1).f4) < (ji28) then ((rd_T28 l0 x14_1).f4) else (ji28)) = ji29 := hji29;obtain ⟨ji30, hji30⟩ : ∃ j_ : Int, (mn (ji29) ((rd_T28 l0 x14_1).f5)) = j_ := ⟨_, rfl⟩;(replace H : (if (mn (mn (mn (ji30) ((rd_T28 l0 x14_1).f6)) ((rd_T28 l0 x14_1).f7)) ((rd_T28 l0 x14_1).f8)) < 0 then (some 9) else (if (mx (mx (mx (mx (mx (mx (mx ((rd_T28 l0 x14_1).f1) ((rd_T28 l0 x14_1).f2)) ((rd_T28 l0 x14_1).f3)) ((rd_T28 l0 x14_1).f4)) ((rd_T28 l0 x14_1).f5)) ((rd_T28 l0 x14_1).f6)) ((rd_T28 l0 x14_1).f7)) ((rd_T28 l0 x14_1).f8)) > 1000000 then (some 9) else (if ((rd_T28 l0 x14_1).f2) > ((rd_T28 l0 x14_1).f3) then (some 9) else (class_Check.l0 k2 l0 l0 (l0.length : Int) (wrap64 (x14_1 + 1)))))) = some r := by first | (rw [hji30] at H; exact H) | (simp only [hji30] at H ⊢; exact H));have hji30_ : (if ((rd_T28 l0 x14_1).f5) < (ji29) then ((rd_T28 l0 x14_1).f5) else (ji29)) = ji30 := hji30;obtain ⟨ji31, hji31⟩ : ∃ j_ : Int, (mn (ji30) ((rd_T28 l0 x14_1).f6)) = j_ := ⟨_, rfl⟩
            (replace H : (if (mn (mn (ji31) ((rd_T28 l0 x14_1).f7)) ((rd_T28 l0 x14_1).f8)) < 0 then (some 9) else (if (mx (mx (mx (mx (mx (mx (mx ((rd_T28 l0 x14_1).f1) ((rd_T28 l0 x14_1).f2)) ((rd_T28 l0 x14_1).f3)) ((rd_T28 l0 x14_1).f4)) ((rd_T28 l0 x14_1).f5)) ((rd_T28 l0 x14_1).f6)) ((rd_T28 l0 x14_1).f7)) ((rd_T28 l0 x14_1).f8)) > 1000000 then (some 9) else (if ((rd_T28 l0 x14_1).f2) > ((rd_T28 l0 x14_1).f3) then (some 9) else (class_Check.l0 k2 l0 l0 (l0.length : Int) (wrap64 (x14_1 + 1)))))) = some r := by first | (rw [hji31] at H; exact H) | (simp only [hji31] at H ⊢; exact H));have hji31_ : (if ((rd_T28 l0 x14_1).f6) < (ji30) then ((rd_T28 l0 x14_1).f6) else (ji30)) = ji31 := hji31;obtain ⟨ji32, hji32⟩ : ∃ j_ : Int, (mn (ji31) ((rd_T28 l0 x14_1).f7)) = j_ := ⟨_, rfl⟩;(replace H : (if (mn (ji32) ((rd_T28 l0 x14_1).f8)) < 0 then (some 9) else (if (mx (mx (mx (mx (mx (mx (mx ((rd_T28 l0 x14_1).f1) ((rd_T28 l0 x14_1).f2)) ((rd_T28 l0 x14_1).f3)) ((rd_T28 l0 x14_1).f4)) ((rd_T28 l0 x14_1).f5)) ((rd_T28 l0 x14_1).f6)) ((rd_T28 l0 x14_1).f7)) ((rd_T28 l0 x14_1).f8)) > 1000000 then (some 9) else (if ((rd_T28 l0 x14_1).f2) > ((rd_T28 l0 x14_1).f3) then (some 9) else (class_Check.l0 k2 l0 l0 (l0.length : Int) (wrap64 (x14_1 + 1)))))) = some r := by first | (rw [hji32] at H; exact H) | (simp only [hji32] at H ⊢; exact H));have hji32_ : (if ((rd_T28 l0 x14_1).f7) < (ji31) then ((rd_T28 l0 x14_1).f7) else (ji31)) = ji32 := hji32;obtain ⟨ji33, hji33⟩ : ∃ j_ : Int, (mn (ji32) ((rd_T28 l0 x14_1).f8)) = j_ := ⟨_, rfl⟩;(replace H : (if (ji33) < 0 then (some 9) else (if (mx (mx (mx (mx (mx (mx (mx ((rd_T28 l0 x14_1).f1) ((rd_T28 l0 x14_1).f2)) ((rd_T28 l0 x14_1).f3)) ((rd_T28 l0 x14_1).f4)) ((rd_T28 l0 x14_1).f5)) ((rd_T28 l0 x14_1).f6)) ((rd_T28 l0 x14_1).f7)) ((rd_T28 l0 x14_1).f8)) > 1000000 then (some 9) else (if ((rd_T28 l0 x14_1).f2) > ((rd_T28 l0 x14_1).f3) then (some 9) else (class_Check.l0 k2 l0 l0 (l0.length : Int) (wrap64 (x14_1 + 1)))))) = some r := by first | (rw [hji33] at H; exact H) | (simp only [hji33] at H ⊢; exact H));have hji33_ : (if ((rd_T28 l0 x14_1).f8) < (ji32) then ((rd_T28 l0 x14_1).f8) else (ji32)) = ji33 := hji33;obtain ⟨ji34, hji34⟩ : ∃ j_ : Int, (mx ((rd_T28 l0 x14_1).f1) ((rd_T28 l0 x14_1).f2)) = j_ := ⟨_, rfl⟩;(replace H : (if (ji33) < 0 then (some 9) else (if (mx (mx (mx (mx (mx (mx (ji34) ((rd_T28 l0 x14_1).f3)) ((rd_T28 l0 x14_1).f4)) ((rd_T28 l0 x14_1).f5)) ((rd_T28 l0 x14_1).f6)) ((rd_T28 l0 x14_1).f7)) ((rd_T28 l0 x14_1).f8)) > 1000000 then (some 9) else (if ((rd_T28 l0 x14_1).f2) > ((rd_T28 l0 x14_1).f3) then (some 9) else (class_Check.l0 k2 l0 l0 (l0.length : Int) (wrap64 (x14_1 + 1)))))) = some r := by first | (rw [hji34] at H; exact H) | (simp only [hji34] at H ⊢; exact H));have hji34_ : (if ((rd_T28 l0 x14_1).f1) < ((rd_T28 l0 x14_1).f2) then ((rd_T28 l0 x14_1).f2) else ((rd_T28 l0 x14_1).f1)) = ji34 := hji34;obtain ⟨ji35, hji35⟩ : ∃ j_ : Int, (mx (ji34) ((rd_T28 l0 x14_1).f3)) = j_ := ⟨_, rfl⟩;(replace H : (if (ji33) < 0 then (some 9) else (if (mx (mx (mx (mx (mx (ji35) ((rd_T28 l0 x14_1).f4)) ((rd_T28 l0 x14_1).f5)) ((rd_T28 l0 x14_1).f6)) ((rd_T28 l0 x14_1).f7)) ((rd_T28 l0 x14_1).f8)) > 1000000 then (some 9) else (if ((rd_T28 l0 x14_1).f2) > ((rd_T28 l0 x14_1).f3) then (some 9) else (class_Check.l0 k2 l0 l0 (l0.length : Int) (wrap64 (x14_1 + 1)))))) = some r := by first | (rw [hji35] at H; exact H) | (simp only [hji35] at H ⊢; exact H));have hji35_ : (if (ji34) < ((rd_T28 l0 x14_1).f3) then ((rd_T28 l0 x14_1).f3) else (ji34)) = ji35 := hji35;obtain ⟨ji36, hji36⟩ : ∃ j_ : Int, (mx (ji35) ((rd_T28 l0 x14_1).f4)) = j_ := ⟨_, rfl⟩
            (replace H : (if (ji33) < 0 then (some 9) else (if (mx (mx (mx (mx (ji36) ((rd_T28 l0 x14_1).f5)) ((rd_T28 l0 x14_1).f6)) ((rd_T28 l0 x14_1).f7)) ((rd_T28 l0 x14_1).f8)) > 1000000 then (some 9) else (if ((rd_T28 l0 x14_1).f2) > ((rd_T28 l0 x14_1).f3) then (some 9) else (class_Check.l0 k2 l0 l0 (l0.length : Int) (wrap64 (x14_1 + 1)))))) = some r := by first | (rw [hji36] at H; exact H) | (simp only [hji36] at H ⊢; exact H));have hji36_ : (if (ji35) < ((rd_T28 l0 x14_1).f4) then ((rd_T28 l0 x14_1).f4) else (ji35)) = ji36 := hji36;obtain ⟨ji37, hji37⟩ : ∃ j_ : Int, (mx (ji36) ((rd_T28 l0 x14_1).f5)) = j_ := ⟨_, rfl⟩;(replace H : (if (ji33) < 0 then (some 9) else (if (mx (mx (mx (ji37) ((rd_T28 l0 x14_1).f6)) ((rd_T28 l0 x14_1).f7)) ((rd_T28 l0 x14_1).f8)) > 1000000 then (some 9) else (if ((rd_T28 l0 x14_1).f2) > ((rd_T28 l0 x14_1).f3) then (some 9) else (class_Check.l0 k2 l0 l0 (l0.length : Int) (wrap64 (x14_1 + 1)))))) = some r := by first | (rw [hji37] at H; exact H) | (simp only [hji37] at H ⊢; exact H));have hji37_ : (if (ji36) < ((rd_T28 l0 x14_1).f5) then ((rd_T28 l0 x14_1).f5) else (ji36)) = ji37 := hji37;obtain ⟨ji38, hji38⟩ : ∃ j_ : Int, (mx (ji37) ((rd_T28 l0 x14_1).f6)) = j_ := ⟨_, rfl⟩;(replace H : (if (ji33) < 0 then (some 9) else (if (mx (mx (ji38) ((rd_T28 l0 x14_1).f7)) ((rd_T28 l0 x14_1).f8)) > 1000000 then (some 9) else (if ((rd_T28 l0 x14_1).f2) > ((rd_T28 l0 x14_1).f3) then (some 9) else (class_Check.l0 k2 l0 l0 (l0.length : Int) (wrap64 (x14_1 + 1)))))) = some r := by first | (rw [hji38] at H; exact H) | (simp only [hji38] at H ⊢; exact H));have hji38_ : (if (ji37) < ((rd_T28 l0 x14_1).f6) then ((rd_T28 l0 x14_1).f6) else (ji37)) = ji38 := hji38;obtain ⟨ji39, hji39⟩ : ∃ j_ : Int, (mx (ji38) ((rd_T28 l0 x14_1).f7)) = j_ := ⟨_, rfl⟩;(replace H : (if (ji33) < 0 then (some 9) else (if (mx (ji39) ((rd_T28 l0 x14_1).f8)) > 1000000 then (some 9) else (if ((rd_T28 l0 x14_1).f2) > ((rd_T28 l0 x14_1).f3) then (some 9) else (class_Check.l0 k2 l0 l0 (l0.length : Int) (wrap64 (x14_1 + 1)))))) = some r := by first | (rw [hji39] at H; exact H) | (simp only [hji39] at H ⊢; exact H));have hji39_ : (if (ji38) < ((rd_T28 l0 x14_1).f7) then ((rd_T28 l0 x14_1).f7) else (ji38)) = ji39 := hji39;obtain ⟨ji40, hji40⟩ : ∃ j_ : Int, (mx (ji39) ((rd_T28 l0 x14_1).f8)) = j_ := ⟨_, rfl⟩;(replace H : (if (ji33) < 0 then (some 9) else (if (ji40) > 1000000 then (some 9) else (if ((rd_T28 l0 x14_1).f2) > ((rd_T28 l0 x14_1).f3) then (some 9) else (class_Check.l0 k2 l0 l0 (l0.length : Int) (wrap64 (x14_1 + 1)))))) = some r := by first | (rw [hji40] at H; exact H) | (simp only [hji40] at H ⊢; exact H));have hji40_ : (if (ji39) < ((rd_T28 l0 x14_1).f8) then ((rd_T28 l0 x14_1).f8) else (ji39)) = ji40 := hji40
            by_cases c41 : (ji33) < 0
            ·rw [if_pos c41] at H;have c41b0 : decide ((ji33) < 0) = true := decide_eq_true c41;clear c41;obtain rfl := Option.some.inj H;have hcz42_0 := cz0_ BKq2;have hcz42_1 := cz1_ BKq2;have hcz42_2 := cz2_ BKq2;have hcz42_3 := cz3_ BKq2;have hcz42_4 : wr.cell? ⟨gbq2, 4, none⟩ = some (.int .i64 ((rd_T28 l0 x14_1).f4)) := cl_ BKq2 4;have hcz42_5 : wr.cell? ⟨gbq2, 5, none⟩ = some (.int .i64 ((rd_T28 l0 x14_1).f5)) := cl_ BKq2 5;have hcz42_6 : wr.cell? ⟨gbq2, 6, none⟩ = some (.int .i64 ((rd_T28 l0 x14_1).f6)) := cl_ BKq2 6;have hcz42_7 : wr.cell? ⟨gbq2, 7, none⟩ = some (.int .i64 ((rd_T28 l0 x14_1).f7)) := cl_ BKq2 7;have hcz42_8 : wr.cell? ⟨gbq2, 8, none⟩ = some (.int .i64 ((rd_T28 l0 x14_1).f8)) := cl_ BKq2 8;have hfz42_0 := fz_ BKq2 0;have hfz42_1 := fz_ BKq2 1;have hfz42_2 := fz_ BKq2 2;have hfz42_3 := fz_ BKq2 3;have hfz42_4 := fz_ BKq2 4;have hfz42_5 := fz_ BKq2 5;have hfz42_6 := fz_ BKq2 6;have hfz42_7 := fz_ BKq2 7;have hfz42_8 := fz_ BKq2 8;go_wp2;go_ret;exact ⟨by first | rfl | (simp [errW_none, errW_some] <;> rfl) | (simp only [← hji27, ← hji28, ← hji29, ← hji30, ← hji31, ← hji32, ← hji33, ← hji34, ← hji35, ← hji36, ← hji37, ← hji38, ← hji39, ← hji40]; first | rfl | (simp [errW_none, errW_some] <;> rfl)) | (simp [*, errW_none, errW_some] <;> rfl), be_⟩
            ·rw [if_neg c41] at H;have c41b0 : decide ((ji33) < 0) = false := decide_eq_false c41;clear c41
             by_cases c43 : (ji40) > 1000000
             ·rw [if_pos c43] at H;have c43b0 : decide (1000000 < (ji40)) = true := decide_eq_true c43;clear c43;obtain rfl := Option.some.inj H;have hcz44_0 := cz0_ BKq2;have hcz44_1 := cz1_ BKq2;have hcz44_2 := cz2_ BKq2;have hcz44_3 := cz3_ BKq2;have hcz44_4 : wr.cell? ⟨gbq2, 4, none⟩ = some (.int .i64 ((rd_T28 l0 x14_1).f4)) := cl_ BKq2 4;have hcz44_5 : wr.cell? ⟨gbq2, 5, none⟩ = some (.int .i64 ((rd_T28 l0 x14_1).f5)) := cl_ BKq2 5;have hcz44_6 : wr.cell? ⟨gbq2, 6, none⟩ = some (.int .i64 ((rd_T28 l0 x14_1).f6)) := cl_ BKq2 6;have hcz44_7 : wr.cell? ⟨gbq2, 7, none⟩ = some (.int .i64 ((rd_T28 l0 x14_1).f7)) := cl_ BKq2 7;have hcz44_8 : wr.cell? ⟨gbq2, 8, none⟩ = some (.int .i64 ((rd_T28 l0 x14_1).f8)) := cl_ BKq2 8;have hfz44_0 := fz_ BKq2 0;have hfz44_1 := fz_ BKq2 1;have hfz44_2 := fz_ BKq2 2;have hfz44_3 := fz_ BKq2 3;have hfz44_4 := fz_ BKq2 4;have hfz44_5 := fz_ BKq2 5;have hfz44_6 := fz_ BKq2 6;have hfz44_7 := fz_ BKq2 7;have hfz44_8 := fz_ BKq2 8;go_wp2;go_ret;exact ⟨by first | rfl | (simp [errW_none, errW_some] <;> rfl) | (simp only [← hji27, ← hji28, ← hji29, ← hji30, ← hji31, ← hji32, ← hji33, ← hji34, ← hji35, ← hji36, ← hji37, ← hji38, ← hji39, ← hji40]; first | rfl | (simp [errW_none, errW_some] <;> rfl)) | (simp [*, errW_none, errW_some] <;> rfl), be_⟩
             ·rw [if_neg c43] at H;have c43b0 : decide (1000000 < (ji40)) = false := decide_eq_false c43;clear c43
              by_cases c45 : ((rd_T28 l0 x14_1).f2) > ((rd_T28 l0 x14_1).f3)
              ·rw [if_pos c45] at H;have c45b0 : decide (((rd_T28 l0 x14_1).f3) < ((rd_T28 l0 x14_1).f2)) = true := decide_eq_true c45;clear c45;obtain rfl := Option.some.inj H;have hcz46_0 := cz0_ BKq2;have hcz46_1 := cz1_ BKq2;have hcz46_2 := cz2_ BKq2;have hcz46_3 := cz3_ BKq2;have hcz46_4 : wr.cell? ⟨gbq2, 4, none⟩ = some (.int .i64 ((rd_T28 l0 x14_1).f4)) := cl_ BKq2 4;have hcz46_5 : wr.cell? ⟨gbq2, 5, none⟩ = some (.int .i64 ((rd_T28 l0 x14_1).f5)) := cl_ BKq2 5;have hcz46_6 : wr.cell? ⟨gbq2, 6, none⟩ = some (.int .i64 ((rd_T28 l0 x14_1).f6)) := cl_ BKq2 6;have hcz46_7 : wr.cell? ⟨gbq2, 7, none⟩ = some (.int .i64 ((rd_T28 l0 x14_1).f7)) := cl_ BKq2 7;have hcz46_8 : wr.cell? ⟨gbq2, 8, none⟩ = some (.int .i64 ((rd_T28 l0 x14_1).f8)) := cl_ BKq2 8;have hfz46_0 := fz_ BKq2 0;have hfz46_1 := fz_ BKq2 1;have hfz46_2 := fz_ BKq2 2;have hfz46_3 := fz_ BKq2 3;have hfz46_4 := fz_ BKq2 4;have hfz46_5 := fz_ BKq2 5;have hfz46_6 := fz_ BKq2 6;have hfz46_7 := fz_ BKq2 7;have hfz46_8 := fz_ BKq2 8;go_wp2;go_ret;exact ⟨by first | rfl | (simp [errW_none, errW_some] <;> rfl) | (simp only [← hji27, ← hji28, ← hji29, ← hji30, ← hji31, ← hji32, ← hji33, ← hji34, ← hji35, ← hji36, ← hji37, ← hji38, ← hji39, ← hji40]; first | rfl | (simp [errW_none, errW_some] <;> rfl)) | (simp [*, errW_none, errW_some] <;> rfl), be_⟩
              ·rw [if_neg c45] at H;have c45b0 : decide (((rd_T28 l0 x14_1).f3) < ((rd_T28 l0 x14_1).f2)) = false := decide_eq_false c45;clear c45;have H' := Aside0.mk H;clear H;have hcz47_0 := cz0_ BKq2;have hcz47_1 := cz1_ BKq2;have hcz47_2 := cz2_ BKq2;have hcz47_3 := cz3_ BKq2;have hcz47_4 : wr.cell? ⟨gbq2, 4, none⟩ = some (.int .i64 ((rd_T28 l0 x14_1).f4)) := cl_ BKq2 4;have hcz47_5 : wr.cell? ⟨gbq2, 5, none⟩ = some (.int .i64 ((rd_T28 l0 x14_1).f5)) := cl_ BKq2 5;have hcz47_6 : wr.cell? ⟨gbq2, 6, none⟩ = some (.int .i64 ((rd_T28 l0 x14_1).f6)) := cl_ BKq2 6;have hcz47_7 : wr.cell? ⟨gbq2, 7, none⟩ = some (.int .i64 ((rd_T28 l0 x14_1).f7)) := cl_ BKq2 7;have hcz47_8 : wr.cell? ⟨gbq2, 8, none⟩ = some (.int .i64 ((rd_T28 l0 x14_1).f8)) := cl_ BKq2 8;have hfz47_0 := fz_ BKq2 0;have hfz47_1 := fz_ BKq2 1;have hfz47_2 := fz_ BKq2 2;have hfz47_3 := fz_ BKq2 3;have hfz47_4 := fz_ BKq2 4;have hfz47_5 := fz_ BKq2 5;have hfz47_6 := fz_ BKq2 6;have hfz47_7 := fz_ BKq2 7;have hfz47_8 := fz_ BKq2 8;go_wp2
               go_roundg k2
               case measure => have := HK1.out; have := HK2.out; omega
               case rel => exact ⟨(wrap64 (x14_1 + 1)), rs_, H', ⟨by have := HK1.out; have := HK2.out; omega⟩, ⟨be_⟩⟩
        ·rw [if_neg c9] at H;exact absurd H (by simp)
       ·replace c7 := Bool.eq_false_iff.mpr c7;subst c7;(have H1 : (some 6) = some r := by rw [if_neg (show ¬ (false = true) by decide)] at H; exact H);clear H;have H := H1;clear H1;obtain rfl := Option.some.inj H;have pq1 : 0 ≤ (x14_1 : Int) := as_;have qq1 : x14_1 < (l0.length : Int) := as_;obtain ⟨adq1, eq1, hxq1_0, hxq1_1, hxq1_2, hxq1_3, hxq1_4, hxq1_5, hxq1_6, hxq1_7, hxq1_8⟩ := at_T28 HR0.out x14_1 pq1 qq1;cases eq1;replace hxq1_0 := bc_ HB hxq1_0;replace hxq1_1 := bc_ HB hxq1_1;replace hxq1_2 := bc_ HB hxq1_2;replace hxq1_3 := bc_ HB hxq1_3;replace hxq1_4 := bc_ HB hxq1_4;replace hxq1_5 := bc_ HB hxq1_5;replace hxq1_6 := bc_ HB hxq1_6;replace hxq1_7 := bc_ HB hxq1_7;replace hxq1_8 := bc_ HB hxq1_8;replace pq1 := eq_true pq1;replace qq1 := eq_true qq1;go_wp2_with (first | ((with_reducible refine gate_dst (N := 4) rfl ?_); refine bx_ 4 (cs := #[.string (⟨#[]⟩ : ByteArray), .int .i64 0, .int .i64 0, .int .i64 0, .int .i64 0, .int .i64 0, .int .i64 0, .int .i64 0, .int .i64 0]) (t := 28) ?_; intro gbq2 hg w48 hbox hb; have BKq2 := A_ hbox; have GWq2 := gz_ (w := w) hg; have GEq2 := gz_ (w := w) hg; replace HB := bA_ hb; clear hb hbox hg; have hcz49_0 := cz0_ BKq2; have hcz49_1 := cz1_ BKq2; have hcz49_2 := cz2_ BKq2; have hcz49_3 := cz3_ BKq2; have hcz49_4 : w48.cell? ⟨gbq2, 4, none⟩ = some (.int .i64 0) := cl_ BKq2 4; have hcz49_5 : w48.cell? ⟨gbq2, 5, none⟩ = some (.int .i64 0) := cl_ BKq2 5; have hcz49_6 : w48.cell? ⟨gbq2, 6, none⟩ = some (.int .i64 0) := cl_ BKq2 6; have hcz49_7 : w48.cell? ⟨gbq2, 7, none⟩ = some (.int .i64 0) := cl_ BKq2 7; have hcz49_8 : w48.cell? ⟨gbq2, 8, none⟩ = some (.int .i64 0) := cl_ BKq2 8; have hfz49_0 := fz_ BKq2 0; have hfz49_1 := fz_ BKq2 1; have hfz49_2 := fz_ BKq2 2; have hfz49_3 := fz_ BKq2 3; have hfz49_4 := fz_ BKq2 4; have hfz49_5 := fz_ BKq2 5; have hfz49_6 := fz_ BKq2 6; have hfz49_7 := fz_ BKq2 7; have hfz49_8 := fz_ BKq2 8) | ((with_reducible refine gate_callee (f := 23) rfl ?_); refine goesL_ (some 21) rfl rfl Try.func23 (by kernel_rfl) rfl #[.string ((rd_T28 l0 x14_1).f0)] rfl la_ ?_; (with_reducible refine (ident_IsName.calls k1 ((rd_T28 l0 x14_1).f0) false _ A6.out).mono ?_); rintro e w' ⟨rfl, ⟨nd, rfl⟩⟩; refine ⟨_, rfl, ?_⟩));go_ret;exact ⟨er_, be_⟩
      ·rw [if_neg c5] at H;exact absurd H (by simp)
     ·rw [if_neg c4] at H;exact absurd H (by simp)
    ·rw [if_neg c3] at H;have c3b0 : decide (x14_1 < (l0.length : Int)) = false := decide_eq_false c3;clear c3;obtain rfl := Option.some.inj H;go_wp2;go_ret;exact ⟨er_, be_⟩


theorem eqA44 (d : Nat) (w : World) (x0 y0 : Int) (x1 y1 : Int) :
  (Op.equalIn (d + 2) 44 (.agg #[.int .i64 x0, .int .i64 x1]) (.agg #[.int .i64 y0, .int .i64 y1])).run Try.prog w = .ok (x0 == y0 && (x1 == y1)) w := by
 refine eqA_of Try.underlying44 (by kernel_rfl) ?_;refine eqf_cons (by rfl) (by go_simp; rfl) (by go_simp; rfl) (by go_simp) ?_;exact eqf_last (by rfl) (by go_simp; rfl) (by go_simp; rfl) (by go_simp)

def section_outside.f (a0_0 : Int) (a0_1 : Int) : Option (Bool) := if (mn a0_0 a0_1) < (-600) then (some true) else (some (decide ((mx a0_0 a0_1) > 600)))
set_option maxHeartbeats 8000000 in
set_option maxRecDepth 100000 in
theorem section_outside.calls (a0_0 : Int) (a0_1 : Int) (r : Bool) (w : World) (h : section_outside.f a0_0 a0_1 = some r) :
  Calls Try.prog 74 #[.agg #[.int .i64 a0_0, .int .i64 a0_1]] w fun e w' => e = .returned (.bool r) ∧ Below w.heap.size w w' := by
 have hu44 := Try.underlying44;have HB := A_ (Below.refl w.heap.size w);have H : (if (mn a0_0 a0_1) < (-600) then (some true) else (some (decide ((mx a0_0 a0_1) > 600)))) = some r := h;clear h;obtain ⟨ji2, hji2⟩ : ∃ j_ : Int, (mn a0_0 a0_1) = j_ := ⟨_, rfl⟩;(replace H : (if (ji2) < (-600) then (some true) else (some (decide ((mx a0_0 a0_1) > 600)))) = some r := by first | (rw [hji2] at H; exact H) | (simp only [hji2] at H ⊢; exact H));have hji2_ : (if a0_1 < a0_0 then a0_1 else a0_0) = ji2 := hji2
 by_cases c3 : (ji2) < (-600)
 ·rw [if_pos c3] at H;have c3b0 : decide ((ji2) < (-600)) = true := decide_eq_true c3;clear c3;obtain rfl := Option.some.inj H;go_enter Try.func74, Try.ntmps74;go_wp2_with (first | ((with_reducible refine gate_dst (N := 1) rfl ?_); (try (refine gate_guard (by rfl) ?_; dsimp only)); refine bx_ 1 (cs := #[.int .i64 a0_0, .int .i64 a0_1]) (t := 44) ?_; intro gbq1 hg w4 hbox hb; have BKq1 := A_ hbox; have GWq1 := gz_ (w := w) hg; have GEq1 := gz_ (w := w) hg; replace HB := bA_ hb; clear hb hbox hg; obtain ⟨hcz5_0, hcz5_1, hfz5_0, hfz5_1⟩ := cy2_ BKq1));go_ret;exact ⟨by first | rfl | (simp [errW_none, errW_some] <;> rfl) | (simp only [← hji2]; first | rfl | (simp [errW_none, errW_some] <;> rfl)) | (simp [*, errW_none, errW_some] <;> rfl), be_⟩
 ·rw [if_neg c3] at H;have c3b0 : decide ((ji2) < (-600)) = false := decide_eq_false c3;clear c3;obtain ⟨ji6, hji6⟩ : ∃ j_ : Int, (mx a0_0 a0_1) = j_ := ⟨_, rfl⟩;(replace H : (some (decide ((ji6) > 600))) = some r := by first | (rw [hji6] at H; exact H) | (simp only [hji6] at H ⊢; exact H));have hji6_ : (if a0_0 < a0_1 then a0_1 else a0_0) = ji6 := hji6;obtain rfl := Option.some.inj H;go_enter Try.func74, Try.ntmps74;go_wp2_with (first | ((with_reducible refine gate_dst (N := 1) rfl ?_); (try (refine gate_guard (by rfl) ?_; dsimp only)); refine bx_ 1 (cs := #[.int .i64 a0_0, .int .i64 a0_1]) (t := 44) ?_; intro gbq1 hg w7 hbox hb; have BKq1 := A_ hbox; have GWq1 := gz_ (w := w) hg; have GEq1 := gz_ (w := w) hg; replace HB := bA_ hb; clear hb hbox hg; obtain ⟨hcz8_0, hcz8_1, hfz8_0, hfz8_1⟩ := cy2_ BKq1));go_ret;exact ⟨by first | rfl | (simp [errW_none, errW_some] <;> rfl) | (simp only [← hji2, ← hji6]; first | rfl | (simp [errW_none, errW_some] <;> rfl)) | (simp [*, errW_none, errW_some] <;> rfl), be_⟩


def section_empty.f (a0_0 : Int) (a0_1 : Int) : Option (Bool) := some (decide (a0_0 ≥ a0_1))
set_option maxHeartbeats 8000000 in
set_option maxRecDepth 100000 in
theorem section_empty.calls (a0_0 : Int) (a0_1 : Int) (r : Bool) (w : World) (h : section_empty.f a0_0 a0_1 = some r) :
  Calls Try.prog 75 #[.agg #[.int .i64 a0_0, .int .i64 a0_1]] w fun e w' => e = .returned (.bool r) ∧ Below w.heap.size w w' := by
 have hu44 := Try.underlying44;have HB := A_ (Below.refl w.heap.size w);have H : (some (decide (a0_0 ≥ a0_1))) = some r := h;clear h;obtain rfl := Option.some.inj H;go_enter Try.func75, Try.ntmps75;go_wp2_with (first | ((with_reducible refine gate_dst (N := 1) rfl ?_); refine bx_ 1 (cs := #[.int .i64 a0_0, .int .i64 a0_1]) (t := 44) ?_; intro gbq1 hg w2 hbox hb; have BKq1 := A_ hbox; have GWq1 := gz_ (w := w) hg; have GEq1 := gz_ (w := w) hg; replace HB := bA_ hb; clear hb hbox hg; obtain ⟨hcz3_0, hcz3_1, hfz3_0, hfz3_1⟩ := cy2_ BKq1));go_ret;exact ⟨er_, be_⟩


attribute [local go_sem high] eqA44
mutual
def section_Check.j0 : Nat → Int → Bool → Int → List (S44) → Option (Int)
 | 0, _, _, _, _ => none
 | k + 1, x3, x22, xq2o0, xq2o1 => if x22 = true then (some 9) else (section_Check.l0 k x3 xq2o1 (xq2o1.length : Int) 0 xq2o0 xq2o1)
def section_Check.l0 : Nat → Int → List (S44) → Int → Int → Int → List (S44) → Option (Int)
 | 0, _, _, _, _, _, _ => none
 | k + 1, x3, x24, x25, x26, xq2o0, xq2o1 => if x26 < x25 then (if 0 ≤ x26 then (if x26 < (x24.length : Int) then ((section_outside.f ((rd_T44 x24 x26).f0) ((rd_T44 x24 x26).f1)).bind fun tq4 => (if tq4 = true then (some 9) else (section_Check.l0 k x3 x24 x25 (wrap64 (x26 + 1)) xq2o0 xq2o1))) else (none)) else (none)) else (if x3 = 0 then (if xq2o0 = 0 then (some 0) else (some 19)) else (if 0 < (xq2o1.length : Int) then ((section_empty.f ((rd_T44 xq2o1 0).f0) ((rd_T44 xq2o1 0).f1)).bind fun tq6 => (if tq6 = true then (section_Check.j2 k true xq2o0 xq2o1) else (if 0 ≤ (wrap64 (x3 - 1)) then (if (wrap64 (x3 - 1)) < (xq2o1.length : Int) then ((section_empty.f ((rd_T44 xq2o1 (wrap64 (x3 - 1))).f0) ((rd_T44 xq2o1 (wrap64 (x3 - 1))).f1)).bind fun tq8 => (section_Check.j2 k tq8 xq2o0 xq2o1)) else (none)) else (none)))) else (none)))
def section_Check.j2 : Nat → Bool → Int → List (S44) → Option (Int)
 | 0, _, _, _ => none
 | k + 1, x51, xq2o0, xq2o1 => if x51 = true then (some 19) else (section_Check.l1 k xq2o1 (xq2o1.length : Int) 0)
def section_Check.l1 : Nat → List (S44) → Int → Int → Option (Int)
 | 0, _, _, _ => none
 | k + 1, x53, x54, x55 => if x55 < x54 then (if 0 ≤ x55 then (if x55 < (x53.length : Int) then ((section_empty.f ((rd_T44 x53 x55).f0) ((rd_T44 x53 x55).f1)).bind fun tq11 => (if tq11 = true then (if (!(((rd_T44 x53 x55).f0) == 0) || (!(((rd_T44 x53 x55).f1) == 0))) = true then (some 19) else (section_Check.l1 k x53 x54 (wrap64 (x55 + 1)))) else (section_Check.l1 k x53 x54 (wrap64 (x55 + 1))))) else (none)) else (none)) else (some 0)
end
def section_Check.f (k : Nat) (a0_0 : Int) (l0_1 : List (S44)) : Option (Int) := if (l0_1.length : Int) > 120 then (some 4) else (if a0_0 < (-60) then (section_Check.j0 k (l0_1.length : Int) true a0_0 l0_1) else (section_Check.j0 k (l0_1.length : Int) (decide (a0_0 > (wrap64 (60 - (l0_1.length : Int))))) a0_0 l0_1))
theorem section_Check.mono_l : ∀ k, (∀ y0 y1 y2 y3, LeO (section_Check.j0 k y0 y1 y2 y3) (section_Check.j0 (k + 1) y0 y1 y2 y3)) ∧ (∀ y0 y1 y2 y3 y4 y5, LeO (section_Check.l0 k y0 y1 y2 y3 y4 y5) (section_Check.l0 (k + 1) y0 y1 y2 y3 y4 y5)) ∧ (∀ y0 y1 y2, LeO (section_Check.j2 k y0 y1 y2) (section_Check.j2 (k + 1) y0 y1 y2)) ∧ (∀ y0 y1 y2, LeO (section_Check.l1 k y0 y1 y2) (section_Check.l1 (k + 1) y0 y1 y2))
 | 0 => ⟨fun _ _ _ _ r h => by simp [section_Check.j0] at h, fun _ _ _ _ _ _ r h => by simp [section_Check.l0] at h, fun _ _ _ r h => by simp [section_Check.j2] at h, fun _ _ _ r h => by simp [section_Check.l1] at h⟩
 | k + 1 => by
  obtain ⟨ih0, ih1, ih2, ih3⟩ := section_Check.mono_l k;refine ⟨?_, ?_, ?_, ?_⟩
  ·intro y0 y1 y2 y3;unfold section_Check.j0
   repeat' first
   | (with_reducible exact ih0 _ _ _ _)
   | (with_reducible exact ih1 _ _ _ _ _ _)
   | (with_reducible exact ih2 _ _ _)
   | (with_reducible exact ih3 _ _ _)
   | (with_reducible exact LeO.refl _)
   | (with_reducible exact LeO.none _)
   | (with_reducible refine LeO.ite ?_ ?_)
   | (with_reducible refine LeO.bind ?_ (fun _ => ?_))
   | exact ih0 _ _ _ _
   | exact ih1 _ _ _ _ _ _
   | exact ih2 _ _ _
   | exact ih3 _ _ _
   | exact LeO.none _
   | refine LeO.ite ?_ ?_
   | refine LeO.bind ?_ (fun _ => ?_)
  ·intro y0 y1 y2 y3 y4 y5;unfold section_Check.l0
   repeat' first
   | (with_reducible exact ih0 _ _ _ _)
   | (with_reducible exact ih1 _ _ _ _ _ _)
   | (with_reducible exact ih2 _ _ _)
   | (with_reducible exact ih3 _ _ _)
   | (with_reducible exact LeO.refl _)
   | (with_reducible exact LeO.none _)
   | (with_reducible refine LeO.ite ?_ ?_)
   | (with_reducible refine LeO.bind ?_ (fun _ => ?_))
   | exact ih0 _ _ _ _
   | exact ih1 _ _ _ _ _ _
   | exact ih2 _ _ _
   | exact ih3 _ _ _
   | exact LeO.none _
   | refine LeO.ite ?_ ?_
   | refine LeO.bind ?_ (fun _ => ?_)
  ·intro y0 y1 y2;unfold section_Check.j2
   repeat' first
   | (with_reducible exact ih0 _ _ _ _)
   | (with_reducible exact ih1 _ _ _ _ _ _)
   | (with_reducible exact ih2 _ _ _)
   | (with_reducible exact ih3 _ _ _)
   | (with_reducible exact LeO.refl _)
   | (with_reducible exact LeO.none _)
   | (with_reducible refine LeO.ite ?_ ?_)
   | (with_reducible refine LeO.bind ?_ (fun _ => ?_))
   | exact ih0 _ _ _ _
   | exact ih1 _ _ _ _ _ _
   | exact ih2 _ _ _
   | exact ih3 _ _ _
   | exact LeO.none _
   | refine LeO.ite ?_ ?_
   | refine LeO.bind ?_ (fun _ => ?_)
  ·intro y0 y1 y2;unfold section_Check.l1
   repeat' first
   | (with_reducible exact ih0 _ _ _ _)
   | (with_reducible exact ih1 _ _ _ _ _ _)
   | (with_reducible exact ih2 _ _ _)
   | (with_reducible exact ih3 _ _ _)
   | (with_reducible exact LeO.refl _)
   | (with_reducible exact LeO.none _)
   | (with_reducible refine LeO.ite ?_ ?_)
   | (with_reducible refine LeO.bind ?_ (fun _ => ?_))
   | exact ih0 _ _ _ _
   | exact ih1 _ _ _ _ _ _
   | exact ih2 _ _ _
   | exact ih3 _ _ _
   | exact LeO.none _
   | refine LeO.ite ?_ ?_
   | refine LeO.bind ?_ (fun _ => ?_)
theorem section_Check.mono : ∀ a0 a1 k, LeO (section_Check.f k a0 a1) (section_Check.f (k + 1) a0 a1) := by
 intro a0 a1 k;obtain ⟨ih0, ih1, ih2, ih3⟩ := section_Check.mono_l k;unfold section_Check.f
 repeat' first
   | (with_reducible exact ih0 _ _ _ _)
   | (with_reducible exact ih1 _ _ _ _ _ _)
   | (with_reducible exact ih2 _ _ _)
   | (with_reducible exact ih3 _ _ _)
   | (with_reducible exact LeO.refl _)
   | (with_reducible exact LeO.none _)
   | (with_reducible refine LeO.ite ?_ ?_)
   | (with_reducible refine LeO.bind ?_ (fun _ => ?_))
   | exact ih0 _ _ _ _
   | exact ih1 _ _ _ _ _ _
   | exact ih2 _ _ _
   | exact ih3 _ _ _
   | exact LeO.none _
   | refine LeO.ite ?_ ?_
   | refine LeO.bind ?_ (fun _ => ?_)
set_option maxHeartbeats 8000000 in
set_option maxRecDepth 100000 in
theorem section_Check.calls (k : Nat) (a0_0 : Int) (A0_1 : Option Addr) (c0_1 : Nat) (l0_1 : List (S44)) (r : Int) (w : World) (hr0_1 : Kd.C k44 w A0_1 l0_1.length l0_1) (hc0_1 : l0_1.length ≤ c0_1) (h : section_Check.f k a0_0 l0_1 = some r) :
  Calls Try.prog 61 #[.agg #[.int .i64 a0_0, .slice A0_1 l0_1.length c0_1]] w fun e w' => e = .returned (.int .i64 r) ∧ Below w.heap.size w w' := by
 have hu56 := Try.underlying56;have hu44 := Try.underlying44;have HR0_1 := Aside0.mk hr0_1;have HC0_1 := Aside0.mk hc0_1;clear hr0_1 hc0_1;have HB := A_ (Below.refl w.heap.size w);have H : (if (l0_1.length : Int) > 120 then (some 4) else (if a0_0 < (-60) then (section_Check.j0 k (l0_1.length : Int) true a0_0 l0_1) else (section_Check.j0 k (l0_1.length : Int) (decide (a0_0 > (wrap64 (60 - (l0_1.length : Int))))) a0_0 l0_1))) = some r := h;clear h
 by_cases c2 : (l0_1.length : Int) > 120
 ·rw [if_pos c2] at H;have c2b0 : decide (120 < (l0_1.length : Int)) = true := decide_eq_true c2;have c2b1 : decide (120 < l0_1.length) = true := decide_eq_true (by omega);clear c2;obtain rfl := Option.some.inj H;go_enter Try.func61, Try.ntmps61;go_wp2_with (first | ((with_reducible refine gate_dst (N := 1) rfl ?_); refine bx_ 1 (cs := #[.int .i64 a0_0, .slice A0_1 l0_1.length c0_1]) (t := 56) ?_; intro gbq1 hg w3 hbox hb; have BKq1 := A_ hbox; have GWq1 := gz_ (w := w) hg; have GEq1 := gz_ (w := w) hg; replace HB := bA_ hb; clear hb hbox hg; obtain ⟨hcz4_0, hcz4_1, hfz4_0, hfz4_1⟩ := cy2_ BKq1));go_ret;exact ⟨er_, be_⟩
 ·rw [if_neg c2] at H;have c2b0 : decide (120 < (l0_1.length : Int)) = false := decide_eq_false c2;have c2b1 : decide (120 < l0_1.length) = false := decide_eq_false (by omega);clear c2;have HC5 := Aside0.mk H;clear H;go_enter Try.func61, Try.ntmps61
  go_upto_region 4 with (first | ((with_reducible refine gate_dst (N := 1) rfl ?_); refine bx_ 1 (cs := #[.int .i64 a0_0, .slice A0_1 l0_1.length c0_1]) (t := 56) ?_; intro gbq1 hg w6 hbox hb; have BKq1 := A_ hbox; have GWq1 := gz_ (w := w) hg; have GEq1 := gz_ (w := w) hg; replace HB := bA_ hb; clear hb hbox hg; obtain ⟨hcz7_0, hcz7_1, hfz7_0, hfz7_1⟩ := cy2_ BKq1))
  (try simp only [Act.put, List.setIfInBounds_toArray, List.set_cons_zero, List.set_cons_succ])
  go_cut [22] (fun v22 wc => ∃ (kq : Nat) (x22_4 : Bool), v22 = .bool x22_4 ∧ Aside0 (section_Check.j0 kq (l0_1.length : Int) x22_4 a0_0 l0_1 = some r) ∧ Aside0 (kq ≤ k) ∧ Aside0 (wc.heap[gbq1]? = some (.cells #[.int .i64 a0_0, (.slice A0_1 l0_1.length c0_1)] 56 (0, 0))) ∧ Aside0 (Below w.heap.size w wc))
  case first =>
   have H := HC5.out;clear HC5
   by_cases c8 : a0_0 < (-60)
   ·rw [if_pos c8] at H;have c8b0 : decide (a0_0 < (-60)) = true := decide_eq_true c8;clear c8;(first | rw [c8b0] | (simp only [i64_w, i32_w]; rw [c8b0]) | skip);have H' := Aside0.mk H;clear H;obtain ⟨hcz9_0, hcz9_1, hfz9_0, hfz9_1⟩ := cy2_ BKq1;go_wp2
    go_meet
    case rel => exact ⟨_, (true), rs_, H', ⟨by first | omega | exact Nat.le_refl _⟩, ⟨fb_ BKq1.out⟩, ⟨be_⟩⟩
   ·rw [if_neg c8] at H;have c8b0 : decide (a0_0 < (-60)) = false := decide_eq_false c8;clear c8;(first | rw [c8b0] | (simp only [i64_w, i32_w]; rw [c8b0]) | skip);have H' := Aside0.mk H;clear H;obtain ⟨hcz10_0, hcz10_1, hfz10_0, hfz10_1⟩ := cy2_ BKq1;go_wp2
    go_meet
    case rel => exact ⟨_, (decide (a0_0 > (wrap64 (60 - (l0_1.length : Int))))), rs_, H', ⟨by first | omega | exact Nat.le_refl _⟩, ⟨fb_ BKq1.out⟩, ⟨be_⟩⟩
  case rest =>
   clear HC5;(try clear c2);(try clear c2b0);(try clear c2b1);(try clear p2);(try clear c6);(try clear p6);(try clear c8);(try clear c8b0);(try clear hcz10_0);(try clear hcz10_1);(try clear hcz4_0);(try clear hcz4_1);(try clear hcz7_0);(try clear hcz7_1);(try clear hcz9_0);(try clear hcz9_1);(try clear hfz10_0);(try clear hfz10_1);(try clear hfz4_0);(try clear hfz4_1);(try clear hfz7_0);(try clear hfz7_1);(try clear hfz9_0);(try clear hfz9_1);obtain ⟨kq, x22_4, rfl, HA, HJ4, BKq1, HB⟩ := hcut;cases kq with
   | zero => exact absurd HA.out (by simp [section_Check.j0])
   | succ kj4 =>
    have H := HA.out;clear HA;simp only [section_Check.j0] at H
    by_cases c11 : x22_4 = true
    ·subst c11;(have H1 : (some 9) = some r := by rw [if_pos rfl] at H; exact H);clear H;have H := H1;clear H1;obtain rfl := Option.some.inj H;go_wp2;go_ret;exact ⟨er_, be_⟩
    ·replace c11 := Bool.eq_false_iff.mpr c11;subst c11;(have H1 : (section_Check.l0 kj4 (l0_1.length : Int) l0_1 (l0_1.length : Int) 0 a0_0 l0_1) = some r := by rw [if_neg (show ¬ (false = true) by decide)] at H; exact H);clear H;have H := H1;clear H1;have H' := Aside0.mk H;clear H;obtain ⟨hcz12_0, hcz12_1, hfz12_0, hfz12_1⟩ := cy2_ BKq1;go_wp2
     go_loopg [26] kj4 (fun kq v26 w' => ∃ (x26_2 : Int), v26 = .int .i64 x26_2 ∧ Aside0 (section_Check.l0 kq (l0_1.length : Int) l0_1 (l0_1.length : Int) x26_2 a0_0 l0_1 = some r) ∧ Aside0 (kq ≤ kj4) ∧ Aside0 (w'.heap[gbq1]? = some (.cells #[.int .i64 a0_0, (.slice A0_1 l0_1.length c0_1)] 56 (0, 0))) ∧ Aside0 (Below w.heap.size w w'))
     case atStart => exact ⟨(0), rs_, H', ⟨Nat.le_refl _⟩, ⟨fb_ BKq1.out⟩, ⟨be_⟩⟩
     case round =>
      clear H';(try clear c1);(try clear c2);(try clear c2b0);(try clear c2b1);(try clear p2);(try clear c6);(try clear p6);(try clear c8);(try clear c8b0);(try clear c11);(try clear hcz10_0);(try clear hcz10_1);(try clear hcz12_0);(try clear hcz12_1);(try clear hcz4_0);(try clear hcz4_1);(try clear hcz7_0);(try clear hcz7_1);(try clear hcz9_0);(try clear hcz9_1);(try clear hfz10_0);(try clear hfz10_1);(try clear hfz12_0);(try clear hfz12_1);(try clear hfz4_0);(try clear hfz4_1);(try clear hfz7_0);(try clear hfz7_1);(try clear hfz9_0);(try clear hfz9_1);(try clear p2);(try clear p6);obtain ⟨x26_2, rfl, HA, HK2, BKq1, HB⟩ := hrel;cases gk with
      | zero => exact absurd HA.out (by simp [section_Check.l0])
      | succ k2 =>
       have H := HA.out;clear HA;simp only [section_Check.l0] at H
       by_cases c13 : x26_2 < (l0_1.length : Int)
       ·rw [if_pos c13] at H;have c13b0 : decide (x26_2 < (l0_1.length : Int)) = true := decide_eq_true c13;clear c13
        by_cases c14 : 0 ≤ x26_2
        ·rw [if_pos c14] at H;have c14b0 : decide (0 ≤ x26_2) = true := decide_eq_true c14;clear c14
         by_cases c15 : x26_2 < (l0_1.length : Int)
         ·rw [if_pos c15] at H;have c15b0 : decide (x26_2 < (l0_1.length : Int)) = true := decide_eq_true c15;clear c15;replace H := Option.bind_eq_some_iff.mp H;obtain ⟨tq4, A160, H⟩ := H;replace H : (if tq4 = true then (some 9) else (section_Check.l0 k2 (l0_1.length : Int) l0_1 (l0_1.length : Int) (wrap64 (x26_2 + 1)) a0_0 l0_1)) = some r := H;have A16 := Aside0.mk A160;clear A160
          by_cases c17 : tq4 = true
          ·subst c17;(have H1 : (some 9) = some r := by rw [if_pos rfl] at H; exact H);clear H;have H := H1;clear H1;obtain rfl := Option.some.inj H;have pq2 : 0 ≤ (x26_2 : Int) := as_;have qq2 : x26_2 < (l0_1.length : Int) := as_;obtain ⟨adq2, eq2, hxq2_0, hxq2_1⟩ := at_T44 HR0_1.out x26_2 pq2 qq2;cases eq2;replace hxq2_0 := bc_ HB hxq2_0;replace hxq2_1 := bc_ HB hxq2_1;replace pq2 := eq_true pq2;replace qq2 := eq_true qq2;go_wp2_with (first | ((with_reducible refine gate_dst (N := 5) rfl ?_); refine bx_ 5 (cs := #[.int .i64 0, .int .i64 0]) (t := 44) ?_; intro gbq3 hg w18 hbox hb; have BKq3 := A_ hbox; have GWq3 := gz_ (w := w) hg; have GEq3 := gz_ (w := w) hg; replace HB := bA_ hb; have NBq1_q3 := nlt_ BKq1 hg; have NBq3_q1 := ngt_ BKq1 hg; replace BKq1 := bb_ BKq1 hb; clear hb hbox hg; have hnb19 := NBq3_q1.out; have hnc19 := NBq1_q3.out; obtain ⟨hcz20_0, hcz20_1, hfz20_0, hfz20_1⟩ := cy2_ BKq3) | ((with_reducible refine gate_callee (f := 74) rfl ?_); refine goesL_ (some 31) rfl rfl Try.func74 (by kernel_rfl) rfl #[.agg #[.int .i64 ((rd_T44 l0_1 x26_2).f0), .int .i64 ((rd_T44 l0_1 x26_2).f1)]] rfl la_ ?_; (with_reducible refine (section_outside.calls ((rd_T44 l0_1 x26_2).f0) ((rd_T44 l0_1 x26_2).f1) true _ A16.out).mono ?_); rintro e w21 ⟨rfl, hb⟩; refine ⟨_, rfl, ?_⟩; replace BKq1 := A_ (blk_below (g := gbq1) (o := .cells #[.int .i64 a0_0, .slice (some adq2) l0_1.length c0_1] 56 (0, 0)) (ch_ BKq1) hb); replace BKq3 := A_ (blk_below (g := gbq3) (o := .cells #[.int .i64 ((rd_T44 l0_1 x26_2).f0), .int .i64 ((rd_T44 l0_1 x26_2).f1)] 44 (0, 0)) (ch_ BKq3) hb); replace HB := bA_ hb; (try clear hb)));go_ret;exact ⟨er_, be_⟩
          ·replace c17 := Bool.eq_false_iff.mpr c17;subst c17;(have H1 : (section_Check.l0 k2 (l0_1.length : Int) l0_1 (l0_1.length : Int) (wrap64 (x26_2 + 1)) a0_0 l0_1) = some r := by rw [if_neg (show ¬ (false = true) by decide)] at H; exact H);clear H;have H := H1;clear H1;have H' := Aside0.mk H;clear H;have pq2 : 0 ≤ (x26_2 : Int) := as_;have qq2 : x26_2 < (l0_1.length : Int) := as_;obtain ⟨adq2, eq2, hxq2_0, hxq2_1⟩ := at_T44 HR0_1.out x26_2 pq2 qq2;cases eq2;replace hxq2_0 := bc_ HB hxq2_0;replace hxq2_1 := bc_ HB hxq2_1;replace pq2 := eq_true pq2;replace qq2 := eq_true qq2;go_wp2_with (first | ((with_reducible refine gate_dst (N := 5) rfl ?_); refine bx_ 5 (cs := #[.int .i64 0, .int .i64 0]) (t := 44) ?_; intro gbq3 hg w22 hbox hb; have BKq3 := A_ hbox; have GWq3 := gz_ (w := w) hg; have GEq3 := gz_ (w := w) hg; replace HB := bA_ hb; have NBq1_q3 := nlt_ BKq1 hg; have NBq3_q1 := ngt_ BKq1 hg; replace BKq1 := bb_ BKq1 hb; clear hb hbox hg; have hnb23 := NBq3_q1.out; have hnc23 := NBq1_q3.out; obtain ⟨hcz24_0, hcz24_1, hfz24_0, hfz24_1⟩ := cy2_ BKq3) | ((with_reducible refine gate_callee (f := 74) rfl ?_); refine goesL_ (some 31) rfl rfl Try.func74 (by kernel_rfl) rfl #[.agg #[.int .i64 ((rd_T44 l0_1 x26_2).f0), .int .i64 ((rd_T44 l0_1 x26_2).f1)]] rfl la_ ?_; (with_reducible refine (section_outside.calls ((rd_T44 l0_1 x26_2).f0) ((rd_T44 l0_1 x26_2).f1) false _ A16.out).mono ?_); rintro e w25 ⟨rfl, hb⟩; refine ⟨_, rfl, ?_⟩; replace BKq1 := A_ (blk_below (g := gbq1) (o := .cells #[.int .i64 a0_0, .slice (some adq2) l0_1.length c0_1] 56 (0, 0)) (ch_ BKq1) hb); replace BKq3 := A_ (blk_below (g := gbq3) (o := .cells #[.int .i64 ((rd_T44 l0_1 x26_2).f0), .int .i64 ((rd_T44 l0_1 x26_2).f1)] 44 (0, 0)) (ch_ BKq3) hb); replace HB := bA_ hb; (try clear hb)))
           go_roundg k2
           case measure => have := HJ4.out; have := HK2.out; omega
           case rel => exact ⟨(wrap64 (x26_2 + 1)), rs_, H', ⟨by have := HJ4.out; have := HK2.out; omega⟩, ⟨fb_ BKq1.out⟩, ⟨be_⟩⟩
         ·rw [if_neg c15] at H;exact absurd H (by simp)
        ·rw [if_neg c14] at H;exact absurd H (by simp)
       ·rw [if_neg c13] at H;have c13b0 : decide (x26_2 < (l0_1.length : Int)) = false := decide_eq_false c13;clear c13
        by_cases c26 : (l0_1.length : Int) = 0
        ·rw [if_pos c26] at H;have c26b0 : ((l0_1.length : Int) == 0) = true := beq_iff_eq.mpr c26;have c26b1 : ((l0_1.length : Int) != 0) = false := bne_eq_false_iff_eq.mpr c26;clear c26
         by_cases c27 : a0_0 = 0
         ·rw [if_pos c27] at H;have c27b0 : (a0_0 == 0) = true := beq_iff_eq.mpr c27;have c27b1 : (a0_0 != 0) = false := bne_eq_false_iff_eq.mpr c27;clear c27;obtain rfl := Option.some.inj H;obtain ⟨hcz28_0, hcz28_1, hfz28_0, hfz28_1⟩ := cy2_ BKq1;go_wp2;go_ret;exact ⟨er_, be_⟩
         ·rw [if_neg c27] at H;have c27b0 : (a0_0 == 0) = false := beq_eq_false_iff_ne.mpr c27;have c27b1 : (a0_0 != 0) = true := bne_iff_ne.mpr c27;obtain rfl := Option.some.inj H;obtain ⟨hcz29_0, hcz29_1, hfz29_0, hfz29_1⟩ := cy2_ BKq1;go_wp2;go_ret;exact ⟨er_, be_⟩
        ·rw [if_neg c26] at H;have c26b0 : ((l0_1.length : Int) == 0) = false := beq_eq_false_iff_ne.mpr c26;have c26b1 : ((l0_1.length : Int) != 0) = true := bne_iff_ne.mpr c26;have c26b2 : ¬ (l0_1 = []) := fun h_ => c26 (by rw [h_]; rfl);have HC30 := Aside0.mk H;clear H
         go_upto_region 16 with (fail)
         go_cut [51] (fun v51 wc => ∃ (kq : Nat) (x51_29 : Bool), v51 = .bool x51_29 ∧ Aside0 (section_Check.j2 kq x51_29 a0_0 l0_1 = some r) ∧ Aside0 (kq ≤ k2) ∧ Aside0 (wc.heap[gbq1]? = some (.cells #[.int .i64 a0_0, (.slice A0_1 l0_1.length c0_1)] 56 (0, 0))) ∧ Aside0 (Below w.heap.size w wc))
         case first =>
          have H := HC30.out;clear HC30
          by_cases c31 : 0 < (l0_1.length : Int)
          ·rw [if_pos c31] at H;have c31b0 : decide (0 < (l0_1.length : Int)) = true := decide_eq_true c31;have c31b1 : decide (0 < l0_1.length) = true := decide_eq_true (by omega);clear c31;(first | rw [c31b0] | (simp only [i64_w, i32_w]; rw [c31b0]) | skip);replace H := Option.bind_eq_some_iff.mp H;obtain ⟨tq6, A320, H⟩ := H;replace H : (if tq6 = true then (section_Check.j2 k2 true a0_0 l0_1) else (if 0 ≤ (wrap64 ((l0_1.length : Int) - 1)) then (if (wrap64 ((l0_1.length : Int) - 1)) < (l0_1.length : Int) then ((section_empty.f ((rd_T44 l0_1 (wrap64 ((l0_1.length : Int) - 1))).f0) ((rd_T44 l0_1 (wrap64 ((l0_1.length : Int) - 1))).f1)).bind fun tq8 => (section_Check.j2 k2 tq8 a0_0 l0_1)) else (none)) else (none))) = some r := H;have A32 := Aside0.mk A320;clear A320
           by_cases c33 : tq6 = true
           ·subst c33;(have H1 : (section_Check.j2 k2 true a0_0 l0_1) = some r := by rw [if_pos rfl] at H; exact H);clear H;have H := H1;clear H1;have H' := Aside0.mk H;clear H;obtain ⟨hcz34_0, hcz34_1, hfz34_0, hfz34_1⟩ := cy2_ BKq1;have pq5 : 0 ≤ (0 : Int) := (by omega);have qq5 : 0 < (l0_1.length : Int) := as_;obtain ⟨adq5, eq5, hxq5_0, hxq5_1⟩ := at_T44 HR0_1.out 0 pq5 qq5;cases eq5;have qiq5 : (0 < l0_1.length) = True := eq_true (by omega);(try rw [show ((0 : Int)).toNat = 0 from rfl] at hxq5_0);(try rw [show 0 * 2 = 0 from rfl] at hxq5_0);(try rw [Addr.add_zero'] at hxq5_0);(try rw [show ((0 : Int)).toNat = 0 from rfl] at hxq5_1);(try rw [show 0 * 2 = 0 from rfl] at hxq5_1);(try rw [Addr.add_zero'] at hxq5_1);replace hxq5_0 := bc_ HB hxq5_0;replace hxq5_1 := bc_ HB hxq5_1;replace pq5 := eq_true pq5;replace qq5 := eq_true qq5;go_wp2_with (first | ((with_reducible refine gate_callee (f := 75) rfl ?_); refine goesL_ (some 42) rfl rfl Try.func75 (by kernel_rfl) rfl #[.agg #[.int .i64 ((rd_T44 l0_1 0).f0), .int .i64 ((rd_T44 l0_1 0).f1)]] rfl la_ ?_; (with_reducible refine (section_empty.calls ((rd_T44 l0_1 0).f0) ((rd_T44 l0_1 0).f1) true _ A32.out).mono ?_); rintro e w35 ⟨rfl, hb⟩; refine ⟨_, rfl, ?_⟩; replace BKq1 := bb_ BKq1 hb; replace HB := bA_ hb; (try clear hb)))
            go_meet
            case rel => exact ⟨_, (true), rs_, H', ⟨by have := HJ4.out; have := HK2.out; first | omega | exact Nat.le_refl _⟩, ⟨fb_ BKq1.out⟩, ⟨be_⟩⟩
           ·replace c33 := Bool.eq_false_iff.mpr c33;subst c33;(have H1 : (if 0 ≤ (wrap64 ((l0_1.length : Int) - 1)) then (if (wrap64 ((l0_1.length : Int) - 1)) < (l0_1.length : Int) then ((section_empty.f ((rd_T44 l0_1 (wrap64 ((l0_1.length : Int) - 1))).f0) ((rd_T44 l0_1 (wrap64 ((l0_1.length : Int) - 1))).f1)).bind fun tq8 => (section_Check.j2 k2 tq8 a0_0 l0_1)) else (none)) else (none)) = some r := by rw [if_neg (show ¬ (false = true) by decide)] at H; exact H);clear H;have H := H1;clear H1;obtain ⟨ji36, hji36⟩ : ∃ j_ : Int, (wrap64 ((l0_1.length : Int) - 1)) = j_ := ⟨_, rfl⟩;(replace H : (if 0 ≤ (ji36) then (if (ji36) < (l0_1.length : Int) then ((section_empty.f ((rd_T44 l0_1 (ji36)).f0) ((rd_T44 l0_1 (ji36)).f1)).bind fun tq8 => (section_Check.j2 k2 tq8 a0_0 l0_1)) else (none)) else (none)) = some r := by first | (rw [hji36] at H; exact H) | (simp only [hji36] at H ⊢; exact H));(try rw [hji36] at A32);have hji36w : (IntKind.i64.wrap ((l0_1.length : Int) - 1)) = ji36 := (i64_w _).trans hji36
            by_cases c37 : 0 ≤ (ji36)
            ·rw [if_pos c37] at H;have c37b0 : decide (0 ≤ (ji36)) = true := decide_eq_true c37;clear c37
             by_cases c38 : (ji36) < (l0_1.length : Int)
             ·rw [if_pos c38] at H;have c38b0 : decide ((ji36) < (l0_1.length : Int)) = true := decide_eq_true c38;clear c38;replace H := Option.bind_eq_some_iff.mp H;obtain ⟨tq8, A390, H⟩ := H;replace H : (section_Check.j2 k2 tq8 a0_0 l0_1) = some r := H;have A39 := Aside0.mk A390;clear A390;have H' := Aside0.mk H;clear H;obtain ⟨hcz40_0, hcz40_1, hfz40_0, hfz40_1⟩ := cy2_ BKq1;have pq5 : 0 ≤ (0 : Int) := (by omega);have qq5 : 0 < (l0_1.length : Int) := as_;obtain ⟨adq5, eq5, hxq5_0, hxq5_1⟩ := at_T44 HR0_1.out 0 pq5 qq5;cases eq5;have qiq5 : (0 < l0_1.length) = True := eq_true (by omega);(try rw [show ((0 : Int)).toNat = 0 from rfl] at hxq5_0);(try rw [show 0 * 2 = 0 from rfl] at hxq5_0);(try rw [Addr.add_zero'] at hxq5_0);(try rw [show ((0 : Int)).toNat = 0 from rfl] at hxq5_1);(try rw [show 0 * 2 = 0 from rfl] at hxq5_1);(try rw [Addr.add_zero'] at hxq5_1);replace hxq5_0 := bc_ HB hxq5_0;replace hxq5_1 := bc_ HB hxq5_1;replace pq5 := eq_true pq5;replace qq5 := eq_true qq5;go_wp2_with (first | ((with_reducible refine gate_callee (f := 75) rfl ?_); refine goesL_ (some 42) rfl rfl Try.func75 (by kernel_rfl) rfl #[.agg #[.int .i64 ((rd_T44 l0_1 0).f0), .int .i64 ((rd_T44 l0_1 0).f1)]] rfl la_ ?_; (with_reducible refine (section_empty.calls ((rd_T44 l0_1 0).f0) ((rd_T44 l0_1 0).f1) false _ A32.out).mono ?_); rintro e w41 ⟨rfl, hb⟩; refine ⟨_, rfl, ?_⟩; replace BKq1 := bb_ BKq1 hb; replace HB := bA_ hb; (try clear hb); obtain ⟨hcz42_0, hcz42_1, hfz42_0, hfz42_1⟩ := cy2_ BKq1; have pq7 : 0 ≤ ((ji36) : Int) := as_; have qq7 : (ji36) < (l0_1.length : Int) := as_; obtain ⟨adq7, eq7, hxq7_0, hxq7_1⟩ := at_T44 HR0_1.out (ji36) pq7 qq7; obtain rfl : adq5 = adq7 := (by injection eq7); replace hxq7_0 := bc_ HB hxq7_0; replace hxq7_1 := bc_ HB hxq7_1; replace pq7 := eq_true pq7; replace qq7 := eq_true qq7) | (go_at_call 75; (with_reducible refine (section_empty.calls ((rd_T44 l0_1 (ji36)).f0) ((rd_T44 l0_1 (ji36)).f1) tq8 _ A39.out).mono ?_); rintro e w43 ⟨rfl, hb⟩; replace BKq1 := bb_ BKq1 hb; replace HB := bA_ hb; (try clear hb)))
              go_meet
              case rel => exact ⟨_, (tq8), rs_, H', ⟨by have := HJ4.out; have := HK2.out; first | omega | exact Nat.le_refl _⟩, ⟨fb_ BKq1.out⟩, ⟨be_⟩⟩
             ·rw [if_neg c38] at H;exact absurd H (by simp)
            ·rw [if_neg c37] at H;exact absurd H (by simp)
          ·rw [if_neg c31] at H;exact absurd H (by simp)
         case rest =>
          clear HC30;(try clear c1);(try clear c2);(try clear c2b0);(try clear c2b1);(try clear p2);(try clear c3);(try clear c6);(try clear p6);(try clear q6);(try clear hx6);(try clear qi6);(try clear c7);(try clear c8);(try clear c8b0);(try clear c11);(try clear c13);(try clear c13b0);(try clear c14);(try clear c14b0);(try clear c15);(try clear c15b0);(try clear c17);(try clear c19);(try clear c23);(try clear c26);(try clear c26b0);(try clear c26b1);(try clear c26b2);(try clear c27);(try clear c27b0);(try clear c27b1);(try clear c31);(try clear c31b0);(try clear c31b1);(try clear c33);(try clear c37);(try clear c37b0);(try clear c38);(try clear c38b0);(try clear hcz10_0);(try clear hcz10_1);(try clear hcz12_0);(try clear hcz12_1);(try clear hcz20_0);(try clear hcz20_1);(try clear hcz24_0);(try clear hcz24_1);(try clear hcz28_0);(try clear hcz28_1);(try clear hcz29_0);(try clear hcz29_1);(try clear hcz34_0);(try clear hcz34_1);(try clear hcz40_0);(try clear hcz40_1);(try clear hcz42_0);(try clear hcz42_1);(try clear hcz4_0);(try clear hcz4_1);(try clear hcz7_0);(try clear hcz7_1);(try clear hcz9_0);(try clear hcz9_1);(try clear hfz10_0);(try clear hfz10_1);(try clear hfz12_0);(try clear hfz12_1);(try clear hfz20_0);(try clear hfz20_1);(try clear hfz24_0);(try clear hfz24_1);(try clear hfz28_0);(try clear hfz28_1);(try clear hfz29_0);(try clear hfz29_1);(try clear hfz34_0);(try clear hfz34_1);(try clear hfz40_0);(try clear hfz40_1);(try clear hfz42_0);(try clear hfz42_1);(try clear hfz4_0);(try clear hfz4_1);(try clear hfz7_0);(try clear hfz7_1);(try clear hfz9_0);(try clear hfz9_1);(try clear hxq2_0);(try clear hxq2_1);(try clear hxq5_0);(try clear hxq5_1);(try clear hxq7_0);(try clear hxq7_1);(try clear p2);(try clear p6);(try clear pq2);(try clear pq5);(try clear pq7);(try clear qq2);(try clear qq5);(try clear qq7);obtain ⟨kq, x51_29, rfl, HA, HJ29, BKq1, HB⟩ := hcut;cases kq with
          | zero => exact absurd HA.out (by simp [section_Check.j2])
          | succ kj29 =>
           have H := HA.out;clear HA;simp only [section_Check.j2] at H
           by_cases c44 : x51_29 = true
           ·subst c44;(have H1 : (some 19) = some r := by rw [if_pos rfl] at H; exact H);clear H;have H := H1;clear H1;obtain rfl := Option.some.inj H;go_wp2;go_ret;exact ⟨er_, be_⟩
           ·replace c44 := Bool.eq_false_iff.mpr c44;subst c44;(have H1 : (section_Check.l1 kj29 l0_1 (l0_1.length : Int) 0) = some r := by rw [if_neg (show ¬ (false = true) by decide)] at H; exact H);clear H;have H := H1;clear H1;have H' := Aside0.mk H;clear H;obtain ⟨hcz45_0, hcz45_1, hfz45_0, hfz45_1⟩ := cy2_ BKq1;go_wp2
            go_loopg [55] kj29 (fun kq v55 w' => ∃ (x55_4 : Int), v55 = .int .i64 x55_4 ∧ Aside0 (section_Check.l1 kq l0_1 (l0_1.length : Int) x55_4 = some r) ∧ Aside0 (kq ≤ kj29) ∧ Aside0 (w'.heap[gbq1]? = some (.cells #[.int .i64 a0_0, (.slice A0_1 l0_1.length c0_1)] 56 (0, 0))) ∧ Aside0 (Below w.heap.size w w'))
            case atStart => exact ⟨(0), rs_, H', ⟨Nat.le_refl _⟩, ⟨fb_ BKq1.out⟩, ⟨be_⟩⟩
            case round =>
             clear H';(try clear c1);(try clear c2);(try clear c2b0);(try clear c2b1);(try clear p2);(try clear c3);(try clear c4);(try clear c6);(try clear p6);(try clear q6);(try clear hx6);(try clear qi6);(try clear c7);(try clear c8);(try clear c8b0);(try clear c11);(try clear c13);(try clear c13b0);(try clear c14);(try clear c14b0);(try clear c15);(try clear c15b0);(try clear c17);(try clear c19);(try clear c23);(try clear c26);(try clear c26b0);(try clear c26b1);(try clear c26b2);(try clear c27);(try clear c27b0);(try clear c27b1);(try clear c31);(try clear c31b0);(try clear c31b1);(try clear c33);(try clear c37);(try clear c37b0);(try clear c38);(try clear c38b0);(try clear c44);(try clear hcz10_0);(try clear hcz10_1);(try clear hcz12_0);(try clear hcz12_1);(try clear hcz20_0);(try clear hcz20_1);(try clear hcz24_0);(try clear hcz24_1);(try clear hcz28_0);(try clear hcz28_1);(try clear hcz29_0);(try clear hcz29_1);(try clear hcz34_0);(try clear hcz34_1);(try clear hcz40_0);(try clear hcz40_1);(try clear hcz42_0);(try clear hcz42_1);(try clear hcz45_0);(try clear hcz45_1);(try clear hcz4_0);(try clear hcz4_1);(try clear hcz7_0);(try clear hcz7_1);(try clear hcz9_0);(try clear hcz9_1);(try clear hfz10_0);(try clear hfz10_1);(try clear hfz12_0);(try clear hfz12_1);(try clear hfz20_0);(try clear hfz20_1);(try clear hfz24_0);(try clear hfz24_1);(try clear hfz28_0);(try clear hfz28_1);(try clear hfz29_0);(try clear hfz29_1);(try clear hfz34_0);(try clear hfz34_1);(try clear hfz40_0);(try clear hfz40_1);(try clear hfz42_0);(try clear hfz42_1);(try clear hfz45_0);(try clear hfz45_1);(try clear hfz4_0);(try clear hfz4_1);(try clear hfz7_0);(try clear hfz7_1);(try clear hfz9_0);(try clear hfz9_1);(try clear hxq2_0);(try clear hxq2_1);(try clear hxq5_0);(try clear hxq5_1);(try clear hxq7_0);(try clear hxq7_1);(try clear p2);(try clear p6);(try clear pq2);(try clear pq5);(try clear pq7);(try clear q6);(try clear qq2);(try clear qq5);(try clear qq7);obtain ⟨x55_4, rfl, HA, HK4, BKq1, HB⟩ := hrel;cases gk with
             | zero => exact absurd HA.out (by simp [section_Check.l1])
             | succ k4 =>
              have H := HA.out;clear HA;simp only [section_Check.l1] at H
              by_cases c46 : x55_4 < (l0_1.length : Int)
              ·rw [if_pos c46] at H;have c46b0 : decide (x55_4 < (l0_1.length : Int)) = true := decide_eq_true c46;clear c46
               by_cases c47 : 0 ≤ x55_4
               ·rw [if_pos c47] at H;have c47b0 : decide (0 ≤ x55_4) = true := decide_eq_true c47;clear c47
                by_cases c48 : x55_4 < (l0_1.length : Int)
                ·rw [if_pos c48] at H;have c48b0 : decide (x55_4 < (l0_1.length : Int)) = true := decide_eq_true c48;clear c48;replace H := Option.bind_eq_some_iff.mp H;obtain ⟨tq11, A490, H⟩ := H;replace H : (if tq11 = true then (if (!(((rd_T44 l0_1 x55_4).f0) == 0) || (!(((rd_T44 l0_1 x55_4).f1) == 0))) = true then (some 19) else (section_Check.l1 k4 l0_1 (l0_1.length : Int) (wrap64 (x55_4 + 1)))) else (section_Check.l1 k4 l0_1 (l0_1.length : Int) (wrap64 (x55_4 + 1)))) = some r := H;have A49 := Aside0.mk A490;clear A490
                 by_cases c50 : tq11 = true
                 ·subst c50;(have H1 : (if (!(((rd_T44 l0_1 x55_4).f0) == 0) || (!(((rd_T44 l0_1 x55_4).f1) == 0))) = true then (some 19) else (section_Check.l1 k4 l0_1 (l0_1.length : Int) (wrap64 (x55_4 + 1)))) = some r := by rw [if_pos rfl] at H; exact H);clear H;have H := H1;clear H1
                  by_cases c51 : (!(((rd_T44 l0_1 x55_4).f0) == 0) || (!(((rd_T44 l0_1 x55_4).f1) == 0))) = true
                  ·rw [if_pos c51] at H;have c51b0 : (!(((rd_T44 l0_1 x55_4).f0) == 0) || (!(((rd_T44 l0_1 x55_4).f1) == 0))) = true := c51;clear c51;obtain rfl := Option.some.inj H;have pq9 : 0 ≤ (x55_4 : Int) := as_;have qq9 : x55_4 < (l0_1.length : Int) := as_;obtain ⟨adq9, eq9, hxq9_0, hxq9_1⟩ := at_T44 HR0_1.out x55_4 pq9 qq9;cases eq9;replace hxq9_0 := bc_ HB hxq9_0;replace hxq9_1 := bc_ HB hxq9_1;replace pq9 := eq_true pq9;replace qq9 := eq_true qq9;go_wp2_with (first | ((with_reducible refine gate_dst (N := 7) rfl ?_); refine bx_ 7 (cs := #[.int .i64 0, .int .i64 0]) (t := 44) ?_; intro gbq10 hg w52 hbox hb; have BKq10 := A_ hbox; have GWq10 := gz_ (w := w) hg; have GEq10 := gz_ (w := w) hg; replace HB := bA_ hb; have NBq1_q10 := nlt_ BKq1 hg; have NBq10_q1 := ngt_ BKq1 hg; replace BKq1 := bb_ BKq1 hb; clear hb hbox hg; have hnb53 := NBq10_q1.out; have hnc53 := NBq1_q10.out; obtain ⟨hcz54_0, hcz54_1, hfz54_0, hfz54_1⟩ := cy2_ BKq10) | ((with_reducible refine gate_callee (f := 75) rfl ?_); refine goesL_ (some 60) rfl rfl Try.func75 (by kernel_rfl) rfl #[.agg #[.int .i64 ((rd_T44 l0_1 x55_4).f0), .int .i64 ((rd_T44 l0_1 x55_4).f1)]] rfl la_ ?_; (with_reducible refine (section_empty.calls ((rd_T44 l0_1 x55_4).f0) ((rd_T44 l0_1 x55_4).f1) true _ A49.out).mono ?_); rintro e w55 ⟨rfl, hb⟩; refine ⟨_, rfl, ?_⟩; replace BKq1 := A_ (blk_below (g := gbq1) (o := .cells #[.int .i64 a0_0, .slice (some adq9) l0_1.length c0_1] 56 (0, 0)) (ch_ BKq1) hb); replace BKq10 := A_ (blk_below (g := gbq10) (o := .cells #[.int .i64 ((rd_T44 l0_1 x55_4).f0), .int .i64 ((rd_T44 l0_1 x55_4).f1)] 44 (0, 0)) (ch_ BKq10) hb); replace HB := bA_ hb; (try clear hb); obtain ⟨hcz56_0, hcz56_1, hfz56_0, hfz56_1⟩ := cy2_ BKq10));go_ret;exact ⟨er_, be_⟩
                  ·rw [if_neg c51] at H;(have c51b0 : (!(((rd_T44 l0_1 x55_4).f0) == 0) || (!(((rd_T44 l0_1 x55_4).f1) == 0))) = false := by simpa using c51);clear c51;have H' := Aside0.mk H;clear H;have pq9 : 0 ≤ (x55_4 : Int) := as_;have qq9 : x55_4 < (l0_1.length : Int) := as_;obtain ⟨adq9, eq9, hxq9_0, hxq9_1⟩ := at_T44 HR0_1.out x55_4 pq9 qq9;cases eq9;replace hxq9_0 := bc_ HB hxq9_0;replace hxq9_1 := bc_ HB hxq9_1;replace pq9 := eq_true pq9;replace qq9 := eq_true qq9;go_wp2_with (first | ((with_reducible refine gate_dst (N := 7) rfl ?_); refine bx_ 7 (cs := #[.int .i64 0, .int .i64 0]) (t := 44) ?_; intro gbq10 hg w57 hbox hb; have BKq10 := A_ hbox; have GWq10 := gz_ (w := w) hg; have GEq10 := gz_ (w := w) hg; replace HB := bA_ hb; have NBq1_q10 := nlt_ BKq1 hg; have NBq10_q1 := ngt_ BKq1 hg; replace BKq1 := bb_ BKq1 hb; clear hb hbox hg; have hnb58 := NBq10_q1.out; have hnc58 := NBq1_q10.out; obtain ⟨hcz59_0, hcz59_1, hfz59_0, hfz59_1⟩ := cy2_ BKq10) | ((with_reducible refine gate_callee (f := 75) rfl ?_); refine goesL_ (some 60) rfl rfl Try.func75 (by kernel_rfl) rfl #[.agg #[.int .i64 ((rd_T44 l0_1 x55_4).f0), .int .i64 ((rd_T44 l0_1 x55_4).f1)]] rfl la_ ?_; (with_reducible refine (section_empty.calls ((rd_T44 l0_1 x55_4).f0) ((rd_T44 l0_1 x55_4).f1) true _ A49.out).mono ?_); rintro e w60 ⟨rfl, hb⟩; refine ⟨_, rfl, ?_⟩; replace BKq1 := A_ (blk_below (g := gbq1) (o := .cells #[.int .i64 a0_0, .slice (some adq9) l0_1.length c0_1] 56 (0, 0)) (ch_ BKq1) hb); replace BKq10 := A_ (blk_below (g := gbq10) (o := .cells #[.int .i64 ((rd_T44 l0_1 x55_4).f0), .int .i64 ((rd_T44 l0_1 x55_4).f1)] 44 (0, 0)) (ch_ BKq10) hb); replace HB := bA_ hb; (try clear hb); obtain ⟨hcz61_0, hcz61_1, hfz61_0, hfz61_1⟩ := cy2_ BKq10))
                   go_roundg k4
                   case measure => have := HJ4.out; have := HK2.out; have := HJ29.out; have := HK4.out; omega
                   case rel => exact ⟨(wrap64 (x55_4 + 1)), rs_, H', ⟨by have := HJ4.out; have := HK2.out; have := HJ29.out; have := HK4.out; omega⟩, ⟨fb_ BKq1.out⟩, ⟨be_⟩⟩
                 ·replace c50 := Bool.eq_false_iff.mpr c50;subst c50;(have H1 : (section_Check.l1 k4 l0_1 (l0_1.length : Int) (wrap64 (x55_4 + 1))) = some r := by rw [if_neg (show ¬ (false = true) by decide)] at H; exact H);clear H;have H := H1;clear H1;have H' := Aside0.mk H;clear H;have pq9 : 0 ≤ (x55_4 : Int) := as_;have qq9 : x55_4 < (l0_1.length : Int) := as_;obtain ⟨adq9, eq9, hxq9_0, hxq9_1⟩ := at_T44 HR0_1.out x55_4 pq9 qq9;cases eq9;replace hxq9_0 := bc_ HB hxq9_0;replace hxq9_1 := bc_ HB hxq9_1;replace pq9 := eq_true pq9;replace qq9 := eq_true qq9;go_wp2_with (first | ((with_reducible refine gate_dst (N := 7) rfl ?_); refine bx_ 7 (cs := #[.int .i64 0, .int .i64 0]) (t := 44) ?_; intro gbq10 hg w62 hbox hb; have BKq10 := A_ hbox; have GWq10 := gz_ (w := w) hg; have GEq10 := gz_ (w := w) hg; replace HB := bA_ hb; have NBq1_q10 := nlt_ BKq1 hg; have NBq10_q1 := ngt_ BKq1 hg; replace BKq1 := bb_ BKq1 hb; clear hb hbox hg; have hnb63 := NBq10_q1.out; have hnc63 := NBq1_q10.out; obtain ⟨hcz64_0, hcz64_1, hfz64_0, hfz64_1⟩ := cy2_ BKq10) | ((with_reducible refine gate_callee (f := 75) rfl ?_); refine goesL_ (some 60) rfl rfl Try.func75 (by kernel_rfl) rfl #[.agg #[.int .i64 ((rd_T44 l0_1 x55_4).f0), .int .i64 ((rd_T44 l0_1 x55_4).f1)]] rfl la_ ?_; (with_reducible refine (section_empty.calls ((rd_T44 l0_1 x55_4).f0) ((rd_T44 l0_1 x55_4).f1) false _ A49.out).mono ?_); rintro e w65 ⟨rfl, hb⟩; refine ⟨_, rfl, ?_⟩; replace BKq1 := A_ (blk_below (g := gbq1) (o := .cells #[.int .i64 a0_0, .slice (some adq9) l0_1.length c0_1] 56 (0, 0)) (ch_ BKq1) hb); replace BKq10 := A_ (blk_below (g := gbq10) (o := .cells #[.int .i64 ((rd_T44 l0_1 x55_4).f0), .int .i64 ((rd_T44 l0_1 x55_4).f1)] 44 (0, 0)) (ch_ BKq10) hb); replace HB := bA_ hb; (try clear hb)))
                  go_roundg k4
                  case measure => have := HJ4.out; have := HK2.out; have := HJ29.out; have := HK4.out; omega
                  case rel => exact ⟨(wrap64 (x55_4 + 1)), rs_, H', ⟨by have := HJ4.out; have := HK2.out; have := HJ29.out; have := HK4.out; omega⟩, ⟨fb_ BKq1.out⟩, ⟨be_⟩⟩
                ·rw [if_neg c48] at H;exact absurd H (by simp)
               ·rw [if_neg c47] at H;exact absurd H (by simp)
              ·rw [if_neg c46] at H;have c46b0 : decide (x55_4 < (l0_1.length : Int)) = false := decide_eq_false c46;clear c46;obtain rfl := Option.some.inj H;go_wp2;go_ret;exact ⟨er_, be_⟩


def solid_Check.l0 : Nat → Int → List (S58) → Int → Int → Option (Int)
 | 0, _, _, _, _ => none
 | k + 1, x3, x13, x14, x15 => if x15 < x14 then (if 0 ≤ x15 then (if x15 < (x13.length : Int) then ((section_Check.f k ((rd_T58 x13 x15).f1.f0) ((rd_T58 x13 x15).f1.f1)).bind fun tq3 => (if tq3 = 0 then (if (((rd_T58 x13 x15).f1.f1).length : Int) = 0 then (some 18) else (if ((rd_T58 x13 x15).f0) < 1 then (some 9) else (if ((rd_T58 x13 x15).f0) > x3 then (some 9) else (solid_Check.l0 k (wrap64 (x3 - ((rd_T58 x13 x15).f0))) x13 x14 (wrap64 (x15 + 1)))))) else (some tq3))) else (none)) else (none)) else (some 0)
def solid_Check.f (k : Nat) (l0 : List (S58)) : Option (Int) := if (l0.length : Int) = 0 then (some 3) else (if (l0.length : Int) > 24 then (some 4) else (solid_Check.l0 k 20000 l0 (l0.length : Int) 0))
theorem solid_Check.mono_l : ∀ k, (∀ y0 y1 y2 y3, LeO (solid_Check.l0 k y0 y1 y2 y3) (solid_Check.l0 (k + 1) y0 y1 y2 y3))
 | 0 => fun _ _ _ _ r h => by simp [solid_Check.l0] at h
 | k + 1 => by
  have ih0 := solid_Check.mono_l k
  ·intro y0 y1 y2 y3;unfold solid_Check.l0
   repeat' first
   | (with_reducible exact ih0 _ _ _ _)
   | (with_reducible exact section_Check.mono _ _ _)
   | (with_reducible exact LeO.refl _)
   | (with_reducible exact LeO.none _)
   | (with_reducible refine LeO.ite ?_ ?_)
   | (with_reducible refine LeO.bind ?_ (fun _ => ?_))
   | exact ih0 _ _ _ _
   | exact section_Check.mono _ _ _
   | exact LeO.none _
   | refine LeO.ite ?_ ?_
   | refine LeO.bind ?_ (fun _ => ?_)
theorem solid_Check.mono : ∀ a0 k, LeO (solid_Check.f k a0) (solid_Check.f (k + 1) a0) := by
 intro a0 k;have ih0 := solid_Check.mono_l k;unfold solid_Check.f
 repeat' first
   | (with_reducible exact ih0 _ _ _ _)
   | (with_reducible exact section_Check.mono _ _ _)
   | (with_reducible exact LeO.refl _)
   | (with_reducible exact LeO.none _)
   | (with_reducible refine LeO.ite ?_ ?_)
   | (with_reducible refine LeO.bind ?_ (fun _ => ?_))
   | exact ih0 _ _ _ _
   | exact section_Check.mono _ _ _
   | exact LeO.none _
   | refine LeO.ite ?_ ?_
   | refine LeO.bind ?_ (fun _ => ?_)
set_option maxHeartbeats 8000000 in
set_option maxRecDepth 100000 in
theorem solid_Check.calls (k : Nat) (A0 : Option Addr) (c0 : Nat) (l0 : List (S58)) (r : Int) (w : World) (hr0 : Kd.C k58 w A0 l0.length l0) (hc0 : l0.length ≤ c0) (h : solid_Check.f k l0 = some r) :
  Calls Try.prog 41 #[.slice A0 l0.length c0] w fun e w' => e = .returned (.int .i64 r) ∧ Below w.heap.size w w' := by
 have hu58 := Try.underlying58;have hu56 := Try.underlying56;have HR0 := Aside0.mk hr0;have HC0 := Aside0.mk hc0;clear hr0 hc0;have HB := A_ (Below.refl w.heap.size w);have H : (if (l0.length : Int) = 0 then (some 3) else (if (l0.length : Int) > 24 then (some 4) else (solid_Check.l0 k 20000 l0 (l0.length : Int) 0))) = some r := h;clear h
 by_cases c2 : (l0.length : Int) = 0
 ·rw [if_pos c2] at H;have c2b0 : ((l0.length : Int) == 0) = true := beq_iff_eq.mpr c2;have c2b1 : ((l0.length : Int) != 0) = false := bne_eq_false_iff_eq.mpr c2;clear c2;obtain rfl := Option.some.inj H;go_enter Try.func41, Try.ntmps41;go_wp2;go_ret;exact ⟨er_, be_⟩
 ·rw [if_neg c2] at H;have c2b0 : ((l0.length : Int) == 0) = false := beq_eq_false_iff_ne.mpr c2;have c2b1 : ((l0.length : Int) != 0) = true := bne_iff_ne.mpr c2;have c2b2 : ¬ (l0 = []) := fun h_ => c2 (by rw [h_]; rfl)
  by_cases c3 : (l0.length : Int) > 24
  ·rw [if_pos c3] at H;have c3b0 : decide (24 < (l0.length : Int)) = true := decide_eq_true c3;have c3b1 : decide (24 < l0.length) = true := decide_eq_true (by omega);clear c3;obtain rfl := Option.some.inj H;go_enter Try.func41, Try.ntmps41;go_wp2;go_ret;exact ⟨er_, be_⟩
  ·rw [if_neg c3] at H;have c3b0 : decide (24 < (l0.length : Int)) = false := decide_eq_false c3;have c3b1 : decide (24 < l0.length) = false := decide_eq_false (by omega);clear c3;have H' := Aside0.mk H;clear H;go_enter Try.func41, Try.ntmps41;go_wp2
   go_loopg [3, 15] k (fun kq v3 v15 w' => ∃ (x3_1 : Int) (x15_1 : Int), v3 = .int .i64 x3_1 ∧ v15 = .int .i64 x15_1 ∧ Aside0 (solid_Check.l0 kq x3_1 l0 (l0.length : Int) x15_1 = some r) ∧ Aside0 (kq ≤ k) ∧ Aside0 (Below w.heap.size w w'))
   case atStart => exact ⟨(20000), (0), rs_, rs_, H', ⟨Nat.le_refl _⟩, ⟨be_⟩⟩
   case round =>
    clear H';(try clear c2);(try clear c2b0);(try clear c2b1);(try clear c2b2);(try clear p2);(try clear c3);(try clear c3b0);(try clear c3b1);obtain ⟨x3_1, x15_1, rfl, rfl, HA, HK1, HB⟩ := hrel;cases gk with
    | zero => exact absurd HA.out (by simp [solid_Check.l0])
    | succ k1 =>
     have H := HA.out;clear HA;simp only [solid_Check.l0] at H
     by_cases c4 : x15_1 < (l0.length : Int)
     ·rw [if_pos c4] at H;have c4b0 : decide (x15_1 < (l0.length : Int)) = true := decide_eq_true c4;clear c4
      by_cases c5 : 0 ≤ x15_1
      ·rw [if_pos c5] at H;have c5b0 : decide (0 ≤ x15_1) = true := decide_eq_true c5;clear c5
       by_cases c6 : x15_1 < (l0.length : Int)
       ·rw [if_pos c6] at H;have c6b0 : decide (x15_1 < (l0.length : Int)) = true := decide_eq_true c6;clear c6;replace H := Option.bind_eq_some_iff.mp H;obtain ⟨tq3, A70, H⟩ := H;replace H : (if tq3 = 0 then (if (((rd_T58 l0 x15_1).f1.f1).length : Int) = 0 then (some 18) else (if ((rd_T58 l0 x15_1).f0) < 1 then (some 9) else (if ((rd_T58 l0 x15_1).f0) > x3_1 then (some 9) else (solid_Check.l0 k1 (wrap64 (x3_1 - ((rd_T58 l0 x15_1).f0))) l0 (l0.length : Int) (wrap64 (x15_1 + 1)))))) else (some tq3)) = some r := H;have A7 := Aside0.mk A70;clear A70
        by_cases c8 : tq3 = 0
        ·rw [if_pos c8] at H;have c8b0 : (tq3 == 0) = true := beq_iff_eq.mpr c8;have c8b1 : (tq3 != 0) = false := bne_eq_false_iff_eq.mpr c8;clear c8
         by_cases c9 : (((rd_T58 l0 x15_1).f1.f1).length : Int) = 0
         ·rw [if_pos c9] at H;have c9b0 : ((((rd_T58 l0 x15_1).f1.f1).length : Int) == 0) = true := beq_iff_eq.mpr c9;have c9b1 : ((((rd_T58 l0 x15_1).f1.f1).length : Int) != 0) = false := bne_eq_false_iff_eq.mpr c9;clear c9;obtain rfl := Option.some.inj H;have pq1 : 0 ≤ (x15_1 : Int) := as_;have qq1 : x15_1 < (l0.length : Int) := as_;obtain ⟨adq1, Aq1_2, cq1_2, eq1, hxq1_0, hxq1_1, hxq1_2, hlq1_2, hiq1_2⟩ := at_T58 HR0.out x15_1 pq1 qq1;cases eq1;replace hxq1_0 := bc_ HB hxq1_0;replace hxq1_1 := bc_ HB hxq1_1;replace hxq1_2 := bc_ HB hxq1_2;have HRq1_2 := Aside0.mk hiq1_2;have HCq1_2 := Aside0.mk hlq1_2;clear hiq1_2 hlq1_2;replace pq1 := eq_true pq1;replace qq1 := eq_true qq1;go_wp2_with (first | ((with_reducible refine gate_dst (N := 5) rfl ?_); refine bx_ 5 (cs := #[.int .i64 0, .int .i64 0, .slice none 0 0]) (t := 58) ?_; intro gbq2 hg w10 hbox hb; have BKq2 := A_ hbox; have GWq2 := gz_ (w := w) hg; have GEq2 := gz_ (w := w) hg; replace HB := bA_ hb; clear hb hbox hg; obtain ⟨hcz11_0, hcz11_1, hcz11_2, hfz11_0, hfz11_1, hfz11_2⟩ := cy3_ BKq2) | ((with_reducible refine gate_callee (f := 61) rfl ?_); refine goesL_ (some 21) rfl rfl Try.func61 (by kernel_rfl) rfl #[.agg #[.int .i64 ((rd_T58 l0 x15_1).f1.f0), .slice Aq1_2 ((rd_T58 l0 x15_1).f1.f1).length cq1_2]] rfl la_ ?_; (with_reducible refine (section_Check.calls k1 ((rd_T58 l0 x15_1).f1.f0) _ _ ((rd_T58 l0 x15_1).f1.f1) tq3 _ ?side1 ?side2 A7.out).mono ?_); (case side1 => exact Kd.C_below HRq1_2.out be_); (case side2 => exact HCq1_2.out); rintro e w12 ⟨rfl, hb⟩; refine ⟨_, rfl, ?_⟩; replace BKq2 := A_ (blk_below (g := gbq2) (o := .cells #[.int .i64 ((rd_T58 l0 x15_1).f0), .int .i64 ((rd_T58 l0 x15_1).f1.f0), .slice Aq1_2 ((rd_T58 l0 x15_1).f1.f1).length cq1_2] 58 (0, 0)) (ch_ BKq2) hb); replace HB := bA_ hb; (try clear hb); obtain ⟨hcz13_0, hcz13_1, hcz13_2, hfz13_0, hfz13_1, hfz13_2⟩ := cy3_ BKq2));go_ret;exact ⟨er_, be_⟩
         ·rw [if_neg c9] at H;have c9b0 : ((((rd_T58 l0 x15_1).f1.f1).length : Int) == 0) = false := beq_eq_false_iff_ne.mpr c9;have c9b1 : ((((rd_T58 l0 x15_1).f1.f1).length : Int) != 0) = true := bne_iff_ne.mpr c9;have c9b2 : ¬ (((rd_T58 l0 x15_1).f1.f1) = []) := fun h_ => c9 (by rw [h_]; rfl)
          by_cases c14 : ((rd_T58 l0 x15_1).f0) < 1
          ·rw [if_pos c14] at H;have c14b0 : decide (((rd_T58 l0 x15_1).f0) < 1) = true := decide_eq_true c14;clear c14;obtain rfl := Option.some.inj H;have pq1 : 0 ≤ (x15_1 : Int) := as_;have qq1 : x15_1 < (l0.length : Int) := as_;obtain ⟨adq1, Aq1_2, cq1_2, eq1, hxq1_0, hxq1_1, hxq1_2, hlq1_2, hiq1_2⟩ := at_T58 HR0.out x15_1 pq1 qq1;cases eq1;replace hxq1_0 := bc_ HB hxq1_0;replace hxq1_1 := bc_ HB hxq1_1;replace hxq1_2 := bc_ HB hxq1_2;have HRq1_2 := Aside0.mk hiq1_2;have HCq1_2 := Aside0.mk hlq1_2;clear hiq1_2 hlq1_2;replace pq1 := eq_true pq1;replace qq1 := eq_true qq1;go_wp2_with (first | ((with_reducible refine gate_dst (N := 5) rfl ?_); refine bx_ 5 (cs := #[.int .i64 0, .int .i64 0, .slice none 0 0]) (t := 58) ?_; intro gbq2 hg w15 hbox hb; have BKq2 := A_ hbox; have GWq2 := gz_ (w := w) hg; have GEq2 := gz_ (w := w) hg; replace HB := bA_ hb; clear hb hbox hg; obtain ⟨hcz16_0, hcz16_1, hcz16_2, hfz16_0, hfz16_1, hfz16_2⟩ := cy3_ BKq2) | ((with_reducible refine gate_callee (f := 61) rfl ?_); refine goesL_ (some 21) rfl rfl Try.func61 (by kernel_rfl) rfl #[.agg #[.int .i64 ((rd_T58 l0 x15_1).f1.f0), .slice Aq1_2 ((rd_T58 l0 x15_1).f1.f1).length cq1_2]] rfl la_ ?_; (with_reducible refine (section_Check.calls k1 ((rd_T58 l0 x15_1).f1.f0) _ _ ((rd_T58 l0 x15_1).f1.f1) tq3 _ ?side1 ?side2 A7.out).mono ?_); (case side1 => exact Kd.C_below HRq1_2.out be_); (case side2 => exact HCq1_2.out); rintro e w17 ⟨rfl, hb⟩; refine ⟨_, rfl, ?_⟩; replace BKq2 := A_ (blk_below (g := gbq2) (o := .cells #[.int .i64 ((rd_T58 l0 x15_1).f0), .int .i64 ((rd_T58 l0 x15_1).f1.f0), .slice Aq1_2 ((rd_T58 l0 x15_1).f1.f1).length cq1_2] 58 (0, 0)) (ch_ BKq2) hb); replace HB := bA_ hb; (try clear hb); obtain ⟨hcz18_0, hcz18_1, hcz18_2, hfz18_0, hfz18_1, hfz18_2⟩ := cy3_ BKq2));go_ret;exact ⟨er_, be_⟩
          ·rw [if_neg c14] at H;have c14b0 : decide (((rd_T58 l0 x15_1).f0) < 1) = false := decide_eq_false c14;clear c14
           by_cases c19 : ((rd_T58 l0 x15_1).f0) > x3_1
           ·rw [if_pos c19] at H;have c19b0 : decide (x3_1 < ((rd_T58 l0 x15_1).f0)) = true := decide_eq_true c19;clear c19;obtain rfl := Option.some.inj H;have pq1 : 0 ≤ (x15_1 : Int) := as_;have qq1 : x15_1 < (l0.length : Int) := as_;obtain ⟨adq1, Aq1_2, cq1_2, eq1, hxq1_0, hxq1_1, hxq1_2, hlq1_2, hiq1_2⟩ := at_T58 HR0.out x15_1 pq1 qq1;cases eq1;replace hxq1_0 := bc_ HB hxq1_0;replace hxq1_1 := bc_ HB hxq1_1;replace hxq1_2 := bc_ HB hxq1_2;have HRq1_2 := Aside0.mk hiq1_2;have HCq1_2 := Aside0.mk hlq1_2;clear hiq1_2 hlq1_2;replace pq1 := eq_true pq1;replace qq1 := eq_true qq1;go_wp2_with (first | ((with_reducible refine gate_dst (N := 5) rfl ?_); refine bx_ 5 (cs := #[.int .i64 0, .int .i64 0, .slice none 0 0]) (t := 58) ?_; intro gbq2 hg w20 hbox hb; have BKq2 := A_ hbox; have GWq2 := gz_ (w := w) hg; have GEq2 := gz_ (w := w) hg; replace HB := bA_ hb; clear hb hbox hg; obtain ⟨hcz21_0, hcz21_1, hcz21_2, hfz21_0, hfz21_1, hfz21_2⟩ := cy3_ BKq2) | ((with_reducible refine gate_callee (f := 61) rfl ?_); refine goesL_ (some 21) rfl rfl Try.func61 (by kernel_rfl) rfl #[.agg #[.int .i64 ((rd_T58 l0 x15_1).f1.f0), .slice Aq1_2 ((rd_T58 l0 x15_1).f1.f1).length cq1_2]] rfl la_ ?_; (with_reducible refine (section_Check.calls k1 ((rd_T58 l0 x15_1).f1.f0) _ _ ((rd_T58 l0 x15_1).f1.f1) tq3 _ ?side1 ?side2 A7.out).mono ?_); (case side1 => exact Kd.C_below HRq1_2.out be_); (case side2 => exact HCq1_2.out); rintro e w22 ⟨rfl, hb⟩; refine ⟨_, rfl, ?_⟩; replace BKq2 := A_ (blk_below (g := gbq2) (o := .cells #[.int .i64 ((rd_T58 l0 x15_1).f0), .int .i64 ((rd_T58 l0 x15_1).f1.f0), .slice Aq1_2 ((rd_T58 l0 x15_1).f1.f1).length cq1_2] 58 (0, 0)) (ch_ BKq2) hb); replace HB := bA_ hb; (try clear hb); obtain ⟨hcz23_0, hcz23_1, hcz23_2, hfz23_0, hfz23_1, hfz23_2⟩ := cy3_ BKq2));go_ret;exact ⟨er_, be_⟩
           ·rw [if_neg c19] at H;have c19b0 : decide (x3_1 < ((rd_T58 l0 x15_1).f0)) = false := decide_eq_false c19;clear c19;have H' := Aside0.mk H;clear H;have pq1 : 0 ≤ (x15_1 : Int) := as_;have qq1 : x15_1 < (l0.length : Int) := as_;obtain ⟨adq1, Aq1_2, cq1_2, eq1, hxq1_0, hxq1_1, hxq1_2, hlq1_2, hiq1_2⟩ := at_T58 HR0.out x15_1 pq1 qq1;cases eq1;replace hxq1_0 := bc_ HB hxq1_0;replace hxq1_1 := bc_ HB hxq1_1;replace hxq1_2 := bc_ HB hxq1_2;have HRq1_2 := Aside0.mk hiq1_2;have HCq1_2 := Aside0.mk hlq1_2;clear hiq1_2 hlq1_2;replace pq1 := eq_true pq1;replace qq1 := eq_true qq1;go_wp2_with (first | ((with_reducible refine gate_dst (N := 5) rfl ?_); refine bx_ 5 (cs := #[.int .i64 0, .int .i64 0, .slice none 0 0]) (t := 58) ?_; intro gbq2 hg w24 hbox hb; have BKq2 := A_ hbox; have GWq2 := gz_ (w := w) hg; have GEq2 := gz_ (w := w) hg; replace HB := bA_ hb; clear hb hbox hg; obtain ⟨hcz25_0, hcz25_1, hcz25_2, hfz25_0, hfz25_1, hfz25_2⟩ := cy3_ BKq2) | ((with_reducible refine gate_callee (f := 61) rfl ?_); refine goesL_ (some 21) rfl rfl Try.func61 (by kernel_rfl) rfl #[.agg #[.int .i64 ((rd_T58 l0 x15_1).f1.f0), .slice Aq1_2 ((rd_T58 l0 x15_1).f1.f1).length cq1_2]] rfl la_ ?_; (with_reducible refine (section_Check.calls k1 ((rd_T58 l0 x15_1).f1.f0) _ _ ((rd_T58 l0 x15_1).f1.f1) tq3 _ ?side1 ?side2 A7.out).mono ?_); (case side1 => exact Kd.C_below HRq1_2.out be_); (case side2 => exact HCq1_2.out); rintro e w26 ⟨rfl, hb⟩; refine ⟨_, rfl, ?_⟩; replace BKq2 := A_ (blk_below (g := gbq2) (o := .cells #[.int .i64 ((rd_T58 l0 x15_1).f0), .int .i64 ((rd_T58 l0 x15_1).f1.f0), .slice Aq1_2 ((rd_T58 l0 x15_1).f1.f1).length cq1_2] 58 (0, 0)) (ch_ BKq2) hb); replace HB := bA_ hb; (try clear hb); obtain ⟨hcz27_0, hcz27_1, hcz27_2, hfz27_0, hfz27_1, hfz27_2⟩ := cy3_ BKq2))
            go_roundg k1
            case measure => have := HK1.out; omega
            case rel => exact ⟨(wrap64 (x3_1 - ((rd_T58 l0 x15_1).f0))), (wrap64 (x15_1 + 1)), rs_, rs_, H', ⟨by have := HK1.out; omega⟩, ⟨be_⟩⟩
        ·rw [if_neg c8] at H;have c8b0 : (tq3 == 0) = false := beq_eq_false_iff_ne.mpr c8;have c8b1 : (tq3 != 0) = true := bne_iff_ne.mpr c8;obtain rfl := Option.some.inj H;have pq1 : 0 ≤ (x15_1 : Int) := as_;have qq1 : x15_1 < (l0.length : Int) := as_;obtain ⟨adq1, Aq1_2, cq1_2, eq1, hxq1_0, hxq1_1, hxq1_2, hlq1_2, hiq1_2⟩ := at_T58 HR0.out x15_1 pq1 qq1;cases eq1;replace hxq1_0 := bc_ HB hxq1_0;replace hxq1_1 := bc_ HB hxq1_1;replace hxq1_2 := bc_ HB hxq1_2;have HRq1_2 := Aside0.mk hiq1_2;have HCq1_2 := Aside0.mk hlq1_2;clear hiq1_2 hlq1_2;replace pq1 := eq_true pq1;replace qq1 := eq_true qq1;go_wp2_with (first | ((with_reducible refine gate_dst (N := 5) rfl ?_); refine bx_ 5 (cs := #[.int .i64 0, .int .i64 0, .slice none 0 0]) (t := 58) ?_; intro gbq2 hg w28 hbox hb; have BKq2 := A_ hbox; have GWq2 := gz_ (w := w) hg; have GEq2 := gz_ (w := w) hg; replace HB := bA_ hb; clear hb hbox hg; obtain ⟨hcz29_0, hcz29_1, hcz29_2, hfz29_0, hfz29_1, hfz29_2⟩ := cy3_ BKq2) | ((with_reducible refine gate_callee (f := 61) rfl ?_); refine goesL_ (some 21) rfl rfl Try.func61 (by kernel_rfl) rfl #[.agg #[.int .i64 ((rd_T58 l0 x15_1).f1.f0), .slice Aq1_2 ((rd_T58 l0 x15_1).f1.f1).length cq1_2]] rfl la_ ?_; (with_reducible refine (section_Check.calls k1 ((rd_T58 l0 x15_1).f1.f0) _ _ ((rd_T58 l0 x15_1).f1.f1) tq3 _ ?side1 ?side2 A7.out).mono ?_); (case side1 => exact Kd.C_below HRq1_2.out be_); (case side2 => exact HCq1_2.out); rintro e w30 ⟨rfl, hb⟩; refine ⟨_, rfl, ?_⟩; replace BKq2 := A_ (blk_below (g := gbq2) (o := .cells #[.int .i64 ((rd_T58 l0 x15_1).f0), .int .i64 ((rd_T58 l0 x15_1).f1.f0), .slice Aq1_2 ((rd_T58 l0 x15_1).f1.f1).length cq1_2] 58 (0, 0)) (ch_ BKq2) hb); replace HB := bA_ hb; (try clear hb)));go_ret;exact ⟨er_, be_⟩
       ·rw [if_neg c6] at H;exact absurd H (by simp)
      ·rw [if_neg c5] at H;exact absurd H (by simp)
     ·rw [if_neg c4] at H;have c4b0 : decide (x15_1 < (l0.length : Int)) = false := decide_eq_false c4;clear c4;obtain rfl := Option.some.inj H;go_wp2;go_ret;exact ⟨er_, be_⟩


def defect_within.f (a0_0 : Int) (a0_1 : Int) (a1 : Int) (a2 : Int) : Option (Bool) := if (mn a0_0 a0_1) ≥ a1 then (some (decide ((mx a0_0 a0_1) ≤ a2))) else (some false)
set_option maxHeartbeats 8000000 in
set_option maxRecDepth 100000 in
theorem defect_within.calls (a0_0 : Int) (a0_1 : Int) (a1 : Int) (a2 : Int) (r : Bool) (w : World) (h : defect_within.f a0_0 a0_1 a1 a2 = some r) :
  Calls Try.prog 77 #[.agg #[.int .i64 a0_0, .int .i64 a0_1], .int .i64 a1, .int .i64 a2] w fun e w' => e = .returned (.bool r) ∧ Below w.heap.size w w' := by
 have hu44 := Try.underlying44;have HB := A_ (Below.refl w.heap.size w);have H : (if (mn a0_0 a0_1) ≥ a1 then (some (decide ((mx a0_0 a0_1) ≤ a2))) else (some false)) = some r := h;clear h;obtain ⟨ji4, hji4⟩ : ∃ j_ : Int, (mn a0_0 a0_1) = j_ := ⟨_, rfl⟩;(replace H : (if (ji4) ≥ a1 then (some (decide ((mx a0_0 a0_1) ≤ a2))) else (some false)) = some r := by first | (rw [hji4] at H; exact H) | (simp only [hji4] at H ⊢; exact H));have hji4_ : (if a0_1 < a0_0 then a0_1 else a0_0) = ji4 := hji4
 by_cases c5 : (ji4) ≥ a1
 ·rw [if_pos c5] at H;have c5b0 : decide (a1 ≤ (ji4)) = true := decide_eq_true c5;clear c5;obtain ⟨ji6, hji6⟩ : ∃ j_ : Int, (mx a0_0 a0_1) = j_ := ⟨_, rfl⟩;(replace H : (some (decide ((ji6) ≤ a2))) = some r := by first | (rw [hji6] at H; exact H) | (simp only [hji6] at H ⊢; exact H));have hji6_ : (if a0_0 < a0_1 then a0_1 else a0_0) = ji6 := hji6;obtain rfl := Option.some.inj H;go_enter Try.func77, Try.ntmps77;go_wp2_with (first | ((with_reducible refine gate_dst (N := 3) rfl ?_); (try (refine gate_guard (by rfl) ?_; dsimp only)); refine bx_ 3 (cs := #[.int .i64 a0_0, .int .i64 a0_1]) (t := 44) ?_; intro gbq1 hg w7 hbox hb; have BKq1 := A_ hbox; have GWq1 := gz_ (w := w) hg; have GEq1 := gz_ (w := w) hg; replace HB := bA_ hb; clear hb hbox hg; obtain ⟨hcz8_0, hcz8_1, hfz8_0, hfz8_1⟩ := cy2_ BKq1));go_ret;exact ⟨by first | rfl | (simp [errW_none, errW_some] <;> rfl) | (simp only [← hji4, ← hji6]; first | rfl | (simp [errW_none, errW_some] <;> rfl)) | (simp [*, errW_none, errW_some] <;> rfl), be_⟩
 ·rw [if_neg c5] at H;have c5b0 : decide (a1 ≤ (ji4)) = false := decide_eq_false c5;clear c5;obtain rfl := Option.some.inj H;go_enter Try.func77, Try.ntmps77;go_wp2_with (first | ((with_reducible refine gate_dst (N := 3) rfl ?_); (try (refine gate_guard (by rfl) ?_; dsimp only)); refine bx_ 3 (cs := #[.int .i64 a0_0, .int .i64 a0_1]) (t := 44) ?_; intro gbq1 hg w9 hbox hb; have BKq1 := A_ hbox; have GWq1 := gz_ (w := w) hg; have GEq1 := gz_ (w := w) hg; replace HB := bA_ hb; clear hb hbox hg; obtain ⟨hcz10_0, hcz10_1, hfz10_0, hfz10_1⟩ := cy2_ BKq1));go_ret;exact ⟨by first | rfl | (simp [errW_none, errW_some] <;> rfl) | (simp only [← hji4]; first | rfl | (simp [errW_none, errW_some] <;> rfl)) | (simp [*, errW_none, errW_some] <;> rfl), be_⟩


-- by hand
theorem idxax_0 (x0 x1 x2 x3 x4 x5 : Value) (W : World) : (Instr.index 92 (.agg #[x0, x1, x2, x3, x4, x5]) (.int .i64 0)).run Try.prog W = .ok (.agg #[x0, x1]) W := by kernel_rfl
attribute [local go_sem] idxax_0
theorem idxax_1 (x0 x1 x2 x3 x4 x5 : Value) (W : World) : (Instr.index 92 (.agg #[x0, x1, x2, x3, x4, x5]) (.int .i64 1)).run Try.prog W = .ok (.agg #[x2, x3]) W := by kernel_rfl
attribute [local go_sem] idxax_1
theorem idxax_2 (x0 x1 x2 x3 x4 x5 : Value) (W : World) : (Instr.index 92 (.agg #[x0, x1, x2, x3, x4, x5]) (.int .i64 2)).run Try.prog W = .ok (.agg #[x4, x5]) W := by kernel_rfl
attribute [local go_sem] idxax_2
set_option maxHeartbeats 4000000 in
set_option maxRecDepth 100000 in
theorem axes_calls (x0 x1 y0 y1 z0 z1 : Int) (w : World) : Calls Try.prog 76 #[.agg #[.int .i64 x0, .int .i64 x1, .int .i64 y0, .int .i64 y1, .int .i64 z0, .int .i64 z1]] w fun e w' => e = .returned (.agg #[.int .i64 x0, .int .i64 x1, .int .i64 y0, .int .i64 y1, .int .i64 z0, .int .i64 z1]) ∧ Below w.heap.size w w' := by
 go_enter Try.func76, Try.ntmps76;go_wp2;refine bodyPost_ret (results_cell_row rfl _ _ (w.heap.size + 1) 92 #[.int .i64 x0, .int .i64 x1, .int .i64 y0, .int .i64 y1, .int .i64 z0, .int .i64 z1] (0, 0) _ rfl (by rw [show w.heap.size + 1 = (w.alloc (Obj.cells #[.int .i64 x0, .int .i64 x1, .int .i64 y0, .int .i64 y1, .int .i64 z0, .int .i64 z1] 46)).heap.size by simp]; exact blk_new _ _) Try.underlying92 rfl (by kernel_rfl)) rfl ?_;exact ⟨rfl, by repeat (first | exact Below.refl _ _ | apply below_alloc)⟩
def flatB (x0 x1 y0 y1 z0 z1 : Int) : Bool := decide (x0 ≥ x1) || decide (y0 ≥ y1) || decide (z0 ≥ z1)
def defect_flawed.f (a0 x0 x1 y0 y1 z0 z1 : Int) : Option Int := if a0 < 1 then some 10 else if a0 > 6 then some 10 else if x0 ≥ x1 then some 19 else if y0 ≥ y1 then some 19 else if z0 ≥ z1 then some 19 else
 (defect_within.f x0 x1 (-600) 600).bind fun b1 => if b1 = true then (defect_within.f y0 y1 (-600) 600).bind fun b2 => if b2 = true then (defect_within.f z0 z1 0 20000).bind fun b3 => if b3 = true then some 0 else some 9 else some 9 else some 9
set_option maxHeartbeats 4000000 in
set_option maxRecDepth 100000 in
theorem defect_flawed.calls (a0 x0 x1 y0 y1 z0 z1 : Int) (r : Int) (w : World) (h : defect_flawed.f a0 x0 x1 y0 y1 z0 z1 = some r) : Calls Try.prog 62 #[.agg #[.int .i64 a0, .int .i64 x0, .int .i64 x1, .int .i64 y0, .int .i64 y1, .int .i64 z0, .int .i64 z1]] w fun e w' => e = .returned (.int .i64 r) ∧ Below w.heap.size w w' := by
 unfold defect_flawed.f at h
 by_cases c1 : a0 < 1
 ·rw [if_pos c1] at h;have b1 : decide (a0 < 1) = true := decide_eq_true c1;obtain rfl := Option.some.inj h;clear c1 h;go_enter Try.func62, Try.ntmps62;go_wp2;go_ret;exact ⟨rfl, by repeat (first | exact Below.refl _ _ | apply below_alloc)⟩
 ·rw [if_neg c1] at h;have b1 : decide (a0 < 1) = false := decide_eq_false c1;clear c1
  by_cases c2 : a0 > 6
  ·rw [if_pos c2] at h;have b2 : decide (6 < a0) = true := decide_eq_true c2;obtain rfl := Option.some.inj h;clear c2 h;go_enter Try.func62, Try.ntmps62;go_wp2;go_ret;exact ⟨rfl, by repeat (first | exact Below.refl _ _ | apply below_alloc)⟩
  ·rw [if_neg c2] at h;have b2 : decide (6 < a0) = false := decide_eq_false c2;clear c2;have H := Aside0.mk h;clear h;go_enter Try.func62, Try.ntmps62;go_wp2_with (first | ((with_reducible refine gate_callee (f := 76) rfl ?_); refine goesL_ (some 15) rfl rfl Try.func76 (by kernel_rfl) rfl #[.agg #[.int .i64 x0, .int .i64 x1, .int .i64 y0, .int .i64 y1, .int .i64 z0, .int .i64 z1]] rfl la_ ?_; (with_reducible refine (axes_calls x0 x1 y0 y1 z0 z1 _).mono ?_); rintro e w4 ⟨rfl, hb⟩; refine ⟨_, rfl, ?_⟩));have hB : Below w.heap.size w w4 := (below_alloc (Below.refl _ _) _).trans (hb.mono (by simp));have d0 : w4.cell? ⟨w.heap.size, 0, none⟩ = some (.int .i64 a0) := (hb.cell (p := ⟨w.heap.size, 0, none⟩) (by simp)).trans (by simp);have d1 : w4.cell? ⟨w.heap.size, 1, none⟩ = some (.int .i64 x0) := (hb.cell (p := ⟨w.heap.size, 1, none⟩) (by simp)).trans (by simp);have d2 : w4.cell? ⟨w.heap.size, 2, none⟩ = some (.int .i64 x1) := (hb.cell (p := ⟨w.heap.size, 2, none⟩) (by simp)).trans (by simp);have d3 : w4.cell? ⟨w.heap.size, 3, none⟩ = some (.int .i64 y0) := (hb.cell (p := ⟨w.heap.size, 3, none⟩) (by simp)).trans (by simp);have d4 : w4.cell? ⟨w.heap.size, 4, none⟩ = some (.int .i64 y1) := (hb.cell (p := ⟨w.heap.size, 4, none⟩) (by simp)).trans (by simp);have d5 : w4.cell? ⟨w.heap.size, 5, none⟩ = some (.int .i64 z0) := (hb.cell (p := ⟨w.heap.size, 5, none⟩) (by simp)).trans (by simp);have d6 : w4.cell? ⟨w.heap.size, 6, none⟩ = some (.int .i64 z1) := (hb.cell (p := ⟨w.heap.size, 6, none⟩) (by simp)).trans (by simp);(have hlt : w.heap.size < w4.heap.size := by have := hb.size; simp at this; omega);clear hb
   go_loopg [16] 3 (fun kq v16 w' => ∃ i : Nat, v16 = .int .i64 i ∧ i + kq = 3 ∧ (1 ≤ i → x0 < x1) ∧ (2 ≤ i → y0 < y1) ∧ (3 ≤ i → z0 < z1) ∧ Below w.heap.size w w' ∧ w.heap.size < w'.heap.size ∧ w'.cell? ⟨w.heap.size, 1, none⟩ = some (.int .i64 x0) ∧ w'.cell? ⟨w.heap.size, 2, none⟩ = some (.int .i64 x1) ∧ w'.cell? ⟨w.heap.size, 3, none⟩ = some (.int .i64 y0) ∧ w'.cell? ⟨w.heap.size, 4, none⟩ = some (.int .i64 y1) ∧ w'.cell? ⟨w.heap.size, 5, none⟩ = some (.int .i64 z0) ∧ w'.cell? ⟨w.heap.size, 6, none⟩ = some (.int .i64 z1))
   case atStart => exact ⟨0, rfl, rfl, fun h => by omega, fun h => by omega, fun h => by omega, hB, hlt, d1, d2, d3, d4, d5, d6⟩
   case round =>
    obtain ⟨i, rfl, hik, e1, e2, e3, hB', hlt', f1, f2, f3, f4, f5, f6⟩ := hrel;clear d0 d1 d2 d3 d4 d5 d6 hB hlt;have hi : i = 0 ∨ i = 1 ∨ i = 2 ∨ i = 3 := by omega
    rcases hi with rfl | rfl | rfl | rfl
    ·by_cases c : x0 ≥ x1
     ·have bc : decide (x1 ≤ x0) = true := decide_eq_true c;have H' := H.out;rw [if_pos c] at H';obtain rfl := Option.some.inj H';clear c H H' e1 e2 e3;go_wp2;go_ret;exact ⟨rfl, by repeat (first | exact hB' | apply below_alloc)⟩
     ·have bc : decide (x1 ≤ x0) = false := decide_eq_false c;go_wp2
      go_roundg 2
      case measure => omega
      case rel => exact ⟨1, rfl, rfl, fun h => by omega, fun h => by omega, fun h => by omega, by repeat (first | exact hB' | apply below_alloc), by simp; omega, (by first | exact f1 | exact Lib.cell?_alloc_some _ f1 | simp [f1]), (by first | exact f2 | exact Lib.cell?_alloc_some _ f2 | simp [f2]), (by first | exact f3 | exact Lib.cell?_alloc_some _ f3 | simp [f3]), (by first | exact f4 | exact Lib.cell?_alloc_some _ f4 | simp [f4]), (by first | exact f5 | exact Lib.cell?_alloc_some _ f5 | simp [f5]), (by first | exact f6 | exact Lib.cell?_alloc_some _ f6 | simp [f6])⟩
    ·by_cases c : y0 ≥ y1
     ·have bc : decide (y1 ≤ y0) = true := decide_eq_true c;have H' := H.out;rw [if_neg (by omega)] at H';rw [if_pos c] at H';obtain rfl := Option.some.inj H';clear c H H' e1 e2 e3;go_wp2;go_ret;exact ⟨rfl, by repeat (first | exact hB' | apply below_alloc)⟩
     ·have bc : decide (y1 ≤ y0) = false := decide_eq_false c;go_wp2
      go_roundg 1
      case measure => omega
      case rel => exact ⟨2, rfl, rfl, fun h => by omega, fun h => by omega, fun h => by omega, by repeat (first | exact hB' | apply below_alloc), by simp; omega, (by first | exact f1 | exact Lib.cell?_alloc_some _ f1 | simp [f1]), (by first | exact f2 | exact Lib.cell?_alloc_some _ f2 | simp [f2]), (by first | exact f3 | exact Lib.cell?_alloc_some _ f3 | simp [f3]), (by first | exact f4 | exact Lib.cell?_alloc_some _ f4 | simp [f4]), (by first | exact f5 | exact Lib.cell?_alloc_some _ f5 | simp [f5]), (by first | exact f6 | exact Lib.cell?_alloc_some _ f6 | simp [f6])⟩
    ·by_cases c : z0 ≥ z1
     ·have bc : decide (z1 ≤ z0) = true := decide_eq_true c;have H' := H.out;rw [if_neg (by omega)] at H';rw [if_neg (by omega)] at H';rw [if_pos c] at H';obtain rfl := Option.some.inj H';clear c H H' e1 e2 e3;go_wp2;go_ret;exact ⟨rfl, by repeat (first | exact hB' | apply below_alloc)⟩
     ·have bc : decide (z1 ≤ z0) = false := decide_eq_false c;go_wp2
      go_roundg 0
      case measure => omega
      case rel => exact ⟨3, rfl, rfl, fun h => by omega, fun h => by omega, fun h => by omega, by repeat (first | exact hB' | apply below_alloc), by simp; omega, (by first | exact f1 | exact Lib.cell?_alloc_some _ f1 | simp [f1]), (by first | exact f2 | exact Lib.cell?_alloc_some _ f2 | simp [f2]), (by first | exact f3 | exact Lib.cell?_alloc_some _ f3 | simp [f3]), (by first | exact f4 | exact Lib.cell?_alloc_some _ f4 | simp [f4]), (by first | exact f5 | exact Lib.cell?_alloc_some _ f5 | simp [f5]), (by first | exact f6 | exact Lib.cell?_alloc_some _ f6 | simp [f6])⟩
    ·have H' := H.out;rw [if_neg (by omega), if_neg (by omega), if_neg (by omega)] at H';clear H;obtain ⟨q1, A1, H'⟩ := Option.bind_eq_some_iff.mp H';cases q1
     ·have H' : some (9 : Int) = some r := H';obtain rfl := Option.some.inj H';clear H';go_wp2_with fail;refine (defect_within.calls x0 x1 (-600) 600 false wr A1).mono ?_;rintro e w5 ⟨rfl, hb⟩;replace f1 := (hb.cell (p := ⟨w.heap.size, 1, none⟩) hlt').trans f1;replace f2 := (hb.cell (p := ⟨w.heap.size, 2, none⟩) hlt').trans f2;replace f3 := (hb.cell (p := ⟨w.heap.size, 3, none⟩) hlt').trans f3;replace f4 := (hb.cell (p := ⟨w.heap.size, 4, none⟩) hlt').trans f4;replace f5 := (hb.cell (p := ⟨w.heap.size, 5, none⟩) hlt').trans f5;replace f6 := (hb.cell (p := ⟨w.heap.size, 6, none⟩) hlt').trans f6;replace hB' := hB'.trans (hb.mono (Nat.le_of_lt hlt'));replace hlt' := Nat.lt_of_lt_of_le hlt' hb.size;clear hb;go_wp2;go_ret;exact ⟨rfl, by repeat (first | exact hB' | apply below_alloc)⟩
     ·rw [if_pos rfl] at H';obtain ⟨q2, A2, H'⟩ := Option.bind_eq_some_iff.mp H';cases q2
      ·have H' : some (9 : Int) = some r := H';obtain rfl := Option.some.inj H';clear H';go_wp2_with fail;refine (defect_within.calls x0 x1 (-600) 600 true wr A1).mono ?_;rintro e w5 ⟨rfl, hb⟩;replace f1 := (hb.cell (p := ⟨w.heap.size, 1, none⟩) hlt').trans f1;replace f2 := (hb.cell (p := ⟨w.heap.size, 2, none⟩) hlt').trans f2;replace f3 := (hb.cell (p := ⟨w.heap.size, 3, none⟩) hlt').trans f3;replace f4 := (hb.cell (p := ⟨w.heap.size, 4, none⟩) hlt').trans f4;replace f5 := (hb.cell (p := ⟨w.heap.size, 5, none⟩) hlt').trans f5;replace f6 := (hb.cell (p := ⟨w.heap.size, 6, none⟩) hlt').trans f6;replace hB' := hB'.trans (hb.mono (Nat.le_of_lt hlt'));replace hlt' := Nat.lt_of_lt_of_le hlt' hb.size;clear hb;go_wp2_with fail;refine (defect_within.calls y0 y1 (-600) 600 false w5 A2).mono ?_;rintro e w6 ⟨rfl, hb⟩;replace f1 := (hb.cell (p := ⟨w.heap.size, 1, none⟩) hlt').trans f1;replace f2 := (hb.cell (p := ⟨w.heap.size, 2, none⟩) hlt').trans f2;replace f3 := (hb.cell (p := ⟨w.heap.size, 3, none⟩) hlt').trans f3;replace f4 := (hb.cell (p := ⟨w.heap.size, 4, none⟩) hlt').trans f4;replace f5 := (hb.cell (p := ⟨w.heap.size, 5, none⟩) hlt').trans f5;replace f6 := (hb.cell (p := ⟨w.heap.size, 6, none⟩) hlt').trans f6;replace hB' := hB'.trans (hb.mono (Nat.le_of_lt hlt'));replace hlt' := Nat.lt_of_lt_of_le hlt' hb.size;clear hb;go_wp2;go_ret;exact ⟨rfl, by repeat (first | exact hB' | apply below_alloc)⟩
      ·rw [if_pos rfl] at H';obtain ⟨q3, A3, H'⟩ := Option.bind_eq_some_iff.mp H';cases q3
       ·have H' : some (9 : Int) = some r := H';obtain rfl := Option.some.inj H';clear H';go_wp2_with fail;refine (defect_within.calls x0 x1 (-600) 600 true wr A1).mono ?_;rintro e w5 ⟨rfl, hb⟩;replace f1 := (hb.cell (p := ⟨w.heap.size, 1, none⟩) hlt').trans f1;replace f2 := (hb.cell (p := ⟨w.heap.size, 2, none⟩) hlt').trans f2;replace f3 := (hb.cell (p := ⟨w.heap.size, 3, none⟩) hlt').trans f3;replace f4 := (hb.cell (p := ⟨w.heap.size, 4, none⟩) hlt').trans f4;replace f5 := (hb.cell (p := ⟨w.heap.size, 5, none⟩) hlt').trans f5;replace f6 := (hb.cell (p := ⟨w.heap.size, 6, none⟩) hlt').trans f6;replace hB' := hB'.trans (hb.mono (Nat.le_of_lt hlt'));replace hlt' := Nat.lt_of_lt_of_le hlt' hb.size;clear hb;go_wp2_with fail;refine (defect_within.calls y0 y1 (-600) 600 true w5 A2).mono ?_;rintro e w6 ⟨rfl, hb⟩;replace f1 := (hb.cell (p := ⟨w.heap.size, 1, none⟩) hlt').trans f1;replace f2 := (hb.cell (p := ⟨w.heap.size, 2, none⟩) hlt').trans f2;replace f3 := (hb.cell (p := ⟨w.heap.size, 3, none⟩) hlt').trans f3;replace f4 := (hb.cell (p := ⟨w.heap.size, 4, none⟩) hlt').trans f4;replace f5 := (hb.cell (p := ⟨w.heap.size, 5, none⟩) hlt').trans f5;replace f6 := (hb.cell (p := ⟨w.heap.size, 6, none⟩) hlt').trans f6;replace hB' := hB'.trans (hb.mono (Nat.le_of_lt hlt'));replace hlt' := Nat.lt_of_lt_of_le hlt' hb.size;clear hb;go_wp2_with fail;refine (defect_within.calls z0 z1 0 20000 false w6 A3).mono ?_;rintro e w7 ⟨rfl, hb⟩;replace f1 := (hb.cell (p := ⟨w.heap.size, 1, none⟩) hlt').trans f1;replace f2 := (hb.cell (p := ⟨w.heap.size, 2, none⟩) hlt').trans f2;replace f3 := (hb.cell (p := ⟨w.heap.size, 3, none⟩) hlt').trans f3;replace f4 := (hb.cell (p := ⟨w.heap.size, 4, none⟩) hlt').trans f4;replace f5 := (hb.cell (p := ⟨w.heap.size, 5, none⟩) hlt').trans f5;replace f6 := (hb.cell (p := ⟨w.heap.size, 6, none⟩) hlt').trans f6;replace hB' := hB'.trans (hb.mono (Nat.le_of_lt hlt'));replace hlt' := Nat.lt_of_lt_of_le hlt' hb.size;clear hb;go_wp2;go_ret;exact ⟨rfl, by repeat (first | exact hB' | apply below_alloc)⟩
       ·have H' : some (0 : Int) = some r := H';obtain rfl := Option.some.inj H';clear H';go_wp2_with fail;refine (defect_within.calls x0 x1 (-600) 600 true wr A1).mono ?_;rintro e w5 ⟨rfl, hb⟩;replace f1 := (hb.cell (p := ⟨w.heap.size, 1, none⟩) hlt').trans f1;replace f2 := (hb.cell (p := ⟨w.heap.size, 2, none⟩) hlt').trans f2;replace f3 := (hb.cell (p := ⟨w.heap.size, 3, none⟩) hlt').trans f3;replace f4 := (hb.cell (p := ⟨w.heap.size, 4, none⟩) hlt').trans f4;replace f5 := (hb.cell (p := ⟨w.heap.size, 5, none⟩) hlt').trans f5;replace f6 := (hb.cell (p := ⟨w.heap.size, 6, none⟩) hlt').trans f6;replace hB' := hB'.trans (hb.mono (Nat.le_of_lt hlt'));replace hlt' := Nat.lt_of_lt_of_le hlt' hb.size;clear hb;go_wp2_with fail;refine (defect_within.calls y0 y1 (-600) 600 true w5 A2).mono ?_;rintro e w6 ⟨rfl, hb⟩;replace f1 := (hb.cell (p := ⟨w.heap.size, 1, none⟩) hlt').trans f1;replace f2 := (hb.cell (p := ⟨w.heap.size, 2, none⟩) hlt').trans f2;replace f3 := (hb.cell (p := ⟨w.heap.size, 3, none⟩) hlt').trans f3;replace f4 := (hb.cell (p := ⟨w.heap.size, 4, none⟩) hlt').trans f4;replace f5 := (hb.cell (p := ⟨w.heap.size, 5, none⟩) hlt').trans f5;replace f6 := (hb.cell (p := ⟨w.heap.size, 6, none⟩) hlt').trans f6;replace hB' := hB'.trans (hb.mono (Nat.le_of_lt hlt'));replace hlt' := Nat.lt_of_lt_of_le hlt' hb.size;clear hb;go_wp2_with fail;refine (defect_within.calls z0 z1 0 20000 true w6 A3).mono ?_;rintro e w7 ⟨rfl, hb⟩;replace f1 := (hb.cell (p := ⟨w.heap.size, 1, none⟩) hlt').trans f1;replace f2 := (hb.cell (p := ⟨w.heap.size, 2, none⟩) hlt').trans f2;replace f3 := (hb.cell (p := ⟨w.heap.size, 3, none⟩) hlt').trans f3;replace f4 := (hb.cell (p := ⟨w.heap.size, 4, none⟩) hlt').trans f4;replace f5 := (hb.cell (p := ⟨w.heap.size, 5, none⟩) hlt').trans f5;replace f6 := (hb.cell (p := ⟨w.heap.size, 6, none⟩) hlt').trans f6;replace hB' := hB'.trans (hb.mono (Nat.le_of_lt hlt'));replace hlt' := Nat.lt_of_lt_of_le hlt' hb.size;clear hb;go_wp2;go_ret;exact ⟨rfl, by repeat (first | exact hB' | apply below_alloc)⟩


def defect_Check.l0 : Nat → List (S48) → Int → Int → Option (Int)
 | 0, _, _, _ => none
 | k + 1, x9, x10, x11 => if x11 < x10 then (if 0 ≤ x11 then (if x11 < (x9.length : Int) then ((defect_flawed.f ((rd_T48 x9 x11).f0) ((rd_T48 x9 x11).f1.f0.f0) ((rd_T48 x9 x11).f1.f0.f1) ((rd_T48 x9 x11).f1.f1.f0) ((rd_T48 x9 x11).f1.f1.f1) ((rd_T48 x9 x11).f1.f2.f0) ((rd_T48 x9 x11).f1.f2.f1)).bind fun tq3 => (if tq3 = 0 then (defect_Check.l0 k x9 x10 (wrap64 (x11 + 1))) else (some tq3))) else (none)) else (none)) else (some 0)
def defect_Check.f (k : Nat) (l0 : List (S48)) : Option (Int) := if (l0.length : Int) > 64 then (some 4) else (defect_Check.l0 k l0 (l0.length : Int) 0)
theorem defect_Check.mono_l : ∀ k, (∀ y0 y1 y2, LeO (defect_Check.l0 k y0 y1 y2) (defect_Check.l0 (k + 1) y0 y1 y2))
 | 0 => fun _ _ _ r h => by simp [defect_Check.l0] at h
 | k + 1 => by
  have ih0 := defect_Check.mono_l k
  ·intro y0 y1 y2;unfold defect_Check.l0
   repeat' first
   | (with_reducible exact ih0 _ _ _)
   | (with_reducible exact LeO.refl _)
   | (with_reducible exact LeO.none _)
   | (with_reducible refine LeO.ite ?_ ?_)
   | (with_reducible refine LeO.bind ?_ (fun _ => ?_))
   | exact ih0 _ _ _
   | exact LeO.none _
   | refine LeO.ite ?_ ?_
   | refine LeO.bind ?_ (fun _ => ?_)
theorem defect_Check.mono : ∀ a0 k, LeO (defect_Check.f k a0) (defect_Check.f (k + 1) a0) := by
 intro a0 k;have ih0 := defect_Check.mono_l k;unfold defect_Check.f
 repeat' first
   | (with_reducible exact ih0 _ _ _)
   | (with_reducible exact LeO.refl _)
   | (with_reducible exact LeO.none _)
   | (with_reducible refine LeO.ite ?_ ?_)
   | (with_reducible refine LeO.bind ?_ (fun _ => ?_))
   | exact ih0 _ _ _
   | exact LeO.none _
   | refine LeO.ite ?_ ?_
   | refine LeO.bind ?_ (fun _ => ?_)
set_option maxHeartbeats 8000000 in
set_option maxRecDepth 100000 in
theorem defect_Check.calls (k : Nat) (A0 : Option Addr) (c0 : Nat) (l0 : List (S48)) (r : Int) (w : World) (hr0 : Kd.C k48 w A0 l0.length l0) (hc0 : l0.length ≤ c0) (h : defect_Check.f k l0 = some r) :
  Calls Try.prog 42 #[.slice A0 l0.length c0] w fun e w' => e = .returned (.int .i64 r) ∧ Below w.heap.size w w' := by
 have hu48 := Try.underlying48;have HR0 := Aside0.mk hr0;have HC0 := Aside0.mk hc0;clear hr0 hc0;have HB := A_ (Below.refl w.heap.size w);have H : (if (l0.length : Int) > 64 then (some 4) else (defect_Check.l0 k l0 (l0.length : Int) 0)) = some r := h;clear h
 by_cases c2 : (l0.length : Int) > 64
 ·rw [if_pos c2] at H;have c2b0 : decide (64 < (l0.length : Int)) = true := decide_eq_true c2;have c2b1 : decide (64 < l0.length) = true := decide_eq_true (by omega);clear c2;obtain rfl := Option.some.inj H;go_enter Try.func42, Try.ntmps42;go_wp2;go_ret;exact ⟨er_, be_⟩
 ·rw [if_neg c2] at H;have c2b0 : decide (64 < (l0.length : Int)) = false := decide_eq_false c2;have c2b1 : decide (64 < l0.length) = false := decide_eq_false (by omega);clear c2;have H' := Aside0.mk H;clear H;go_enter Try.func42, Try.ntmps42;go_wp2
  go_loopg [11] k (fun kq v11 w' => ∃ (x11_1 : Int), v11 = .int .i64 x11_1 ∧ Aside0 (defect_Check.l0 kq l0 (l0.length : Int) x11_1 = some r) ∧ Aside0 (kq ≤ k) ∧ Aside0 (Below w.heap.size w w'))
  case atStart => exact ⟨(0), rs_, H', ⟨Nat.le_refl _⟩, ⟨be_⟩⟩
  case round =>
   clear H';(try clear c2);(try clear c2b0);(try clear c2b1);(try clear p2);obtain ⟨x11_1, rfl, HA, HK1, HB⟩ := hrel;cases gk with
   | zero => exact absurd HA.out (by simp [defect_Check.l0])
   | succ k1 =>
    have H := HA.out;clear HA;simp only [defect_Check.l0] at H
    by_cases c3 : x11_1 < (l0.length : Int)
    ·rw [if_pos c3] at H;have c3b0 : decide (x11_1 < (l0.length : Int)) = true := decide_eq_true c3;clear c3
     by_cases c4 : 0 ≤ x11_1
     ·rw [if_pos c4] at H;have c4b0 : decide (0 ≤ x11_1) = true := decide_eq_true c4;clear c4
      by_cases c5 : x11_1 < (l0.length : Int)
      ·rw [if_pos c5] at H;have c5b0 : decide (x11_1 < (l0.length : Int)) = true := decide_eq_true c5;clear c5;replace H := Option.bind_eq_some_iff.mp H;obtain ⟨tq3, A60, H⟩ := H;replace H : (if tq3 = 0 then (defect_Check.l0 k1 l0 (l0.length : Int) (wrap64 (x11_1 + 1))) else (some tq3)) = some r := H;have A6 := Aside0.mk A60;clear A60
       by_cases c7 : tq3 = 0
       ·rw [if_pos c7] at H;have c7b0 : (tq3 == 0) = true := beq_iff_eq.mpr c7;have c7b1 : (tq3 != 0) = false := bne_eq_false_iff_eq.mpr c7;clear c7;have H' := Aside0.mk H;clear H;have pq1 : 0 ≤ (x11_1 : Int) := as_;have qq1 : x11_1 < (l0.length : Int) := as_;obtain ⟨adq1, eq1, hxq1_0, hxq1_1, hxq1_2, hxq1_3, hxq1_4, hxq1_5, hxq1_6⟩ := at_T48 HR0.out x11_1 pq1 qq1;cases eq1;replace hxq1_0 := bc_ HB hxq1_0;replace hxq1_1 := bc_ HB hxq1_1;replace hxq1_2 := bc_ HB hxq1_2;replace hxq1_3 := bc_ HB hxq1_3;replace hxq1_4 := bc_ HB hxq1_4;replace hxq1_5 := bc_ HB hxq1_5;replace hxq1_6 := bc_ HB hxq1_6;replace pq1 := eq_true pq1;replace qq1 := eq_true qq1;go_wp2_with (first | ((with_reducible refine gate_dst (N := 4) rfl ?_); refine bx_ 4 (cs := #[.int .i64 0, .int .i64 0, .int .i64 0, .int .i64 0, .int .i64 0, .int .i64 0, .int .i64 0]) (t := 48) ?_; intro gbq2 hg w8 hbox hb; have BKq2 := A_ hbox; have GWq2 := gz_ (w := w) hg; have GEq2 := gz_ (w := w) hg; replace HB := bA_ hb; clear hb hbox hg; have hcz9_0 := cz0_ BKq2; have hcz9_1 := cz1_ BKq2; have hcz9_2 := cz2_ BKq2; have hcz9_3 := cz3_ BKq2; have hcz9_4 : w8.cell? ⟨gbq2, 4, none⟩ = some (.int .i64 0) := cl_ BKq2 4; have hcz9_5 : w8.cell? ⟨gbq2, 5, none⟩ = some (.int .i64 0) := cl_ BKq2 5; have hcz9_6 : w8.cell? ⟨gbq2, 6, none⟩ = some (.int .i64 0) := cl_ BKq2 6; have hfz9_0 := fz_ BKq2 0; have hfz9_1 := fz_ BKq2 1; have hfz9_2 := fz_ BKq2 2; have hfz9_3 := fz_ BKq2 3; have hfz9_4 := fz_ BKq2 4; have hfz9_5 := fz_ BKq2 5; have hfz9_6 := fz_ BKq2 6) | ((with_reducible refine gate_callee (f := 62) rfl ?_); refine goesL_ (some 16) rfl rfl Try.func62 (by kernel_rfl) rfl #[.agg #[.int .i64 ((rd_T48 l0 x11_1).f0), .int .i64 ((rd_T48 l0 x11_1).f1.f0.f0), .int .i64 ((rd_T48 l0 x11_1).f1.f0.f1), .int .i64 ((rd_T48 l0 x11_1).f1.f1.f0), .int .i64 ((rd_T48 l0 x11_1).f1.f1.f1), .int .i64 ((rd_T48 l0 x11_1).f1.f2.f0), .int .i64 ((rd_T48 l0 x11_1).f1.f2.f1)]] rfl la_ ?_; (with_reducible refine (defect_flawed.calls ((rd_T48 l0 x11_1).f0) ((rd_T48 l0 x11_1).f1.f0.f0) ((rd_T48 l0 x11_1).f1.f0.f1) ((rd_T48 l0 x11_1).f1.f1.f0) ((rd_T48 l0 x11_1).f1.f1.f1) ((rd_T48 l0 x11_1).f1.f2.f0) ((rd_T48 l0 x11_1).f1.f2.f1) tq3 _ A6.out).mono ?_); rintro e w10 ⟨rfl, hb⟩; refine ⟨_, rfl, ?_⟩; replace BKq2 := A_ (blk_below (g := gbq2) (o := .cells #[.int .i64 ((rd_T48 l0 x11_1).f0), .int .i64 ((rd_T48 l0 x11_1).f1.f0.f0), .int .i64 ((rd_T48 l0 x11_1).f1.f0.f1), .int .i64 ((rd_T48 l0 x11_1).f1.f1.f0), .int .i64 ((rd_T48 l0 x11_1).f1.f1.f1), .int .i64 ((rd_T48 l0 x11_1).f1.f2.f0), .int .i64 ((rd_T48 l0 x11_1).f1.f2.f1)] 48 (0, 0)) (ch_ BKq2) hb); replace HB := bA_ hb; (try clear hb)))
        go_roundg k1
        case measure => have := HK1.out; omega
        case rel => exact ⟨(wrap64 (x11_1 + 1)), rs_, H', ⟨by have := HK1.out; omega⟩, ⟨be_⟩⟩
       ·rw [if_neg c7] at H;have c7b0 : (tq3 == 0) = false := beq_eq_false_iff_ne.mpr c7;have c7b1 : (tq3 != 0) = true := bne_iff_ne.mpr c7;obtain rfl := Option.some.inj H;have pq1 : 0 ≤ (x11_1 : Int) := as_;have qq1 : x11_1 < (l0.length : Int) := as_;obtain ⟨adq1, eq1, hxq1_0, hxq1_1, hxq1_2, hxq1_3, hxq1_4, hxq1_5, hxq1_6⟩ := at_T48 HR0.out x11_1 pq1 qq1;cases eq1;replace hxq1_0 := bc_ HB hxq1_0;replace hxq1_1 := bc_ HB hxq1_1;replace hxq1_2 := bc_ HB hxq1_2;replace hxq1_3 := bc_ HB hxq1_3;replace hxq1_4 := bc_ HB hxq1_4;replace hxq1_5 := bc_ HB hxq1_5;replace hxq1_6 := bc_ HB hxq1_6;replace pq1 := eq_true pq1;replace qq1 := eq_true qq1;go_wp2_with (first | ((with_reducible refine gate_dst (N := 4) rfl ?_); refine bx_ 4 (cs := #[.int .i64 0, .int .i64 0, .int .i64 0, .int .i64 0, .int .i64 0, .int .i64 0, .int .i64 0]) (t := 48) ?_; intro gbq2 hg w11 hbox hb; have BKq2 := A_ hbox; have GWq2 := gz_ (w := w) hg; have GEq2 := gz_ (w := w) hg; replace HB := bA_ hb; clear hb hbox hg; have hcz12_0 := cz0_ BKq2; have hcz12_1 := cz1_ BKq2; have hcz12_2 := cz2_ BKq2; have hcz12_3 := cz3_ BKq2; have hcz12_4 : w11.cell? ⟨gbq2, 4, none⟩ = some (.int .i64 0) := cl_ BKq2 4; have hcz12_5 : w11.cell? ⟨gbq2, 5, none⟩ = some (.int .i64 0) := cl_ BKq2 5; have hcz12_6 : w11.cell? ⟨gbq2, 6, none⟩ = some (.int .i64 0) := cl_ BKq2 6; have hfz12_0 := fz_ BKq2 0; have hfz12_1 := fz_ BKq2 1; have hfz12_2 := fz_ BKq2 2; have hfz12_3 := fz_ BKq2 3; have hfz12_4 := fz_ BKq2 4; have hfz12_5 := fz_ BKq2 5; have hfz12_6 := fz_ BKq2 6) | ((with_reducible refine gate_callee (f := 62) rfl ?_); refine goesL_ (some 16) rfl rfl Try.func62 (by kernel_rfl) rfl #[.agg #[.int .i64 ((rd_T48 l0 x11_1).f0), .int .i64 ((rd_T48 l0 x11_1).f1.f0.f0), .int .i64 ((rd_T48 l0 x11_1).f1.f0.f1), .int .i64 ((rd_T48 l0 x11_1).f1.f1.f0), .int .i64 ((rd_T48 l0 x11_1).f1.f1.f1), .int .i64 ((rd_T48 l0 x11_1).f1.f2.f0), .int .i64 ((rd_T48 l0 x11_1).f1.f2.f1)]] rfl la_ ?_; (with_reducible refine (defect_flawed.calls ((rd_T48 l0 x11_1).f0) ((rd_T48 l0 x11_1).f1.f0.f0) ((rd_T48 l0 x11_1).f1.f0.f1) ((rd_T48 l0 x11_1).f1.f1.f0) ((rd_T48 l0 x11_1).f1.f1.f1) ((rd_T48 l0 x11_1).f1.f2.f0) ((rd_T48 l0 x11_1).f1.f2.f1) tq3 _ A6.out).mono ?_); rintro e w13 ⟨rfl, hb⟩; refine ⟨_, rfl, ?_⟩; replace BKq2 := A_ (blk_below (g := gbq2) (o := .cells #[.int .i64 ((rd_T48 l0 x11_1).f0), .int .i64 ((rd_T48 l0 x11_1).f1.f0.f0), .int .i64 ((rd_T48 l0 x11_1).f1.f0.f1), .int .i64 ((rd_T48 l0 x11_1).f1.f1.f0), .int .i64 ((rd_T48 l0 x11_1).f1.f1.f1), .int .i64 ((rd_T48 l0 x11_1).f1.f2.f0), .int .i64 ((rd_T48 l0 x11_1).f1.f2.f1)] 48 (0, 0)) (ch_ BKq2) hb); replace HB := bA_ hb; (try clear hb)));go_ret;exact ⟨er_, be_⟩
      ·rw [if_neg c5] at H;exact absurd H (by simp)
     ·rw [if_neg c4] at H;exact absurd H (by simp)
    ·rw [if_neg c3] at H;have c3b0 : decide (x11_1 < (l0.length : Int)) = false := decide_eq_false c3;clear c3;obtain rfl := Option.some.inj H;go_wp2;go_ret;exact ⟨er_, be_⟩


def section_valid.f (k : Nat) (a0_0 : Int) (l0_1 : List (S44)) : Option (Int × (List (S44))) := (section_Check.f k a0_0 l0_1).bind fun tq3 => (if tq3 = 0 then (some (a0_0, l0_1)) else (some (0, ([] : List (S44)))))
theorem section_valid.mono : ∀ a0 a1 k, LeO (section_valid.f k a0 a1) (section_valid.f (k + 1) a0 a1) := by
 intro a0 a1 k;unfold section_valid.f
 repeat' first
   | (with_reducible exact section_Check.mono _ _ _)
   | (with_reducible exact LeO.refl _)
   | (with_reducible exact LeO.none _)
   | (with_reducible refine LeO.ite ?_ ?_)
   | (with_reducible refine LeO.bind ?_ (fun _ => ?_))
   | exact section_Check.mono _ _ _
   | exact LeO.none _
   | refine LeO.ite ?_ ?_
   | refine LeO.bind ?_ (fun _ => ?_)
set_option maxHeartbeats 8000000 in
set_option maxRecDepth 100000 in
theorem section_valid.calls (k : Nat) (a0_0 : Int) (P0_1_ : Nat → Prop) (A0_1 : Option Addr) (c0_1 : Nat) (l0_1 : List (S44)) (r1 : Int) (r2 : List (S44)) (w : World) (hs0_1 : Kd.V k44 44 w w.heap.size (fun k_ => P0_1_ k_) (.slice A0_1 l0_1.length c0_1) l0_1) (h : section_valid.f k a0_0 l0_1 = some (r1, r2)) :
  Calls Try.prog 59 #[.agg #[.int .i64 a0_0, .slice A0_1 l0_1.length c0_1]] w fun e w' => ∃ v1_ : Value, e = .returned (.agg #[.int .i64 r1, v1_]) ∧ Kd.V k44 44 w' w.heap.size (fun k_ => (P0_1_ k_ ∨ w.heap.size ≤ k_)) v1_ r2 ∧ Below w.heap.size w w' := by
 have hu56 := Try.underlying56;have HO0_1 := A_ (show Kd.V k44 44 w w.heap.size (fun k_ => (P0_1_ k_ ∨ w.heap.size ≤ k_)) (.slice A0_1 l0_1.length c0_1) l0_1 from Kd.V_mono hs0_1 (fun k_ hk => .inl hk));have HB := A_ (Below.refl w.heap.size w);have H : ((section_Check.f k a0_0 l0_1).bind fun tq3 => (if tq3 = 0 then (some (a0_0, l0_1)) else (some (0, ([] : List (S44)))))) = some (r1, r2) := h;clear h;replace H := Option.bind_eq_some_iff.mp H;obtain ⟨tq3, A20, H⟩ := H;replace H : (if tq3 = 0 then (some (a0_0, l0_1)) else (some (0, ([] : List (S44))))) = some (r1, r2) := H;have A2 := Aside0.mk A20;clear A20
 by_cases c3 : tq3 = 0
 ·rw [if_pos c3] at H;have c3b0 : (tq3 == 0) = true := beq_iff_eq.mpr c3;have c3b1 : (tq3 != 0) = false := bne_eq_false_iff_eq.mpr c3;clear c3;simp only [Option.some.injEq, Prod.mk.injEq] at H;obtain ⟨rfl, rfl⟩ := H;go_enter Try.func59, Try.ntmps59;go_wp2_with (first | ((with_reducible refine gate_dst (N := 1) rfl ?_); refine bx_ 1 (cs := #[.int .i64 a0_0, .slice A0_1 l0_1.length c0_1]) (t := 56) ?_; intro gbq1 hg w4 hbox hb; replace HO0_1 := A_ (Kd.V_below (Kd.V_elderB (fV_ HO0_1.out) gbq1 (Nat.le_of_eq hg.symm)) hb); have BKq1 := A_ hbox; have GWq1 := gz_ (w := w) hg; have GEq1 := gz_ (w := w) hg; replace HB := bA_ hb; clear hb hbox hg) | ((with_reducible refine gate_dst (N := 2) rfl ?_); refine bx_ 2 (cs := #[.int .i64 0, .slice none 0 0]) (t := 56) ?_; intro gbq2 hg w5 hbox hb; replace HO0_1 := A_ (Kd.V_below (Kd.V_elderB (fV_ HO0_1.out) gbq2 (Nat.le_of_eq hg.symm)) hb); have BKq2 := A_ hbox; have GWq2 := gz_ (w := w) hg; have GEq2 := gz_ (w := w) hg; replace HB := bA_ hb; have NBq1_q2 := nlt_ BKq1 hg; have NBq2_q1 := ngt_ BKq1 hg; replace BKq1 := bb_ BKq1 hb; clear hb hbox hg; have hnb6 := NBq1_q2.out; have hnc6 := NBq2_q1.out; obtain ⟨hcz7_0, hcz7_1, hfz7_0, hfz7_1⟩ := cy2_ BKq1) | ((with_reducible refine gate_callee (f := 61) rfl ?_); refine goesL_ (some 4) rfl rfl Try.func61 (by kernel_rfl) rfl #[.agg #[.int .i64 a0_0, .slice A0_1 l0_1.length c0_1]] rfl la_ ?_; (with_reducible refine (section_Check.calls k a0_0 _ _ l0_1 tq3 _ ?side1 ?side2 A2.out).mono ?_); (case side1 => exact csC_ ((Kd.V_reads' HO0_1.out).2.2)); (case side2 => exact (Kd.V_reads' HO0_1.out).2.1); rintro e w8 ⟨rfl, hb⟩; refine ⟨_, rfl, ?_⟩; replace HO0_1 := kV_ HO0_1 hb; replace BKq1 := bb_ BKq1 hb; replace BKq2 := bb_ BKq2 hb; replace HB := bA_ hb; (try clear hb); (try clear hk); obtain ⟨hcz9_0, hcz9_1, hfz9_0, hfz9_1⟩ := cy2_ BKq1; obtain ⟨hcz10_0, hcz10_1, hfz10_0, hfz10_1⟩ := cy2_ BKq2));refine bodyPost_ret (results_cell_row rfl _ _ gbq2 56 #[.int .i64 a0_0, .slice A0_1 l0_1.length c0_1] (0, 0) _ rfl (ch_ BKq2) Try.underlying56 rfl (by kernel_rfl)) rfl ?_;exact ⟨_, er_, by (with_reducible repeat (first | apply Kd.V_alloc | apply Kd.V_drewN | apply Kd.V_drew)); exact Kd.V_mono (Vf_ (Vf_ (Kd.V_mono HO0_1.out (fun k_ hk => (⟨hk, hk.2⟩ : _ ∧ k_ ≠ gbq2))))) (fun _ hk => hk.1.1.1), be_⟩
 ·rw [if_neg c3] at H;have c3b0 : (tq3 == 0) = false := beq_eq_false_iff_ne.mpr c3;have c3b1 : (tq3 != 0) = true := bne_iff_ne.mpr c3;simp only [Option.some.injEq, Prod.mk.injEq] at H;obtain ⟨rfl, rfl⟩ := H;go_enter Try.func59, Try.ntmps59;go_wp2_with (first | ((with_reducible refine gate_dst (N := 1) rfl ?_); refine bx_ 1 (cs := #[.int .i64 a0_0, .slice A0_1 l0_1.length c0_1]) (t := 56) ?_; intro gbq1 hg w11 hbox hb; replace HO0_1 := A_ (Kd.V_below (Kd.V_elderB (fV_ HO0_1.out) gbq1 (Nat.le_of_eq hg.symm)) hb); have BKq1 := A_ hbox; have GWq1 := gz_ (w := w) hg; have GEq1 := gz_ (w := w) hg; replace HB := bA_ hb; clear hb hbox hg) | ((with_reducible refine gate_dst (N := 2) rfl ?_); refine bx_ 2 (cs := #[.int .i64 0, .slice none 0 0]) (t := 56) ?_; intro gbq2 hg w12 hbox hb; replace HO0_1 := A_ (Kd.V_below (Kd.V_elderB (fV_ HO0_1.out) gbq2 (Nat.le_of_eq hg.symm)) hb); have BKq2 := A_ hbox; have GWq2 := gz_ (w := w) hg; have GEq2 := gz_ (w := w) hg; replace HB := bA_ hb; have NBq1_q2 := nlt_ BKq1 hg; have NBq2_q1 := ngt_ BKq1 hg; replace BKq1 := bb_ BKq1 hb; clear hb hbox hg; have hnb13 := NBq1_q2.out; have hnc13 := NBq2_q1.out; obtain ⟨hcz14_0, hcz14_1, hfz14_0, hfz14_1⟩ := cy2_ BKq1) | ((with_reducible refine gate_callee (f := 61) rfl ?_); refine goesL_ (some 4) rfl rfl Try.func61 (by kernel_rfl) rfl #[.agg #[.int .i64 a0_0, .slice A0_1 l0_1.length c0_1]] rfl la_ ?_; (with_reducible refine (section_Check.calls k a0_0 _ _ l0_1 tq3 _ ?side1 ?side2 A2.out).mono ?_); (case side1 => exact csC_ ((Kd.V_reads' HO0_1.out).2.2)); (case side2 => exact (Kd.V_reads' HO0_1.out).2.1); rintro e w15 ⟨rfl, hb⟩; refine ⟨_, rfl, ?_⟩; replace HO0_1 := kV_ HO0_1 hb; replace BKq1 := bb_ BKq1 hb; replace BKq2 := bb_ BKq2 hb; replace HB := bA_ hb; (try clear hb); (try clear hk); obtain ⟨hcz16_0, hcz16_1, hfz16_0, hfz16_1⟩ := cy2_ BKq2));refine bodyPost_ret (results_cell_row rfl _ _ gbq2 56 #[.int .i64 0, .slice none 0 0] (0, 0) _ rfl (ch_ BKq2) Try.underlying56 rfl (by kernel_rfl)) rfl ?_;exact ⟨_, er_, Kd.V_nil _ _ _ _ _, be_⟩


def span_empty.f (a0_0 : Int) (a0_1 : Int) : Option (Bool) := some (decide (a0_0 ≥ a0_1))
set_option maxHeartbeats 8000000 in
set_option maxRecDepth 100000 in
theorem span_empty.calls (a0_0 : Int) (a0_1 : Int) (r : Bool) (w : World) (h : span_empty.f a0_0 a0_1 = some r) :
  Calls Try.prog 73 #[.agg #[.int .i64 a0_0, .int .i64 a0_1]] w fun e w' => e = .returned (.bool r) ∧ Below w.heap.size w w' := by
 have hu44 := Try.underlying44;have HB := A_ (Below.refl w.heap.size w);have H : (some (decide (a0_0 ≥ a0_1))) = some r := h;clear h;obtain rfl := Option.some.inj H;go_enter Try.func73, Try.ntmps73;go_wp2_with (first | ((with_reducible refine gate_dst (N := 1) rfl ?_); refine bx_ 1 (cs := #[.int .i64 a0_0, .int .i64 a0_1]) (t := 44) ?_; intro gbq1 hg w2 hbox hb; have BKq1 := A_ hbox; have GWq1 := gz_ (w := w) hg; have GEq1 := gz_ (w := w) hg; replace HB := bA_ hb; clear hb hbox hg; obtain ⟨hcz3_0, hcz3_1, hfz3_0, hfz3_1⟩ := cy2_ BKq1));go_ret;exact ⟨er_, be_⟩


def span_Len.f (a0_0 : Int) (a0_1 : Int) : Option (Int) := (span_empty.f a0_0 a0_1).bind fun tq2 => (if tq2 = true then (some 0) else (if a0_0 < 0 then (if a0_1 > (wrap64 (9223372036854775807 + a0_0)) then (some 9223372036854775807) else (some (wrap64 (a0_1 - a0_0)))) else (some (wrap64 (a0_1 - a0_0)))))
set_option maxHeartbeats 8000000 in
set_option maxRecDepth 100000 in
theorem span_Len.calls (a0_0 : Int) (a0_1 : Int) (r : Int) (w : World) (h : span_Len.f a0_0 a0_1 = some r) :
  Calls Try.prog 60 #[.agg #[.int .i64 a0_0, .int .i64 a0_1]] w fun e w' => e = .returned (.int .i64 r) ∧ Below w.heap.size w w' := by
 have hu44 := Try.underlying44;have HB := A_ (Below.refl w.heap.size w);have H : ((span_empty.f a0_0 a0_1).bind fun tq2 => (if tq2 = true then (some 0) else (if a0_0 < 0 then (if a0_1 > (wrap64 (9223372036854775807 + a0_0)) then (some 9223372036854775807) else (some (wrap64 (a0_1 - a0_0)))) else (some (wrap64 (a0_1 - a0_0)))))) = some r := h;clear h;replace H := Option.bind_eq_some_iff.mp H;obtain ⟨tq2, A20, H⟩ := H;replace H : (if tq2 = true then (some 0) else (if a0_0 < 0 then (if a0_1 > (wrap64 (9223372036854775807 + a0_0)) then (some 9223372036854775807) else (some (wrap64 (a0_1 - a0_0)))) else (some (wrap64 (a0_1 - a0_0))))) = some r := H;have A2 := Aside0.mk A20;clear A20
 by_cases c3 : tq2 = true
 ·subst c3;(have H1 : (some 0) = some r := by rw [if_pos rfl] at H; exact H);clear H;have H := H1;clear H1;obtain rfl := Option.some.inj H;go_enter Try.func60, Try.ntmps60;go_wp2_with (first | ((with_reducible refine gate_dst (N := 1) rfl ?_); refine bx_ 1 (cs := #[.int .i64 a0_0, .int .i64 a0_1]) (t := 44) ?_; intro gbq1 hg w4 hbox hb; have BKq1 := A_ hbox; have GWq1 := gz_ (w := w) hg; have GEq1 := gz_ (w := w) hg; replace HB := bA_ hb; clear hb hbox hg; obtain ⟨hcz5_0, hcz5_1, hfz5_0, hfz5_1⟩ := cy2_ BKq1) | ((with_reducible refine gate_callee (f := 73) rfl ?_); refine goesL_ (some 4) rfl rfl Try.func73 (by kernel_rfl) rfl #[.agg #[.int .i64 a0_0, .int .i64 a0_1]] rfl la_ ?_; (with_reducible refine (span_empty.calls a0_0 a0_1 true _ A2.out).mono ?_); rintro e w6 ⟨rfl, hb⟩; refine ⟨_, rfl, ?_⟩; replace BKq1 := bb_ BKq1 hb; replace HB := bA_ hb; (try clear hb)));go_ret;exact ⟨er_, be_⟩
 ·replace c3 := Bool.eq_false_iff.mpr c3;subst c3;(have H1 : (if a0_0 < 0 then (if a0_1 > (wrap64 (9223372036854775807 + a0_0)) then (some 9223372036854775807) else (some (wrap64 (a0_1 - a0_0)))) else (some (wrap64 (a0_1 - a0_0)))) = some r := by rw [if_neg (show ¬ (false = true) by decide)] at H; exact H);clear H;have H := H1;clear H1
  by_cases c7 : a0_0 < 0
  ·rw [if_pos c7] at H;have c7b0 : decide (a0_0 < 0) = true := decide_eq_true c7;clear c7
   by_cases c8 : a0_1 > (wrap64 (9223372036854775807 + a0_0))
   ·rw [if_pos c8] at H;have c8b0 : decide ((wrap64 (9223372036854775807 + a0_0)) < a0_1) = true := decide_eq_true c8;clear c8;obtain rfl := Option.some.inj H;go_enter Try.func60, Try.ntmps60;go_wp2_with (first | ((with_reducible refine gate_dst (N := 1) rfl ?_); refine bx_ 1 (cs := #[.int .i64 a0_0, .int .i64 a0_1]) (t := 44) ?_; intro gbq1 hg w9 hbox hb; have BKq1 := A_ hbox; have GWq1 := gz_ (w := w) hg; have GEq1 := gz_ (w := w) hg; replace HB := bA_ hb; clear hb hbox hg; obtain ⟨hcz10_0, hcz10_1, hfz10_0, hfz10_1⟩ := cy2_ BKq1) | ((with_reducible refine gate_callee (f := 73) rfl ?_); refine goesL_ (some 4) rfl rfl Try.func73 (by kernel_rfl) rfl #[.agg #[.int .i64 a0_0, .int .i64 a0_1]] rfl la_ ?_; (with_reducible refine (span_empty.calls a0_0 a0_1 false _ A2.out).mono ?_); rintro e w11 ⟨rfl, hb⟩; refine ⟨_, rfl, ?_⟩; replace BKq1 := bb_ BKq1 hb; replace HB := bA_ hb; (try clear hb); obtain ⟨hcz12_0, hcz12_1, hfz12_0, hfz12_1⟩ := cy2_ BKq1));go_ret;exact ⟨er_, be_⟩
   ·rw [if_neg c8] at H;have c8b0 : decide ((wrap64 (9223372036854775807 + a0_0)) < a0_1) = false := decide_eq_false c8;clear c8;obtain rfl := Option.some.inj H;go_enter Try.func60, Try.ntmps60;go_wp2_with (first | ((with_reducible refine gate_dst (N := 1) rfl ?_); refine bx_ 1 (cs := #[.int .i64 a0_0, .int .i64 a0_1]) (t := 44) ?_; intro gbq1 hg w13 hbox hb; have BKq1 := A_ hbox; have GWq1 := gz_ (w := w) hg; have GEq1 := gz_ (w := w) hg; replace HB := bA_ hb; clear hb hbox hg; obtain ⟨hcz14_0, hcz14_1, hfz14_0, hfz14_1⟩ := cy2_ BKq1) | ((with_reducible refine gate_callee (f := 73) rfl ?_); refine goesL_ (some 4) rfl rfl Try.func73 (by kernel_rfl) rfl #[.agg #[.int .i64 a0_0, .int .i64 a0_1]] rfl la_ ?_; (with_reducible refine (span_empty.calls a0_0 a0_1 false _ A2.out).mono ?_); rintro e w15 ⟨rfl, hb⟩; refine ⟨_, rfl, ?_⟩; replace BKq1 := bb_ BKq1 hb; replace HB := bA_ hb; (try clear hb); obtain ⟨hcz16_0, hcz16_1, hfz16_0, hfz16_1⟩ := cy2_ BKq1));go_ret;exact ⟨er_, be_⟩
  ·rw [if_neg c7] at H;have c7b0 : decide (a0_0 < 0) = false := decide_eq_false c7;clear c7;obtain rfl := Option.some.inj H;go_enter Try.func60, Try.ntmps60;go_wp2_with (first | ((with_reducible refine gate_dst (N := 1) rfl ?_); refine bx_ 1 (cs := #[.int .i64 a0_0, .int .i64 a0_1]) (t := 44) ?_; intro gbq1 hg w17 hbox hb; have BKq1 := A_ hbox; have GWq1 := gz_ (w := w) hg; have GEq1 := gz_ (w := w) hg; replace HB := bA_ hb; clear hb hbox hg; obtain ⟨hcz18_0, hcz18_1, hfz18_0, hfz18_1⟩ := cy2_ BKq1) | ((with_reducible refine gate_callee (f := 73) rfl ?_); refine goesL_ (some 4) rfl rfl Try.func73 (by kernel_rfl) rfl #[.agg #[.int .i64 a0_0, .int .i64 a0_1]] rfl la_ ?_; (with_reducible refine (span_empty.calls a0_0 a0_1 false _ A2.out).mono ?_); rintro e w19 ⟨rfl, hb⟩; refine ⟨_, rfl, ?_⟩; replace BKq1 := bb_ BKq1 hb; replace HB := bA_ hb; (try clear hb); obtain ⟨hcz20_0, hcz20_1, hfz20_0, hfz20_1⟩ := cy2_ BKq1));go_ret;exact ⟨er_, be_⟩


def section_Area.l0 : Nat → Int → List (S44) → Int → Int → Option (Int)
 | 0, _, _, _, _ => none
 | k + 1, x3, x8, x9, x10 => if x10 < x9 then (if 0 ≤ x10 then (if x10 < (x8.length : Int) then ((span_Len.f ((rd_T44 x8 x10).f0) ((rd_T44 x8 x10).f1)).bind fun tq8 => (section_Area.l0 k (wrap64 (x3 + tq8)) x8 x9 (wrap64 (x10 + 1)))) else (none)) else (none)) else (some (wrap64 (10 * x3)))
def section_Area.f (k : Nat) (a0_0 : Int) (l0_1 : List (S44)) : Option (Int) := (section_valid.f k a0_0 l0_1).bind fun btq2 => (section_Area.l0 k 0 btq2.2 (btq2.2.length : Int) 0)
theorem section_Area.mono_l : ∀ k, (∀ y0 y1 y2 y3, LeO (section_Area.l0 k y0 y1 y2 y3) (section_Area.l0 (k + 1) y0 y1 y2 y3))
 | 0 => fun _ _ _ _ r h => by simp [section_Area.l0] at h
 | k + 1 => by
  have ih0 := section_Area.mono_l k
  ·intro y0 y1 y2 y3;unfold section_Area.l0
   repeat' first
   | (with_reducible exact ih0 _ _ _ _)
   | (with_reducible exact section_valid.mono _ _ _)
   | (with_reducible exact LeO.refl _)
   | (with_reducible exact LeO.none _)
   | (with_reducible refine LeO.ite ?_ ?_)
   | (with_reducible refine LeO.bind ?_ (fun _ => ?_))
   | exact ih0 _ _ _ _
   | exact section_valid.mono _ _ _
   | exact LeO.none _
   | refine LeO.ite ?_ ?_
   | refine LeO.bind ?_ (fun _ => ?_)
theorem section_Area.mono : ∀ a0 a1 k, LeO (section_Area.f k a0 a1) (section_Area.f (k + 1) a0 a1) := by
 intro a0 a1 k;have ih0 := section_Area.mono_l k;unfold section_Area.f
 repeat' first
   | (with_reducible exact ih0 _ _ _ _)
   | (with_reducible exact section_valid.mono _ _ _)
   | (with_reducible exact LeO.refl _)
   | (with_reducible exact LeO.none _)
   | (with_reducible refine LeO.ite ?_ ?_)
   | (with_reducible refine LeO.bind ?_ (fun _ => ?_))
   | exact ih0 _ _ _ _
   | exact section_valid.mono _ _ _
   | exact LeO.none _
   | refine LeO.ite ?_ ?_
   | refine LeO.bind ?_ (fun _ => ?_)
set_option maxHeartbeats 8000000 in
set_option maxRecDepth 100000 in
theorem section_Area.calls (k : Nat) (a0_0 : Int) (A0_1 : Option Addr) (c0_1 : Nat) (l0_1 : List (S44)) (r : Int) (w : World) (hr0_1 : Kd.C k44 w A0_1 l0_1.length l0_1) (hc0_1 : l0_1.length ≤ c0_1) (h : section_Area.f k a0_0 l0_1 = some r) :
  Calls Try.prog 38 #[.agg #[.int .i64 a0_0, .slice A0_1 l0_1.length c0_1]] w fun e w' => e = .returned (.int .i64 r) ∧ Below w.heap.size w w' := by
 have hu56 := Try.underlying56;have hu44 := Try.underlying44;have HR0_1 := Aside0.mk hr0_1;have HC0_1 := Aside0.mk hc0_1;clear hr0_1 hc0_1;have HB := A_ (Below.refl w.heap.size w);have H : ((section_valid.f k a0_0 l0_1).bind fun btq2 => (section_Area.l0 k 0 btq2.2 (btq2.2.length : Int) 0)) = some r := h;clear h;replace H := Option.bind_eq_some_iff.mp H;obtain ⟨⟨tq2, tq3⟩, A20, H⟩ := H;replace H : (section_Area.l0 k 0 tq3 (tq3.length : Int) 0) = some r := H;have A2 := Aside0.mk A20;clear A20;have H' := Aside0.mk H;clear H;go_enter Try.func38, Try.ntmps38;go_wp2_with (first | ((with_reducible refine gate_dst (N := 1) rfl ?_); refine bx_ 1 (cs := #[.int .i64 a0_0, .slice A0_1 l0_1.length c0_1]) (t := 56) ?_; intro gbq1 hg w3 hbox hb; have BKq1 := A_ hbox; have GWq1 := gz_ (w := w) hg; have GEq1 := gz_ (w := w) hg; replace HB := bA_ hb; clear hb hbox hg; obtain ⟨hcz4_0, hcz4_1, hfz4_0, hfz4_1⟩ := cy2_ BKq1) | ((with_reducible refine gate_callee (f := 59) rfl ?_); refine goesL_ (some 7) rfl rfl Try.func59 (by kernel_rfl) rfl #[.agg #[.int .i64 a0_0, .slice A0_1 l0_1.length c0_1]] rfl la_ ?_; (with_reducible refine (section_valid.calls k a0_0 (fun k_ => k_ < w.heap.size) _ _ l0_1 tq2 tq3 _ ?side1 A2.out).mono ?_); (case side1 => exact Kd.V_mk HC0_1.out (Kd.F_below (Kd.C_F k44_heap HR0_1.out) be_)); rintro e w5 ⟨vq4, rfl, ho0, hb⟩; refine ⟨_, rfl, ?_⟩; have HOq5 := A_ (Kd.V_lower (Kd.V_mono (ok' := fun k_ => k_ ≠ gbq1) ho0 (fun k_ hk_ => Or.elim hk_ (fun hs_ => fun e_ => Nat.not_le.2 hs_ (by rw [e_]; exact GWq1.out)) (fun hn_ => (Kd.freshB (g := gbq1) (o := .cells #[.int .i64 a0_0, .slice A0_1 l0_1.length c0_1] 56 (0, 0)) (fb_ BKq1.out) k_ hn_)))) bz_); replace BKq1 := bb_ BKq1 hb; replace HB := bA_ hb; (try clear hb); (try clear hk); (try clear ho0); obtain ⟨Ao6, co6, eo6⟩ := Kd.V_slice HOq5.out; subst eo6))
 go_loopg [3, 10] k (fun kq v3 v10 w' => ∃ (x3_1 : Int) (x10_1 : Int), v3 = .int .i64 x3_1 ∧ v10 = .int .i64 x10_1 ∧ Aside0 (section_Area.l0 kq x3_1 tq3 (tq3.length : Int) x10_1 = some r) ∧ Aside0 (kq ≤ k) ∧ Aside0 (Kd.V k44 44 w' w.heap.size (fun k_ => k_ ≠ gbq1) (.slice Ao6 tq3.length co6) tq3) ∧ Aside0 (w'.heap[gbq1]? = some (.cells #[.int .i64 a0_0, (.slice A0_1 l0_1.length c0_1)] 56 (0, 0))) ∧ Aside0 (Below w.heap.size w w'))
 case atStart => exact ⟨(0), (0), rs_, rs_, H', ⟨Nat.le_refl _⟩, ⟨fV_ HOq5.out⟩, ⟨fb_ BKq1.out⟩, ⟨be_⟩⟩
 case round =>
  clear H';(try clear p2);(try clear c3);(try clear c5);(try clear hcz4_0);(try clear hcz4_1);(try clear hfz4_0);(try clear hfz4_1);obtain ⟨x3_1, x10_1, rfl, rfl, HA, HK1, HO_8, BKq1, HB⟩ := hrel;cases gk with
  | zero => exact absurd HA.out (by simp [section_Area.l0])
  | succ k1 =>
   have H := HA.out;clear HA;simp only [section_Area.l0] at H
   by_cases c7 : x10_1 < (tq3.length : Int)
   ·rw [if_pos c7] at H;have c7b0 : decide (x10_1 < (tq3.length : Int)) = true := decide_eq_true c7;clear c7
    by_cases c8 : 0 ≤ x10_1
    ·rw [if_pos c8] at H;have c8b0 : decide (0 ≤ x10_1) = true := decide_eq_true c8;clear c8
     by_cases c9 : x10_1 < (tq3.length : Int)
     ·rw [if_pos c9] at H;have c9b0 : decide (x10_1 < (tq3.length : Int)) = true := decide_eq_true c9;clear c9;replace H := Option.bind_eq_some_iff.mp H;obtain ⟨tq8, A100, H⟩ := H;replace H : (section_Area.l0 k1 (wrap64 (x3_1 + tq8)) tq3 (tq3.length : Int) (wrap64 (x10_1 + 1))) = some r := H;have A10 := Aside0.mk A100;clear A100;have H' := Aside0.mk H;clear H;have pq6 : 0 ≤ (x10_1 : Int) := as_;have qq6 : x10_1 < (tq3.length : Int) := as_;obtain ⟨adq6, eq6, hxq6_0, hxq6_1⟩ := at_T44 (Kd.V_reads' HO_8.out).2.2 x10_1 pq6 qq6;cases eq6;replace pq6 := eq_true pq6;replace qq6 := eq_true qq6;go_wp2_with (first | ((with_reducible refine gate_dst (N := 5) rfl ?_); refine bx_ 5 (cs := #[.int .i64 0, .int .i64 0]) (t := 44) ?_; intro gbq7 hg w11 hbox hb; replace HO_8 := A_ (Kd.V_below (Kd.V_elderB (fV_ HO_8.out) gbq7 (Nat.le_of_eq hg.symm)) hb); have BKq7 := A_ hbox; have GWq7 := gz_ (w := w) hg; have GEq7 := gz_ (w := w) hg; replace HB := bA_ hb; have NBq1_q7 := nlt_ BKq1 hg; have NBq7_q1 := ngt_ BKq1 hg; replace BKq1 := bb_ BKq1 hb; clear hb hbox hg; have hnb12 := NBq7_q1.out; have hnc12 := NBq1_q7.out; obtain ⟨hcz13_0, hcz13_1, hfz13_0, hfz13_1⟩ := cy2_ BKq7) | ((with_reducible refine gate_callee (f := 60) rfl ?_); refine goesL_ (some 16) rfl rfl Try.func60 (by kernel_rfl) rfl #[.agg #[.int .i64 ((rd_T44 tq3 x10_1).f0), .int .i64 ((rd_T44 tq3 x10_1).f1)]] rfl la_ ?_; (with_reducible refine (span_Len.calls ((rd_T44 tq3 x10_1).f0) ((rd_T44 tq3 x10_1).f1) tq8 _ A10.out).mono ?_); rintro e w14 ⟨rfl, hb⟩; refine ⟨_, rfl, ?_⟩; replace HO_8 := A_ (Kd.V_below (by (with_reducible repeat (first | apply Kd.V_alloc | apply Kd.V_drewN | apply Kd.V_drew)); exact (Kd.V_mono (Vf_ (Vf_ (Kd.V_mono HO_8.out (fun k_ hk => (⟨hk, hk.2⟩ : _ ∧ k_ ≠ gbq7))))) (fun _ h_ => h_.1))) hb); replace BKq1 := A_ (blk_below (g := gbq1) (o := .cells #[.int .i64 a0_0, .slice A0_1 l0_1.length c0_1] 56 (0, 0)) (ch_ BKq1) hb); replace BKq7 := A_ (blk_below (g := gbq7) (o := .cells #[.int .i64 ((rd_T44 tq3 x10_1).f0), .int .i64 ((rd_T44 tq3 x10_1).f1)] 44 (0, 0)) (ch_ BKq7) hb); replace HB := bA_ hb; (try clear hb); (try clear hk)))
      go_roundg k1
      case measure => have := HK1.out; omega
      case rel => exact ⟨(wrap64 (x3_1 + tq8)), (wrap64 (x10_1 + 1)), rs_, rs_, H', ⟨by have := HK1.out; omega⟩, ⟨by (with_reducible repeat (first | apply Kd.V_alloc | apply Kd.V_drewN | apply Kd.V_drew)); exact Kd.V_mono HO_8.out (fun _ hk => hk.1)⟩, ⟨fb_ BKq1.out⟩, ⟨be_⟩⟩
     ·rw [if_neg c9] at H;exact absurd H (by simp)
    ·rw [if_neg c8] at H;exact absurd H (by simp)
   ·rw [if_neg c7] at H;have c7b0 : decide (x10_1 < (tq3.length : Int)) = false := decide_eq_false c7;clear c7;obtain rfl := Option.some.inj H;go_wp2;go_ret;exact ⟨er_, be_⟩


def units_Root.l0 : Nat → Int → Int → Int → Option (Int)
 | 0, _, _, _ => none
 | k + 1, x0, x3, x4 => if x4 ≥ 0 then (if 0 ≤ x4 then (if (Go.bits .or .i64 x3 (shl .i64 1 x4)) = 0 then (none) else (if (Go.bits .or .i64 x3 (shl .i64 1 x4)) ≤ (wrap64 (Int.tdiv x0 (Go.bits .or .i64 x3 (shl .i64 1 x4)))) then (units_Root.l0 k x0 (Go.bits .or .i64 x3 (shl .i64 1 x4)) (wrap64 (x4 - 1))) else (units_Root.l0 k x0 x3 (wrap64 (x4 - 1))))) else (none)) else (some x3)
def units_Root.f (k : Nat) (a0 : Int) : Option (Int) := if a0 ≤ 0 then (some 0) else (units_Root.l0 k a0 0 31)
theorem units_Root.mono_l : ∀ k, (∀ y0 y1 y2, LeO (units_Root.l0 k y0 y1 y2) (units_Root.l0 (k + 1) y0 y1 y2))
 | 0 => fun _ _ _ r h => by simp [units_Root.l0] at h
 | k + 1 => by
  have ih0 := units_Root.mono_l k
  ·intro y0 y1 y2;unfold units_Root.l0
   repeat' first
   | (with_reducible exact ih0 _ _ _)
   | (with_reducible exact LeO.refl _)
   | (with_reducible exact LeO.none _)
   | (with_reducible refine LeO.ite ?_ ?_)
   | (with_reducible refine LeO.bind ?_ (fun _ => ?_))
   | exact ih0 _ _ _
   | exact LeO.none _
   | refine LeO.ite ?_ ?_
   | refine LeO.bind ?_ (fun _ => ?_)
theorem units_Root.mono : ∀ a0 k, LeO (units_Root.f k a0) (units_Root.f (k + 1) a0) := by
 intro a0 k;have ih0 := units_Root.mono_l k;unfold units_Root.f
 repeat' first
   | (with_reducible exact ih0 _ _ _)
   | (with_reducible exact LeO.refl _)
   | (with_reducible exact LeO.none _)
   | (with_reducible refine LeO.ite ?_ ?_)
   | (with_reducible refine LeO.bind ?_ (fun _ => ?_))
   | exact ih0 _ _ _
   | exact LeO.none _
   | refine LeO.ite ?_ ?_
   | refine LeO.bind ?_ (fun _ => ?_)
set_option maxHeartbeats 8000000 in
set_option maxRecDepth 100000 in
theorem units_Root.calls (k : Nat) (a0 : Int) (r : Int) (w : World) (h : units_Root.f k a0 = some r) :
  Calls Try.prog 78 #[.int .i64 a0] w fun e w' => e = .returned (.int .i64 r) ∧ Drawn0 w w' := by
 have H : (if a0 ≤ 0 then (some 0) else (units_Root.l0 k a0 0 31)) = some r := h;clear h
 by_cases c2 : a0 ≤ 0
 ·rw [if_pos c2] at H;have c2b0 : decide (a0 ≤ 0) = true := decide_eq_true c2;clear c2;obtain rfl := Option.some.inj H;go_enter Try.func78, Try.ntmps78;go_wp2;go_ret;exact ⟨by first | rfl | (simp; done) | (simp [*]; done), by repeat (first | exact Drawn0.refl _ | apply Drawn0.step)⟩
 ·rw [if_neg c2] at H;have c2b0 : decide (a0 ≤ 0) = false := decide_eq_false c2;clear c2;have H' := Aside0.mk H;clear H;go_enter Try.func78, Try.ntmps78;go_wp2
  go_loopg [3, 4] k (fun kq v3 v4 w' => ∃ (x3_1 : Int) (x4_1 : Int), v3 = .int .i64 x3_1 ∧ v4 = .int .i64 x4_1 ∧ Aside0 (units_Root.l0 kq a0 x3_1 x4_1 = some r) ∧ Aside0 (kq ≤ k) ∧ Drawn0 w w')
  case atStart => exact ⟨(0), (31), rs_, rs_, H', ⟨Nat.le_refl _⟩, by repeat (first | exact Drawn0.refl _ | apply Drawn0.step)⟩
  case round =>
   clear H';(try clear c2);(try clear c2b0);(try clear p2);obtain ⟨x3_1, x4_1, rfl, rfl, HA, HK1, ⟨m1, rfl⟩⟩ := hrel;cases gk with
   | zero => exact absurd HA.out (by simp [units_Root.l0])
   | succ k1 =>
    have H := HA.out;clear HA;simp only [units_Root.l0] at H
    by_cases c3 : x4_1 ≥ 0
    ·rw [if_pos c3] at H;have c3b0 : decide (0 ≤ x4_1) = true := decide_eq_true c3;clear c3
     by_cases c4 : 0 ≤ x4_1
     ·rw [if_pos c4] at H;have c4b0 := eq_true c4;have c4b1 : decide (0 ≤ x4_1) = true := decide_eq_true c4;clear c4;obtain ⟨ji5, hji5⟩ : ∃ j_ : Int, (shl .i64 1 x4_1) = j_ := ⟨_, rfl⟩;(replace H : (if (Go.bits .or .i64 x3_1 (ji5)) = 0 then (none) else (if (Go.bits .or .i64 x3_1 (ji5)) ≤ (wrap64 (Int.tdiv a0 (Go.bits .or .i64 x3_1 (ji5)))) then (units_Root.l0 k1 a0 (Go.bits .or .i64 x3_1 (ji5)) (wrap64 (x4_1 - 1))) else (units_Root.l0 k1 a0 x3_1 (wrap64 (x4_1 - 1))))) = some r := by first | (rw [hji5] at H; exact H) | (simp only [hji5] at H ⊢; exact H));have hji5_ : (IntKind.i64.wrap (1 * 2 ^ min x4_1.toNat 64)) = ji5 := hji5;have hji5z : x4_1 ≤ 64 → (IntKind.i64.wrap (1 * 2 ^ x4_1.toNat)) = ji5 := shl_small hji5;(have hji5u : (IntKind.i64.wrap (2 ^ min x4_1.toNat 64)) = ji5 := by have h_ := hji5_; rw [Int.one_mul] at h_; exact h_);(have hji5v : x4_1 ≤ 64 → (IntKind.i64.wrap (2 ^ x4_1.toNat)) = ji5 := fun hle_ => by have h_ := hji5z hle_; rw [Int.one_mul] at h_; exact h_);have hji5y : (wrap64 (1 * 2 ^ min x4_1.toNat 64)) = ji5 := (i64_w _).symm.trans hji5_;have hji5x : x4_1 ≤ 64 → (wrap64 (1 * 2 ^ x4_1.toNat)) = ji5 := fun h_ => (i64_w _).symm.trans (hji5z h_)
      by_cases c6 : (Go.bits .or .i64 x3_1 (ji5)) = 0
      ·rw [if_pos c6] at H;exact absurd H (by simp)
      ·rw [if_neg c6] at H;have c6b0 : ((Go.bits .or .i64 x3_1 (ji5)) == 0) = false := beq_eq_false_iff_ne.mpr c6;have c6b1 : ((Go.bits .or .i64 x3_1 (ji5)) != 0) = true := bne_iff_ne.mpr c6
       by_cases c7 : (Go.bits .or .i64 x3_1 (ji5)) ≤ (wrap64 (Int.tdiv a0 (Go.bits .or .i64 x3_1 (ji5))))
       ·rw [if_pos c7] at H;have c7b0 : decide ((Go.bits .or .i64 x3_1 (ji5)) ≤ (wrap64 (Int.tdiv a0 (Go.bits .or .i64 x3_1 (ji5))))) = true := decide_eq_true c7;clear c7;have H' := Aside0.mk H;clear H;go_wp2
        go_roundg k1
        case measure => have := HK1.out; omega
        case rel => exact ⟨(Go.bits .or .i64 x3_1 (ji5)), (wrap64 (x4_1 - 1)), (by first | rfl | (simp; done) | (simp only [← hji5] <;> (first | rfl | simp)) | (simp [*]; done)), rs_, H', ⟨by have := HK1.out; omega⟩, by repeat (first | exact Drawn0.refl _ | apply Drawn0.step)⟩
       ·rw [if_neg c7] at H;have c7b0 : decide ((Go.bits .or .i64 x3_1 (ji5)) ≤ (wrap64 (Int.tdiv a0 (Go.bits .or .i64 x3_1 (ji5))))) = false := decide_eq_false c7;clear c7;have H' := Aside0.mk H;clear H;go_wp2
        go_roundg k1
        case measure => have := HK1.out; omega
        case rel => exact ⟨(x3_1), (wrap64 (x4_1 - 1)), rs_, rs_, H', ⟨by have := HK1.out; omega⟩, by repeat (first | exact Drawn0.refl _ | apply Drawn0.step)⟩
     ·rw [if_neg c4] at H;exact absurd H (by simp)
    ·rw [if_neg c3] at H;have c3b0 : decide (0 ≤ x4_1) = false := decide_eq_false c3;clear c3;obtain rfl := Option.some.inj H;go_wp2;go_ret;exact ⟨by first | rfl | (simp; done) | (simp [*]; done), by repeat (first | exact Drawn0.refl _ | apply Drawn0.step)⟩


def shape_Diameter.f (k : Nat) (a0_0 : Int) (l0_1 : List (S44)) : Option (Int) := (section_Area.f k a0_0 l0_1).bind fun tq2 => ((units_Root.f k (wrap64 (Int.tdiv (wrap64 (452 * tq2)) 355))).bind fun tq3 => (some tq3))
theorem shape_Diameter.mono : ∀ a0 a1 k, LeO (shape_Diameter.f k a0 a1) (shape_Diameter.f (k + 1) a0 a1) := by
 intro a0 a1 k;unfold shape_Diameter.f
 repeat' first
   | (with_reducible exact section_Area.mono _ _ _)
   | (with_reducible exact units_Root.mono _ _)
   | (with_reducible exact LeO.refl _)
   | (with_reducible exact LeO.none _)
   | (with_reducible refine LeO.ite ?_ ?_)
   | (with_reducible refine LeO.bind ?_ (fun _ => ?_))
   | exact section_Area.mono _ _ _
   | exact units_Root.mono _ _
   | exact LeO.none _
   | refine LeO.ite ?_ ?_
   | refine LeO.bind ?_ (fun _ => ?_)
set_option maxHeartbeats 8000000 in
set_option maxRecDepth 100000 in
theorem shape_Diameter.calls (k : Nat) (a0_0 : Int) (A0_1 : Option Addr) (c0_1 : Nat) (l0_1 : List (S44)) (r : Int) (w : World) (hr0_1 : Kd.C k44 w A0_1 l0_1.length l0_1) (hc0_1 : l0_1.length ≤ c0_1) (h : shape_Diameter.f k a0_0 l0_1 = some r) :
  Calls Try.prog 63 #[.agg #[.int .i64 a0_0, .slice A0_1 l0_1.length c0_1]] w fun e w' => e = .returned (.int .i64 r) ∧ Below w.heap.size w w' := by
 have hu56 := Try.underlying56;have HR0_1 := Aside0.mk hr0_1;have HC0_1 := Aside0.mk hc0_1;clear hr0_1 hc0_1;have HB := A_ (Below.refl w.heap.size w);have H : ((section_Area.f k a0_0 l0_1).bind fun tq2 => ((units_Root.f k (wrap64 (Int.tdiv (wrap64 (452 * tq2)) 355))).bind fun tq3 => (some tq3))) = some r := h;clear h;replace H := Option.bind_eq_some_iff.mp H;obtain ⟨tq2, A20, H⟩ := H;replace H : ((units_Root.f k (wrap64 (Int.tdiv (wrap64 (452 * tq2)) 355))).bind fun tq3 => (some tq3)) = some r := H;have A2 := Aside0.mk A20;clear A20;replace H := Option.bind_eq_some_iff.mp H;obtain ⟨tq3, A30, H⟩ := H;replace H : (some tq3) = some r := H;have A3 := Aside0.mk A30;clear A30;obtain rfl := Option.some.inj H;go_enter Try.func63, Try.ntmps63;go_wp2_with (first | ((with_reducible refine gate_dst (N := 1) rfl ?_); refine bx_ 1 (cs := #[.int .i64 a0_0, .slice A0_1 l0_1.length c0_1]) (t := 56) ?_; intro gbq1 hg w4 hbox hb; have BKq1 := A_ hbox; have GWq1 := gz_ (w := w) hg; have GEq1 := gz_ (w := w) hg; replace HB := bA_ hb; clear hb hbox hg; obtain ⟨hcz5_0, hcz5_1, hfz5_0, hfz5_1⟩ := cy2_ BKq1) | ((with_reducible refine gate_callee (f := 38) rfl ?_); refine goesL_ (some 4) rfl rfl Try.func38 (by kernel_rfl) rfl #[.agg #[.int .i64 a0_0, .slice A0_1 l0_1.length c0_1]] rfl la_ ?_; (with_reducible refine (section_Area.calls k a0_0 _ _ l0_1 tq2 _ ?side1 ?side2 A2.out).mono ?_); (case side1 => exact csC_ ((Kd.C_below HR0_1.out HB.out))); (case side2 => exact HC0_1.out); rintro e w6 ⟨rfl, hb⟩; refine ⟨_, rfl, ?_⟩; replace BKq1 := bb_ BKq1 hb; replace HB := bA_ hb; (try clear hb)) | ((with_reducible refine gate_callee (f := 78) rfl ?_); refine goesL_ (some 7) rfl rfl Try.func78 (by kernel_rfl) rfl #[.int .i64 (wrap64 (Int.tdiv (wrap64 (452 * tq2)) 355))] rfl la_ ?_; (with_reducible refine (units_Root.calls k (wrap64 (Int.tdiv (wrap64 (452 * tq2)) 355)) tq3 _ A3.out).mono ?_); rintro e w' ⟨rfl, ⟨nd, rfl⟩⟩; refine ⟨_, rfl, ?_⟩));go_ret;exact ⟨er_, be_⟩


def shape_Top.f (k : Nat) (l0 : List (S58)) : Option (Int) := (solid_Check.f k l0).bind fun tq1 => (if tq1 = 0 then (if 0 ≤ (wrap64 ((l0.length : Int) - 1)) then (if (wrap64 ((l0.length : Int) - 1)) < (l0.length : Int) then ((shape_Diameter.f k ((rd_T58 l0 (wrap64 ((l0.length : Int) - 1))).f1.f0) ((rd_T58 l0 (wrap64 ((l0.length : Int) - 1))).f1.f1)).bind fun tq3 => (some tq3)) else (none)) else (none)) else (some 0))
theorem shape_Top.mono : ∀ a0 k, LeO (shape_Top.f k a0) (shape_Top.f (k + 1) a0) := by
 intro a0 k;unfold shape_Top.f
 repeat' first
   | (with_reducible exact shape_Diameter.mono _ _ _)
   | (with_reducible exact solid_Check.mono _ _)
   | (with_reducible exact LeO.refl _)
   | (with_reducible exact LeO.none _)
   | (with_reducible refine LeO.ite ?_ ?_)
   | (with_reducible refine LeO.bind ?_ (fun _ => ?_))
   | exact shape_Diameter.mono _ _ _
   | exact solid_Check.mono _ _
   | exact LeO.none _
   | refine LeO.ite ?_ ?_
   | refine LeO.bind ?_ (fun _ => ?_)
set_option maxHeartbeats 8000000 in
set_option maxRecDepth 100000 in
theorem shape_Top.calls (k : Nat) (A0 : Option Addr) (c0 : Nat) (l0 : List (S58)) (r : Int) (w : World) (hr0 : Kd.C k58 w A0 l0.length l0) (hc0 : l0.length ≤ c0) (h : shape_Top.f k l0 = some r) :
  Calls Try.prog 43 #[.slice A0 l0.length c0] w fun e w' => e = .returned (.int .i64 r) ∧ Below w.heap.size w w' := by
 have hu56 := Try.underlying56;have HR0 := Aside0.mk hr0;have HC0 := Aside0.mk hc0;clear hr0 hc0;have HB := A_ (Below.refl w.heap.size w);have H : ((solid_Check.f k l0).bind fun tq1 => (if tq1 = 0 then (if 0 ≤ (wrap64 ((l0.length : Int) - 1)) then (if (wrap64 ((l0.length : Int) - 1)) < (l0.length : Int) then ((shape_Diameter.f k ((rd_T58 l0 (wrap64 ((l0.length : Int) - 1))).f1.f0) ((rd_T58 l0 (wrap64 ((l0.length : Int) - 1))).f1.f1)).bind fun tq3 => (some tq3)) else (none)) else (none)) else (some 0))) = some r := h;clear h;replace H := Option.bind_eq_some_iff.mp H;obtain ⟨tq1, A20, H⟩ := H;replace H : (if tq1 = 0 then (if 0 ≤ (wrap64 ((l0.length : Int) - 1)) then (if (wrap64 ((l0.length : Int) - 1)) < (l0.length : Int) then ((shape_Diameter.f k ((rd_T58 l0 (wrap64 ((l0.length : Int) - 1))).f1.f0) ((rd_T58 l0 (wrap64 ((l0.length : Int) - 1))).f1.f1)).bind fun tq3 => (some tq3)) else (none)) else (none)) else (some 0)) = some r := H;have A2 := Aside0.mk A20;clear A20
 by_cases c3 : tq1 = 0
 ·rw [if_pos c3] at H;have c3b0 : (tq1 == 0) = true := beq_iff_eq.mpr c3;have c3b1 : (tq1 != 0) = false := bne_eq_false_iff_eq.mpr c3;clear c3;obtain ⟨ji4, hji4⟩ : ∃ j_ : Int, (wrap64 ((l0.length : Int) - 1)) = j_ := ⟨_, rfl⟩;(replace H : (if 0 ≤ (ji4) then (if (ji4) < (l0.length : Int) then ((shape_Diameter.f k ((rd_T58 l0 (ji4)).f1.f0) ((rd_T58 l0 (ji4)).f1.f1)).bind fun tq3 => (some tq3)) else (none)) else (none)) = some r := by first | (rw [hji4] at H; exact H) | (simp only [hji4] at H ⊢; exact H));(try rw [hji4] at A2);have hji4w : (IntKind.i64.wrap ((l0.length : Int) - 1)) = ji4 := (i64_w _).trans hji4
  by_cases c5 : 0 ≤ (ji4)
  ·rw [if_pos c5] at H;have c5b0 : decide (0 ≤ (ji4)) = true := decide_eq_true c5;clear c5
   by_cases c6 : (ji4) < (l0.length : Int)
   ·rw [if_pos c6] at H;have c6b0 : decide ((ji4) < (l0.length : Int)) = true := decide_eq_true c6;clear c6;replace H := Option.bind_eq_some_iff.mp H;obtain ⟨tq3, A70, H⟩ := H;replace H : (some tq3) = some r := H;have A7 := Aside0.mk A70;clear A70;obtain rfl := Option.some.inj H;go_enter Try.func43, Try.ntmps43;go_wp2_with (first | ((with_reducible refine gate_callee (f := 41) rfl ?_); refine goesL_ (some 4) rfl rfl Try.func41 (by kernel_rfl) rfl #[.slice A0 l0.length c0] rfl la_ ?_; (with_reducible refine (solid_Check.calls k _ _ l0 tq1 _ ?side1 ?side2 A2.out).mono ?_); (case side1 => exact csC_ HR0.out); (case side2 => exact HC0.out); rintro e w8 ⟨rfl, hb⟩; refine ⟨_, rfl, ?_⟩; replace HB := bA_ hb; (try clear hb); have pq2 : 0 ≤ ((ji4) : Int) := as_; have qq2 : (ji4) < (l0.length : Int) := as_; obtain ⟨adq2, Aq2_2, cq2_2, eq2, hxq2_0, hxq2_1, hxq2_2, hlq2_2, hiq2_2⟩ := at_T58 HR0.out (ji4) pq2 qq2; cases eq2; replace hxq2_0 := bc_ HB hxq2_0; replace hxq2_1 := bc_ HB hxq2_1; replace hxq2_2 := bc_ HB hxq2_2; have HRq2_2 := Aside0.mk hiq2_2; have HCq2_2 := Aside0.mk hlq2_2; clear hiq2_2 hlq2_2; replace pq2 := eq_true pq2; replace qq2 := eq_true qq2) | ((with_reducible refine gate_callee (f := 63) rfl ?_); refine goesL_ (some 13) rfl rfl Try.func63 (by kernel_rfl) rfl #[.agg #[.int .i64 ((rd_T58 l0 (ji4)).f1.f0), .slice Aq2_2 ((rd_T58 l0 (ji4)).f1.f1).length cq2_2]] rfl (by (try simp only [List.map_toArray, List.map_cons, List.map_nil]); first | done | (simp only [hji4]; rfl) | rfl | (simp only [List.length_drop, List.length_take]; rfl)) ?_; (with_reducible refine (shape_Diameter.calls k ((rd_T58 l0 (ji4)).f1.f0) _ _ ((rd_T58 l0 (ji4)).f1.f1) tq3 _ ?side1 ?side2 A7.out).mono ?_); (case side1 => exact csC_ ((Kd.C_below HRq2_2.out HB.out))); (case side2 => exact HCq2_2.out); rintro e w9 ⟨rfl, hb⟩; refine ⟨_, rfl, ?_⟩; replace HB := bA_ hb; (try clear hb)));go_ret;exact ⟨by first | rfl | (simp [errW_none, errW_some] <;> rfl) | (simp only [← hji4]; first | rfl | (simp [errW_none, errW_some] <;> rfl)) | (simp [*, errW_none, errW_some] <;> rfl), be_⟩
   ·rw [if_neg c6] at H;exact absurd H (by simp)
  ·rw [if_neg c5] at H;exact absurd H (by simp)
 ·rw [if_neg c3] at H;have c3b0 : (tq1 == 0) = false := beq_eq_false_iff_ne.mpr c3;have c3b1 : (tq1 != 0) = true := bne_iff_ne.mpr c3;obtain rfl := Option.some.inj H;go_enter Try.func43, Try.ntmps43;go_wp2_with (first | ((with_reducible refine gate_callee (f := 41) rfl ?_); refine goesL_ (some 4) rfl rfl Try.func41 (by kernel_rfl) rfl #[.slice A0 l0.length c0] rfl la_ ?_; (with_reducible refine (solid_Check.calls k _ _ l0 tq1 _ ?side1 ?side2 A2.out).mono ?_); (case side1 => exact csC_ HR0.out); (case side2 => exact HC0.out); rintro e w10 ⟨rfl, hb⟩; refine ⟨_, rfl, ?_⟩; replace HB := bA_ hb; (try clear hb)));go_ret;exact ⟨er_, be_⟩
end Go.Proofs.Ytdgbecllbldcaaa.P
end
