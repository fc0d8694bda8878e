/- Functions of the program: what each computes, and that the call computes it; conditions: the fuel that the plain function asks for. -/
import Derived.Test.YtboegckbilnldaaCSolidCutV5
import Derived.ChangeSlices
import Derived.ChangeSame
section
namespace Go.Proofs.Ytboegckbilnldaa.P
open Go Go.RowKit Go.Proofs.YtboegckbilnldaaW.PrintWords Go.Proofs.YtboegckbilnldaaW.PrintLast Go.Proofs.YtboegckbilnldaaW.PrintMore
def Opens {α : Type} (P : Program) (d : Kd α) (t : TypeId) (ok : α → Prop) : Prop :=
 ∀ (H : Type) (enc : TypeId × Value → H) (w : World) (base : Nat) (spare : Nat → Bool) (held : Bool) (fuel : Nat) (cs : List Value) (x : DataW H × List MemPlace),
  DataW.trod enc P w base spare held fuel t cs = some x → ∃ v, d.K w v cs ∧ ok v
theorem opens_int {P : Program} {t : TypeId} {k : IntKind} (ht : P.underlying t = some (.int k)) : Opens P (Kd.int k) t (fun n => (Lit.int k n).wf = true) := by
 intro H enc w base spare held fuel cs x h;obtain ⟨n, rfl, _, hw⟩ := DataW.trod_int ht h;exact ⟨n, rfl, hw⟩
theorem opens_string {P : Program} {t : TypeId} (ht : P.underlying t = some .string) : Opens P Kd.string t (fun s => s.size ≤ maxLen) := by
 intro H enc w base spare held fuel cs x h;obtain ⟨n, rfl, _, hw⟩ := DataW.trod_string ht h;exact ⟨n, rfl, hw⟩
theorem opens_slice {α : Type} {P : Program} {d : Kd α} {t e : TypeId} {ok : α → Prop} (e' : Nat) (ht : P.underlying t = some (.slice e)) (hc : P.cellsOf e = d.sz) (hd : Opens P d e ok) :
  Opens P (Kd.slice e' d) t (fun xs => (∀ x ∈ xs, ok x) ∧ xs.length ≤ maxLen) := by
 intro H enc w base spare held fuel cs x h
 rcases DataW.trod_slice ht h with ⟨rfl, _⟩ | ⟨a, len, cap, elems, rest, n, _, rfl, _, hb, hl, hm, hlen, hel, _, _⟩
 ·exact ⟨[], ⟨none, 0, rfl, Nat.le_refl _, rfl, by simp, fun h => absurd h (by simp)⟩, by simp, by simp⟩
 ·have key : ∀ m, m ≤ len → ∃ xs : List α, xs.length = m ∧ ∀ j p, xs[j]? = some p → ∃ c, w.cells? base (a.add (j * d.sz)) d.sz = some c ∧ d.K w p c ∧ ok p := by
   intro m
   induction m with
   | zero => exact fun _ => ⟨[], rfl, fun j p h => by simp at h⟩
   | succ m ih =>
    intro hm;obtain ⟨xs, hx, hp⟩ := ih (by omega);have h1 := hel m (by omega);rw [List.getElem?_eq_getElem (by omega), hc, Option.bind_eq_some_iff] at h1;obtain ⟨c, hcs, ht⟩ := h1;obtain ⟨v, hk, ho⟩ := hd H enc w base spare held n c _ ht;refine ⟨xs ++ [v], by simp [hx], fun j p h => ?_⟩
    rcases Nat.lt_or_ge j m with hj | hj
    ·rw [List.getElem?_append_left (by omega)] at h;exact hp j p h
    ·have : j = m := by
      have := (List.getElem?_eq_some_iff.1 h).1;simp at this
      omega
     subst this;rw [List.getElem?_append_right (by omega), hx] at h;simp at h;subst h;exact ⟨c, hcs, hk, ho⟩
  obtain ⟨xs, hx, hp⟩ := key len (Nat.le_refl _);have hlm : len ≤ maxLen := Nat.le_trans hl hm;refine ⟨xs, ⟨some a, cap, by rw [hx], by omega, ?_⟩, fun x hxm => ?_, by omega⟩
  ·refine ⟨rfl, by unfold maxLen at hlm; omega, fun _ => ⟨a, rfl, fun j p h => ?_⟩⟩;obtain ⟨c, hcs, hk, _⟩ := hp j p h;have h3 := World.cells?_some hcs;refine ⟨c, d.K_len hk, hk, fun i u hu => ?_⟩;have hi := (List.getElem?_eq_some_iff.1 hu).1;have h4 := h3.2.2 i (by have := d.K_len hk; omega);rw [hu] at h4;rw [← add_add];exact h4
  ·obtain ⟨j, hj⟩ := List.getElem?_of_mem hxm;exact (hp j x hj).choose_spec.2.2
theorem opens_iso {α β : Type} {P : Program} {d : Kd α} {t : TypeId} {ok : α → Prop} {f : β → α} (g : α → β) (hg : ∀ x, f (g x) = x) (hd : Opens P d t ok) : Opens P (Kd.iso d f) t (fun y => ok (f y)) := by
 intro H enc w base spare held fuel cs x h;obtain ⟨v, hk, ho⟩ := hd H enc w base spare held fuel cs x h;exact ⟨g v, by show d.K w (f (g v)) cs; rw [hg]; exact hk, by show ok (f (g v)); rw [hg]; exact ho⟩
def OpensF {α : Type} (P : Program) (d : Kd α) (fs : List Field) (o tot : Nat) (ok : α → Prop) : Prop :=
 ∀ (H : Type) (enc : TypeId × Value → H) (w : World) (base : Nat) (spare : Nat → Bool) (held : Bool) (n : Nat) (cs : List Value), cs.length = tot →
  (∀ f ∈ fs, ∃ y, DataW.trod enc P w base spare held n f.type ((cs.drop f.offset).take (P.cellsOf f.type)) = some y) → ∃ v, d.K w v (cs.drop o) ∧ ok v
theorem opensF_last {α : Type} {P : Program} {d : Kd α} {f : Field} {o tot k : Nat} {ok : α → Prop} (ho : f.offset = o) (hk : P.cellsOf f.type = k) (ht : tot ≤ o + k) (hd : Opens P d f.type ok) : OpensF P d [f] o tot ok := by
 intro H enc w base spare held n cs hl hf;obtain ⟨y, hy⟩ := hf f (by simp);rw [ho, hk, List.take_of_length_le (by simp; omega)] at hy;exact hd H enc w base spare held n _ _ hy
theorem opensF_cons {α β : Type} {P : Program} {d : Kd α} {d2 : Kd β} {f : Field} {fs : List Field} {o tot k : Nat} {ok : α → Prop} {ok2 : β → Prop} (ho : f.offset = o) (hk : P.cellsOf f.type = k) (hd : Opens P d f.type ok) (hr : OpensF P d2 fs (o + k) tot ok2) :
  OpensF P (Kd.pair d d2) (f :: fs) o tot (fun x => ok x.1 ∧ ok2 x.2) := by
 intro H enc w base spare held n cs hl hf;obtain ⟨y, hy⟩ := hf f (by simp);rw [ho, hk] at hy;obtain ⟨v, hv, ov⟩ := hd H enc w base spare held n _ _ hy;obtain ⟨u, hu, ou⟩ := hr H enc w base spare held n cs hl (fun g hg => hf g (by simp [hg]));refine ⟨(v, u), ⟨_, _, ?_, hv, hu⟩, ov, ou⟩;rw [← List.drop_drop, List.take_append_drop]
theorem opens_struct {α : Type} {P : Program} {d : Kd α} {t : TypeId} {fs : Array Field} {l : List Field} {tot : Nat} {ok : α → Prop} (ht : P.underlying t = some (.struct fs)) (hl : fs.toList = l) (hc : P.cellsOf t = tot) (hF : OpensF P d l 0 tot ok) : Opens P d t ok := by
 intro H enc w base spare held fuel cs x h;obtain ⟨xs, n, _, _, hlen, hxl, hf⟩ := DataW.trod_struct ht h
 have := hF H enc w base spare held n cs (by rw [hlen, hc]) (fun f hm => by
  rw [← hl] at hm;obtain ⟨i, hi⟩ := List.getElem?_of_mem hm;have h1 := hf i f (by simpa using hi)
  have hi2 : i < xs.length := by
   have := (List.getElem?_eq_some_iff.1 hi).1;simp at this
   omega
  rw [List.getElem?_eq_getElem hi2] at h1;exact ⟨_, h1⟩)
 simpa using this
def W29 (x : S29) : Prop := ((Lit.int .i64 x.f0).wf = true) ∧ ((Lit.int .i64 x.f1).wf = true)
theorem o29 : Opens Try.prog k29 29 W29 := opens_iso (f := fun x : S29 => (x.f0, x.f1)) (fun p => ⟨p.1, p.2⟩) (fun _ => rfl) (opens_struct (tot := 2) Try.underlying29 rfl (by kernel_rfl) (opensF_cons (o := 0) (tot := 2) (k := 1) rfl (by kernel_rfl) (opens_int Try.underlying3) (opensF_last (o := 1) (tot := 2) (k := 1) rfl (by kernel_rfl) (by decide) (opens_int Try.underlying3))))
def W36 (x : S36) : Prop := ((Lit.int .i64 x.f0).wf = true) ∧ ((∀ x_ ∈ x.f1, W29 x_) ∧ x.f1.length ≤ maxLen)
theorem o36 : Opens Try.prog k36 36 W36 := opens_iso (f := fun x : S36 => (x.f0, x.f1)) (fun p => ⟨p.1, p.2⟩) (fun _ => rfl) (opens_struct (tot := 2) Try.underlying36 rfl (by kernel_rfl) (opensF_cons (o := 0) (tot := 2) (k := 1) rfl (by kernel_rfl) (opens_int Try.underlying3) (opensF_last (o := 1) (tot := 2) (k := 1) rfl (by kernel_rfl) (by decide) (opens_slice (α := S29) 29 Try.underlying34 (by kernel_rfl) o29))))
def W60 (x : S60) : Prop := ((Lit.int .i64 x.f0).wf = true) ∧ (W36 x.f1)
theorem o60 : Opens Try.prog k60 60 W60 := opens_iso (f := fun x : S60 => (x.f0, x.f1)) (fun p => ⟨p.1, p.2⟩) (fun _ => rfl) (opens_struct (tot := 3) Try.underlying60 rfl (by kernel_rfl) (opensF_cons (o := 0) (tot := 3) (k := 1) rfl (by kernel_rfl) (opens_int Try.underlying3) (opensF_last (o := 1) (tot := 3) (k := 2) rfl (by kernel_rfl) (by decide) o36)))
def W31 (x : S31) : Prop := (W29 x.f0) ∧ (W29 x.f1) ∧ (W29 x.f2)
theorem o31 : Opens Try.prog k31 31 W31 := opens_iso (f := fun x : S31 => (x.f0, x.f1, x.f2)) (fun p => ⟨p.1, p.2.1, p.2.2⟩) (fun _ => rfl) (opens_struct (tot := 6) Try.underlying31 rfl (by kernel_rfl) (opensF_cons (o := 0) (tot := 6) (k := 2) rfl (by kernel_rfl) o29 (opensF_cons (o := 2) (tot := 6) (k := 2) rfl (by kernel_rfl) o29 (opensF_last (o := 4) (tot := 6) (k := 2) rfl (by kernel_rfl) (by decide) o29))))
def W47 (x : S47) : Prop := (W29 x.f0) ∧ (W29 x.f1)
theorem o47 : Opens Try.prog k47 47 W47 := opens_iso (f := fun x : S47 => (x.f0, x.f1)) (fun p => ⟨p.1, p.2⟩) (fun _ => rfl) (opens_struct (tot := 4) Try.underlying47 rfl (by kernel_rfl) (opensF_cons (o := 0) (tot := 4) (k := 2) rfl (by kernel_rfl) o29 (opensF_last (o := 2) (tot := 4) (k := 2) rfl (by kernel_rfl) (by decide) o29)))
def W54 (x : S54) : Prop := ((Lit.int .i64 x.f0).wf = true) ∧ (W47 x.f1)
theorem o54 : Opens Try.prog k54 54 W54 := opens_iso (f := fun x : S54 => (x.f0, x.f1)) (fun p => ⟨p.1, p.2⟩) (fun _ => rfl) (opens_struct (tot := 5) Try.underlying54 rfl (by kernel_rfl) (opensF_cons (o := 0) (tot := 5) (k := 1) rfl (by kernel_rfl) (opens_int Try.underlying3) (opensF_last (o := 1) (tot := 5) (k := 4) rfl (by kernel_rfl) (by decide) o47)))
end Go.Proofs.Ytboegckbilnldaa.P
end
