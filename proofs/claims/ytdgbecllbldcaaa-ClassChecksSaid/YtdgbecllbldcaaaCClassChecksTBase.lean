/- Plain words: rounds of printed loops over lists; whole numbers that do not wrap. -/
import Derived.Test.YtdgbecllbldcaaaCClassChecksV5
set_option linter.unusedVariables false
set_option linter.unusedSimpArgs false
namespace Go.Proofs.Ytdgbecllbldcaaa.P
open Go Go.RowKit Go.Proofs.YtdgbecllbldcaaaW.PrintWords Go.Proofs.YtdgbecllbldcaaaW.PrintLast Go.Proofs.YtdgbecllbldcaaaW.PrintMore
theorem w64 {n : Int} (h1 : -9223372036854775808 ≤ n) (h2 : n ≤ 9223372036854775807) : wrap64 n = n := by
  unfold wrap64
  omega
theorem wsucc {i n : Nat} (h : i < n) (hn : n ≤ 9223372036854775807) : wrap64 ((i : Int) + 1) = ((i + 1 : Nat) : Int) := by
  rw [w64 (by omega) (by omega)]
  rfl
theorem evEq {α : Type} {g : Nat → Option α} {r r' : α} (h : Ev g r) (e : r = r') : Ev g r' := e ▸ h
/-- A loop over a list, from place i on: the state has a property that each round keeps. -/
theorem Ev.list {σ ρ α : Type} (xs : List α) (l : Nat → Int → σ → Option ρ) (spec : List α → σ → ρ) (P : Nat → σ → Prop)
    (hnil : ∀ s, P xs.length s → Ev (fun k => l k (xs.length : Int) s) (spec [] s))
    (hcons : ∀ (i : Nat) (x : α) (suf : List α) (s : σ), P i s → i < xs.length → xs[i]? = some x → (∀ s', P (i + 1) s' → Ev (fun k => l k ((i + 1 : Nat) : Int) s') (spec suf s')) → Ev (fun k => l k (i : Int) s) (spec (x :: suf) s)) :
    ∀ (d i : Nat) (s : σ), xs.length - i = d → i ≤ xs.length → P i s → Ev (fun k => l k (i : Int) s) (spec (xs.drop i) s) := by
  intro d
  induction d with
  | zero =>
    intro i s hd hi hp
    have : i = xs.length := by omega
    subst this
    rw [List.drop_length]
    exact hnil s hp
  | succ d ih =>
    intro i s hd hi hp
    have hlt : i < xs.length := by omega
    rw [List.drop_eq_getElem_cons hlt]
    exact hcons i _ _ s hp hlt (List.getElem?_eq_getElem hlt) (fun s' hs' => ih (i + 1) s' (by omega) (by omega) hs')
theorem Ev.list0 {σ ρ α : Type} (xs : List α) (l : Nat → Int → σ → Option ρ) (spec : List α → σ → ρ) (P : Nat → σ → Prop)
    (hnil : ∀ s, P xs.length s → Ev (fun k => l k (xs.length : Int) s) (spec [] s))
    (hcons : ∀ (i : Nat) (x : α) (suf : List α) (s : σ), P i s → i < xs.length → xs[i]? = some x → (∀ s', P (i + 1) s' → Ev (fun k => l k ((i + 1 : Nat) : Int) s') (spec suf s')) → Ev (fun k => l k (i : Int) s) (spec (x :: suf) s)) (s : σ) (hp : P 0 s) :
    Ev (fun k => l k 0 s) (spec xs s) := by
  have := Ev.list xs l spec P hnil hcons _ 0 s rfl (Nat.zero_le _) hp
  simpa using this
theorem mx_eq (a b : Int) : mx a b = max a b := by unfold mx; omega
theorem mn_eq (a b : Int) : mn a b = min a b := by unfold mn; omega
end Go.Proofs.Ytdgbecllbldcaaa.P
