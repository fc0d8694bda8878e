/- Cuts and bounds of solids; volumes in boxes are additive, grow with the box and are bounded by it. -/
import Derived.Test.YtboegckbilnldaaCSolidPartsV7
import Derived.Test.YtboegckbilnldaaCSolidPartsTWit
set_option linter.unusedVariables false
set_option linter.unusedSimpArgs false
namespace Go.Proofs.Ytboegckbilnldaa.P
open Go Go.RowKit Go.Proofs.YtboegckbilnldaaW.PrintWords Go.Proofs.YtboegckbilnldaaW.PrintLast Go.Proofs.YtboegckbilnldaaW.PrintMore
/-- One rectangle lies in another. -/
def InB (a b : Int × Int × Int × Int) : Prop := b.1 ≤ a.1 ∧ a.2.1 ≤ b.2.1 ∧ b.2.2.1 ≤ a.2.2.1 ∧ a.2.2.2 ≤ b.2.2.2
theorem InB.trans {a b c : Int × Int × Int × Int} (h : InB a b) (g : InB b c) : InB a c := by unfold InB at *; omega
/-! ### cuts -/
def cutP (ps : List Prt) : List Slc := ps.map fun p => ⟨p.f0.f1 - p.f0.f0, p.f1⟩
theorem solid_copied_eq (low : Int) (rows : List Sp) (h : rows.length ≤ 1000) : solid_copied.f low rows = some (low, rows) := by
  unfold solid_copied.f api_Span.f
  simp only [Option.bind_some, List.length_nil, List.nil_append]
  rw [if_pos (by omega), Option.bind_some]
theorem solid_Cut_l0 {ps : List Prt} (ok : PartsOk ps) (hr : ∀ p ∈ ps, p.f1.f1.length ≤ 1000) : Ev (fun k => solid_Cut.l0 k ([] : List Slc) ps (ps.length : Int) 0) (cutP ps) := by
  have hn := ok.len
  refine evEq (Ev.list0 (σ := List Slc) ps (fun k i s => solid_Cut.l0 k s ps (ps.length : Int) i) (fun suf s => s ++ cutP suf) (fun i s => s.length = i) ?_ ?_ [] rfl) (by simp)
  · intro s _
    exact Ev.step (f := fun _ => some s) (fun k => by rw [solid_Cut.l0, if_neg (by omega)]) (evEq (Ev.now _) (by simp [cutP]))
  · intro i x suf s hs hi hx ih
    have hx2 := rdP_at hx
    have hm := List.mem_of_getElem? hx
    have hp := ok.each x hm
    refine Ev.step (f := fun k => solid_Cut.l0 k (s ++ [⟨x.f0.f1 - x.f0.f0, x.f1⟩]) ps (ps.length : Int) ((i + 1 : Nat) : Int)) (fun k => ?_) (evEq (ih _ (by simp [hs])) (by simp [cutP]))
    rw [solid_Cut.l0, if_pos (by omega), if_pos (by omega), if_pos (by omega), hx2, solid_copied_eq _ _ (hr x hm), Option.bind_some, if_pos (by omega), wsucc hi (by omega), w64 (by omega) (by omega)]
theorem partsL_sec {z0 z1 : Int} : ∀ (l : List Slc) (p : Int), ∀ q ∈ partsL z0 z1 l p, (∃ s ∈ l, q.f1 = s.f1) ∧ q.f0.f0 < q.f0.f1
  | [], p => by intro q hq; cases hq
  | s :: r, p => by
    have ih := partsL_sec (z0 := z0) (z1 := z1) r (p + s.f0)
    intro q hq
    simp only [partsL] at hq
    split at hq
    · rcases List.mem_cons.1 hq with e | hq
      · subst e; exact ⟨⟨s, by simp, rfl⟩, by simp only; omega⟩
      · obtain ⟨⟨t, ht, e⟩, h⟩ := ih q hq; exact ⟨⟨t, by simp [ht], e⟩, h⟩
    · obtain ⟨⟨t, ht, e⟩, h⟩ := ih q hq; exact ⟨⟨t, by simp [ht], e⟩, h⟩
theorem partsS_rows (l : List Slc) (z0 z1 : Int) : ∀ p ∈ partsS l z0 z1, p.f1.f1.length ≤ 1000 := by
  unfold partsS
  by_cases h : solChk l = 0
  · have ok := (solOk_iff l).1 h
    rw [if_pos h]
    intro p hp
    obtain ⟨⟨s, hs, e⟩, _⟩ := partsL_sec l 0 p hp
    have := (secOk_of (ok.sec s hs)).len
    rw [e]
    omega
  · rw [if_neg h]
    intro p hp
    cases hp
def cutS (l : List Slc) (z0 z1 : Int) : List Slc := cutP (partsS l z0 z1)
theorem solid_Cut_ev (l : List Slc) (z0 z1 : Int) : Ev (fun k => solid_Cut.f k l z0 z1) (cutS l z0 z1) := by
  unfold solid_Cut.f
  exact Ev.bind (solid_parts_ev l z0 z1) (solid_Cut_l0 (partsS_ok l z0 z1) (partsS_rows l z0 z1))
end Go.Proofs.Ytboegckbilnldaa.P
