/- The common part of a span of a solid, and the section at a position. -/
import Derived.Test.YtboegckbilnldaaCSolidPartsV7
import Derived.Test.YtboegckbilnldaaCSolidPartsTCut
import Derived.Test.YtboegckbilnldaaCSolidPartsTRow
set_option linter.unusedVariables false
set_option linter.unusedSimpArgs false
namespace Go.Proofs.Ytboegckbilnldaa.P
open Go Go.RowKit Go.Proofs.YtboegckbilnldaaW.PrintWords Go.Proofs.YtboegckbilnldaaW.PrintLast Go.Proofs.YtboegckbilnldaaW.PrintMore
/-! ### Common -/
def secP (p : Prt) : Int × List Sp := (p.f1.f0, p.f1.f1)
def comP : List Prt → Bool → Int × List Sp → Int × List Sp
  | [], _, a => a
  | p :: r, b, a => comP r false (if b then secP p else meetV (validS a.1 a.2) (validS p.f1.f0 p.f1.f1))
theorem solid_Common_l0 {ps : List Prt} (ok : PartsOk ps) (hr : ∀ p ∈ ps, p.f1.f1.length ≤ 1000) : Ev (fun k => solid_Common.l0 k ps (ps.length : Int) 0 0 ([] : List Sp)) (comP ps true (0, [])) := by
  have hn := ok.len
  refine (Ev.list0 (σ := Bool × Int × List Sp) ps (fun k i s => solid_Common.l0 k ps (ps.length : Int) i s.2.1 s.2.2) (fun suf s => comP suf s.1 s.2) (fun i s => s.1 = decide (i = 0)) ?_ ?_ (true, 0, []) rfl)
  · rintro ⟨f, a, b⟩ _
    exact Ev.step (f := fun _ => some (a, b)) (fun k => by rw [solid_Common.l0, if_neg (by omega)]) (Ev.now _)
  · rintro i x suf ⟨f, a, b⟩ hf hi hx ih
    simp only at hf ⊢
    subst hf
    have hx2 := rdP_at hx
    have hm := List.mem_of_getElem? hx
    by_cases h0 : i = 0
    · have h1 : (i : Int) = 0 := by omega
      refine Ev.step (f := fun k => solid_Common.l0 k ps (ps.length : Int) ((i + 1 : Nat) : Int) x.f1.f0 x.f1.f1) (fun k => ?_) ?_
      · rw [solid_Common.l0, if_pos (by omega), if_pos (by omega), if_pos (by omega), if_pos h1, hx2, solid_copied_eq _ _ (hr x hm), Option.bind_some, wsucc hi (by omega)]
      · have := ih (false, secP x) (by simp)
        simpa [comP, h0, secP] using this
    · have h1 : ¬ (i : Int) = 0 := by omega
      refine Ev.step (fun k => by rw [solid_Common.l0, if_pos (by omega), if_pos (by omega), if_pos (by omega), if_neg h1, hx2]) ?_
      refine Ev.bind (section_Meet_ev _ _ _ _) ?_
      rw [wsucc hi (by omega)]
      have := ih (false, meetV (validS a b) (validS x.f1.f0 x.f1.f1)) (by simp)
      simpa [comP, h0] using this
theorem solid_Common_ev (l : List Slc) (z0 z1 : Int) : Ev (fun k => solid_Common.f k l z0 z1) (comP (partsS l z0 z1) true (0, [])) := by
  unfold solid_Common.f
  exact Ev.bind (solid_parts_ev l z0 z1) (solid_Common_l0 (partsS_ok l z0 z1) (partsS_rows l z0 z1))
theorem comP_in : ∀ (ps : List Prt) (b : Bool) (a : Int × List Sp), SecOk a.1 a.2 → (∀ p ∈ ps, SecOk p.f1.f0 p.f1.f1) → SecOk (comP ps b a).1 (comP ps b a).2 ∧ (b = false → InV (comP ps b a) a) ∧ ∀ p ∈ ps, InV (comP ps b a) (secP p)
  | [], b, a, ha, _ => ⟨ha, fun _ => InV.refl ha, fun p hp => by cases hp⟩
  | q :: r, b, a, ha, hp => by
    have hq := hp q (by simp)
    have hr : ∀ p ∈ r, SecOk p.f1.f0 p.f1.f1 := fun x hx => hp x (by simp [hx])
    simp only [comP]
    cases b
    · simp only [Bool.false_eq_true, if_false]
      rw [validS_of ha, validS_of hq]
      have m := meetV_ok ha hq
      have mi := meetV_in (a := (a.1, a.2)) (b := (q.f1.f0, q.f1.f1)) ha hq
      have ih := comP_in r false (meetV (a.1, a.2) (q.f1.f0, q.f1.f1)) m.1 hr
      have i2 := ih.2.1 (by trivial)
      refine ⟨ih.1, fun _ => i2.trans mi.1, fun p hm => ?_⟩
      rcases List.mem_cons.1 hm with e | hm
      · subst e; exact i2.trans mi.2
      · exact ih.2.2 p hm
    · simp only [if_true]
      have ih := comP_in r false (secP q) hq hr
      refine ⟨ih.1, fun h => absurd h (by decide), fun p hm => ?_⟩
      rcases List.mem_cons.1 hm with e | hm
      · subst e; exact ih.2.1 (by trivial)
      · exact ih.2.2 p hm
/-! ### At -/
def atL : List Slc → Int → Int → Int × List Sp × Bool
  | [], _, _ => (0, [], false)
  | s :: r, p, a => if p ≤ a ∧ a < p + s.f0 then (s.f1.f0, s.f1.f1, true) else atL r (p + s.f0) a
def atP : List Prt → Int → Int × List Sp × Bool
  | [], _ => (0, [], false)
  | q :: r, a => if q.f0.f0 ≤ a ∧ a < q.f0.f1 then (q.f1.f0, q.f1.f1, true) else atP r a
theorem solid_At_l0 {ps : List Prt} (ok : PartsOk ps) (hr : ∀ p ∈ ps, p.f1.f1.length ≤ 1000) (a : Int) : Ev (fun k => solid_At.l0 k a ps (ps.length : Int) 0) (atP ps a) := by
  have hn := ok.len
  refine (Ev.list0 (σ := Unit) ps (fun k i _ => solid_At.l0 k a ps (ps.length : Int) i) (fun suf _ => atP suf a) (fun _ _ => True) ?_ ?_ () trivial)
  · intro s _
    exact Ev.step (f := fun _ => some (0, [], false)) (fun k => by rw [solid_At.l0, if_neg (by omega)]) (Ev.now _)
  · intro i x suf s _ hi hx ih
    have hx2 := rdP_at hx
    have hm := List.mem_of_getElem? hx
    simp only [atP]
    by_cases h1 : x.f0.f0 ≤ a
    · by_cases h2 : a < x.f0.f1
      · rw [if_pos ⟨h1, h2⟩]
        refine Ev.step (f := fun _ => some (x.f1.f0, x.f1.f1, true)) (fun k => ?_) (Ev.now _)
        rw [solid_At.l0, if_pos (by omega), if_pos (by omega), if_pos (by omega), hx2, if_pos h1, if_pos h2, solid_copied_eq _ _ (hr x hm), Option.bind_some]
      · rw [if_neg (by omega)]
        refine Ev.step (fun k => by rw [solid_At.l0, if_pos (by omega), if_pos (by omega), if_pos (by omega), hx2, if_pos h1, if_neg h2, wsucc hi (by omega)]) (ih () trivial)
    · rw [if_neg (by omega)]
      refine Ev.step (fun k => by rw [solid_At.l0, if_pos (by omega), if_pos (by omega), if_pos (by omega), hx2, if_neg h1, wsucc hi (by omega)]) (ih () trivial)
theorem solid_At_ev (l : List Slc) (a : Int) : Ev (fun k => solid_At.f k l a) (atP (partsS l 0 20000) a) := by
  unfold solid_At.f solid_whole.f
  simp only [Option.bind_some]
  exact Ev.bind (solid_parts_ev l 0 20000) (solid_At_l0 (partsS_ok l 0 20000) (partsS_rows l 0 20000) a)
theorem atP_all : ∀ (l : List Slc) (p a : Int), atP (allP l p) a = atL l p a
  | [], _, _ => rfl
  | s :: r, p, a => by simp only [allP, atP, atL]; rw [atP_all r]
/-! ### a section is the same as itself -/
theorem same_self (low : Int) (rows : List Sp) (h : rows.length ≤ 1000) : Ev (fun k => sawmillref11_SameSection.f k low rows low rows) true := by
  unfold sawmillref11_SameSection.f
  simp only [if_true, bne_self_eq_false]
  refine Ev.step (f := fun k => sawmillref11_SameSection.l0 k 0 low rows low rows) (fun k => by rw [sawmillref11_SameSection.j0, if_neg (by decide)]) ?_
  refine (Ev.list0 (σ := Unit) rows (fun k i _ => sawmillref11_SameSection.l0 k i low rows low rows) (fun _ _ => true) (fun _ _ => True) ?_ ?_ () trivial)
  · intro s _
    exact Ev.step (f := fun _ => some true) (fun k => by rw [sawmillref11_SameSection.l0, if_neg (by omega)]) (Ev.now _)
  · intro i x suf s _ hi hx ih
    refine Ev.step (fun k => ?_) (ih () trivial)
    rw [sawmillref11_SameSection.l0, if_pos (by omega), if_pos (by omega), if_pos (by omega), if_neg (by simp), wsucc hi (by omega)]
end Go.Proofs.Ytboegckbilnldaa.P
