/- Cuts and bounds of solids; volumes in boxes are additive, grow with the box and are bounded by it. -/
import Derived.Test.YtboegckbilnldaaCSolidCutV6
import Derived.Test.YtboegckbilnldaaCSolidCutTWit
set_option linter.unusedVariables false
set_option linter.unusedSimpArgs false
namespace Go.Proofs.Ytboegckbilnldaa.P
open Go Go.RowKit Go.Proofs.YtboegckbilnldaaW.PrintWords Go.Proofs.YtboegckbilnldaaW.PrintLast Go.Proofs.YtboegckbilnldaaW.PrintMore
theorem ov_add' {c m d : Int} (a b : Int) (h1 : c ≤ m) (h2 : m ≤ d) : ov a b c m + ov a b m d = ov a b c d := by unfold ov; omega
theorem witZ_range {l : List Slc} (x0 x1 y0 y1 z0 z1 : Int) : ∀ (l : List Slc) (p : Int), (∀ s ∈ l, 1 ≤ s.f0) → 0 ≤ witZ x0 x1 y0 y1 z0 z1 l p ∧ witZ x0 x1 y0 y1 z0 z1 l p ≤ 1440000 * sumZ l
  | [], _, _ => by simp [witZ, sumZ]
  | s :: r, p, h => by
    have hs := h s (by simp)
    have ih := witZ_range (l := l) x0 x1 y0 y1 z0 z1 r (p + s.f0) (fun x hx => h x (by simp [hx]))
    have m := prod_range (ov_range (a := p) (b := p + s.f0) z0 z1 (n := s.f0) (by omega) (by omega)) (witS_range s.f1.f0 s.f1.f1 x0 x1 y0 y1)
    simp only [witZ, sumZ]
    omega
theorem witB_range (l : List Slc) (x0 x1 y0 y1 z0 z1 : Int) : 0 ≤ witB l x0 x1 y0 y1 z0 z1 ∧ witB l x0 x1 y0 y1 z0 z1 ≤ 28800000000 := by
  unfold witB
  by_cases h : solChk l = 0
  · rw [if_pos h]
    have ok := (solOk_iff l).1 h
    have := witZ_range (l := l) x0 x1 y0 y1 z0 z1 l 0 ok.pos
    have := ok.sum
    omega
  · rw [if_neg h]; omega
/-! ### additivity -/
theorem witZ_addz {z0 m z1 : Int} (x0 x1 y0 y1 : Int) (h1 : z0 ≤ m) (h2 : m ≤ z1) : ∀ (l : List Slc) (p : Int), witZ x0 x1 y0 y1 z0 m l p + witZ x0 x1 y0 y1 m z1 l p = witZ x0 x1 y0 y1 z0 z1 l p
  | [], _ => by simp [witZ]
  | s :: r, p => by
    have ih := witZ_addz x0 x1 y0 y1 h1 h2 r (p + s.f0)
    simp only [witZ]
    rw [← ov_add' p (p + s.f0) h1 h2, Int.add_mul]
    omega
theorem witL_addx {x0 m x1 : Int} (y0 y1 : Int) (h1 : x0 ≤ m) (h2 : m ≤ x1) : ∀ (rs : List Sp) (j : Int), witL x0 m y0 y1 rs j + witL m x1 y0 y1 rs j = witL x0 x1 y0 y1 rs j
  | [], _ => by simp [witL]
  | r :: rs, j => by
    have ih := witL_addx y0 y1 h1 h2 rs (j + 1)
    simp only [witL]
    rw [← ov_add' r.f0 r.f1 h1 h2, Int.add_mul]
    omega
theorem witL_addy {y0 m y1 : Int} (x0 x1 : Int) (h1 : y0 ≤ m) (h2 : m ≤ y1) : ∀ (rs : List Sp) (j : Int), witL x0 x1 y0 m rs j + witL x0 x1 m y1 rs j = witL x0 x1 y0 y1 rs j
  | [], _ => by simp [witL]
  | r :: rs, j => by
    have ih := witL_addy x0 x1 h1 h2 rs (j + 1)
    simp only [witL]
    rw [← ov_add' (10 * j) (10 * j + 10) h1 h2, Int.mul_add]
    omega
theorem witZ_addx {x0 m x1 : Int} (y0 y1 z0 z1 : Int) (h1 : x0 ≤ m) (h2 : m ≤ x1) : ∀ (l : List Slc) (p : Int), witZ x0 m y0 y1 z0 z1 l p + witZ m x1 y0 y1 z0 z1 l p = witZ x0 x1 y0 y1 z0 z1 l p
  | [], _ => by simp [witZ]
  | s :: r, p => by
    have ih := witZ_addx y0 y1 z0 z1 h1 h2 r (p + s.f0)
    simp only [witZ]
    unfold witS
    rw [← witL_addx y0 y1 h1 h2, Int.mul_add]
    unfold witS at ih
    omega
theorem witZ_addy {y0 m y1 : Int} (x0 x1 z0 z1 : Int) (h1 : y0 ≤ m) (h2 : m ≤ y1) : ∀ (l : List Slc) (p : Int), witZ x0 x1 y0 m z0 z1 l p + witZ x0 x1 m y1 z0 z1 l p = witZ x0 x1 y0 y1 z0 z1 l p
  | [], _ => by simp [witZ]
  | s :: r, p => by
    have ih := witZ_addy x0 x1 z0 z1 h1 h2 r (p + s.f0)
    simp only [witZ]
    unfold witS
    rw [← witL_addy x0 x1 h1 h2, Int.mul_add]
    unfold witS at ih
    omega
theorem witB_addz (l : List Slc) {z0 m z1 : Int} (x0 x1 y0 y1 : Int) (h1 : z0 ≤ m) (h2 : m ≤ z1) : witB l x0 x1 y0 y1 z0 m + witB l x0 x1 y0 y1 m z1 = witB l x0 x1 y0 y1 z0 z1 := by
  unfold witB; split
  · exact witZ_addz x0 x1 y0 y1 h1 h2 l 0
  · rfl
theorem witB_addx (l : List Slc) {x0 m x1 : Int} (y0 y1 z0 z1 : Int) (h1 : x0 ≤ m) (h2 : m ≤ x1) : witB l x0 m y0 y1 z0 z1 + witB l m x1 y0 y1 z0 z1 = witB l x0 x1 y0 y1 z0 z1 := by
  unfold witB; split
  · exact witZ_addx y0 y1 z0 z1 h1 h2 l 0
  · rfl
theorem witB_addy (l : List Slc) {y0 m y1 : Int} (x0 x1 z0 z1 : Int) (h1 : y0 ≤ m) (h2 : m ≤ y1) : witB l x0 x1 y0 m z0 z1 + witB l x0 x1 m y1 z0 z1 = witB l x0 x1 y0 y1 z0 z1 := by
  unfold witB; split
  · exact witZ_addy x0 x1 z0 z1 h1 h2 l 0
  · rfl
/-! ### bounds -/
def joinB (a b : Int × Int × Int × Int) : Int × Int × Int × Int := (mn a.1 b.1, mx a.2.1 b.2.1, mn a.2.2.1 b.2.2.1, mx a.2.2.2 b.2.2.2)
/-- The bounds of parts: the first begins, the others widen. -/
def bndP : List Prt → Bool → Int × Int × Int × Int → Int × Int × Int × Int
  | [], _, a => a
  | p :: r, b, a => bndP r false (if b then bndS p.f1.f0 p.f1.f1 else joinB a (bndS p.f1.f0 p.f1.f1))
theorem solid_Bounds_l0 {ps : List Prt} (ok : PartsOk ps) : Ev (fun k => solid_Bounds.l0 k ps (ps.length : Int) 0 0 0 0 0) (bndP ps true (0, 0, 0, 0)) := by
  have hn := ok.len
  refine (Ev.list0 (σ := Bool × Int × Int × Int × Int) ps (fun k i s => solid_Bounds.l0 k ps (ps.length : Int) i s.2.1 s.2.2.1 s.2.2.2.1 s.2.2.2.2) (fun suf s => bndP suf s.1 s.2) (fun i s => s.1 = decide (i = 0)) ?_ ?_ (true, 0, 0, 0, 0) rfl)
  · rintro ⟨f, a, b, c, d⟩ _
    exact Ev.step (f := fun _ => some (a, b, c, d)) (fun k => by rw [solid_Bounds.l0, if_neg (by omega)]) (Ev.now _)
  · rintro i x suf ⟨f, a, b, c, d⟩ hf hi hx ih
    simp only at hf ⊢
    subst hf
    have hr := rdP_at hx
    refine Ev.step (fun k => by rw [solid_Bounds.l0, if_pos (by omega), if_pos (by omega), if_pos (by omega), hr]) ?_
    refine Ev.bind (section_Bounds_ev _ _) ?_
    rw [wsucc hi (by omega)]
    by_cases h0 : i = 0
    · have h1 : (i : Int) = 0 := by omega
      simp only [if_pos h1]
      have := ih (false, bndS x.f1.f0 x.f1.f1) (by simp)
      simpa [bndP, h0] using this
    · have h1 : ¬ (i : Int) = 0 := by omega
      simp only [if_neg h1]
      have := ih (false, joinB (a, b, c, d) (bndS x.f1.f0 x.f1.f1)) (by simp)
      simpa [bndP, h0, joinB] using this
def bndA (l : List Slc) : Int × Int × Int × Int := bndP (partsS l 0 20000) true (0, 0, 0, 0)
theorem solid_Bounds_ev (l : List Slc) : Ev (fun k => solid_Bounds.f k l) (bndA l) := by
  unfold solid_Bounds.f solid_whole.f
  simp only [Option.bind_some]
  exact Ev.bind (solid_parts_ev l 0 20000) (solid_Bounds_l0 (partsS_ok l 0 20000))
/-- One rectangle lies in another. -/
def InB (a b : Int × Int × Int × Int) : Prop := b.1 ≤ a.1 ∧ a.2.1 ≤ b.2.1 ∧ b.2.2.1 ≤ a.2.2.1 ∧ a.2.2.2 ≤ b.2.2.2
theorem InB.trans {a b c : Int × Int × Int × Int} (h : InB a b) (g : InB b c) : InB a c := by unfold InB at *; omega
theorem joinB_in (a b : Int × Int × Int × Int) : InB a (joinB a b) ∧ InB b (joinB a b) := by unfold InB joinB; simp only [mx_eq, mn_eq]; omega
theorem bndP_in : ∀ (ps : List Prt) (b : Bool) (a : Int × Int × Int × Int), (b = false → InB a (bndP ps b a)) ∧ ∀ p ∈ ps, InB (bndS p.f1.f0 p.f1.f1) (bndP ps b a)
  | [], b, a => ⟨fun _ => by simp only [bndP]; unfold InB; omega, fun p hp => by cases hp⟩
  | q :: r, b, a => by
    have ih := bndP_in r false (if b then bndS q.f1.f0 q.f1.f1 else joinB a (bndS q.f1.f0 q.f1.f1))
    have j := joinB_in a (bndS q.f1.f0 q.f1.f1)
    simp only [bndP]
    refine ⟨fun e => ?_, fun p hp => ?_⟩
    · subst e
      simp only [Bool.false_eq_true, if_false] at ih ⊢
      exact j.1.trans (ih.1 (by trivial))
    · rcases List.mem_cons.1 hp with e | hp
      · subst e
        cases b
        · simp only [Bool.false_eq_true, if_false] at ih ⊢
          exact j.2.trans (ih.1 (by trivial))
        · simp only [if_true] at ih ⊢
          exact ih.1 (by trivial)
      · exact ih.2 p hp
theorem bndX_in : ∀ (rs : List Sp) (a b : Int), (bndX rs a b).1 ≤ a ∧ b ≤ (bndX rs a b).2 ∧ ∀ r ∈ rs, r.f0 < r.f1 → (bndX rs a b).1 ≤ r.f0 ∧ r.f1 ≤ (bndX rs a b).2
  | [], a, b => ⟨by simp [bndX], by simp [bndX], fun r hr => by cases hr⟩
  | q :: r, a, b => by
    simp only [bndX]
    by_cases h : empB q = true
    · rw [if_pos h]
      have ih := bndX_in r a b
      refine ⟨ih.1, ih.2.1, fun x hx hl => ?_⟩
      rcases List.mem_cons.1 hx with e | hx
      · subst e; unfold empB at h; simp at h; omega
      · exact ih.2.2 x hx hl
    · rw [if_neg h]
      have ih := bndX_in r (mn a q.f0) (mx b q.f1)
      simp only [mx_eq, mn_eq] at ih ⊢
      refine ⟨by omega, by omega, fun x hx hl => ?_⟩
      rcases List.mem_cons.1 hx with e | hx
      · subst e; omega
      · exact ih.2.2 x hx hl
theorem witL_full {x0 x1 y0 y1 : Int} : ∀ (rs : List Sp) (j : Int), (∀ r ∈ rs, r.f0 < r.f1 ∨ (r.f0 = 0 ∧ r.f1 = 0)) → (∀ r ∈ rs, r.f0 < r.f1 → x0 ≤ r.f0 ∧ r.f1 ≤ x1) → y0 ≤ 10 * j → 10 * (j + rs.length) ≤ y1 → witL x0 x1 y0 y1 rs j = 10 * sumLen rs
  | [], j, _, _, _, _ => by simp [witL, sumLen]
  | r :: rs, j, h1, h2, h3, h4 => by
    simp only [List.length_cons] at h4
    have ih := witL_full (x0 := x0) (x1 := x1) (y0 := y0) (y1 := y1) rs (j + 1) (fun x hx => h1 x (by simp [hx])) (fun x hx => h2 x (by simp [hx])) (by omega) (by omega)
    have g := h1 r (by simp)
    have b := h2 r (by simp)
    have e1 : ov r.f0 r.f1 x0 x1 = lenS r := by unfold lenS ov; split <;> omega
    have e2 : ov (10 * j) (10 * j + 10) y0 y1 = 10 := by unfold ov; omega
    have e3 : sumLen (r :: rs) = lenS r + sumLen rs := by simp [sumLen]
    simp only [witL, ih, e1, e2, e3]
    omega
theorem witS_full {low : Int} {rows : List Sp} (h : secChk low rows = 0) (hne : rows ≠ []) {a : Int × Int × Int × Int} (hin : InB (bndS low rows) a) : witS low rows a.1 a.2.1 a.2.2.1 a.2.2.2 = areaS low rows := by
  have ok := secOk_of h
  have e : validS low rows = (low, rows) := by unfold validS; rw [if_pos h]
  unfold witS areaS
  unfold bndS at hin
  rw [e] at hin ⊢
  simp only at hin ⊢
  unfold bndV at hin
  rw [if_neg hne] at hin
  unfold InB at hin
  simp only at hin
  have bx := bndX_in rows (rows.getD 0 z29).f0 (rows.getD 0 z29).f1
  exact witL_full rows low ok.good (fun r hr hl => by have := bx.2.2 r hr hl; omega) (by omega) (by omega)
/-- The volumes of slices in a span, where the first begins at a position. -/
def volZ (z0 z1 : Int) : List Slc → Int → Int
  | [], _ => 0
  | s :: r, p => ov p (p + s.f0) z0 z1 * areaS s.f1.f0 s.f1.f1 + volZ z0 z1 r (p + s.f0)
theorem witZ_vol {a : Int × Int × Int × Int} (z0 z1 : Int) : ∀ (l : List Slc) (p : Int), (∀ s ∈ l, witS s.f1.f0 s.f1.f1 a.1 a.2.1 a.2.2.1 a.2.2.2 = areaS s.f1.f0 s.f1.f1) → witZ a.1 a.2.1 a.2.2.1 a.2.2.2 z0 z1 l p = volZ z0 z1 l p
  | [], _, _ => rfl
  | s :: r, p, h => by
    simp only [witZ, volZ]
    rw [h s (by simp), witZ_vol z0 z1 r (p + s.f0) (fun x hx => h x (by simp [hx]))]
theorem allP_mem : ∀ (l : List Slc) (p : Int) (s : Slc), s ∈ l → ∃ q ∈ allP l p, q.f1 = s.f1
  | x :: r, p, s, h => by
    rcases List.mem_cons.1 h with e | h
    · subst e; exact ⟨⟨⟨p, p + s.f0⟩, s.f1⟩, by simp [allP], rfl⟩
    · obtain ⟨q, hq, e⟩ := allP_mem r (p + x.f0) s h
      exact ⟨q, by simp [allP, hq], e⟩
theorem bndA_in {l : List Slc} (ok : SolOk l) {s : Slc} (hs : s ∈ l) : InB (bndS s.f1.f0 s.f1.f1) (bndA l) := by
  unfold bndA
  rw [partsS_whole ok]
  obtain ⟨q, hq, e⟩ := allP_mem l 0 s hs
  have := (bndP_in (allP l 0) true (0, 0, 0, 0)).2 q hq
  rwa [e] at this
/-- In the bounds it is the volume of the part. -/
theorem witB_bounds (l : List Slc) (z0 z1 : Int) : witB l (bndA l).1 (bndA l).2.1 (bndA l).2.2.1 (bndA l).2.2.2 z0 z1 = if solChk l = 0 then volZ z0 z1 l 0 else 0 := by
  unfold witB
  by_cases h : solChk l = 0
  · have ok := (solOk_iff l).1 h
    rw [if_pos h, if_pos h]
    exact witZ_vol z0 z1 l 0 (fun s hs => witS_full (ok.sec s hs) (ok.rows s hs) (bndA_in ok hs))
  · rw [if_neg h, if_neg h]
/-! ### cuts -/
def cutP (ps : List Prt) : List Slc := ps.map fun p => ⟨p.f0.f1 - p.f0.f0, p.f1⟩
theorem solid_copied_eq (low : Int) (rows : List Sp) (h : rows.length ≤ 1000) : solid_copied.f low rows = some (low, rows) := by
  unfold solid_copied.f api_Span.f
  simp only [Option.bind_some, List.length_nil, List.nil_append]
  rw [if_pos (by omega), Option.bind_some]
theorem solid_Cut_l0 {ps : List Prt} (ok : PartsOk ps) (hr : ∀ p ∈ ps, p.f1.f1.length ≤ 1000) : Ev (fun k => solid_Cut.l0 k ([] : List Slc) ps (ps.length : Int) 0) (cutP ps) := by
  have hn := ok.len
  refine evEq (Ev.list0 (σ := List Slc) ps (fun k i s => solid_Cut.l0 k s ps (ps.length : Int) i) (fun suf s => s ++ cutP suf) (fun i s => s.length = i) ?_ ?_ [] rfl) (by simp)
  · intro s _
    exact Ev.step (f := fun _ => some s) (fun k => by rw [solid_Cut.l0, if_neg (by omega)]) (evEq (Ev.now _) (by simp [cutP]))
  · intro i x suf s hs hi hx ih
    have hx2 := rdP_at hx
    have hm := List.mem_of_getElem? hx
    have hp := ok.each x hm
    refine Ev.step (f := fun k => solid_Cut.l0 k (s ++ [⟨x.f0.f1 - x.f0.f0, x.f1⟩]) ps (ps.length : Int) ((i + 1 : Nat) : Int)) (fun k => ?_) (evEq (ih _ (by simp [hs])) (by simp [cutP]))
    rw [solid_Cut.l0, if_pos (by omega), if_pos (by omega), if_pos (by omega), hx2, solid_copied_eq _ _ (hr x hm), Option.bind_some, if_pos (by omega), wsucc hi (by omega), w64 (by omega) (by omega)]
theorem partsL_sec {z0 z1 : Int} : ∀ (l : List Slc) (p : Int), ∀ q ∈ partsL z0 z1 l p, (∃ s ∈ l, q.f1 = s.f1) ∧ q.f0.f0 < q.f0.f1
  | [], p => by intro q hq; cases hq
  | s :: r, p => by
    have ih := partsL_sec (z0 := z0) (z1 := z1) r (p + s.f0)
    intro q hq
    simp only [partsL] at hq
    split at hq
    · rcases List.mem_cons.1 hq with e | hq
      · subst e; exact ⟨⟨s, by simp, rfl⟩, by simp only; omega⟩
      · obtain ⟨⟨t, ht, e⟩, h⟩ := ih q hq; exact ⟨⟨t, by simp [ht], e⟩, h⟩
    · obtain ⟨⟨t, ht, e⟩, h⟩ := ih q hq; exact ⟨⟨t, by simp [ht], e⟩, h⟩
theorem partsS_rows (l : List Slc) (z0 z1 : Int) : ∀ p ∈ partsS l z0 z1, p.f1.f1.length ≤ 1000 := by
  unfold partsS
  by_cases h : solChk l = 0
  · have ok := (solOk_iff l).1 h
    rw [if_pos h]
    intro p hp
    obtain ⟨⟨s, hs, e⟩, _⟩ := partsL_sec l 0 p hp
    have := (secOk_of (ok.sec s hs)).len
    rw [e]
    omega
  · rw [if_neg h]
    intro p hp
    cases hp
def cutS (l : List Slc) (z0 z1 : Int) : List Slc := cutP (partsS l z0 z1)
theorem solid_Cut_ev (l : List Slc) (z0 z1 : Int) : Ev (fun k => solid_Cut.f k l z0 z1) (cutS l z0 z1) := by
  unfold solid_Cut.f
  exact Ev.bind (solid_parts_ev l z0 z1) (solid_Cut_l0 (partsS_ok l z0 z1) (partsS_rows l z0 z1))
theorem cutP_sum : ∀ (ps : List Prt), sumZ (cutP ps) = lenP ps
  | [] => rfl
  | p :: r => by
    have := cutP_sum r
    simp only [cutP, List.map_cons, sumZ, lenP] at this ⊢
    omega
theorem partsL_sum {z0 z1 : Int} : ∀ (l : List Slc) (p : Int), (∀ s ∈ l, 1 ≤ s.f0) → lenP (partsL z0 z1 l p) ≤ sumZ l
  | [], _, _ => by simp [partsL, lenP, sumZ]
  | s :: r, p, h => by
    have hs := h s (by simp)
    have ih := partsL_sum (z0 := z0) (z1 := z1) r (p + s.f0) (fun x hx => h x (by simp [hx]))
    simp only [partsL, sumZ]
    split
    · simp only [lenP]; omega
    · omega
theorem cutS_ok {l : List Slc} (ok : SolOk l) {z0 z1 : Int} (h : partsS l z0 z1 ≠ []) : SolOk (cutS l z0 z1) := by
  have e : partsS l z0 z1 = partsL z0 z1 l 0 := by unfold partsS; rw [if_pos ((solOk_iff l).2 ok)]
  have h1 := partsL_len (za := z0) (zb := z1) l 0
  have h2 := partsL_sum (z0 := z0) (z1 := z1) l 0 ok.pos
  have h3 := List.length_pos_iff.2 h
  have h4 := ok.len
  have h5 := ok.sum
  have hs := partsL_sec (z0 := z0) (z1 := z1) l 0
  have each : ∀ s ∈ cutS l z0 z1, (∃ t ∈ l, s.f1 = t.f1) ∧ 1 ≤ s.f0 := by
    intro s hm
    unfold cutS cutP at hm
    rw [e] at hm
    obtain ⟨q, hq, rfl⟩ := List.mem_map.1 hm
    have := hs q hq
    exact ⟨this.1, by simp only; omega⟩
  rw [e] at h3
  refine ⟨?_, ?_, fun s hm => ?_, fun s hm => ?_, fun s hm => (each s hm).2, ?_⟩
  · unfold cutS cutP; rw [e, List.length_map]; exact h3
  · unfold cutS cutP; rw [e, List.length_map]; omega
  · obtain ⟨⟨t, ht, et⟩, _⟩ := each s hm; rw [et]; exact ok.sec t ht
  · obtain ⟨⟨t, ht, et⟩, _⟩ := each s hm; rw [et]; exact ok.rows t ht
  · unfold cutS; rw [cutP_sum, e]; omega
theorem volL_cut : ∀ (ps : List Prt), volL (cutP ps) = volP ps
  | [] => rfl
  | p :: r => by
    have := volL_cut r
    simp only [cutP, List.map_cons, volL, volP] at this ⊢
    omega
theorem volP_parts (z0 z1 : Int) : ∀ (l : List Slc) (p : Int), volP (partsL z0 z1 l p) = volZ z0 z1 l p
  | [], p => rfl
  | s :: r, p => by
    have ih := volP_parts z0 z1 r (p + s.f0)
    simp only [partsL, volZ]
    by_cases h : max p z0 < min (p + s.f0) z1
    · rw [if_pos h]
      simp only [volP, ih]
      rw [show ov p (p + s.f0) z0 z1 = min (p + s.f0) z1 - max p z0 by unfold ov; omega]
    · rw [if_neg h, ih, show ov p (p + s.f0) z0 z1 = 0 by unfold ov; omega]
      omega
/-- The volume of a cut is that of the box in the bounds. -/
theorem volS_cut (l : List Slc) (z0 z1 : Int) : volS (cutS l z0 z1) = witB l (bndA l).1 (bndA l).2.1 (bndA l).2.2.1 (bndA l).2.2.2 z0 z1 := by
  rw [witB_bounds]
  by_cases h : solChk l = 0
  · have ok := (solOk_iff l).1 h
    have e : partsS l z0 z1 = partsL z0 z1 l 0 := by unfold partsS; rw [if_pos h]
    rw [if_pos h, ← volP_parts z0 z1 l 0, ← e]
    by_cases h0 : partsS l z0 z1 = []
    · have : cutS l z0 z1 = [] := by unfold cutS; rw [h0]; rfl
      rw [this, h0]; rfl
    · unfold volS
      rw [if_pos ((solOk_iff _).2 (cutS_ok ok h0))]
      exact volL_cut _
  · rw [if_neg h]
    have : cutS l z0 z1 = [] := by unfold cutS partsS; rw [if_neg h]; rfl
    rw [this]; rfl
end Go.Proofs.Ytboegckbilnldaa.P
