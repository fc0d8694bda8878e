/- Cuts of solids, solids that are divided, solids whose slices are mirrored. -/
import Derived.Test.YtdbjoopkliafeaaCShapeAlongV7
import Derived.Test.YtdbjoopkliafeaaCShapeAlongTMov
import Derived.Test.YtdbjoopkliafeaaCShapeAlongTSweep
set_option linter.unusedVariables false
set_option linter.unusedSimpArgs false
namespace Go.Proofs.Ytdbjoopkliafeaa.P
open Go Go.RowKit Go.Proofs.YtdbjoopkliafeaaW.PrintWords Go.Proofs.YtdbjoopkliafeaaW.PrintLast Go.Proofs.YtdbjoopkliafeaaW.PrintMore
theorem rdP_at {xs : List Prt} {i : Nat} {x : Prt} (h : xs[i]? = some x) : rd_T72 xs (i : Int) = x := by
  unfold rd_T72
  rw [Int.toNat_natCast, List.getD_eq_getElem?_getD, h]
  rfl
/-- Parts that are not empty and not longer than a solid. -/
structure PartsOk (ps : List Prt) : Prop where
  len : ps.length ≤ 24
  each : ∀ p ∈ ps, 0 ≤ p.f0.f0 ∧ p.f0.f0 ≤ p.f0.f1 ∧ p.f0.f1 ≤ 20000
def lenP : List Prt → Int
  | [] => 0
  | p :: r => (p.f0.f1 - p.f0.f0) + lenP r
theorem partsL_ok {za zb : Int} : ∀ (l : List Slc) (p : Int), 0 ≤ p → (∀ s ∈ l, 1 ≤ s.f0) → p + sumZ l ≤ 20000 → ∀ q ∈ partsL za zb l p, 0 ≤ q.f0.f0 ∧ q.f0.f0 ≤ q.f0.f1 ∧ q.f0.f1 ≤ 20000
  | [], p, _, _, _ => by intro q hq; cases hq
  | s :: r, p, h0, h1, h2 => by
    have hs := h1 s (by simp)
    have hr : ∀ x ∈ r, 1 ≤ x.f0 := fun x hx => h1 x (by simp [hx])
    have := sumZ_nonneg hr
    simp only [sumZ] at h2
    have ih := partsL_ok (za := za) (zb := zb) r (p + s.f0) (by omega) hr (by omega)
    intro q hq
    simp only [partsL] at hq
    split at hq
    · rcases List.mem_cons.1 hq with e | hq
      · subst e; simp only; omega
      · exact ih q hq
    · exact ih q hq
theorem partsL_len {za zb : Int} : ∀ (l : List Slc) (p : Int), (partsL za zb l p).length ≤ l.length
  | [], p => by simp [partsL]
  | s :: r, p => by
    have := partsL_len (za := za) (zb := zb) r (p + s.f0)
    simp only [partsL]
    split <;> simp <;> omega
theorem partsS_ok (l : List Slc) (za zb : Int) : PartsOk (partsS l za zb) := by
  unfold partsS
  by_cases h : solChk l = 0
  · have ok := (solOk_iff l).1 h
    rw [if_pos h]
    exact ⟨Nat.le_trans (partsL_len l 0) ok.len, partsL_ok l 0 (by omega) ok.pos (by have := ok.sum; omega)⟩
  · rw [if_neg h]
    exact ⟨by simp, fun p hp => by cases hp⟩
def cutP (ps : List Prt) : List Slc := ps.map fun p => ⟨p.f0.f1 - p.f0.f0, p.f1⟩
theorem solid_copied_eq (low : Int) (rows : List Sp) (h : rows.length ≤ 1000) : solid_copied.f low rows = some (low, rows) := by
  unfold solid_copied.f api_Span.f
  simp only [Option.bind_some, List.length_nil, List.nil_append]
  rw [if_pos (by omega), Option.bind_some]
theorem solid_Cut_l0 {ps : List Prt} (ok : PartsOk ps) (hr : ∀ p ∈ ps, p.f1.f1.length ≤ 1000) : Ev (fun k => solid_Cut.l0 k ([] : List Slc) ps (ps.length : Int) 0) (cutP ps) := by
  have hn := ok.len
  refine evEq (Ev.list0 (σ := List Slc) ps (fun k i s => solid_Cut.l0 k s ps (ps.length : Int) i) (fun suf s => s ++ cutP suf) (fun i s => s.length = i) ?_ ?_ [] rfl) (by simp)
  · intro s _
    exact Ev.step (f := fun _ => some s) (fun k => by rw [solid_Cut.l0, if_neg (by omega)]) (evEq (Ev.now _) (by simp [cutP]))
  · intro i x suf s hs hi hx ih
    have hx2 := rdP_at hx
    have hm := List.mem_of_getElem? hx
    have hp := ok.each x hm
    refine Ev.step (f := fun k => solid_Cut.l0 k (s ++ [⟨x.f0.f1 - x.f0.f0, x.f1⟩]) ps (ps.length : Int) ((i + 1 : Nat) : Int)) (fun k => ?_) (evEq (ih _ (by simp [hs])) (by simp [cutP]))
    rw [solid_Cut.l0, if_pos (by omega), if_pos (by omega), if_pos (by omega), hx2, solid_copied_eq _ _ (hr x hm), Option.bind_some, if_pos (by omega), wsucc hi (by omega), w64 (by omega) (by omega)]
theorem partsL_sec {z0 z1 : Int} : ∀ (l : List Slc) (p : Int), ∀ q ∈ partsL z0 z1 l p, (∃ s ∈ l, q.f1 = s.f1) ∧ q.f0.f0 < q.f0.f1
  | [], p => by intro q hq; cases hq
  | s :: r, p => by
    have ih := partsL_sec (z0 := z0) (z1 := z1) r (p + s.f0)
    intro q hq
    simp only [partsL] at hq
    split at hq
    · rcases List.mem_cons.1 hq with e | hq
      · subst e; exact ⟨⟨s, by simp, rfl⟩, by simp only; omega⟩
      · obtain ⟨⟨t, ht, e⟩, h⟩ := ih q hq; exact ⟨⟨t, by simp [ht], e⟩, h⟩
    · obtain ⟨⟨t, ht, e⟩, h⟩ := ih q hq; exact ⟨⟨t, by simp [ht], e⟩, h⟩
theorem partsS_rows (l : List Slc) (z0 z1 : Int) : ∀ p ∈ partsS l z0 z1, p.f1.f1.length ≤ 1000 := by
  unfold partsS
  by_cases h : solChk l = 0
  · have ok := (solOk_iff l).1 h
    rw [if_pos h]
    intro p hp
    obtain ⟨⟨s, hs, e⟩, _⟩ := partsL_sec l 0 p hp
    have := (secOk_of (ok.sec s hs)).len
    rw [e]
    omega
  · rw [if_neg h]
    intro p hp
    cases hp
def cutS (l : List Slc) (z0 z1 : Int) : List Slc := cutP (partsS l z0 z1)
theorem solid_Cut_ev (l : List Slc) (z0 z1 : Int) : Ev (fun k => solid_Cut.f k l z0 z1) (cutS l z0 z1) := by
  unfold solid_Cut.f
  exact Ev.bind (solid_parts_ev l z0 z1) (solid_Cut_l0 (partsS_ok l z0 z1) (partsS_rows l z0 z1))
/-! ### a slice that is divided -/
def splL (a : Int) : List Slc → Int → List Slc
  | [], _ => []
  | s :: r, p => if p + s.f0 ≤ a then s :: splL a r (p + s.f0) else if p < a then ⟨a - p, s.f1⟩ :: ⟨p + s.f0 - a, s.f1⟩ :: r else s :: r
theorem cut_after {a n : Int} : ∀ (l : List Slc) (p : Int), (∀ s ∈ l, 1 ≤ s.f0) → a ≤ p → 0 ≤ p → p + sumZ l ≤ n → cutP (partsL 0 a l p) = [] ∧ cutP (partsL a n l p) = l
  | [], _, _, _, _, _ => ⟨rfl, rfl⟩
  | s :: r, p, h, h1, h0, h2 => by
    have hs := h s (by simp)
    have hr : ∀ x ∈ r, 1 ≤ x.f0 := fun x hx => h x (by simp [hx])
    have hn := sumZ_nonneg hr
    simp only [sumZ] at h2
    obtain ⟨i1, i2⟩ := cut_after (a := a) (n := n) r (p + s.f0) hr (by omega) (by omega) (by omega)
    simp only [partsL]
    rw [if_neg (by omega), if_pos (by omega)]
    refine ⟨i1, ?_⟩
    rw [show max p a = p by omega, show min (p + s.f0) n = p + s.f0 by omega]
    change (⟨p + s.f0 - p, s.f1⟩ : Slc) :: cutP (partsL a n r (p + s.f0)) = _
    rw [i2, show p + s.f0 - p = s.f0 by omega]
theorem cut_spl {a n : Int} : ∀ (l : List Slc) (p : Int), (∀ s ∈ l, 1 ≤ s.f0) → 0 ≤ p → p < a → p + sumZ l ≤ n → cutP (partsL 0 a l p) ++ cutP (partsL a n l p) = splL a l p
  | [], _, _, _, _, _ => rfl
  | s :: r, p, h, h0, h1, h2 => by
    have hs := h s (by simp)
    have hr : ∀ x ∈ r, 1 ≤ x.f0 := fun x hx => h x (by simp [hx])
    have hn := sumZ_nonneg hr
    simp only [sumZ] at h2
    simp only [partsL, splL]
    by_cases c : p + s.f0 ≤ a
    · rw [if_pos c, if_pos (by omega), if_neg (by omega), show max p 0 = p by omega, show min (p + s.f0) a = p + s.f0 by omega]
      change (⟨p + s.f0 - p, s.f1⟩ : Slc) :: (cutP (partsL 0 a r (p + s.f0)) ++ cutP (partsL a n r (p + s.f0))) = _
      rw [show p + s.f0 - p = s.f0 by omega]
      by_cases e : p + s.f0 < a
      · rw [cut_spl r (p + s.f0) hr (by omega) e (by omega)]
      · obtain ⟨i1, i2⟩ := cut_after (a := a) (n := n) r (p + s.f0) hr (by omega) (by omega) (by omega)
        rw [i1, i2]
        have : splL a r (p + s.f0) = r := by
          cases r with
          | nil => rfl
          | cons x t =>
            have := hr x (by simp)
            simp only [splL]
            rw [if_neg (by omega), if_neg (by omega)]
        rw [this]
        rfl
    · rw [if_neg c, if_pos h1, if_pos (by omega), if_pos (by omega), show max p 0 = p by omega, show min (p + s.f0) a = a by omega, show max p a = a by omega, show min (p + s.f0) n = p + s.f0 by omega]
      obtain ⟨i1, i2⟩ := cut_after (a := a) (n := n) r (p + s.f0) hr (by omega) (by omega) (by omega)
      change (⟨a - p, s.f1⟩ : Slc) :: (cutP (partsL 0 a r (p + s.f0)) ++ (⟨p + s.f0 - a, s.f1⟩ : Slc) :: cutP (partsL a n r (p + s.f0))) = _
      rw [i1, i2]
      rfl
theorem splL_sum (a : Int) : ∀ (l : List Slc) (p : Int), sumZ (splL a l p) = sumZ l
  | [], _ => rfl
  | s :: r, p => by
    simp only [splL]
    split
    · simp only [sumZ]; rw [splL_sum a r]
    · split
      · simp only [sumZ]; omega
      · rfl
theorem splL_length (a : Int) : ∀ (l : List Slc) (p : Int), l.length ≤ (splL a l p).length ∧ (splL a l p).length ≤ l.length + 1
  | [], _ => by simp [splL]
  | s :: r, p => by
    have := splL_length a r (p + s.f0)
    simp only [splL]
    split
    · simp only [List.length_cons]; omega
    · split
      · simp
      · simp
theorem splL_mem (a : Int) : ∀ (l : List Slc) (p : Int), (∀ s ∈ l, 1 ≤ s.f0) → ∀ x ∈ splL a l p, (∃ s ∈ l, x.f1 = s.f1) ∧ 1 ≤ x.f0
  | [], _, _, x, hx => by cases hx
  | s :: r, p, h, x, hx => by
    have hs := h s (by simp)
    have hr : ∀ x ∈ r, 1 ≤ x.f0 := fun x hx => h x (by simp [hx])
    simp only [splL] at hx
    split at hx
    · rcases List.mem_cons.1 hx with e | hx
      · subst e; exact ⟨⟨x, by simp, rfl⟩, hs⟩
      · obtain ⟨⟨t, ht, e⟩, g⟩ := splL_mem a r (p + s.f0) hr x hx
        exact ⟨⟨t, by simp [ht], e⟩, g⟩
    · split at hx
      · rcases List.mem_cons.1 hx with e | hx
        · subst e; exact ⟨⟨s, by simp, rfl⟩, by simp only; omega⟩
        · rcases List.mem_cons.1 hx with e | hx
          · subst e; exact ⟨⟨s, by simp, rfl⟩, by simp only; omega⟩
          · exact ⟨⟨x, by simp [hx], rfl⟩, hr x hx⟩
      · exact ⟨⟨x, hx, rfl⟩, h x hx⟩
theorem splL_first (a : Int) (l : List Slc) (p : Int) : (fstL (splL a l p)).f1 = (fstL l).f1 := by
  cases l with
  | nil => rfl
  | cons s r =>
    simp only [splL]
    split
    · rfl
    · split <;> rfl
theorem lstL_cons (s : Slc) {r : List Slc} (h : r ≠ []) : lstL (s :: r) = lstL r := by
  have := List.length_pos_iff.2 h
  unfold lstL
  rw [show (s :: r).length - 1 = (r.length - 1) + 1 by simp; omega]
  rfl
theorem splL_last (a : Int) : ∀ (l : List Slc) (p : Int), (lstL (splL a l p)).f1 = (lstL l).f1
  | [], _ => rfl
  | s :: r, p => by
    simp only [splL]
    by_cases c : p + s.f0 ≤ a
    · rw [if_pos c]
      by_cases e : r = []
      · subst e; rfl
      · have l1 := (splL_length a r (p + s.f0)).1
        have : splL a r (p + s.f0) ≠ [] := by
          intro h; rw [h] at l1; have := List.length_pos_iff.2 e; simp at l1; exact e l1
        rw [lstL_cons s this, lstL_cons s e, splL_last a r]
    · rw [if_neg c]
      by_cases c2 : p < a
      · rw [if_pos c2, lstL_cons _ (by simp)]
        by_cases e : r = []
        · subst e; rfl
        · rw [lstL_cons _ e, lstL_cons _ e]
      · rw [if_neg c2]
theorem splL_ok {l : List Slc} (ok : SolOk l) (hn : l.length < 24) (a : Int) : SolOk (splL a l 0) := by
  have h1 := splL_length a l 0
  have h0 := ok.len0
  have h2 := splL_mem a l 0 ok.pos
  refine ⟨by omega, by omega, fun s hs => ?_, fun s hs => ?_, fun s hs => (h2 s hs).2, by rw [splL_sum]; exact ok.sum⟩
  · obtain ⟨⟨t, ht, e⟩, _⟩ := h2 s hs; rw [e]; exact ok.sec t ht
  · obtain ⟨⟨t, ht, e⟩, _⟩ := h2 s hs; rw [e]; exact ok.rows t ht
/-! ### slices that are mirrored -/
def mirL (s : Slc) : Slc := ⟨s.f0, ⟨(mirV (s.f1.f0, s.f1.f1)).1, (mirV (s.f1.f0, s.f1.f1)).2⟩⟩
theorem mirL_sum : ∀ l : List Slc, sumZ (l.map mirL) = sumZ l
  | [] => rfl
  | s :: r => by simp only [List.map_cons, sumZ, mirL_sum r]; rfl
theorem mirL_ok {l : List Slc} (ok : SolOk l) : SolOk (l.map mirL) := by
  have h : ∀ s ∈ l.map mirL, ∃ t ∈ l, s = mirL t := fun s hs => by obtain ⟨t, ht, e⟩ := List.mem_map.1 hs; exact ⟨t, ht, e.symm⟩
  refine ⟨by simpa using ok.len0, by simpa using ok.len, fun s hs => ?_, fun s hs => ?_, fun s hs => ?_, by rw [mirL_sum]; exact ok.sum⟩
  · obtain ⟨t, ht, e⟩ := h s hs
    rw [e]
    exact secChk_ok (mir_ok (v := (t.f1.f0, t.f1.f1)) (secOk_of (ok.sec t ht)))
  · obtain ⟨t, ht, e⟩ := h s hs
    rw [e]
    have := ok.rows t ht
    unfold mirL mirV
    simpa using this
  · obtain ⟨t, ht, e⟩ := h s hs
    rw [e]
    exact ok.pos t ht
theorem getD_mirL {l : List Slc} {i : Nat} (h : i < l.length) : (l.map mirL).getD i z36 = mirL (l.getD i z36) := by
  rw [List.getD_eq_getElem?_getD, List.getD_eq_getElem?_getD, List.getElem?_map, List.getElem?_eq_getElem h]
  rfl
theorem getD_inL {l : List Slc} {i : Nat} (h : i < l.length) : l.getD i z36 ∈ l := by
  rw [List.getD_eq_getElem?_getD, List.getElem?_eq_getElem h]; exact List.getElem_mem h
theorem fstL_mir {l : List Slc} (h : 0 < l.length) : fstL (l.map mirL) = mirL (fstL l) := getD_mirL h
theorem lstL_mir {l : List Slc} (h : 0 < l.length) : lstL (l.map mirL) = mirL (lstL l) := by
  unfold lstL
  rw [List.length_map]
  exact getD_mirL (by omega)
theorem dia_mir {l : List Slc} (ok : SolOk l) {s : Slc} (hs : s ∈ l) : diaS (mirL s).f1.f0 (mirL s).f1.f1 = diaS s.f1.f0 s.f1.f1 := by
  have := mir_area (v := (s.f1.f0, s.f1.f1)) (secOk_of (ok.sec s hs))
  unfold diaS
  change rootS (452 * areaS (mirV (s.f1.f0, s.f1.f1)).1 (mirV (s.f1.f0, s.f1.f1)).2 / 355) = _
  rw [this]
theorem cen_mir {l : List Slc} (ok : SolOk l) {s : Slc} (hs : s ∈ l) : cenS (mirL s).f1.f0 (mirL s).f1.f1 = (-(cenS s.f1.f0 s.f1.f1).1, (cenS s.f1.f0 s.f1.f1).2) := by
  have := bndS_mir (v := (s.f1.f0, s.f1.f1)) (secOk_of (ok.sec s hs)) (ok.rows s hs)
  unfold cenS
  change ((bndS (mirV (s.f1.f0, s.f1.f1)).1 (mirV (s.f1.f0, s.f1.f1)).2).1 + _, (bndS (mirV (s.f1.f0, s.f1.f1)).1 (mirV (s.f1.f0, s.f1.f1)).2).2.2.1 + (bndS (mirV (s.f1.f0, s.f1.f1)).1 (mirV (s.f1.f0, s.f1.f1)).2).2.2.2) = _
  change (_ + (bndS (mirV (s.f1.f0, s.f1.f1)).1 (mirV (s.f1.f0, s.f1.f1)).2).2.1, _) = _
  rw [this]
  simp only
  refine Prod.ext ?_ rfl
  simp only
  omega
theorem mAt_mir (l : List Slc) {j : Nat} (h : j < l.length) : mAt (l.map mirL) j = mAt l j := by
  unfold mAt
  rw [getD_mirL h, ← List.map_take, mirL_sum]
  rfl
theorem div_neg_near {p d : Int} (hd : 1 ≤ d) : p / d + (-p) / d = 0 ∨ p / d + (-p) / d = -1 := by
  have a1 := Int.mul_ediv_add_emod p d
  have a2 := Int.emod_nonneg p (show d ≠ 0 by omega)
  have a3 := Int.emod_lt_of_pos p (show 0 < d by omega)
  have b1 := Int.mul_ediv_add_emod (-p) d
  have b2 := Int.emod_nonneg (-p) (show d ≠ 0 by omega)
  have b3 := Int.emod_lt_of_pos (-p) (show 0 < d by omega)
  have e : d * (p / d + (-p) / d) = d * (p / d) + d * ((-p) / d) := Int.mul_add _ _ _
  generalize p / d + (-p) / d = t at e ⊢
  by_cases h1 : 1 ≤ t
  · have := Int.mul_le_mul_of_nonneg_left h1 (show 0 ≤ d by omega)
    omega
  · by_cases h2 : t ≤ -2
    · have := Int.mul_le_mul_of_nonneg_left h2 (show 0 ≤ d by omega)
      omega
    · omega
section
variable {l : List Slc} (ok : SolOk l) (h3 : 3 ≤ l.length)
include ok h3
theorem sw_mir {i : Nat} {x : Slc} (hx : l[i]? = some x) : (swU (l.map mirL) i (mirL x) = -swU l i x ∨ swU (l.map mirL) i (mirL x) = 1 - swU l i x) ∧ swV (l.map mirL) i (mirL x) = swV l i x := by
  have hi : i < l.length := (List.getElem?_eq_some_iff.1 hx).1
  have hm : x ∈ l := List.mem_of_getElem? hx
  have f := getD_inL (l := l) (i := 0) (by omega)
  have g := getD_inL (l := l) (i := l.length - 1) (by omega)
  have bl := mAt_range ok (j := l.length - 1) (by omega)
  have hd : 1 ≤ mAt l (l.length - 1) - mAt l 0 := by have := bl.2.2.2; omega
  unfold swU swV swX swY
  rw [fstL_mir (by omega), lstL_mir (by omega), cen_mir ok hm, cen_mir ok (s := fstL l) f, cen_mir ok (s := lstL l) g, List.length_map, mAt_mir l hi, mAt_mir l (j := 0) (by omega), mAt_mir l (j := l.length - 1) (by omega)]
  simp only
  refine ⟨?_, trivial⟩
  have e : (-(cenS (lstL l).f1.f0 (lstL l).f1.f1).1 - -(cenS (fstL l).f1.f0 (fstL l).f1.f1).1) * (mAt l i - mAt l 0) = -(((cenS (lstL l).f1.f0 (lstL l).f1.f1).1 - (cenS (fstL l).f1.f0 (fstL l).f1.f1).1) * (mAt l i - mAt l 0)) := by
    rw [← Int.neg_mul]
    congr 1
    omega
  rw [e]
  have := div_neg_near (p := ((cenS (lstL l).f1.f0 (lstL l).f1.f1).1 - (cenS (fstL l).f1.f0 (fstL l).f1.f1).1) * (mAt l i - mAt l 0)) hd
  omega
theorem swe_near : ∀ (suf : List Slc) (i : Nat) (a b : Int), (∀ (j : Nat) (x : Slc), suf[j]? = some x → l[i + j]? = some x) → a - b ≤ 1 → b - a ≤ 1 → sweL l suf i a - sweL (l.map mirL) (suf.map mirL) i b ≤ 1 ∧ sweL (l.map mirL) (suf.map mirL) i b - sweL l suf i a ≤ 1
  | [], i, a, b, _, h1, h2 => ⟨h1, h2⟩
  | x :: r, i, a, b, h, h1, h2 => by
    have hx := h 0 x rfl
    rw [Nat.add_zero] at hx
    have s := sw_mir ok h3 hx
    simp only [List.map_cons, sweL]
    refine swe_near r (i + 1) _ _ (fun j y hy => ?_) ?_ ?_
    · have := h (j + 1) y (by simpa using hy)
      rwa [show i + (j + 1) = i + 1 + j by omega] at this
    · rw [s.2]; have := s.1; omega
    · rw [s.2]; have := s.1; omega
theorem swe_range : ∀ (suf : List Slc) (i : Nat) (a : Int), (∀ (j : Nat) (x : Slc), suf[j]? = some x → l[i + j]? = some x) → 0 ≤ a → a ≤ 1000000000 → 0 ≤ sweL l suf i a ∧ sweL l suf i a ≤ 1000000000
  | [], i, a, _, h1, h2 => ⟨h1, h2⟩
  | x :: r, i, a, h, h1, h2 => by
    have hx := h 0 x rfl
    rw [Nat.add_zero] at hx
    have hi : i < l.length := (List.getElem?_eq_some_iff.1 hx).1
    have b1 := mAt_range ok hi
    have b0 := mAt_range ok ok.len0
    have bl := mAt_range ok (j := l.length - 1) (by omega)
    have c := cenS_range x.f1.f0 x.f1.f1
    have cf := cenS_range (fstL l).f1.f0 (fstL l).f1.f1
    have cl := cenS_range (lstL l).f1.f0 (lstL l).f1.f1
    have px := mul_range (p := (cenS (lstL l).f1.f0 (lstL l).f1.f1).1 - (cenS (fstL l).f1.f0 (fstL l).f1.f1).1) (m := mAt l i - mAt l 0) (by omega) (by omega) (by omega) (by omega)
    have py := mul_range (p := (cenS (lstL l).f1.f0 (lstL l).f1.f1).2 - (cenS (fstL l).f1.f0 (fstL l).f1.f1).2) (m := mAt l i - mAt l 0) (by omega) (by omega) (by omega) (by omega)
    have hd : 1 ≤ mAt l (l.length - 1) - mAt l 0 := by have := bl.2.2.2; omega
    have dx := div_range px.1 px.2 hd
    have dy := div_range py.1 py.2 hd
    have u : -150000000 ≤ swU l i x ∧ swU l i x ≤ 150000000 := by unfold swU swX; omega
    have v : -150000000 ≤ swV l i x ∧ swV l i x ≤ 150000000 := by unfold swV swY; omega
    simp only [sweL]
    refine swe_range r (i + 1) _ (fun j y hy => ?_) (by omega) (by omega)
    have := h (j + 1) y (by simpa using hy)
    rwa [show i + (j + 1) = i + 1 + j by omega] at this
end
theorem sweS_range (l : List Slc) : 0 ≤ sweS l ∧ sweS l ≤ 1000000000 := by
  unfold sweS
  by_cases h : solChk l = 0
  · rw [if_pos h]
    by_cases h3 : (l.length : Int) < 3
    · rw [if_pos h3]; omega
    · rw [if_neg h3]
      exact swe_range ((solOk_iff l).1 h) (by omega) l 0 0 (fun j x hx => by rwa [Nat.zero_add]) (by omega) (by omega)
  · rw [if_neg h]; omega
theorem sweS_mir {l : List Slc} (ok : SolOk l) : sweS l - sweS (l.map mirL) ≤ 1 ∧ sweS (l.map mirL) - sweS l ≤ 1 := by
  unfold sweS
  rw [if_pos ((solOk_iff l).2 ok), if_pos ((solOk_iff _).2 (mirL_ok ok)), List.length_map]
  by_cases h3 : (l.length : Int) < 3
  · rw [if_pos h3, if_pos h3]; omega
  · rw [if_neg h3, if_neg h3]
    exact swe_near ok (by omega) l 0 0 0 (fun j x hx => by rwa [Nat.zero_add]) (by omega) (by omega)
end Go.Proofs.Ytdbjoopkliafeaa.P
