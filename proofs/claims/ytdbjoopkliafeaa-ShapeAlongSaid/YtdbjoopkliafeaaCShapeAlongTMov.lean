/- Sections that are mirrored, flipped and shifted. -/
import Derived.Test.YtdbjoopkliafeaaCShapeAlongV7
import Derived.Test.YtdbjoopkliafeaaCShapeAlongTShape
import Derived.Test.YtdbjoopkliafeaaCShapeAlongTBld
set_option linter.unusedVariables false
set_option linter.unusedSimpArgs false
namespace Go.Proofs.Ytdbjoopkliafeaa.P
open Go Go.RowKit Go.Proofs.YtdbjoopkliafeaaW.PrintWords Go.Proofs.YtdbjoopkliafeaaW.PrintLast Go.Proofs.YtdbjoopkliafeaaW.PrintMore
abbrev zSp : Sp := z49
theorem getD_app_last (a : List Sp) (s : Sp) (r : List Sp) (h : r ≠ []) : (s :: r).getD ((s :: r).length - 1) zSp = r.getD (r.length - 1) zSp := by
  have := List.length_pos_iff.2 h
  rw [show (s :: r).length - 1 = (r.length - 1) + 1 by simp; omega]
  rfl
theorem bldL_tail : ∀ (suf : List Sp) (q kept low : Int) (out : List Sp), out ≠ [] → (suf = [] → kept = out.length) → (suf ≠ [] → empB (suf.getD (suf.length - 1) zSp) = false) → bldL q suf kept low out = (low, out ++ suf)
  | [], q, kept, low, out, _, h, _ => by rw [bldL, h rfl]; simp
  | s :: r, q, kept, low, out, ho, _, hl => by
    rw [bldL, if_neg (fun h => ho h.1), if_neg ho]
    have := bldL_tail r (q + 1) (if empB s = true then kept else (out.length : Int) + 1) low (out ++ [s]) (by simp) (fun e => by
      subst e
      have : empB s = false := hl (by simp)
      rw [if_neg (by simp [this])]; simp) (fun e => by rw [← getD_app_last [] s r e]; exact hl (by simp))
    rw [this]
    simp
/-- Build keeps rows whose first and last are not empty. -/
theorem bldL_id {rs : List Sp} {p : Int} (h0 : rs ≠ []) (hf : empB (rs.getD 0 zSp) = false) (hl : empB (rs.getD (rs.length - 1) zSp) = false) : bldL p rs 0 0 [] = (p, rs) := by
  cases rs with
  | nil => exact absurd rfl h0
  | cons s r =>
    have hs : empB s = false := hf
    rw [bldL, if_neg (by simp [hs]), if_neg (by simp [hs]), if_pos rfl]
    have := bldL_tail r (p + 1) 1 p [s] (by simp) (fun _ => rfl) (fun e => by rw [← getD_app_last [] s r e]; exact hl)
    simpa using this
theorem emp_of {r : Sp} (h : r.f0 < r.f1) : empB r = false := by unfold empB; simpa using h
theorem emp_lt {r : Sp} : empB r = false ↔ r.f0 < r.f1 := by unfold empB; simp
/-- A map of rows that keeps what is empty. -/
def mapR (f : Sp → Sp) (r : Sp) : Sp := if empB r = true then zSp else f r
theorem getD_mapR (f : Sp → Sp) (rs : List Sp) (i : Nat) : (rs.map (mapR f)).getD i zSp = mapR f (rs.getD i zSp) := by
  by_cases h : i < rs.length
  · rw [List.getD_eq_getElem?_getD, List.getD_eq_getElem?_getD, List.getElem?_map, List.getElem?_eq_getElem h]; rfl
  · rw [List.getD_eq_getElem?_getD, List.getD_eq_getElem?_getD, List.getElem?_eq_none (by simp; omega), List.getElem?_eq_none (by omega)]; rfl
structure Keeps (f : Sp → Sp) : Prop where
  lt : ∀ r : Sp, r.f0 < r.f1 → (f r).f0 < (f r).f1
theorem mapR_full {f : Sp → Sp} (k : Keeps f) {r : Sp} (h : r.f0 < r.f1) : mapR f r = f r ∧ empB (mapR f r) = false := by
  have e : mapR f r = f r := by unfold mapR; rw [emp_of h]; rfl
  exact ⟨e, by rw [e]; exact emp_of (k.lt r h)⟩
theorem mapR_emp (f : Sp → Sp) {r : Sp} (h : ¬ r.f0 < r.f1) : mapR f r = zSp := by
  unfold mapR
  rw [if_pos (by unfold empB; simp; omega)]
/-- What build makes of the mapped rows of a valid section. -/
theorem bldL_map {f : Sp → Sp} (k : Keeps f) {low : Int} {rows : List Sp} (ok : SecOk low rows) (p : Int) (hp : rows = [] → p = 0) : bldL p (rows.map (mapR f)) 0 0 [] = (p, rows.map (mapR f)) := by
  by_cases h : rows = []
  · rw [h, hp h]; rfl
  · refine bldL_id (by simpa using h) ?_ ?_
    · rw [getD_mapR]; exact (mapR_full k (ok.first h)).2
    · rw [List.length_map, getD_mapR]; exact (mapR_full k (ok.last h)).2
theorem mapped_ev {f : Sp → Sp} (k : Keeps f) {low : Int} {rows : List Sp} (ok : SecOk low rows) {fn : Int → Int → Option (Int × Int)} (hfn : ∀ r ∈ rows, r.f0 < r.f1 → fn r.f0 r.f1 = some ((f r).f0, (f r).f1)) (p : Int) (hp : rows = [] → p = 0) (hpr : -1000 ≤ p ∧ p ≤ 1000) :
    Ev (fun j => section_mapped.f j p rows fn) (p, rows.map (mapR f)) := by
  have hn := ok.len
  unfold section_mapped.f
  refine Ev.bind (a := (p, rows.map (mapR f))) ?_ ?_
  rotate_left
  · exact Ev.now _
  have hg : ∀ i, i < rows.length → section_mapped_1.f (i : Int) p rows fn = some ((mapR f (rows.getD i zSp)).f0, (mapR f (rows.getD i zSp)).f1) := by
    intro i hi
    have hx : rows[i]? = some (rows.getD i zSp) := by rw [List.getD_eq_getElem?_getD, List.getElem?_eq_getElem hi]; rfl
    have hm : rows.getD i zSp ∈ rows := List.mem_of_getElem? hx
    unfold section_mapped_1.f
    rw [if_pos (by omega), if_pos (by omega), rdS_at hx, section_empty_eq, Option.bind_some]
    by_cases he : (rows.getD i zSp).f0 < (rows.getD i zSp).f1
    · rw [show (⟨(rows.getD i zSp).f0, (rows.getD i zSp).f1⟩ : Sp) = rows.getD i zSp from rfl, emp_of he, if_neg (by decide), mapfn.f, hfn _ hm he, Option.bind_some, (mapR_full k he).1]
    · rw [if_pos (by unfold empB; simp only [decide_eq_true_eq]; omega), mapR_emp f he]
      rfl
  have hb := section_build_ev (low := p) (n := rows.length) (row := fun i_ => section_mapped_1.f i_ p rows fn) (g := fun i => ((mapR f (rows.getD i zSp)).f0, (mapR f (rows.getD i zSp)).f1)) (by omega) ⟨by omega, by omega⟩ hg
  have e : ((List.range rows.length).map fun i => nrm ((mapR f (rows.getD i zSp)).f0, (mapR f (rows.getD i zSp)).f1)) = rows.map (mapR f) := by
    refine List.ext_getElem (by simp) (fun i h1 h2 => ?_)
    simp at h1
    simp only [List.getElem_map, List.getElem_range]
    rw [List.getD_eq_getElem?_getD, List.getElem?_eq_getElem h1]
    change nrm ((mapR f rows[i]).f0, (mapR f rows[i]).f1) = mapR f rows[i]
    by_cases he : rows[i].f0 < rows[i].f1
    · have := (mapR_full k he).2
      rw [emp_lt] at this
      unfold nrm
      rw [if_neg (by simp only; omega)]
    · rw [mapR_emp f he]; rfl
  rw [e, bldL_map k ok p hp] at hb
  exact hb
/-! ### Mirror -/
def mirS (r : Sp) : Sp := ⟨-r.f1, -r.f0⟩
theorem mir_keeps : Keeps mirS := ⟨fun r h => by unfold mirS; simp only; omega⟩
def mirV (v : Int × List Sp) : Int × List Sp := (v.1, v.2.map (mapR mirS))
theorem section_Mirror_ev (low : Int) (rows : List Sp) : Ev (fun k => section_Mirror.f k low rows) (mirV (validS low rows)) := by
  unfold section_Mirror.f
  refine Ev.bind (section_valid_ev low rows) ?_
  have ok := validS_ok low rows
  generalize validS low rows = v at ok ⊢
  have h1 := ok.lo
  have h2 := ok.hi
  refine Ev.bind (r := mirV v) (mapped_ev mir_keeps ok (fn := fun x_ y_ => section_Mirror_1.f x_ y_) (fun r hr h => ?_) v.1 ok.nil ⟨by omega, by omega⟩) (Ev.now _)
  have := ok.inr r hr
  unfold section_Mirror_1.f mirS
  rw [w64 (by omega) (by omega), w64 (by omega) (by omega)]
theorem mapR_ok {f : Sp → Sp} (k : Keeps f) {low p : Int} {rows : List Sp} (ok : SecOk low rows) (hp : rows = [] → p = 0) (h1 : -60 ≤ p) (h2 : p ≤ 60 - rows.length) (hr : ∀ r ∈ rows, r.f0 < r.f1 → -600 ≤ (f r).f0 ∧ (f r).f1 ≤ 600) : SecOk p (rows.map (mapR f)) := by
  have hn := ok.len
  have hg : ∀ r ∈ rows.map (mapR f), (-600 ≤ r.f0 ∧ r.f0 ≤ 600 ∧ -600 ≤ r.f1 ∧ r.f1 ≤ 600) ∧ (r.f0 < r.f1 ∨ (r.f0 = 0 ∧ r.f1 = 0)) := by
    intro r hm
    obtain ⟨s, hs, rfl⟩ := List.mem_map.1 hm
    by_cases he : s.f0 < s.f1
    · have e := (mapR_full k he).1
      have := k.lt s he
      have := hr s hs he
      rw [e]
      omega
    · rw [mapR_emp f he]; exact ⟨by decide, Or.inr (by decide)⟩
  refine ⟨by simpa using hn, h1, by simpa using h2, fun r hm => (hg r hm).1, fun r hm => (hg r hm).2, fun e => hp (by simpa using e), fun e => ?_, fun e => ?_⟩
  · have h0 : rows ≠ [] := fun h => e (by rw [h]; rfl)
    change ((rows.map (mapR f)).getD 0 zSp).f0 < ((rows.map (mapR f)).getD 0 zSp).f1
    rw [getD_mapR]
    have := (mapR_full k (ok.first h0)).2
    rwa [emp_lt] at this
  · have h0 : rows ≠ [] := fun h => e (by rw [h]; rfl)
    change ((rows.map (mapR f)).getD ((rows.map (mapR f)).length - 1) zSp).f0 < ((rows.map (mapR f)).getD ((rows.map (mapR f)).length - 1) zSp).f1
    rw [getD_mapR, List.length_map]
    have := (mapR_full k (ok.last h0)).2
    rwa [emp_lt] at this
theorem anyB_false {p : Sp → Bool} {l : List Sp} (h : ∀ x ∈ l, p x = false) : ¬ l.any p = true := by
  intro e
  obtain ⟨x, hx, hp⟩ := List.any_eq_true.1 e
  rw [h x hx] at hp
  cases hp
theorem secChk_ok {low : Int} {rows : List Sp} (ok : SecOk low rows) : secChk low rows = 0 := by
  have h1 := ok.len
  have h2 := ok.lo
  have h3 := ok.hi
  unfold secChk
  rw [if_neg (by omega), if_neg (by omega), if_neg (anyB_false (fun r hr => by have := ok.inr r hr; unfold outB; simp; omega))]
  by_cases h0 : rows = []
  · rw [if_pos h0, if_pos (ok.nil h0)]
  · have f := ok.first h0
    have g := ok.last h0
    rw [if_neg h0, if_neg (by unfold empB; simp only [Bool.or_eq_true, decide_eq_true_eq]; omega), if_neg (anyB_false (fun r hr => by have := ok.good r hr; unfold badB empB; simp; omega))]
theorem validS_self {low : Int} {rows : List Sp} (ok : SecOk low rows) : validS low rows = (low, rows) := by
  unfold validS; rw [if_pos (secChk_ok ok)]
theorem mir_ok {v : Int × List Sp} (ok : SecOk v.1 v.2) : SecOk (mirV v).1 (mirV v).2 :=
  mapR_ok mir_keeps ok ok.nil ok.lo ok.hi (fun r hr h => by have := ok.inr r hr; unfold mirS; simp only; omega)
theorem sumLen_mapR {f : Sp → Sp} (k : Keeps f) (hf : ∀ r : Sp, (f r).f1 - (f r).f0 = r.f1 - r.f0) : ∀ rows : List Sp, sumLen (rows.map (mapR f)) = sumLen rows
  | [] => rfl
  | r :: rs => by
    rw [List.map_cons, sumLen_cons, sumLen_cons, sumLen_mapR k hf rs]
    have : lenS (mapR f r) = lenS r := by
      by_cases he : r.f0 < r.f1
      · have h := k.lt r he
        have g := hf r
        rw [(mapR_full k he).1]
        unfold lenS
        rw [if_pos h, if_pos he]
        exact g
      · rw [mapR_emp f he]
        unfold lenS
        rw [if_neg he]
        rfl
    omega
theorem areaS_ok {low : Int} {rows : List Sp} (ok : SecOk low rows) : areaS low rows = 10 * sumLen rows := by
  unfold areaS; rw [validS_self ok]
theorem mir_area {v : Int × List Sp} (ok : SecOk v.1 v.2) : areaS (mirV v).1 (mirV v).2 = areaS v.1 v.2 := by
  rw [areaS_ok ok, areaS_ok (mir_ok ok)]
  unfold mirV
  rw [sumLen_mapR mir_keeps (fun r => by unfold mirS; simp only; omega)]
/-! ### bounds -/
theorem bndX_mir : ∀ (rs : List Sp) (a b : Int), bndX (rs.map (mapR mirS)) (-b) (-a) = (-(bndX rs a b).2, -(bndX rs a b).1)
  | [], _, _ => rfl
  | r :: rs, a, b => by
    rw [List.map_cons]
    by_cases he : r.f0 < r.f1
    · rw [(mapR_full mir_keeps he).1]
      simp only [bndX]
      rw [emp_of (mir_keeps.lt r he), emp_of he, if_neg (by decide), if_neg (by decide)]
      unfold mirS
      simp only
      rw [show mn (-b) (-r.f1) = -(mx b r.f1) by rw [mn_eq, mx_eq]; omega, show mx (-a) (-r.f0) = -(mn a r.f0) by rw [mn_eq, mx_eq]; omega]
      exact bndX_mir rs _ _
    · rw [mapR_emp mirS he]
      simp only [bndX]
      rw [if_pos (show empB zSp = true by decide), if_pos (show empB r = true by unfold empB; simp only [decide_eq_true_eq]; omega)]
      exact bndX_mir rs a b
theorem bndS_ok {low : Int} {rows : List Sp} (ok : SecOk low rows) (h : rows ≠ []) : bndS low rows = ((bndX rows (rows.getD 0 zSp).f0 (rows.getD 0 zSp).f1).1, (bndX rows (rows.getD 0 zSp).f0 (rows.getD 0 zSp).f1).2, 10 * low, 10 * (low + rows.length)) := by
  unfold bndS
  rw [validS_self ok]
  unfold bndV
  simp only
  rw [if_neg h]
theorem bndS_mir {v : Int × List Sp} (ok : SecOk v.1 v.2) (h : v.2 ≠ []) : bndS (mirV v).1 (mirV v).2 = (-(bndS v.1 v.2).2.1, -(bndS v.1 v.2).1, (bndS v.1 v.2).2.2.1, (bndS v.1 v.2).2.2.2) := by
  have h2 : (mirV v).2 ≠ [] := by unfold mirV; simpa using h
  rw [bndS_ok ok h, bndS_ok (mir_ok ok) h2]
  unfold mirV
  simp only
  rw [getD_mapR, (mapR_full mir_keeps (ok.first h)).1, List.length_map]
  have := bndX_mir v.2 (v.2.getD 0 zSp).f0 (v.2.getD 0 zSp).f1
  unfold mirS at this ⊢
  simp only at this ⊢
  rw [this]
/-! ### Flip -/
def flipV (v : Int × List Sp) : Int × List Sp := (-v.1 - v.2.length, v.2.reverse)
theorem getD_rev (rows : List Sp) {i : Nat} (h : i < rows.length) : rows.reverse.getD i zSp = rows.getD (rows.length - 1 - i) zSp := by
  rw [List.getD_eq_getElem?_getD, List.getD_eq_getElem?_getD, List.getElem?_reverse h]
theorem nrm_good {r : Sp} (h : r.f0 < r.f1 ∨ (r.f0 = 0 ∧ r.f1 = 0)) : nrm (r.f0, r.f1) = r := by
  unfold nrm
  rcases h with h | ⟨h1, h2⟩
  · rw [if_neg (by simp only; omega)]
  · rw [if_pos (by simp only; omega)]
    obtain ⟨a, b⟩ := r
    simp only at h1 h2
    rw [h1, h2]
theorem section_Flip_ev (low : Int) (rows : List Sp) : Ev (fun k => section_Flip.f k low rows) (flipV (validS low rows)) := by
  unfold section_Flip.f
  refine Ev.bind (section_valid_ev low rows) ?_
  have ok := validS_ok low rows
  generalize validS low rows = v at ok ⊢
  obtain ⟨lo, rs⟩ := v
  simp only at ok ⊢
  have h1 := ok.lo
  have h2 := ok.hi
  have hn := ok.len
  have hg : ∀ i, i < rs.length → section_Flip_1.f (i : Int) lo rs (rs.length : Int) = some ((rs.getD (rs.length - 1 - i) zSp).f0, (rs.getD (rs.length - 1 - i) zSp).f1) := by
    intro i hi
    have hw : wrap64 (wrap64 ((rs.length : Int) - 1) - i) = ((rs.length - 1 - i : Nat) : Int) := by rw [w64 (n := (rs.length : Int) - 1) (by omega) (by omega), w64 (by omega) (by omega)]; omega
    have hx : rs[rs.length - 1 - i]? = some (rs.getD (rs.length - 1 - i) zSp) := by rw [List.getD_eq_getElem?_getD, List.getElem?_eq_getElem (by omega)]; rfl
    unfold section_Flip_1.f
    rw [hw, if_pos (by omega), if_pos (by omega), rdS_at hx]
  have hb := section_build_ev (low := -lo - rs.length) (n := rs.length) (row := fun i_ => section_Flip_1.f i_ lo rs (rs.length : Int)) (g := fun i => ((rs.getD (rs.length - 1 - i) zSp).f0, (rs.getD (rs.length - 1 - i) zSp).f1)) (by omega) ⟨by omega, by omega⟩ hg
  have e : ((List.range rs.length).map fun i => nrm ((rs.getD (rs.length - 1 - i) zSp).f0, (rs.getD (rs.length - 1 - i) zSp).f1)) = rs.reverse := by
    refine List.ext_getElem (by simp) (fun i h1 h2 => ?_)
    simp at h1
    simp only [List.getElem_map, List.getElem_range, List.getElem_reverse]
    rw [List.getD_eq_getElem?_getD, List.getElem?_eq_getElem (by omega)]
    exact nrm_good (ok.good _ (List.getElem_mem _))
  have hid : bldL (-lo - rs.length) rs.reverse 0 0 [] = (-lo - rs.length, rs.reverse) := by
    by_cases h0 : rs = []
    · have := ok.nil h0
      subst h0 this
      rfl
    · have hp := List.length_pos_iff.2 h0
      refine bldL_id (by simpa using h0) ?_ ?_
      · rw [getD_rev rs hp, Nat.sub_zero]; exact emp_of (ok.last h0)
      · rw [List.length_reverse, getD_rev rs (by omega), show rs.length - 1 - (rs.length - 1) = 0 by omega]; exact emp_of (ok.first h0)
  rw [e, hid] at hb
  have w1 : wrap64 (wrap64 (-lo) - (rs.length : Int)) = -lo - rs.length := by rw [w64 (n := -lo) (by omega) (by omega), w64 (by omega) (by omega)]
  rw [w1]
  refine Ev.bind (a := flipV (lo, rs)) ?_ ?_
  · exact hb
  · exact Ev.now _
theorem flip_ok {v : Int × List Sp} (ok : SecOk v.1 v.2) (h0 : v.2 ≠ []) : SecOk (flipV v).1 (flipV v).2 := by
  have hn := ok.len
  have h1 := ok.lo
  have h2 := ok.hi
  have hp := List.length_pos_iff.2 h0
  refine ⟨by simpa [flipV] using hn, by simp only [flipV]; omega, by simp only [flipV, List.length_reverse]; omega, fun r hr => ok.inr r (by simpa [flipV] using hr), fun r hr => ok.good r (by simpa [flipV] using hr), fun e => absurd (by simpa [flipV] using e) h0, fun _ => ?_, fun _ => ?_⟩
  · change (v.2.reverse.getD 0 zSp).f0 < (v.2.reverse.getD 0 zSp).f1
    rw [getD_rev v.2 hp, Nat.sub_zero]; exact ok.last h0
  · change (v.2.reverse.getD (v.2.reverse.length - 1) zSp).f0 < (v.2.reverse.getD (v.2.reverse.length - 1) zSp).f1
    rw [List.length_reverse, getD_rev v.2 (by omega), show v.2.length - 1 - (v.2.length - 1) = 0 by omega]; exact ok.first h0
theorem bndX_lim : ∀ (rs : List Sp) (a b : Int), ((bndX rs a b).1 ≤ a ∧ b ≤ (bndX rs a b).2 ∧ ∀ r ∈ rs, r.f0 < r.f1 → (bndX rs a b).1 ≤ r.f0 ∧ r.f1 ≤ (bndX rs a b).2) ∧
    ((bndX rs a b).1 = a ∨ ∃ r ∈ rs, r.f0 < r.f1 ∧ (bndX rs a b).1 = r.f0) ∧ ((bndX rs a b).2 = b ∨ ∃ r ∈ rs, r.f0 < r.f1 ∧ (bndX rs a b).2 = r.f1)
  | [], a, b => ⟨⟨by simp [bndX], by simp [bndX], fun r hr => by cases hr⟩, Or.inl rfl, Or.inl rfl⟩
  | q :: r, a, b => by
    simp only [bndX]
    by_cases h : q.f0 < q.f1
    · rw [emp_of h, if_neg (by decide)]
      obtain ⟨⟨i1, i2, i3⟩, i4, i5⟩ := bndX_lim r (mn a q.f0) (mx b q.f1)
      have e1 := mn_eq a q.f0
      have e2 := mx_eq b q.f1
      refine ⟨⟨by omega, by omega, fun x hx hl => ?_⟩, ?_, ?_⟩
      · rcases List.mem_cons.1 hx with e | hx
        · subst e; omega
        · exact i3 x hx hl
      · rcases i4 with i4 | ⟨x, hx, hl, e⟩
        · by_cases c : a ≤ q.f0
          · left; omega
          · right; exact ⟨q, by simp, h, by omega⟩
        · right; exact ⟨x, by simp [hx], hl, e⟩
      · rcases i5 with i5 | ⟨x, hx, hl, e⟩
        · by_cases c : q.f1 ≤ b
          · left; omega
          · right; exact ⟨q, by simp, h, by omega⟩
        · right; exact ⟨x, by simp [hx], hl, e⟩
    · rw [if_pos (show empB q = true by unfold empB; simp only [decide_eq_true_eq]; omega)]
      obtain ⟨⟨i1, i2, i3⟩, i4, i5⟩ := bndX_lim r a b
      refine ⟨⟨i1, i2, fun x hx hl => ?_⟩, ?_, ?_⟩
      · rcases List.mem_cons.1 hx with e | hx
        · subst e; exact absurd hl h
        · exact i3 x hx hl
      · rcases i4 with i4 | ⟨x, hx, hl, e⟩
        · exact Or.inl i4
        · right; exact ⟨x, by simp [hx], hl, e⟩
      · rcases i5 with i5 | ⟨x, hx, hl, e⟩
        · exact Or.inl i5
        · right; exact ⟨x, by simp [hx], hl, e⟩
theorem bndX_same {rs rs' : List Sp} (hm : ∀ r, r ∈ rs ↔ r ∈ rs') {r0 r1 : Sp} (h0 : r0 ∈ rs) (e0 : r0.f0 < r0.f1) (h1 : r1 ∈ rs') (e1 : r1.f0 < r1.f1) : bndX rs r0.f0 r0.f1 = bndX rs' r1.f0 r1.f1 := by
  obtain ⟨⟨a1, a2, a3⟩, a4, a5⟩ := bndX_lim rs r0.f0 r0.f1
  obtain ⟨⟨b1, b2, b3⟩, b4, b5⟩ := bndX_lim rs' r1.f0 r1.f1
  have c1 : (bndX rs r0.f0 r0.f1).1 ≤ (bndX rs' r1.f0 r1.f1).1 := by
    rcases b4 with e | ⟨x, hx, hl, e⟩
    · rw [e]; exact (a3 r1 ((hm _).2 h1) e1).1
    · rw [e]; exact (a3 x ((hm _).2 hx) hl).1
  have c2 : (bndX rs' r1.f0 r1.f1).1 ≤ (bndX rs r0.f0 r0.f1).1 := by
    rcases a4 with e | ⟨x, hx, hl, e⟩
    · rw [e]; exact (b3 r0 ((hm _).1 h0) e0).1
    · rw [e]; exact (b3 x ((hm _).1 hx) hl).1
  have c3 : (bndX rs' r1.f0 r1.f1).2 ≤ (bndX rs r0.f0 r0.f1).2 := by
    rcases b5 with e | ⟨x, hx, hl, e⟩
    · rw [e]; exact (a3 r1 ((hm _).2 h1) e1).2
    · rw [e]; exact (a3 x ((hm _).2 hx) hl).2
  have c4 : (bndX rs r0.f0 r0.f1).2 ≤ (bndX rs' r1.f0 r1.f1).2 := by
    rcases a5 with e | ⟨x, hx, hl, e⟩
    · rw [e]; exact (b3 r0 ((hm _).1 h0) e0).2
    · rw [e]; exact (b3 x ((hm _).1 hx) hl).2
  exact Prod.ext (by omega) (by omega)
theorem getD_in {rows : List Sp} {i : Nat} (h : i < rows.length) : rows.getD i zSp ∈ rows := by
  rw [List.getD_eq_getElem?_getD, List.getElem?_eq_getElem h]; exact List.getElem_mem h
theorem bndS_flip {v : Int × List Sp} (ok : SecOk v.1 v.2) (h : v.2 ≠ []) : bndS (flipV v).1 (flipV v).2 = ((bndS v.1 v.2).1, (bndS v.1 v.2).2.1, -(bndS v.1 v.2).2.2.2, -(bndS v.1 v.2).2.2.1) := by
  have hp := List.length_pos_iff.2 h
  have h2 : (flipV v).2 ≠ [] := by unfold flipV; simpa using h
  rw [bndS_ok ok h, bndS_ok (flip_ok ok h) h2]
  have ff := (flip_ok ok h).first h2
  have key : bndX (flipV v).2 ((flipV v).2.getD 0 zSp).f0 ((flipV v).2.getD 0 zSp).f1 = bndX v.2 (v.2.getD 0 zSp).f0 (v.2.getD 0 zSp).f1 :=
    bndX_same (fun r => by simp [flipV]) (getD_in (List.length_pos_iff.2 h2)) ff (getD_in hp) (ok.first h)
  rw [key]
  unfold flipV
  simp only [List.length_reverse]
  rw [show 10 * (-v.1 - (v.2.length : Int)) = -(10 * (v.1 + v.2.length)) by omega, show 10 * (-v.1 - (v.2.length : Int) + v.2.length) = -(10 * v.1) by omega]
theorem flip_area {v : Int × List Sp} (ok : SecOk v.1 v.2) (h : v.2 ≠ []) : areaS (flipV v).1 (flipV v).2 = areaS v.1 v.2 := by
  rw [areaS_ok ok, areaS_ok (flip_ok ok h)]
  unfold flipV sumLen
  rw [List.map_reverse, List.sum_reverse]
/-! ### Shift -/
def shfS (d : Int) (r : Sp) : Sp := ⟨r.f0 + d, r.f1 + d⟩
theorem shf_keeps (d : Int) : Keeps (shfS d) := ⟨fun r h => by unfold shfS; simp only; omega⟩
def shfV (d k : Int) (v : Int × List Sp) : Int × List Sp := (v.1 + k, v.2.map (mapR (shfS d)))
theorem section_Shift_ev {low : Int} {rows : List Sp} (ok : SecOk low rows) (h0 : rows ≠ []) {d k : Int} (hd : -1200 ≤ d ∧ d ≤ 1200) (hk : -120 ≤ k ∧ k ≤ 120) :
    Ev (fun j => section_Shift.f j low rows d k) (validS (shfV d k (low, rows)).1 (shfV d k (low, rows)).2) := by
  have h1 := ok.lo
  have h2 := ok.hi
  unfold section_Shift.f
  refine Ev.bind (section_valid_ev low rows) ?_
  rw [validS_self ok]
  have hl : ¬ (rows.length : Int) = 0 := by have := List.length_pos_iff.2 h0; omega
  simp only [if_neg hl, if_neg (show ¬ d < -1200 by omega), if_neg (show ¬ d > 1200 by omega), if_neg (show ¬ k < -120 by omega), decide_eq_false (show ¬ k > 120 by omega)]
  refine Ev.step (fun j => by rw [section_Shift.j0, if_neg (by decide)]) ?_
  rw [w64 (n := low + k) (by omega) (by omega)]
  refine Ev.bind (a := shfV d k (low, rows)) ?_ ?_
  · exact mapped_ev (shf_keeps d) ok (fn := fun x_ y_ => section_Shift_1.f x_ y_ d) (fun r hr h => by
      have := ok.inr r hr
      unfold section_Shift_1.f shfS
      rw [w64 (by omega) (by omega), w64 (by omega) (by omega)]) (low + k) (fun e => absurd e h0) ⟨by omega, by omega⟩
  · exact Ev.bind (section_valid_ev _ _) (Ev.now _)
theorem bndX_shf (d : Int) : ∀ (rs : List Sp) (a b : Int), bndX (rs.map (mapR (shfS d))) (a + d) (b + d) = ((bndX rs a b).1 + d, (bndX rs a b).2 + d)
  | [], _, _ => rfl
  | r :: rs, a, b => by
    rw [List.map_cons]
    by_cases he : r.f0 < r.f1
    · rw [(mapR_full (shf_keeps d) he).1]
      simp only [bndX]
      rw [emp_of ((shf_keeps d).lt r he), emp_of he, if_neg (by decide), if_neg (by decide)]
      unfold shfS
      simp only
      rw [show mn (a + d) (r.f0 + d) = mn a r.f0 + d by rw [mn_eq, mn_eq]; omega, show mx (b + d) (r.f1 + d) = mx b r.f1 + d by rw [mx_eq, mx_eq]; omega]
      exact bndX_shf d rs _ _
    · rw [mapR_emp (shfS d) he]
      simp only [bndX]
      rw [if_pos (show empB zSp = true by decide), if_pos (show empB r = true by unfold empB; simp only [decide_eq_true_eq]; omega)]
      exact bndX_shf d rs a b
theorem bndS_shf {v : Int × List Sp} (ok : SecOk v.1 v.2) (h : v.2 ≠ []) {d k : Int} (ok2 : SecOk (shfV d k v).1 (shfV d k v).2) : bndS (shfV d k v).1 (shfV d k v).2 = ((bndS v.1 v.2).1 + d, (bndS v.1 v.2).2.1 + d, (bndS v.1 v.2).2.2.1 + 10 * k, (bndS v.1 v.2).2.2.2 + 10 * k) := by
  have h2 : (shfV d k v).2 ≠ [] := by unfold shfV; simpa using h
  rw [bndS_ok ok h, bndS_ok ok2 h2]
  unfold shfV
  simp only
  rw [getD_mapR, (mapR_full (shf_keeps d) (ok.first h)).1, List.length_map]
  have := bndX_shf d v.2 (v.2.getD 0 zSp).f0 (v.2.getD 0 zSp).f1
  change bndX (v.2.map (mapR (shfS d))) (shfS d (v.2.getD 0 zSp)).f0 (shfS d (v.2.getD 0 zSp)).f1 = _ at this
  rw [this, show 10 * (v.1 + k) = 10 * v.1 + 10 * k by omega, show 10 * (v.1 + k + (v.2.length : Int)) = 10 * (v.1 + v.2.length) + 10 * k by omega]
theorem shf_area {v : Int × List Sp} (ok : SecOk v.1 v.2) {d k : Int} (ok2 : SecOk (shfV d k v).1 (shfV d k v).2) : areaS (shfV d k v).1 (shfV d k v).2 = areaS v.1 v.2 := by
  rw [areaS_ok ok, areaS_ok ok2]
  unfold shfV
  rw [sumLen_mapR (shf_keeps d) (fun r => by unfold shfS; simp only; omega)]
end Go.Proofs.Ytdbjoopkliafeaa.P
