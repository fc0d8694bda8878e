/- Sections as rows at places: what build makes, what the common part of two sections is. -/
import Derived.Test.YtboegckbilnldaaCSolidPartsV7
import Derived.Test.YtboegckbilnldaaCSolidPartsTBld
set_option linter.unusedVariables false
set_option linter.unusedSimpArgs false
namespace Go.Proofs.Ytboegckbilnldaa.P
open Go Go.RowKit Go.Proofs.YtboegckbilnldaaW.PrintWords Go.Proofs.YtboegckbilnldaaW.PrintLast Go.Proofs.YtboegckbilnldaaW.PrintMore
abbrev zS : Sp := ⟨0, 0⟩
/-- The row at a place. -/
def rowAt (low : Int) (rows : List Sp) (j : Int) : Sp := if low ≤ j then rows.getD (j - low).toNat zS else zS
theorem rowAt_lt {low : Int} {rows : List Sp} {j : Int} (h : j < low) : rowAt low rows j = zS := by unfold rowAt; rw [if_neg (by omega)]
theorem getD_ge (rows : List Sp) {i : Nat} (h : rows.length ≤ i) : rows.getD i zS = zS := by
  rw [List.getD_eq_getElem?_getD, List.getElem?_eq_none h]; rfl
theorem rowAt_ge {low : Int} {rows : List Sp} {j : Int} (h : low + rows.length ≤ j) : rowAt low rows j = zS := by
  unfold rowAt
  by_cases h2 : low ≤ j
  · rw [if_pos h2]; exact getD_ge rows (by omega)
  · rw [if_neg h2]
theorem rowAt_nat (low : Int) (rows : List Sp) (i : Nat) : rowAt low rows (low + i) = rows.getD i zS := by
  unfold rowAt
  rw [if_pos (by omega), show (low + (i : Int) - low).toNat = i by omega]
theorem rowAt_nil (low j : Int) : rowAt low [] j = zS := by unfold rowAt; split <;> simp
theorem rowAt_cons (low : Int) (s : Sp) (r : List Sp) (j : Int) : rowAt low (s :: r) j = if j = low then s else rowAt (low + 1) r j := by
  unfold rowAt
  by_cases h : j = low
  · rw [if_pos h, if_pos (by omega), show (j - low).toNat = 0 by omega]; rfl
  · rw [if_neg h]
    by_cases h2 : low ≤ j
    · rw [if_pos h2, if_pos (by omega), show (j - low).toNat = (j - (low + 1)).toNat + 1 by omega]; rfl
    · rw [if_neg h2, if_neg (by omega)]
theorem getDm {rows : List Sp} {i : Nat} (h : i < rows.length) : rows.getD i zS ∈ rows := by
  rw [List.getD_eq_getElem?_getD, List.getElem?_eq_getElem h]; exact List.getElem_mem h
/-- Two valid sections with the same rows are the same. -/
theorem sec_ext {al bl : Int} {ar br : List Sp} (ha : SecOk al ar) (hb : SecOk bl br) (h : ∀ j, rowAt al ar j = rowAt bl br j) : al = bl ∧ ar = br := by
  have z1 : ∀ {x : Sp}, x.f0 < x.f1 → x ≠ zS := by intro x hx e; subst e; exact absurd hx (by decide)
  have fst : ∀ {l : Int} {r : List Sp}, SecOk l r → r ≠ [] → rowAt l r l ≠ zS := by
    intro l r ok hr
    have := rowAt_nat l r 0
    rw [show l + ((0 : Nat) : Int) = l by omega] at this
    rw [this]
    exact z1 (ok.first hr)
  have lst : ∀ {l : Int} {r : List Sp}, SecOk l r → r ≠ [] → rowAt l r (l + (r.length - 1 : Nat)) ≠ zS := by
    intro l r ok hr
    rw [rowAt_nat]
    exact z1 (ok.last hr)
  by_cases a0 : ar = []
  · by_cases b0 : br = []
    · rw [ha.nil a0, hb.nil b0, a0, b0]; exact ⟨rfl, rfl⟩
    · exact absurd (by rw [← h, a0, rowAt_nil]) (fst hb b0)
  · by_cases b0 : br = []
    · exact absurd (by rw [h, b0, rowAt_nil]) (fst ha a0)
    · have pa := List.length_pos_iff.2 a0
      have pb := List.length_pos_iff.2 b0
      have e1 : al = bl := by
        by_cases h1 : al < bl
        · exact absurd (by rw [h, rowAt_lt h1]) (fst ha a0)
        · by_cases h2 : bl < al
          · exact absurd (by rw [← h, rowAt_lt h2]) (fst hb b0)
          · omega
      subst e1
      have e2 : ar.length = br.length := by
        by_cases h1 : ar.length < br.length
        · exact absurd (by rw [← h, rowAt_ge (by omega)]) (lst hb b0)
        · by_cases h2 : br.length < ar.length
          · exact absurd (by rw [h, rowAt_ge (by omega)]) (lst ha a0)
          · omega
      refine ⟨rfl, List.ext_getElem e2 (fun i h1 h2 => ?_)⟩
      have := h (al + i)
      rw [rowAt_nat, rowAt_nat, List.getD_eq_getElem?_getD, List.getD_eq_getElem?_getD, List.getElem?_eq_getElem h1, List.getElem?_eq_getElem h2] at this
      exact this
theorem any_false {α : Type} {p : α → Bool} {l : List α} (h : ∀ x ∈ l, p x = false) : ¬ l.any p = true := by
  intro e
  obtain ⟨x, hx, hp⟩ := List.any_eq_true.1 e
  rw [h x hx] at hp
  cases hp
/-- What is valid has no error. -/
theorem secChk_of {low : Int} {rows : List Sp} (ok : SecOk low rows) : secChk low rows = 0 := by
  have h1 := ok.len
  have h2 := ok.lo
  have h3 := ok.hi
  unfold secChk
  rw [if_neg (by omega), if_neg (by omega), if_neg (any_false (fun r hr => by have := ok.inr r hr; unfold outB; simp; omega))]
  by_cases h0 : rows = []
  · rw [if_pos h0, if_pos (ok.nil h0)]
  · have f := ok.first h0
    have g := ok.last h0
    rw [if_neg h0, if_neg (by unfold empB; simp only [Bool.or_eq_true, decide_eq_true_eq]; omega), if_neg (any_false (fun r hr => by have := ok.good r hr; unfold badB empB; simp; omega))]
theorem validS_of {low : Int} {rows : List Sp} (ok : SecOk low rows) : validS low rows = (low, rows) := by
  unfold validS; rw [if_pos (secChk_of ok)]
/-! ### build -/
structure BInv (p kept low : Int) (out : List Sp) : Prop where
  e : out = [] → kept = 0 ∧ low = 0
  pos : out ≠ [] → low + out.length = p
  k : out ≠ [] → 1 ≤ kept ∧ kept ≤ out.length
  f : out ≠ [] → (out.getD 0 zS).f0 < (out.getD 0 zS).f1
  l : out ≠ [] → (out.getD (kept.toNat - 1) zS).f0 < (out.getD (kept.toNat - 1) zS).f1
  z : ∀ i, kept.toNat ≤ i → out.getD i zS = zS
structure BRes (p low : Int) (out rs : List Sp) (v : Int × List Sp) : Prop where
  row : ∀ j, rowAt v.1 v.2 j = if out = [] then rowAt p rs j else rowAt low (out ++ rs) j
  nil : v.2 = [] → v.1 = 0
  first : v.2 ≠ [] → (v.2.getD 0 zS).f0 < (v.2.getD 0 zS).f1
  last : v.2 ≠ [] → (v.2.getD (v.2.length - 1) zS).f0 < (v.2.getD (v.2.length - 1) zS).f1
  mem : ∀ r ∈ v.2, r ∈ out ∨ r ∈ rs
  lo : v.2 ≠ [] → if out = [] then p ≤ v.1 else v.1 = low
  hi : v.2 ≠ [] → v.1 + v.2.length ≤ p + rs.length
theorem getD_take (out : List Sp) {k i : Nat} (h : i < k) : (out.take k).getD i zS = out.getD i zS := by
  rw [List.getD_eq_getElem?_getD, List.getD_eq_getElem?_getD, List.getElem?_take, if_pos h]
theorem getD_append (out : List Sp) (s : Sp) {i : Nat} : (out ++ [s]).getD i zS = if i < out.length then out.getD i zS else if i = out.length then s else zS := by
  by_cases h : i < out.length
  · rw [if_pos h, List.getD_eq_getElem?_getD, List.getD_eq_getElem?_getD, List.getElem?_append_left h]
  · rw [if_neg h]
    by_cases h2 : i = out.length
    · rw [if_pos h2, List.getD_eq_getElem?_getD, List.getElem?_append_right (by omega), h2]; simp
    · rw [if_neg h2]; exact getD_ge _ (by simp; omega)
theorem emp_iff (s : Sp) : empB s = true ↔ ¬ s.f0 < s.f1 := by unfold empB; simp
theorem bldL_spec : ∀ (rs : List Sp) (p kept low : Int) (out : List Sp), BInv p kept low out → (∀ s ∈ rs, empB s = true → s = zS) → BRes p low out rs (bldL p rs kept low out)
  | [], p, kept, low, out, inv, _ => by
    rw [bldL]
    by_cases h0 : out = []
    · obtain ⟨e1, e2⟩ := inv.e h0
      subst h0 e1 e2
      exact ⟨fun j => by simp [rowAt_nil], fun _ => rfl, fun h => absurd (by simp) h, fun h => absurd (by simp) h, fun r hr => by simp at hr, fun h => absurd (by simp) h, fun h => absurd (by simp) h⟩
    · have k := inv.k h0
      have hl : (out.take kept.toNat).length = kept.toNat := by rw [List.length_take]; omega
      refine ⟨fun j => ?_, fun h => ?_, fun _ => ?_, fun _ => ?_, fun r hr => Or.inl (List.mem_of_mem_take hr), fun _ => ?_, fun _ => ?_⟩
      · rw [if_neg h0, List.append_nil]
        simp only
        unfold rowAt
        by_cases h1 : low ≤ j
        · rw [if_pos h1, if_pos h1]
          by_cases h2 : (j - low).toNat < kept.toNat
          · exact getD_take out h2
          · rw [getD_ge _ (by rw [hl]; omega), inv.z _ (by omega)]
        · rw [if_neg h1, if_neg h1]
      · simp only at h
        rw [h] at hl
        simp at hl
        omega
      · simp only
        rw [getD_take out (by omega)]
        exact inv.f h0
      · simp only
        rw [hl, getD_take out (by omega)]
        exact inv.l h0
      · rw [if_neg h0]
      · simp only
        have := inv.pos h0
        rw [hl]
        simp only [List.length_nil]
        omega
  | s :: r, p, kept, low, out, inv, hz => by
    rw [bldL]
    by_cases c : out = [] ∧ empB s = true
    · obtain ⟨h0, he⟩ := c
      rw [if_pos ⟨h0, he⟩]
      subst h0
      have inv2 : BInv (p + 1) kept low [] := ⟨inv.e, fun h => absurd rfl h, fun h => absurd rfl h, fun h => absurd rfl h, fun h => absurd rfl h, fun i _ => rfl⟩
      have ih := bldL_spec r (p + 1) kept low [] inv2 (fun x hx => hz x (by simp [hx]))
      refine ⟨fun j => ?_, ih.nil, ih.first, ih.last, fun x hx => ?_, fun h => ?_, fun h => ?_⟩
      · rw [ih.row j, if_pos rfl, if_pos rfl, rowAt_cons]
        by_cases hj : j = p
        · rw [if_pos hj, hz s (by simp) he, rowAt_lt (by omega)]
        · rw [if_neg hj]
      · rcases ih.mem x hx with h | h
        · exact Or.inl h
        · exact Or.inr (by simp [h])
      · have := ih.lo h
        rw [if_pos rfl] at this ⊢
        omega
      · have := ih.hi h
        simp only [List.length_cons]
        omega
    · rw [if_neg c]
      have ne : out ++ [s] ≠ [] := by simp
      have inv2 : BInv (p + 1) (if empB s = true then kept else (out.length : Int) + 1) (if out = [] then p else low) (out ++ [s]) := by
        refine ⟨fun h => absurd h ne, fun _ => ?_, fun _ => ?_, fun _ => ?_, fun _ => ?_, fun i hi => ?_⟩
        · by_cases h0 : out = []
          · rw [if_pos h0, h0]; simp
          · rw [if_neg h0]; have := inv.pos h0; simp; omega
        · by_cases he : empB s = true
          · rw [if_pos he]
            have h0 : out ≠ [] := fun h => c ⟨h, he⟩
            have := inv.k h0
            simp only [List.length_append, List.length_singleton]
            omega
          · rw [if_neg he]; simp; omega
        · rw [getD_append]
          by_cases h0 : out = []
          · subst h0
            have he : ¬ empB s = true := fun h => c ⟨rfl, h⟩
            rw [emp_iff] at he
            simp only [List.length_nil, Nat.lt_irrefl, if_false, if_true]
            omega
          · have := List.length_pos_iff.2 h0
            rw [if_pos this]
            exact inv.f h0
        · by_cases he : empB s = true
          · have h0 : out ≠ [] := fun h => c ⟨h, he⟩
            have := inv.k h0
            rw [if_pos he, getD_append, if_pos (by omega)]
            exact inv.l h0
          · rw [if_neg he, show ((out.length : Int) + 1).toNat - 1 = out.length by omega, getD_append, if_neg (by omega), if_pos rfl]
            rw [emp_iff] at he
            omega
        · rw [getD_append]
          by_cases he : empB s = true
          · rw [if_pos he] at hi
            by_cases h1 : i < out.length
            · rw [if_pos h1]; exact inv.z i hi
            · rw [if_neg h1]
              by_cases h2 : i = out.length
              · rw [if_pos h2]; exact hz s (by simp) he
              · rw [if_neg h2]
          · rw [if_neg he] at hi
            rw [if_neg (by omega), if_neg (by omega)]
      have ih := bldL_spec r (p + 1) _ _ (out ++ [s]) inv2 (fun x hx => hz x (by simp [hx]))
      generalize bldL (p + 1) r (if empB s = true then kept else (out.length : Int) + 1) (if out = [] then p else low) (out ++ [s]) = v at ih ⊢
      refine ⟨fun j => ?_, ih.nil, ih.first, ih.last, fun x hx => ?_, fun h => ?_, fun h => ?_⟩
      · rw [ih.row j, if_neg ne]
        by_cases h0 : out = []
        · subst h0; rw [if_pos rfl, if_pos rfl]; rfl
        · rw [if_neg h0, if_neg h0, List.append_assoc]; rfl
      · rcases ih.mem x hx with h | h
        · rcases List.mem_append.1 h with h | h
          · exact Or.inl h
          · exact Or.inr (by simp at h; simp [h])
        · exact Or.inr (by simp [h])
      · have := ih.lo h
        rw [if_neg ne] at this
        by_cases h0 : out = []
        · rw [if_pos h0] at this ⊢; omega
        · rw [if_neg h0] at this ⊢; exact this
      · have := ih.hi h
        simp only [List.length_cons]
        omega
/-- What build makes of rows in range is valid, and has these rows. -/
theorem bldL_ok {rs : List Sp} {p : Int} (hp : -60 ≤ p) (hn : p + rs.length ≤ 60) (hr : ∀ r ∈ rs, (r.f0 < r.f1 ∧ -600 ≤ r.f0 ∧ r.f1 ≤ 600) ∨ r = zS) :
    SecOk (bldL p rs 0 0 []).1 (bldL p rs 0 0 []).2 ∧ ∀ j, rowAt (bldL p rs 0 0 []).1 (bldL p rs 0 0 []).2 j = rowAt p rs j := by
  have inv : BInv p 0 0 [] := ⟨fun _ => ⟨rfl, rfl⟩, fun h => absurd rfl h, fun h => absurd rfl h, fun h => absurd rfl h, fun h => absurd rfl h, fun i _ => rfl⟩
  have hz : ∀ s ∈ rs, empB s = true → s = zS := by
    intro s hs he
    rcases hr s hs with h | h
    · rw [emp_iff] at he; omega
    · exact h
  have b := bldL_spec rs p 0 0 [] inv hz
  generalize bldL p rs 0 0 [] = v at b ⊢
  have hm : ∀ r ∈ v.2, (r.f0 < r.f1 ∧ -600 ≤ r.f0 ∧ r.f1 ≤ 600) ∨ r = zS := by
    intro r hv
    rcases b.mem r hv with h | h
    · cases h
    · exact hr r h
  have hg : ∀ r ∈ v.2, (-600 ≤ r.f0 ∧ r.f0 ≤ 600 ∧ -600 ≤ r.f1 ∧ r.f1 ≤ 600) ∧ (r.f0 < r.f1 ∨ (r.f0 = 0 ∧ r.f1 = 0)) := by
    intro r hv
    rcases hm r hv with h | h
    · omega
    · subst h; simp
  refine ⟨⟨?_, ?_, ?_, fun r hv => (hg r hv).1, fun r hv => (hg r hv).2, b.nil, b.first, b.last⟩, fun j => by rw [b.row j, if_pos rfl]⟩
  · by_cases h : v.2 = []
    · rw [h]; simp
    · have h1 := b.lo h; have h2 := b.hi h; rw [if_pos rfl] at h1; omega
  · by_cases h : v.2 = []
    · rw [b.nil h]; omega
    · have h1 := b.lo h; rw [if_pos rfl] at h1; omega
  · by_cases h : v.2 = []
    · rw [b.nil h, h]; simp
    · have h1 := b.lo h; have h2 := b.hi h; omega
/-! ### the common part -/
def mt (x y : Sp) : Sp := nrm (meetP x y)
theorem mt_eq (x y : Sp) : mt x y = if max x.f0 y.f0 < min x.f1 y.f1 then ⟨max x.f0 y.f0, min x.f1 y.f1⟩ else zS := by
  unfold mt meetP nrm
  by_cases h : max x.f0 y.f0 < min x.f1 y.f1
  · rw [if_pos h, if_pos h, if_neg (show ¬ max x.f0 y.f0 ≥ min x.f1 y.f1 by omega)]
  · rw [if_neg h, if_neg h, if_pos (show (0 : Int) ≥ 0 by omega)]
theorem mt_z1 (y : Sp) : mt zS y = zS := by rw [mt_eq, if_neg (by simp only; omega)]
theorem mt_z2 (x : Sp) : mt x zS = zS := by rw [mt_eq, if_neg (by simp only; omega)]
theorem rowAt_range (p : Int) (n : Nat) (g : Nat → Sp) (j : Int) : rowAt p ((List.range n).map g) j = if p ≤ j ∧ j < p + n then g (j - p).toNat else zS := by
  by_cases h : p ≤ j ∧ j < p + n
  · rw [if_pos h]
    unfold rowAt
    rw [if_pos h.1, List.getD_eq_getElem?_getD, List.getElem?_map, List.getElem?_range (by omega)]
    rfl
  · rw [if_neg h]
    by_cases h1 : j < p
    · exact rowAt_lt h1
    · exact rowAt_ge (by simp; omega)
theorem meetV_ok {al bl : Int} {ar br : List Sp} (ha : SecOk al ar) (hb : SecOk bl br) :
    SecOk (meetV (al, ar) (bl, br)).1 (meetV (al, ar) (bl, br)).2 ∧ ∀ j, rowAt (meetV (al, ar) (bl, br)).1 (meetV (al, ar) (bl, br)).2 j = mt (rowAt al ar j) (rowAt bl br j) := by
  have a1 := ha.len; have a2 := ha.lo; have a3 := ha.hi; have b1 := hb.len; have b2 := hb.lo; have b3 := hb.hi
  have hN : (meetN al ar bl br : Int) = max 0 (min (al + ar.length) (bl + br.length) - max al bl) := by unfold meetN; omega
  have inr : ∀ {l : Int} {r : List Sp}, SecOk l r → ∀ i, -600 ≤ (r.getD i zS).f0 ∧ (r.getD i zS).f1 ≤ 600 := by
    intro l r ok i
    by_cases h : i < r.length
    · have := ok.inr _ (getDm h); omega
    · rw [getD_ge r (by omega)]; simp
  have key := bldL_ok (rs := meetRows al ar bl br) (p := max al bl) (by omega) (by unfold meetRows; simp; omega) (by
    intro r hr
    unfold meetRows at hr
    obtain ⟨i, hi, rfl⟩ := List.mem_map.1 hr
    unfold meetRow
    change (_ ∧ _ ∧ _) ∨ mt _ _ = zS
    have i1 : -600 ≤ (ar.getD (max al bl - al + (i : Int)).toNat z29).f0 ∧ (ar.getD (max al bl - al + (i : Int)).toNat z29).f1 ≤ 600 := inr ha (max al bl - al + (i : Int)).toNat
    have i2 : -600 ≤ (br.getD (max al bl - bl + (i : Int)).toNat z29).f0 ∧ (br.getD (max al bl - bl + (i : Int)).toNat z29).f1 ≤ 600 := inr hb (max al bl - bl + (i : Int)).toNat
    generalize ar.getD (max al bl - al + (i : Int)).toNat z29 = x at i1 ⊢
    generalize br.getD (max al bl - bl + (i : Int)).toNat z29 = y at i2 ⊢
    change (((mt x y).f0 < (mt x y).f1) ∧ -600 ≤ (mt x y).f0 ∧ (mt x y).f1 ≤ 600) ∨ mt x y = zS
    rw [mt_eq]
    by_cases h : max x.f0 y.f0 < min x.f1 y.f1
    · rw [if_pos h]; exact Or.inl ⟨h, by simp only; omega, by simp only; omega⟩
    · rw [if_neg h]; exact Or.inr rfl)
  refine ⟨key.1, fun j => ?_⟩
  refine (key.2 j).trans ?_
  unfold meetRows
  rw [rowAt_range]
  by_cases h : max al bl ≤ j ∧ j < max al bl + meetN al ar bl br
  · rw [if_pos h]
    unfold meetRow rowAt
    rw [if_pos (by omega), if_pos (by omega), show (max al bl - al + ((j - max al bl).toNat : Int)).toNat = (j - al).toNat by omega, show (max al bl - bl + ((j - max al bl).toNat : Int)).toNat = (j - bl).toNat by omega]
    rfl
  · rw [if_neg h]
    by_cases c1 : j < al
    · rw [rowAt_lt c1, mt_z1]
    · by_cases c2 : j < bl
      · rw [rowAt_lt c2, mt_z2]
      · by_cases c3 : al + ar.length ≤ j
        · rw [rowAt_ge c3, mt_z1]
        · rw [rowAt_ge (low := bl) (by omega), mt_z2]
/-- A row lies in another. -/
def InS (x y : Sp) : Prop := x = zS ∨ (x.f0 < x.f1 ∧ y.f0 ≤ x.f0 ∧ x.f1 ≤ y.f1)
theorem InS.trans {x y z : Sp} (h : InS x y) (g : InS y z) : InS x z := by
  rcases h with h | h
  · exact Or.inl h
  · rcases g with g | g
    · subst g; simp at h; omega
    · exact Or.inr (by omega)
theorem mt_in (x y : Sp) : InS (mt x y) x ∧ InS (mt x y) y := by
  rw [mt_eq]
  by_cases h : max x.f0 y.f0 < min x.f1 y.f1
  · rw [if_pos h]; exact ⟨Or.inr ⟨h, by simp only; omega, by simp only; omega⟩, Or.inr ⟨h, by simp only; omega, by simp only; omega⟩⟩
  · rw [if_neg h]; exact ⟨Or.inl rfl, Or.inl rfl⟩
/-- A section lies in another. -/
def InV (v t : Int × List Sp) : Prop := ∀ j, InS (rowAt v.1 v.2 j) (rowAt t.1 t.2 j)
theorem InV.trans {a b c : Int × List Sp} (h : InV a b) (g : InV b c) : InV a c := fun j => (h j).trans (g j)
theorem meetV_in {a b : Int × List Sp} (ha : SecOk a.1 a.2) (hb : SecOk b.1 b.2) : InV (meetV a b) a ∧ InV (meetV a b) b := by
  have h := (meetV_ok ha hb).2
  exact ⟨fun j => by rw [h j]; exact (mt_in _ _).1, fun j => by rw [h j]; exact (mt_in _ _).2⟩
theorem InV.refl {a : Int × List Sp} (ha : SecOk a.1 a.2) : InV a a := by
  intro j
  unfold rowAt
  by_cases h : a.1 ≤ j
  · rw [if_pos h]
    by_cases h2 : (j - a.1).toNat < a.2.length
    · have := ha.good _ (getDm h2)
      rcases this with g | g
      · exact Or.inr ⟨g, Int.le_refl _, Int.le_refl _⟩
      · left
        generalize a.2.getD (j - a.1).toNat zS = x at g
        obtain ⟨x0, x1⟩ := x
        simp only at g
        rw [g.1, g.2]
    · rw [getD_ge _ (by omega)]; exact Or.inl rfl
  · rw [if_neg h]; exact Or.inl rfl
end Go.Proofs.Ytboegckbilnldaa.P
