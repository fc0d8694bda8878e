/- The reference's parts of solids: At, Cut and Common come to what the program's do. -/
import Derived.Test.YtboegckbilnldaaCSolidPartsV7
import Derived.Test.YtboegckbilnldaaCSolidPartsTCom
set_option linter.unusedVariables false
set_option linter.unusedSimpArgs false
namespace Go.Proofs.Ytboegckbilnldaa.P
open Go Go.RowKit Go.Proofs.YtboegckbilnldaaW.PrintWords Go.Proofs.YtboegckbilnldaaW.PrintLast Go.Proofs.YtboegckbilnldaaW.PrintMore
/-! ### Dropped -/
def nzr (s : Sp) : Sp := if empB s = true then zS else s
theorem rdS_nat (L : List Sp) (i : Nat) : rd_T29 L (i : Int) = L.getD i zS := by
  unfold rd_T29
  rw [Int.toNat_natCast]
  rfl
theorem getD_map (L : List Sp) (i : Nat) : (L.map nzr).getD i zS = nzr (L.getD i zS) := by
  by_cases h : i < L.length
  · rw [List.getD_eq_getElem?_getD, List.getD_eq_getElem?_getD, List.getElem?_map, List.getElem?_eq_getElem h]; rfl
  · rw [getD_ge _ (by simp; omega), getD_ge _ (by omega)]; rfl
/-- The rows of a list from one place to another. -/
def sl3 (L : List Sp) (i t : Nat) : List Sp := ((L.drop i).take (t - i)).map nzr
theorem sl3_getD (L : List Sp) (i t q : Nat) : (sl3 L i t).getD q zS = if q < t - i then nzr (L.getD (i + q) zS) else zS := by
  unfold sl3
  rw [getD_map]
  by_cases h : q < t - i
  · rw [if_pos h, List.getD_eq_getElem?_getD, List.getElem?_take, if_pos h, List.getElem?_drop, ← List.getD_eq_getElem?_getD]
  · rw [if_neg h, getD_ge _ (by rw [List.length_take]; omega)]; rfl
theorem sl3_length (L : List Sp) {i t : Nat} (h : i ≤ t) (ht : t ≤ L.length) : (sl3 L i t).length = t - i := by unfold sl3; simp; omega
theorem dropped_l2 (L : List Sp) (t : Nat) (ht : t ≤ L.length) (hL : L.length ≤ 1000) (low : Int) : ∀ (d i : Nat) (out : List Sp), t - i = d → i ≤ t → out.length ≤ 1000 + i → Ev (fun k => sawmillref10_Dropped.l2 k L (t : Int) (i : Int) low out) (low, out ++ sl3 L i t) := by
  intro d
  induction d with
  | zero =>
    intro i out hd hi ho
    have : i = t := by omega
    subst this
    refine Ev.step (f := fun _ => some (low, out)) (fun k => by rw [sawmillref10_Dropped.l2, if_neg (by omega)]) (evEq (Ev.now _) ?_)
    unfold sl3; simp
  | succ d ih =>
    intro i out hd hi ho
    have hlt : i < L.length := by omega
    have e : sl3 L i t = nzr (L.getD i zS) :: sl3 L (i + 1) t := by
      unfold sl3
      rw [show t - i = (t - (i + 1)) + 1 by omega, List.drop_eq_getElem_cons hlt, List.take_succ_cons, List.map_cons, List.getD_eq_getElem?_getD, List.getElem?_eq_getElem hlt]
      rfl
    have ih2 := ih (i + 1) (out ++ [nzr (L.getD i zS)]) (by omega) (by omega) (by simp; omega)
    refine Ev.step (f := fun k => sawmillref10_Dropped.l2 k L (t : Int) ((i + 1 : Nat) : Int) low (out ++ [nzr (L.getD i zS)])) (fun k => ?_) (evEq ih2 (by rw [e]; simp))
    rw [sawmillref10_Dropped.l2, if_pos (by omega), if_pos (by omega), if_pos (by omega), rdS_nat, r10_empty_eq, Option.bind_some, wsucc (n := t) (by omega) (by omega)]
    by_cases he : empB (L.getD i zS) = true
    · rw [if_pos he, if_pos (by omega)]
      have : nzr (L.getD i zS) = ⟨0, 0⟩ := by unfold nzr; rw [if_pos he]
      rw [this]
    · rw [if_neg he, if_pos (by omega)]
      have : nzr (L.getD i zS) = L.getD i zS := by unfold nzr; rw [if_neg he]
      rw [this]
/-- What a list of rows from a place on comes to. -/
def GoodD (a : Int) (L : List Sp) (w : Int × List Sp) : Prop := SecOk w.1 w.2 ∧ ∀ j, rowAt w.1 w.2 j = rowAt a (L.map nzr) j
theorem rowAt_map (a : Int) (L : List Sp) (j : Int) : rowAt a (L.map nzr) j = if a ≤ j then nzr (L.getD (j - a).toNat zS) else zS := by
  unfold rowAt
  by_cases h : a ≤ j
  · rw [if_pos h, if_pos h, getD_map]
  · rw [if_neg h, if_neg h]
theorem nzr_emp {s : Sp} (h : empB s = true) : nzr s = zS := by unfold nzr; rw [if_pos h]
theorem nzr_full {s : Sp} (h : ¬ empB s = true) : nzr s = s ∧ s.f0 < s.f1 := by
  refine ⟨by unfold nzr; rw [if_neg h], ?_⟩
  rw [emp_iff] at h; omega
structure DL (a : Int) (L : List Sp) : Prop where
  lo : -60 ≤ a
  hi : a + L.length ≤ 60
  inr : ∀ r ∈ L, r.f0 < r.f1 → -600 ≤ r.f0 ∧ r.f1 ≤ 600
theorem good_none {a : Int} {L : List Sp} (h : ∀ i, empB (L.getD i zS) = true) : GoodD a L (0, []) := by
  refine ⟨secOk_nil, fun j => ?_⟩
  rw [rowAt_nil, rowAt_map]
  split
  · exact (nzr_emp (h _)).symm
  · rfl
theorem good_some {a : Int} {L : List Sp} (hL : DL a L) {i t : Nat} (h1 : i < t) (h2 : t ≤ L.length) (h3 : ∀ j, j < i → empB (L.getD j zS) = true) (h4 : ∀ j, t ≤ j → empB (L.getD j zS) = true)
    (h5 : ¬ empB (L.getD i zS) = true) (h6 : ¬ empB (L.getD (t - 1) zS) = true) : GoodD a L (a + i, sl3 L i t) := by
  have hlo := hL.lo
  have hhi := hL.hi
  have hlen := sl3_length L (Nat.le_of_lt h1) h2
  have hg : ∀ r ∈ sl3 L i t, (-600 ≤ r.f0 ∧ r.f0 ≤ 600 ∧ -600 ≤ r.f1 ∧ r.f1 ≤ 600) ∧ (r.f0 < r.f1 ∨ (r.f0 = 0 ∧ r.f1 = 0)) := by
    intro r hr
    unfold sl3 at hr
    obtain ⟨s, hs, rfl⟩ := List.mem_map.1 hr
    have hm : s ∈ L := List.mem_of_mem_drop (List.mem_of_mem_take hs)
    by_cases he : empB s = true
    · rw [nzr_emp he]; simp
    · have := nzr_full he
      rw [this.1]
      have := hL.inr s hm this.2
      omega
  have hne : sl3 L i t ≠ [] := by intro e; rw [e] at hlen; simp at hlen; omega
  refine ⟨⟨by simp only; omega, by simp only; omega, by simp only; omega, fun r hr => (hg r hr).1, fun r hr => (hg r hr).2, fun e => absurd e hne, fun _ => ?_, fun _ => ?_⟩, fun j => ?_⟩
  · change ((sl3 L i t).getD 0 zS).f0 < ((sl3 L i t).getD 0 zS).f1
    rw [sl3_getD, if_pos (by omega), Nat.add_zero]
    have := nzr_full h5
    rw [this.1]; exact this.2
  · change ((sl3 L i t).getD ((sl3 L i t).length - 1) zS).f0 < ((sl3 L i t).getD ((sl3 L i t).length - 1) zS).f1
    rw [hlen, sl3_getD, if_pos (by omega), show i + (t - i - 1) = t - 1 by omega]
    have := nzr_full h6
    rw [this.1]; exact this.2
  · rw [rowAt_map]
    simp only
    unfold rowAt
    by_cases c1 : a ≤ j
    · rw [if_pos c1]
      by_cases c2 : a + i ≤ j
      · rw [if_pos c2, sl3_getD]
        by_cases c3 : (j - (a + i)).toNat < t - i
        · rw [if_pos c3, show i + (j - (a + i)).toNat = (j - a).toNat by omega]
        · rw [if_neg c3, nzr_emp (h4 _ (by omega))]
      · rw [if_neg c2, nzr_emp (h3 _ (by omega))]
    · rw [if_neg c1, if_neg (by omega)]
theorem dropped_l1 {a : Int} {L : List Sp} (hL : DL a L) {i : Nat} (hi : i < L.length) (h3 : ∀ j, j < i → empB (L.getD j zS) = true) (h5 : ¬ empB (L.getD i zS) = true) :
    ∀ (d t : Nat), t - i = d → i < t → t ≤ L.length → (∀ j, t ≤ j → empB (L.getD j zS) = true) → ∃ w, Ev (fun k => sawmillref10_Dropped.l1 k a L (i : Int) (t : Int)) w ∧ GoodD a L w := by
  have hlo := hL.lo
  have hhi := hL.hi
  intro d
  induction d with
  | zero => intro t hd h1; omega
  | succ d ih =>
    intro t hd h1 h2 h4
    have w1 : wrap64 ((t : Int) - 1) = ((t - 1 : Nat) : Int) := by rw [w64 (by omega) (by omega)]; omega
    by_cases he : empB (L.getD (t - 1) zS) = true
    · have hne : t - 1 ≠ i := fun e => h5 (e ▸ he)
      obtain ⟨w, hw, hg⟩ := ih (t - 1) (by omega) (by omega) (by omega) (fun j hj => by
        by_cases e : j = t - 1
        · rw [e]; exact he
        · exact h4 j (by omega))
      refine ⟨w, Ev.step (fun k => ?_) hw, hg⟩
      rw [sawmillref10_Dropped.l1, if_pos (by omega), w1, if_pos (by omega), if_pos (by omega), rdS_nat, r10_empty_eq, Option.bind_some, if_pos he]
    · refine ⟨(a + i, sl3 L i t), ?_, good_some hL h1 h2 h3 h4 h5 he⟩
      have h2' := dropped_l2 L t h2 (by omega) (a + i) _ i [] rfl (by omega) (by simp)
      rw [List.nil_append] at h2'
      refine Ev.step (f := fun k => sawmillref10_Dropped.j3 k a L (i : Int) (t : Int)) (fun k => ?_) (Ev.step (fun k => ?_) h2')
      · rw [sawmillref10_Dropped.l1, if_pos (by omega), w1, if_pos (by omega), if_pos (by omega), rdS_nat, r10_empty_eq, Option.bind_some, if_neg he]
      · rw [sawmillref10_Dropped.j3, if_neg (by omega), w64 (by omega) (by omega)]
theorem dropped_l0 {a : Int} {L : List Sp} (hL : DL a L) : ∀ (d i : Nat), L.length - i = d → i ≤ L.length → (∀ j, j < i → empB (L.getD j zS) = true) → ∃ w, Ev (fun k => sawmillref10_Dropped.l0 k a L (i : Int) (L.length : Int)) w ∧ GoodD a L w := by
  have hlo := hL.lo
  have hhi := hL.hi
  intro d
  induction d with
  | zero =>
    intro i hd hi h3
    have : i = L.length := by omega
    subst this
    refine ⟨(0, []), Ev.step (f := fun k => sawmillref10_Dropped.j1 k a L (L.length : Int) (L.length : Int)) (fun k => by rw [sawmillref10_Dropped.l0, if_neg (by omega)]) (Ev.step (f := fun k => sawmillref10_Dropped.l1 k a L (L.length : Int) (L.length : Int)) (fun k => by rw [sawmillref10_Dropped.j1]) (Ev.step (f := fun k => sawmillref10_Dropped.j3 k a L (L.length : Int) (L.length : Int)) (fun k => by rw [sawmillref10_Dropped.l1, if_neg (by omega)]) (Ev.step (f := fun _ => some (0, [])) (fun k => by rw [sawmillref10_Dropped.j3, if_pos rfl]) (Ev.now _)))), good_none (fun j => ?_)⟩
    by_cases h : j < L.length
    · exact h3 j h
    · rw [getD_ge _ (by omega)]; rfl
  | succ d ih =>
    intro i hd hi h3
    by_cases he : empB (L.getD i zS) = true
    · obtain ⟨w, hw, hg⟩ := ih (i + 1) (by omega) (by omega) (fun j hj => by
        by_cases e : j = i
        · rw [e]; exact he
        · exact h3 j (by omega))
      refine ⟨w, Ev.step (fun k => ?_) hw, hg⟩
      rw [sawmillref10_Dropped.l0, if_pos (by omega), if_pos (by omega), if_pos (by omega), rdS_nat, r10_empty_eq, Option.bind_some, if_pos he, wsucc (n := L.length) (by omega) (by omega)]
    · obtain ⟨w, hw, hg⟩ := dropped_l1 hL (i := i) (by omega) h3 he _ L.length rfl (by omega) (Nat.le_refl _) (fun j hj => by rw [getD_ge _ hj]; rfl)
      refine ⟨w, Ev.step (f := fun k => sawmillref10_Dropped.j1 k a L (i : Int) (L.length : Int)) (fun k => ?_) (Ev.step (fun k => by rw [sawmillref10_Dropped.j1]) hw), hg⟩
      rw [sawmillref10_Dropped.l0, if_pos (by omega), if_pos (by omega), if_pos (by omega), rdS_nat, r10_empty_eq, Option.bind_some, if_neg he]
theorem dropped_ev {a : Int} {L : List Sp} (hL : DL a L) : ∃ w, Ev (fun k => sawmillref10_Dropped.f k a L) w ∧ GoodD a L w := by
  obtain ⟨w, hw, hg⟩ := dropped_l0 hL _ 0 rfl (Nat.zero_le _) (fun j hj => absurd hj (Nat.not_lt_zero _))
  exact ⟨w, hw, hg⟩
/-! ### the reference's Meet -/
theorem r10_Row_eq {low : Int} {rows : List Sp} (ok : SecOk low rows) {j : Int} (hj : -60 ≤ j ∧ j < 60) : sawmillref10_Row.f low rows j = some ((rowAt low rows j).f0, (rowAt low rows j).f1) := by
  have h1 := ok.len
  have h2 := ok.lo
  have h3 := ok.hi
  unfold sawmillref10_Row.f
  rw [w64 (n := low + _) (by omega) (by omega), w64 (n := j - low) (by omega) (by omega)]
  by_cases c1 : j < low
  · rw [if_pos c1, rowAt_lt c1]
  · rw [if_neg c1]
    by_cases c2 : j ≥ low + rows.length
    · rw [if_pos c2, rowAt_ge c2]
    · rw [if_neg c2, if_pos (by omega), if_pos (by omega)]
      have e := rdS_nat rows (j - low).toNat
      rw [show (((j - low).toNat : Nat) : Int) = j - low by omega] at e
      rw [e]
      unfold rowAt
      rw [if_pos (by omega)]
def raw (a b : Int × List Sp) (j : Int) : Sp := ⟨max (rowAt a.1 a.2 j).f0 (rowAt b.1 b.2 j).f0, min (rowAt a.1 a.2 j).f1 (rowAt b.1 b.2 j).f1⟩
def rawL (a b : Int × List Sp) : Nat → Int → List Sp
  | 0, _ => []
  | d + 1, j => raw a b j :: rawL a b d (j + 1)
theorem rawL_length (a b : Int × List Sp) : ∀ (d : Nat) (j : Int), (rawL a b d j).length = d
  | 0, _ => rfl
  | d + 1, j => by simp [rawL, rawL_length a b d (j + 1)]
theorem rawL_mem (a b : Int × List Sp) : ∀ (d : Nat) (j : Int), ∀ r ∈ rawL a b d j, ∃ i, r = raw a b i
  | 0, _, r, h => by cases h
  | d + 1, j, r, h => by
    rcases List.mem_cons.1 h with e | h
    · exact ⟨j, e⟩
    · exact rawL_mem a b d (j + 1) r h
theorem rawL_row (a b : Int × List Sp) : ∀ (d : Nat) (p j : Int), rowAt p ((rawL a b d p).map nzr) j = if p ≤ j ∧ j < p + d then mt (rowAt a.1 a.2 j) (rowAt b.1 b.2 j) else zS
  | 0, p, j => by
    rw [if_neg (by omega)]
    exact rowAt_nil p j
  | d + 1, p, j => by
    simp only [rawL, List.map_cons]
    rw [rowAt_cons]
    by_cases h : j = p
    · subst h
      rw [if_pos rfl, if_pos (by omega), mt_eq]
      unfold raw
      by_cases c : max (rowAt a.1 a.2 j).f0 (rowAt b.1 b.2 j).f0 < min (rowAt a.1 a.2 j).f1 (rowAt b.1 b.2 j).f1
      · rw [if_pos c]; exact (nzr_full (by rw [emp_iff]; simp only; omega)).1
      · rw [if_neg c]; exact nzr_emp (by rw [emp_iff]; simp only; omega)
    · rw [if_neg h, rawL_row a b d (p + 1) j]
      by_cases c : p ≤ j ∧ j < p + ((d + 1 : Nat) : Int)
      · rw [if_pos c, if_pos (by omega)]
      · rw [if_neg c, if_neg (by omega)]
theorem rowAt_inr {low : Int} {rows : List Sp} (ok : SecOk low rows) (j : Int) : -600 ≤ (rowAt low rows j).f0 ∧ (rowAt low rows j).f1 ≤ 600 := by
  unfold rowAt
  split
  · by_cases h : (j - low).toNat < rows.length
    · have := ok.inr _ (getDm h); omega
    · rw [getD_ge rows (by omega)]; simp
  · simp
theorem r10_Meet_l0 {a b : Int × List Sp} (ha : SecOk a.1 a.2) (hb : SecOk b.1 b.2) : ∀ (d : Nat) (j : Int) (out : List Sp), (60 - j).toNat = d → -60 ≤ j → j ≤ 60 → (out.length : Int) ≤ j + 60 → (∃ w, Ev (fun k => sawmillref10_Dropped.f k (-60) (out ++ rawL a b d j)) w ∧ GoodD (-60) (out ++ rawL a b d j) w) →
    ∃ w, Ev (fun k => sawmillref10_Meet.l0 k out j a.1 a.2 b.1 b.2) w ∧ GoodD (-60) (out ++ rawL a b d j) w := by
  intro d
  induction d with
  | zero =>
    intro j out hd h1 h2 ho hw
    obtain ⟨w, hw, hg⟩ := hw
    refine ⟨w, ?_, hg⟩
    refine Ev.step (fun k => by rw [sawmillref10_Meet.l0, if_neg (by omega)]) ?_
    simp only [rawL, List.append_nil] at hw
    exact Ev.bind hw (Ev.now _)
  | succ d ih =>
    intro j out hd h1 h2 ho hw
    have e : out ++ rawL a b (d + 1) j = (out ++ [raw a b j]) ++ rawL a b d (j + 1) := by simp [rawL]
    rw [e] at hw ⊢
    obtain ⟨w, hw, hg⟩ := ih (j + 1) (out ++ [raw a b j]) (by omega) (by omega) (by omega) (by simp; omega) hw
    refine ⟨w, Ev.step (fun k => ?_) hw, hg⟩
    rw [sawmillref10_Meet.l0, if_pos (by omega), r10_Row_eq ha ⟨h1, by omega⟩, Option.bind_some, r10_Row_eq hb ⟨h1, by omega⟩, Option.bind_some, if_pos (by omega), w64 (n := j + 1) (by omega) (by omega), mx_eq, mn_eq]
    rfl
theorem r10_Meet_ev (al : Int) (ar : List Sp) (bl : Int) (br : List Sp) : Ev (fun k => sawmillref10_Meet.f k al ar bl br) (meetV (validS al ar) (validS bl br)) := by
  unfold sawmillref10_Meet.f
  refine Ev.bind (r10_Valid_ev al ar) (Ev.bind (r10_Valid_ev bl br) ?_)
  have ha := validS_ok al ar
  have hb := validS_ok bl br
  generalize validS al ar = a at ha ⊢
  generalize validS bl br = b at hb ⊢
  have hD : DL (-60) (rawL a b 120 (-60)) := by
    refine ⟨by omega, by rw [rawL_length]; omega, fun r hr h => ?_⟩
    obtain ⟨i, e⟩ := rawL_mem a b 120 (-60) r hr
    subst e
    have i1 := rowAt_inr ha i
    have i2 := rowAt_inr hb i
    unfold raw
    simp only
    omega
  have k0 := dropped_ev hD
  obtain ⟨w, hw, hg⟩ := r10_Meet_l0 ha hb 120 (-60) [] (by decide) (by omega) (by omega) (by simp) (by simpa using k0)
  rw [List.nil_append] at hg
  have m := meetV_ok (al := a.1) (ar := a.2) (bl := b.1) (br := b.2) ha hb
  have e := sec_ext hg.1 m.1 (fun j => by
    rw [hg.2 j, m.2 j, rawL_row]
    by_cases c : -60 ≤ j ∧ j < -60 + ((120 : Nat) : Int)
    · rw [if_pos c]
    · rw [if_neg c]
      have h1 := ha.lo
      have h2 := ha.hi
      by_cases c1 : j < a.1
      · rw [rowAt_lt c1, mt_z1]
      · rw [rowAt_ge (low := a.1) (by omega), mt_z1])
  exact evEq hw (Prod.ext e.1 e.2)
/-! ### At, Cut, Common -/
theorem atL_out : ∀ (l : List Slc) (p a : Int), a < p → (∀ s ∈ l, 1 ≤ s.f0) → atL l p a = (0, [], false)
  | [], _, _, _, _ => rfl
  | s :: r, p, a, h, hs => by
    have := hs s (by simp)
    simp only [atL]
    rw [if_neg (by omega), atL_out r (p + s.f0) a (by omega) (fun x hx => hs x (by simp [hx]))]
def atS (l : List Slc) (a : Int) : Int × List Sp × Bool := if solChk l = 0 then atL l 0 a else (0, [], false)
theorem atS_eq (l : List Slc) (a : Int) : atP (partsS l 0 20000) a = atS l a := by
  unfold atS
  by_cases h : solChk l = 0
  · rw [if_pos h, partsS_whole ((solOk_iff l).1 h), atP_all]
  · unfold partsS
    rw [if_neg h, if_neg h]; rfl
theorem atL_rows : ∀ (l : List Slc) (p a : Int), (∀ s ∈ l, s.f1.f1.length ≤ 1000) → (atL l p a).2.1.length ≤ 1000
  | [], _, _, _ => by simp [atL]
  | s :: r, p, a, h => by
    simp only [atL]
    split
    · exact h s (by simp)
    · exact atL_rows r (p + s.f0) a (fun x hx => h x (by simp [hx]))
theorem atS_rows (l : List Slc) (a : Int) : (atS l a).2.1.length ≤ 1000 := by
  unfold atS
  by_cases h : solChk l = 0
  · have ok := (solOk_iff l).1 h
    rw [if_pos h]
    exact atL_rows l 0 a (fun s hs => by have := (secOk_of (ok.sec s hs)).len; omega)
  · rw [if_neg h]; simp
theorem r11_At_ev (l : List Slc) (a : Int) : Ev (fun k => sawmillref11_At.f k l a) (atS l a) := by
  have none0 : Ev (fun k => sawmillref11_At.j0 k l a true) (0, [], false) := Ev.step (f := fun _ => some (0, [], false)) (fun k => by rw [sawmillref11_At.j0, if_pos rfl]) (Ev.now _)
  unfold sawmillref11_At.f atS
  refine Ev.bind (r11_Check_ev l) ?_
  by_cases h : solChk l = 0
  · have ok := (solOk_iff l).1 h
    have hn := ok.len
    simp only [if_pos h]
    by_cases h0 : a < 0
    · simp only [decide_eq_true h0]
      rw [atL_out l 0 a h0 ok.pos]
      exact none0
    · simp only [decide_eq_false h0]
      refine Ev.step (f := fun k => sawmillref11_At.l0 k l a 0 0) (fun k => by rw [sawmillref11_At.j0, if_neg (by decide)]) ?_
      refine (Ev.list0 (σ := Int) l (fun k i s => sawmillref11_At.l0 k l a s i) (fun suf s => atL suf s a) (fun i s => s = sumZ (l.take i) ∧ s ≤ a) ?_ ?_ 0 ⟨by simp [sumZ], by omega⟩)
      · intro s _
        exact Ev.step (f := fun _ => some (0, [], false)) (fun k => by rw [sawmillref11_At.l0, if_neg (by omega)]) (Ev.now _)
      · intro i x suf s ⟨hs, hsa⟩ hi hx ih
        have hr := rdL_at hx
        have e1 := sumZ_take_succ hx
        have r1 := sumZ_take ok.pos (i + 1)
        have r0 := sumZ_take ok.pos i
        have hsum := ok.sum
        have hw : wrap64 (s + x.f0) = s + x.f0 := w64 (by omega) (by omega)
        simp only [atL]
        by_cases c : a < s + x.f0
        · rw [if_pos ⟨hsa, c⟩]
          exact Ev.step (f := fun _ => some (x.f1.f0, x.f1.f1, true)) (fun k => by rw [sawmillref11_At.l0, if_pos (by omega), if_pos (by omega), hr, hw, if_pos c]) (Ev.now _)
        · rw [if_neg (by omega)]
          refine Ev.step (f := fun k => sawmillref11_At.l0 k l a (s + x.f0) ((i + 1 : Nat) : Int)) (fun k => by rw [sawmillref11_At.l0, if_pos (by omega), if_pos (by omega), hr, hw, if_neg c, wsucc hi (by omega)]) ?_
          exact ih _ ⟨by rw [e1, hs], by omega⟩
  · simp only [if_neg h]
    exact none0
theorem cutP_cons (z0 z1 : Int) (s : Slc) (r : List Slc) (p : Int) : cutP (partsL z0 z1 (s :: r) p) = if ov p (p + s.f0) z0 z1 > 0 then ⟨ov p (p + s.f0) z0 z1, s.f1⟩ :: cutP (partsL z0 z1 r (p + s.f0)) else cutP (partsL z0 z1 r (p + s.f0)) := by
  simp only [partsL]
  by_cases h : max p z0 < min (p + s.f0) z1
  · have e : ov p (p + s.f0) z0 z1 = min (p + s.f0) z1 - max p z0 := by unfold ov; omega
    rw [if_pos h, e, if_pos (by omega)]
    rfl
  · have e : ov p (p + s.f0) z0 z1 = 0 := by unfold ov; omega
    rw [if_neg h, e, if_neg (by omega)]
theorem r11_Cut_ev (l : List Slc) (z0 z1 : Int) : Ev (fun k => sawmillref11_Cut.f k l z0 z1) (cutS l z0 z1) := by
  unfold sawmillref11_Cut.f cutS partsS
  refine Ev.bind (r11_Check_ev l) ?_
  by_cases h : solChk l = 0
  · have ok := (solOk_iff l).1 h
    have hn := ok.len
    simp only [if_pos h]
    refine evEq (Ev.list0 (σ := List Slc × Int) l (fun k i s => sawmillref11_Cut.l0 k l s.1 s.2 i (mx z0 0) (mn z1 20000)) (fun suf s => s.1 ++ cutP (partsL z0 z1 suf s.2)) (fun i s => s.1.length ≤ i ∧ s.2 = sumZ (l.take i)) ?_ ?_ ([], 0) ⟨Nat.le_refl _, by simp [sumZ]⟩) (by simp)
    · rintro ⟨acc, p⟩ _
      exact Ev.step (f := fun _ => some acc) (fun k => by rw [sawmillref11_Cut.l0, if_neg (by omega)]) (evEq (Ev.now _) (by simp [partsL, cutP]))
    · rintro i x suf ⟨acc, p⟩ ⟨hs, hp⟩ hi hx ih
      simp only at hs hp ⊢
      have hr := rdL_at hx
      have hpos := ok.pos x (List.mem_of_getElem? hx)
      have e1 := sumZ_take_succ hx
      have r1 := sumZ_take ok.pos (i + 1)
      have r0 := sumZ_take ok.pos i
      have hsum := ok.sum
      have hw : wrap64 (p + x.f0) = p + x.f0 := w64 (by omega) (by omega)
      rw [cutP_cons]
      by_cases c : ov p (p + x.f0) z0 z1 > 0
      · rw [if_pos c]
        refine Ev.step (f := fun k => sawmillref11_Cut.l0 k l (acc ++ [⟨ov p (p + x.f0) z0 z1, x.f1⟩]) (p + x.f0) ((i + 1 : Nat) : Int) (mx z0 0) (mn z1 20000)) (fun k => ?_) (evEq (ih (_, _) ⟨by simp; omega, by rw [e1, hp]⟩) (by simp))
        rw [sawmillref11_Cut.l0, if_pos (by omega), if_pos (by omega), hr, part_eq z0 z1 (by omega) hpos (by omega), Option.bind_some, if_pos c, if_pos (by omega), hw, wsucc hi (by omega)]
      · rw [if_neg c]
        refine Ev.step (f := fun k => sawmillref11_Cut.l0 k l acc (p + x.f0) ((i + 1 : Nat) : Int) (mx z0 0) (mn z1 20000)) (fun k => ?_) (ih (acc, _) ⟨by simp only; omega, by rw [e1, hp]⟩)
        rw [sawmillref11_Cut.l0, if_pos (by omega), if_pos (by omega), hr, part_eq z0 z1 (by omega) hpos (by omega), Option.bind_some, if_neg c, hw, wsucc hi (by omega)]
  · simp only [if_neg h]
    exact Ev.now _
theorem same_list {l : List Slc} (hn : l.length ≤ 1000) (h : ∀ s ∈ l, s.f1.f1.length ≤ 1000) : Ev (fun k => sawmillref11_Same.f k l l) true := by
  unfold sawmillref11_Same.f
  simp only [if_true]
  refine (Ev.list0 (σ := Unit) l (fun k i _ => sawmillref11_Same.l0 k l l i) (fun _ _ => true) (fun _ _ => True) ?_ ?_ () trivial)
  · intro s _
    exact Ev.step (f := fun _ => some true) (fun k => by rw [sawmillref11_Same.l0, if_neg (by omega)]) (Ev.now _)
  · intro i x suf s _ hi hx ih
    have hr := rdL_at hx
    refine Ev.step (fun k => by rw [sawmillref11_Same.l0, if_pos (by omega), if_pos (by omega), if_pos (by omega), hr, if_pos rfl]) ?_
    refine Ev.bind (same_self _ _ (h x (List.mem_of_getElem? hx))) ?_
    simp only [if_true]
    rw [wsucc hi (by omega)]
    exact ih () trivial
theorem cutS_rows (l : List Slc) (z0 z1 : Int) : (cutS l z0 z1).length ≤ 1000 ∧ ∀ s ∈ cutS l z0 z1, s.f1.f1.length ≤ 1000 := by
  have h1 := (partsS_ok l z0 z1).len
  have h2 := partsS_rows l z0 z1
  unfold cutS cutP
  refine ⟨by rw [List.length_map]; omega, fun s hs => ?_⟩
  obtain ⟨q, hq, rfl⟩ := List.mem_map.1 hs
  exact h2 q hq
def comC : List Slc → Int × List Sp → Int × List Sp
  | [], a => a
  | s :: r, a => comC r (meetV (validS a.1 a.2) (validS s.f1.f0 s.f1.f1))
theorem comC_eq : ∀ (ps : List Prt) (a : Int × List Sp), comC (cutP ps) a = comP ps false a
  | [], _ => rfl
  | p :: r, a => comC_eq r (meetV (validS a.1 a.2) (validS p.f1.f0 p.f1.f1))
theorem r11_Common_ev (l : List Slc) (z0 z1 : Int) : Ev (fun k => sawmillref11_Common.f k l z0 z1) (comP (partsS l z0 z1) true (0, [])) := by
  unfold sawmillref11_Common.f
  refine Ev.bind (r11_Cut_ev l z0 z1) ?_
  have hn := (cutS_rows l z0 z1).1
  unfold cutS at hn ⊢
  generalize partsS l z0 z1 = ps at hn ⊢
  cases ps with
  | nil => exact Ev.now _
  | cons p r =>
    have hl : (cutP (p :: r)).length = r.length + 1 := by simp [cutP]
    have hne : ¬ ((cutP (p :: r)).length : Int) = 0 := by omega
    simp only [if_neg hne, if_pos (show 0 < ((cutP (p :: r)).length : Int) by omega)]
    have e0 : rd_T60 (cutP (p :: r)) 0 = ⟨p.f0.f1 - p.f0.f0, p.f1⟩ := rfl
    rw [e0]
    simp only
    have := Ev.list (σ := Int × List Sp) (cutP (p :: r)) (fun k i s => sawmillref11_Common.l0 k (cutP (p :: r)) i s.1 s.2) comC (fun _ _ => True) ?_ ?_ _ 1 (p.f1.f0, p.f1.f1) rfl (by simp [cutP]) trivial
    · exact evEq this (by
        change comC (cutP r) _ = _
        rw [comC_eq]
        rfl)
    · rintro ⟨a, b⟩ _
      exact Ev.step (f := fun _ => some (a, b)) (fun k => by rw [sawmillref11_Common.l0, if_neg (by omega)]) (Ev.now _)
    · rintro i x suf ⟨a, b⟩ _ hi hx ih
      have hr := rdL_at hx
      refine Ev.step (fun k => by rw [sawmillref11_Common.l0, if_pos (by omega), if_pos (by omega), hr]) ?_
      refine Ev.bind (r10_Meet_ev _ _ _ _) ?_
      rw [wsucc hi (by omega)]
      exact ih (meetV (validS a b) (validS x.f1.f0 x.f1.f1)) trivial
theorem comP_rows (l : List Slc) (z0 z1 : Int) : (comP (partsS l z0 z1) true (0, [])).2.length ≤ 1000 := by
  have hs : ∀ p ∈ partsS l z0 z1, SecOk p.f1.f0 p.f1.f1 := by
    unfold partsS
    by_cases h : solChk l = 0
    · have ok := (solOk_iff l).1 h
      rw [if_pos h]
      intro p hp
      obtain ⟨⟨s, hs, e⟩, _⟩ := partsL_sec l 0 p hp
      rw [e]; exact secOk_of (ok.sec s hs)
    · rw [if_neg h]; intro p hp; cases hp
  have := (comP_in (partsS l z0 z1) true (0, []) secOk_nil hs).1.len
  omega
end Go.Proofs.Ytboegckbilnldaa.P
