/- Functions of the program: what each computes, and that the call computes it; conditions: the fuel that the plain function asks for. -/
import Derived.Test.YtdbjoopkliafeaaCShapeLogsV4
section
namespace Go.Proofs.Ytdbjoopkliafeaa.P
open Go Go.RowKit Go.Proofs.YtdbjoopkliafeaaW.PrintWords Go.Proofs.YtdbjoopkliafeaaW.PrintLast Go.Proofs.YtdbjoopkliafeaaW.PrintMore
attribute [local go_sem] max2_int min2_int max_two min_two max_three min_three max_four min_four max_five min_eight max_eight   -- for this text's walks alone
set_option linter.unusedVariables false
set_option linter.unusedSimpArgs false

attribute [local go_sem high] eqA28
def sawmilllaw14_awake.f (k : Nat)  : Option (Bool) := (some (([(⟨(-50), 50⟩ : S49), (⟨(-60), 60⟩ : S49)] : List (S49)) : List (S49))).bind fun y11001 => ((sawmilllaw14_one.f (-50) 50).bind fun bt11005 => ((some (([(⟨2000, (⟨0, y11001⟩ : S24)⟩ : S36), (⟨1000, (⟨bt11005.1, bt11005.2⟩ : S24)⟩ : S36)] : List (S36)) : List (S36))).bind fun y11009 => ((sawmilllaw14_one.f (-50) 50).bind fun bt11012 => ((sawmilllaw14_one.f (-40) 60).bind fun bt11016 => ((sawmilllaw14_one.f (-50) 50).bind fun bt11020 => ((shape_Diameter.f k 0 y11001).bind fun t11027 => (if t11027 = 52 then ((shape_Center2.f k 0 y11001).bind fun bt11028 => (if (bt11028.1 == 0 && (bt11028.2 == 20)) = true then ((shape_Oval.f k 0 y11001).bind fun t11030 => (if t11030 = 100 then ((shape_Top.f k y11009).bind fun t11031 => (if t11031 = 35 then ((shape_Taper.f k y11009).bind fun t11032 => (if t11032 = 56 then ((shape_Sweep.f k (([(⟨1000, (⟨bt11012.1, bt11012.2⟩ : S24)⟩ : S36), (⟨1000, (⟨bt11016.1, bt11016.2⟩ : S24)⟩ : S36), (⟨1000, (⟨bt11020.1, bt11020.2⟩ : S24)⟩ : S36)] : List (S36)))).bind fun t11033 => (if t11033 = 20 then ((shape_Sweep.f k y11009).bind fun t11034 => (some (t11034 == 0))) else (some false))) else (some false))) else (some false))) else (some false))) else (some false))) else (some false))))))))
theorem sawmilllaw14_awake.mono : ∀ k, LeO (sawmilllaw14_awake.f k ) (sawmilllaw14_awake.f (k + 1) ) := by
 intro  k
 unfold sawmilllaw14_awake.f
 repeat' first
   | (with_reducible exact shape_Center2.mono _ _ _)
   | (with_reducible exact shape_Diameter.mono _ _ _)
   | (with_reducible exact shape_Oval.mono _ _ _)
   | (with_reducible exact shape_Sweep.mono _ _)
   | (with_reducible exact shape_Taper.mono _ _)
   | (with_reducible exact shape_Top.mono _ _)
   | (with_reducible exact LeO.refl _)
   | (with_reducible exact LeO.none _)
   | (with_reducible refine LeO.ite ?_ ?_)
   | (with_reducible refine LeO.bind ?_ (fun _ => ?_))
   | exact shape_Center2.mono _ _ _
   | exact shape_Diameter.mono _ _ _
   | exact shape_Oval.mono _ _ _
   | exact shape_Sweep.mono _ _
   | exact shape_Taper.mono _ _
   | exact shape_Top.mono _ _
   | exact LeO.none _
   | refine LeO.ite ?_ ?_
   | refine LeO.bind ?_ (fun _ => ?_)
set_option maxHeartbeats 8000000 in
set_option maxRecDepth 100000 in
theorem sawmilllaw14_awake.calls (k : Nat)  (r : Bool) (w : World) (h : sawmilllaw14_awake.f k  = some r) :
  Calls Try.prog 11 #[] w fun e w' => e = .returned (.bool r) ∧ Below w.heap.size w w' := by
 have hu49 := Try.underlying49
 have hu24 := Try.underlying24
 have hu36 := Try.underlying36
 have hu28 := Try.underlying28
 have HB := Aside0.mk (Below.refl w.heap.size w)
 have H : ((some (([(⟨(-50), 50⟩ : S49), (⟨(-60), 60⟩ : S49)] : List (S49)) : List (S49))).bind fun y11001 => ((sawmilllaw14_one.f (-50) 50).bind fun bt11005 => ((some (([(⟨2000, (⟨0, y11001⟩ : S24)⟩ : S36), (⟨1000, (⟨bt11005.1, bt11005.2⟩ : S24)⟩ : S36)] : List (S36)) : List (S36))).bind fun y11009 => ((sawmilllaw14_one.f (-50) 50).bind fun bt11012 => ((sawmilllaw14_one.f (-40) 60).bind fun bt11016 => ((sawmilllaw14_one.f (-50) 50).bind fun bt11020 => ((shape_Diameter.f k 0 y11001).bind fun t11027 => (if t11027 = 52 then ((shape_Center2.f k 0 y11001).bind fun bt11028 => (if (bt11028.1 == 0 && (bt11028.2 == 20)) = true then ((shape_Oval.f k 0 y11001).bind fun t11030 => (if t11030 = 100 then ((shape_Top.f k y11009).bind fun t11031 => (if t11031 = 35 then ((shape_Taper.f k y11009).bind fun t11032 => (if t11032 = 56 then ((shape_Sweep.f k (([(⟨1000, (⟨bt11012.1, bt11012.2⟩ : S24)⟩ : S36), (⟨1000, (⟨bt11016.1, bt11016.2⟩ : S24)⟩ : S36), (⟨1000, (⟨bt11020.1, bt11020.2⟩ : S24)⟩ : S36)] : List (S36)))).bind fun t11033 => (if t11033 = 20 then ((shape_Sweep.f k y11009).bind fun t11034 => (some (t11034 == 0))) else (some false))) else (some false))) else (some false))) else (some false))) else (some false))) else (some false))))))))) = some r := h
 clear h
 obtain ⟨y11001, hy11001⟩ : ∃ y_ : List (S49), y_ = (([(⟨(-50), 50⟩ : S49), (⟨(-60), 60⟩ : S49)] : List (S49))) := ⟨_, rfl⟩
 replace H : ((sawmilllaw14_one.f (-50) 50).bind fun bt11005 => ((some (([(⟨2000, (⟨0, y11001⟩ : S24)⟩ : S36), (⟨1000, (⟨bt11005.1, bt11005.2⟩ : S24)⟩ : S36)] : List (S36)) : List (S36))).bind fun y11009 => ((sawmilllaw14_one.f (-50) 50).bind fun bt11012 => ((sawmilllaw14_one.f (-40) 60).bind fun bt11016 => ((sawmilllaw14_one.f (-50) 50).bind fun bt11020 => ((shape_Diameter.f k 0 y11001).bind fun t11027 => (if t11027 = 52 then ((shape_Center2.f k 0 y11001).bind fun bt11028 => (if (bt11028.1 == 0 && (bt11028.2 == 20)) = true then ((shape_Oval.f k 0 y11001).bind fun t11030 => (if t11030 = 100 then ((shape_Top.f k y11009).bind fun t11031 => (if t11031 = 35 then ((shape_Taper.f k y11009).bind fun t11032 => (if t11032 = 56 then ((shape_Sweep.f k (([(⟨1000, (⟨bt11012.1, bt11012.2⟩ : S24)⟩ : S36), (⟨1000, (⟨bt11016.1, bt11016.2⟩ : S24)⟩ : S36), (⟨1000, (⟨bt11020.1, bt11020.2⟩ : S24)⟩ : S36)] : List (S36)))).bind fun t11033 => (if t11033 = 20 then ((shape_Sweep.f k y11009).bind fun t11034 => (some (t11034 == 0))) else (some false))) else (some false))) else (some false))) else (some false))) else (some false))) else (some false)))))))) = some r := by first | (rw [hy11001]; with_reducible exact H) | (have H2_ := (Option.bind_some _ _).symm.trans H; rw [hy11001]; with_reducible exact H2_) | (have H2_ := (Option.bind_some _ _).symm.trans H; with_reducible exact H2_) | with_reducible exact H | (rw [hy11001]; exact H) | exact H
 have Ny11001 := Aside0.mk hy11001
 clear hy11001
 replace H := Option.bind_eq_some_iff.mp H
 obtain ⟨⟨t11005, t11006⟩, A10, H⟩ := H
 replace H : ((some (([(⟨2000, (⟨0, y11001⟩ : S24)⟩ : S36), (⟨1000, (⟨t11005, t11006⟩ : S24)⟩ : S36)] : List (S36)) : List (S36))).bind fun y11009 => ((sawmilllaw14_one.f (-50) 50).bind fun bt11012 => ((sawmilllaw14_one.f (-40) 60).bind fun bt11016 => ((sawmilllaw14_one.f (-50) 50).bind fun bt11020 => ((shape_Diameter.f k 0 y11001).bind fun t11027 => (if t11027 = 52 then ((shape_Center2.f k 0 y11001).bind fun bt11028 => (if (bt11028.1 == 0 && (bt11028.2 == 20)) = true then ((shape_Oval.f k 0 y11001).bind fun t11030 => (if t11030 = 100 then ((shape_Top.f k y11009).bind fun t11031 => (if t11031 = 35 then ((shape_Taper.f k y11009).bind fun t11032 => (if t11032 = 56 then ((shape_Sweep.f k (([(⟨1000, (⟨bt11012.1, bt11012.2⟩ : S24)⟩ : S36), (⟨1000, (⟨bt11016.1, bt11016.2⟩ : S24)⟩ : S36), (⟨1000, (⟨bt11020.1, bt11020.2⟩ : S24)⟩ : S36)] : List (S36)))).bind fun t11033 => (if t11033 = 20 then ((shape_Sweep.f k y11009).bind fun t11034 => (some (t11034 == 0))) else (some false))) else (some false))) else (some false))) else (some false))) else (some false))) else (some false))))))) = some r := H
 have A1 := Aside0.mk A10
 clear A10
 obtain ⟨y11009, hy11009⟩ : ∃ y_ : List (S36), y_ = (([(⟨2000, (⟨0, y11001⟩ : S24)⟩ : S36), (⟨1000, (⟨t11005, t11006⟩ : S24)⟩ : S36)] : List (S36))) := ⟨_, rfl⟩
 replace H : ((sawmilllaw14_one.f (-50) 50).bind fun bt11012 => ((sawmilllaw14_one.f (-40) 60).bind fun bt11016 => ((sawmilllaw14_one.f (-50) 50).bind fun bt11020 => ((shape_Diameter.f k 0 y11001).bind fun t11027 => (if t11027 = 52 then ((shape_Center2.f k 0 y11001).bind fun bt11028 => (if (bt11028.1 == 0 && (bt11028.2 == 20)) = true then ((shape_Oval.f k 0 y11001).bind fun t11030 => (if t11030 = 100 then ((shape_Top.f k y11009).bind fun t11031 => (if t11031 = 35 then ((shape_Taper.f k y11009).bind fun t11032 => (if t11032 = 56 then ((shape_Sweep.f k (([(⟨1000, (⟨bt11012.1, bt11012.2⟩ : S24)⟩ : S36), (⟨1000, (⟨bt11016.1, bt11016.2⟩ : S24)⟩ : S36), (⟨1000, (⟨bt11020.1, bt11020.2⟩ : S24)⟩ : S36)] : List (S36)))).bind fun t11033 => (if t11033 = 20 then ((shape_Sweep.f k y11009).bind fun t11034 => (some (t11034 == 0))) else (some false))) else (some false))) else (some false))) else (some false))) else (some false))) else (some false)))))) = some r := by first | (rw [hy11009]; with_reducible exact H) | (have H2_ := (Option.bind_some _ _).symm.trans H; rw [hy11009]; with_reducible exact H2_) | (have H2_ := (Option.bind_some _ _).symm.trans H; with_reducible exact H2_) | with_reducible exact H | (rw [hy11009]; exact H) | exact H
 have Ny11009 := Aside0.mk hy11009
 clear hy11009
 replace H := Option.bind_eq_some_iff.mp H
 obtain ⟨⟨t11012, t11013⟩, A20, H⟩ := H
 replace H : ((sawmilllaw14_one.f (-40) 60).bind fun bt11016 => ((sawmilllaw14_one.f (-50) 50).bind fun bt11020 => ((shape_Diameter.f k 0 y11001).bind fun t11027 => (if t11027 = 52 then ((shape_Center2.f k 0 y11001).bind fun bt11028 => (if (bt11028.1 == 0 && (bt11028.2 == 20)) = true then ((shape_Oval.f k 0 y11001).bind fun t11030 => (if t11030 = 100 then ((shape_Top.f k y11009).bind fun t11031 => (if t11031 = 35 then ((shape_Taper.f k y11009).bind fun t11032 => (if t11032 = 56 then ((shape_Sweep.f k (([(⟨1000, (⟨t11012, t11013⟩ : S24)⟩ : S36), (⟨1000, (⟨bt11016.1, bt11016.2⟩ : S24)⟩ : S36), (⟨1000, (⟨bt11020.1, bt11020.2⟩ : S24)⟩ : S36)] : List (S36)))).bind fun t11033 => (if t11033 = 20 then ((shape_Sweep.f k y11009).bind fun t11034 => (some (t11034 == 0))) else (some false))) else (some false))) else (some false))) else (some false))) else (some false))) else (some false))))) = some r := H
 have A2 := Aside0.mk A20
 clear A20
 replace H := Option.bind_eq_some_iff.mp H
 obtain ⟨⟨t11016, t11017⟩, A30, H⟩ := H
 replace H : ((sawmilllaw14_one.f (-50) 50).bind fun bt11020 => ((shape_Diameter.f k 0 y11001).bind fun t11027 => (if t11027 = 52 then ((shape_Center2.f k 0 y11001).bind fun bt11028 => (if (bt11028.1 == 0 && (bt11028.2 == 20)) = true then ((shape_Oval.f k 0 y11001).bind fun t11030 => (if t11030 = 100 then ((shape_Top.f k y11009).bind fun t11031 => (if t11031 = 35 then ((shape_Taper.f k y11009).bind fun t11032 => (if t11032 = 56 then ((shape_Sweep.f k (([(⟨1000, (⟨t11012, t11013⟩ : S24)⟩ : S36), (⟨1000, (⟨t11016, t11017⟩ : S24)⟩ : S36), (⟨1000, (⟨bt11020.1, bt11020.2⟩ : S24)⟩ : S36)] : List (S36)))).bind fun t11033 => (if t11033 = 20 then ((shape_Sweep.f k y11009).bind fun t11034 => (some (t11034 == 0))) else (some false))) else (some false))) else (some false))) else (some false))) else (some false))) else (some false)))) = some r := H
 have A3 := Aside0.mk A30
 clear A30
 replace H := Option.bind_eq_some_iff.mp H
 obtain ⟨⟨t11020, t11021⟩, A40, H⟩ := H
 replace H : ((shape_Diameter.f k 0 y11001).bind fun t11027 => (if t11027 = 52 then ((shape_Center2.f k 0 y11001).bind fun bt11028 => (if (bt11028.1 == 0 && (bt11028.2 == 20)) = true then ((shape_Oval.f k 0 y11001).bind fun t11030 => (if t11030 = 100 then ((shape_Top.f k y11009).bind fun t11031 => (if t11031 = 35 then ((shape_Taper.f k y11009).bind fun t11032 => (if t11032 = 56 then ((shape_Sweep.f k (([(⟨1000, (⟨t11012, t11013⟩ : S24)⟩ : S36), (⟨1000, (⟨t11016, t11017⟩ : S24)⟩ : S36), (⟨1000, (⟨t11020, t11021⟩ : S24)⟩ : S36)] : List (S36)))).bind fun t11033 => (if t11033 = 20 then ((shape_Sweep.f k y11009).bind fun t11034 => (some (t11034 == 0))) else (some false))) else (some false))) else (some false))) else (some false))) else (some false))) else (some false))) = some r := H
 have A4 := Aside0.mk A40
 clear A40
 obtain ⟨y11024, hy11024⟩ : ∃ y_ : List (S36), y_ = (([(⟨1000, (⟨t11012, t11013⟩ : S24)⟩ : S36), (⟨1000, (⟨t11016, t11017⟩ : S24)⟩ : S36), (⟨1000, (⟨t11020, t11021⟩ : S24)⟩ : S36)] : List (S36))) := ⟨_, rfl⟩
 replace H : ((shape_Diameter.f k 0 y11001).bind fun t11027 => (if t11027 = 52 then ((shape_Center2.f k 0 y11001).bind fun bt11028 => (if (bt11028.1 == 0 && (bt11028.2 == 20)) = true then ((shape_Oval.f k 0 y11001).bind fun t11030 => (if t11030 = 100 then ((shape_Top.f k y11009).bind fun t11031 => (if t11031 = 35 then ((shape_Taper.f k y11009).bind fun t11032 => (if t11032 = 56 then ((shape_Sweep.f k y11024).bind fun t11033 => (if t11033 = 20 then ((shape_Sweep.f k y11009).bind fun t11034 => (some (t11034 == 0))) else (some false))) else (some false))) else (some false))) else (some false))) else (some false))) else (some false))) = some r := by first | (rw [hy11024]; with_reducible exact H) | (have H2_ := (Option.bind_some _ _).symm.trans H; rw [hy11024]; with_reducible exact H2_) | (have H2_ := (Option.bind_some _ _).symm.trans H; with_reducible exact H2_) | with_reducible exact H | (rw [hy11024]; exact H) | exact H
 have Ny11024 := Aside0.mk hy11024
 clear hy11024
 replace H := Option.bind_eq_some_iff.mp H
 obtain ⟨t11027, A50, H⟩ := H
 replace H : (if t11027 = 52 then ((shape_Center2.f k 0 y11001).bind fun bt11028 => (if (bt11028.1 == 0 && (bt11028.2 == 20)) = true then ((shape_Oval.f k 0 y11001).bind fun t11030 => (if t11030 = 100 then ((shape_Top.f k y11009).bind fun t11031 => (if t11031 = 35 then ((shape_Taper.f k y11009).bind fun t11032 => (if t11032 = 56 then ((shape_Sweep.f k y11024).bind fun t11033 => (if t11033 = 20 then ((shape_Sweep.f k y11009).bind fun t11034 => (some (t11034 == 0))) else (some false))) else (some false))) else (some false))) else (some false))) else (some false))) else (some false)) = some r := H
 have A5 := Aside0.mk A50
 clear A50
 by_cases c6 : t11027 = 52
 ·rw [if_pos c6] at H
  have c6b0 : (t11027 == 52) = true := beq_iff_eq.mpr c6
  have c6b1 : (t11027 != 52) = false := bne_eq_false_iff_eq.mpr c6
  clear c6
  replace H := Option.bind_eq_some_iff.mp H
  obtain ⟨⟨t11028, t11029⟩, A70, H⟩ := H
  replace H : (if (t11028 == 0 && (t11029 == 20)) = true then ((shape_Oval.f k 0 y11001).bind fun t11030 => (if t11030 = 100 then ((shape_Top.f k y11009).bind fun t11031 => (if t11031 = 35 then ((shape_Taper.f k y11009).bind fun t11032 => (if t11032 = 56 then ((shape_Sweep.f k y11024).bind fun t11033 => (if t11033 = 20 then ((shape_Sweep.f k y11009).bind fun t11034 => (some (t11034 == 0))) else (some false))) else (some false))) else (some false))) else (some false))) else (some false)) = some r := H
  have A7 := Aside0.mk A70
  clear A70
  by_cases c8 : (t11028 == 0 && (t11029 == 20)) = true
  ·rw [if_pos c8] at H
   have c8b0 : (t11028 == 0 && (t11029 == 20)) = true := c8
   (try (have c8b1 : decide (t11028 = 0 && (t11029 == 20)) = true := by simpa using c8))
   (try (have c8b2 : (t11028 == 0 && (t11029 == 20)) = true := by simpa using c8))
   clear c8
   replace H := Option.bind_eq_some_iff.mp H
   obtain ⟨t11030, A90, H⟩ := H
   replace H : (if t11030 = 100 then ((shape_Top.f k y11009).bind fun t11031 => (if t11031 = 35 then ((shape_Taper.f k y11009).bind fun t11032 => (if t11032 = 56 then ((shape_Sweep.f k y11024).bind fun t11033 => (if t11033 = 20 then ((shape_Sweep.f k y11009).bind fun t11034 => (some (t11034 == 0))) else (some false))) else (some false))) else (some false))) else (some false)) = some r := H
   have A9 := Aside0.mk A90
   clear A90
   by_cases c10 : t11030 = 100
   ·rw [if_pos c10] at H
    have c10b0 : (t11030 == 100) = true := beq_iff_eq.mpr c10
    have c10b1 : (t11030 != 100) = false := bne_eq_false_iff_eq.mpr c10
    clear c10
    replace H := Option.bind_eq_some_iff.mp H
    obtain ⟨t11031, A110, H⟩ := H
    replace H : (if t11031 = 35 then ((shape_Taper.f k y11009).bind fun t11032 => (if t11032 = 56 then ((shape_Sweep.f k y11024).bind fun t11033 => (if t11033 = 20 then ((shape_Sweep.f k y11009).bind fun t11034 => (some (t11034 == 0))) else (some false))) else (some false))) else (some false)) = some r := H
    have A11 := Aside0.mk A110
    clear A110
    by_cases c12 : t11031 = 35
    ·rw [if_pos c12] at H
     have c12b0 : (t11031 == 35) = true := beq_iff_eq.mpr c12
     have c12b1 : (t11031 != 35) = false := bne_eq_false_iff_eq.mpr c12
     clear c12
     replace H := Option.bind_eq_some_iff.mp H
     obtain ⟨t11032, A130, H⟩ := H
     replace H : (if t11032 = 56 then ((shape_Sweep.f k y11024).bind fun t11033 => (if t11033 = 20 then ((shape_Sweep.f k y11009).bind fun t11034 => (some (t11034 == 0))) else (some false))) else (some false)) = some r := H
     have A13 := Aside0.mk A130
     clear A130
     by_cases c14 : t11032 = 56
     ·rw [if_pos c14] at H
      have c14b0 : (t11032 == 56) = true := beq_iff_eq.mpr c14
      have c14b1 : (t11032 != 56) = false := bne_eq_false_iff_eq.mpr c14
      clear c14
      replace H := Option.bind_eq_some_iff.mp H
      obtain ⟨t11033, A150, H⟩ := H
      replace H : (if t11033 = 20 then ((shape_Sweep.f k y11009).bind fun t11034 => (some (t11034 == 0))) else (some false)) = some r := H
      have A15 := Aside0.mk A150
      clear A150
      by_cases c16 : t11033 = 20
      ·rw [if_pos c16] at H
       have c16b0 : (t11033 == 20) = true := beq_iff_eq.mpr c16
       have c16b1 : (t11033 != 20) = false := bne_eq_false_iff_eq.mpr c16
       clear c16
       replace H := Option.bind_eq_some_iff.mp H
       obtain ⟨t11034, A170, H⟩ := H
       replace H : (some (t11034 == 0)) = some r := H
       have A17 := Aside0.mk A170
       clear A170
       obtain rfl := Option.some.inj H
       go_enter Try.func11, Try.ntmps11
       try go_wp2_with (first | ((with_reducible refine gate_dst (N := 6) rfl ?_); refine Kd.R_lit k49 _ 49 ?hg (N := 6) ?hd (xs := ([(⟨(-50), 50⟩ : S49), (⟨(-60), 60⟩ : S49)] : List (S49))) (inner := [.int .i64 (-50), .int .i64 50, .int .i64 (-60), .int .i64 60]) (ok := fun _ => True) (okp := fun _ => True) ?hr ?hp (fun _ hk => hk) trivial (Below.refl _ _) (Nat.le_refl _) (by simp) ?_; (case hd => rfl); (case hg => rfl); (case hr => first | (go_simp; done) | (go_simp; rfl)); (case hp => exact (Reps.c2 (show Kd.M k49 _ _ _ (⟨(-50), 50⟩ : S49) [.int .i64 (-50), .int .i64 50] from (k49_mkM _ _ _ (⟨(-50), 50⟩ : S49) )) (Reps.c2 (show Kd.M k49 _ _ _ (⟨(-60), 60⟩ : S49) [.int .i64 (-60), .int .i64 60] from (k49_mkM _ _ _ (⟨(-60), 60⟩ : S49) )) (Reps.none _ _)))); intro v11002 w18 ho19 hb hg_ hnew_; clear hg_ hnew_; (first | rw [← Ny11001.out] at ho19 | (simp only [Int.reduceToNat] at ho19; rw [← Ny11001.out] at ho19)); have n0_ := Aside0.mk (Kd.R_lower ho19 bz_); have n1_ := Aside0.mk (bs_ hb); clear HB; have HO11003 := n0_; have HB := n1_; clear n0_ n1_ hb ho19; obtain ⟨Ao20, co20, eo20⟩ := Kd.R_slice HO11003.out; subst eo20) | ((with_reducible refine gate_dst (N := 1) rfl ?_); refine box_event ?hg (N := 1) ?hd (cs := #[.int .i64 0, .slice none 0 0]) (t := 24) ?hr ?_; (case hd => rfl); (case hg => rfl); (case hr => first | (go_simp; done) | (go_simp; rfl)); intro gb11004 hg w21 hbox hb; have n0_ := Aside0.mk (Kd.R_below (fR_ HO11003.out) hb); have n1_ := Aside0.mk (bs_ hb); have n2_ := Aside0.mk (hbox); have n3_ := Aside0.mk ((by rw [hg]; exact bz_ : w.heap.size ≤ gb11004)); have n4_ := Aside0.mk ((by rw [hg]; exact bz_ : w.heap.size ≤ gb11004)); clear HO11003 HB; have HO11003 := n0_; have HB := n1_; have BK11004 := n2_; have GW11004 := n3_; have GE11004 := n4_; clear n0_ n1_ n2_ n3_ n4_ hb hbox hg; have hcz22_0 : w21.cell? ⟨gb11004, 0, none⟩ = some (.int .i64 0) := (blk_cell BK11004.out 0).trans rfl; have hcz22_1 : w21.cell? ⟨gb11004, 1, none⟩ = some (.slice none 0 0) := (blk_cell BK11004.out 1).trans rfl; have hfz22_0 := blk_frozen BK11004.out 0; have hfz22_1 := blk_frozen BK11004.out 1))
       have n0_ : Aside0 (Kd.R k49 49 ((w21.setCell ⟨gb11004, 0, none⟩ (.int .i64 0)).setCell ⟨gb11004, 1, none⟩ (.slice Ao20 y11001.length co20)) w.heap.size (fun _ => True) (.slice Ao20 y11001.length co20) y11001) := ⟨by (with_reducible repeat (first | apply Kd.R_alloc | apply Kd.R_drewN | apply Kd.R_drew)); exact Kd.R_mono (Kd.R_far (p := ⟨gb11004, 1, none⟩) (Kd.R_far (p := ⟨gb11004, 0, none⟩) (Kd.R_types HO11003.out BK11004.out (by decide)) (fun _ hk => hk.2) (.int .i64 0)) (fun _ hk => hk.2) (.slice Ao20 y11001.length co20)) (fun _ hk => trivial)⟩
       have n1_ : Aside0 (((w21.setCell ⟨gb11004, 0, none⟩ (.int .i64 0)).setCell ⟨gb11004, 1, none⟩ (.slice Ao20 y11001.length co20)).heap[gb11004]? = some (.cells #[.int .i64 0, .slice Ao20 y11001.length co20] 24 (0, 0))) := ⟨by (with_reducible repeat (first | refine blk_drewN ?_ _ | refine blk_drew ?_ | refine blk_alloc ?_ _)); refine blk_put (cs := #[.int .i64 0, .slice none 0 0]) ?_ 1 _ rfl; (with_reducible repeat (first | refine blk_drewN ?_ _ | refine blk_drew ?_ | refine blk_alloc ?_ _)); refine blk_put (cs := #[.int .i64 0, .slice none 0 0]) ?_ 0 _ rfl; (with_reducible repeat (first | refine blk_drewN ?_ _ | refine blk_drew ?_ | refine blk_alloc ?_ _)); exact BK11004.out⟩
       have n2_ : Aside0 (Below w.heap.size w ((w21.setCell ⟨gb11004, 0, none⟩ (.int .i64 0)).setCell ⟨gb11004, 1, none⟩ (.slice Ao20 y11001.length co20))) := ⟨be_⟩
       (try clear HO11003)
       (try clear BK11004)
       (try clear HB)
       generalize ((w21.setCell ⟨gb11004, 0, none⟩ (.int .i64 0)).setCell ⟨gb11004, 1, none⟩ (.slice Ao20 y11001.length co20)) = w23 at n0_ n1_ n2_ ⊢
       have HO11003 := n0_
       have BK11004 := n1_
       have HB := n2_
       clear n0_ n1_ n2_
       have n0_ := Aside0.mk (Kd.R_drew HO11003.out)
       have n1_ := Aside0.mk (blk_drew BK11004.out)
       have n2_ := Aside0.mk (below_drew1 HB.out)
       clear HO11003 BK11004 HB
       have HO11003 := n0_
       have BK11004 := n1_
       have HB := n2_
       clear n0_ n1_ n2_
       refine start_ (n := 6) (S := fun w' => w'.cell? ⟨gb11004, 0, none⟩ = some (.int .i64 0) ∧ w'.cell? ⟨gb11004, 1, none⟩ = some (.slice Ao20 y11001.length co20)) (ds := []) #[false, false, false, false, false, false] (by kernel_rfl) rfl rfl ⟨(blk_cell BK11004.out 0).trans rfl, (blk_cell BK11004.out 1).trans rfl⟩ (fun hHeld => ?_)
       generalize w23.drew = w24 at HO11003 BK11004 HB hHeld ⊢
       refine take_ (i := 0) (N := some 8) (v := ?_) (a' := ?_) #[true, false, false, false, false, false] rfl rfl (by kernel_rfl) (fun _ _ _ h => h) (Or.inl ⟨by rfl, ?_⟩) hHeld ?_ ?_
       rotate_left
       ·rintro w' ⟨s0, s1⟩
        go_simp
        with_reducible rfl
       rotate_left
       ·simp only [Act.put, List.setIfInBounds_toArray, List.set_cons_zero, List.set_cons_succ, i64_w, i32_w]
        rfl
       refine pure_ (i := 1) (N := some 9) (v := ?_) (a' := ?_) #[true, true, false, false, false, false] rfl rfl (by kernel_rfl) (fun _ _ _ h => h) (Or.inl ⟨by rfl, ?_⟩) ?_ ?_
       rotate_left
       ·intro w'
        go_simp
        with_reducible rfl
       rotate_left
       ·simp only [Act.put, List.setIfInBounds_toArray, List.set_cons_zero, List.set_cons_succ, i64_w, i32_w]
        rfl
       refine one_ (i := 2) (N := some 10) #[true, true, true, false, false, false] rfl rfl (by kernel_rfl) (by decide) (fun K hK => ?_)
       refine goes_ Try.func35 (by kernel_rfl) rfl #[.int .i64 (-50), .int .i64 50] (by rfl) rfl rfl la_ ?_
       with_reducible refine (sawmilllaw14_one.calls (-50) 50 t11005 t11006 _ A1.out).mono ?_
       rintro e w25 ⟨v11007, rfl, ho0, hb⟩
       refine ⟨_, rfl, ?_⟩
       have n0_ := Aside0.mk (Kd.R_elder' (fR_ HO11003.out) (Kd.R_base ho0) hb)
       have n1_ := Aside0.mk (Kd.R_lower (Kd.R_new' ho0 (Kd.R_lt (fR_ HO11003.out))) bz_)
       have n2_ := Aside0.mk (blk_below (g := gb11004) (o := .cells #[.int .i64 0, .slice Ao20 y11001.length co20] 24 (0, 0)) (fb_ BK11004.out) hb)
       have n3_ := Aside0.mk (bs_ hb)
       clear HO11003 BK11004 HB
       have HO11003 := n0_
       have HO11008 := n1_
       have BK11004 := n2_
       have HB := n3_
       clear n0_ n1_ n2_ n3_
       (try clear hb)
       (try clear hb2)
       (try clear hk)
       (try clear hi)
       (try clear ho0)
       obtain ⟨Ao26, co26, eo26⟩ := Kd.R_slice HO11008.out
       (first | subst eo26 | (injection eo26 with f1_ f2_ f3_; have f4_ := f1_.symm; have f5_ := f3_.symm; clear f1_ f2_ f3_; subst f4_; subst f5_))
       refine hK.out _ _ ⟨(blk_cell BK11004.out 0).trans rfl, (blk_cell BK11004.out 1).trans rfl⟩ (fun hHeld => ?_)
       clear hK K
       refine norm_ (a' := ?_) ?_ ?_
       rotate_left
       ·show Act.put _ (some 10) _ = _
        simp only [Act.put, List.setIfInBounds_toArray, List.set_cons_zero, List.set_cons_succ, i64_w, i32_w]
        rfl
       refine pure_ (i := 3) (N := some 11) (v := ?_) (a' := ?_) #[true, true, true, true, false, false] rfl rfl (by kernel_rfl) (fun _ _ _ h => h) (Or.inl ⟨by rfl, ?_⟩) ?_ ?_
       rotate_left
       ·intro w'
        go_simp
        with_reducible rfl
       rotate_left
       ·simp only [Act.put, List.setIfInBounds_toArray, List.set_cons_zero, List.set_cons_succ, i64_w, i32_w]
        rfl
       refine one_ (i := 4) (N := some 12) #[true, true, true, true, true, false] rfl rfl (by kernel_rfl) (by decide) (fun K hK => ?_)
       refine Kd.N_lit_step k36 _ 36 ?hg (N' := 12) ?hd (xs := ([(⟨2000, (⟨0, y11001⟩ : S24)⟩ : S36), (⟨1000, (⟨t11005, t11006⟩ : S24)⟩ : S36)] : List (S36))) (inner := [.int .i64 2000, .int .i64 0, .slice Ao20 y11001.length co20, .int .i64 1000, .int .i64 t11005, .slice Ao26 t11006.length co26]) (ok := (fun k_ => k_ ≠ gb11004)) (okp := (fun k_ => k_ ≠ gb11004)) ?hr ?hp (fun _ hk => hk) ((show ∀ k_, w25.heap.size ≤ k_ → (fun k_ => k_ ≠ gb11004) k_ from fun k_ hk => Kd.freshB (g := gb11004) (o := .cells #[.int .i64 0, .slice Ao20 y11001.length co20] 24 (0, 0)) (fb_ BK11004.out) k_ hk) _ (Nat.le_refl _)) (Below.refl _ _) (Nat.le_refl _) (by simp) ?_; (case hd => rfl); (case hg => rfl); (case hr => first | (go_simp; done) | (go_simp; rfl)); (case hp => exact (Reps.c3 (show Kd.FK k36 _ _ (⟨2000, (⟨0, y11001⟩ : S24)⟩ : S36) [.int .i64 2000, .int .i64 0, .slice Ao20 y11001.length co20] from (k36_mkF _ _ (⟨2000, (⟨0, y11001⟩ : S24)⟩ : S36) (Kd.R_reads' (Kd.R_mono (ok' := (fun k_ => k_ ≠ gb11004)) (Kd.R_types (HO11003.out) BK11004.out (by decide)) (fun k_ hk => hk.2))).2.1 (Kd.R_F (Kd.R_mono (ok' := (fun k_ => k_ ≠ gb11004)) (Kd.R_types (HO11003.out) BK11004.out (by decide)) (fun k_ hk => hk.2))))) (Reps.c3 (show Kd.FK k36 _ _ (⟨1000, (⟨t11005, t11006⟩ : S24)⟩ : S36) [.int .i64 1000, .int .i64 t11005, .slice Ao26 t11006.length co26] from (k36_mkF _ _ (⟨1000, (⟨t11005, t11006⟩ : S24)⟩ : S36) (Kd.R_reads' (Kd.R_mono (ok' := (fun k_ => k_ ≠ gb11004)) (Kd.R_types (HO11008.out) BK11004.out (by decide)) (fun k_ hk => hk.2))).2.1 (Kd.R_F (Kd.R_mono (ok' := (fun k_ => k_ ≠ gb11004)) (Kd.R_types (HO11008.out) BK11004.out (by decide)) (fun k_ hk => hk.2))))) (Reps.none _ _))))
       intro v11010 w27 ho28 hb hg_ hnew_
       clear hg_ hnew_
       (first | rw [← Ny11009.out] at ho28 | (simp only [Int.reduceToNat] at ho28; rw [← Ny11009.out] at ho28))
       have n0_ := Aside0.mk (Kd.N_lower ho28 bz_)
       have n1_ := Aside0.mk (blk_below (g := gb11004) (o := .cells #[.int .i64 0, .slice Ao20 y11001.length co20] 24 (0, 0)) (fb_ BK11004.out) hb)
       have n2_ := Aside0.mk (Kd.V_below (Kd.R_V (base' := w.heap.size) (fR_ HO11003.out)) hb)
       have n3_ := Aside0.mk (Kd.V_below (Kd.R_V (base' := w.heap.size) (fR_ HO11008.out)) hb)
       have n4_ := Aside0.mk (bs_ hb)
       clear BK11004 HO11003 HO11008 HB
       have HO11011 := n0_
       have BK11004 := n1_
       have HO11003 := n2_
       have HO11008 := n3_
       have HB := n4_
       clear n0_ n1_ n2_ n3_ n4_ hb ho28
       refine hK.out _ _ ⟨(blk_cell BK11004.out 0).trans rfl, (blk_cell BK11004.out 1).trans rfl⟩ (fun hHeld => ?_)
       clear hK K
       refine norm_ (a' := ?_) ?_ ?_
       rotate_left
       ·show Act.put _ (some 12) _ = _
        simp only [Act.put, List.setIfInBounds_toArray, List.set_cons_zero, List.set_cons_succ, i64_w, i32_w]
        rfl
       refine pure_ (i := 5) (N := some 2) (v := ?_) (a' := ?_) #[true, true, true, true, true, true] rfl rfl (by kernel_rfl) (fun _ _ _ h => h) (Or.inl ⟨by rfl, ?_⟩) ?_ ?_
       rotate_left
       ·intro w'
        go_simp
        with_reducible rfl
       rotate_left
       ·simp only [Act.put, List.setIfInBounds_toArray, List.set_cons_zero, List.set_cons_succ, i64_w, i32_w]
        rfl
       refine done_ (by kernel_rfl) ?_
       try go_wp2_with (first | ((with_reducible refine gate_callee (f := 35) rfl ?_); refine goesL_ (some 13) rfl rfl Try.func35 (by kernel_rfl) rfl #[.int .i64 (-50), .int .i64 50] rfl la_ ?_; (with_reducible refine (sawmilllaw14_one.calls (-50) 50 t11012 t11013 _ A2.out).mono ?_); rintro e w29 ⟨v11014, rfl, ho0, hb⟩; refine ⟨_, rfl, ?_⟩; have n0_ := Aside0.mk (Kd.N_elder' (fN_ HO11011.out) (Kd.R_base ho0) hb); have n1_ := Aside0.mk (Kd.V_elder' (fV_ HO11003.out) (Kd.R_base ho0) hb); have n2_ := Aside0.mk (Kd.V_elder' (fV_ HO11008.out) (Kd.R_base ho0) hb); have n3_ := Aside0.mk (Kd.R_lower ho0 bz_); have n4_ := Aside0.mk (blk_below (g := gb11004) (o := .cells #[.int .i64 0, .slice Ao20 y11001.length co20] 24 (0, 0)) (fb_ BK11004.out) hb); have n5_ := Aside0.mk (bs_ hb); clear HO11011 HO11003 HO11008 BK11004 HB; have HO11011 := n0_; have HO11003 := n1_; have HO11008 := n2_; have HO11015 := n3_; have BK11004 := n4_; have HB := n5_; clear n0_ n1_ n2_ n3_ n4_ n5_; (try clear hb); (try clear hb2); (try clear hk); (try clear hi); (try clear ho0); obtain ⟨Ao30, co30, eo30⟩ := Kd.R_slice HO11015.out; subst eo30) | ((with_reducible refine gate_callee (f := 35) rfl ?_); refine goesL_ (some 15) rfl rfl Try.func35 (by kernel_rfl) rfl #[.int .i64 (-40), .int .i64 60] rfl la_ ?_; (with_reducible refine (sawmilllaw14_one.calls (-40) 60 t11016 t11017 _ A3.out).mono ?_); rintro e w31 ⟨v11018, rfl, ho0, hb⟩; refine ⟨_, rfl, ?_⟩; have n0_ := Aside0.mk (Kd.N_elder' (fN_ HO11011.out) (Kd.R_base ho0) hb); have n1_ := Aside0.mk (Kd.V_elder' (fV_ HO11003.out) (Kd.R_base ho0) hb); have n2_ := Aside0.mk (Kd.V_elder' (fV_ HO11008.out) (Kd.R_base ho0) hb); have n3_ := Aside0.mk (Kd.R_elder' (fR_ HO11015.out) (Kd.R_base ho0) hb); have n4_ := Aside0.mk (Kd.R_lower (Kd.R_new' ho0 (Kd.R_lt (fR_ HO11015.out))) bz_); have n5_ := Aside0.mk (blk_below (g := gb11004) (o := .cells #[.int .i64 0, .slice Ao20 y11001.length co20] 24 (0, 0)) (fb_ BK11004.out) hb); have n6_ := Aside0.mk (bs_ hb); clear HO11011 HO11003 HO11008 HO11015 BK11004 HB; have HO11011 := n0_; have HO11003 := n1_; have HO11008 := n2_; have HO11015 := n3_; have HO11019 := n4_; have BK11004 := n5_; have HB := n6_; clear n0_ n1_ n2_ n3_ n4_ n5_ n6_; (try clear hb); (try clear hb2); (try clear hk); (try clear hi); (try clear ho0); obtain ⟨Ao32, co32, eo32⟩ := Kd.R_slice HO11019.out; subst eo32) | ((with_reducible refine gate_callee (f := 35) rfl ?_); refine goesL_ (some 17) rfl rfl Try.func35 (by kernel_rfl) rfl #[.int .i64 (-50), .int .i64 50] rfl la_ ?_; (with_reducible refine (sawmilllaw14_one.calls (-50) 50 t11020 t11021 _ A4.out).mono ?_); rintro e w33 ⟨v11022, rfl, ho0, hb⟩; refine ⟨_, rfl, ?_⟩; have n0_ := Aside0.mk (Kd.N_elder' (fN_ HO11011.out) (Kd.R_base ho0) hb); have n1_ := Aside0.mk (Kd.V_elder' (fV_ HO11003.out) (Kd.R_base ho0) hb); have n2_ := Aside0.mk (Kd.V_elder' (fV_ HO11008.out) (Kd.R_base ho0) hb); have n3_ := Aside0.mk (Kd.R_elder' (fR_ HO11015.out) (Kd.R_base ho0) hb); have n4_ := Aside0.mk (Kd.R_elder' (fR_ HO11019.out) (Kd.R_base ho0) hb); have n5_ := Aside0.mk (Kd.R_lower (Kd.R_new' (Kd.R_new' ho0 (Kd.R_lt (fR_ HO11015.out))) (Kd.R_lt (fR_ HO11019.out))) bz_); have n6_ := Aside0.mk (blk_below (g := gb11004) (o := .cells #[.int .i64 0, .slice Ao20 y11001.length co20] 24 (0, 0)) (fb_ BK11004.out) hb); have n7_ := Aside0.mk (bs_ hb); clear HO11011 HO11003 HO11008 HO11015 HO11019 BK11004 HB; have HO11011 := n0_; have HO11003 := n1_; have HO11008 := n2_; have HO11015 := n3_; have HO11019 := n4_; have HO11023 := n5_; have BK11004 := n6_; have HB := n7_; clear n0_ n1_ n2_ n3_ n4_ n5_ n6_ n7_; (try clear hb); (try clear hb2); (try clear hk); (try clear hi); (try clear ho0); obtain ⟨Ao34, co34, eo34⟩ := Kd.R_slice HO11023.out; subst eo34) | ((with_reducible refine gate_dst (N := 19) rfl ?_); refine Kd.N_lit k36 _ 36 ?hg (N' := 19) ?hd (xs := ([(⟨1000, (⟨t11012, t11013⟩ : S24)⟩ : S36), (⟨1000, (⟨t11016, t11017⟩ : S24)⟩ : S36), (⟨1000, (⟨t11020, t11021⟩ : S24)⟩ : S36)] : List (S36))) (inner := [.int .i64 1000, .int .i64 t11012, .slice Ao30 t11013.length co30, .int .i64 1000, .int .i64 t11016, .slice Ao32 t11017.length co32, .int .i64 1000, .int .i64 t11020, .slice Ao34 t11021.length co34]) (ok := (fun k_ => some k_ ≠ (v11010 : Value).ownBlock ∧ k_ ≠ gb11004)) (okp := (fun k_ => some k_ ≠ (v11010 : Value).ownBlock ∧ k_ ≠ gb11004)) ?hr ?hp (fun _ hk => hk) ((show ∀ k_, w33.heap.size ≤ k_ → (fun k_ => some k_ ≠ (v11010 : Value).ownBlock ∧ k_ ≠ gb11004) k_ from fun k_ hk => ⟨Kd.fresh' (Kd.N_lt (fN_ HO11011.out)) k_ hk, Kd.freshB (g := gb11004) (o := .cells #[.int .i64 0, .slice Ao20 y11001.length co20] 24 (0, 0)) (fb_ BK11004.out) k_ hk⟩) _ (Nat.le_refl _)) (Below.refl _ _) (Nat.le_refl _) (by simp) ?_; (case hd => rfl); (case hg => rfl); (case hr => first | (go_simp; done) | (go_simp; rfl)); (case hp => exact (Reps.c3 (show Kd.FK k36 _ _ (⟨1000, (⟨t11012, t11013⟩ : S24)⟩ : S36) [.int .i64 1000, .int .i64 t11012, .slice Ao30 t11013.length co30] from (k36_mkF _ _ (⟨1000, (⟨t11012, t11013⟩ : S24)⟩ : S36) (Kd.R_reads' (Kd.R_mono (ok' := (fun k_ => some k_ ≠ (v11010 : Value).ownBlock ∧ k_ ≠ gb11004)) (Kd.R_types (Kd.R_apart' (HO11015.out) (Kd.N_typed HO11011.out) (by decide)) BK11004.out (by decide)) (fun k_ hk => ⟨hk.1.2, hk.2⟩))).2.1 (Kd.R_F (Kd.R_mono (ok' := (fun k_ => some k_ ≠ (v11010 : Value).ownBlock ∧ k_ ≠ gb11004)) (Kd.R_types (Kd.R_apart' (HO11015.out) (Kd.N_typed HO11011.out) (by decide)) BK11004.out (by decide)) (fun k_ hk => ⟨hk.1.2, hk.2⟩))))) (Reps.c3 (show Kd.FK k36 _ _ (⟨1000, (⟨t11016, t11017⟩ : S24)⟩ : S36) [.int .i64 1000, .int .i64 t11016, .slice Ao32 t11017.length co32] from (k36_mkF _ _ (⟨1000, (⟨t11016, t11017⟩ : S24)⟩ : S36) (Kd.R_reads' (Kd.R_mono (ok' := (fun k_ => some k_ ≠ (v11010 : Value).ownBlock ∧ k_ ≠ gb11004)) (Kd.R_types (Kd.R_apart' (HO11019.out) (Kd.N_typed HO11011.out) (by decide)) BK11004.out (by decide)) (fun k_ hk => ⟨hk.1.2, hk.2⟩))).2.1 (Kd.R_F (Kd.R_mono (ok' := (fun k_ => some k_ ≠ (v11010 : Value).ownBlock ∧ k_ ≠ gb11004)) (Kd.R_types (Kd.R_apart' (HO11019.out) (Kd.N_typed HO11011.out) (by decide)) BK11004.out (by decide)) (fun k_ hk => ⟨hk.1.2, hk.2⟩))))) (Reps.c3 (show Kd.FK k36 _ _ (⟨1000, (⟨t11020, t11021⟩ : S24)⟩ : S36) [.int .i64 1000, .int .i64 t11020, .slice Ao34 t11021.length co34] from (k36_mkF _ _ (⟨1000, (⟨t11020, t11021⟩ : S24)⟩ : S36) (Kd.R_reads' (Kd.R_mono (ok' := (fun k_ => some k_ ≠ (v11010 : Value).ownBlock ∧ k_ ≠ gb11004)) (Kd.R_types (Kd.R_apart' (HO11023.out) (Kd.N_typed HO11011.out) (by decide)) BK11004.out (by decide)) (fun k_ hk => ⟨hk.1.2, hk.2⟩))).2.1 (Kd.R_F (Kd.R_mono (ok' := (fun k_ => some k_ ≠ (v11010 : Value).ownBlock ∧ k_ ≠ gb11004)) (Kd.R_types (Kd.R_apart' (HO11023.out) (Kd.N_typed HO11011.out) (by decide)) BK11004.out (by decide)) (fun k_ hk => ⟨hk.1.2, hk.2⟩))))) (Reps.none _ _))))); intro v11025 w35 ho36 hb hg_ hnew_; clear hg_ hnew_; (first | rw [← Ny11024.out] at ho36 | (simp only [Int.reduceToNat] at ho36; rw [← Ny11024.out] at ho36)); have n0_ := Aside0.mk (Kd.N_elder' (fN_ HO11011.out) (Kd.N_base ho36) hb); have n1_ := Aside0.mk (Kd.V_elder' (fV_ HO11003.out) (Kd.N_base ho36) hb); have n2_ := Aside0.mk (Kd.V_elder' (fV_ HO11008.out) (Kd.N_base ho36) hb); have n3_ := Aside0.mk (Kd.N_lower ho36 bz_); have n4_ := Aside0.mk (blk_below (g := gb11004) (o := .cells #[.int .i64 0, .slice Ao20 y11001.length co20] 24 (0, 0)) (fb_ BK11004.out) hb); have n5_ := Aside0.mk (Kd.V_below (Kd.R_V (base' := w.heap.size) (fR_ HO11015.out)) hb); have n6_ := Aside0.mk (Kd.V_below (Kd.R_V (base' := w.heap.size) (fR_ HO11019.out)) hb); have n7_ := Aside0.mk (Kd.V_below (Kd.R_V (base' := w.heap.size) (fR_ HO11023.out)) hb); have n8_ := Aside0.mk (bs_ hb); clear HO11011 HO11003 HO11008 BK11004 HO11015 HO11019 HO11023 HB; have HO11011 := n0_; have HO11003 := n1_; have HO11008 := n2_; have HO11026 := n3_; have BK11004 := n4_; have HO11015 := n5_; have HO11019 := n6_; have HO11023 := n7_; have HB := n8_; clear n0_ n1_ n2_ n3_ n4_ n5_ n6_ n7_ n8_ hb ho36; have hcz37_0 : w35.cell? ⟨gb11004, 0, none⟩ = some (.int .i64 0) := (blk_cell BK11004.out 0).trans rfl; have hcz37_1 : w35.cell? ⟨gb11004, 1, none⟩ = some (.slice Ao20 y11001.length co20) := (blk_cell BK11004.out 1).trans rfl; have hfz37_0 := blk_frozen BK11004.out 0; have hfz37_1 := blk_frozen BK11004.out 1) | ((with_reducible refine gate_callee (f := 12) rfl ?_); refine goesL_ (some 21) rfl rfl Try.func12 (by kernel_rfl) rfl #[.agg #[.int .i64 0, .slice Ao20 y11001.length co20]] rfl la_ ?_; (with_reducible refine (shape_Diameter.calls k 0 _ _ y11001 t11027 _ ?side1 ?side2 A5.out).mono ?_); (case side1 => repeat (first | exact (Kd.V_reads' HO11003.out).2.2 | (with_reducible refine Kd.C_alloc ?_ _) | (with_reducible refine Kd.C_drewN ?_ _) | (with_reducible refine Kd.C_drew ?_))); (case side2 => exact (Kd.V_reads' HO11003.out).2.1); rintro e w38 ⟨rfl, hb⟩; refine ⟨_, rfl, ?_⟩; have n0_ := Aside0.mk (Kd.N_below (fN_ HO11011.out) hb); have n1_ := Aside0.mk (Kd.V_below (fV_ HO11003.out) hb); have n2_ := Aside0.mk (Kd.V_below (fV_ HO11008.out) hb); have n3_ := Aside0.mk (Kd.N_below (fN_ HO11026.out) hb); have n4_ := Aside0.mk (Kd.V_below (fV_ HO11015.out) hb); have n5_ := Aside0.mk (Kd.V_below (fV_ HO11019.out) hb); have n6_ := Aside0.mk (Kd.V_below (fV_ HO11023.out) hb); have n7_ := Aside0.mk (blk_below (g := gb11004) (o := .cells #[.int .i64 0, .slice Ao20 y11001.length co20] 24 (0, 0)) (fb_ BK11004.out) hb); have n8_ := Aside0.mk (bs_ hb); clear HO11011 HO11003 HO11008 HO11026 HO11015 HO11019 HO11023 BK11004 HB; have HO11011 := n0_; have HO11003 := n1_; have HO11008 := n2_; have HO11026 := n3_; have HO11015 := n4_; have HO11019 := n5_; have HO11023 := n6_; have BK11004 := n7_; have HB := n8_; clear n0_ n1_ n2_ n3_ n4_ n5_ n6_ n7_ n8_; (try clear hb); (try clear hb2); (try clear hk); (try clear hi); have hcz39_0 : w38.cell? ⟨gb11004, 0, none⟩ = some (.int .i64 0) := (blk_cell BK11004.out 0).trans rfl; have hcz39_1 : w38.cell? ⟨gb11004, 1, none⟩ = some (.slice Ao20 y11001.length co20) := (blk_cell BK11004.out 1).trans rfl; have hfz39_0 := blk_frozen BK11004.out 0; have hfz39_1 := blk_frozen BK11004.out 1) | (go_at_call 14; (with_reducible refine (shape_Center2.calls k 0 _ _ y11001 t11028 t11029 _ ?side1 ?side2 A7.out).mono ?_); (case side1 => repeat (first | exact (Kd.V_reads' HO11003.out).2.2 | (with_reducible refine Kd.C_alloc ?_ _) | (with_reducible refine Kd.C_drewN ?_ _) | (with_reducible refine Kd.C_drew ?_))); (case side2 => exact (Kd.V_reads' HO11003.out).2.1); rintro e w40 ⟨rfl, hb⟩; have n0_ := Aside0.mk (Kd.N_below (fN_ HO11011.out) hb); have n1_ := Aside0.mk (Kd.V_below (fV_ HO11003.out) hb); have n2_ := Aside0.mk (Kd.V_below (fV_ HO11008.out) hb); have n3_ := Aside0.mk (Kd.N_below (fN_ HO11026.out) hb); have n4_ := Aside0.mk (Kd.V_below (fV_ HO11015.out) hb); have n5_ := Aside0.mk (Kd.V_below (fV_ HO11019.out) hb); have n6_ := Aside0.mk (Kd.V_below (fV_ HO11023.out) hb); have n7_ := Aside0.mk (blk_below (g := gb11004) (o := .cells #[.int .i64 0, .slice Ao20 y11001.length co20] 24 (0, 0)) (fb_ BK11004.out) hb); have n8_ := Aside0.mk (bs_ hb); clear HO11011 HO11003 HO11008 HO11026 HO11015 HO11019 HO11023 BK11004 HB; have HO11011 := n0_; have HO11003 := n1_; have HO11008 := n2_; have HO11026 := n3_; have HO11015 := n4_; have HO11019 := n5_; have HO11023 := n6_; have BK11004 := n7_; have HB := n8_; clear n0_ n1_ n2_ n3_ n4_ n5_ n6_ n7_ n8_; (try clear hb); (try clear hb2); (try clear hk); (try clear hi); have hcz41_0 : w40.cell? ⟨gb11004, 0, none⟩ = some (.int .i64 0) := (blk_cell BK11004.out 0).trans rfl; have hcz41_1 : w40.cell? ⟨gb11004, 1, none⟩ = some (.slice Ao20 y11001.length co20) := (blk_cell BK11004.out 1).trans rfl; have hfz41_0 := blk_frozen BK11004.out 0; have hfz41_1 := blk_frozen BK11004.out 1) | (go_at_call 16; (with_reducible refine (shape_Oval.calls k 0 _ _ y11001 t11030 _ ?side1 ?side2 A9.out).mono ?_); (case side1 => repeat (first | exact (Kd.V_reads' HO11003.out).2.2 | (with_reducible refine Kd.C_alloc ?_ _) | (with_reducible refine Kd.C_drewN ?_ _) | (with_reducible refine Kd.C_drew ?_))); (case side2 => exact (Kd.V_reads' HO11003.out).2.1); rintro e w42 ⟨rfl, hb⟩; have n0_ := Aside0.mk (Kd.N_below (fN_ HO11011.out) hb); have n1_ := Aside0.mk (Kd.V_below (fV_ HO11003.out) hb); have n2_ := Aside0.mk (Kd.V_below (fV_ HO11008.out) hb); have n3_ := Aside0.mk (Kd.N_below (fN_ HO11026.out) hb); have n4_ := Aside0.mk (Kd.V_below (fV_ HO11015.out) hb); have n5_ := Aside0.mk (Kd.V_below (fV_ HO11019.out) hb); have n6_ := Aside0.mk (Kd.V_below (fV_ HO11023.out) hb); have n7_ := Aside0.mk (blk_below (g := gb11004) (o := .cells #[.int .i64 0, .slice Ao20 y11001.length co20] 24 (0, 0)) (fb_ BK11004.out) hb); have n8_ := Aside0.mk (bs_ hb); clear HO11011 HO11003 HO11008 HO11026 HO11015 HO11019 HO11023 BK11004 HB; have HO11011 := n0_; have HO11003 := n1_; have HO11008 := n2_; have HO11026 := n3_; have HO11015 := n4_; have HO11019 := n5_; have HO11023 := n6_; have BK11004 := n7_; have HB := n8_; clear n0_ n1_ n2_ n3_ n4_ n5_ n6_ n7_ n8_; (try clear hb); (try clear hb2); (try clear hk); (try clear hi); obtain ⟨Ao43, co43, eo43⟩ := Kd.N_slice HO11011.out; subst eo43) | (go_at_call 19; (with_reducible refine (shape_Top.calls k _ _ y11009 t11031 _ ?side1 ?side2 A11.out).mono ?_); (case side1 => repeat (first | exact (Kd.N_reads' HO11011.out).2.2 | (with_reducible refine Kd.C_alloc ?_ _) | (with_reducible refine Kd.C_drewN ?_ _) | (with_reducible refine Kd.C_drew ?_))); (case side2 => exact (Kd.N_reads' HO11011.out).2.1); rintro e w44 ⟨rfl, hb⟩; have n0_ := Aside0.mk (Kd.N_below (fN_ HO11011.out) hb); have n1_ := Aside0.mk (Kd.V_below (fV_ HO11003.out) hb); have n2_ := Aside0.mk (Kd.V_below (fV_ HO11008.out) hb); have n3_ := Aside0.mk (Kd.N_below (fN_ HO11026.out) hb); have n4_ := Aside0.mk (Kd.V_below (fV_ HO11015.out) hb); have n5_ := Aside0.mk (Kd.V_below (fV_ HO11019.out) hb); have n6_ := Aside0.mk (Kd.V_below (fV_ HO11023.out) hb); have n7_ := Aside0.mk (blk_below (g := gb11004) (o := .cells #[.int .i64 0, .slice Ao20 y11001.length co20] 24 (0, 0)) (fb_ BK11004.out) hb); have n8_ := Aside0.mk (bs_ hb); clear HO11011 HO11003 HO11008 HO11026 HO11015 HO11019 HO11023 BK11004 HB; have HO11011 := n0_; have HO11003 := n1_; have HO11008 := n2_; have HO11026 := n3_; have HO11015 := n4_; have HO11019 := n5_; have HO11023 := n6_; have BK11004 := n7_; have HB := n8_; clear n0_ n1_ n2_ n3_ n4_ n5_ n6_ n7_ n8_; (try clear hb); (try clear hb2); (try clear hk); (try clear hi)) | (go_at_call 21; (with_reducible refine (shape_Taper.calls k _ _ y11009 t11032 _ ?side1 ?side2 A13.out).mono ?_); (case side1 => repeat (first | exact (Kd.N_reads' HO11011.out).2.2 | (with_reducible refine Kd.C_alloc ?_ _) | (with_reducible refine Kd.C_drewN ?_ _) | (with_reducible refine Kd.C_drew ?_))); (case side2 => exact (Kd.N_reads' HO11011.out).2.1); rintro e w45 ⟨rfl, hb⟩; have n0_ := Aside0.mk (Kd.N_below (fN_ HO11011.out) hb); have n1_ := Aside0.mk (Kd.V_below (fV_ HO11003.out) hb); have n2_ := Aside0.mk (Kd.V_below (fV_ HO11008.out) hb); have n3_ := Aside0.mk (Kd.N_below (fN_ HO11026.out) hb); have n4_ := Aside0.mk (Kd.V_below (fV_ HO11015.out) hb); have n5_ := Aside0.mk (Kd.V_below (fV_ HO11019.out) hb); have n6_ := Aside0.mk (Kd.V_below (fV_ HO11023.out) hb); have n7_ := Aside0.mk (blk_below (g := gb11004) (o := .cells #[.int .i64 0, .slice Ao20 y11001.length co20] 24 (0, 0)) (fb_ BK11004.out) hb); have n8_ := Aside0.mk (bs_ hb); clear HO11011 HO11003 HO11008 HO11026 HO11015 HO11019 HO11023 BK11004 HB; have HO11011 := n0_; have HO11003 := n1_; have HO11008 := n2_; have HO11026 := n3_; have HO11015 := n4_; have HO11019 := n5_; have HO11023 := n6_; have BK11004 := n7_; have HB := n8_; clear n0_ n1_ n2_ n3_ n4_ n5_ n6_ n7_ n8_; (try clear hb); (try clear hb2); (try clear hk); (try clear hi); obtain ⟨Ao46, co46, eo46⟩ := Kd.N_slice HO11026.out; subst eo46) | (go_at_call 23; (with_reducible refine (shape_Sweep.calls k _ _ y11024 t11033 _ ?side1 ?side2 A15.out).mono ?_); (case side1 => repeat (first | exact (Kd.N_reads' HO11026.out).2.2 | (with_reducible refine Kd.C_alloc ?_ _) | (with_reducible refine Kd.C_drewN ?_ _) | (with_reducible refine Kd.C_drew ?_))); (case side2 => exact (Kd.N_reads' HO11026.out).2.1); rintro e w47 ⟨rfl, hb⟩; have n0_ := Aside0.mk (Kd.N_below (fN_ HO11011.out) hb); have n1_ := Aside0.mk (Kd.V_below (fV_ HO11003.out) hb); have n2_ := Aside0.mk (Kd.V_below (fV_ HO11008.out) hb); have n3_ := Aside0.mk (Kd.N_below (fN_ HO11026.out) hb); have n4_ := Aside0.mk (Kd.V_below (fV_ HO11015.out) hb); have n5_ := Aside0.mk (Kd.V_below (fV_ HO11019.out) hb); have n6_ := Aside0.mk (Kd.V_below (fV_ HO11023.out) hb); have n7_ := Aside0.mk (blk_below (g := gb11004) (o := .cells #[.int .i64 0, .slice Ao20 y11001.length co20] 24 (0, 0)) (fb_ BK11004.out) hb); have n8_ := Aside0.mk (bs_ hb); clear HO11011 HO11003 HO11008 HO11026 HO11015 HO11019 HO11023 BK11004 HB; have HO11011 := n0_; have HO11003 := n1_; have HO11008 := n2_; have HO11026 := n3_; have HO11015 := n4_; have HO11019 := n5_; have HO11023 := n6_; have BK11004 := n7_; have HB := n8_; clear n0_ n1_ n2_ n3_ n4_ n5_ n6_ n7_ n8_; (try clear hb); (try clear hb2); (try clear hk); (try clear hi)) | (go_at_call 23; (with_reducible refine (shape_Sweep.calls k _ _ y11009 t11034 _ ?side1 ?side2 A17.out).mono ?_); (case side1 => repeat (first | exact (Kd.N_reads' HO11011.out).2.2 | (with_reducible refine Kd.C_alloc ?_ _) | (with_reducible refine Kd.C_drewN ?_ _) | (with_reducible refine Kd.C_drew ?_))); (case side2 => exact (Kd.N_reads' HO11011.out).2.1); rintro e w48 ⟨rfl, hb⟩; have n0_ := Aside0.mk (Kd.N_below (fN_ HO11011.out) hb); have n1_ := Aside0.mk (Kd.V_below (fV_ HO11003.out) hb); have n2_ := Aside0.mk (Kd.V_below (fV_ HO11008.out) hb); have n3_ := Aside0.mk (Kd.N_below (fN_ HO11026.out) hb); have n4_ := Aside0.mk (Kd.V_below (fV_ HO11015.out) hb); have n5_ := Aside0.mk (Kd.V_below (fV_ HO11019.out) hb); have n6_ := Aside0.mk (Kd.V_below (fV_ HO11023.out) hb); have n7_ := Aside0.mk (blk_below (g := gb11004) (o := .cells #[.int .i64 0, .slice Ao20 y11001.length co20] 24 (0, 0)) (fb_ BK11004.out) hb); have n8_ := Aside0.mk (bs_ hb); clear HO11011 HO11003 HO11008 HO11026 HO11015 HO11019 HO11023 BK11004 HB; have HO11011 := n0_; have HO11003 := n1_; have HO11008 := n2_; have HO11026 := n3_; have HO11015 := n4_; have HO11019 := n5_; have HO11023 := n6_; have BK11004 := n7_; have HB := n8_; clear n0_ n1_ n2_ n3_ n4_ n5_ n6_ n7_ n8_; (try clear hb); (try clear hb2); (try clear hk); (try clear hi)))
       go_ret
       exact ⟨er_, be_⟩
      ·rw [if_neg c16] at H
       have c16b0 : (t11033 == 20) = false := beq_eq_false_iff_ne.mpr c16
       have c16b1 : (t11033 != 20) = true := bne_iff_ne.mpr c16
       obtain rfl := Option.some.inj H
       go_enter Try.func11, Try.ntmps11
       try go_wp2_with (first | ((with_reducible refine gate_dst (N := 6) rfl ?_); refine Kd.R_lit k49 _ 49 ?hg (N := 6) ?hd (xs := ([(⟨(-50), 50⟩ : S49), (⟨(-60), 60⟩ : S49)] : List (S49))) (inner := [.int .i64 (-50), .int .i64 50, .int .i64 (-60), .int .i64 60]) (ok := fun _ => True) (okp := fun _ => True) ?hr ?hp (fun _ hk => hk) trivial (Below.refl _ _) (Nat.le_refl _) (by simp) ?_; (case hd => rfl); (case hg => rfl); (case hr => first | (go_simp; done) | (go_simp; rfl)); (case hp => exact (Reps.c2 (show Kd.M k49 _ _ _ (⟨(-50), 50⟩ : S49) [.int .i64 (-50), .int .i64 50] from (k49_mkM _ _ _ (⟨(-50), 50⟩ : S49) )) (Reps.c2 (show Kd.M k49 _ _ _ (⟨(-60), 60⟩ : S49) [.int .i64 (-60), .int .i64 60] from (k49_mkM _ _ _ (⟨(-60), 60⟩ : S49) )) (Reps.none _ _)))); intro v11002 w49 ho50 hb hg_ hnew_; clear hg_ hnew_; (first | rw [← Ny11001.out] at ho50 | (simp only [Int.reduceToNat] at ho50; rw [← Ny11001.out] at ho50)); have n0_ := Aside0.mk (Kd.R_lower ho50 bz_); have n1_ := Aside0.mk (bs_ hb); clear HB; have HO11003 := n0_; have HB := n1_; clear n0_ n1_ hb ho50; obtain ⟨Ao51, co51, eo51⟩ := Kd.R_slice HO11003.out; subst eo51) | ((with_reducible refine gate_dst (N := 1) rfl ?_); refine box_event ?hg (N := 1) ?hd (cs := #[.int .i64 0, .slice none 0 0]) (t := 24) ?hr ?_; (case hd => rfl); (case hg => rfl); (case hr => first | (go_simp; done) | (go_simp; rfl)); intro gb11004 hg w52 hbox hb; have n0_ := Aside0.mk (Kd.R_below (fR_ HO11003.out) hb); have n1_ := Aside0.mk (bs_ hb); have n2_ := Aside0.mk (hbox); have n3_ := Aside0.mk ((by rw [hg]; exact bz_ : w.heap.size ≤ gb11004)); have n4_ := Aside0.mk ((by rw [hg]; exact bz_ : w.heap.size ≤ gb11004)); clear HO11003 HB; have HO11003 := n0_; have HB := n1_; have BK11004 := n2_; have GW11004 := n3_; have GE11004 := n4_; clear n0_ n1_ n2_ n3_ n4_ hb hbox hg; have hcz53_0 : w52.cell? ⟨gb11004, 0, none⟩ = some (.int .i64 0) := (blk_cell BK11004.out 0).trans rfl; have hcz53_1 : w52.cell? ⟨gb11004, 1, none⟩ = some (.slice none 0 0) := (blk_cell BK11004.out 1).trans rfl; have hfz53_0 := blk_frozen BK11004.out 0; have hfz53_1 := blk_frozen BK11004.out 1))
       have n0_ : Aside0 (Kd.R k49 49 ((w52.setCell ⟨gb11004, 0, none⟩ (.int .i64 0)).setCell ⟨gb11004, 1, none⟩ (.slice Ao51 y11001.length co51)) w.heap.size (fun _ => True) (.slice Ao51 y11001.length co51) y11001) := ⟨by (with_reducible repeat (first | apply Kd.R_alloc | apply Kd.R_drewN | apply Kd.R_drew)); exact Kd.R_mono (Kd.R_far (p := ⟨gb11004, 1, none⟩) (Kd.R_far (p := ⟨gb11004, 0, none⟩) (Kd.R_types HO11003.out BK11004.out (by decide)) (fun _ hk => hk.2) (.int .i64 0)) (fun _ hk => hk.2) (.slice Ao51 y11001.length co51)) (fun _ hk => trivial)⟩
       have n1_ : Aside0 (((w52.setCell ⟨gb11004, 0, none⟩ (.int .i64 0)).setCell ⟨gb11004, 1, none⟩ (.slice Ao51 y11001.length co51)).heap[gb11004]? = some (.cells #[.int .i64 0, .slice Ao51 y11001.length co51] 24 (0, 0))) := ⟨by (with_reducible repeat (first | refine blk_drewN ?_ _ | refine blk_drew ?_ | refine blk_alloc ?_ _)); refine blk_put (cs := #[.int .i64 0, .slice none 0 0]) ?_ 1 _ rfl; (with_reducible repeat (first | refine blk_drewN ?_ _ | refine blk_drew ?_ | refine blk_alloc ?_ _)); refine blk_put (cs := #[.int .i64 0, .slice none 0 0]) ?_ 0 _ rfl; (with_reducible repeat (first | refine blk_drewN ?_ _ | refine blk_drew ?_ | refine blk_alloc ?_ _)); exact BK11004.out⟩
       have n2_ : Aside0 (Below w.heap.size w ((w52.setCell ⟨gb11004, 0, none⟩ (.int .i64 0)).setCell ⟨gb11004, 1, none⟩ (.slice Ao51 y11001.length co51))) := ⟨be_⟩
       (try clear HO11003)
       (try clear BK11004)
       (try clear HB)
       generalize ((w52.setCell ⟨gb11004, 0, none⟩ (.int .i64 0)).setCell ⟨gb11004, 1, none⟩ (.slice Ao51 y11001.length co51)) = w54 at n0_ n1_ n2_ ⊢
       have HO11003 := n0_
       have BK11004 := n1_
       have HB := n2_
       clear n0_ n1_ n2_
       have n0_ := Aside0.mk (Kd.R_drew HO11003.out)
       have n1_ := Aside0.mk (blk_drew BK11004.out)
       have n2_ := Aside0.mk (below_drew1 HB.out)
       clear HO11003 BK11004 HB
       have HO11003 := n0_
       have BK11004 := n1_
       have HB := n2_
       clear n0_ n1_ n2_
       refine start_ (n := 6) (S := fun w' => w'.cell? ⟨gb11004, 0, none⟩ = some (.int .i64 0) ∧ w'.cell? ⟨gb11004, 1, none⟩ = some (.slice Ao51 y11001.length co51)) (ds := []) #[false, false, false, false, false, false] (by kernel_rfl) rfl rfl ⟨(blk_cell BK11004.out 0).trans rfl, (blk_cell BK11004.out 1).trans rfl⟩ (fun hHeld => ?_)
       generalize w54.drew = w55 at HO11003 BK11004 HB hHeld ⊢
       refine take_ (i := 0) (N := some 8) (v := ?_) (a' := ?_) #[true, false, false, false, false, false] rfl rfl (by kernel_rfl) (fun _ _ _ h => h) (Or.inl ⟨by rfl, ?_⟩) hHeld ?_ ?_
       rotate_left
       ·rintro w' ⟨s0, s1⟩
        go_simp
        with_reducible rfl
       rotate_left
       ·simp only [Act.put, List.setIfInBounds_toArray, List.set_cons_zero, List.set_cons_succ, i64_w, i32_w]
        rfl
       refine pure_ (i := 1) (N := some 9) (v := ?_) (a' := ?_) #[true, true, false, false, false, false] rfl rfl (by kernel_rfl) (fun _ _ _ h => h) (Or.inl ⟨by rfl, ?_⟩) ?_ ?_
       rotate_left
       ·intro w'
        go_simp
        with_reducible rfl
       rotate_left
       ·simp only [Act.put, List.setIfInBounds_toArray, List.set_cons_zero, List.set_cons_succ, i64_w, i32_w]
        rfl
       refine one_ (i := 2) (N := some 10) #[true, true, true, false, false, false] rfl rfl (by kernel_rfl) (by decide) (fun K hK => ?_)
       refine goes_ Try.func35 (by kernel_rfl) rfl #[.int .i64 (-50), .int .i64 50] (by rfl) rfl rfl la_ ?_
       with_reducible refine (sawmilllaw14_one.calls (-50) 50 t11005 t11006 _ A1.out).mono ?_
       rintro e w56 ⟨v11007, rfl, ho0, hb⟩
       refine ⟨_, rfl, ?_⟩
       have n0_ := Aside0.mk (Kd.R_elder' (fR_ HO11003.out) (Kd.R_base ho0) hb)
       have n1_ := Aside0.mk (Kd.R_lower (Kd.R_new' ho0 (Kd.R_lt (fR_ HO11003.out))) bz_)
       have n2_ := Aside0.mk (blk_below (g := gb11004) (o := .cells #[.int .i64 0, .slice Ao51 y11001.length co51] 24 (0, 0)) (fb_ BK11004.out) hb)
       have n3_ := Aside0.mk (bs_ hb)
       clear HO11003 BK11004 HB
       have HO11003 := n0_
       have HO11008 := n1_
       have BK11004 := n2_
       have HB := n3_
       clear n0_ n1_ n2_ n3_
       (try clear hb)
       (try clear hb2)
       (try clear hk)
       (try clear hi)
       (try clear ho0)
       obtain ⟨Ao57, co57, eo57⟩ := Kd.R_slice HO11008.out
       (first | subst eo57 | (injection eo57 with f1_ f2_ f3_; have f4_ := f1_.symm; have f5_ := f3_.symm; clear f1_ f2_ f3_; subst f4_; subst f5_))
       refine hK.out _ _ ⟨(blk_cell BK11004.out 0).trans rfl, (blk_cell BK11004.out 1).trans rfl⟩ (fun hHeld => ?_)
       clear hK K
       refine norm_ (a' := ?_) ?_ ?_
       rotate_left
       ·show Act.put _ (some 10) _ = _
        simp only [Act.put, List.setIfInBounds_toArray, List.set_cons_zero, List.set_cons_succ, i64_w, i32_w]
        rfl
       refine pure_ (i := 3) (N := some 11) (v := ?_) (a' := ?_) #[true, true, true, true, false, false] rfl rfl (by kernel_rfl) (fun _ _ _ h => h) (Or.inl ⟨by rfl, ?_⟩) ?_ ?_
       rotate_left
       ·intro w'
        go_simp
        with_reducible rfl
       rotate_left
       ·simp only [Act.put, List.setIfInBounds_toArray, List.set_cons_zero, List.set_cons_succ, i64_w, i32_w]
        rfl
       refine one_ (i := 4) (N := some 12) #[true, true, true, true, true, false] rfl rfl (by kernel_rfl) (by decide) (fun K hK => ?_)
       refine Kd.N_lit_step k36 _ 36 ?hg (N' := 12) ?hd (xs := ([(⟨2000, (⟨0, y11001⟩ : S24)⟩ : S36), (⟨1000, (⟨t11005, t11006⟩ : S24)⟩ : S36)] : List (S36))) (inner := [.int .i64 2000, .int .i64 0, .slice Ao51 y11001.length co51, .int .i64 1000, .int .i64 t11005, .slice Ao57 t11006.length co57]) (ok := (fun k_ => k_ ≠ gb11004)) (okp := (fun k_ => k_ ≠ gb11004)) ?hr ?hp (fun _ hk => hk) ((show ∀ k_, w56.heap.size ≤ k_ → (fun k_ => k_ ≠ gb11004) k_ from fun k_ hk => Kd.freshB (g := gb11004) (o := .cells #[.int .i64 0, .slice Ao51 y11001.length co51] 24 (0, 0)) (fb_ BK11004.out) k_ hk) _ (Nat.le_refl _)) (Below.refl _ _) (Nat.le_refl _) (by simp) ?_; (case hd => rfl); (case hg => rfl); (case hr => first | (go_simp; done) | (go_simp; rfl)); (case hp => exact (Reps.c3 (show Kd.FK k36 _ _ (⟨2000, (⟨0, y11001⟩ : S24)⟩ : S36) [.int .i64 2000, .int .i64 0, .slice Ao51 y11001.length co51] from (k36_mkF _ _ (⟨2000, (⟨0, y11001⟩ : S24)⟩ : S36) (Kd.R_reads' (Kd.R_mono (ok' := (fun k_ => k_ ≠ gb11004)) (Kd.R_types (HO11003.out) BK11004.out (by decide)) (fun k_ hk => hk.2))).2.1 (Kd.R_F (Kd.R_mono (ok' := (fun k_ => k_ ≠ gb11004)) (Kd.R_types (HO11003.out) BK11004.out (by decide)) (fun k_ hk => hk.2))))) (Reps.c3 (show Kd.FK k36 _ _ (⟨1000, (⟨t11005, t11006⟩ : S24)⟩ : S36) [.int .i64 1000, .int .i64 t11005, .slice Ao57 t11006.length co57] from (k36_mkF _ _ (⟨1000, (⟨t11005, t11006⟩ : S24)⟩ : S36) (Kd.R_reads' (Kd.R_mono (ok' := (fun k_ => k_ ≠ gb11004)) (Kd.R_types (HO11008.out) BK11004.out (by decide)) (fun k_ hk => hk.2))).2.1 (Kd.R_F (Kd.R_mono (ok' := (fun k_ => k_ ≠ gb11004)) (Kd.R_types (HO11008.out) BK11004.out (by decide)) (fun k_ hk => hk.2))))) (Reps.none _ _))))
       intro v11010 w58 ho59 hb hg_ hnew_
       clear hg_ hnew_
       (first | rw [← Ny11009.out] at ho59 | (simp only [Int.reduceToNat] at ho59; rw [← Ny11009.out] at ho59))
       have n0_ := Aside0.mk (Kd.N_lower ho59 bz_)
       have n1_ := Aside0.mk (blk_below (g := gb11004) (o := .cells #[.int .i64 0, .slice Ao51 y11001.length co51] 24 (0, 0)) (fb_ BK11004.out) hb)
       have n2_ := Aside0.mk (Kd.V_below (Kd.R_V (base' := w.heap.size) (fR_ HO11003.out)) hb)
       have n3_ := Aside0.mk (Kd.V_below (Kd.R_V (base' := w.heap.size) (fR_ HO11008.out)) hb)
       have n4_ := Aside0.mk (bs_ hb)
       clear BK11004 HO11003 HO11008 HB
       have HO11011 := n0_
       have BK11004 := n1_
       have HO11003 := n2_
       have HO11008 := n3_
       have HB := n4_
       clear n0_ n1_ n2_ n3_ n4_ hb ho59
       refine hK.out _ _ ⟨(blk_cell BK11004.out 0).trans rfl, (blk_cell BK11004.out 1).trans rfl⟩ (fun hHeld => ?_)
       clear hK K
       refine norm_ (a' := ?_) ?_ ?_
       rotate_left
       ·show Act.put _ (some 12) _ = _
        simp only [Act.put, List.setIfInBounds_toArray, List.set_cons_zero, List.set_cons_succ, i64_w, i32_w]
        rfl
       refine pure_ (i := 5) (N := some 2) (v := ?_) (a' := ?_) #[true, true, true, true, true, true] rfl rfl (by kernel_rfl) (fun _ _ _ h => h) (Or.inl ⟨by rfl, ?_⟩) ?_ ?_
       rotate_left
       ·intro w'
        go_simp
        with_reducible rfl
       rotate_left
       ·simp only [Act.put, List.setIfInBounds_toArray, List.set_cons_zero, List.set_cons_succ, i64_w, i32_w]
        rfl
       refine done_ (by kernel_rfl) ?_
       try go_wp2_with (first | ((with_reducible refine gate_callee (f := 35) rfl ?_); refine goesL_ (some 13) rfl rfl Try.func35 (by kernel_rfl) rfl #[.int .i64 (-50), .int .i64 50] rfl la_ ?_; (with_reducible refine (sawmilllaw14_one.calls (-50) 50 t11012 t11013 _ A2.out).mono ?_); rintro e w60 ⟨v11014, rfl, ho0, hb⟩; refine ⟨_, rfl, ?_⟩; have n0_ := Aside0.mk (Kd.N_elder' (fN_ HO11011.out) (Kd.R_base ho0) hb); have n1_ := Aside0.mk (Kd.V_elder' (fV_ HO11003.out) (Kd.R_base ho0) hb); have n2_ := Aside0.mk (Kd.V_elder' (fV_ HO11008.out) (Kd.R_base ho0) hb); have n3_ := Aside0.mk (Kd.R_lower ho0 bz_); have n4_ := Aside0.mk (blk_below (g := gb11004) (o := .cells #[.int .i64 0, .slice Ao51 y11001.length co51] 24 (0, 0)) (fb_ BK11004.out) hb); have n5_ := Aside0.mk (bs_ hb); clear HO11011 HO11003 HO11008 BK11004 HB; have HO11011 := n0_; have HO11003 := n1_; have HO11008 := n2_; have HO11015 := n3_; have BK11004 := n4_; have HB := n5_; clear n0_ n1_ n2_ n3_ n4_ n5_; (try clear hb); (try clear hb2); (try clear hk); (try clear hi); (try clear ho0); obtain ⟨Ao61, co61, eo61⟩ := Kd.R_slice HO11015.out; subst eo61) | ((with_reducible refine gate_callee (f := 35) rfl ?_); refine goesL_ (some 15) rfl rfl Try.func35 (by kernel_rfl) rfl #[.int .i64 (-40), .int .i64 60] rfl la_ ?_; (with_reducible refine (sawmilllaw14_one.calls (-40) 60 t11016 t11017 _ A3.out).mono ?_); rintro e w62 ⟨v11018, rfl, ho0, hb⟩; refine ⟨_, rfl, ?_⟩; have n0_ := Aside0.mk (Kd.N_elder' (fN_ HO11011.out) (Kd.R_base ho0) hb); have n1_ := Aside0.mk (Kd.V_elder' (fV_ HO11003.out) (Kd.R_base ho0) hb); have n2_ := Aside0.mk (Kd.V_elder' (fV_ HO11008.out) (Kd.R_base ho0) hb); have n3_ := Aside0.mk (Kd.R_elder' (fR_ HO11015.out) (Kd.R_base ho0) hb); have n4_ := Aside0.mk (Kd.R_lower (Kd.R_new' ho0 (Kd.R_lt (fR_ HO11015.out))) bz_); have n5_ := Aside0.mk (blk_below (g := gb11004) (o := .cells #[.int .i64 0, .slice Ao51 y11001.length co51] 24 (0, 0)) (fb_ BK11004.out) hb); have n6_ := Aside0.mk (bs_ hb); clear HO11011 HO11003 HO11008 HO11015 BK11004 HB; have HO11011 := n0_; have HO11003 := n1_; have HO11008 := n2_; have HO11015 := n3_; have HO11019 := n4_; have BK11004 := n5_; have HB := n6_; clear n0_ n1_ n2_ n3_ n4_ n5_ n6_; (try clear hb); (try clear hb2); (try clear hk); (try clear hi); (try clear ho0); obtain ⟨Ao63, co63, eo63⟩ := Kd.R_slice HO11019.out; subst eo63) | ((with_reducible refine gate_callee (f := 35) rfl ?_); refine goesL_ (some 17) rfl rfl Try.func35 (by kernel_rfl) rfl #[.int .i64 (-50), .int .i64 50] rfl la_ ?_; (with_reducible refine (sawmilllaw14_one.calls (-50) 50 t11020 t11021 _ A4.out).mono ?_); rintro e w64 ⟨v11022, rfl, ho0, hb⟩; refine ⟨_, rfl, ?_⟩; have n0_ := Aside0.mk (Kd.N_elder' (fN_ HO11011.out) (Kd.R_base ho0) hb); have n1_ := Aside0.mk (Kd.V_elder' (fV_ HO11003.out) (Kd.R_base ho0) hb); have n2_ := Aside0.mk (Kd.V_elder' (fV_ HO11008.out) (Kd.R_base ho0) hb); have n3_ := Aside0.mk (Kd.R_elder' (fR_ HO11015.out) (Kd.R_base ho0) hb); have n4_ := Aside0.mk (Kd.R_elder' (fR_ HO11019.out) (Kd.R_base ho0) hb); have n5_ := Aside0.mk (Kd.R_lower (Kd.R_new' (Kd.R_new' ho0 (Kd.R_lt (fR_ HO11015.out))) (Kd.R_lt (fR_ HO11019.out))) bz_); have n6_ := Aside0.mk (blk_below (g := gb11004) (o := .cells #[.int .i64 0, .slice Ao51 y11001.length co51] 24 (0, 0)) (fb_ BK11004.out) hb); have n7_ := Aside0.mk (bs_ hb); clear HO11011 HO11003 HO11008 HO11015 HO11019 BK11004 HB; have HO11011 := n0_; have HO11003 := n1_; have HO11008 := n2_; have HO11015 := n3_; have HO11019 := n4_; have HO11023 := n5_; have BK11004 := n6_; have HB := n7_; clear n0_ n1_ n2_ n3_ n4_ n5_ n6_ n7_; (try clear hb); (try clear hb2); (try clear hk); (try clear hi); (try clear ho0); obtain ⟨Ao65, co65, eo65⟩ := Kd.R_slice HO11023.out; subst eo65) | ((with_reducible refine gate_dst (N := 19) rfl ?_); refine Kd.N_lit k36 _ 36 ?hg (N' := 19) ?hd (xs := ([(⟨1000, (⟨t11012, t11013⟩ : S24)⟩ : S36), (⟨1000, (⟨t11016, t11017⟩ : S24)⟩ : S36), (⟨1000, (⟨t11020, t11021⟩ : S24)⟩ : S36)] : List (S36))) (inner := [.int .i64 1000, .int .i64 t11012, .slice Ao61 t11013.length co61, .int .i64 1000, .int .i64 t11016, .slice Ao63 t11017.length co63, .int .i64 1000, .int .i64 t11020, .slice Ao65 t11021.length co65]) (ok := (fun k_ => some k_ ≠ (v11010 : Value).ownBlock ∧ k_ ≠ gb11004)) (okp := (fun k_ => some k_ ≠ (v11010 : Value).ownBlock ∧ k_ ≠ gb11004)) ?hr ?hp (fun _ hk => hk) ((show ∀ k_, w64.heap.size ≤ k_ → (fun k_ => some k_ ≠ (v11010 : Value).ownBlock ∧ k_ ≠ gb11004) k_ from fun k_ hk => ⟨Kd.fresh' (Kd.N_lt (fN_ HO11011.out)) k_ hk, Kd.freshB (g := gb11004) (o := .cells #[.int .i64 0, .slice Ao51 y11001.length co51] 24 (0, 0)) (fb_ BK11004.out) k_ hk⟩) _ (Nat.le_refl _)) (Below.refl _ _) (Nat.le_refl _) (by simp) ?_; (case hd => rfl); (case hg => rfl); (case hr => first | (go_simp; done) | (go_simp; rfl)); (case hp => exact (Reps.c3 (show Kd.FK k36 _ _ (⟨1000, (⟨t11012, t11013⟩ : S24)⟩ : S36) [.int .i64 1000, .int .i64 t11012, .slice Ao61 t11013.length co61] from (k36_mkF _ _ (⟨1000, (⟨t11012, t11013⟩ : S24)⟩ : S36) (Kd.R_reads' (Kd.R_mono (ok' := (fun k_ => some k_ ≠ (v11010 : Value).ownBlock ∧ k_ ≠ gb11004)) (Kd.R_types (Kd.R_apart' (HO11015.out) (Kd.N_typed HO11011.out) (by decide)) BK11004.out (by decide)) (fun k_ hk => ⟨hk.1.2, hk.2⟩))).2.1 (Kd.R_F (Kd.R_mono (ok' := (fun k_ => some k_ ≠ (v11010 : Value).ownBlock ∧ k_ ≠ gb11004)) (Kd.R_types (Kd.R_apart' (HO11015.out) (Kd.N_typed HO11011.out) (by decide)) BK11004.out (by decide)) (fun k_ hk => ⟨hk.1.2, hk.2⟩))))) (Reps.c3 (show Kd.FK k36 _ _ (⟨1000, (⟨t11016, t11017⟩ : S24)⟩ : S36) [.int .i64 1000, .int .i64 t11016, .slice Ao63 t11017.length co63] from (k36_mkF _ _ (⟨1000, (⟨t11016, t11017⟩ : S24)⟩ : S36) (Kd.R_reads' (Kd.R_mono (ok' := (fun k_ => some k_ ≠ (v11010 : Value).ownBlock ∧ k_ ≠ gb11004)) (Kd.R_types (Kd.R_apart' (HO11019.out) (Kd.N_typed HO11011.out) (by decide)) BK11004.out (by decide)) (fun k_ hk => ⟨hk.1.2, hk.2⟩))).2.1 (Kd.R_F (Kd.R_mono (ok' := (fun k_ => some k_ ≠ (v11010 : Value).ownBlock ∧ k_ ≠ gb11004)) (Kd.R_types (Kd.R_apart' (HO11019.out) (Kd.N_typed HO11011.out) (by decide)) BK11004.out (by decide)) (fun k_ hk => ⟨hk.1.2, hk.2⟩))))) (Reps.c3 (show Kd.FK k36 _ _ (⟨1000, (⟨t11020, t11021⟩ : S24)⟩ : S36) [.int .i64 1000, .int .i64 t11020, .slice Ao65 t11021.length co65] from (k36_mkF _ _ (⟨1000, (⟨t11020, t11021⟩ : S24)⟩ : S36) (Kd.R_reads' (Kd.R_mono (ok' := (fun k_ => some k_ ≠ (v11010 : Value).ownBlock ∧ k_ ≠ gb11004)) (Kd.R_types (Kd.R_apart' (HO11023.out) (Kd.N_typed HO11011.out) (by decide)) BK11004.out (by decide)) (fun k_ hk => ⟨hk.1.2, hk.2⟩))).2.1 (Kd.R_F (Kd.R_mono (ok' := (fun k_ => some k_ ≠ (v11010 : Value).ownBlock ∧ k_ ≠ gb11004)) (Kd.R_types (Kd.R_apart' (HO11023.out) (Kd.N_typed HO11011.out) (by decide)) BK11004.out (by decide)) (fun k_ hk => ⟨hk.1.2, hk.2⟩))))) (Reps.none _ _))))); intro v11025 w66 ho67 hb hg_ hnew_; clear hg_ hnew_; (first | rw [← Ny11024.out] at ho67 | (simp only [Int.reduceToNat] at ho67; rw [← Ny11024.out] at ho67)); have n0_ := Aside0.mk (Kd.N_elder' (fN_ HO11011.out) (Kd.N_base ho67) hb); have n1_ := Aside0.mk (Kd.V_elder' (fV_ HO11003.out) (Kd.N_base ho67) hb); have n2_ := Aside0.mk (Kd.V_elder' (fV_ HO11008.out) (Kd.N_base ho67) hb); have n3_ := Aside0.mk (Kd.N_lower ho67 bz_); have n4_ := Aside0.mk (blk_below (g := gb11004) (o := .cells #[.int .i64 0, .slice Ao51 y11001.length co51] 24 (0, 0)) (fb_ BK11004.out) hb); have n5_ := Aside0.mk (Kd.V_below (Kd.R_V (base' := w.heap.size) (fR_ HO11015.out)) hb); have n6_ := Aside0.mk (Kd.V_below (Kd.R_V (base' := w.heap.size) (fR_ HO11019.out)) hb); have n7_ := Aside0.mk (Kd.V_below (Kd.R_V (base' := w.heap.size) (fR_ HO11023.out)) hb); have n8_ := Aside0.mk (bs_ hb); clear HO11011 HO11003 HO11008 BK11004 HO11015 HO11019 HO11023 HB; have HO11011 := n0_; have HO11003 := n1_; have HO11008 := n2_; have HO11026 := n3_; have BK11004 := n4_; have HO11015 := n5_; have HO11019 := n6_; have HO11023 := n7_; have HB := n8_; clear n0_ n1_ n2_ n3_ n4_ n5_ n6_ n7_ n8_ hb ho67; have hcz68_0 : w66.cell? ⟨gb11004, 0, none⟩ = some (.int .i64 0) := (blk_cell BK11004.out 0).trans rfl; have hcz68_1 : w66.cell? ⟨gb11004, 1, none⟩ = some (.slice Ao51 y11001.length co51) := (blk_cell BK11004.out 1).trans rfl; have hfz68_0 := blk_frozen BK11004.out 0; have hfz68_1 := blk_frozen BK11004.out 1) | ((with_reducible refine gate_callee (f := 12) rfl ?_); refine goesL_ (some 21) rfl rfl Try.func12 (by kernel_rfl) rfl #[.agg #[.int .i64 0, .slice Ao51 y11001.length co51]] rfl la_ ?_; (with_reducible refine (shape_Diameter.calls k 0 _ _ y11001 t11027 _ ?side1 ?side2 A5.out).mono ?_); (case side1 => repeat (first | exact (Kd.V_reads' HO11003.out).2.2 | (with_reducible refine Kd.C_alloc ?_ _) | (with_reducible refine Kd.C_drewN ?_ _) | (with_reducible refine Kd.C_drew ?_))); (case side2 => exact (Kd.V_reads' HO11003.out).2.1); rintro e w69 ⟨rfl, hb⟩; refine ⟨_, rfl, ?_⟩; have n0_ := Aside0.mk (Kd.N_below (fN_ HO11011.out) hb); have n1_ := Aside0.mk (Kd.V_below (fV_ HO11003.out) hb); have n2_ := Aside0.mk (Kd.V_below (fV_ HO11008.out) hb); have n3_ := Aside0.mk (Kd.N_below (fN_ HO11026.out) hb); have n4_ := Aside0.mk (Kd.V_below (fV_ HO11015.out) hb); have n5_ := Aside0.mk (Kd.V_below (fV_ HO11019.out) hb); have n6_ := Aside0.mk (Kd.V_below (fV_ HO11023.out) hb); have n7_ := Aside0.mk (blk_below (g := gb11004) (o := .cells #[.int .i64 0, .slice Ao51 y11001.length co51] 24 (0, 0)) (fb_ BK11004.out) hb); have n8_ := Aside0.mk (bs_ hb); clear HO11011 HO11003 HO11008 HO11026 HO11015 HO11019 HO11023 BK11004 HB; have HO11011 := n0_; have HO11003 := n1_; have HO11008 := n2_; have HO11026 := n3_; have HO11015 := n4_; have HO11019 := n5_; have HO11023 := n6_; have BK11004 := n7_; have HB := n8_; clear n0_ n1_ n2_ n3_ n4_ n5_ n6_ n7_ n8_; (try clear hb); (try clear hb2); (try clear hk); (try clear hi); have hcz70_0 : w69.cell? ⟨gb11004, 0, none⟩ = some (.int .i64 0) := (blk_cell BK11004.out 0).trans rfl; have hcz70_1 : w69.cell? ⟨gb11004, 1, none⟩ = some (.slice Ao51 y11001.length co51) := (blk_cell BK11004.out 1).trans rfl; have hfz70_0 := blk_frozen BK11004.out 0; have hfz70_1 := blk_frozen BK11004.out 1) | (go_at_call 14; (with_reducible refine (shape_Center2.calls k 0 _ _ y11001 t11028 t11029 _ ?side1 ?side2 A7.out).mono ?_); (case side1 => repeat (first | exact (Kd.V_reads' HO11003.out).2.2 | (with_reducible refine Kd.C_alloc ?_ _) | (with_reducible refine Kd.C_drewN ?_ _) | (with_reducible refine Kd.C_drew ?_))); (case side2 => exact (Kd.V_reads' HO11003.out).2.1); rintro e w71 ⟨rfl, hb⟩; have n0_ := Aside0.mk (Kd.N_below (fN_ HO11011.out) hb); have n1_ := Aside0.mk (Kd.V_below (fV_ HO11003.out) hb); have n2_ := Aside0.mk (Kd.V_below (fV_ HO11008.out) hb); have n3_ := Aside0.mk (Kd.N_below (fN_ HO11026.out) hb); have n4_ := Aside0.mk (Kd.V_below (fV_ HO11015.out) hb); have n5_ := Aside0.mk (Kd.V_below (fV_ HO11019.out) hb); have n6_ := Aside0.mk (Kd.V_below (fV_ HO11023.out) hb); have n7_ := Aside0.mk (blk_below (g := gb11004) (o := .cells #[.int .i64 0, .slice Ao51 y11001.length co51] 24 (0, 0)) (fb_ BK11004.out) hb); have n8_ := Aside0.mk (bs_ hb); clear HO11011 HO11003 HO11008 HO11026 HO11015 HO11019 HO11023 BK11004 HB; have HO11011 := n0_; have HO11003 := n1_; have HO11008 := n2_; have HO11026 := n3_; have HO11015 := n4_; have HO11019 := n5_; have HO11023 := n6_; have BK11004 := n7_; have HB := n8_; clear n0_ n1_ n2_ n3_ n4_ n5_ n6_ n7_ n8_; (try clear hb); (try clear hb2); (try clear hk); (try clear hi); have hcz72_0 : w71.cell? ⟨gb11004, 0, none⟩ = some (.int .i64 0) := (blk_cell BK11004.out 0).trans rfl; have hcz72_1 : w71.cell? ⟨gb11004, 1, none⟩ = some (.slice Ao51 y11001.length co51) := (blk_cell BK11004.out 1).trans rfl; have hfz72_0 := blk_frozen BK11004.out 0; have hfz72_1 := blk_frozen BK11004.out 1) | (go_at_call 16; (with_reducible refine (shape_Oval.calls k 0 _ _ y11001 t11030 _ ?side1 ?side2 A9.out).mono ?_); (case side1 => repeat (first | exact (Kd.V_reads' HO11003.out).2.2 | (with_reducible refine Kd.C_alloc ?_ _) | (with_reducible refine Kd.C_drewN ?_ _) | (with_reducible refine Kd.C_drew ?_))); (case side2 => exact (Kd.V_reads' HO11003.out).2.1); rintro e w73 ⟨rfl, hb⟩; have n0_ := Aside0.mk (Kd.N_below (fN_ HO11011.out) hb); have n1_ := Aside0.mk (Kd.V_below (fV_ HO11003.out) hb); have n2_ := Aside0.mk (Kd.V_below (fV_ HO11008.out) hb); have n3_ := Aside0.mk (Kd.N_below (fN_ HO11026.out) hb); have n4_ := Aside0.mk (Kd.V_below (fV_ HO11015.out) hb); have n5_ := Aside0.mk (Kd.V_below (fV_ HO11019.out) hb); have n6_ := Aside0.mk (Kd.V_below (fV_ HO11023.out) hb); have n7_ := Aside0.mk (blk_below (g := gb11004) (o := .cells #[.int .i64 0, .slice Ao51 y11001.length co51] 24 (0, 0)) (fb_ BK11004.out) hb); have n8_ := Aside0.mk (bs_ hb); clear HO11011 HO11003 HO11008 HO11026 HO11015 HO11019 HO11023 BK11004 HB; have HO11011 := n0_; have HO11003 := n1_; have HO11008 := n2_; have HO11026 := n3_; have HO11015 := n4_; have HO11019 := n5_; have HO11023 := n6_; have BK11004 := n7_; have HB := n8_; clear n0_ n1_ n2_ n3_ n4_ n5_ n6_ n7_ n8_; (try clear hb); (try clear hb2); (try clear hk); (try clear hi); obtain ⟨Ao74, co74, eo74⟩ := Kd.N_slice HO11011.out; subst eo74) | (go_at_call 19; (with_reducible refine (shape_Top.calls k _ _ y11009 t11031 _ ?side1 ?side2 A11.out).mono ?_); (case side1 => repeat (first | exact (Kd.N_reads' HO11011.out).2.2 | (with_reducible refine Kd.C_alloc ?_ _) | (with_reducible refine Kd.C_drewN ?_ _) | (with_reducible refine Kd.C_drew ?_))); (case side2 => exact (Kd.N_reads' HO11011.out).2.1); rintro e w75 ⟨rfl, hb⟩; have n0_ := Aside0.mk (Kd.N_below (fN_ HO11011.out) hb); have n1_ := Aside0.mk (Kd.V_below (fV_ HO11003.out) hb); have n2_ := Aside0.mk (Kd.V_below (fV_ HO11008.out) hb); have n3_ := Aside0.mk (Kd.N_below (fN_ HO11026.out) hb); have n4_ := Aside0.mk (Kd.V_below (fV_ HO11015.out) hb); have n5_ := Aside0.mk (Kd.V_below (fV_ HO11019.out) hb); have n6_ := Aside0.mk (Kd.V_below (fV_ HO11023.out) hb); have n7_ := Aside0.mk (blk_below (g := gb11004) (o := .cells #[.int .i64 0, .slice Ao51 y11001.length co51] 24 (0, 0)) (fb_ BK11004.out) hb); have n8_ := Aside0.mk (bs_ hb); clear HO11011 HO11003 HO11008 HO11026 HO11015 HO11019 HO11023 BK11004 HB; have HO11011 := n0_; have HO11003 := n1_; have HO11008 := n2_; have HO11026 := n3_; have HO11015 := n4_; have HO11019 := n5_; have HO11023 := n6_; have BK11004 := n7_; have HB := n8_; clear n0_ n1_ n2_ n3_ n4_ n5_ n6_ n7_ n8_; (try clear hb); (try clear hb2); (try clear hk); (try clear hi)) | (go_at_call 21; (with_reducible refine (shape_Taper.calls k _ _ y11009 t11032 _ ?side1 ?side2 A13.out).mono ?_); (case side1 => repeat (first | exact (Kd.N_reads' HO11011.out).2.2 | (with_reducible refine Kd.C_alloc ?_ _) | (with_reducible refine Kd.C_drewN ?_ _) | (with_reducible refine Kd.C_drew ?_))); (case side2 => exact (Kd.N_reads' HO11011.out).2.1); rintro e w76 ⟨rfl, hb⟩; have n0_ := Aside0.mk (Kd.N_below (fN_ HO11011.out) hb); have n1_ := Aside0.mk (Kd.V_below (fV_ HO11003.out) hb); have n2_ := Aside0.mk (Kd.V_below (fV_ HO11008.out) hb); have n3_ := Aside0.mk (Kd.N_below (fN_ HO11026.out) hb); have n4_ := Aside0.mk (Kd.V_below (fV_ HO11015.out) hb); have n5_ := Aside0.mk (Kd.V_below (fV_ HO11019.out) hb); have n6_ := Aside0.mk (Kd.V_below (fV_ HO11023.out) hb); have n7_ := Aside0.mk (blk_below (g := gb11004) (o := .cells #[.int .i64 0, .slice Ao51 y11001.length co51] 24 (0, 0)) (fb_ BK11004.out) hb); have n8_ := Aside0.mk (bs_ hb); clear HO11011 HO11003 HO11008 HO11026 HO11015 HO11019 HO11023 BK11004 HB; have HO11011 := n0_; have HO11003 := n1_; have HO11008 := n2_; have HO11026 := n3_; have HO11015 := n4_; have HO11019 := n5_; have HO11023 := n6_; have BK11004 := n7_; have HB := n8_; clear n0_ n1_ n2_ n3_ n4_ n5_ n6_ n7_ n8_; (try clear hb); (try clear hb2); (try clear hk); (try clear hi); obtain ⟨Ao77, co77, eo77⟩ := Kd.N_slice HO11026.out; subst eo77) | (go_at_call 23; (with_reducible refine (shape_Sweep.calls k _ _ y11024 t11033 _ ?side1 ?side2 A15.out).mono ?_); (case side1 => repeat (first | exact (Kd.N_reads' HO11026.out).2.2 | (with_reducible refine Kd.C_alloc ?_ _) | (with_reducible refine Kd.C_drewN ?_ _) | (with_reducible refine Kd.C_drew ?_))); (case side2 => exact (Kd.N_reads' HO11026.out).2.1); rintro e w78 ⟨rfl, hb⟩; have n0_ := Aside0.mk (Kd.N_below (fN_ HO11011.out) hb); have n1_ := Aside0.mk (Kd.V_below (fV_ HO11003.out) hb); have n2_ := Aside0.mk (Kd.V_below (fV_ HO11008.out) hb); have n3_ := Aside0.mk (Kd.N_below (fN_ HO11026.out) hb); have n4_ := Aside0.mk (Kd.V_below (fV_ HO11015.out) hb); have n5_ := Aside0.mk (Kd.V_below (fV_ HO11019.out) hb); have n6_ := Aside0.mk (Kd.V_below (fV_ HO11023.out) hb); have n7_ := Aside0.mk (blk_below (g := gb11004) (o := .cells #[.int .i64 0, .slice Ao51 y11001.length co51] 24 (0, 0)) (fb_ BK11004.out) hb); have n8_ := Aside0.mk (bs_ hb); clear HO11011 HO11003 HO11008 HO11026 HO11015 HO11019 HO11023 BK11004 HB; have HO11011 := n0_; have HO11003 := n1_; have HO11008 := n2_; have HO11026 := n3_; have HO11015 := n4_; have HO11019 := n5_; have HO11023 := n6_; have BK11004 := n7_; have HB := n8_; clear n0_ n1_ n2_ n3_ n4_ n5_ n6_ n7_ n8_; (try clear hb); (try clear hb2); (try clear hk); (try clear hi)))
       go_ret
       exact ⟨er_, be_⟩
     ·rw [if_neg c14] at H
      have c14b0 : (t11032 == 56) = false := beq_eq_false_iff_ne.mpr c14
      have c14b1 : (t11032 != 56) = true := bne_iff_ne.mpr c14
      obtain rfl := Option.some.inj H
      go_enter Try.func11, Try.ntmps11
      try go_wp2_with (first | ((with_reducible refine gate_dst (N := 6) rfl ?_); refine Kd.R_lit k49 _ 49 ?hg (N := 6) ?hd (xs := ([(⟨(-50), 50⟩ : S49), (⟨(-60), 60⟩ : S49)] : List (S49))) (inner := [.int .i64 (-50), .int .i64 50, .int .i64 (-60), .int .i64 60]) (ok := fun _ => True) (okp := fun _ => True) ?hr ?hp (fun _ hk => hk) trivial (Below.refl _ _) (Nat.le_refl _) (by simp) ?_; (case hd => rfl); (case hg => rfl); (case hr => first | (go_simp; done) | (go_simp; rfl)); (case hp => exact (Reps.c2 (show Kd.M k49 _ _ _ (⟨(-50), 50⟩ : S49) [.int .i64 (-50), .int .i64 50] from (k49_mkM _ _ _ (⟨(-50), 50⟩ : S49) )) (Reps.c2 (show Kd.M k49 _ _ _ (⟨(-60), 60⟩ : S49) [.int .i64 (-60), .int .i64 60] from (k49_mkM _ _ _ (⟨(-60), 60⟩ : S49) )) (Reps.none _ _)))); intro v11002 w79 ho80 hb hg_ hnew_; clear hg_ hnew_; (first | rw [← Ny11001.out] at ho80 | (simp only [Int.reduceToNat] at ho80; rw [← Ny11001.out] at ho80)); have n0_ := Aside0.mk (Kd.R_lower ho80 bz_); have n1_ := Aside0.mk (bs_ hb); clear HB; have HO11003 := n0_; have HB := n1_; clear n0_ n1_ hb ho80; obtain ⟨Ao81, co81, eo81⟩ := Kd.R_slice HO11003.out; subst eo81) | ((with_reducible refine gate_dst (N := 1) rfl ?_); refine box_event ?hg (N := 1) ?hd (cs := #[.int .i64 0, .slice none 0 0]) (t := 24) ?hr ?_; (case hd => rfl); (case hg => rfl); (case hr => first | (go_simp; done) | (go_simp; rfl)); intro gb11004 hg w82 hbox hb; have n0_ := Aside0.mk (Kd.R_below (fR_ HO11003.out) hb); have n1_ := Aside0.mk (bs_ hb); have n2_ := Aside0.mk (hbox); have n3_ := Aside0.mk ((by rw [hg]; exact bz_ : w.heap.size ≤ gb11004)); have n4_ := Aside0.mk ((by rw [hg]; exact bz_ : w.heap.size ≤ gb11004)); clear HO11003 HB; have HO11003 := n0_; have HB := n1_; have BK11004 := n2_; have GW11004 := n3_; have GE11004 := n4_; clear n0_ n1_ n2_ n3_ n4_ hb hbox hg; have hcz83_0 : w82.cell? ⟨gb11004, 0, none⟩ = some (.int .i64 0) := (blk_cell BK11004.out 0).trans rfl; have hcz83_1 : w82.cell? ⟨gb11004, 1, none⟩ = some (.slice none 0 0) := (blk_cell BK11004.out 1).trans rfl; have hfz83_0 := blk_frozen BK11004.out 0; have hfz83_1 := blk_frozen BK11004.out 1))
      have n0_ : Aside0 (Kd.R k49 49 ((w82.setCell ⟨gb11004, 0, none⟩ (.int .i64 0)).setCell ⟨gb11004, 1, none⟩ (.slice Ao81 y11001.length co81)) w.heap.size (fun _ => True) (.slice Ao81 y11001.length co81) y11001) := ⟨by (with_reducible repeat (first | apply Kd.R_alloc | apply Kd.R_drewN | apply Kd.R_drew)); exact Kd.R_mono (Kd.R_far (p := ⟨gb11004, 1, none⟩) (Kd.R_far (p := ⟨gb11004, 0, none⟩) (Kd.R_types HO11003.out BK11004.out (by decide)) (fun _ hk => hk.2) (.int .i64 0)) (fun _ hk => hk.2) (.slice Ao81 y11001.length co81)) (fun _ hk => trivial)⟩
      have n1_ : Aside0 (((w82.setCell ⟨gb11004, 0, none⟩ (.int .i64 0)).setCell ⟨gb11004, 1, none⟩ (.slice Ao81 y11001.length co81)).heap[gb11004]? = some (.cells #[.int .i64 0, .slice Ao81 y11001.length co81] 24 (0, 0))) := ⟨by (with_reducible repeat (first | refine blk_drewN ?_ _ | refine blk_drew ?_ | refine blk_alloc ?_ _)); refine blk_put (cs := #[.int .i64 0, .slice none 0 0]) ?_ 1 _ rfl; (with_reducible repeat (first | refine blk_drewN ?_ _ | refine blk_drew ?_ | refine blk_alloc ?_ _)); refine blk_put (cs := #[.int .i64 0, .slice none 0 0]) ?_ 0 _ rfl; (with_reducible repeat (first | refine blk_drewN ?_ _ | refine blk_drew ?_ | refine blk_alloc ?_ _)); exact BK11004.out⟩
      have n2_ : Aside0 (Below w.heap.size w ((w82.setCell ⟨gb11004, 0, none⟩ (.int .i64 0)).setCell ⟨gb11004, 1, none⟩ (.slice Ao81 y11001.length co81))) := ⟨be_⟩
      (try clear HO11003)
      (try clear BK11004)
      (try clear HB)
      generalize ((w82.setCell ⟨gb11004, 0, none⟩ (.int .i64 0)).setCell ⟨gb11004, 1, none⟩ (.slice Ao81 y11001.length co81)) = w84 at n0_ n1_ n2_ ⊢
      have HO11003 := n0_
      have BK11004 := n1_
      have HB := n2_
      clear n0_ n1_ n2_
      have n0_ := Aside0.mk (Kd.R_drew HO11003.out)
      have n1_ := Aside0.mk (blk_drew BK11004.out)
      have n2_ := Aside0.mk (below_drew1 HB.out)
      clear HO11003 BK11004 HB
      have HO11003 := n0_
      have BK11004 := n1_
      have HB := n2_
      clear n0_ n1_ n2_
      refine start_ (n := 6) (S := fun w' => w'.cell? ⟨gb11004, 0, none⟩ = some (.int .i64 0) ∧ w'.cell? ⟨gb11004, 1, none⟩ = some (.slice Ao81 y11001.length co81)) (ds := []) #[false, false, false, false, false, false] (by kernel_rfl) rfl rfl ⟨(blk_cell BK11004.out 0).trans rfl, (blk_cell BK11004.out 1).trans rfl⟩ (fun hHeld => ?_)
      generalize w84.drew = w85 at HO11003 BK11004 HB hHeld ⊢
      refine take_ (i := 0) (N := some 8) (v := ?_) (a' := ?_) #[true, false, false, false, false, false] rfl rfl (by kernel_rfl) (fun _ _ _ h => h) (Or.inl ⟨by rfl, ?_⟩) hHeld ?_ ?_
      rotate_left
      ·rintro w' ⟨s0, s1⟩
       go_simp
       with_reducible rfl
      rotate_left
      ·simp only [Act.put, List.setIfInBounds_toArray, List.set_cons_zero, List.set_cons_succ, i64_w, i32_w]
       rfl
      refine pure_ (i := 1) (N := some 9) (v := ?_) (a' := ?_) #[true, true, false, false, false, false] rfl rfl (by kernel_rfl) (fun _ _ _ h => h) (Or.inl ⟨by rfl, ?_⟩) ?_ ?_
      rotate_left
      ·intro w'
       go_simp
       with_reducible rfl
      rotate_left
      ·simp only [Act.put, List.setIfInBounds_toArray, List.set_cons_zero, List.set_cons_succ, i64_w, i32_w]
       rfl
      refine one_ (i := 2) (N := some 10) #[true, true, true, false, false, false] rfl rfl (by kernel_rfl) (by decide) (fun K hK => ?_)
      refine goes_ Try.func35 (by kernel_rfl) rfl #[.int .i64 (-50), .int .i64 50] (by rfl) rfl rfl la_ ?_
      with_reducible refine (sawmilllaw14_one.calls (-50) 50 t11005 t11006 _ A1.out).mono ?_
      rintro e w86 ⟨v11007, rfl, ho0, hb⟩
      refine ⟨_, rfl, ?_⟩
      have n0_ := Aside0.mk (Kd.R_elder' (fR_ HO11003.out) (Kd.R_base ho0) hb)
      have n1_ := Aside0.mk (Kd.R_lower (Kd.R_new' ho0 (Kd.R_lt (fR_ HO11003.out))) bz_)
      have n2_ := Aside0.mk (blk_below (g := gb11004) (o := .cells #[.int .i64 0, .slice Ao81 y11001.length co81] 24 (0, 0)) (fb_ BK11004.out) hb)
      have n3_ := Aside0.mk (bs_ hb)
      clear HO11003 BK11004 HB
      have HO11003 := n0_
      have HO11008 := n1_
      have BK11004 := n2_
      have HB := n3_
      clear n0_ n1_ n2_ n3_
      (try clear hb)
      (try clear hb2)
      (try clear hk)
      (try clear hi)
      (try clear ho0)
      obtain ⟨Ao87, co87, eo87⟩ := Kd.R_slice HO11008.out
      (first | subst eo87 | (injection eo87 with f1_ f2_ f3_; have f4_ := f1_.symm; have f5_ := f3_.symm; clear f1_ f2_ f3_; subst f4_; subst f5_))
      refine hK.out _ _ ⟨(blk_cell BK11004.out 0).trans rfl, (blk_cell BK11004.out 1).trans rfl⟩ (fun hHeld => ?_)
      clear hK K
      refine norm_ (a' := ?_) ?_ ?_
      rotate_left
      ·show Act.put _ (some 10) _ = _
       simp only [Act.put, List.setIfInBounds_toArray, List.set_cons_zero, List.set_cons_succ, i64_w, i32_w]
       rfl
      refine pure_ (i := 3) (N := some 11) (v := ?_) (a' := ?_) #[true, true, true, true, false, false] rfl rfl (by kernel_rfl) (fun _ _ _ h => h) (Or.inl ⟨by rfl, ?_⟩) ?_ ?_
      rotate_left
      ·intro w'
       go_simp
       with_reducible rfl
      rotate_left
      ·simp only [Act.put, List.setIfInBounds_toArray, List.set_cons_zero, List.set_cons_succ, i64_w, i32_w]
       rfl
      refine one_ (i := 4) (N := some 12) #[true, true, true, true, true, false] rfl rfl (by kernel_rfl) (by decide) (fun K hK => ?_)
      refine Kd.N_lit_step k36 _ 36 ?hg (N' := 12) ?hd (xs := ([(⟨2000, (⟨0, y11001⟩ : S24)⟩ : S36), (⟨1000, (⟨t11005, t11006⟩ : S24)⟩ : S36)] : List (S36))) (inner := [.int .i64 2000, .int .i64 0, .slice Ao81 y11001.length co81, .int .i64 1000, .int .i64 t11005, .slice Ao87 t11006.length co87]) (ok := (fun k_ => k_ ≠ gb11004)) (okp := (fun k_ => k_ ≠ gb11004)) ?hr ?hp (fun _ hk => hk) ((show ∀ k_, w86.heap.size ≤ k_ → (fun k_ => k_ ≠ gb11004) k_ from fun k_ hk => Kd.freshB (g := gb11004) (o := .cells #[.int .i64 0, .slice Ao81 y11001.length co81] 24 (0, 0)) (fb_ BK11004.out) k_ hk) _ (Nat.le_refl _)) (Below.refl _ _) (Nat.le_refl _) (by simp) ?_; (case hd => rfl); (case hg => rfl); (case hr => first | (go_simp; done) | (go_simp; rfl)); (case hp => exact (Reps.c3 (show Kd.FK k36 _ _ (⟨2000, (⟨0, y11001⟩ : S24)⟩ : S36) [.int .i64 2000, .int .i64 0, .slice Ao81 y11001.length co81] from (k36_mkF _ _ (⟨2000, (⟨0, y11001⟩ : S24)⟩ : S36) (Kd.R_reads' (Kd.R_mono (ok' := (fun k_ => k_ ≠ gb11004)) (Kd.R_types (HO11003.out) BK11004.out (by decide)) (fun k_ hk => hk.2))).2.1 (Kd.R_F (Kd.R_mono (ok' := (fun k_ => k_ ≠ gb11004)) (Kd.R_types (HO11003.out) BK11004.out (by decide)) (fun k_ hk => hk.2))))) (Reps.c3 (show Kd.FK k36 _ _ (⟨1000, (⟨t11005, t11006⟩ : S24)⟩ : S36) [.int .i64 1000, .int .i64 t11005, .slice Ao87 t11006.length co87] from (k36_mkF _ _ (⟨1000, (⟨t11005, t11006⟩ : S24)⟩ : S36) (Kd.R_reads' (Kd.R_mono (ok' := (fun k_ => k_ ≠ gb11004)) (Kd.R_types (HO11008.out) BK11004.out (by decide)) (fun k_ hk => hk.2))).2.1 (Kd.R_F (Kd.R_mono (ok' := (fun k_ => k_ ≠ gb11004)) (Kd.R_types (HO11008.out) BK11004.out (by decide)) (fun k_ hk => hk.2))))) (Reps.none _ _))))
      intro v11010 w88 ho89 hb hg_ hnew_
      clear hg_ hnew_
      (first | rw [← Ny11009.out] at ho89 | (simp only [Int.reduceToNat] at ho89; rw [← Ny11009.out] at ho89))
      have n0_ := Aside0.mk (Kd.N_lower ho89 bz_)
      have n1_ := Aside0.mk (blk_below (g := gb11004) (o := .cells #[.int .i64 0, .slice Ao81 y11001.length co81] 24 (0, 0)) (fb_ BK11004.out) hb)
      have n2_ := Aside0.mk (Kd.V_below (Kd.R_V (base' := w.heap.size) (fR_ HO11003.out)) hb)
      have n3_ := Aside0.mk (Kd.V_below (Kd.R_V (base' := w.heap.size) (fR_ HO11008.out)) hb)
      have n4_ := Aside0.mk (bs_ hb)
      clear BK11004 HO11003 HO11008 HB
      have HO11011 := n0_
      have BK11004 := n1_
      have HO11003 := n2_
      have HO11008 := n3_
      have HB := n4_
      clear n0_ n1_ n2_ n3_ n4_ hb ho89
      refine hK.out _ _ ⟨(blk_cell BK11004.out 0).trans rfl, (blk_cell BK11004.out 1).trans rfl⟩ (fun hHeld => ?_)
      clear hK K
      refine norm_ (a' := ?_) ?_ ?_
      rotate_left
      ·show Act.put _ (some 12) _ = _
       simp only [Act.put, List.setIfInBounds_toArray, List.set_cons_zero, List.set_cons_succ, i64_w, i32_w]
       rfl
      refine pure_ (i := 5) (N := some 2) (v := ?_) (a' := ?_) #[true, true, true, true, true, true] rfl rfl (by kernel_rfl) (fun _ _ _ h => h) (Or.inl ⟨by rfl, ?_⟩) ?_ ?_
      rotate_left
      ·intro w'
       go_simp
       with_reducible rfl
      rotate_left
      ·simp only [Act.put, List.setIfInBounds_toArray, List.set_cons_zero, List.set_cons_succ, i64_w, i32_w]
       rfl
      refine done_ (by kernel_rfl) ?_
      try go_wp2_with (first | ((with_reducible refine gate_callee (f := 35) rfl ?_); refine goesL_ (some 13) rfl rfl Try.func35 (by kernel_rfl) rfl #[.int .i64 (-50), .int .i64 50] rfl la_ ?_; (with_reducible refine (sawmilllaw14_one.calls (-50) 50 t11012 t11013 _ A2.out).mono ?_); rintro e w90 ⟨v11014, rfl, ho0, hb⟩; refine ⟨_, rfl, ?_⟩; have n0_ := Aside0.mk (Kd.N_elder' (fN_ HO11011.out) (Kd.R_base ho0) hb); have n1_ := Aside0.mk (Kd.V_elder' (fV_ HO11003.out) (Kd.R_base ho0) hb); have n2_ := Aside0.mk (Kd.V_elder' (fV_ HO11008.out) (Kd.R_base ho0) hb); have n3_ := Aside0.mk (Kd.R_lower ho0 bz_); have n4_ := Aside0.mk (blk_below (g := gb11004) (o := .cells #[.int .i64 0, .slice Ao81 y11001.length co81] 24 (0, 0)) (fb_ BK11004.out) hb); have n5_ := Aside0.mk (bs_ hb); clear HO11011 HO11003 HO11008 BK11004 HB; have HO11011 := n0_; have HO11003 := n1_; have HO11008 := n2_; have HO11015 := n3_; have BK11004 := n4_; have HB := n5_; clear n0_ n1_ n2_ n3_ n4_ n5_; (try clear hb); (try clear hb2); (try clear hk); (try clear hi); (try clear ho0); obtain ⟨Ao91, co91, eo91⟩ := Kd.R_slice HO11015.out; subst eo91) | ((with_reducible refine gate_callee (f := 35) rfl ?_); refine goesL_ (some 15) rfl rfl Try.func35 (by kernel_rfl) rfl #[.int .i64 (-40), .int .i64 60] rfl la_ ?_; (with_reducible refine (sawmilllaw14_one.calls (-40) 60 t11016 t11017 _ A3.out).mono ?_); rintro e w92 ⟨v11018, rfl, ho0, hb⟩; refine ⟨_, rfl, ?_⟩; have n0_ := Aside0.mk (Kd.N_elder' (fN_ HO11011.out) (Kd.R_base ho0) hb); have n1_ := Aside0.mk (Kd.V_elder' (fV_ HO11003.out) (Kd.R_base ho0) hb); have n2_ := Aside0.mk (Kd.V_elder' (fV_ HO11008.out) (Kd.R_base ho0) hb); have n3_ := Aside0.mk (Kd.R_elder' (fR_ HO11015.out) (Kd.R_base ho0) hb); have n4_ := Aside0.mk (Kd.R_lower (Kd.R_new' ho0 (Kd.R_lt (fR_ HO11015.out))) bz_); have n5_ := Aside0.mk (blk_below (g := gb11004) (o := .cells #[.int .i64 0, .slice Ao81 y11001.length co81] 24 (0, 0)) (fb_ BK11004.out) hb); have n6_ := Aside0.mk (bs_ hb); clear HO11011 HO11003 HO11008 HO11015 BK11004 HB; have HO11011 := n0_; have HO11003 := n1_; have HO11008 := n2_; have HO11015 := n3_; have HO11019 := n4_; have BK11004 := n5_; have HB := n6_; clear n0_ n1_ n2_ n3_ n4_ n5_ n6_; (try clear hb); (try clear hb2); (try clear hk); (try clear hi); (try clear ho0); obtain ⟨Ao93, co93, eo93⟩ := Kd.R_slice HO11019.out; subst eo93) | ((with_reducible refine gate_callee (f := 35) rfl ?_); refine goesL_ (some 17) rfl rfl Try.func35 (by kernel_rfl) rfl #[.int .i64 (-50), .int .i64 50] rfl la_ ?_; (with_reducible refine (sawmilllaw14_one.calls (-50) 50 t11020 t11021 _ A4.out).mono ?_); rintro e w94 ⟨v11022, rfl, ho0, hb⟩; refine ⟨_, rfl, ?_⟩; have n0_ := Aside0.mk (Kd.N_elder' (fN_ HO11011.out) (Kd.R_base ho0) hb); have n1_ := Aside0.mk (Kd.V_elder' (fV_ HO11003.out) (Kd.R_base ho0) hb); have n2_ := Aside0.mk (Kd.V_elder' (fV_ HO11008.out) (Kd.R_base ho0) hb); have n3_ := Aside0.mk (Kd.R_elder' (fR_ HO11015.out) (Kd.R_base ho0) hb); have n4_ := Aside0.mk (Kd.R_elder' (fR_ HO11019.out) (Kd.R_base ho0) hb); have n5_ := Aside0.mk (Kd.R_lower (Kd.R_new' (Kd.R_new' ho0 (Kd.R_lt (fR_ HO11015.out))) (Kd.R_lt (fR_ HO11019.out))) bz_); have n6_ := Aside0.mk (blk_below (g := gb11004) (o := .cells #[.int .i64 0, .slice Ao81 y11001.length co81] 24 (0, 0)) (fb_ BK11004.out) hb); have n7_ := Aside0.mk (bs_ hb); clear HO11011 HO11003 HO11008 HO11015 HO11019 BK11004 HB; have HO11011 := n0_; have HO11003 := n1_; have HO11008 := n2_; have HO11015 := n3_; have HO11019 := n4_; have HO11023 := n5_; have BK11004 := n6_; have HB := n7_; clear n0_ n1_ n2_ n3_ n4_ n5_ n6_ n7_; (try clear hb); (try clear hb2); (try clear hk); (try clear hi); (try clear ho0); obtain ⟨Ao95, co95, eo95⟩ := Kd.R_slice HO11023.out; subst eo95) | ((with_reducible refine gate_dst (N := 19) rfl ?_); refine Kd.N_lit k36 _ 36 ?hg (N' := 19) ?hd (xs := ([(⟨1000, (⟨t11012, t11013⟩ : S24)⟩ : S36), (⟨1000, (⟨t11016, t11017⟩ : S24)⟩ : S36), (⟨1000, (⟨t11020, t11021⟩ : S24)⟩ : S36)] : List (S36))) (inner := [.int .i64 1000, .int .i64 t11012, .slice Ao91 t11013.length co91, .int .i64 1000, .int .i64 t11016, .slice Ao93 t11017.length co93, .int .i64 1000, .int .i64 t11020, .slice Ao95 t11021.length co95]) (ok := (fun k_ => some k_ ≠ (v11010 : Value).ownBlock ∧ k_ ≠ gb11004)) (okp := (fun k_ => some k_ ≠ (v11010 : Value).ownBlock ∧ k_ ≠ gb11004)) ?hr ?hp (fun _ hk => hk) ((show ∀ k_, w94.heap.size ≤ k_ → (fun k_ => some k_ ≠ (v11010 : Value).ownBlock ∧ k_ ≠ gb11004) k_ from fun k_ hk => ⟨Kd.fresh' (Kd.N_lt (fN_ HO11011.out)) k_ hk, Kd.freshB (g := gb11004) (o := .cells #[.int .i64 0, .slice Ao81 y11001.length co81] 24 (0, 0)) (fb_ BK11004.out) k_ hk⟩) _ (Nat.le_refl _)) (Below.refl _ _) (Nat.le_refl _) (by simp) ?_; (case hd => rfl); (case hg => rfl); (case hr => first | (go_simp; done) | (go_simp; rfl)); (case hp => exact (Reps.c3 (show Kd.FK k36 _ _ (⟨1000, (⟨t11012, t11013⟩ : S24)⟩ : S36) [.int .i64 1000, .int .i64 t11012, .slice Ao91 t11013.length co91] from (k36_mkF _ _ (⟨1000, (⟨t11012, t11013⟩ : S24)⟩ : S36) (Kd.R_reads' (Kd.R_mono (ok' := (fun k_ => some k_ ≠ (v11010 : Value).ownBlock ∧ k_ ≠ gb11004)) (Kd.R_types (Kd.R_apart' (HO11015.out) (Kd.N_typed HO11011.out) (by decide)) BK11004.out (by decide)) (fun k_ hk => ⟨hk.1.2, hk.2⟩))).2.1 (Kd.R_F (Kd.R_mono (ok' := (fun k_ => some k_ ≠ (v11010 : Value).ownBlock ∧ k_ ≠ gb11004)) (Kd.R_types (Kd.R_apart' (HO11015.out) (Kd.N_typed HO11011.out) (by decide)) BK11004.out (by decide)) (fun k_ hk => ⟨hk.1.2, hk.2⟩))))) (Reps.c3 (show Kd.FK k36 _ _ (⟨1000, (⟨t11016, t11017⟩ : S24)⟩ : S36) [.int .i64 1000, .int .i64 t11016, .slice Ao93 t11017.length co93] from (k36_mkF _ _ (⟨1000, (⟨t11016, t11017⟩ : S24)⟩ : S36) (Kd.R_reads' (Kd.R_mono (ok' := (fun k_ => some k_ ≠ (v11010 : Value).ownBlock ∧ k_ ≠ gb11004)) (Kd.R_types (Kd.R_apart' (HO11019.out) (Kd.N_typed HO11011.out) (by decide)) BK11004.out (by decide)) (fun k_ hk => ⟨hk.1.2, hk.2⟩))).2.1 (Kd.R_F (Kd.R_mono (ok' := (fun k_ => some k_ ≠ (v11010 : Value).ownBlock ∧ k_ ≠ gb11004)) (Kd.R_types (Kd.R_apart' (HO11019.out) (Kd.N_typed HO11011.out) (by decide)) BK11004.out (by decide)) (fun k_ hk => ⟨hk.1.2, hk.2⟩))))) (Reps.c3 (show Kd.FK k36 _ _ (⟨1000, (⟨t11020, t11021⟩ : S24)⟩ : S36) [.int .i64 1000, .int .i64 t11020, .slice Ao95 t11021.length co95] from (k36_mkF _ _ (⟨1000, (⟨t11020, t11021⟩ : S24)⟩ : S36) (Kd.R_reads' (Kd.R_mono (ok' := (fun k_ => some k_ ≠ (v11010 : Value).ownBlock ∧ k_ ≠ gb11004)) (Kd.R_types (Kd.R_apart' (HO11023.out) (Kd.N_typed HO11011.out) (by decide)) BK11004.out (by decide)) (fun k_ hk => ⟨hk.1.2, hk.2⟩))).2.1 (Kd.R_F (Kd.R_mono (ok' := (fun k_ => some k_ ≠ (v11010 : Value).ownBlock ∧ k_ ≠ gb11004)) (Kd.R_types (Kd.R_apart' (HO11023.out) (Kd.N_typed HO11011.out) (by decide)) BK11004.out (by decide)) (fun k_ hk => ⟨hk.1.2, hk.2⟩))))) (Reps.none _ _))))); intro v11025 w96 ho97 hb hg_ hnew_; clear hg_ hnew_; (first | rw [← Ny11024.out] at ho97 | (simp only [Int.reduceToNat] at ho97; rw [← Ny11024.out] at ho97)); have n0_ := Aside0.mk (Kd.N_elder' (fN_ HO11011.out) (Kd.N_base ho97) hb); have n1_ := Aside0.mk (Kd.V_elder' (fV_ HO11003.out) (Kd.N_base ho97) hb); have n2_ := Aside0.mk (Kd.V_elder' (fV_ HO11008.out) (Kd.N_base ho97) hb); have n3_ := Aside0.mk (Kd.N_lower ho97 bz_); have n4_ := Aside0.mk (blk_below (g := gb11004) (o := .cells #[.int .i64 0, .slice Ao81 y11001.length co81] 24 (0, 0)) (fb_ BK11004.out) hb); have n5_ := Aside0.mk (Kd.V_below (Kd.R_V (base' := w.heap.size) (fR_ HO11015.out)) hb); have n6_ := Aside0.mk (Kd.V_below (Kd.R_V (base' := w.heap.size) (fR_ HO11019.out)) hb); have n7_ := Aside0.mk (Kd.V_below (Kd.R_V (base' := w.heap.size) (fR_ HO11023.out)) hb); have n8_ := Aside0.mk (bs_ hb); clear HO11011 HO11003 HO11008 BK11004 HO11015 HO11019 HO11023 HB; have HO11011 := n0_; have HO11003 := n1_; have HO11008 := n2_; have HO11026 := n3_; have BK11004 := n4_; have HO11015 := n5_; have HO11019 := n6_; have HO11023 := n7_; have HB := n8_; clear n0_ n1_ n2_ n3_ n4_ n5_ n6_ n7_ n8_ hb ho97; have hcz98_0 : w96.cell? ⟨gb11004, 0, none⟩ = some (.int .i64 0) := (blk_cell BK11004.out 0).trans rfl; have hcz98_1 : w96.cell? ⟨gb11004, 1, none⟩ = some (.slice Ao81 y11001.length co81) := (blk_cell BK11004.out 1).trans rfl; have hfz98_0 := blk_frozen BK11004.out 0; have hfz98_1 := blk_frozen BK11004.out 1) | ((with_reducible refine gate_callee (f := 12) rfl ?_); refine goesL_ (some 21) rfl rfl Try.func12 (by kernel_rfl) rfl #[.agg #[.int .i64 0, .slice Ao81 y11001.length co81]] rfl la_ ?_; (with_reducible refine (shape_Diameter.calls k 0 _ _ y11001 t11027 _ ?side1 ?side2 A5.out).mono ?_); (case side1 => repeat (first | exact (Kd.V_reads' HO11003.out).2.2 | (with_reducible refine Kd.C_alloc ?_ _) | (with_reducible refine Kd.C_drewN ?_ _) | (with_reducible refine Kd.C_drew ?_))); (case side2 => exact (Kd.V_reads' HO11003.out).2.1); rintro e w99 ⟨rfl, hb⟩; refine ⟨_, rfl, ?_⟩; have n0_ := Aside0.mk (Kd.N_below (fN_ HO11011.out) hb); have n1_ := Aside0.mk (Kd.V_below (fV_ HO11003.out) hb); have n2_ := Aside0.mk (Kd.V_below (fV_ HO11008.out) hb); have n3_ := Aside0.mk (Kd.N_below (fN_ HO11026.out) hb); have n4_ := Aside0.mk (Kd.V_below (fV_ HO11015.out) hb); have n5_ := Aside0.mk (Kd.V_below (fV_ HO11019.out) hb); have n6_ := Aside0.mk (Kd.V_below (fV_ HO11023.out) hb); have n7_ := Aside0.mk (blk_below (g := gb11004) (o := .cells #[.int .i64 0, .slice Ao81 y11001.length co81] 24 (0, 0)) (fb_ BK11004.out) hb); have n8_ := Aside0.mk (bs_ hb); clear HO11011 HO11003 HO11008 HO11026 HO11015 HO11019 HO11023 BK11004 HB; have HO11011 := n0_; have HO11003 := n1_; have HO11008 := n2_; have HO11026 := n3_; have HO11015 := n4_; have HO11019 := n5_; have HO11023 := n6_; have BK11004 := n7_; have HB := n8_; clear n0_ n1_ n2_ n3_ n4_ n5_ n6_ n7_ n8_; (try clear hb); (try clear hb2); (try clear hk); (try clear hi); have hcz100_0 : w99.cell? ⟨gb11004, 0, none⟩ = some (.int .i64 0) := (blk_cell BK11004.out 0).trans rfl; have hcz100_1 : w99.cell? ⟨gb11004, 1, none⟩ = some (.slice Ao81 y11001.length co81) := (blk_cell BK11004.out 1).trans rfl; have hfz100_0 := blk_frozen BK11004.out 0; have hfz100_1 := blk_frozen BK11004.out 1) | (go_at_call 14; (with_reducible refine (shape_Center2.calls k 0 _ _ y11001 t11028 t11029 _ ?side1 ?side2 A7.out).mono ?_); (case side1 => repeat (first | exact (Kd.V_reads' HO11003.out).2.2 | (with_reducible refine Kd.C_alloc ?_ _) | (with_reducible refine Kd.C_drewN ?_ _) | (with_reducible refine Kd.C_drew ?_))); (case side2 => exact (Kd.V_reads' HO11003.out).2.1); rintro e w101 ⟨rfl, hb⟩; have n0_ := Aside0.mk (Kd.N_below (fN_ HO11011.out) hb); have n1_ := Aside0.mk (Kd.V_below (fV_ HO11003.out) hb); have n2_ := Aside0.mk (Kd.V_below (fV_ HO11008.out) hb); have n3_ := Aside0.mk (Kd.N_below (fN_ HO11026.out) hb); have n4_ := Aside0.mk (Kd.V_below (fV_ HO11015.out) hb); have n5_ := Aside0.mk (Kd.V_below (fV_ HO11019.out) hb); have n6_ := Aside0.mk (Kd.V_below (fV_ HO11023.out) hb); have n7_ := Aside0.mk (blk_below (g := gb11004) (o := .cells #[.int .i64 0, .slice Ao81 y11001.length co81] 24 (0, 0)) (fb_ BK11004.out) hb); have n8_ := Aside0.mk (bs_ hb); clear HO11011 HO11003 HO11008 HO11026 HO11015 HO11019 HO11023 BK11004 HB; have HO11011 := n0_; have HO11003 := n1_; have HO11008 := n2_; have HO11026 := n3_; have HO11015 := n4_; have HO11019 := n5_; have HO11023 := n6_; have BK11004 := n7_; have HB := n8_; clear n0_ n1_ n2_ n3_ n4_ n5_ n6_ n7_ n8_; (try clear hb); (try clear hb2); (try clear hk); (try clear hi); have hcz102_0 : w101.cell? ⟨gb11004, 0, none⟩ = some (.int .i64 0) := (blk_cell BK11004.out 0).trans rfl; have hcz102_1 : w101.cell? ⟨gb11004, 1, none⟩ = some (.slice Ao81 y11001.length co81) := (blk_cell BK11004.out 1).trans rfl; have hfz102_0 := blk_frozen BK11004.out 0; have hfz102_1 := blk_frozen BK11004.out 1) | (go_at_call 16; (with_reducible refine (shape_Oval.calls k 0 _ _ y11001 t11030 _ ?side1 ?side2 A9.out).mono ?_); (case side1 => repeat (first | exact (Kd.V_reads' HO11003.out).2.2 | (with_reducible refine Kd.C_alloc ?_ _) | (with_reducible refine Kd.C_drewN ?_ _) | (with_reducible refine Kd.C_drew ?_))); (case side2 => exact (Kd.V_reads' HO11003.out).2.1); rintro e w103 ⟨rfl, hb⟩; have n0_ := Aside0.mk (Kd.N_below (fN_ HO11011.out) hb); have n1_ := Aside0.mk (Kd.V_below (fV_ HO11003.out) hb); have n2_ := Aside0.mk (Kd.V_below (fV_ HO11008.out) hb); have n3_ := Aside0.mk (Kd.N_below (fN_ HO11026.out) hb); have n4_ := Aside0.mk (Kd.V_below (fV_ HO11015.out) hb); have n5_ := Aside0.mk (Kd.V_below (fV_ HO11019.out) hb); have n6_ := Aside0.mk (Kd.V_below (fV_ HO11023.out) hb); have n7_ := Aside0.mk (blk_below (g := gb11004) (o := .cells #[.int .i64 0, .slice Ao81 y11001.length co81] 24 (0, 0)) (fb_ BK11004.out) hb); have n8_ := Aside0.mk (bs_ hb); clear HO11011 HO11003 HO11008 HO11026 HO11015 HO11019 HO11023 BK11004 HB; have HO11011 := n0_; have HO11003 := n1_; have HO11008 := n2_; have HO11026 := n3_; have HO11015 := n4_; have HO11019 := n5_; have HO11023 := n6_; have BK11004 := n7_; have HB := n8_; clear n0_ n1_ n2_ n3_ n4_ n5_ n6_ n7_ n8_; (try clear hb); (try clear hb2); (try clear hk); (try clear hi); obtain ⟨Ao104, co104, eo104⟩ := Kd.N_slice HO11011.out; subst eo104) | (go_at_call 19; (with_reducible refine (shape_Top.calls k _ _ y11009 t11031 _ ?side1 ?side2 A11.out).mono ?_); (case side1 => repeat (first | exact (Kd.N_reads' HO11011.out).2.2 | (with_reducible refine Kd.C_alloc ?_ _) | (with_reducible refine Kd.C_drewN ?_ _) | (with_reducible refine Kd.C_drew ?_))); (case side2 => exact (Kd.N_reads' HO11011.out).2.1); rintro e w105 ⟨rfl, hb⟩; have n0_ := Aside0.mk (Kd.N_below (fN_ HO11011.out) hb); have n1_ := Aside0.mk (Kd.V_below (fV_ HO11003.out) hb); have n2_ := Aside0.mk (Kd.V_below (fV_ HO11008.out) hb); have n3_ := Aside0.mk (Kd.N_below (fN_ HO11026.out) hb); have n4_ := Aside0.mk (Kd.V_below (fV_ HO11015.out) hb); have n5_ := Aside0.mk (Kd.V_below (fV_ HO11019.out) hb); have n6_ := Aside0.mk (Kd.V_below (fV_ HO11023.out) hb); have n7_ := Aside0.mk (blk_below (g := gb11004) (o := .cells #[.int .i64 0, .slice Ao81 y11001.length co81] 24 (0, 0)) (fb_ BK11004.out) hb); have n8_ := Aside0.mk (bs_ hb); clear HO11011 HO11003 HO11008 HO11026 HO11015 HO11019 HO11023 BK11004 HB; have HO11011 := n0_; have HO11003 := n1_; have HO11008 := n2_; have HO11026 := n3_; have HO11015 := n4_; have HO11019 := n5_; have HO11023 := n6_; have BK11004 := n7_; have HB := n8_; clear n0_ n1_ n2_ n3_ n4_ n5_ n6_ n7_ n8_; (try clear hb); (try clear hb2); (try clear hk); (try clear hi)) | (go_at_call 21; (with_reducible refine (shape_Taper.calls k _ _ y11009 t11032 _ ?side1 ?side2 A13.out).mono ?_); (case side1 => repeat (first | exact (Kd.N_reads' HO11011.out).2.2 | (with_reducible refine Kd.C_alloc ?_ _) | (with_reducible refine Kd.C_drewN ?_ _) | (with_reducible refine Kd.C_drew ?_))); (case side2 => exact (Kd.N_reads' HO11011.out).2.1); rintro e w106 ⟨rfl, hb⟩; have n0_ := Aside0.mk (Kd.N_below (fN_ HO11011.out) hb); have n1_ := Aside0.mk (Kd.V_below (fV_ HO11003.out) hb); have n2_ := Aside0.mk (Kd.V_below (fV_ HO11008.out) hb); have n3_ := Aside0.mk (Kd.N_below (fN_ HO11026.out) hb); have n4_ := Aside0.mk (Kd.V_below (fV_ HO11015.out) hb); have n5_ := Aside0.mk (Kd.V_below (fV_ HO11019.out) hb); have n6_ := Aside0.mk (Kd.V_below (fV_ HO11023.out) hb); have n7_ := Aside0.mk (blk_below (g := gb11004) (o := .cells #[.int .i64 0, .slice Ao81 y11001.length co81] 24 (0, 0)) (fb_ BK11004.out) hb); have n8_ := Aside0.mk (bs_ hb); clear HO11011 HO11003 HO11008 HO11026 HO11015 HO11019 HO11023 BK11004 HB; have HO11011 := n0_; have HO11003 := n1_; have HO11008 := n2_; have HO11026 := n3_; have HO11015 := n4_; have HO11019 := n5_; have HO11023 := n6_; have BK11004 := n7_; have HB := n8_; clear n0_ n1_ n2_ n3_ n4_ n5_ n6_ n7_ n8_; (try clear hb); (try clear hb2); (try clear hk); (try clear hi)))
      go_ret
      exact ⟨er_, be_⟩
    ·rw [if_neg c12] at H
     have c12b0 : (t11031 == 35) = false := beq_eq_false_iff_ne.mpr c12
     have c12b1 : (t11031 != 35) = true := bne_iff_ne.mpr c12
     obtain rfl := Option.some.inj H
     go_enter Try.func11, Try.ntmps11
     try go_wp2_with (first | ((with_reducible refine gate_dst (N := 6) rfl ?_); refine Kd.R_lit k49 _ 49 ?hg (N := 6) ?hd (xs := ([(⟨(-50), 50⟩ : S49), (⟨(-60), 60⟩ : S49)] : List (S49))) (inner := [.int .i64 (-50), .int .i64 50, .int .i64 (-60), .int .i64 60]) (ok := fun _ => True) (okp := fun _ => True) ?hr ?hp (fun _ hk => hk) trivial (Below.refl _ _) (Nat.le_refl _) (by simp) ?_; (case hd => rfl); (case hg => rfl); (case hr => first | (go_simp; done) | (go_simp; rfl)); (case hp => exact (Reps.c2 (show Kd.M k49 _ _ _ (⟨(-50), 50⟩ : S49) [.int .i64 (-50), .int .i64 50] from (k49_mkM _ _ _ (⟨(-50), 50⟩ : S49) )) (Reps.c2 (show Kd.M k49 _ _ _ (⟨(-60), 60⟩ : S49) [.int .i64 (-60), .int .i64 60] from (k49_mkM _ _ _ (⟨(-60), 60⟩ : S49) )) (Reps.none _ _)))); intro v11002 w107 ho108 hb hg_ hnew_; clear hg_ hnew_; (first | rw [← Ny11001.out] at ho108 | (simp only [Int.reduceToNat] at ho108; rw [← Ny11001.out] at ho108)); have n0_ := Aside0.mk (Kd.R_lower ho108 bz_); have n1_ := Aside0.mk (bs_ hb); clear HB; have HO11003 := n0_; have HB := n1_; clear n0_ n1_ hb ho108; obtain ⟨Ao109, co109, eo109⟩ := Kd.R_slice HO11003.out; subst eo109) | ((with_reducible refine gate_dst (N := 1) rfl ?_); refine box_event ?hg (N := 1) ?hd (cs := #[.int .i64 0, .slice none 0 0]) (t := 24) ?hr ?_; (case hd => rfl); (case hg => rfl); (case hr => first | (go_simp; done) | (go_simp; rfl)); intro gb11004 hg w110 hbox hb; have n0_ := Aside0.mk (Kd.R_below (fR_ HO11003.out) hb); have n1_ := Aside0.mk (bs_ hb); have n2_ := Aside0.mk (hbox); have n3_ := Aside0.mk ((by rw [hg]; exact bz_ : w.heap.size ≤ gb11004)); have n4_ := Aside0.mk ((by rw [hg]; exact bz_ : w.heap.size ≤ gb11004)); clear HO11003 HB; have HO11003 := n0_; have HB := n1_; have BK11004 := n2_; have GW11004 := n3_; have GE11004 := n4_; clear n0_ n1_ n2_ n3_ n4_ hb hbox hg; have hcz111_0 : w110.cell? ⟨gb11004, 0, none⟩ = some (.int .i64 0) := (blk_cell BK11004.out 0).trans rfl; have hcz111_1 : w110.cell? ⟨gb11004, 1, none⟩ = some (.slice none 0 0) := (blk_cell BK11004.out 1).trans rfl; have hfz111_0 := blk_frozen BK11004.out 0; have hfz111_1 := blk_frozen BK11004.out 1))
     have n0_ : Aside0 (Kd.R k49 49 ((w110.setCell ⟨gb11004, 0, none⟩ (.int .i64 0)).setCell ⟨gb11004, 1, none⟩ (.slice Ao109 y11001.length co109)) w.heap.size (fun _ => True) (.slice Ao109 y11001.length co109) y11001) := ⟨by (with_reducible repeat (first | apply Kd.R_alloc | apply Kd.R_drewN | apply Kd.R_drew)); exact Kd.R_mono (Kd.R_far (p := ⟨gb11004, 1, none⟩) (Kd.R_far (p := ⟨gb11004, 0, none⟩) (Kd.R_types HO11003.out BK11004.out (by decide)) (fun _ hk => hk.2) (.int .i64 0)) (fun _ hk => hk.2) (.slice Ao109 y11001.length co109)) (fun _ hk => trivial)⟩
     have n1_ : Aside0 (((w110.setCell ⟨gb11004, 0, none⟩ (.int .i64 0)).setCell ⟨gb11004, 1, none⟩ (.slice Ao109 y11001.length co109)).heap[gb11004]? = some (.cells #[.int .i64 0, .slice Ao109 y11001.length co109] 24 (0, 0))) := ⟨by (with_reducible repeat (first | refine blk_drewN ?_ _ | refine blk_drew ?_ | refine blk_alloc ?_ _)); refine blk_put (cs := #[.int .i64 0, .slice none 0 0]) ?_ 1 _ rfl; (with_reducible repeat (first | refine blk_drewN ?_ _ | refine blk_drew ?_ | refine blk_alloc ?_ _)); refine blk_put (cs := #[.int .i64 0, .slice none 0 0]) ?_ 0 _ rfl; (with_reducible repeat (first | refine blk_drewN ?_ _ | refine blk_drew ?_ | refine blk_alloc ?_ _)); exact BK11004.out⟩
     have n2_ : Aside0 (Below w.heap.size w ((w110.setCell ⟨gb11004, 0, none⟩ (.int .i64 0)).setCell ⟨gb11004, 1, none⟩ (.slice Ao109 y11001.length co109))) := ⟨be_⟩
     (try clear HO11003)
     (try clear BK11004)
     (try clear HB)
     generalize ((w110.setCell ⟨gb11004, 0, none⟩ (.int .i64 0)).setCell ⟨gb11004, 1, none⟩ (.slice Ao109 y11001.length co109)) = w112 at n0_ n1_ n2_ ⊢
     have HO11003 := n0_
     have BK11004 := n1_
     have HB := n2_
     clear n0_ n1_ n2_
     have n0_ := Aside0.mk (Kd.R_drew HO11003.out)
     have n1_ := Aside0.mk (blk_drew BK11004.out)
     have n2_ := Aside0.mk (below_drew1 HB.out)
     clear HO11003 BK11004 HB
     have HO11003 := n0_
     have BK11004 := n1_
     have HB := n2_
     clear n0_ n1_ n2_
     refine start_ (n := 6) (S := fun w' => w'.cell? ⟨gb11004, 0, none⟩ = some (.int .i64 0) ∧ w'.cell? ⟨gb11004, 1, none⟩ = some (.slice Ao109 y11001.length co109)) (ds := []) #[false, false, false, false, false, false] (by kernel_rfl) rfl rfl ⟨(blk_cell BK11004.out 0).trans rfl, (blk_cell BK11004.out 1).trans rfl⟩ (fun hHeld => ?_)
     generalize w112.drew = w113 at HO11003 BK11004 HB hHeld ⊢
     refine take_ (i := 0) (N := some 8) (v := ?_) (a' := ?_) #[true, false, false, false, false, false] rfl rfl (by kernel_rfl) (fun _ _ _ h => h) (Or.inl ⟨by rfl, ?_⟩) hHeld ?_ ?_
     rotate_left
     ·rintro w' ⟨s0, s1⟩
      go_simp
      with_reducible rfl
     rotate_left
     ·simp only [Act.put, List.setIfInBounds_toArray, List.set_cons_zero, List.set_cons_succ, i64_w, i32_w]
      rfl
     refine pure_ (i := 1) (N := some 9) (v := ?_) (a' := ?_) #[true, true, false, false, false, false] rfl rfl (by kernel_rfl) (fun _ _ _ h => h) (Or.inl ⟨by rfl, ?_⟩) ?_ ?_
     rotate_left
     ·intro w'
      go_simp
      with_reducible rfl
     rotate_left
     ·simp only [Act.put, List.setIfInBounds_toArray, List.set_cons_zero, List.set_cons_succ, i64_w, i32_w]
      rfl
     refine one_ (i := 2) (N := some 10) #[true, true, true, false, false, false] rfl rfl (by kernel_rfl) (by decide) (fun K hK => ?_)
     refine goes_ Try.func35 (by kernel_rfl) rfl #[.int .i64 (-50), .int .i64 50] (by rfl) rfl rfl la_ ?_
     with_reducible refine (sawmilllaw14_one.calls (-50) 50 t11005 t11006 _ A1.out).mono ?_
     rintro e w114 ⟨v11007, rfl, ho0, hb⟩
     refine ⟨_, rfl, ?_⟩
     have n0_ := Aside0.mk (Kd.R_elder' (fR_ HO11003.out) (Kd.R_base ho0) hb)
     have n1_ := Aside0.mk (Kd.R_lower (Kd.R_new' ho0 (Kd.R_lt (fR_ HO11003.out))) bz_)
     have n2_ := Aside0.mk (blk_below (g := gb11004) (o := .cells #[.int .i64 0, .slice Ao109 y11001.length co109] 24 (0, 0)) (fb_ BK11004.out) hb)
     have n3_ := Aside0.mk (bs_ hb)
     clear HO11003 BK11004 HB
     have HO11003 := n0_
     have HO11008 := n1_
     have BK11004 := n2_
     have HB := n3_
     clear n0_ n1_ n2_ n3_
     (try clear hb)
     (try clear hb2)
     (try clear hk)
     (try clear hi)
     (try clear ho0)
     obtain ⟨Ao115, co115, eo115⟩ := Kd.R_slice HO11008.out
     (first | subst eo115 | (injection eo115 with f1_ f2_ f3_; have f4_ := f1_.symm; have f5_ := f3_.symm; clear f1_ f2_ f3_; subst f4_; subst f5_))
     refine hK.out _ _ ⟨(blk_cell BK11004.out 0).trans rfl, (blk_cell BK11004.out 1).trans rfl⟩ (fun hHeld => ?_)
     clear hK K
     refine norm_ (a' := ?_) ?_ ?_
     rotate_left
     ·show Act.put _ (some 10) _ = _
      simp only [Act.put, List.setIfInBounds_toArray, List.set_cons_zero, List.set_cons_succ, i64_w, i32_w]
      rfl
     refine pure_ (i := 3) (N := some 11) (v := ?_) (a' := ?_) #[true, true, true, true, false, false] rfl rfl (by kernel_rfl) (fun _ _ _ h => h) (Or.inl ⟨by rfl, ?_⟩) ?_ ?_
     rotate_left
     ·intro w'
      go_simp
      with_reducible rfl
     rotate_left
     ·simp only [Act.put, List.setIfInBounds_toArray, List.set_cons_zero, List.set_cons_succ, i64_w, i32_w]
      rfl
     refine one_ (i := 4) (N := some 12) #[true, true, true, true, true, false] rfl rfl (by kernel_rfl) (by decide) (fun K hK => ?_)
     refine Kd.N_lit_step k36 _ 36 ?hg (N' := 12) ?hd (xs := ([(⟨2000, (⟨0, y11001⟩ : S24)⟩ : S36), (⟨1000, (⟨t11005, t11006⟩ : S24)⟩ : S36)] : List (S36))) (inner := [.int .i64 2000, .int .i64 0, .slice Ao109 y11001.length co109, .int .i64 1000, .int .i64 t11005, .slice Ao115 t11006.length co115]) (ok := (fun k_ => k_ ≠ gb11004)) (okp := (fun k_ => k_ ≠ gb11004)) ?hr ?hp (fun _ hk => hk) ((show ∀ k_, w114.heap.size ≤ k_ → (fun k_ => k_ ≠ gb11004) k_ from fun k_ hk => Kd.freshB (g := gb11004) (o := .cells #[.int .i64 0, .slice Ao109 y11001.length co109] 24 (0, 0)) (fb_ BK11004.out) k_ hk) _ (Nat.le_refl _)) (Below.refl _ _) (Nat.le_refl _) (by simp) ?_; (case hd => rfl); (case hg => rfl); (case hr => first | (go_simp; done) | (go_simp; rfl)); (case hp => exact (Reps.c3 (show Kd.FK k36 _ _ (⟨2000, (⟨0, y11001⟩ : S24)⟩ : S36) [.int .i64 2000, .int .i64 0, .slice Ao109 y11001.length co109] from (k36_mkF _ _ (⟨2000, (⟨0, y11001⟩ : S24)⟩ : S36) (Kd.R_reads' (Kd.R_mono (ok' := (fun k_ => k_ ≠ gb11004)) (Kd.R_types (HO11003.out) BK11004.out (by decide)) (fun k_ hk => hk.2))).2.1 (Kd.R_F (Kd.R_mono (ok' := (fun k_ => k_ ≠ gb11004)) (Kd.R_types (HO11003.out) BK11004.out (by decide)) (fun k_ hk => hk.2))))) (Reps.c3 (show Kd.FK k36 _ _ (⟨1000, (⟨t11005, t11006⟩ : S24)⟩ : S36) [.int .i64 1000, .int .i64 t11005, .slice Ao115 t11006.length co115] from (k36_mkF _ _ (⟨1000, (⟨t11005, t11006⟩ : S24)⟩ : S36) (Kd.R_reads' (Kd.R_mono (ok' := (fun k_ => k_ ≠ gb11004)) (Kd.R_types (HO11008.out) BK11004.out (by decide)) (fun k_ hk => hk.2))).2.1 (Kd.R_F (Kd.R_mono (ok' := (fun k_ => k_ ≠ gb11004)) (Kd.R_types (HO11008.out) BK11004.out (by decide)) (fun k_ hk => hk.2))))) (Reps.none _ _))))
     intro v11010 w116 ho117 hb hg_ hnew_
     clear hg_ hnew_
     (first | rw [← Ny11009.out] at ho117 | (simp only [Int.reduceToNat] at ho117; rw [← Ny11009.out] at ho117))
     have n0_ := Aside0.mk (Kd.N_lower ho117 bz_)
     have n1_ := Aside0.mk (blk_below (g := gb11004) (o := .cells #[.int .i64 0, .slice Ao109 y11001.length co109] 24 (0, 0)) (fb_ BK11004.out) hb)
     have n2_ := Aside0.mk (Kd.V_below (Kd.R_V (base' := w.heap.size) (fR_ HO11003.out)) hb)
     have n3_ := Aside0.mk (Kd.V_below (Kd.R_V (base' := w.heap.size) (fR_ HO11008.out)) hb)
     have n4_ := Aside0.mk (bs_ hb)
     clear BK11004 HO11003 HO11008 HB
     have HO11011 := n0_
     have BK11004 := n1_
     have HO11003 := n2_
     have HO11008 := n3_
     have HB := n4_
     clear n0_ n1_ n2_ n3_ n4_ hb ho117
     refine hK.out _ _ ⟨(blk_cell BK11004.out 0).trans rfl, (blk_cell BK11004.out 1).trans rfl⟩ (fun hHeld => ?_)
     clear hK K
     refine norm_ (a' := ?_) ?_ ?_
     rotate_left
     ·show Act.put _ (some 12) _ = _
      simp only [Act.put, List.setIfInBounds_toArray, List.set_cons_zero, List.set_cons_succ, i64_w, i32_w]
      rfl
     refine pure_ (i := 5) (N := some 2) (v := ?_) (a' := ?_) #[true, true, true, true, true, true] rfl rfl (by kernel_rfl) (fun _ _ _ h => h) (Or.inl ⟨by rfl, ?_⟩) ?_ ?_
     rotate_left
     ·intro w'
      go_simp
      with_reducible rfl
     rotate_left
     ·simp only [Act.put, List.setIfInBounds_toArray, List.set_cons_zero, List.set_cons_succ, i64_w, i32_w]
      rfl
     refine done_ (by kernel_rfl) ?_
     try go_wp2_with (first | ((with_reducible refine gate_callee (f := 35) rfl ?_); refine goesL_ (some 13) rfl rfl Try.func35 (by kernel_rfl) rfl #[.int .i64 (-50), .int .i64 50] rfl la_ ?_; (with_reducible refine (sawmilllaw14_one.calls (-50) 50 t11012 t11013 _ A2.out).mono ?_); rintro e w118 ⟨v11014, rfl, ho0, hb⟩; refine ⟨_, rfl, ?_⟩; have n0_ := Aside0.mk (Kd.N_elder' (fN_ HO11011.out) (Kd.R_base ho0) hb); have n1_ := Aside0.mk (Kd.V_elder' (fV_ HO11003.out) (Kd.R_base ho0) hb); have n2_ := Aside0.mk (Kd.V_elder' (fV_ HO11008.out) (Kd.R_base ho0) hb); have n3_ := Aside0.mk (Kd.R_lower ho0 bz_); have n4_ := Aside0.mk (blk_below (g := gb11004) (o := .cells #[.int .i64 0, .slice Ao109 y11001.length co109] 24 (0, 0)) (fb_ BK11004.out) hb); have n5_ := Aside0.mk (bs_ hb); clear HO11011 HO11003 HO11008 BK11004 HB; have HO11011 := n0_; have HO11003 := n1_; have HO11008 := n2_; have HO11015 := n3_; have BK11004 := n4_; have HB := n5_; clear n0_ n1_ n2_ n3_ n4_ n5_; (try clear hb); (try clear hb2); (try clear hk); (try clear hi); (try clear ho0); obtain ⟨Ao119, co119, eo119⟩ := Kd.R_slice HO11015.out; subst eo119) | ((with_reducible refine gate_callee (f := 35) rfl ?_); refine goesL_ (some 15) rfl rfl Try.func35 (by kernel_rfl) rfl #[.int .i64 (-40), .int .i64 60] rfl la_ ?_; (with_reducible refine (sawmilllaw14_one.calls (-40) 60 t11016 t11017 _ A3.out).mono ?_); rintro e w120 ⟨v11018, rfl, ho0, hb⟩; refine ⟨_, rfl, ?_⟩; have n0_ := Aside0.mk (Kd.N_elder' (fN_ HO11011.out) (Kd.R_base ho0) hb); have n1_ := Aside0.mk (Kd.V_elder' (fV_ HO11003.out) (Kd.R_base ho0) hb); have n2_ := Aside0.mk (Kd.V_elder' (fV_ HO11008.out) (Kd.R_base ho0) hb); have n3_ := Aside0.mk (Kd.R_elder' (fR_ HO11015.out) (Kd.R_base ho0) hb); have n4_ := Aside0.mk (Kd.R_lower (Kd.R_new' ho0 (Kd.R_lt (fR_ HO11015.out))) bz_); have n5_ := Aside0.mk (blk_below (g := gb11004) (o := .cells #[.int .i64 0, .slice Ao109 y11001.length co109] 24 (0, 0)) (fb_ BK11004.out) hb); have n6_ := Aside0.mk (bs_ hb); clear HO11011 HO11003 HO11008 HO11015 BK11004 HB; have HO11011 := n0_; have HO11003 := n1_; have HO11008 := n2_; have HO11015 := n3_; have HO11019 := n4_; have BK11004 := n5_; have HB := n6_; clear n0_ n1_ n2_ n3_ n4_ n5_ n6_; (try clear hb); (try clear hb2); (try clear hk); (try clear hi); (try clear ho0); obtain ⟨Ao121, co121, eo121⟩ := Kd.R_slice HO11019.out; subst eo121) | ((with_reducible refine gate_callee (f := 35) rfl ?_); refine goesL_ (some 17) rfl rfl Try.func35 (by kernel_rfl) rfl #[.int .i64 (-50), .int .i64 50] rfl la_ ?_; (with_reducible refine (sawmilllaw14_one.calls (-50) 50 t11020 t11021 _ A4.out).mono ?_); rintro e w122 ⟨v11022, rfl, ho0, hb⟩; refine ⟨_, rfl, ?_⟩; have n0_ := Aside0.mk (Kd.N_elder' (fN_ HO11011.out) (Kd.R_base ho0) hb); have n1_ := Aside0.mk (Kd.V_elder' (fV_ HO11003.out) (Kd.R_base ho0) hb); have n2_ := Aside0.mk (Kd.V_elder' (fV_ HO11008.out) (Kd.R_base ho0) hb); have n3_ := Aside0.mk (Kd.R_elder' (fR_ HO11015.out) (Kd.R_base ho0) hb); have n4_ := Aside0.mk (Kd.R_elder' (fR_ HO11019.out) (Kd.R_base ho0) hb); have n5_ := Aside0.mk (Kd.R_lower (Kd.R_new' (Kd.R_new' ho0 (Kd.R_lt (fR_ HO11015.out))) (Kd.R_lt (fR_ HO11019.out))) bz_); have n6_ := Aside0.mk (blk_below (g := gb11004) (o := .cells #[.int .i64 0, .slice Ao109 y11001.length co109] 24 (0, 0)) (fb_ BK11004.out) hb); have n7_ := Aside0.mk (bs_ hb); clear HO11011 HO11003 HO11008 HO11015 HO11019 BK11004 HB; have HO11011 := n0_; have HO11003 := n1_; have HO11008 := n2_; have HO11015 := n3_; have HO11019 := n4_; have HO11023 := n5_; have BK11004 := n6_; have HB := n7_; clear n0_ n1_ n2_ n3_ n4_ n5_ n6_ n7_; (try clear hb); (try clear hb2); (try clear hk); (try clear hi); (try clear ho0); obtain ⟨Ao123, co123, eo123⟩ := Kd.R_slice HO11023.out; subst eo123) | ((with_reducible refine gate_dst (N := 19) rfl ?_); refine Kd.N_lit k36 _ 36 ?hg (N' := 19) ?hd (xs := ([(⟨1000, (⟨t11012, t11013⟩ : S24)⟩ : S36), (⟨1000, (⟨t11016, t11017⟩ : S24)⟩ : S36), (⟨1000, (⟨t11020, t11021⟩ : S24)⟩ : S36)] : List (S36))) (inner := [.int .i64 1000, .int .i64 t11012, .slice Ao119 t11013.length co119, .int .i64 1000, .int .i64 t11016, .slice Ao121 t11017.length co121, .int .i64 1000, .int .i64 t11020, .slice Ao123 t11021.length co123]) (ok := (fun k_ => some k_ ≠ (v11010 : Value).ownBlock ∧ k_ ≠ gb11004)) (okp := (fun k_ => some k_ ≠ (v11010 : Value).ownBlock ∧ k_ ≠ gb11004)) ?hr ?hp (fun _ hk => hk) ((show ∀ k_, w122.heap.size ≤ k_ → (fun k_ => some k_ ≠ (v11010 : Value).ownBlock ∧ k_ ≠ gb11004) k_ from fun k_ hk => ⟨Kd.fresh' (Kd.N_lt (fN_ HO11011.out)) k_ hk, Kd.freshB (g := gb11004) (o := .cells #[.int .i64 0, .slice Ao109 y11001.length co109] 24 (0, 0)) (fb_ BK11004.out) k_ hk⟩) _ (Nat.le_refl _)) (Below.refl _ _) (Nat.le_refl _) (by simp) ?_; (case hd => rfl); (case hg => rfl); (case hr => first | (go_simp; done) | (go_simp; rfl)); (case hp => exact (Reps.c3 (show Kd.FK k36 _ _ (⟨1000, (⟨t11012, t11013⟩ : S24)⟩ : S36) [.int .i64 1000, .int .i64 t11012, .slice Ao119 t11013.length co119] from (k36_mkF _ _ (⟨1000, (⟨t11012, t11013⟩ : S24)⟩ : S36) (Kd.R_reads' (Kd.R_mono (ok' := (fun k_ => some k_ ≠ (v11010 : Value).ownBlock ∧ k_ ≠ gb11004)) (Kd.R_types (Kd.R_apart' (HO11015.out) (Kd.N_typed HO11011.out) (by decide)) BK11004.out (by decide)) (fun k_ hk => ⟨hk.1.2, hk.2⟩))).2.1 (Kd.R_F (Kd.R_mono (ok' := (fun k_ => some k_ ≠ (v11010 : Value).ownBlock ∧ k_ ≠ gb11004)) (Kd.R_types (Kd.R_apart' (HO11015.out) (Kd.N_typed HO11011.out) (by decide)) BK11004.out (by decide)) (fun k_ hk => ⟨hk.1.2, hk.2⟩))))) (Reps.c3 (show Kd.FK k36 _ _ (⟨1000, (⟨t11016, t11017⟩ : S24)⟩ : S36) [.int .i64 1000, .int .i64 t11016, .slice Ao121 t11017.length co121] from (k36_mkF _ _ (⟨1000, (⟨t11016, t11017⟩ : S24)⟩ : S36) (Kd.R_reads' (Kd.R_mono (ok' := (fun k_ => some k_ ≠ (v11010 : Value).ownBlock ∧ k_ ≠ gb11004)) (Kd.R_types (Kd.R_apart' (HO11019.out) (Kd.N_typed HO11011.out) (by decide)) BK11004.out (by decide)) (fun k_ hk => ⟨hk.1.2, hk.2⟩))).2.1 (Kd.R_F (Kd.R_mono (ok' := (fun k_ => some k_ ≠ (v11010 : Value).ownBlock ∧ k_ ≠ gb11004)) (Kd.R_types (Kd.R_apart' (HO11019.out) (Kd.N_typed HO11011.out) (by decide)) BK11004.out (by decide)) (fun k_ hk => ⟨hk.1.2, hk.2⟩))))) (Reps.c3 (show Kd.FK k36 _ _ (⟨1000, (⟨t11020, t11021⟩ : S24)⟩ : S36) [.int .i64 1000, .int .i64 t11020, .slice Ao123 t11021.length co123] from (k36_mkF _ _ (⟨1000, (⟨t11020, t11021⟩ : S24)⟩ : S36) (Kd.R_reads' (Kd.R_mono (ok' := (fun k_ => some k_ ≠ (v11010 : Value).ownBlock ∧ k_ ≠ gb11004)) (Kd.R_types (Kd.R_apart' (HO11023.out) (Kd.N_typed HO11011.out) (by decide)) BK11004.out (by decide)) (fun k_ hk => ⟨hk.1.2, hk.2⟩))).2.1 (Kd.R_F (Kd.R_mono (ok' := (fun k_ => some k_ ≠ (v11010 : Value).ownBlock ∧ k_ ≠ gb11004)) (Kd.R_types (Kd.R_apart' (HO11023.out) (Kd.N_typed HO11011.out) (by decide)) BK11004.out (by decide)) (fun k_ hk => ⟨hk.1.2, hk.2⟩))))) (Reps.none _ _))))); intro v11025 w124 ho125 hb hg_ hnew_; clear hg_ hnew_; (first | rw [← Ny11024.out] at ho125 | (simp only [Int.reduceToNat] at ho125; rw [← Ny11024.out] at ho125)); have n0_ := Aside0.mk (Kd.N_elder' (fN_ HO11011.out) (Kd.N_base ho125) hb); have n1_ := Aside0.mk (Kd.V_elder' (fV_ HO11003.out) (Kd.N_base ho125) hb); have n2_ := Aside0.mk (Kd.V_elder' (fV_ HO11008.out) (Kd.N_base ho125) hb); have n3_ := Aside0.mk (Kd.N_lower ho125 bz_); have n4_ := Aside0.mk (blk_below (g := gb11004) (o := .cells #[.int .i64 0, .slice Ao109 y11001.length co109] 24 (0, 0)) (fb_ BK11004.out) hb); have n5_ := Aside0.mk (Kd.V_below (Kd.R_V (base' := w.heap.size) (fR_ HO11015.out)) hb); have n6_ := Aside0.mk (Kd.V_below (Kd.R_V (base' := w.heap.size) (fR_ HO11019.out)) hb); have n7_ := Aside0.mk (Kd.V_below (Kd.R_V (base' := w.heap.size) (fR_ HO11023.out)) hb); have n8_ := Aside0.mk (bs_ hb); clear HO11011 HO11003 HO11008 BK11004 HO11015 HO11019 HO11023 HB; have HO11011 := n0_; have HO11003 := n1_; have HO11008 := n2_; have HO11026 := n3_; have BK11004 := n4_; have HO11015 := n5_; have HO11019 := n6_; have HO11023 := n7_; have HB := n8_; clear n0_ n1_ n2_ n3_ n4_ n5_ n6_ n7_ n8_ hb ho125; have hcz126_0 : w124.cell? ⟨gb11004, 0, none⟩ = some (.int .i64 0) := (blk_cell BK11004.out 0).trans rfl; have hcz126_1 : w124.cell? ⟨gb11004, 1, none⟩ = some (.slice Ao109 y11001.length co109) := (blk_cell BK11004.out 1).trans rfl; have hfz126_0 := blk_frozen BK11004.out 0; have hfz126_1 := blk_frozen BK11004.out 1) | ((with_reducible refine gate_callee (f := 12) rfl ?_); refine goesL_ (some 21) rfl rfl Try.func12 (by kernel_rfl) rfl #[.agg #[.int .i64 0, .slice Ao109 y11001.length co109]] rfl la_ ?_; (with_reducible refine (shape_Diameter.calls k 0 _ _ y11001 t11027 _ ?side1 ?side2 A5.out).mono ?_); (case side1 => repeat (first | exact (Kd.V_reads' HO11003.out).2.2 | (with_reducible refine Kd.C_alloc ?_ _) | (with_reducible refine Kd.C_drewN ?_ _) | (with_reducible refine Kd.C_drew ?_))); (case side2 => exact (Kd.V_reads' HO11003.out).2.1); rintro e w127 ⟨rfl, hb⟩; refine ⟨_, rfl, ?_⟩; have n0_ := Aside0.mk (Kd.N_below (fN_ HO11011.out) hb); have n1_ := Aside0.mk (Kd.V_below (fV_ HO11003.out) hb); have n2_ := Aside0.mk (Kd.V_below (fV_ HO11008.out) hb); have n3_ := Aside0.mk (Kd.N_below (fN_ HO11026.out) hb); have n4_ := Aside0.mk (Kd.V_below (fV_ HO11015.out) hb); have n5_ := Aside0.mk (Kd.V_below (fV_ HO11019.out) hb); have n6_ := Aside0.mk (Kd.V_below (fV_ HO11023.out) hb); have n7_ := Aside0.mk (blk_below (g := gb11004) (o := .cells #[.int .i64 0, .slice Ao109 y11001.length co109] 24 (0, 0)) (fb_ BK11004.out) hb); have n8_ := Aside0.mk (bs_ hb); clear HO11011 HO11003 HO11008 HO11026 HO11015 HO11019 HO11023 BK11004 HB; have HO11011 := n0_; have HO11003 := n1_; have HO11008 := n2_; have HO11026 := n3_; have HO11015 := n4_; have HO11019 := n5_; have HO11023 := n6_; have BK11004 := n7_; have HB := n8_; clear n0_ n1_ n2_ n3_ n4_ n5_ n6_ n7_ n8_; (try clear hb); (try clear hb2); (try clear hk); (try clear hi); have hcz128_0 : w127.cell? ⟨gb11004, 0, none⟩ = some (.int .i64 0) := (blk_cell BK11004.out 0).trans rfl; have hcz128_1 : w127.cell? ⟨gb11004, 1, none⟩ = some (.slice Ao109 y11001.length co109) := (blk_cell BK11004.out 1).trans rfl; have hfz128_0 := blk_frozen BK11004.out 0; have hfz128_1 := blk_frozen BK11004.out 1) | (go_at_call 14; (with_reducible refine (shape_Center2.calls k 0 _ _ y11001 t11028 t11029 _ ?side1 ?side2 A7.out).mono ?_); (case side1 => repeat (first | exact (Kd.V_reads' HO11003.out).2.2 | (with_reducible refine Kd.C_alloc ?_ _) | (with_reducible refine Kd.C_drewN ?_ _) | (with_reducible refine Kd.C_drew ?_))); (case side2 => exact (Kd.V_reads' HO11003.out).2.1); rintro e w129 ⟨rfl, hb⟩; have n0_ := Aside0.mk (Kd.N_below (fN_ HO11011.out) hb); have n1_ := Aside0.mk (Kd.V_below (fV_ HO11003.out) hb); have n2_ := Aside0.mk (Kd.V_below (fV_ HO11008.out) hb); have n3_ := Aside0.mk (Kd.N_below (fN_ HO11026.out) hb); have n4_ := Aside0.mk (Kd.V_below (fV_ HO11015.out) hb); have n5_ := Aside0.mk (Kd.V_below (fV_ HO11019.out) hb); have n6_ := Aside0.mk (Kd.V_below (fV_ HO11023.out) hb); have n7_ := Aside0.mk (blk_below (g := gb11004) (o := .cells #[.int .i64 0, .slice Ao109 y11001.length co109] 24 (0, 0)) (fb_ BK11004.out) hb); have n8_ := Aside0.mk (bs_ hb); clear HO11011 HO11003 HO11008 HO11026 HO11015 HO11019 HO11023 BK11004 HB; have HO11011 := n0_; have HO11003 := n1_; have HO11008 := n2_; have HO11026 := n3_; have HO11015 := n4_; have HO11019 := n5_; have HO11023 := n6_; have BK11004 := n7_; have HB := n8_; clear n0_ n1_ n2_ n3_ n4_ n5_ n6_ n7_ n8_; (try clear hb); (try clear hb2); (try clear hk); (try clear hi); have hcz130_0 : w129.cell? ⟨gb11004, 0, none⟩ = some (.int .i64 0) := (blk_cell BK11004.out 0).trans rfl; have hcz130_1 : w129.cell? ⟨gb11004, 1, none⟩ = some (.slice Ao109 y11001.length co109) := (blk_cell BK11004.out 1).trans rfl; have hfz130_0 := blk_frozen BK11004.out 0; have hfz130_1 := blk_frozen BK11004.out 1) | (go_at_call 16; (with_reducible refine (shape_Oval.calls k 0 _ _ y11001 t11030 _ ?side1 ?side2 A9.out).mono ?_); (case side1 => repeat (first | exact (Kd.V_reads' HO11003.out).2.2 | (with_reducible refine Kd.C_alloc ?_ _) | (with_reducible refine Kd.C_drewN ?_ _) | (with_reducible refine Kd.C_drew ?_))); (case side2 => exact (Kd.V_reads' HO11003.out).2.1); rintro e w131 ⟨rfl, hb⟩; have n0_ := Aside0.mk (Kd.N_below (fN_ HO11011.out) hb); have n1_ := Aside0.mk (Kd.V_below (fV_ HO11003.out) hb); have n2_ := Aside0.mk (Kd.V_below (fV_ HO11008.out) hb); have n3_ := Aside0.mk (Kd.N_below (fN_ HO11026.out) hb); have n4_ := Aside0.mk (Kd.V_below (fV_ HO11015.out) hb); have n5_ := Aside0.mk (Kd.V_below (fV_ HO11019.out) hb); have n6_ := Aside0.mk (Kd.V_below (fV_ HO11023.out) hb); have n7_ := Aside0.mk (blk_below (g := gb11004) (o := .cells #[.int .i64 0, .slice Ao109 y11001.length co109] 24 (0, 0)) (fb_ BK11004.out) hb); have n8_ := Aside0.mk (bs_ hb); clear HO11011 HO11003 HO11008 HO11026 HO11015 HO11019 HO11023 BK11004 HB; have HO11011 := n0_; have HO11003 := n1_; have HO11008 := n2_; have HO11026 := n3_; have HO11015 := n4_; have HO11019 := n5_; have HO11023 := n6_; have BK11004 := n7_; have HB := n8_; clear n0_ n1_ n2_ n3_ n4_ n5_ n6_ n7_ n8_; (try clear hb); (try clear hb2); (try clear hk); (try clear hi); obtain ⟨Ao132, co132, eo132⟩ := Kd.N_slice HO11011.out; subst eo132) | (go_at_call 19; (with_reducible refine (shape_Top.calls k _ _ y11009 t11031 _ ?side1 ?side2 A11.out).mono ?_); (case side1 => repeat (first | exact (Kd.N_reads' HO11011.out).2.2 | (with_reducible refine Kd.C_alloc ?_ _) | (with_reducible refine Kd.C_drewN ?_ _) | (with_reducible refine Kd.C_drew ?_))); (case side2 => exact (Kd.N_reads' HO11011.out).2.1); rintro e w133 ⟨rfl, hb⟩; have n0_ := Aside0.mk (Kd.N_below (fN_ HO11011.out) hb); have n1_ := Aside0.mk (Kd.V_below (fV_ HO11003.out) hb); have n2_ := Aside0.mk (Kd.V_below (fV_ HO11008.out) hb); have n3_ := Aside0.mk (Kd.N_below (fN_ HO11026.out) hb); have n4_ := Aside0.mk (Kd.V_below (fV_ HO11015.out) hb); have n5_ := Aside0.mk (Kd.V_below (fV_ HO11019.out) hb); have n6_ := Aside0.mk (Kd.V_below (fV_ HO11023.out) hb); have n7_ := Aside0.mk (blk_below (g := gb11004) (o := .cells #[.int .i64 0, .slice Ao109 y11001.length co109] 24 (0, 0)) (fb_ BK11004.out) hb); have n8_ := Aside0.mk (bs_ hb); clear HO11011 HO11003 HO11008 HO11026 HO11015 HO11019 HO11023 BK11004 HB; have HO11011 := n0_; have HO11003 := n1_; have HO11008 := n2_; have HO11026 := n3_; have HO11015 := n4_; have HO11019 := n5_; have HO11023 := n6_; have BK11004 := n7_; have HB := n8_; clear n0_ n1_ n2_ n3_ n4_ n5_ n6_ n7_ n8_; (try clear hb); (try clear hb2); (try clear hk); (try clear hi)))
     go_ret
     exact ⟨er_, be_⟩
   ·rw [if_neg c10] at H
    have c10b0 : (t11030 == 100) = false := beq_eq_false_iff_ne.mpr c10
    have c10b1 : (t11030 != 100) = true := bne_iff_ne.mpr c10
    obtain rfl := Option.some.inj H
    go_enter Try.func11, Try.ntmps11
    try go_wp2_with (first | ((with_reducible refine gate_dst (N := 6) rfl ?_); refine Kd.R_lit k49 _ 49 ?hg (N := 6) ?hd (xs := ([(⟨(-50), 50⟩ : S49), (⟨(-60), 60⟩ : S49)] : List (S49))) (inner := [.int .i64 (-50), .int .i64 50, .int .i64 (-60), .int .i64 60]) (ok := fun _ => True) (okp := fun _ => True) ?hr ?hp (fun _ hk => hk) trivial (Below.refl _ _) (Nat.le_refl _) (by simp) ?_; (case hd => rfl); (case hg => rfl); (case hr => first | (go_simp; done) | (go_simp; rfl)); (case hp => exact (Reps.c2 (show Kd.M k49 _ _ _ (⟨(-50), 50⟩ : S49) [.int .i64 (-50), .int .i64 50] from (k49_mkM _ _ _ (⟨(-50), 50⟩ : S49) )) (Reps.c2 (show Kd.M k49 _ _ _ (⟨(-60), 60⟩ : S49) [.int .i64 (-60), .int .i64 60] from (k49_mkM _ _ _ (⟨(-60), 60⟩ : S49) )) (Reps.none _ _)))); intro v11002 w134 ho135 hb hg_ hnew_; clear hg_ hnew_; (first | rw [← Ny11001.out] at ho135 | (simp only [Int.reduceToNat] at ho135; rw [← Ny11001.out] at ho135)); have n0_ := Aside0.mk (Kd.R_lower ho135 bz_); have n1_ := Aside0.mk (bs_ hb); clear HB; have HO11003 := n0_; have HB := n1_; clear n0_ n1_ hb ho135; obtain ⟨Ao136, co136, eo136⟩ := Kd.R_slice HO11003.out; subst eo136) | ((with_reducible refine gate_dst (N := 1) rfl ?_); refine box_event ?hg (N := 1) ?hd (cs := #[.int .i64 0, .slice none 0 0]) (t := 24) ?hr ?_; (case hd => rfl); (case hg => rfl); (case hr => first | (go_simp; done) | (go_simp; rfl)); intro gb11004 hg w137 hbox hb; have n0_ := Aside0.mk (Kd.R_below (fR_ HO11003.out) hb); have n1_ := Aside0.mk (bs_ hb); have n2_ := Aside0.mk (hbox); have n3_ := Aside0.mk ((by rw [hg]; exact bz_ : w.heap.size ≤ gb11004)); have n4_ := Aside0.mk ((by rw [hg]; exact bz_ : w.heap.size ≤ gb11004)); clear HO11003 HB; have HO11003 := n0_; have HB := n1_; have BK11004 := n2_; have GW11004 := n3_; have GE11004 := n4_; clear n0_ n1_ n2_ n3_ n4_ hb hbox hg; have hcz138_0 : w137.cell? ⟨gb11004, 0, none⟩ = some (.int .i64 0) := (blk_cell BK11004.out 0).trans rfl; have hcz138_1 : w137.cell? ⟨gb11004, 1, none⟩ = some (.slice none 0 0) := (blk_cell BK11004.out 1).trans rfl; have hfz138_0 := blk_frozen BK11004.out 0; have hfz138_1 := blk_frozen BK11004.out 1))
    have n0_ : Aside0 (Kd.R k49 49 ((w137.setCell ⟨gb11004, 0, none⟩ (.int .i64 0)).setCell ⟨gb11004, 1, none⟩ (.slice Ao136 y11001.length co136)) w.heap.size (fun _ => True) (.slice Ao136 y11001.length co136) y11001) := ⟨by (with_reducible repeat (first | apply Kd.R_alloc | apply Kd.R_drewN | apply Kd.R_drew)); exact Kd.R_mono (Kd.R_far (p := ⟨gb11004, 1, none⟩) (Kd.R_far (p := ⟨gb11004, 0, none⟩) (Kd.R_types HO11003.out BK11004.out (by decide)) (fun _ hk => hk.2) (.int .i64 0)) (fun _ hk => hk.2) (.slice Ao136 y11001.length co136)) (fun _ hk => trivial)⟩
    have n1_ : Aside0 (((w137.setCell ⟨gb11004, 0, none⟩ (.int .i64 0)).setCell ⟨gb11004, 1, none⟩ (.slice Ao136 y11001.length co136)).heap[gb11004]? = some (.cells #[.int .i64 0, .slice Ao136 y11001.length co136] 24 (0, 0))) := ⟨by (with_reducible repeat (first | refine blk_drewN ?_ _ | refine blk_drew ?_ | refine blk_alloc ?_ _)); refine blk_put (cs := #[.int .i64 0, .slice none 0 0]) ?_ 1 _ rfl; (with_reducible repeat (first | refine blk_drewN ?_ _ | refine blk_drew ?_ | refine blk_alloc ?_ _)); refine blk_put (cs := #[.int .i64 0, .slice none 0 0]) ?_ 0 _ rfl; (with_reducible repeat (first | refine blk_drewN ?_ _ | refine blk_drew ?_ | refine blk_alloc ?_ _)); exact BK11004.out⟩
    have n2_ : Aside0 (Below w.heap.size w ((w137.setCell ⟨gb11004, 0, none⟩ (.int .i64 0)).setCell ⟨gb11004, 1, none⟩ (.slice Ao136 y11001.length co136))) := ⟨be_⟩
    (try clear HO11003)
    (try clear BK11004)
    (try clear HB)
    generalize ((w137.setCell ⟨gb11004, 0, none⟩ (.int .i64 0)).setCell ⟨gb11004, 1, none⟩ (.slice Ao136 y11001.length co136)) = w139 at n0_ n1_ n2_ ⊢
    have HO11003 := n0_
    have BK11004 := n1_
    have HB := n2_
    clear n0_ n1_ n2_
    have n0_ := Aside0.mk (Kd.R_drew HO11003.out)
    have n1_ := Aside0.mk (blk_drew BK11004.out)
    have n2_ := Aside0.mk (below_drew1 HB.out)
    clear HO11003 BK11004 HB
    have HO11003 := n0_
    have BK11004 := n1_
    have HB := n2_
    clear n0_ n1_ n2_
    refine start_ (n := 6) (S := fun w' => w'.cell? ⟨gb11004, 0, none⟩ = some (.int .i64 0) ∧ w'.cell? ⟨gb11004, 1, none⟩ = some (.slice Ao136 y11001.length co136)) (ds := []) #[false, false, false, false, false, false] (by kernel_rfl) rfl rfl ⟨(blk_cell BK11004.out 0).trans rfl, (blk_cell BK11004.out 1).trans rfl⟩ (fun hHeld => ?_)
    generalize w139.drew = w140 at HO11003 BK11004 HB hHeld ⊢
    refine take_ (i := 0) (N := some 8) (v := ?_) (a' := ?_) #[true, false, false, false, false, false] rfl rfl (by kernel_rfl) (fun _ _ _ h => h) (Or.inl ⟨by rfl, ?_⟩) hHeld ?_ ?_
    rotate_left
    ·rintro w' ⟨s0, s1⟩
     go_simp
     with_reducible rfl
    rotate_left
    ·simp only [Act.put, List.setIfInBounds_toArray, List.set_cons_zero, List.set_cons_succ, i64_w, i32_w]
     rfl
    refine pure_ (i := 1) (N := some 9) (v := ?_) (a' := ?_) #[true, true, false, false, false, false] rfl rfl (by kernel_rfl) (fun _ _ _ h => h) (Or.inl ⟨by rfl, ?_⟩) ?_ ?_
    rotate_left
    ·intro w'
     go_simp
     with_reducible rfl
    rotate_left
    ·simp only [Act.put, List.setIfInBounds_toArray, List.set_cons_zero, List.set_cons_succ, i64_w, i32_w]
     rfl
    refine one_ (i := 2) (N := some 10) #[true, true, true, false, false, false] rfl rfl (by kernel_rfl) (by decide) (fun K hK => ?_)
    refine goes_ Try.func35 (by kernel_rfl) rfl #[.int .i64 (-50), .int .i64 50] (by rfl) rfl rfl la_ ?_
    with_reducible refine (sawmilllaw14_one.calls (-50) 50 t11005 t11006 _ A1.out).mono ?_
    rintro e w141 ⟨v11007, rfl, ho0, hb⟩
    refine ⟨_, rfl, ?_⟩
    have n0_ := Aside0.mk (Kd.R_elder' (fR_ HO11003.out) (Kd.R_base ho0) hb)
    have n1_ := Aside0.mk (Kd.R_lower (Kd.R_new' ho0 (Kd.R_lt (fR_ HO11003.out))) bz_)
    have n2_ := Aside0.mk (blk_below (g := gb11004) (o := .cells #[.int .i64 0, .slice Ao136 y11001.length co136] 24 (0, 0)) (fb_ BK11004.out) hb)
    have n3_ := Aside0.mk (bs_ hb)
    clear HO11003 BK11004 HB
    have HO11003 := n0_
    have HO11008 := n1_
    have BK11004 := n2_
    have HB := n3_
    clear n0_ n1_ n2_ n3_
    (try clear hb)
    (try clear hb2)
    (try clear hk)
    (try clear hi)
    (try clear ho0)
    obtain ⟨Ao142, co142, eo142⟩ := Kd.R_slice HO11008.out
    (first | subst eo142 | (injection eo142 with f1_ f2_ f3_; have f4_ := f1_.symm; have f5_ := f3_.symm; clear f1_ f2_ f3_; subst f4_; subst f5_))
    refine hK.out _ _ ⟨(blk_cell BK11004.out 0).trans rfl, (blk_cell BK11004.out 1).trans rfl⟩ (fun hHeld => ?_)
    clear hK K
    refine norm_ (a' := ?_) ?_ ?_
    rotate_left
    ·show Act.put _ (some 10) _ = _
     simp only [Act.put, List.setIfInBounds_toArray, List.set_cons_zero, List.set_cons_succ, i64_w, i32_w]
     rfl
    refine pure_ (i := 3) (N := some 11) (v := ?_) (a' := ?_) #[true, true, true, true, false, false] rfl rfl (by kernel_rfl) (fun _ _ _ h => h) (Or.inl ⟨by rfl, ?_⟩) ?_ ?_
    rotate_left
    ·intro w'
     go_simp
     with_reducible rfl
    rotate_left
    ·simp only [Act.put, List.setIfInBounds_toArray, List.set_cons_zero, List.set_cons_succ, i64_w, i32_w]
     rfl
    refine one_ (i := 4) (N := some 12) #[true, true, true, true, true, false] rfl rfl (by kernel_rfl) (by decide) (fun K hK => ?_)
    refine Kd.N_lit_step k36 _ 36 ?hg (N' := 12) ?hd (xs := ([(⟨2000, (⟨0, y11001⟩ : S24)⟩ : S36), (⟨1000, (⟨t11005, t11006⟩ : S24)⟩ : S36)] : List (S36))) (inner := [.int .i64 2000, .int .i64 0, .slice Ao136 y11001.length co136, .int .i64 1000, .int .i64 t11005, .slice Ao142 t11006.length co142]) (ok := (fun k_ => k_ ≠ gb11004)) (okp := (fun k_ => k_ ≠ gb11004)) ?hr ?hp (fun _ hk => hk) ((show ∀ k_, w141.heap.size ≤ k_ → (fun k_ => k_ ≠ gb11004) k_ from fun k_ hk => Kd.freshB (g := gb11004) (o := .cells #[.int .i64 0, .slice Ao136 y11001.length co136] 24 (0, 0)) (fb_ BK11004.out) k_ hk) _ (Nat.le_refl _)) (Below.refl _ _) (Nat.le_refl _) (by simp) ?_; (case hd => rfl); (case hg => rfl); (case hr => first | (go_simp; done) | (go_simp; rfl)); (case hp => exact (Reps.c3 (show Kd.FK k36 _ _ (⟨2000, (⟨0, y11001⟩ : S24)⟩ : S36) [.int .i64 2000, .int .i64 0, .slice Ao136 y11001.length co136] from (k36_mkF _ _ (⟨2000, (⟨0, y11001⟩ : S24)⟩ : S36) (Kd.R_reads' (Kd.R_mono (ok' := (fun k_ => k_ ≠ gb11004)) (Kd.R_types (HO11003.out) BK11004.out (by decide)) (fun k_ hk => hk.2))).2.1 (Kd.R_F (Kd.R_mono (ok' := (fun k_ => k_ ≠ gb11004)) (Kd.R_types (HO11003.out) BK11004.out (by decide)) (fun k_ hk => hk.2))))) (Reps.c3 (show Kd.FK k36 _ _ (⟨1000, (⟨t11005, t11006⟩ : S24)⟩ : S36) [.int .i64 1000, .int .i64 t11005, .slice Ao142 t11006.length co142] from (k36_mkF _ _ (⟨1000, (⟨t11005, t11006⟩ : S24)⟩ : S36) (Kd.R_reads' (Kd.R_mono (ok' := (fun k_ => k_ ≠ gb11004)) (Kd.R_types (HO11008.out) BK11004.out (by decide)) (fun k_ hk => hk.2))).2.1 (Kd.R_F (Kd.R_mono (ok' := (fun k_ => k_ ≠ gb11004)) (Kd.R_types (HO11008.out) BK11004.out (by decide)) (fun k_ hk => hk.2))))) (Reps.none _ _))))
    intro v11010 w143 ho144 hb hg_ hnew_
    clear hg_ hnew_
    (first | rw [← Ny11009.out] at ho144 | (simp only [Int.reduceToNat] at ho144; rw [← Ny11009.out] at ho144))
    have n0_ := Aside0.mk (Kd.N_lower ho144 bz_)
    have n1_ := Aside0.mk (blk_below (g := gb11004) (o := .cells #[.int .i64 0, .slice Ao136 y11001.length co136] 24 (0, 0)) (fb_ BK11004.out) hb)
    have n2_ := Aside0.mk (Kd.V_below (Kd.R_V (base' := w.heap.size) (fR_ HO11003.out)) hb)
    have n3_ := Aside0.mk (Kd.V_below (Kd.R_V (base' := w.heap.size) (fR_ HO11008.out)) hb)
    have n4_ := Aside0.mk (bs_ hb)
    clear BK11004 HO11003 HO11008 HB
    have HO11011 := n0_
    have BK11004 := n1_
    have HO11003 := n2_
    have HO11008 := n3_
    have HB := n4_
    clear n0_ n1_ n2_ n3_ n4_ hb ho144
    refine hK.out _ _ ⟨(blk_cell BK11004.out 0).trans rfl, (blk_cell BK11004.out 1).trans rfl⟩ (fun hHeld => ?_)
    clear hK K
    refine norm_ (a' := ?_) ?_ ?_
    rotate_left
    ·show Act.put _ (some 12) _ = _
     simp only [Act.put, List.setIfInBounds_toArray, List.set_cons_zero, List.set_cons_succ, i64_w, i32_w]
     rfl
    refine pure_ (i := 5) (N := some 2) (v := ?_) (a' := ?_) #[true, true, true, true, true, true] rfl rfl (by kernel_rfl) (fun _ _ _ h => h) (Or.inl ⟨by rfl, ?_⟩) ?_ ?_
    rotate_left
    ·intro w'
     go_simp
     with_reducible rfl
    rotate_left
    ·simp only [Act.put, List.setIfInBounds_toArray, List.set_cons_zero, List.set_cons_succ, i64_w, i32_w]
     rfl
    refine done_ (by kernel_rfl) ?_
    try go_wp2_with (first | ((with_reducible refine gate_callee (f := 35) rfl ?_); refine goesL_ (some 13) rfl rfl Try.func35 (by kernel_rfl) rfl #[.int .i64 (-50), .int .i64 50] rfl la_ ?_; (with_reducible refine (sawmilllaw14_one.calls (-50) 50 t11012 t11013 _ A2.out).mono ?_); rintro e w145 ⟨v11014, rfl, ho0, hb⟩; refine ⟨_, rfl, ?_⟩; have n0_ := Aside0.mk (Kd.N_elder' (fN_ HO11011.out) (Kd.R_base ho0) hb); have n1_ := Aside0.mk (Kd.V_elder' (fV_ HO11003.out) (Kd.R_base ho0) hb); have n2_ := Aside0.mk (Kd.V_elder' (fV_ HO11008.out) (Kd.R_base ho0) hb); have n3_ := Aside0.mk (Kd.R_lower ho0 bz_); have n4_ := Aside0.mk (blk_below (g := gb11004) (o := .cells #[.int .i64 0, .slice Ao136 y11001.length co136] 24 (0, 0)) (fb_ BK11004.out) hb); have n5_ := Aside0.mk (bs_ hb); clear HO11011 HO11003 HO11008 BK11004 HB; have HO11011 := n0_; have HO11003 := n1_; have HO11008 := n2_; have HO11015 := n3_; have BK11004 := n4_; have HB := n5_; clear n0_ n1_ n2_ n3_ n4_ n5_; (try clear hb); (try clear hb2); (try clear hk); (try clear hi); (try clear ho0); obtain ⟨Ao146, co146, eo146⟩ := Kd.R_slice HO11015.out; subst eo146) | ((with_reducible refine gate_callee (f := 35) rfl ?_); refine goesL_ (some 15) rfl rfl Try.func35 (by kernel_rfl) rfl #[.int .i64 (-40), .int .i64 60] rfl la_ ?_; (with_reducible refine (sawmilllaw14_one.calls (-40) 60 t11016 t11017 _ A3.out).mono ?_); rintro e w147 ⟨v11018, rfl, ho0, hb⟩; refine ⟨_, rfl, ?_⟩; have n0_ := Aside0.mk (Kd.N_elder' (fN_ HO11011.out) (Kd.R_base ho0) hb); have n1_ := Aside0.mk (Kd.V_elder' (fV_ HO11003.out) (Kd.R_base ho0) hb); have n2_ := Aside0.mk (Kd.V_elder' (fV_ HO11008.out) (Kd.R_base ho0) hb); have n3_ := Aside0.mk (Kd.R_elder' (fR_ HO11015.out) (Kd.R_base ho0) hb); have n4_ := Aside0.mk (Kd.R_lower (Kd.R_new' ho0 (Kd.R_lt (fR_ HO11015.out))) bz_); have n5_ := Aside0.mk (blk_below (g := gb11004) (o := .cells #[.int .i64 0, .slice Ao136 y11001.length co136] 24 (0, 0)) (fb_ BK11004.out) hb); have n6_ := Aside0.mk (bs_ hb); clear HO11011 HO11003 HO11008 HO11015 BK11004 HB; have HO11011 := n0_; have HO11003 := n1_; have HO11008 := n2_; have HO11015 := n3_; have HO11019 := n4_; have BK11004 := n5_; have HB := n6_; clear n0_ n1_ n2_ n3_ n4_ n5_ n6_; (try clear hb); (try clear hb2); (try clear hk); (try clear hi); (try clear ho0); obtain ⟨Ao148, co148, eo148⟩ := Kd.R_slice HO11019.out; subst eo148) | ((with_reducible refine gate_callee (f := 35) rfl ?_); refine goesL_ (some 17) rfl rfl Try.func35 (by kernel_rfl) rfl #[.int .i64 (-50), .int .i64 50] rfl la_ ?_; (with_reducible refine (sawmilllaw14_one.calls (-50) 50 t11020 t11021 _ A4.out).mono ?_); rintro e w149 ⟨v11022, rfl, ho0, hb⟩; refine ⟨_, rfl, ?_⟩; have n0_ := Aside0.mk (Kd.N_elder' (fN_ HO11011.out) (Kd.R_base ho0) hb); have n1_ := Aside0.mk (Kd.V_elder' (fV_ HO11003.out) (Kd.R_base ho0) hb); have n2_ := Aside0.mk (Kd.V_elder' (fV_ HO11008.out) (Kd.R_base ho0) hb); have n3_ := Aside0.mk (Kd.R_elder' (fR_ HO11015.out) (Kd.R_base ho0) hb); have n4_ := Aside0.mk (Kd.R_elder' (fR_ HO11019.out) (Kd.R_base ho0) hb); have n5_ := Aside0.mk (Kd.R_lower (Kd.R_new' (Kd.R_new' ho0 (Kd.R_lt (fR_ HO11015.out))) (Kd.R_lt (fR_ HO11019.out))) bz_); have n6_ := Aside0.mk (blk_below (g := gb11004) (o := .cells #[.int .i64 0, .slice Ao136 y11001.length co136] 24 (0, 0)) (fb_ BK11004.out) hb); have n7_ := Aside0.mk (bs_ hb); clear HO11011 HO11003 HO11008 HO11015 HO11019 BK11004 HB; have HO11011 := n0_; have HO11003 := n1_; have HO11008 := n2_; have HO11015 := n3_; have HO11019 := n4_; have HO11023 := n5_; have BK11004 := n6_; have HB := n7_; clear n0_ n1_ n2_ n3_ n4_ n5_ n6_ n7_; (try clear hb); (try clear hb2); (try clear hk); (try clear hi); (try clear ho0); obtain ⟨Ao150, co150, eo150⟩ := Kd.R_slice HO11023.out; subst eo150) | ((with_reducible refine gate_dst (N := 19) rfl ?_); refine Kd.N_lit k36 _ 36 ?hg (N' := 19) ?hd (xs := ([(⟨1000, (⟨t11012, t11013⟩ : S24)⟩ : S36), (⟨1000, (⟨t11016, t11017⟩ : S24)⟩ : S36), (⟨1000, (⟨t11020, t11021⟩ : S24)⟩ : S36)] : List (S36))) (inner := [.int .i64 1000, .int .i64 t11012, .slice Ao146 t11013.length co146, .int .i64 1000, .int .i64 t11016, .slice Ao148 t11017.length co148, .int .i64 1000, .int .i64 t11020, .slice Ao150 t11021.length co150]) (ok := (fun k_ => some k_ ≠ (v11010 : Value).ownBlock ∧ k_ ≠ gb11004)) (okp := (fun k_ => some k_ ≠ (v11010 : Value).ownBlock ∧ k_ ≠ gb11004)) ?hr ?hp (fun _ hk => hk) ((show ∀ k_, w149.heap.size ≤ k_ → (fun k_ => some k_ ≠ (v11010 : Value).ownBlock ∧ k_ ≠ gb11004) k_ from fun k_ hk => ⟨Kd.fresh' (Kd.N_lt (fN_ HO11011.out)) k_ hk, Kd.freshB (g := gb11004) (o := .cells #[.int .i64 0, .slice Ao136 y11001.length co136] 24 (0, 0)) (fb_ BK11004.out) k_ hk⟩) _ (Nat.le_refl _)) (Below.refl _ _) (Nat.le_refl _) (by simp) ?_; (case hd => rfl); (case hg => rfl); (case hr => first | (go_simp; done) | (go_simp; rfl)); (case hp => exact (Reps.c3 (show Kd.FK k36 _ _ (⟨1000, (⟨t11012, t11013⟩ : S24)⟩ : S36) [.int .i64 1000, .int .i64 t11012, .slice Ao146 t11013.length co146] from (k36_mkF _ _ (⟨1000, (⟨t11012, t11013⟩ : S24)⟩ : S36) (Kd.R_reads' (Kd.R_mono (ok' := (fun k_ => some k_ ≠ (v11010 : Value).ownBlock ∧ k_ ≠ gb11004)) (Kd.R_types (Kd.R_apart' (HO11015.out) (Kd.N_typed HO11011.out) (by decide)) BK11004.out (by decide)) (fun k_ hk => ⟨hk.1.2, hk.2⟩))).2.1 (Kd.R_F (Kd.R_mono (ok' := (fun k_ => some k_ ≠ (v11010 : Value).ownBlock ∧ k_ ≠ gb11004)) (Kd.R_types (Kd.R_apart' (HO11015.out) (Kd.N_typed HO11011.out) (by decide)) BK11004.out (by decide)) (fun k_ hk => ⟨hk.1.2, hk.2⟩))))) (Reps.c3 (show Kd.FK k36 _ _ (⟨1000, (⟨t11016, t11017⟩ : S24)⟩ : S36) [.int .i64 1000, .int .i64 t11016, .slice Ao148 t11017.length co148] from (k36_mkF _ _ (⟨1000, (⟨t11016, t11017⟩ : S24)⟩ : S36) (Kd.R_reads' (Kd.R_mono (ok' := (fun k_ => some k_ ≠ (v11010 : Value).ownBlock ∧ k_ ≠ gb11004)) (Kd.R_types (Kd.R_apart' (HO11019.out) (Kd.N_typed HO11011.out) (by decide)) BK11004.out (by decide)) (fun k_ hk => ⟨hk.1.2, hk.2⟩))).2.1 (Kd.R_F (Kd.R_mono (ok' := (fun k_ => some k_ ≠ (v11010 : Value).ownBlock ∧ k_ ≠ gb11004)) (Kd.R_types (Kd.R_apart' (HO11019.out) (Kd.N_typed HO11011.out) (by decide)) BK11004.out (by decide)) (fun k_ hk => ⟨hk.1.2, hk.2⟩))))) (Reps.c3 (show Kd.FK k36 _ _ (⟨1000, (⟨t11020, t11021⟩ : S24)⟩ : S36) [.int .i64 1000, .int .i64 t11020, .slice Ao150 t11021.length co150] from (k36_mkF _ _ (⟨1000, (⟨t11020, t11021⟩ : S24)⟩ : S36) (Kd.R_reads' (Kd.R_mono (ok' := (fun k_ => some k_ ≠ (v11010 : Value).ownBlock ∧ k_ ≠ gb11004)) (Kd.R_types (Kd.R_apart' (HO11023.out) (Kd.N_typed HO11011.out) (by decide)) BK11004.out (by decide)) (fun k_ hk => ⟨hk.1.2, hk.2⟩))).2.1 (Kd.R_F (Kd.R_mono (ok' := (fun k_ => some k_ ≠ (v11010 : Value).ownBlock ∧ k_ ≠ gb11004)) (Kd.R_types (Kd.R_apart' (HO11023.out) (Kd.N_typed HO11011.out) (by decide)) BK11004.out (by decide)) (fun k_ hk => ⟨hk.1.2, hk.2⟩))))) (Reps.none _ _))))); intro v11025 w151 ho152 hb hg_ hnew_; clear hg_ hnew_; (first | rw [← Ny11024.out] at ho152 | (simp only [Int.reduceToNat] at ho152; rw [← Ny11024.out] at ho152)); have n0_ := Aside0.mk (Kd.N_elder' (fN_ HO11011.out) (Kd.N_base ho152) hb); have n1_ := Aside0.mk (Kd.V_elder' (fV_ HO11003.out) (Kd.N_base ho152) hb); have n2_ := Aside0.mk (Kd.V_elder' (fV_ HO11008.out) (Kd.N_base ho152) hb); have n3_ := Aside0.mk (Kd.N_lower ho152 bz_); have n4_ := Aside0.mk (blk_below (g := gb11004) (o := .cells #[.int .i64 0, .slice Ao136 y11001.length co136] 24 (0, 0)) (fb_ BK11004.out) hb); have n5_ := Aside0.mk (Kd.V_below (Kd.R_V (base' := w.heap.size) (fR_ HO11015.out)) hb); have n6_ := Aside0.mk (Kd.V_below (Kd.R_V (base' := w.heap.size) (fR_ HO11019.out)) hb); have n7_ := Aside0.mk (Kd.V_below (Kd.R_V (base' := w.heap.size) (fR_ HO11023.out)) hb); have n8_ := Aside0.mk (bs_ hb); clear HO11011 HO11003 HO11008 BK11004 HO11015 HO11019 HO11023 HB; have HO11011 := n0_; have HO11003 := n1_; have HO11008 := n2_; have HO11026 := n3_; have BK11004 := n4_; have HO11015 := n5_; have HO11019 := n6_; have HO11023 := n7_; have HB := n8_; clear n0_ n1_ n2_ n3_ n4_ n5_ n6_ n7_ n8_ hb ho152; have hcz153_0 : w151.cell? ⟨gb11004, 0, none⟩ = some (.int .i64 0) := (blk_cell BK11004.out 0).trans rfl; have hcz153_1 : w151.cell? ⟨gb11004, 1, none⟩ = some (.slice Ao136 y11001.length co136) := (blk_cell BK11004.out 1).trans rfl; have hfz153_0 := blk_frozen BK11004.out 0; have hfz153_1 := blk_frozen BK11004.out 1) | ((with_reducible refine gate_callee (f := 12) rfl ?_); refine goesL_ (some 21) rfl rfl Try.func12 (by kernel_rfl) rfl #[.agg #[.int .i64 0, .slice Ao136 y11001.length co136]] rfl la_ ?_; (with_reducible refine (shape_Diameter.calls k 0 _ _ y11001 t11027 _ ?side1 ?side2 A5.out).mono ?_); (case side1 => repeat (first | exact (Kd.V_reads' HO11003.out).2.2 | (with_reducible refine Kd.C_alloc ?_ _) | (with_reducible refine Kd.C_drewN ?_ _) | (with_reducible refine Kd.C_drew ?_))); (case side2 => exact (Kd.V_reads' HO11003.out).2.1); rintro e w154 ⟨rfl, hb⟩; refine ⟨_, rfl, ?_⟩; have n0_ := Aside0.mk (Kd.N_below (fN_ HO11011.out) hb); have n1_ := Aside0.mk (Kd.V_below (fV_ HO11003.out) hb); have n2_ := Aside0.mk (Kd.V_below (fV_ HO11008.out) hb); have n3_ := Aside0.mk (Kd.N_below (fN_ HO11026.out) hb); have n4_ := Aside0.mk (Kd.V_below (fV_ HO11015.out) hb); have n5_ := Aside0.mk (Kd.V_below (fV_ HO11019.out) hb); have n6_ := Aside0.mk (Kd.V_below (fV_ HO11023.out) hb); have n7_ := Aside0.mk (blk_below (g := gb11004) (o := .cells #[.int .i64 0, .slice Ao136 y11001.length co136] 24 (0, 0)) (fb_ BK11004.out) hb); have n8_ := Aside0.mk (bs_ hb); clear HO11011 HO11003 HO11008 HO11026 HO11015 HO11019 HO11023 BK11004 HB; have HO11011 := n0_; have HO11003 := n1_; have HO11008 := n2_; have HO11026 := n3_; have HO11015 := n4_; have HO11019 := n5_; have HO11023 := n6_; have BK11004 := n7_; have HB := n8_; clear n0_ n1_ n2_ n3_ n4_ n5_ n6_ n7_ n8_; (try clear hb); (try clear hb2); (try clear hk); (try clear hi); have hcz155_0 : w154.cell? ⟨gb11004, 0, none⟩ = some (.int .i64 0) := (blk_cell BK11004.out 0).trans rfl; have hcz155_1 : w154.cell? ⟨gb11004, 1, none⟩ = some (.slice Ao136 y11001.length co136) := (blk_cell BK11004.out 1).trans rfl; have hfz155_0 := blk_frozen BK11004.out 0; have hfz155_1 := blk_frozen BK11004.out 1) | (go_at_call 14; (with_reducible refine (shape_Center2.calls k 0 _ _ y11001 t11028 t11029 _ ?side1 ?side2 A7.out).mono ?_); (case side1 => repeat (first | exact (Kd.V_reads' HO11003.out).2.2 | (with_reducible refine Kd.C_alloc ?_ _) | (with_reducible refine Kd.C_drewN ?_ _) | (with_reducible refine Kd.C_drew ?_))); (case side2 => exact (Kd.V_reads' HO11003.out).2.1); rintro e w156 ⟨rfl, hb⟩; have n0_ := Aside0.mk (Kd.N_below (fN_ HO11011.out) hb); have n1_ := Aside0.mk (Kd.V_below (fV_ HO11003.out) hb); have n2_ := Aside0.mk (Kd.V_below (fV_ HO11008.out) hb); have n3_ := Aside0.mk (Kd.N_below (fN_ HO11026.out) hb); have n4_ := Aside0.mk (Kd.V_below (fV_ HO11015.out) hb); have n5_ := Aside0.mk (Kd.V_below (fV_ HO11019.out) hb); have n6_ := Aside0.mk (Kd.V_below (fV_ HO11023.out) hb); have n7_ := Aside0.mk (blk_below (g := gb11004) (o := .cells #[.int .i64 0, .slice Ao136 y11001.length co136] 24 (0, 0)) (fb_ BK11004.out) hb); have n8_ := Aside0.mk (bs_ hb); clear HO11011 HO11003 HO11008 HO11026 HO11015 HO11019 HO11023 BK11004 HB; have HO11011 := n0_; have HO11003 := n1_; have HO11008 := n2_; have HO11026 := n3_; have HO11015 := n4_; have HO11019 := n5_; have HO11023 := n6_; have BK11004 := n7_; have HB := n8_; clear n0_ n1_ n2_ n3_ n4_ n5_ n6_ n7_ n8_; (try clear hb); (try clear hb2); (try clear hk); (try clear hi); have hcz157_0 : w156.cell? ⟨gb11004, 0, none⟩ = some (.int .i64 0) := (blk_cell BK11004.out 0).trans rfl; have hcz157_1 : w156.cell? ⟨gb11004, 1, none⟩ = some (.slice Ao136 y11001.length co136) := (blk_cell BK11004.out 1).trans rfl; have hfz157_0 := blk_frozen BK11004.out 0; have hfz157_1 := blk_frozen BK11004.out 1) | (go_at_call 16; (with_reducible refine (shape_Oval.calls k 0 _ _ y11001 t11030 _ ?side1 ?side2 A9.out).mono ?_); (case side1 => repeat (first | exact (Kd.V_reads' HO11003.out).2.2 | (with_reducible refine Kd.C_alloc ?_ _) | (with_reducible refine Kd.C_drewN ?_ _) | (with_reducible refine Kd.C_drew ?_))); (case side2 => exact (Kd.V_reads' HO11003.out).2.1); rintro e w158 ⟨rfl, hb⟩; have n0_ := Aside0.mk (Kd.N_below (fN_ HO11011.out) hb); have n1_ := Aside0.mk (Kd.V_below (fV_ HO11003.out) hb); have n2_ := Aside0.mk (Kd.V_below (fV_ HO11008.out) hb); have n3_ := Aside0.mk (Kd.N_below (fN_ HO11026.out) hb); have n4_ := Aside0.mk (Kd.V_below (fV_ HO11015.out) hb); have n5_ := Aside0.mk (Kd.V_below (fV_ HO11019.out) hb); have n6_ := Aside0.mk (Kd.V_below (fV_ HO11023.out) hb); have n7_ := Aside0.mk (blk_below (g := gb11004) (o := .cells #[.int .i64 0, .slice Ao136 y11001.length co136] 24 (0, 0)) (fb_ BK11004.out) hb); have n8_ := Aside0.mk (bs_ hb); clear HO11011 HO11003 HO11008 HO11026 HO11015 HO11019 HO11023 BK11004 HB; have HO11011 := n0_; have HO11003 := n1_; have HO11008 := n2_; have HO11026 := n3_; have HO11015 := n4_; have HO11019 := n5_; have HO11023 := n6_; have BK11004 := n7_; have HB := n8_; clear n0_ n1_ n2_ n3_ n4_ n5_ n6_ n7_ n8_; (try clear hb); (try clear hb2); (try clear hk); (try clear hi)))
    go_ret
    exact ⟨er_, be_⟩
  ·rw [if_neg c8] at H
   have c8b0 : (t11028 == 0 && (t11029 == 20)) = false := by simpa using c8
   (try (have c8b1 : decide (t11028 = 0 && (t11029 == 20)) = false := by simpa using c8))
   (try (have c8b2 : (t11028 == 0 && (t11029 == 20)) = false := by simpa using c8))
   (try (have c8b3 : ¬ (t11028 = 0 && (t11029 == 20)) := by simpa using c8))
   clear c8
   obtain rfl := Option.some.inj H
   go_enter Try.func11, Try.ntmps11
   try go_wp2_with (first | ((with_reducible refine gate_dst (N := 6) rfl ?_); refine Kd.R_lit k49 _ 49 ?hg (N := 6) ?hd (xs := ([(⟨(-50), 50⟩ : S49), (⟨(-60), 60⟩ : S49)] : List (S49))) (inner := [.int .i64 (-50), .int .i64 50, .int .i64 (-60), .int .i64 60]) (ok := fun _ => True) (okp := fun _ => True) ?hr ?hp (fun _ hk => hk) trivial (Below.refl _ _) (Nat.le_refl _) (by simp) ?_; (case hd => rfl); (case hg => rfl); (case hr => first | (go_simp; done) | (go_simp; rfl)); (case hp => exact (Reps.c2 (show Kd.M k49 _ _ _ (⟨(-50), 50⟩ : S49) [.int .i64 (-50), .int .i64 50] from (k49_mkM _ _ _ (⟨(-50), 50⟩ : S49) )) (Reps.c2 (show Kd.M k49 _ _ _ (⟨(-60), 60⟩ : S49) [.int .i64 (-60), .int .i64 60] from (k49_mkM _ _ _ (⟨(-60), 60⟩ : S49) )) (Reps.none _ _)))); intro v11002 w159 ho160 hb hg_ hnew_; clear hg_ hnew_; (first | rw [← Ny11001.out] at ho160 | (simp only [Int.reduceToNat] at ho160; rw [← Ny11001.out] at ho160)); have n0_ := Aside0.mk (Kd.R_lower ho160 bz_); have n1_ := Aside0.mk (bs_ hb); clear HB; have HO11003 := n0_; have HB := n1_; clear n0_ n1_ hb ho160; obtain ⟨Ao161, co161, eo161⟩ := Kd.R_slice HO11003.out; subst eo161) | ((with_reducible refine gate_dst (N := 1) rfl ?_); refine box_event ?hg (N := 1) ?hd (cs := #[.int .i64 0, .slice none 0 0]) (t := 24) ?hr ?_; (case hd => rfl); (case hg => rfl); (case hr => first | (go_simp; done) | (go_simp; rfl)); intro gb11004 hg w162 hbox hb; have n0_ := Aside0.mk (Kd.R_below (fR_ HO11003.out) hb); have n1_ := Aside0.mk (bs_ hb); have n2_ := Aside0.mk (hbox); have n3_ := Aside0.mk ((by rw [hg]; exact bz_ : w.heap.size ≤ gb11004)); have n4_ := Aside0.mk ((by rw [hg]; exact bz_ : w.heap.size ≤ gb11004)); clear HO11003 HB; have HO11003 := n0_; have HB := n1_; have BK11004 := n2_; have GW11004 := n3_; have GE11004 := n4_; clear n0_ n1_ n2_ n3_ n4_ hb hbox hg; have hcz163_0 : w162.cell? ⟨gb11004, 0, none⟩ = some (.int .i64 0) := (blk_cell BK11004.out 0).trans rfl; have hcz163_1 : w162.cell? ⟨gb11004, 1, none⟩ = some (.slice none 0 0) := (blk_cell BK11004.out 1).trans rfl; have hfz163_0 := blk_frozen BK11004.out 0; have hfz163_1 := blk_frozen BK11004.out 1))
   have n0_ : Aside0 (Kd.R k49 49 ((w162.setCell ⟨gb11004, 0, none⟩ (.int .i64 0)).setCell ⟨gb11004, 1, none⟩ (.slice Ao161 y11001.length co161)) w.heap.size (fun _ => True) (.slice Ao161 y11001.length co161) y11001) := ⟨by (with_reducible repeat (first | apply Kd.R_alloc | apply Kd.R_drewN | apply Kd.R_drew)); exact Kd.R_mono (Kd.R_far (p := ⟨gb11004, 1, none⟩) (Kd.R_far (p := ⟨gb11004, 0, none⟩) (Kd.R_types HO11003.out BK11004.out (by decide)) (fun _ hk => hk.2) (.int .i64 0)) (fun _ hk => hk.2) (.slice Ao161 y11001.length co161)) (fun _ hk => trivial)⟩
   have n1_ : Aside0 (((w162.setCell ⟨gb11004, 0, none⟩ (.int .i64 0)).setCell ⟨gb11004, 1, none⟩ (.slice Ao161 y11001.length co161)).heap[gb11004]? = some (.cells #[.int .i64 0, .slice Ao161 y11001.length co161] 24 (0, 0))) := ⟨by (with_reducible repeat (first | refine blk_drewN ?_ _ | refine blk_drew ?_ | refine blk_alloc ?_ _)); refine blk_put (cs := #[.int .i64 0, .slice none 0 0]) ?_ 1 _ rfl; (with_reducible repeat (first | refine blk_drewN ?_ _ | refine blk_drew ?_ | refine blk_alloc ?_ _)); refine blk_put (cs := #[.int .i64 0, .slice none 0 0]) ?_ 0 _ rfl; (with_reducible repeat (first | refine blk_drewN ?_ _ | refine blk_drew ?_ | refine blk_alloc ?_ _)); exact BK11004.out⟩
   have n2_ : Aside0 (Below w.heap.size w ((w162.setCell ⟨gb11004, 0, none⟩ (.int .i64 0)).setCell ⟨gb11004, 1, none⟩ (.slice Ao161 y11001.length co161))) := ⟨be_⟩
   (try clear HO11003)
   (try clear BK11004)
   (try clear HB)
   generalize ((w162.setCell ⟨gb11004, 0, none⟩ (.int .i64 0)).setCell ⟨gb11004, 1, none⟩ (.slice Ao161 y11001.length co161)) = w164 at n0_ n1_ n2_ ⊢
   have HO11003 := n0_
   have BK11004 := n1_
   have HB := n2_
   clear n0_ n1_ n2_
   have n0_ := Aside0.mk (Kd.R_drew HO11003.out)
   have n1_ := Aside0.mk (blk_drew BK11004.out)
   have n2_ := Aside0.mk (below_drew1 HB.out)
   clear HO11003 BK11004 HB
   have HO11003 := n0_
   have BK11004 := n1_
   have HB := n2_
   clear n0_ n1_ n2_
   refine start_ (n := 6) (S := fun w' => w'.cell? ⟨gb11004, 0, none⟩ = some (.int .i64 0) ∧ w'.cell? ⟨gb11004, 1, none⟩ = some (.slice Ao161 y11001.length co161)) (ds := []) #[false, false, false, false, false, false] (by kernel_rfl) rfl rfl ⟨(blk_cell BK11004.out 0).trans rfl, (blk_cell BK11004.out 1).trans rfl⟩ (fun hHeld => ?_)
   generalize w164.drew = w165 at HO11003 BK11004 HB hHeld ⊢
   refine take_ (i := 0) (N := some 8) (v := ?_) (a' := ?_) #[true, false, false, false, false, false] rfl rfl (by kernel_rfl) (fun _ _ _ h => h) (Or.inl ⟨by rfl, ?_⟩) hHeld ?_ ?_
   rotate_left
   ·rintro w' ⟨s0, s1⟩
    go_simp
    with_reducible rfl
   rotate_left
   ·simp only [Act.put, List.setIfInBounds_toArray, List.set_cons_zero, List.set_cons_succ, i64_w, i32_w]
    rfl
   refine pure_ (i := 1) (N := some 9) (v := ?_) (a' := ?_) #[true, true, false, false, false, false] rfl rfl (by kernel_rfl) (fun _ _ _ h => h) (Or.inl ⟨by rfl, ?_⟩) ?_ ?_
   rotate_left
   ·intro w'
    go_simp
    with_reducible rfl
   rotate_left
   ·simp only [Act.put, List.setIfInBounds_toArray, List.set_cons_zero, List.set_cons_succ, i64_w, i32_w]
    rfl
   refine one_ (i := 2) (N := some 10) #[true, true, true, false, false, false] rfl rfl (by kernel_rfl) (by decide) (fun K hK => ?_)
   refine goes_ Try.func35 (by kernel_rfl) rfl #[.int .i64 (-50), .int .i64 50] (by rfl) rfl rfl la_ ?_
   with_reducible refine (sawmilllaw14_one.calls (-50) 50 t11005 t11006 _ A1.out).mono ?_
   rintro e w166 ⟨v11007, rfl, ho0, hb⟩
   refine ⟨_, rfl, ?_⟩
   have n0_ := Aside0.mk (Kd.R_elder' (fR_ HO11003.out) (Kd.R_base ho0) hb)
   have n1_ := Aside0.mk (Kd.R_lower (Kd.R_new' ho0 (Kd.R_lt (fR_ HO11003.out))) bz_)
   have n2_ := Aside0.mk (blk_below (g := gb11004) (o := .cells #[.int .i64 0, .slice Ao161 y11001.length co161] 24 (0, 0)) (fb_ BK11004.out) hb)
   have n3_ := Aside0.mk (bs_ hb)
   clear HO11003 BK11004 HB
   have HO11003 := n0_
   have HO11008 := n1_
   have BK11004 := n2_
   have HB := n3_
   clear n0_ n1_ n2_ n3_
   (try clear hb)
   (try clear hb2)
   (try clear hk)
   (try clear hi)
   (try clear ho0)
   obtain ⟨Ao167, co167, eo167⟩ := Kd.R_slice HO11008.out
   (first | subst eo167 | (injection eo167 with f1_ f2_ f3_; have f4_ := f1_.symm; have f5_ := f3_.symm; clear f1_ f2_ f3_; subst f4_; subst f5_))
   refine hK.out _ _ ⟨(blk_cell BK11004.out 0).trans rfl, (blk_cell BK11004.out 1).trans rfl⟩ (fun hHeld => ?_)
   clear hK K
   refine norm_ (a' := ?_) ?_ ?_
   rotate_left
   ·show Act.put _ (some 10) _ = _
    simp only [Act.put, List.setIfInBounds_toArray, List.set_cons_zero, List.set_cons_succ, i64_w, i32_w]
    rfl
   refine pure_ (i := 3) (N := some 11) (v := ?_) (a' := ?_) #[true, true, true, true, false, false] rfl rfl (by kernel_rfl) (fun _ _ _ h => h) (Or.inl ⟨by rfl, ?_⟩) ?_ ?_
   rotate_left
   ·intro w'
    go_simp
    with_reducible rfl
   rotate_left
   ·simp only [Act.put, List.setIfInBounds_toArray, List.set_cons_zero, List.set_cons_succ, i64_w, i32_w]
    rfl
   refine one_ (i := 4) (N := some 12) #[true, true, true, true, true, false] rfl rfl (by kernel_rfl) (by decide) (fun K hK => ?_)
   refine Kd.N_lit_step k36 _ 36 ?hg (N' := 12) ?hd (xs := ([(⟨2000, (⟨0, y11001⟩ : S24)⟩ : S36), (⟨1000, (⟨t11005, t11006⟩ : S24)⟩ : S36)] : List (S36))) (inner := [.int .i64 2000, .int .i64 0, .slice Ao161 y11001.length co161, .int .i64 1000, .int .i64 t11005, .slice Ao167 t11006.length co167]) (ok := (fun k_ => k_ ≠ gb11004)) (okp := (fun k_ => k_ ≠ gb11004)) ?hr ?hp (fun _ hk => hk) ((show ∀ k_, w166.heap.size ≤ k_ → (fun k_ => k_ ≠ gb11004) k_ from fun k_ hk => Kd.freshB (g := gb11004) (o := .cells #[.int .i64 0, .slice Ao161 y11001.length co161] 24 (0, 0)) (fb_ BK11004.out) k_ hk) _ (Nat.le_refl _)) (Below.refl _ _) (Nat.le_refl _) (by simp) ?_; (case hd => rfl); (case hg => rfl); (case hr => first | (go_simp; done) | (go_simp; rfl)); (case hp => exact (Reps.c3 (show Kd.FK k36 _ _ (⟨2000, (⟨0, y11001⟩ : S24)⟩ : S36) [.int .i64 2000, .int .i64 0, .slice Ao161 y11001.length co161] from (k36_mkF _ _ (⟨2000, (⟨0, y11001⟩ : S24)⟩ : S36) (Kd.R_reads' (Kd.R_mono (ok' := (fun k_ => k_ ≠ gb11004)) (Kd.R_types (HO11003.out) BK11004.out (by decide)) (fun k_ hk => hk.2))).2.1 (Kd.R_F (Kd.R_mono (ok' := (fun k_ => k_ ≠ gb11004)) (Kd.R_types (HO11003.out) BK11004.out (by decide)) (fun k_ hk => hk.2))))) (Reps.c3 (show Kd.FK k36 _ _ (⟨1000, (⟨t11005, t11006⟩ : S24)⟩ : S36) [.int .i64 1000, .int .i64 t11005, .slice Ao167 t11006.length co167] from (k36_mkF _ _ (⟨1000, (⟨t11005, t11006⟩ : S24)⟩ : S36) (Kd.R_reads' (Kd.R_mono (ok' := (fun k_ => k_ ≠ gb11004)) (Kd.R_types (HO11008.out) BK11004.out (by decide)) (fun k_ hk => hk.2))).2.1 (Kd.R_F (Kd.R_mono (ok' := (fun k_ => k_ ≠ gb11004)) (Kd.R_types (HO11008.out) BK11004.out (by decide)) (fun k_ hk => hk.2))))) (Reps.none _ _))))
   intro v11010 w168 ho169 hb hg_ hnew_
   clear hg_ hnew_
   (first | rw [← Ny11009.out] at ho169 | (simp only [Int.reduceToNat] at ho169; rw [← Ny11009.out] at ho169))
   have n0_ := Aside0.mk (Kd.N_lower ho169 bz_)
   have n1_ := Aside0.mk (blk_below (g := gb11004) (o := .cells #[.int .i64 0, .slice Ao161 y11001.length co161] 24 (0, 0)) (fb_ BK11004.out) hb)
   have n2_ := Aside0.mk (Kd.V_below (Kd.R_V (base' := w.heap.size) (fR_ HO11003.out)) hb)
   have n3_ := Aside0.mk (Kd.V_below (Kd.R_V (base' := w.heap.size) (fR_ HO11008.out)) hb)
   have n4_ := Aside0.mk (bs_ hb)
   clear BK11004 HO11003 HO11008 HB
   have HO11011 := n0_
   have BK11004 := n1_
   have HO11003 := n2_
   have HO11008 := n3_
   have HB := n4_
   clear n0_ n1_ n2_ n3_ n4_ hb ho169
   refine hK.out _ _ ⟨(blk_cell BK11004.out 0).trans rfl, (blk_cell BK11004.out 1).trans rfl⟩ (fun hHeld => ?_)
   clear hK K
   refine norm_ (a' := ?_) ?_ ?_
   rotate_left
   ·show Act.put _ (some 12) _ = _
    simp only [Act.put, List.setIfInBounds_toArray, List.set_cons_zero, List.set_cons_succ, i64_w, i32_w]
    rfl
   refine pure_ (i := 5) (N := some 2) (v := ?_) (a' := ?_) #[true, true, true, true, true, true] rfl rfl (by kernel_rfl) (fun _ _ _ h => h) (Or.inl ⟨by rfl, ?_⟩) ?_ ?_
   rotate_left
   ·intro w'
    go_simp
    with_reducible rfl
   rotate_left
   ·simp only [Act.put, List.setIfInBounds_toArray, List.set_cons_zero, List.set_cons_succ, i64_w, i32_w]
    rfl
   refine done_ (by kernel_rfl) ?_
   try go_wp2_with (first | ((with_reducible refine gate_callee (f := 35) rfl ?_); refine goesL_ (some 13) rfl rfl Try.func35 (by kernel_rfl) rfl #[.int .i64 (-50), .int .i64 50] rfl la_ ?_; (with_reducible refine (sawmilllaw14_one.calls (-50) 50 t11012 t11013 _ A2.out).mono ?_); rintro e w170 ⟨v11014, rfl, ho0, hb⟩; refine ⟨_, rfl, ?_⟩; have n0_ := Aside0.mk (Kd.N_elder' (fN_ HO11011.out) (Kd.R_base ho0) hb); have n1_ := Aside0.mk (Kd.V_elder' (fV_ HO11003.out) (Kd.R_base ho0) hb); have n2_ := Aside0.mk (Kd.V_elder' (fV_ HO11008.out) (Kd.R_base ho0) hb); have n3_ := Aside0.mk (Kd.R_lower ho0 bz_); have n4_ := Aside0.mk (blk_below (g := gb11004) (o := .cells #[.int .i64 0, .slice Ao161 y11001.length co161] 24 (0, 0)) (fb_ BK11004.out) hb); have n5_ := Aside0.mk (bs_ hb); clear HO11011 HO11003 HO11008 BK11004 HB; have HO11011 := n0_; have HO11003 := n1_; have HO11008 := n2_; have HO11015 := n3_; have BK11004 := n4_; have HB := n5_; clear n0_ n1_ n2_ n3_ n4_ n5_; (try clear hb); (try clear hb2); (try clear hk); (try clear hi); (try clear ho0); obtain ⟨Ao171, co171, eo171⟩ := Kd.R_slice HO11015.out; subst eo171) | ((with_reducible refine gate_callee (f := 35) rfl ?_); refine goesL_ (some 15) rfl rfl Try.func35 (by kernel_rfl) rfl #[.int .i64 (-40), .int .i64 60] rfl la_ ?_; (with_reducible refine (sawmilllaw14_one.calls (-40) 60 t11016 t11017 _ A3.out).mono ?_); rintro e w172 ⟨v11018, rfl, ho0, hb⟩; refine ⟨_, rfl, ?_⟩; have n0_ := Aside0.mk (Kd.N_elder' (fN_ HO11011.out) (Kd.R_base ho0) hb); have n1_ := Aside0.mk (Kd.V_elder' (fV_ HO11003.out) (Kd.R_base ho0) hb); have n2_ := Aside0.mk (Kd.V_elder' (fV_ HO11008.out) (Kd.R_base ho0) hb); have n3_ := Aside0.mk (Kd.R_elder' (fR_ HO11015.out) (Kd.R_base ho0) hb); have n4_ := Aside0.mk (Kd.R_lower (Kd.R_new' ho0 (Kd.R_lt (fR_ HO11015.out))) bz_); have n5_ := Aside0.mk (blk_below (g := gb11004) (o := .cells #[.int .i64 0, .slice Ao161 y11001.length co161] 24 (0, 0)) (fb_ BK11004.out) hb); have n6_ := Aside0.mk (bs_ hb); clear HO11011 HO11003 HO11008 HO11015 BK11004 HB; have HO11011 := n0_; have HO11003 := n1_; have HO11008 := n2_; have HO11015 := n3_; have HO11019 := n4_; have BK11004 := n5_; have HB := n6_; clear n0_ n1_ n2_ n3_ n4_ n5_ n6_; (try clear hb); (try clear hb2); (try clear hk); (try clear hi); (try clear ho0); obtain ⟨Ao173, co173, eo173⟩ := Kd.R_slice HO11019.out; subst eo173) | ((with_reducible refine gate_callee (f := 35) rfl ?_); refine goesL_ (some 17) rfl rfl Try.func35 (by kernel_rfl) rfl #[.int .i64 (-50), .int .i64 50] rfl la_ ?_; (with_reducible refine (sawmilllaw14_one.calls (-50) 50 t11020 t11021 _ A4.out).mono ?_); rintro e w174 ⟨v11022, rfl, ho0, hb⟩; refine ⟨_, rfl, ?_⟩; have n0_ := Aside0.mk (Kd.N_elder' (fN_ HO11011.out) (Kd.R_base ho0) hb); have n1_ := Aside0.mk (Kd.V_elder' (fV_ HO11003.out) (Kd.R_base ho0) hb); have n2_ := Aside0.mk (Kd.V_elder' (fV_ HO11008.out) (Kd.R_base ho0) hb); have n3_ := Aside0.mk (Kd.R_elder' (fR_ HO11015.out) (Kd.R_base ho0) hb); have n4_ := Aside0.mk (Kd.R_elder' (fR_ HO11019.out) (Kd.R_base ho0) hb); have n5_ := Aside0.mk (Kd.R_lower (Kd.R_new' (Kd.R_new' ho0 (Kd.R_lt (fR_ HO11015.out))) (Kd.R_lt (fR_ HO11019.out))) bz_); have n6_ := Aside0.mk (blk_below (g := gb11004) (o := .cells #[.int .i64 0, .slice Ao161 y11001.length co161] 24 (0, 0)) (fb_ BK11004.out) hb); have n7_ := Aside0.mk (bs_ hb); clear HO11011 HO11003 HO11008 HO11015 HO11019 BK11004 HB; have HO11011 := n0_; have HO11003 := n1_; have HO11008 := n2_; have HO11015 := n3_; have HO11019 := n4_; have HO11023 := n5_; have BK11004 := n6_; have HB := n7_; clear n0_ n1_ n2_ n3_ n4_ n5_ n6_ n7_; (try clear hb); (try clear hb2); (try clear hk); (try clear hi); (try clear ho0); obtain ⟨Ao175, co175, eo175⟩ := Kd.R_slice HO11023.out; subst eo175) | ((with_reducible refine gate_dst (N := 19) rfl ?_); refine Kd.N_lit k36 _ 36 ?hg (N' := 19) ?hd (xs := ([(⟨1000, (⟨t11012, t11013⟩ : S24)⟩ : S36), (⟨1000, (⟨t11016, t11017⟩ : S24)⟩ : S36), (⟨1000, (⟨t11020, t11021⟩ : S24)⟩ : S36)] : List (S36))) (inner := [.int .i64 1000, .int .i64 t11012, .slice Ao171 t11013.length co171, .int .i64 1000, .int .i64 t11016, .slice Ao173 t11017.length co173, .int .i64 1000, .int .i64 t11020, .slice Ao175 t11021.length co175]) (ok := (fun k_ => some k_ ≠ (v11010 : Value).ownBlock ∧ k_ ≠ gb11004)) (okp := (fun k_ => some k_ ≠ (v11010 : Value).ownBlock ∧ k_ ≠ gb11004)) ?hr ?hp (fun _ hk => hk) ((show ∀ k_, w174.heap.size ≤ k_ → (fun k_ => some k_ ≠ (v11010 : Value).ownBlock ∧ k_ ≠ gb11004) k_ from fun k_ hk => ⟨Kd.fresh' (Kd.N_lt (fN_ HO11011.out)) k_ hk, Kd.freshB (g := gb11004) (o := .cells #[.int .i64 0, .slice Ao161 y11001.length co161] 24 (0, 0)) (fb_ BK11004.out) k_ hk⟩) _ (Nat.le_refl _)) (Below.refl _ _) (Nat.le_refl _) (by simp) ?_; (case hd => rfl); (case hg => rfl); (case hr => first | (go_simp; done) | (go_simp; rfl)); (case hp => exact (Reps.c3 (show Kd.FK k36 _ _ (⟨1000, (⟨t11012, t11013⟩ : S24)⟩ : S36) [.int .i64 1000, .int .i64 t11012, .slice Ao171 t11013.length co171] from (k36_mkF _ _ (⟨1000, (⟨t11012, t11013⟩ : S24)⟩ : S36) (Kd.R_reads' (Kd.R_mono (ok' := (fun k_ => some k_ ≠ (v11010 : Value).ownBlock ∧ k_ ≠ gb11004)) (Kd.R_types (Kd.R_apart' (HO11015.out) (Kd.N_typed HO11011.out) (by decide)) BK11004.out (by decide)) (fun k_ hk => ⟨hk.1.2, hk.2⟩))).2.1 (Kd.R_F (Kd.R_mono (ok' := (fun k_ => some k_ ≠ (v11010 : Value).ownBlock ∧ k_ ≠ gb11004)) (Kd.R_types (Kd.R_apart' (HO11015.out) (Kd.N_typed HO11011.out) (by decide)) BK11004.out (by decide)) (fun k_ hk => ⟨hk.1.2, hk.2⟩))))) (Reps.c3 (show Kd.FK k36 _ _ (⟨1000, (⟨t11016, t11017⟩ : S24)⟩ : S36) [.int .i64 1000, .int .i64 t11016, .slice Ao173 t11017.length co173] from (k36_mkF _ _ (⟨1000, (⟨t11016, t11017⟩ : S24)⟩ : S36) (Kd.R_reads' (Kd.R_mono (ok' := (fun k_ => some k_ ≠ (v11010 : Value).ownBlock ∧ k_ ≠ gb11004)) (Kd.R_types (Kd.R_apart' (HO11019.out) (Kd.N_typed HO11011.out) (by decide)) BK11004.out (by decide)) (fun k_ hk => ⟨hk.1.2, hk.2⟩))).2.1 (Kd.R_F (Kd.R_mono (ok' := (fun k_ => some k_ ≠ (v11010 : Value).ownBlock ∧ k_ ≠ gb11004)) (Kd.R_types (Kd.R_apart' (HO11019.out) (Kd.N_typed HO11011.out) (by decide)) BK11004.out (by decide)) (fun k_ hk => ⟨hk.1.2, hk.2⟩))))) (Reps.c3 (show Kd.FK k36 _ _ (⟨1000, (⟨t11020, t11021⟩ : S24)⟩ : S36) [.int .i64 1000, .int .i64 t11020, .slice Ao175 t11021.length co175] from (k36_mkF _ _ (⟨1000, (⟨t11020, t11021⟩ : S24)⟩ : S36) (Kd.R_reads' (Kd.R_mono (ok' := (fun k_ => some k_ ≠ (v11010 : Value).ownBlock ∧ k_ ≠ gb11004)) (Kd.R_types (Kd.R_apart' (HO11023.out) (Kd.N_typed HO11011.out) (by decide)) BK11004.out (by decide)) (fun k_ hk => ⟨hk.1.2, hk.2⟩))).2.1 (Kd.R_F (Kd.R_mono (ok' := (fun k_ => some k_ ≠ (v11010 : Value).ownBlock ∧ k_ ≠ gb11004)) (Kd.R_types (Kd.R_apart' (HO11023.out) (Kd.N_typed HO11011.out) (by decide)) BK11004.out (by decide)) (fun k_ hk => ⟨hk.1.2, hk.2⟩))))) (Reps.none _ _))))); intro v11025 w176 ho177 hb hg_ hnew_; clear hg_ hnew_; (first | rw [← Ny11024.out] at ho177 | (simp only [Int.reduceToNat] at ho177; rw [← Ny11024.out] at ho177)); have n0_ := Aside0.mk (Kd.N_elder' (fN_ HO11011.out) (Kd.N_base ho177) hb); have n1_ := Aside0.mk (Kd.V_elder' (fV_ HO11003.out) (Kd.N_base ho177) hb); have n2_ := Aside0.mk (Kd.V_elder' (fV_ HO11008.out) (Kd.N_base ho177) hb); have n3_ := Aside0.mk (Kd.N_lower ho177 bz_); have n4_ := Aside0.mk (blk_below (g := gb11004) (o := .cells #[.int .i64 0, .slice Ao161 y11001.length co161] 24 (0, 0)) (fb_ BK11004.out) hb); have n5_ := Aside0.mk (Kd.V_below (Kd.R_V (base' := w.heap.size) (fR_ HO11015.out)) hb); have n6_ := Aside0.mk (Kd.V_below (Kd.R_V (base' := w.heap.size) (fR_ HO11019.out)) hb); have n7_ := Aside0.mk (Kd.V_below (Kd.R_V (base' := w.heap.size) (fR_ HO11023.out)) hb); have n8_ := Aside0.mk (bs_ hb); clear HO11011 HO11003 HO11008 BK11004 HO11015 HO11019 HO11023 HB; have HO11011 := n0_; have HO11003 := n1_; have HO11008 := n2_; have HO11026 := n3_; have BK11004 := n4_; have HO11015 := n5_; have HO11019 := n6_; have HO11023 := n7_; have HB := n8_; clear n0_ n1_ n2_ n3_ n4_ n5_ n6_ n7_ n8_ hb ho177; have hcz178_0 : w176.cell? ⟨gb11004, 0, none⟩ = some (.int .i64 0) := (blk_cell BK11004.out 0).trans rfl; have hcz178_1 : w176.cell? ⟨gb11004, 1, none⟩ = some (.slice Ao161 y11001.length co161) := (blk_cell BK11004.out 1).trans rfl; have hfz178_0 := blk_frozen BK11004.out 0; have hfz178_1 := blk_frozen BK11004.out 1) | ((with_reducible refine gate_callee (f := 12) rfl ?_); refine goesL_ (some 21) rfl rfl Try.func12 (by kernel_rfl) rfl #[.agg #[.int .i64 0, .slice Ao161 y11001.length co161]] rfl la_ ?_; (with_reducible refine (shape_Diameter.calls k 0 _ _ y11001 t11027 _ ?side1 ?side2 A5.out).mono ?_); (case side1 => repeat (first | exact (Kd.V_reads' HO11003.out).2.2 | (with_reducible refine Kd.C_alloc ?_ _) | (with_reducible refine Kd.C_drewN ?_ _) | (with_reducible refine Kd.C_drew ?_))); (case side2 => exact (Kd.V_reads' HO11003.out).2.1); rintro e w179 ⟨rfl, hb⟩; refine ⟨_, rfl, ?_⟩; have n0_ := Aside0.mk (Kd.N_below (fN_ HO11011.out) hb); have n1_ := Aside0.mk (Kd.V_below (fV_ HO11003.out) hb); have n2_ := Aside0.mk (Kd.V_below (fV_ HO11008.out) hb); have n3_ := Aside0.mk (Kd.N_below (fN_ HO11026.out) hb); have n4_ := Aside0.mk (Kd.V_below (fV_ HO11015.out) hb); have n5_ := Aside0.mk (Kd.V_below (fV_ HO11019.out) hb); have n6_ := Aside0.mk (Kd.V_below (fV_ HO11023.out) hb); have n7_ := Aside0.mk (blk_below (g := gb11004) (o := .cells #[.int .i64 0, .slice Ao161 y11001.length co161] 24 (0, 0)) (fb_ BK11004.out) hb); have n8_ := Aside0.mk (bs_ hb); clear HO11011 HO11003 HO11008 HO11026 HO11015 HO11019 HO11023 BK11004 HB; have HO11011 := n0_; have HO11003 := n1_; have HO11008 := n2_; have HO11026 := n3_; have HO11015 := n4_; have HO11019 := n5_; have HO11023 := n6_; have BK11004 := n7_; have HB := n8_; clear n0_ n1_ n2_ n3_ n4_ n5_ n6_ n7_ n8_; (try clear hb); (try clear hb2); (try clear hk); (try clear hi); have hcz180_0 : w179.cell? ⟨gb11004, 0, none⟩ = some (.int .i64 0) := (blk_cell BK11004.out 0).trans rfl; have hcz180_1 : w179.cell? ⟨gb11004, 1, none⟩ = some (.slice Ao161 y11001.length co161) := (blk_cell BK11004.out 1).trans rfl; have hfz180_0 := blk_frozen BK11004.out 0; have hfz180_1 := blk_frozen BK11004.out 1) | (go_at_call 14; (with_reducible refine (shape_Center2.calls k 0 _ _ y11001 t11028 t11029 _ ?side1 ?side2 A7.out).mono ?_); (case side1 => repeat (first | exact (Kd.V_reads' HO11003.out).2.2 | (with_reducible refine Kd.C_alloc ?_ _) | (with_reducible refine Kd.C_drewN ?_ _) | (with_reducible refine Kd.C_drew ?_))); (case side2 => exact (Kd.V_reads' HO11003.out).2.1); rintro e w181 ⟨rfl, hb⟩; have n0_ := Aside0.mk (Kd.N_below (fN_ HO11011.out) hb); have n1_ := Aside0.mk (Kd.V_below (fV_ HO11003.out) hb); have n2_ := Aside0.mk (Kd.V_below (fV_ HO11008.out) hb); have n3_ := Aside0.mk (Kd.N_below (fN_ HO11026.out) hb); have n4_ := Aside0.mk (Kd.V_below (fV_ HO11015.out) hb); have n5_ := Aside0.mk (Kd.V_below (fV_ HO11019.out) hb); have n6_ := Aside0.mk (Kd.V_below (fV_ HO11023.out) hb); have n7_ := Aside0.mk (blk_below (g := gb11004) (o := .cells #[.int .i64 0, .slice Ao161 y11001.length co161] 24 (0, 0)) (fb_ BK11004.out) hb); have n8_ := Aside0.mk (bs_ hb); clear HO11011 HO11003 HO11008 HO11026 HO11015 HO11019 HO11023 BK11004 HB; have HO11011 := n0_; have HO11003 := n1_; have HO11008 := n2_; have HO11026 := n3_; have HO11015 := n4_; have HO11019 := n5_; have HO11023 := n6_; have BK11004 := n7_; have HB := n8_; clear n0_ n1_ n2_ n3_ n4_ n5_ n6_ n7_ n8_; (try clear hb); (try clear hb2); (try clear hk); (try clear hi)))
   go_ret
   exact ⟨er_, be_⟩
 ·rw [if_neg c6] at H
  have c6b0 : (t11027 == 52) = false := beq_eq_false_iff_ne.mpr c6
  have c6b1 : (t11027 != 52) = true := bne_iff_ne.mpr c6
  obtain rfl := Option.some.inj H
  go_enter Try.func11, Try.ntmps11
  try go_wp2_with (first | ((with_reducible refine gate_dst (N := 6) rfl ?_); refine Kd.R_lit k49 _ 49 ?hg (N := 6) ?hd (xs := ([(⟨(-50), 50⟩ : S49), (⟨(-60), 60⟩ : S49)] : List (S49))) (inner := [.int .i64 (-50), .int .i64 50, .int .i64 (-60), .int .i64 60]) (ok := fun _ => True) (okp := fun _ => True) ?hr ?hp (fun _ hk => hk) trivial (Below.refl _ _) (Nat.le_refl _) (by simp) ?_; (case hd => rfl); (case hg => rfl); (case hr => first | (go_simp; done) | (go_simp; rfl)); (case hp => exact (Reps.c2 (show Kd.M k49 _ _ _ (⟨(-50), 50⟩ : S49) [.int .i64 (-50), .int .i64 50] from (k49_mkM _ _ _ (⟨(-50), 50⟩ : S49) )) (Reps.c2 (show Kd.M k49 _ _ _ (⟨(-60), 60⟩ : S49) [.int .i64 (-60), .int .i64 60] from (k49_mkM _ _ _ (⟨(-60), 60⟩ : S49) )) (Reps.none _ _)))); intro v11002 w182 ho183 hb hg_ hnew_; clear hg_ hnew_; (first | rw [← Ny11001.out] at ho183 | (simp only [Int.reduceToNat] at ho183; rw [← Ny11001.out] at ho183)); have n0_ := Aside0.mk (Kd.R_lower ho183 bz_); have n1_ := Aside0.mk (bs_ hb); clear HB; have HO11003 := n0_; have HB := n1_; clear n0_ n1_ hb ho183; obtain ⟨Ao184, co184, eo184⟩ := Kd.R_slice HO11003.out; subst eo184) | ((with_reducible refine gate_dst (N := 1) rfl ?_); refine box_event ?hg (N := 1) ?hd (cs := #[.int .i64 0, .slice none 0 0]) (t := 24) ?hr ?_; (case hd => rfl); (case hg => rfl); (case hr => first | (go_simp; done) | (go_simp; rfl)); intro gb11004 hg w185 hbox hb; have n0_ := Aside0.mk (Kd.R_below (fR_ HO11003.out) hb); have n1_ := Aside0.mk (bs_ hb); have n2_ := Aside0.mk (hbox); have n3_ := Aside0.mk ((by rw [hg]; exact bz_ : w.heap.size ≤ gb11004)); have n4_ := Aside0.mk ((by rw [hg]; exact bz_ : w.heap.size ≤ gb11004)); clear HO11003 HB; have HO11003 := n0_; have HB := n1_; have BK11004 := n2_; have GW11004 := n3_; have GE11004 := n4_; clear n0_ n1_ n2_ n3_ n4_ hb hbox hg; have hcz186_0 : w185.cell? ⟨gb11004, 0, none⟩ = some (.int .i64 0) := (blk_cell BK11004.out 0).trans rfl; have hcz186_1 : w185.cell? ⟨gb11004, 1, none⟩ = some (.slice none 0 0) := (blk_cell BK11004.out 1).trans rfl; have hfz186_0 := blk_frozen BK11004.out 0; have hfz186_1 := blk_frozen BK11004.out 1))
  have n0_ : Aside0 (Kd.R k49 49 ((w185.setCell ⟨gb11004, 0, none⟩ (.int .i64 0)).setCell ⟨gb11004, 1, none⟩ (.slice Ao184 y11001.length co184)) w.heap.size (fun _ => True) (.slice Ao184 y11001.length co184) y11001) := ⟨by (with_reducible repeat (first | apply Kd.R_alloc | apply Kd.R_drewN | apply Kd.R_drew)); exact Kd.R_mono (Kd.R_far (p := ⟨gb11004, 1, none⟩) (Kd.R_far (p := ⟨gb11004, 0, none⟩) (Kd.R_types HO11003.out BK11004.out (by decide)) (fun _ hk => hk.2) (.int .i64 0)) (fun _ hk => hk.2) (.slice Ao184 y11001.length co184)) (fun _ hk => trivial)⟩
  have n1_ : Aside0 (((w185.setCell ⟨gb11004, 0, none⟩ (.int .i64 0)).setCell ⟨gb11004, 1, none⟩ (.slice Ao184 y11001.length co184)).heap[gb11004]? = some (.cells #[.int .i64 0, .slice Ao184 y11001.length co184] 24 (0, 0))) := ⟨by (with_reducible repeat (first | refine blk_drewN ?_ _ | refine blk_drew ?_ | refine blk_alloc ?_ _)); refine blk_put (cs := #[.int .i64 0, .slice none 0 0]) ?_ 1 _ rfl; (with_reducible repeat (first | refine blk_drewN ?_ _ | refine blk_drew ?_ | refine blk_alloc ?_ _)); refine blk_put (cs := #[.int .i64 0, .slice none 0 0]) ?_ 0 _ rfl; (with_reducible repeat (first | refine blk_drewN ?_ _ | refine blk_drew ?_ | refine blk_alloc ?_ _)); exact BK11004.out⟩
  have n2_ : Aside0 (Below w.heap.size w ((w185.setCell ⟨gb11004, 0, none⟩ (.int .i64 0)).setCell ⟨gb11004, 1, none⟩ (.slice Ao184 y11001.length co184))) := ⟨be_⟩
  (try clear HO11003)
  (try clear BK11004)
  (try clear HB)
  generalize ((w185.setCell ⟨gb11004, 0, none⟩ (.int .i64 0)).setCell ⟨gb11004, 1, none⟩ (.slice Ao184 y11001.length co184)) = w187 at n0_ n1_ n2_ ⊢
  have HO11003 := n0_
  have BK11004 := n1_
  have HB := n2_
  clear n0_ n1_ n2_
  have n0_ := Aside0.mk (Kd.R_drew HO11003.out)
  have n1_ := Aside0.mk (blk_drew BK11004.out)
  have n2_ := Aside0.mk (below_drew1 HB.out)
  clear HO11003 BK11004 HB
  have HO11003 := n0_
  have BK11004 := n1_
  have HB := n2_
  clear n0_ n1_ n2_
  refine start_ (n := 6) (S := fun w' => w'.cell? ⟨gb11004, 0, none⟩ = some (.int .i64 0) ∧ w'.cell? ⟨gb11004, 1, none⟩ = some (.slice Ao184 y11001.length co184)) (ds := []) #[false, false, false, false, false, false] (by kernel_rfl) rfl rfl ⟨(blk_cell BK11004.out 0).trans rfl, (blk_cell BK11004.out 1).trans rfl⟩ (fun hHeld => ?_)
  generalize w187.drew = w188 at HO11003 BK11004 HB hHeld ⊢
  refine take_ (i := 0) (N := some 8) (v := ?_) (a' := ?_) #[true, false, false, false, false, false] rfl rfl (by kernel_rfl) (fun _ _ _ h => h) (Or.inl ⟨by rfl, ?_⟩) hHeld ?_ ?_
  rotate_left
  ·rintro w' ⟨s0, s1⟩
   go_simp
   with_reducible rfl
  rotate_left
  ·simp only [Act.put, List.setIfInBounds_toArray, List.set_cons_zero, List.set_cons_succ, i64_w, i32_w]
   rfl
  refine pure_ (i := 1) (N := some 9) (v := ?_) (a' := ?_) #[true, true, false, false, false, false] rfl rfl (by kernel_rfl) (fun _ _ _ h => h) (Or.inl ⟨by rfl, ?_⟩) ?_ ?_
  rotate_left
  ·intro w'
   go_simp
   with_reducible rfl
  rotate_left
  ·simp only [Act.put, List.setIfInBounds_toArray, List.set_cons_zero, List.set_cons_succ, i64_w, i32_w]
   rfl
  refine one_ (i := 2) (N := some 10) #[true, true, true, false, false, false] rfl rfl (by kernel_rfl) (by decide) (fun K hK => ?_)
  refine goes_ Try.func35 (by kernel_rfl) rfl #[.int .i64 (-50), .int .i64 50] (by rfl) rfl rfl la_ ?_
  with_reducible refine (sawmilllaw14_one.calls (-50) 50 t11005 t11006 _ A1.out).mono ?_
  rintro e w189 ⟨v11007, rfl, ho0, hb⟩
  refine ⟨_, rfl, ?_⟩
  have n0_ := Aside0.mk (Kd.R_elder' (fR_ HO11003.out) (Kd.R_base ho0) hb)
  have n1_ := Aside0.mk (Kd.R_lower (Kd.R_new' ho0 (Kd.R_lt (fR_ HO11003.out))) bz_)
  have n2_ := Aside0.mk (blk_below (g := gb11004) (o := .cells #[.int .i64 0, .slice Ao184 y11001.length co184] 24 (0, 0)) (fb_ BK11004.out) hb)
  have n3_ := Aside0.mk (bs_ hb)
  clear HO11003 BK11004 HB
  have HO11003 := n0_
  have HO11008 := n1_
  have BK11004 := n2_
  have HB := n3_
  clear n0_ n1_ n2_ n3_
  (try clear hb)
  (try clear hb2)
  (try clear hk)
  (try clear hi)
  (try clear ho0)
  obtain ⟨Ao190, co190, eo190⟩ := Kd.R_slice HO11008.out
  (first | subst eo190 | (injection eo190 with f1_ f2_ f3_; have f4_ := f1_.symm; have f5_ := f3_.symm; clear f1_ f2_ f3_; subst f4_; subst f5_))
  refine hK.out _ _ ⟨(blk_cell BK11004.out 0).trans rfl, (blk_cell BK11004.out 1).trans rfl⟩ (fun hHeld => ?_)
  clear hK K
  refine norm_ (a' := ?_) ?_ ?_
  rotate_left
  ·show Act.put _ (some 10) _ = _
   simp only [Act.put, List.setIfInBounds_toArray, List.set_cons_zero, List.set_cons_succ, i64_w, i32_w]
   rfl
  refine pure_ (i := 3) (N := some 11) (v := ?_) (a' := ?_) #[true, true, true, true, false, false] rfl rfl (by kernel_rfl) (fun _ _ _ h => h) (Or.inl ⟨by rfl, ?_⟩) ?_ ?_
  rotate_left
  ·intro w'
   go_simp
   with_reducible rfl
  rotate_left
  ·simp only [Act.put, List.setIfInBounds_toArray, List.set_cons_zero, List.set_cons_succ, i64_w, i32_w]
   rfl
  refine one_ (i := 4) (N := some 12) #[true, true, true, true, true, false] rfl rfl (by kernel_rfl) (by decide) (fun K hK => ?_)
  refine Kd.N_lit_step k36 _ 36 ?hg (N' := 12) ?hd (xs := ([(⟨2000, (⟨0, y11001⟩ : S24)⟩ : S36), (⟨1000, (⟨t11005, t11006⟩ : S24)⟩ : S36)] : List (S36))) (inner := [.int .i64 2000, .int .i64 0, .slice Ao184 y11001.length co184, .int .i64 1000, .int .i64 t11005, .slice Ao190 t11006.length co190]) (ok := (fun k_ => k_ ≠ gb11004)) (okp := (fun k_ => k_ ≠ gb11004)) ?hr ?hp (fun _ hk => hk) ((show ∀ k_, w189.heap.size ≤ k_ → (fun k_ => k_ ≠ gb11004) k_ from fun k_ hk => Kd.freshB (g := gb11004) (o := .cells #[.int .i64 0, .slice Ao184 y11001.length co184] 24 (0, 0)) (fb_ BK11004.out) k_ hk) _ (Nat.le_refl _)) (Below.refl _ _) (Nat.le_refl _) (by simp) ?_; (case hd => rfl); (case hg => rfl); (case hr => first | (go_simp; done) | (go_simp; rfl)); (case hp => exact (Reps.c3 (show Kd.FK k36 _ _ (⟨2000, (⟨0, y11001⟩ : S24)⟩ : S36) [.int .i64 2000, .int .i64 0, .slice Ao184 y11001.length co184] from (k36_mkF _ _ (⟨2000, (⟨0, y11001⟩ : S24)⟩ : S36) (Kd.R_reads' (Kd.R_mono (ok' := (fun k_ => k_ ≠ gb11004)) (Kd.R_types (HO11003.out) BK11004.out (by decide)) (fun k_ hk => hk.2))).2.1 (Kd.R_F (Kd.R_mono (ok' := (fun k_ => k_ ≠ gb11004)) (Kd.R_types (HO11003.out) BK11004.out (by decide)) (fun k_ hk => hk.2))))) (Reps.c3 (show Kd.FK k36 _ _ (⟨1000, (⟨t11005, t11006⟩ : S24)⟩ : S36) [.int .i64 1000, .int .i64 t11005, .slice Ao190 t11006.length co190] from (k36_mkF _ _ (⟨1000, (⟨t11005, t11006⟩ : S24)⟩ : S36) (Kd.R_reads' (Kd.R_mono (ok' := (fun k_ => k_ ≠ gb11004)) (Kd.R_types (HO11008.out) BK11004.out (by decide)) (fun k_ hk => hk.2))).2.1 (Kd.R_F (Kd.R_mono (ok' := (fun k_ => k_ ≠ gb11004)) (Kd.R_types (HO11008.out) BK11004.out (by decide)) (fun k_ hk => hk.2))))) (Reps.none _ _))))
  intro v11010 w191 ho192 hb hg_ hnew_
  clear hg_ hnew_
  (first | rw [← Ny11009.out] at ho192 | (simp only [Int.reduceToNat] at ho192; rw [← Ny11009.out] at ho192))
  have n0_ := Aside0.mk (Kd.N_lower ho192 bz_)
  have n1_ := Aside0.mk (blk_below (g := gb11004) (o := .cells #[.int .i64 0, .slice Ao184 y11001.length co184] 24 (0, 0)) (fb_ BK11004.out) hb)
  have n2_ := Aside0.mk (Kd.V_below (Kd.R_V (base' := w.heap.size) (fR_ HO11003.out)) hb)
  have n3_ := Aside0.mk (Kd.V_below (Kd.R_V (base' := w.heap.size) (fR_ HO11008.out)) hb)
  have n4_ := Aside0.mk (bs_ hb)
  clear BK11004 HO11003 HO11008 HB
  have HO11011 := n0_
  have BK11004 := n1_
  have HO11003 := n2_
  have HO11008 := n3_
  have HB := n4_
  clear n0_ n1_ n2_ n3_ n4_ hb ho192
  refine hK.out _ _ ⟨(blk_cell BK11004.out 0).trans rfl, (blk_cell BK11004.out 1).trans rfl⟩ (fun hHeld => ?_)
  clear hK K
  refine norm_ (a' := ?_) ?_ ?_
  rotate_left
  ·show Act.put _ (some 12) _ = _
   simp only [Act.put, List.setIfInBounds_toArray, List.set_cons_zero, List.set_cons_succ, i64_w, i32_w]
   rfl
  refine pure_ (i := 5) (N := some 2) (v := ?_) (a' := ?_) #[true, true, true, true, true, true] rfl rfl (by kernel_rfl) (fun _ _ _ h => h) (Or.inl ⟨by rfl, ?_⟩) ?_ ?_
  rotate_left
  ·intro w'
   go_simp
   with_reducible rfl
  rotate_left
  ·simp only [Act.put, List.setIfInBounds_toArray, List.set_cons_zero, List.set_cons_succ, i64_w, i32_w]
   rfl
  refine done_ (by kernel_rfl) ?_
  try go_wp2_with (first | ((with_reducible refine gate_callee (f := 35) rfl ?_); refine goesL_ (some 13) rfl rfl Try.func35 (by kernel_rfl) rfl #[.int .i64 (-50), .int .i64 50] rfl la_ ?_; (with_reducible refine (sawmilllaw14_one.calls (-50) 50 t11012 t11013 _ A2.out).mono ?_); rintro e w193 ⟨v11014, rfl, ho0, hb⟩; refine ⟨_, rfl, ?_⟩; have n0_ := Aside0.mk (Kd.N_elder' (fN_ HO11011.out) (Kd.R_base ho0) hb); have n1_ := Aside0.mk (Kd.V_elder' (fV_ HO11003.out) (Kd.R_base ho0) hb); have n2_ := Aside0.mk (Kd.V_elder' (fV_ HO11008.out) (Kd.R_base ho0) hb); have n3_ := Aside0.mk (Kd.R_lower ho0 bz_); have n4_ := Aside0.mk (blk_below (g := gb11004) (o := .cells #[.int .i64 0, .slice Ao184 y11001.length co184] 24 (0, 0)) (fb_ BK11004.out) hb); have n5_ := Aside0.mk (bs_ hb); clear HO11011 HO11003 HO11008 BK11004 HB; have HO11011 := n0_; have HO11003 := n1_; have HO11008 := n2_; have HO11015 := n3_; have BK11004 := n4_; have HB := n5_; clear n0_ n1_ n2_ n3_ n4_ n5_; (try clear hb); (try clear hb2); (try clear hk); (try clear hi); (try clear ho0); obtain ⟨Ao194, co194, eo194⟩ := Kd.R_slice HO11015.out; subst eo194) | ((with_reducible refine gate_callee (f := 35) rfl ?_); refine goesL_ (some 15) rfl rfl Try.func35 (by kernel_rfl) rfl #[.int .i64 (-40), .int .i64 60] rfl la_ ?_; (with_reducible refine (sawmilllaw14_one.calls (-40) 60 t11016 t11017 _ A3.out).mono ?_); rintro e w195 ⟨v11018, rfl, ho0, hb⟩; refine ⟨_, rfl, ?_⟩; have n0_ := Aside0.mk (Kd.N_elder' (fN_ HO11011.out) (Kd.R_base ho0) hb); have n1_ := Aside0.mk (Kd.V_elder' (fV_ HO11003.out) (Kd.R_base ho0) hb); have n2_ := Aside0.mk (Kd.V_elder' (fV_ HO11008.out) (Kd.R_base ho0) hb); have n3_ := Aside0.mk (Kd.R_elder' (fR_ HO11015.out) (Kd.R_base ho0) hb); have n4_ := Aside0.mk (Kd.R_lower (Kd.R_new' ho0 (Kd.R_lt (fR_ HO11015.out))) bz_); have n5_ := Aside0.mk (blk_below (g := gb11004) (o := .cells #[.int .i64 0, .slice Ao184 y11001.length co184] 24 (0, 0)) (fb_ BK11004.out) hb); have n6_ := Aside0.mk (bs_ hb); clear HO11011 HO11003 HO11008 HO11015 BK11004 HB; have HO11011 := n0_; have HO11003 := n1_; have HO11008 := n2_; have HO11015 := n3_; have HO11019 := n4_; have BK11004 := n5_; have HB := n6_; clear n0_ n1_ n2_ n3_ n4_ n5_ n6_; (try clear hb); (try clear hb2); (try clear hk); (try clear hi); (try clear ho0); obtain ⟨Ao196, co196, eo196⟩ := Kd.R_slice HO11019.out; subst eo196) | ((with_reducible refine gate_callee (f := 35) rfl ?_); refine goesL_ (some 17) rfl rfl Try.func35 (by kernel_rfl) rfl #[.int .i64 (-50), .int .i64 50] rfl la_ ?_; (with_reducible refine (sawmilllaw14_one.calls (-50) 50 t11020 t11021 _ A4.out).mono ?_); rintro e w197 ⟨v11022, rfl, ho0, hb⟩; refine ⟨_, rfl, ?_⟩; have n0_ := Aside0.mk (Kd.N_elder' (fN_ HO11011.out) (Kd.R_base ho0) hb); have n1_ := Aside0.mk (Kd.V_elder' (fV_ HO11003.out) (Kd.R_base ho0) hb); have n2_ := Aside0.mk (Kd.V_elder' (fV_ HO11008.out) (Kd.R_base ho0) hb); have n3_ := Aside0.mk (Kd.R_elder' (fR_ HO11015.out) (Kd.R_base ho0) hb); have n4_ := Aside0.mk (Kd.R_elder' (fR_ HO11019.out) (Kd.R_base ho0) hb); have n5_ := Aside0.mk (Kd.R_lower (Kd.R_new' (Kd.R_new' ho0 (Kd.R_lt (fR_ HO11015.out))) (Kd.R_lt (fR_ HO11019.out))) bz_); have n6_ := Aside0.mk (blk_below (g := gb11004) (o := .cells #[.int .i64 0, .slice Ao184 y11001.length co184] 24 (0, 0)) (fb_ BK11004.out) hb); have n7_ := Aside0.mk (bs_ hb); clear HO11011 HO11003 HO11008 HO11015 HO11019 BK11004 HB; have HO11011 := n0_; have HO11003 := n1_; have HO11008 := n2_; have HO11015 := n3_; have HO11019 := n4_; have HO11023 := n5_; have BK11004 := n6_; have HB := n7_; clear n0_ n1_ n2_ n3_ n4_ n5_ n6_ n7_; (try clear hb); (try clear hb2); (try clear hk); (try clear hi); (try clear ho0); obtain ⟨Ao198, co198, eo198⟩ := Kd.R_slice HO11023.out; subst eo198) | ((with_reducible refine gate_dst (N := 19) rfl ?_); refine Kd.N_lit k36 _ 36 ?hg (N' := 19) ?hd (xs := ([(⟨1000, (⟨t11012, t11013⟩ : S24)⟩ : S36), (⟨1000, (⟨t11016, t11017⟩ : S24)⟩ : S36), (⟨1000, (⟨t11020, t11021⟩ : S24)⟩ : S36)] : List (S36))) (inner := [.int .i64 1000, .int .i64 t11012, .slice Ao194 t11013.length co194, .int .i64 1000, .int .i64 t11016, .slice Ao196 t11017.length co196, .int .i64 1000, .int .i64 t11020, .slice Ao198 t11021.length co198]) (ok := (fun k_ => some k_ ≠ (v11010 : Value).ownBlock ∧ k_ ≠ gb11004)) (okp := (fun k_ => some k_ ≠ (v11010 : Value).ownBlock ∧ k_ ≠ gb11004)) ?hr ?hp (fun _ hk => hk) ((show ∀ k_, w197.heap.size ≤ k_ → (fun k_ => some k_ ≠ (v11010 : Value).ownBlock ∧ k_ ≠ gb11004) k_ from fun k_ hk => ⟨Kd.fresh' (Kd.N_lt (fN_ HO11011.out)) k_ hk, Kd.freshB (g := gb11004) (o := .cells #[.int .i64 0, .slice Ao184 y11001.length co184] 24 (0, 0)) (fb_ BK11004.out) k_ hk⟩) _ (Nat.le_refl _)) (Below.refl _ _) (Nat.le_refl _) (by simp) ?_; (case hd => rfl); (case hg => rfl); (case hr => first | (go_simp; done) | (go_simp; rfl)); (case hp => exact (Reps.c3 (show Kd.FK k36 _ _ (⟨1000, (⟨t11012, t11013⟩ : S24)⟩ : S36) [.int .i64 1000, .int .i64 t11012, .slice Ao194 t11013.length co194] from (k36_mkF _ _ (⟨1000, (⟨t11012, t11013⟩ : S24)⟩ : S36) (Kd.R_reads' (Kd.R_mono (ok' := (fun k_ => some k_ ≠ (v11010 : Value).ownBlock ∧ k_ ≠ gb11004)) (Kd.R_types (Kd.R_apart' (HO11015.out) (Kd.N_typed HO11011.out) (by decide)) BK11004.out (by decide)) (fun k_ hk => ⟨hk.1.2, hk.2⟩))).2.1 (Kd.R_F (Kd.R_mono (ok' := (fun k_ => some k_ ≠ (v11010 : Value).ownBlock ∧ k_ ≠ gb11004)) (Kd.R_types (Kd.R_apart' (HO11015.out) (Kd.N_typed HO11011.out) (by decide)) BK11004.out (by decide)) (fun k_ hk => ⟨hk.1.2, hk.2⟩))))) (Reps.c3 (show Kd.FK k36 _ _ (⟨1000, (⟨t11016, t11017⟩ : S24)⟩ : S36) [.int .i64 1000, .int .i64 t11016, .slice Ao196 t11017.length co196] from (k36_mkF _ _ (⟨1000, (⟨t11016, t11017⟩ : S24)⟩ : S36) (Kd.R_reads' (Kd.R_mono (ok' := (fun k_ => some k_ ≠ (v11010 : Value).ownBlock ∧ k_ ≠ gb11004)) (Kd.R_types (Kd.R_apart' (HO11019.out) (Kd.N_typed HO11011.out) (by decide)) BK11004.out (by decide)) (fun k_ hk => ⟨hk.1.2, hk.2⟩))).2.1 (Kd.R_F (Kd.R_mono (ok' := (fun k_ => some k_ ≠ (v11010 : Value).ownBlock ∧ k_ ≠ gb11004)) (Kd.R_types (Kd.R_apart' (HO11019.out) (Kd.N_typed HO11011.out) (by decide)) BK11004.out (by decide)) (fun k_ hk => ⟨hk.1.2, hk.2⟩))))) (Reps.c3 (show Kd.FK k36 _ _ (⟨1000, (⟨t11020, t11021⟩ : S24)⟩ : S36) [.int .i64 1000, .int .i64 t11020, .slice Ao198 t11021.length co198] from (k36_mkF _ _ (⟨1000, (⟨t11020, t11021⟩ : S24)⟩ : S36) (Kd.R_reads' (Kd.R_mono (ok' := (fun k_ => some k_ ≠ (v11010 : Value).ownBlock ∧ k_ ≠ gb11004)) (Kd.R_types (Kd.R_apart' (HO11023.out) (Kd.N_typed HO11011.out) (by decide)) BK11004.out (by decide)) (fun k_ hk => ⟨hk.1.2, hk.2⟩))).2.1 (Kd.R_F (Kd.R_mono (ok' := (fun k_ => some k_ ≠ (v11010 : Value).ownBlock ∧ k_ ≠ gb11004)) (Kd.R_types (Kd.R_apart' (HO11023.out) (Kd.N_typed HO11011.out) (by decide)) BK11004.out (by decide)) (fun k_ hk => ⟨hk.1.2, hk.2⟩))))) (Reps.none _ _))))); intro v11025 w199 ho200 hb hg_ hnew_; clear hg_ hnew_; (first | rw [← Ny11024.out] at ho200 | (simp only [Int.reduceToNat] at ho200; rw [← Ny11024.out] at ho200)); have n0_ := Aside0.mk (Kd.N_elder' (fN_ HO11011.out) (Kd.N_base ho200) hb); have n1_ := Aside0.mk (Kd.V_elder' (fV_ HO11003.out) (Kd.N_base ho200) hb); have n2_ := Aside0.mk (Kd.V_elder' (fV_ HO11008.out) (Kd.N_base ho200) hb); have n3_ := Aside0.mk (Kd.N_lower ho200 bz_); have n4_ := Aside0.mk (blk_below (g := gb11004) (o := .cells #[.int .i64 0, .slice Ao184 y11001.length co184] 24 (0, 0)) (fb_ BK11004.out) hb); have n5_ := Aside0.mk (Kd.V_below (Kd.R_V (base' := w.heap.size) (fR_ HO11015.out)) hb); have n6_ := Aside0.mk (Kd.V_below (Kd.R_V (base' := w.heap.size) (fR_ HO11019.out)) hb); have n7_ := Aside0.mk (Kd.V_below (Kd.R_V (base' := w.heap.size) (fR_ HO11023.out)) hb); have n8_ := Aside0.mk (bs_ hb); clear HO11011 HO11003 HO11008 BK11004 HO11015 HO11019 HO11023 HB; have HO11011 := n0_; have HO11003 := n1_; have HO11008 := n2_; have HO11026 := n3_; have BK11004 := n4_; have HO11015 := n5_; have HO11019 := n6_; have HO11023 := n7_; have HB := n8_; clear n0_ n1_ n2_ n3_ n4_ n5_ n6_ n7_ n8_ hb ho200; have hcz201_0 : w199.cell? ⟨gb11004, 0, none⟩ = some (.int .i64 0) := (blk_cell BK11004.out 0).trans rfl; have hcz201_1 : w199.cell? ⟨gb11004, 1, none⟩ = some (.slice Ao184 y11001.length co184) := (blk_cell BK11004.out 1).trans rfl; have hfz201_0 := blk_frozen BK11004.out 0; have hfz201_1 := blk_frozen BK11004.out 1) | ((with_reducible refine gate_callee (f := 12) rfl ?_); refine goesL_ (some 21) rfl rfl Try.func12 (by kernel_rfl) rfl #[.agg #[.int .i64 0, .slice Ao184 y11001.length co184]] rfl la_ ?_; (with_reducible refine (shape_Diameter.calls k 0 _ _ y11001 t11027 _ ?side1 ?side2 A5.out).mono ?_); (case side1 => repeat (first | exact (Kd.V_reads' HO11003.out).2.2 | (with_reducible refine Kd.C_alloc ?_ _) | (with_reducible refine Kd.C_drewN ?_ _) | (with_reducible refine Kd.C_drew ?_))); (case side2 => exact (Kd.V_reads' HO11003.out).2.1); rintro e w202 ⟨rfl, hb⟩; refine ⟨_, rfl, ?_⟩; have n0_ := Aside0.mk (Kd.N_below (fN_ HO11011.out) hb); have n1_ := Aside0.mk (Kd.V_below (fV_ HO11003.out) hb); have n2_ := Aside0.mk (Kd.V_below (fV_ HO11008.out) hb); have n3_ := Aside0.mk (Kd.N_below (fN_ HO11026.out) hb); have n4_ := Aside0.mk (Kd.V_below (fV_ HO11015.out) hb); have n5_ := Aside0.mk (Kd.V_below (fV_ HO11019.out) hb); have n6_ := Aside0.mk (Kd.V_below (fV_ HO11023.out) hb); have n7_ := Aside0.mk (blk_below (g := gb11004) (o := .cells #[.int .i64 0, .slice Ao184 y11001.length co184] 24 (0, 0)) (fb_ BK11004.out) hb); have n8_ := Aside0.mk (bs_ hb); clear HO11011 HO11003 HO11008 HO11026 HO11015 HO11019 HO11023 BK11004 HB; have HO11011 := n0_; have HO11003 := n1_; have HO11008 := n2_; have HO11026 := n3_; have HO11015 := n4_; have HO11019 := n5_; have HO11023 := n6_; have BK11004 := n7_; have HB := n8_; clear n0_ n1_ n2_ n3_ n4_ n5_ n6_ n7_ n8_; (try clear hb); (try clear hb2); (try clear hk); (try clear hi)))
  go_ret
  exact ⟨er_, be_⟩

end Go.Proofs.Ytdbjoopkliafeaa.P

end
section
namespace Go.Proofs.Ytdbjoopkliafeaa.P
open Go Go.RowKit Go.Proofs.YtdbjoopkliafeaaW.PrintWords Go.Proofs.YtdbjoopkliafeaaW.PrintLast Go.Proofs.YtdbjoopkliafeaaW.PrintMore
attribute [local go_sem] max2_int min2_int max_two min_two max_three min_three max_four min_four max_five min_eight max_eight   -- for this text's walks alone
set_option linter.unusedVariables false
set_option linter.unusedSimpArgs false

def sawmilllaw14_small.l0 : Nat → List (S36) → Int → Option (Bool)
 | 0, _, _ => none
 | k + 1, x0, x3 => if x3 < (x0.length : Int) then (if 0 ≤ x3 then (if (((rd_T36 x0 x3).f1.f1).length : Int) > 130 then (some false) else (sawmilllaw14_small.l0 k x0 (wrap64 (x3 + 1)))) else (none)) else (some true)
def sawmilllaw14_small.f (k : Nat) (l0 : List (S36)) : Option (Bool) := if (l0.length : Int) > 30 then (some false) else (sawmilllaw14_small.l0 k l0 0)
theorem sawmilllaw14_small.mono_l : ∀ k, (∀ y0 y1, LeO (sawmilllaw14_small.l0 k y0 y1) (sawmilllaw14_small.l0 (k + 1) y0 y1))
 | 0 => fun _ _ r h => by simp [sawmilllaw14_small.l0] at h
 | k + 1 => by
  have ih0 := sawmilllaw14_small.mono_l k
  ·intro y0 y1
   unfold sawmilllaw14_small.l0
   repeat' first
   | (with_reducible exact ih0 _ _)
   | (with_reducible exact LeO.refl _)
   | (with_reducible exact LeO.none _)
   | (with_reducible refine LeO.ite ?_ ?_)
   | (with_reducible refine LeO.bind ?_ (fun _ => ?_))
   | exact ih0 _ _
   | exact LeO.none _
   | refine LeO.ite ?_ ?_
   | refine LeO.bind ?_ (fun _ => ?_)
theorem sawmilllaw14_small.mono : ∀ a0 k, LeO (sawmilllaw14_small.f k a0) (sawmilllaw14_small.f (k + 1) a0) := by
 intro a0 k
 have ih0 := sawmilllaw14_small.mono_l k
 unfold sawmilllaw14_small.f
 repeat' first
   | (with_reducible exact ih0 _ _)
   | (with_reducible exact LeO.refl _)
   | (with_reducible exact LeO.none _)
   | (with_reducible refine LeO.ite ?_ ?_)
   | (with_reducible refine LeO.bind ?_ (fun _ => ?_))
   | exact ih0 _ _
   | exact LeO.none _
   | refine LeO.ite ?_ ?_
   | refine LeO.bind ?_ (fun _ => ?_)
set_option maxHeartbeats 8000000 in
set_option maxRecDepth 100000 in
theorem sawmilllaw14_small.calls (k : Nat) (A0 : Option Addr) (c0 : Nat) (l0 : List (S36)) (r : Bool) (w : World) (hr0 : Kd.C k36 w A0 l0.length l0) (hc0 : l0.length ≤ c0) (h : sawmilllaw14_small.f k l0 = some r) :
  Calls Try.prog 18 #[.slice A0 l0.length c0] w fun e w' => e = .returned (.bool r) ∧ Drawn0 w w' := by
 have HR0 := Aside0.mk hr0
 have HC0 := Aside0.mk hc0
 clear hr0 hc0
 have H : (if (l0.length : Int) > 30 then (some false) else (sawmilllaw14_small.l0 k l0 0)) = some r := h
 clear h
 by_cases c2 : (l0.length : Int) > 30
 ·rw [if_pos c2] at H
  have c2b0 : decide (30 < (l0.length : Int)) = true := decide_eq_true c2
  have c2b1 : decide (30 < l0.length) = true := decide_eq_true (by omega)
  clear c2
  obtain rfl := Option.some.inj H
  go_enter Try.func18, Try.ntmps18
  go_wp2
  go_ret
  exact ⟨by first | rfl | (simp; done) | (simp [*]; done), by repeat (first | exact Drawn0.refl _ | apply Drawn0.step)⟩
 ·rw [if_neg c2] at H
  have c2b0 : decide (30 < (l0.length : Int)) = false := decide_eq_false c2
  have c2b1 : decide (30 < l0.length) = false := decide_eq_false (by omega)
  clear c2
  have H' := Aside0.mk H
  clear H
  go_enter Try.func18, Try.ntmps18
  go_wp2
  go_loopg [3] k (fun kq v3 w' => ∃ (x3_1 : Int), v3 = .int .i64 x3_1 ∧ Aside0 (sawmilllaw14_small.l0 kq l0 x3_1 = some r) ∧ Aside0 (kq ≤ k) ∧ Drawn0 w w')
  case atStart => exact ⟨(0), (by first | rfl | (simp; done) | (simp [*]; done)), H', ⟨Nat.le_refl _⟩, by repeat (first | exact Drawn0.refl _ | apply Drawn0.step)⟩
  case round =>
   clear H'
   try clear c1
   try clear c2
   try clear c2b0
   try clear c2b1
   try clear p2
   obtain ⟨x3_1, rfl, HA, HK1, ⟨m1, rfl⟩⟩ := hrel
   cases gk with
   | zero => exact absurd HA.out (by simp [sawmilllaw14_small.l0])
   | succ k1 =>
    have H := HA.out
    clear HA
    simp only [sawmilllaw14_small.l0] at H
    by_cases c3 : x3_1 < (l0.length : Int)
    ·rw [if_pos c3] at H
     have c3b0 : decide (x3_1 < (l0.length : Int)) = true := decide_eq_true c3
     clear c3
     by_cases c4 : 0 ≤ x3_1
     ·rw [if_pos c4] at H
      have c4b0 : decide (0 ≤ x3_1) = true := decide_eq_true c4
      clear c4
      by_cases c5 : (((rd_T36 l0 x3_1).f1.f1).length : Int) > 130
      ·rw [if_pos c5] at H
       have c5b0 : decide (130 < (((rd_T36 l0 x3_1).f1.f1).length : Int)) = true := decide_eq_true c5
       have c5b1 : decide (130 < ((rd_T36 l0 x3_1).f1.f1).length) = true := decide_eq_true (by omega)
       clear c5
       obtain rfl := Option.some.inj H
       have p18001 : 0 ≤ (x3_1 : Int) := of_decide_eq_true (by first | (with_reducible assumption) | assumption)
       have q18001 : x3_1 < (l0.length : Int) := of_decide_eq_true (by first | (with_reducible assumption) | assumption)
       obtain ⟨ad18001, A18001_2, c18001_2, e18001, hx18001_0, hx18001_1, hx18001_2, hl18001_2, hi18001_2⟩ := at_T36 HR0.out x3_1 p18001 q18001
       cases e18001
       have HR18001_2 := Aside0.mk hi18001_2
       have HC18001_2 := Aside0.mk hl18001_2
       clear hi18001_2 hl18001_2
       replace p18001 := eq_true p18001
       replace q18001 := eq_true q18001
       go_wp2
       go_ret
       exact ⟨by first | rfl | (simp; done) | (simp [*]; done), by repeat (first | exact Drawn0.refl _ | apply Drawn0.step)⟩
      ·rw [if_neg c5] at H
       have c5b0 : decide (130 < (((rd_T36 l0 x3_1).f1.f1).length : Int)) = false := decide_eq_false c5
       have c5b1 : decide (130 < ((rd_T36 l0 x3_1).f1.f1).length) = false := decide_eq_false (by omega)
       clear c5
       have H' := Aside0.mk H
       clear H
       have p18001 : 0 ≤ (x3_1 : Int) := of_decide_eq_true (by first | (with_reducible assumption) | assumption)
       have q18001 : x3_1 < (l0.length : Int) := of_decide_eq_true (by first | (with_reducible assumption) | assumption)
       obtain ⟨ad18001, A18001_2, c18001_2, e18001, hx18001_0, hx18001_1, hx18001_2, hl18001_2, hi18001_2⟩ := at_T36 HR0.out x3_1 p18001 q18001
       cases e18001
       have HR18001_2 := Aside0.mk hi18001_2
       have HC18001_2 := Aside0.mk hl18001_2
       clear hi18001_2 hl18001_2
       replace p18001 := eq_true p18001
       replace q18001 := eq_true q18001
       go_wp2
       go_roundg k1
       case measure => have := HK1.out; omega
       case rel => exact ⟨(wrap64 (x3_1 + 1)), (by first | rfl | (simp; done) | (simp [*]; done)), H', ⟨by have := HK1.out; omega⟩, by repeat (first | exact Drawn0.refl _ | apply Drawn0.step)⟩
     ·rw [if_neg c4] at H
      exact absurd H (by simp)
    ·rw [if_neg c3] at H
     have c3b0 : decide (x3_1 < (l0.length : Int)) = false := decide_eq_false c3
     clear c3
     obtain rfl := Option.some.inj H
     go_wp2
     go_ret
     exact ⟨by first | rfl | (simp; done) | (simp [*]; done), by repeat (first | exact Drawn0.refl _ | apply Drawn0.step)⟩

end Go.Proofs.Ytdbjoopkliafeaa.P

end
section
namespace Go.Proofs.Ytdbjoopkliafeaa.P
open Go Go.RowKit Go.Proofs.YtdbjoopkliafeaaW.PrintWords Go.Proofs.YtdbjoopkliafeaaW.PrintLast Go.Proofs.YtdbjoopkliafeaaW.PrintMore
attribute [local go_sem] max2_int min2_int max_two min_two max_three min_three max_four min_four max_five min_eight max_eight   -- for this text's walks alone
set_option linter.unusedVariables false
set_option linter.unusedSimpArgs false

def sawmillref10_beyond.f (a0 : Int) : Option (Bool) := if a0 < (-600) then (some true) else (some (decide (a0 > 600)))
set_option maxHeartbeats 8000000 in
set_option maxRecDepth 100000 in
theorem sawmillref10_beyond.calls (a0 : Int) (r : Bool) (w : World) (h : sawmillref10_beyond.f a0 = some r) :
  Calls Try.prog 62 #[.int .i64 a0] w fun e w' => e = .returned (.bool r) ∧ Drawn0 w w' := by
 have H : (if a0 < (-600) then (some true) else (some (decide (a0 > 600)))) = some r := h
 clear h
 by_cases c2 : a0 < (-600)
 ·rw [if_pos c2] at H
  have c2b0 : decide (a0 < (-600)) = true := decide_eq_true c2
  clear c2
  obtain rfl := Option.some.inj H
  go_enter Try.func62, Try.ntmps62
  go_wp2
  go_ret
  exact ⟨by first | rfl | (simp; done) | (simp [*]; done), by repeat (first | exact Drawn0.refl _ | apply Drawn0.step)⟩
 ·rw [if_neg c2] at H
  have c2b0 : decide (a0 < (-600)) = false := decide_eq_false c2
  clear c2
  obtain rfl := Option.some.inj H
  go_enter Try.func62, Try.ntmps62
  go_wp2
  go_ret
  exact ⟨by first | rfl | (simp; done) | (simp [*]; done), by repeat (first | exact Drawn0.refl _ | apply Drawn0.step)⟩

end Go.Proofs.Ytdbjoopkliafeaa.P

end
section
namespace Go.Proofs.Ytdbjoopkliafeaa.P
open Go Go.RowKit Go.Proofs.YtdbjoopkliafeaaW.PrintWords Go.Proofs.YtdbjoopkliafeaaW.PrintLast Go.Proofs.YtdbjoopkliafeaaW.PrintMore
attribute [local go_sem] max2_int min2_int max_two min_two max_three min_three max_four min_four max_five min_eight max_eight   -- for this text's walks alone
set_option linter.unusedVariables false
set_option linter.unusedSimpArgs false

def sawmillref10_empty.f (a0_0 : Int) (a0_1 : Int) : Option (Bool) := some (decide (a0_0 ≥ a0_1))
set_option maxHeartbeats 8000000 in
set_option maxRecDepth 100000 in
theorem sawmillref10_empty.calls (a0_0 : Int) (a0_1 : Int) (r : Bool) (w : World) (h : sawmillref10_empty.f a0_0 a0_1 = some r) :
  Calls Try.prog 63 #[.agg #[.int .i64 a0_0, .int .i64 a0_1]] w fun e w' => e = .returned (.bool r) ∧ Below w.heap.size w w' := by
 have hu49 := Try.underlying49
 have HB := Aside0.mk (Below.refl w.heap.size w)
 have H : (some (decide (a0_0 ≥ a0_1))) = some r := h
 clear h
 obtain rfl := Option.some.inj H
 go_enter Try.func63, Try.ntmps63
 go_wp2_with (first | ((with_reducible refine gate_dst (N := 1) rfl ?_); refine box_event ?hg (N := 1) ?hd (cs := #[.int .i64 a0_0, .int .i64 a0_1]) (t := 49) ?hr ?_; (case hd => rfl); (case hg => rfl); (case hr => first | (go_simp; done) | (go_simp; rfl)); intro gb63001 hg w2 hbox hb; have n0_ := Aside0.mk (bs_ hb); have n1_ := Aside0.mk (hbox); have n2_ := Aside0.mk ((by rw [hg]; exact bz_ : w.heap.size ≤ gb63001)); have n3_ := Aside0.mk ((by rw [hg]; exact bz_ : w.heap.size ≤ gb63001)); clear HB; have HB := n0_; have BK63001 := n1_; have GW63001 := n2_; have GE63001 := n3_; clear n0_ n1_ n2_ n3_ hb hbox hg; have hcz3_0 : w2.cell? ⟨gb63001, 0, none⟩ = some (.int .i64 a0_0) := (blk_cell BK63001.out 0).trans rfl; have hcz3_1 : w2.cell? ⟨gb63001, 1, none⟩ = some (.int .i64 a0_1) := (blk_cell BK63001.out 1).trans rfl; have hfz3_0 := blk_frozen BK63001.out 0; have hfz3_1 := blk_frozen BK63001.out 1))
 go_ret
 exact ⟨er_, be_⟩

end Go.Proofs.Ytdbjoopkliafeaa.P

end
