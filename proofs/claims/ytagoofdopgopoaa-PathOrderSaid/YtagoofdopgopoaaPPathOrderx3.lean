/- Written by a program of the prover: the functions that a law reaches, as plain Lean functions, each with the proof that the call of the machine comes to it. -/
import Derived.Test.YtagoofdopgopoaaPPathOrderx0
import Derived.Test.YtagoofdopgopoaaPPathOrderx1
import Derived.Test.YtagoofdopgopoaaPPathOrderx2
namespace Go.Proofs.Ytagoofdopgopoaa.PPathOrder
open Go.RowKit Go.Proofs.YtagoofdopgopoaaW.PrintWords Go.Proofs.YtagoofdopgopoaaW.PrintLast Go.Proofs.YtagoofdopgopoaaW.PrintMore
attribute [local go_sem] max2_int min2_int max_two min_two max_three min_three max_four min_four   -- for this text's walks alone
set_option linter.unusedVariables false
set_option linter.unusedSimpArgs false

/-! ### deedboxlaw25_works: function 28 -/
def deedboxlaw25_works.f (k : Nat)  : Option (Bool) := (path_Version.f k 3 (⟨#[107]⟩ : ByteArray) 9).bind fun t274 => ((path_ReadVersion.f k t274).bind fun bt277 => ((path_Upload.f k 3 7).bind fun t280 => ((path_ReadUpload.f k t280).bind fun bt283 => ((path_Part.f k 3 7 5).bind fun t285 => ((path_ReadPart.f k t285).bind fun bt288 => (if bt277.2.2 = true then (if bt277.1.toList = ([107] : List UInt8) then (if bt277.2.1 = 9 then (if bt283.2 = true then (if bt283.1 = 7 then (if bt288.2 = true then (if bt288.1 = 5 then ((path_Names.f k 3 (⟨#[107]⟩ : ByteArray)).bind fun t290 => ((path_Begins.f t274 t290).bind fun t293 => (if t293 = true then ((path_Names.f k 3 (⟨#[]⟩ : ByteArray)).bind fun t294 => ((path_Begins.f t274 t294).bind fun t297 => (if t297 = true then (some false) else ((path_Count.f k).bind fun t298 => (if (strOfNums t298).toList = ([99] : List UInt8) then ((path_Fits.f t274).bind fun t301 => (if t301 = true then ((path_Bucket.f k (⟨#[120]⟩ : ByteArray)).bind fun t302 => (if (strOfNums t302).toList = ([98, 120] : List UInt8) then ((path_Rotate.f k 1).bind fun t305 => (if (t305.length : Int) = 3 then ((path_Next.f k t274).bind fun t308 => (some ((t308.length : Int) == (wrap64 ((t274.length : Int) + 1))))) else (some false))) else (some false))) else (some false))) else (some false)))))) else (some false)))) else (some false)) else (some false)) else (some false)) else (some false)) else (some false)) else (some false)) else (some false)))))))
theorem deedboxlaw25_works.mono : ∀ k, LeO (deedboxlaw25_works.f k ) (deedboxlaw25_works.f (k + 1) ) := by
  intro  k
  unfold deedboxlaw25_works.f
  repeat' first
      | (with_reducible exact path_Bucket.mono _ _)
      | (with_reducible exact path_Count.mono _)
      | (with_reducible exact path_Names.mono _ _ _)
      | (with_reducible exact path_Next.mono _ _)
      | (with_reducible exact path_Part.mono _ _ _ _)
      | (with_reducible exact path_ReadPart.mono _ _)
      | (with_reducible exact path_ReadUpload.mono _ _)
      | (with_reducible exact path_ReadVersion.mono _ _)
      | (with_reducible exact path_Rotate.mono _ _)
      | (with_reducible exact path_Upload.mono _ _ _)
      | (with_reducible exact path_Version.mono _ _ _ _)
      | (with_reducible exact LeO.refl _)
      | (with_reducible exact LeO.none _)
      | (with_reducible refine LeO.ite ?_ ?_)
      | (with_reducible refine LeO.bind ?_ (fun _ => ?_))
      | exact path_Bucket.mono _ _
      | exact path_Count.mono _
      | exact path_Names.mono _ _ _
      | exact path_Next.mono _ _
      | exact path_Part.mono _ _ _ _
      | exact path_ReadPart.mono _ _
      | exact path_ReadUpload.mono _ _
      | exact path_ReadVersion.mono _ _
      | exact path_Rotate.mono _ _
      | exact path_Upload.mono _ _ _
      | exact path_Version.mono _ _ _ _
      | exact LeO.none _
      | refine LeO.ite ?_ ?_
      | refine LeO.bind ?_ (fun _ => ?_)
set_option maxHeartbeats 8000000 in
set_option maxRecDepth 100000 in
theorem deedboxlaw25_works.calls (k : Nat)  (r : Bool) (w : World) (h : deedboxlaw25_works.f k  = some r) (hr_ : Aside0 (r = true)) :
    Calls Try.prog 28 #[] w fun e w' => e = .returned (.bool r) ∧ Below w.heap.size w w' := by
  have HB := Aside0.mk (Below.refl w.heap.size w)
  have H : ((path_Version.f k 3 (⟨#[107]⟩ : ByteArray) 9).bind fun t274 => ((path_ReadVersion.f k t274).bind fun bt277 => ((path_Upload.f k 3 7).bind fun t280 => ((path_ReadUpload.f k t280).bind fun bt283 => ((path_Part.f k 3 7 5).bind fun t285 => ((path_ReadPart.f k t285).bind fun bt288 => (if bt277.2.2 = true then (if bt277.1.toList = ([107] : List UInt8) then (if bt277.2.1 = 9 then (if bt283.2 = true then (if bt283.1 = 7 then (if bt288.2 = true then (if bt288.1 = 5 then ((path_Names.f k 3 (⟨#[107]⟩ : ByteArray)).bind fun t290 => ((path_Begins.f t274 t290).bind fun t293 => (if t293 = true then ((path_Names.f k 3 (⟨#[]⟩ : ByteArray)).bind fun t294 => ((path_Begins.f t274 t294).bind fun t297 => (if t297 = true then (some false) else ((path_Count.f k).bind fun t298 => (if (strOfNums t298).toList = ([99] : List UInt8) then ((path_Fits.f t274).bind fun t301 => (if t301 = true then ((path_Bucket.f k (⟨#[120]⟩ : ByteArray)).bind fun t302 => (if (strOfNums t302).toList = ([98, 120] : List UInt8) then ((path_Rotate.f k 1).bind fun t305 => (if (t305.length : Int) = 3 then ((path_Next.f k t274).bind fun t308 => (some ((t308.length : Int) == (wrap64 ((t274.length : Int) + 1))))) else (some false))) else (some false))) else (some false))) else (some false)))))) else (some false)))) else (some false)) else (some false)) else (some false)) else (some false)) else (some false)) else (some false)) else (some false)))))))) = some r := h
  clear h
  replace H := Option.bind_eq_some_iff.mp H
  obtain ⟨t274, A10, H⟩ := H
  replace H : ((path_ReadVersion.f k t274).bind fun bt277 => ((path_Upload.f k 3 7).bind fun t280 => ((path_ReadUpload.f k t280).bind fun bt283 => ((path_Part.f k 3 7 5).bind fun t285 => ((path_ReadPart.f k t285).bind fun bt288 => (if bt277.2.2 = true then (if bt277.1.toList = ([107] : List UInt8) then (if bt277.2.1 = 9 then (if bt283.2 = true then (if bt283.1 = 7 then (if bt288.2 = true then (if bt288.1 = 5 then ((path_Names.f k 3 (⟨#[107]⟩ : ByteArray)).bind fun t290 => ((path_Begins.f t274 t290).bind fun t293 => (if t293 = true then ((path_Names.f k 3 (⟨#[]⟩ : ByteArray)).bind fun t294 => ((path_Begins.f t274 t294).bind fun t297 => (if t297 = true then (some false) else ((path_Count.f k).bind fun t298 => (if (strOfNums t298).toList = ([99] : List UInt8) then ((path_Fits.f t274).bind fun t301 => (if t301 = true then ((path_Bucket.f k (⟨#[120]⟩ : ByteArray)).bind fun t302 => (if (strOfNums t302).toList = ([98, 120] : List UInt8) then ((path_Rotate.f k 1).bind fun t305 => (if (t305.length : Int) = 3 then ((path_Next.f k t274).bind fun t308 => (some ((t308.length : Int) == (wrap64 ((t274.length : Int) + 1))))) else (some false))) else (some false))) else (some false))) else (some false)))))) else (some false)))) else (some false)) else (some false)) else (some false)) else (some false)) else (some false)) else (some false)) else (some false))))))) = some r := H
  have A1 := Aside0.mk A10
  clear A10
  replace H := Option.bind_eq_some_iff.mp H
  obtain ⟨⟨t277, t278, t279⟩, A20, H⟩ := H
  replace H : ((path_Upload.f k 3 7).bind fun t280 => ((path_ReadUpload.f k t280).bind fun bt283 => ((path_Part.f k 3 7 5).bind fun t285 => ((path_ReadPart.f k t285).bind fun bt288 => (if t279 = true then (if t277.toList = ([107] : List UInt8) then (if t278 = 9 then (if bt283.2 = true then (if bt283.1 = 7 then (if bt288.2 = true then (if bt288.1 = 5 then ((path_Names.f k 3 (⟨#[107]⟩ : ByteArray)).bind fun t290 => ((path_Begins.f t274 t290).bind fun t293 => (if t293 = true then ((path_Names.f k 3 (⟨#[]⟩ : ByteArray)).bind fun t294 => ((path_Begins.f t274 t294).bind fun t297 => (if t297 = true then (some false) else ((path_Count.f k).bind fun t298 => (if (strOfNums t298).toList = ([99] : List UInt8) then ((path_Fits.f t274).bind fun t301 => (if t301 = true then ((path_Bucket.f k (⟨#[120]⟩ : ByteArray)).bind fun t302 => (if (strOfNums t302).toList = ([98, 120] : List UInt8) then ((path_Rotate.f k 1).bind fun t305 => (if (t305.length : Int) = 3 then ((path_Next.f k t274).bind fun t308 => (some ((t308.length : Int) == (wrap64 ((t274.length : Int) + 1))))) else (some false))) else (some false))) else (some false))) else (some false)))))) else (some false)))) else (some false)) else (some false)) else (some false)) else (some false)) else (some false)) else (some false)) else (some false)))))) = some r := H
  have A2 := Aside0.mk A20
  clear A20
  replace H := Option.bind_eq_some_iff.mp H
  obtain ⟨t280, A30, H⟩ := H
  replace H : ((path_ReadUpload.f k t280).bind fun bt283 => ((path_Part.f k 3 7 5).bind fun t285 => ((path_ReadPart.f k t285).bind fun bt288 => (if t279 = true then (if t277.toList = ([107] : List UInt8) then (if t278 = 9 then (if bt283.2 = true then (if bt283.1 = 7 then (if bt288.2 = true then (if bt288.1 = 5 then ((path_Names.f k 3 (⟨#[107]⟩ : ByteArray)).bind fun t290 => ((path_Begins.f t274 t290).bind fun t293 => (if t293 = true then ((path_Names.f k 3 (⟨#[]⟩ : ByteArray)).bind fun t294 => ((path_Begins.f t274 t294).bind fun t297 => (if t297 = true then (some false) else ((path_Count.f k).bind fun t298 => (if (strOfNums t298).toList = ([99] : List UInt8) then ((path_Fits.f t274).bind fun t301 => (if t301 = true then ((path_Bucket.f k (⟨#[120]⟩ : ByteArray)).bind fun t302 => (if (strOfNums t302).toList = ([98, 120] : List UInt8) then ((path_Rotate.f k 1).bind fun t305 => (if (t305.length : Int) = 3 then ((path_Next.f k t274).bind fun t308 => (some ((t308.length : Int) == (wrap64 ((t274.length : Int) + 1))))) else (some false))) else (some false))) else (some false))) else (some false)))))) else (some false)))) else (some false)) else (some false)) else (some false)) else (some false)) else (some false)) else (some false)) else (some false))))) = some r := H
  have A3 := Aside0.mk A30
  clear A30
  replace H := Option.bind_eq_some_iff.mp H
  obtain ⟨⟨t283, t284⟩, A40, H⟩ := H
  replace H : ((path_Part.f k 3 7 5).bind fun t285 => ((path_ReadPart.f k t285).bind fun bt288 => (if t279 = true then (if t277.toList = ([107] : List UInt8) then (if t278 = 9 then (if t284 = true then (if t283 = 7 then (if bt288.2 = true then (if bt288.1 = 5 then ((path_Names.f k 3 (⟨#[107]⟩ : ByteArray)).bind fun t290 => ((path_Begins.f t274 t290).bind fun t293 => (if t293 = true then ((path_Names.f k 3 (⟨#[]⟩ : ByteArray)).bind fun t294 => ((path_Begins.f t274 t294).bind fun t297 => (if t297 = true then (some false) else ((path_Count.f k).bind fun t298 => (if (strOfNums t298).toList = ([99] : List UInt8) then ((path_Fits.f t274).bind fun t301 => (if t301 = true then ((path_Bucket.f k (⟨#[120]⟩ : ByteArray)).bind fun t302 => (if (strOfNums t302).toList = ([98, 120] : List UInt8) then ((path_Rotate.f k 1).bind fun t305 => (if (t305.length : Int) = 3 then ((path_Next.f k t274).bind fun t308 => (some ((t308.length : Int) == (wrap64 ((t274.length : Int) + 1))))) else (some false))) else (some false))) else (some false))) else (some false)))))) else (some false)))) else (some false)) else (some false)) else (some false)) else (some false)) else (some false)) else (some false)) else (some false)))) = some r := H
  have A4 := Aside0.mk A40
  clear A40
  replace H := Option.bind_eq_some_iff.mp H
  obtain ⟨t285, A50, H⟩ := H
  replace H : ((path_ReadPart.f k t285).bind fun bt288 => (if t279 = true then (if t277.toList = ([107] : List UInt8) then (if t278 = 9 then (if t284 = true then (if t283 = 7 then (if bt288.2 = true then (if bt288.1 = 5 then ((path_Names.f k 3 (⟨#[107]⟩ : ByteArray)).bind fun t290 => ((path_Begins.f t274 t290).bind fun t293 => (if t293 = true then ((path_Names.f k 3 (⟨#[]⟩ : ByteArray)).bind fun t294 => ((path_Begins.f t274 t294).bind fun t297 => (if t297 = true then (some false) else ((path_Count.f k).bind fun t298 => (if (strOfNums t298).toList = ([99] : List UInt8) then ((path_Fits.f t274).bind fun t301 => (if t301 = true then ((path_Bucket.f k (⟨#[120]⟩ : ByteArray)).bind fun t302 => (if (strOfNums t302).toList = ([98, 120] : List UInt8) then ((path_Rotate.f k 1).bind fun t305 => (if (t305.length : Int) = 3 then ((path_Next.f k t274).bind fun t308 => (some ((t308.length : Int) == (wrap64 ((t274.length : Int) + 1))))) else (some false))) else (some false))) else (some false))) else (some false)))))) else (some false)))) else (some false)) else (some false)) else (some false)) else (some false)) else (some false)) else (some false)) else (some false))) = some r := H
  have A5 := Aside0.mk A50
  clear A50
  replace H := Option.bind_eq_some_iff.mp H
  obtain ⟨⟨t288, t289⟩, A60, H⟩ := H
  replace H : (if t279 = true then (if t277.toList = ([107] : List UInt8) then (if t278 = 9 then (if t284 = true then (if t283 = 7 then (if t289 = true then (if t288 = 5 then ((path_Names.f k 3 (⟨#[107]⟩ : ByteArray)).bind fun t290 => ((path_Begins.f t274 t290).bind fun t293 => (if t293 = true then ((path_Names.f k 3 (⟨#[]⟩ : ByteArray)).bind fun t294 => ((path_Begins.f t274 t294).bind fun t297 => (if t297 = true then (some false) else ((path_Count.f k).bind fun t298 => (if (strOfNums t298).toList = ([99] : List UInt8) then ((path_Fits.f t274).bind fun t301 => (if t301 = true then ((path_Bucket.f k (⟨#[120]⟩ : ByteArray)).bind fun t302 => (if (strOfNums t302).toList = ([98, 120] : List UInt8) then ((path_Rotate.f k 1).bind fun t305 => (if (t305.length : Int) = 3 then ((path_Next.f k t274).bind fun t308 => (some ((t308.length : Int) == (wrap64 ((t274.length : Int) + 1))))) else (some false))) else (some false))) else (some false))) else (some false)))))) else (some false)))) else (some false)) else (some false)) else (some false)) else (some false)) else (some false)) else (some false)) else (some false)) = some r := H
  have A6 := Aside0.mk A60
  clear A60
  by_cases c7 : t279 = true
  · subst c7
    have H1 : (if t277.toList = ([107] : List UInt8) then (if t278 = 9 then (if t284 = true then (if t283 = 7 then (if t289 = true then (if t288 = 5 then ((path_Names.f k 3 (⟨#[107]⟩ : ByteArray)).bind fun t290 => ((path_Begins.f t274 t290).bind fun t293 => (if t293 = true then ((path_Names.f k 3 (⟨#[]⟩ : ByteArray)).bind fun t294 => ((path_Begins.f t274 t294).bind fun t297 => (if t297 = true then (some false) else ((path_Count.f k).bind fun t298 => (if (strOfNums t298).toList = ([99] : List UInt8) then ((path_Fits.f t274).bind fun t301 => (if t301 = true then ((path_Bucket.f k (⟨#[120]⟩ : ByteArray)).bind fun t302 => (if (strOfNums t302).toList = ([98, 120] : List UInt8) then ((path_Rotate.f k 1).bind fun t305 => (if (t305.length : Int) = 3 then ((path_Next.f k t274).bind fun t308 => (some ((t308.length : Int) == (wrap64 ((t274.length : Int) + 1))))) else (some false))) else (some false))) else (some false))) else (some false)))))) else (some false)))) else (some false)) else (some false)) else (some false)) else (some false)) else (some false)) else (some false)) = some r := by rw [if_pos rfl] at H; exact H
    clear H
    have H := H1
    clear H1
    by_cases c8 : t277.toList = ([107] : List UInt8)
    · rw [if_pos c8] at H
      have c8b0 : (t277.toList == ([107] : List UInt8)) = true := beq_iff_eq.mpr c8
      have c8b1 : (t277.toList != ([107] : List UInt8)) = false := bne_eq_false_iff_eq.mpr c8
      clear c8
      by_cases c9 : t278 = 9
      · rw [if_pos c9] at H
        have c9b0 : (t278 == 9) = true := beq_iff_eq.mpr c9
        have c9b1 : (t278 != 9) = false := bne_eq_false_iff_eq.mpr c9
        clear c9
        by_cases c10 : t284 = true
        · subst c10
          have H1 : (if t283 = 7 then (if t289 = true then (if t288 = 5 then ((path_Names.f k 3 (⟨#[107]⟩ : ByteArray)).bind fun t290 => ((path_Begins.f t274 t290).bind fun t293 => (if t293 = true then ((path_Names.f k 3 (⟨#[]⟩ : ByteArray)).bind fun t294 => ((path_Begins.f t274 t294).bind fun t297 => (if t297 = true then (some false) else ((path_Count.f k).bind fun t298 => (if (strOfNums t298).toList = ([99] : List UInt8) then ((path_Fits.f t274).bind fun t301 => (if t301 = true then ((path_Bucket.f k (⟨#[120]⟩ : ByteArray)).bind fun t302 => (if (strOfNums t302).toList = ([98, 120] : List UInt8) then ((path_Rotate.f k 1).bind fun t305 => (if (t305.length : Int) = 3 then ((path_Next.f k t274).bind fun t308 => (some ((t308.length : Int) == (wrap64 ((t274.length : Int) + 1))))) else (some false))) else (some false))) else (some false))) else (some false)))))) else (some false)))) else (some false)) else (some false)) else (some false)) = some r := by rw [if_pos rfl] at H; exact H
          clear H
          have H := H1
          clear H1
          by_cases c11 : t283 = 7
          · rw [if_pos c11] at H
            have c11b0 : (t283 == 7) = true := beq_iff_eq.mpr c11
            have c11b1 : (t283 != 7) = false := bne_eq_false_iff_eq.mpr c11
            clear c11
            by_cases c12 : t289 = true
            · subst c12
              have H1 : (if t288 = 5 then ((path_Names.f k 3 (⟨#[107]⟩ : ByteArray)).bind fun t290 => ((path_Begins.f t274 t290).bind fun t293 => (if t293 = true then ((path_Names.f k 3 (⟨#[]⟩ : ByteArray)).bind fun t294 => ((path_Begins.f t274 t294).bind fun t297 => (if t297 = true then (some false) else ((path_Count.f k).bind fun t298 => (if (strOfNums t298).toList = ([99] : List UInt8) then ((path_Fits.f t274).bind fun t301 => (if t301 = true then ((path_Bucket.f k (⟨#[120]⟩ : ByteArray)).bind fun t302 => (if (strOfNums t302).toList = ([98, 120] : List UInt8) then ((path_Rotate.f k 1).bind fun t305 => (if (t305.length : Int) = 3 then ((path_Next.f k t274).bind fun t308 => (some ((t308.length : Int) == (wrap64 ((t274.length : Int) + 1))))) else (some false))) else (some false))) else (some false))) else (some false)))))) else (some false)))) else (some false)) = some r := by rw [if_pos rfl] at H; exact H
              clear H
              have H := H1
              clear H1
              by_cases c13 : t288 = 5
              · rw [if_pos c13] at H
                have c13b0 : (t288 == 5) = true := beq_iff_eq.mpr c13
                have c13b1 : (t288 != 5) = false := bne_eq_false_iff_eq.mpr c13
                clear c13
                replace H := Option.bind_eq_some_iff.mp H
                obtain ⟨t290, A140, H⟩ := H
                replace H : ((path_Begins.f t274 t290).bind fun t293 => (if t293 = true then ((path_Names.f k 3 (⟨#[]⟩ : ByteArray)).bind fun t294 => ((path_Begins.f t274 t294).bind fun t297 => (if t297 = true then (some false) else ((path_Count.f k).bind fun t298 => (if (strOfNums t298).toList = ([99] : List UInt8) then ((path_Fits.f t274).bind fun t301 => (if t301 = true then ((path_Bucket.f k (⟨#[120]⟩ : ByteArray)).bind fun t302 => (if (strOfNums t302).toList = ([98, 120] : List UInt8) then ((path_Rotate.f k 1).bind fun t305 => (if (t305.length : Int) = 3 then ((path_Next.f k t274).bind fun t308 => (some ((t308.length : Int) == (wrap64 ((t274.length : Int) + 1))))) else (some false))) else (some false))) else (some false))) else (some false)))))) else (some false))) = some r := H
                have A14 := Aside0.mk A140
                clear A140
                replace H := Option.bind_eq_some_iff.mp H
                obtain ⟨t293, A150, H⟩ := H
                replace H : (if t293 = true then ((path_Names.f k 3 (⟨#[]⟩ : ByteArray)).bind fun t294 => ((path_Begins.f t274 t294).bind fun t297 => (if t297 = true then (some false) else ((path_Count.f k).bind fun t298 => (if (strOfNums t298).toList = ([99] : List UInt8) then ((path_Fits.f t274).bind fun t301 => (if t301 = true then ((path_Bucket.f k (⟨#[120]⟩ : ByteArray)).bind fun t302 => (if (strOfNums t302).toList = ([98, 120] : List UInt8) then ((path_Rotate.f k 1).bind fun t305 => (if (t305.length : Int) = 3 then ((path_Next.f k t274).bind fun t308 => (some ((t308.length : Int) == (wrap64 ((t274.length : Int) + 1))))) else (some false))) else (some false))) else (some false))) else (some false)))))) else (some false)) = some r := H
                have A15 := Aside0.mk A150
                clear A150
                by_cases c16 : t293 = true
                · subst c16
                  have H1 : ((path_Names.f k 3 (⟨#[]⟩ : ByteArray)).bind fun t294 => ((path_Begins.f t274 t294).bind fun t297 => (if t297 = true then (some false) else ((path_Count.f k).bind fun t298 => (if (strOfNums t298).toList = ([99] : List UInt8) then ((path_Fits.f t274).bind fun t301 => (if t301 = true then ((path_Bucket.f k (⟨#[120]⟩ : ByteArray)).bind fun t302 => (if (strOfNums t302).toList = ([98, 120] : List UInt8) then ((path_Rotate.f k 1).bind fun t305 => (if (t305.length : Int) = 3 then ((path_Next.f k t274).bind fun t308 => (some ((t308.length : Int) == (wrap64 ((t274.length : Int) + 1))))) else (some false))) else (some false))) else (some false))) else (some false)))))) = some r := by rw [if_pos rfl] at H; exact H
                  clear H
                  have H := H1
                  clear H1
                  replace H := Option.bind_eq_some_iff.mp H
                  obtain ⟨t294, A170, H⟩ := H
                  replace H : ((path_Begins.f t274 t294).bind fun t297 => (if t297 = true then (some false) else ((path_Count.f k).bind fun t298 => (if (strOfNums t298).toList = ([99] : List UInt8) then ((path_Fits.f t274).bind fun t301 => (if t301 = true then ((path_Bucket.f k (⟨#[120]⟩ : ByteArray)).bind fun t302 => (if (strOfNums t302).toList = ([98, 120] : List UInt8) then ((path_Rotate.f k 1).bind fun t305 => (if (t305.length : Int) = 3 then ((path_Next.f k t274).bind fun t308 => (some ((t308.length : Int) == (wrap64 ((t274.length : Int) + 1))))) else (some false))) else (some false))) else (some false))) else (some false))))) = some r := H
                  have A17 := Aside0.mk A170
                  clear A170
                  replace H := Option.bind_eq_some_iff.mp H
                  obtain ⟨t297, A180, H⟩ := H
                  replace H : (if t297 = true then (some false) else ((path_Count.f k).bind fun t298 => (if (strOfNums t298).toList = ([99] : List UInt8) then ((path_Fits.f t274).bind fun t301 => (if t301 = true then ((path_Bucket.f k (⟨#[120]⟩ : ByteArray)).bind fun t302 => (if (strOfNums t302).toList = ([98, 120] : List UInt8) then ((path_Rotate.f k 1).bind fun t305 => (if (t305.length : Int) = 3 then ((path_Next.f k t274).bind fun t308 => (some ((t308.length : Int) == (wrap64 ((t274.length : Int) + 1))))) else (some false))) else (some false))) else (some false))) else (some false)))) = some r := H
                  have A18 := Aside0.mk A180
                  clear A180
                  by_cases c19 : t297 = true
                  · subst c19
                    have H1 : (some false) = some r := by rw [if_pos rfl] at H; exact H
                    clear H
                    have H := H1
                    clear H1
                    obtain rfl := Option.some.inj H
                    exact absurd hr_.out (by simp)
                  · replace c19 := Bool.eq_false_iff.mpr c19
                    subst c19
                    have H1 : ((path_Count.f k).bind fun t298 => (if (strOfNums t298).toList = ([99] : List UInt8) then ((path_Fits.f t274).bind fun t301 => (if t301 = true then ((path_Bucket.f k (⟨#[120]⟩ : ByteArray)).bind fun t302 => (if (strOfNums t302).toList = ([98, 120] : List UInt8) then ((path_Rotate.f k 1).bind fun t305 => (if (t305.length : Int) = 3 then ((path_Next.f k t274).bind fun t308 => (some ((t308.length : Int) == (wrap64 ((t274.length : Int) + 1))))) else (some false))) else (some false))) else (some false))) else (some false))) = some r := by rw [if_neg (show ¬ (false = true) by decide)] at H; exact H
                    clear H
                    have H := H1
                    clear H1
                    replace H := Option.bind_eq_some_iff.mp H
                    obtain ⟨t298, A200, H⟩ := H
                    replace H : (if (strOfNums t298).toList = ([99] : List UInt8) then ((path_Fits.f t274).bind fun t301 => (if t301 = true then ((path_Bucket.f k (⟨#[120]⟩ : ByteArray)).bind fun t302 => (if (strOfNums t302).toList = ([98, 120] : List UInt8) then ((path_Rotate.f k 1).bind fun t305 => (if (t305.length : Int) = 3 then ((path_Next.f k t274).bind fun t308 => (some ((t308.length : Int) == (wrap64 ((t274.length : Int) + 1))))) else (some false))) else (some false))) else (some false))) else (some false)) = some r := H
                    have A20 := Aside0.mk A200
                    clear A200
                    by_cases c21 : (strOfNums t298).toList = ([99] : List UInt8)
                    · rw [if_pos c21] at H
                      have c21b0 : ((strOfNums t298).toList == ([99] : List UInt8)) = true := beq_iff_eq.mpr c21
                      have c21b1 : ((strOfNums t298).toList != ([99] : List UInt8)) = false := bne_eq_false_iff_eq.mpr c21
                      clear c21
                      replace H := Option.bind_eq_some_iff.mp H
                      obtain ⟨t301, A220, H⟩ := H
                      replace H : (if t301 = true then ((path_Bucket.f k (⟨#[120]⟩ : ByteArray)).bind fun t302 => (if (strOfNums t302).toList = ([98, 120] : List UInt8) then ((path_Rotate.f k 1).bind fun t305 => (if (t305.length : Int) = 3 then ((path_Next.f k t274).bind fun t308 => (some ((t308.length : Int) == (wrap64 ((t274.length : Int) + 1))))) else (some false))) else (some false))) else (some false)) = some r := H
                      have A22 := Aside0.mk A220
                      clear A220
                      by_cases c23 : t301 = true
                      · subst c23
                        have H1 : ((path_Bucket.f k (⟨#[120]⟩ : ByteArray)).bind fun t302 => (if (strOfNums t302).toList = ([98, 120] : List UInt8) then ((path_Rotate.f k 1).bind fun t305 => (if (t305.length : Int) = 3 then ((path_Next.f k t274).bind fun t308 => (some ((t308.length : Int) == (wrap64 ((t274.length : Int) + 1))))) else (some false))) else (some false))) = some r := by rw [if_pos rfl] at H; exact H
                        clear H
                        have H := H1
                        clear H1
                        replace H := Option.bind_eq_some_iff.mp H
                        obtain ⟨t302, A240, H⟩ := H
                        replace H : (if (strOfNums t302).toList = ([98, 120] : List UInt8) then ((path_Rotate.f k 1).bind fun t305 => (if (t305.length : Int) = 3 then ((path_Next.f k t274).bind fun t308 => (some ((t308.length : Int) == (wrap64 ((t274.length : Int) + 1))))) else (some false))) else (some false)) = some r := H
                        have A24 := Aside0.mk A240
                        clear A240
                        by_cases c25 : (strOfNums t302).toList = ([98, 120] : List UInt8)
                        · rw [if_pos c25] at H
                          have c25b0 : ((strOfNums t302).toList == ([98, 120] : List UInt8)) = true := beq_iff_eq.mpr c25
                          have c25b1 : ((strOfNums t302).toList != ([98, 120] : List UInt8)) = false := bne_eq_false_iff_eq.mpr c25
                          clear c25
                          replace H := Option.bind_eq_some_iff.mp H
                          obtain ⟨t305, A260, H⟩ := H
                          replace H : (if (t305.length : Int) = 3 then ((path_Next.f k t274).bind fun t308 => (some ((t308.length : Int) == (wrap64 ((t274.length : Int) + 1))))) else (some false)) = some r := H
                          have A26 := Aside0.mk A260
                          clear A260
                          by_cases c27 : (t305.length : Int) = 3
                          · rw [if_pos c27] at H
                            have c27b0 : ((t305.length : Int) == 3) = true := beq_iff_eq.mpr c27
                            have c27b1 : ((t305.length : Int) != 3) = false := bne_eq_false_iff_eq.mpr c27
                            clear c27
                            replace H := Option.bind_eq_some_iff.mp H
                            obtain ⟨t308, A280, H⟩ := H
                            replace H : (some ((t308.length : Int) == (wrap64 ((t274.length : Int) + 1)))) = some r := H
                            have A28 := Aside0.mk A280
                            clear A280
                            obtain rfl := Option.some.inj H
                            go_enter Try.func28, Try.ntmps28
                            go_wp2_with (first | ((with_reducible refine gate_callee (f := 32) rfl ?_); refine goesL_ (some 9) rfl rfl Try.func32 (by kernel_rfl) rfl #[.int .i64 3, .string (⟨#[107]⟩ : ByteArray), .int .i64 9] rfl (by (try simp only [List.map_toArray, List.map_cons, List.map_nil]); first | done | rfl | (simp only [List.length_drop, List.length_take]; rfl)) ?_; (with_reducible refine (path_Version.calls k 3 (⟨#[107]⟩ : ByteArray) 9 t274 _ A1.out).mono ?_); rintro e w29 ⟨v275, rfl, ho0, hb⟩; refine ⟨_, rfl, ?_⟩; have n0_ := Aside0.mk (Kd.R_lower ho0 (below_size (by repeat (first | (with_reducible first | exact HB.out | apply below_alloc | apply pw_below_drewN | apply below_drew1) | exact HB.out)))); have n1_ := Aside0.mk (below_step (by repeat (first | (with_reducible first | exact HB.out | apply below_alloc | apply pw_below_drewN | apply below_drew1) | exact HB.out)) hb); clear HB; have HO276 := n0_; have HB := n1_; clear n0_ n1_; (try clear hb); (try clear hb2); (try clear hk); (try clear hi); (try clear ho0); obtain ⟨Ao30, co30, eo30⟩ := Kd.R_slice HO276.out; subst eo30) | ((with_reducible refine gate_callee (f := 43) rfl ?_); refine goesL_ (some 12) rfl rfl Try.func43 (by kernel_rfl) rfl #[.slice Ao30 t274.length co30] rfl (by (try simp only [List.map_toArray, List.map_cons, List.map_nil]); first | done | rfl | (simp only [List.length_drop, List.length_take]; rfl)) ?_; (with_reducible refine (path_ReadVersion.calls k _ _ t274 t277 t278 true _ ?side1 ?side2 A2.out).mono ?_); (case side1 => repeat (first | exact (Kd.R_reads' HO276.out).2.2 | (with_reducible refine Kd.C_alloc ?_ _) | (with_reducible refine Kd.C_drewN ?_ _) | (with_reducible refine Kd.C_drew ?_))); (case side2 => exact (Kd.R_reads' HO276.out).2.1); rintro e w' ⟨rfl, ⟨nd, rfl⟩⟩; refine ⟨_, rfl, ?_⟩) | ((with_reducible refine gate_callee (f := 35) rfl ?_); refine goesL_ (some 17) rfl rfl Try.func35 (by kernel_rfl) rfl #[.int .i64 3, .int .i64 7] rfl (by (try simp only [List.map_toArray, List.map_cons, List.map_nil]); first | done | rfl | (simp only [List.length_drop, List.length_take]; rfl)) ?_; (with_reducible refine (path_Upload.calls k 3 7 t280 _ A3.out).mono ?_); rintro e w31 ⟨v281, rfl, ho0, hb⟩; refine ⟨_, rfl, ?_⟩; have n0_ := Aside0.mk (Kd.R_elder' (by (with_reducible repeat (first | apply Kd.R_alloc | apply Kd.R_drewN | apply Kd.R_drew)); exact HO276.out) (Kd.R_base ho0) hb); have n1_ := Aside0.mk (Kd.R_lower (Kd.R_new' ho0 (Kd.R_lt (by (with_reducible repeat (first | apply Kd.R_alloc | apply Kd.R_drewN | apply Kd.R_drew)); exact HO276.out))) (below_size (by repeat (first | (with_reducible first | exact HB.out | apply below_alloc | apply pw_below_drewN | apply below_drew1) | exact HB.out)))); have n2_ := Aside0.mk (below_step (by repeat (first | (with_reducible first | exact HB.out | apply below_alloc | apply pw_below_drewN | apply below_drew1) | exact HB.out)) hb); clear HO276; clear HB; have HO276 := n0_; have HO282 := n1_; have HB := n2_; clear n0_ n1_ n2_; (try clear hb); (try clear hb2); (try clear hk); (try clear hi); (try clear ho0); obtain ⟨Ao32, co32, eo32⟩ := Kd.R_slice HO282.out; subst eo32) | ((with_reducible refine gate_callee (f := 44) rfl ?_); refine goesL_ (some 18) rfl rfl Try.func44 (by kernel_rfl) rfl #[.slice Ao32 t280.length co32] rfl (by (try simp only [List.map_toArray, List.map_cons, List.map_nil]); first | done | rfl | (simp only [List.length_drop, List.length_take]; rfl)) ?_; (with_reducible refine (path_ReadUpload.calls k _ _ t280 t283 true _ ?side1 ?side2 A4.out).mono ?_); (case side1 => repeat (first | exact (Kd.R_reads' HO282.out).2.2 | (with_reducible refine Kd.C_alloc ?_ _) | (with_reducible refine Kd.C_drewN ?_ _) | (with_reducible refine Kd.C_drew ?_))); (case side2 => exact (Kd.R_reads' HO282.out).2.1); rintro e w' ⟨rfl, ⟨nd, rfl⟩⟩; refine ⟨_, rfl, ?_⟩) | ((with_reducible refine gate_callee (f := 37) rfl ?_); refine goesL_ (some 22) rfl rfl Try.func37 (by kernel_rfl) rfl #[.int .i64 3, .int .i64 7, .int .i64 5] rfl (by (try simp only [List.map_toArray, List.map_cons, List.map_nil]); first | done | rfl | (simp only [List.length_drop, List.length_take]; rfl)) ?_; (with_reducible refine (path_Part.calls k 3 7 5 t285 _ A5.out).mono ?_); rintro e w33 ⟨v286, rfl, ho0, hb⟩; refine ⟨_, rfl, ?_⟩; have n0_ := Aside0.mk (Kd.R_elder' (by (with_reducible repeat (first | apply Kd.R_alloc | apply Kd.R_drewN | apply Kd.R_drew)); exact HO276.out) (Kd.R_base ho0) hb); have n1_ := Aside0.mk (Kd.R_elder' (by (with_reducible repeat (first | apply Kd.R_alloc | apply Kd.R_drewN | apply Kd.R_drew)); exact HO282.out) (Kd.R_base ho0) hb); have n2_ := Aside0.mk (Kd.R_lower (Kd.R_new' (Kd.R_new' ho0 (Kd.R_lt (by (with_reducible repeat (first | apply Kd.R_alloc | apply Kd.R_drewN | apply Kd.R_drew)); exact HO276.out))) (Kd.R_lt (by (with_reducible repeat (first | apply Kd.R_alloc | apply Kd.R_drewN | apply Kd.R_drew)); exact HO282.out))) (below_size (by repeat (first | (with_reducible first | exact HB.out | apply below_alloc | apply pw_below_drewN | apply below_drew1) | exact HB.out)))); have n3_ := Aside0.mk (below_step (by repeat (first | (with_reducible first | exact HB.out | apply below_alloc | apply pw_below_drewN | apply below_drew1) | exact HB.out)) hb); clear HO276; clear HO282; clear HB; have HO276 := n0_; have HO282 := n1_; have HO287 := n2_; have HB := n3_; clear n0_ n1_ n2_ n3_; (try clear hb); (try clear hb2); (try clear hk); (try clear hi); (try clear ho0); obtain ⟨Ao34, co34, eo34⟩ := Kd.R_slice HO287.out; subst eo34) | ((with_reducible refine gate_callee (f := 45) rfl ?_); refine goesL_ (some 23) rfl rfl Try.func45 (by kernel_rfl) rfl #[.slice Ao34 t285.length co34] rfl (by (try simp only [List.map_toArray, List.map_cons, List.map_nil]); first | done | rfl | (simp only [List.length_drop, List.length_take]; rfl)) ?_; (with_reducible refine (path_ReadPart.calls k _ _ t285 t288 true _ ?side1 ?side2 A6.out).mono ?_); (case side1 => repeat (first | exact (Kd.R_reads' HO287.out).2.2 | (with_reducible refine Kd.C_alloc ?_ _) | (with_reducible refine Kd.C_drewN ?_ _) | (with_reducible refine Kd.C_drew ?_))); (case side2 => exact (Kd.R_reads' HO287.out).2.1); rintro e w' ⟨rfl, ⟨nd, rfl⟩⟩; refine ⟨_, rfl, ?_⟩) | (go_at_call 33; (with_reducible refine (path_Names.calls k 3 (⟨#[107]⟩ : ByteArray) t290 _ A14.out).mono ?_); rintro e w35 ⟨v291, rfl, ho0, hb⟩; have n0_ := Aside0.mk (Kd.R_elder' (by (with_reducible repeat (first | apply Kd.R_alloc | apply Kd.R_drewN | apply Kd.R_drew)); exact HO276.out) (Kd.R_base ho0) hb); have n1_ := Aside0.mk (Kd.R_elder' (by (with_reducible repeat (first | apply Kd.R_alloc | apply Kd.R_drewN | apply Kd.R_drew)); exact HO282.out) (Kd.R_base ho0) hb); have n2_ := Aside0.mk (Kd.R_elder' (by (with_reducible repeat (first | apply Kd.R_alloc | apply Kd.R_drewN | apply Kd.R_drew)); exact HO287.out) (Kd.R_base ho0) hb); have n3_ := Aside0.mk (Kd.R_lower (Kd.R_new' (Kd.R_new' (Kd.R_new' ho0 (Kd.R_lt (by (with_reducible repeat (first | apply Kd.R_alloc | apply Kd.R_drewN | apply Kd.R_drew)); exact HO276.out))) (Kd.R_lt (by (with_reducible repeat (first | apply Kd.R_alloc | apply Kd.R_drewN | apply Kd.R_drew)); exact HO282.out))) (Kd.R_lt (by (with_reducible repeat (first | apply Kd.R_alloc | apply Kd.R_drewN | apply Kd.R_drew)); exact HO287.out))) (below_size (by repeat (first | (with_reducible first | exact HB.out | apply below_alloc | apply pw_below_drewN | apply below_drew1) | exact HB.out)))); have n4_ := Aside0.mk (below_step (by repeat (first | (with_reducible first | exact HB.out | apply below_alloc | apply pw_below_drewN | apply below_drew1) | exact HB.out)) hb); clear HO276; clear HO282; clear HO287; clear HB; have HO276 := n0_; have HO282 := n1_; have HO287 := n2_; have HO292 := n3_; have HB := n4_; clear n0_ n1_ n2_ n3_ n4_; (try clear hb); (try clear hb2); (try clear hk); (try clear hi); (try clear ho0); obtain ⟨Ao36, co36, eo36⟩ := Kd.R_slice HO292.out; subst eo36) | (go_at_call 48; (with_reducible refine (path_Begins.calls _ _ t274 _ _ t290 true _ ?side1 ?side2 ?side3 ?side4 A15.out).mono ?_); (case side1 => repeat (first | exact (Kd.R_reads' HO276.out).2.2 | (with_reducible refine Kd.C_alloc ?_ _) | (with_reducible refine Kd.C_drewN ?_ _) | (with_reducible refine Kd.C_drew ?_))); (case side2 => exact (Kd.R_reads' HO276.out).2.1); (case side3 => repeat (first | exact (Kd.R_reads' HO292.out).2.2 | (with_reducible refine Kd.C_alloc ?_ _) | (with_reducible refine Kd.C_drewN ?_ _) | (with_reducible refine Kd.C_drew ?_))); (case side4 => exact (Kd.R_reads' HO292.out).2.1); rintro e w' ⟨rfl, ⟨nd, rfl⟩⟩) | (go_at_call 33; (with_reducible refine (path_Names.calls k 3 (⟨#[]⟩ : ByteArray) t294 _ A17.out).mono ?_); rintro e w37 ⟨v295, rfl, ho0, hb⟩; have n0_ := Aside0.mk (Kd.R_elder' (by (with_reducible repeat (first | apply Kd.R_alloc | apply Kd.R_drewN | apply Kd.R_drew)); exact HO276.out) (Kd.R_base ho0) hb); have n1_ := Aside0.mk (Kd.R_elder' (by (with_reducible repeat (first | apply Kd.R_alloc | apply Kd.R_drewN | apply Kd.R_drew)); exact HO282.out) (Kd.R_base ho0) hb); have n2_ := Aside0.mk (Kd.R_elder' (by (with_reducible repeat (first | apply Kd.R_alloc | apply Kd.R_drewN | apply Kd.R_drew)); exact HO287.out) (Kd.R_base ho0) hb); have n3_ := Aside0.mk (Kd.R_elder' (by (with_reducible repeat (first | apply Kd.R_alloc | apply Kd.R_drewN | apply Kd.R_drew)); exact HO292.out) (Kd.R_base ho0) hb); have n4_ := Aside0.mk (Kd.R_lower (Kd.R_new' (Kd.R_new' (Kd.R_new' (Kd.R_new' ho0 (Kd.R_lt (by (with_reducible repeat (first | apply Kd.R_alloc | apply Kd.R_drewN | apply Kd.R_drew)); exact HO276.out))) (Kd.R_lt (by (with_reducible repeat (first | apply Kd.R_alloc | apply Kd.R_drewN | apply Kd.R_drew)); exact HO282.out))) (Kd.R_lt (by (with_reducible repeat (first | apply Kd.R_alloc | apply Kd.R_drewN | apply Kd.R_drew)); exact HO287.out))) (Kd.R_lt (by (with_reducible repeat (first | apply Kd.R_alloc | apply Kd.R_drewN | apply Kd.R_drew)); exact HO292.out))) (below_size (by repeat (first | (with_reducible first | exact HB.out | apply below_alloc | apply pw_below_drewN | apply below_drew1) | exact HB.out)))); have n5_ := Aside0.mk (below_step (by repeat (first | (with_reducible first | exact HB.out | apply below_alloc | apply pw_below_drewN | apply below_drew1) | exact HB.out)) hb); clear HO276; clear HO282; clear HO287; clear HO292; clear HB; have HO276 := n0_; have HO282 := n1_; have HO287 := n2_; have HO292 := n3_; have HO296 := n4_; have HB := n5_; clear n0_ n1_ n2_ n3_ n4_ n5_; (try clear hb); (try clear hb2); (try clear hk); (try clear hi); (try clear ho0); obtain ⟨Ao38, co38, eo38⟩ := Kd.R_slice HO296.out; subst eo38) | (go_at_call 48; (with_reducible refine (path_Begins.calls _ _ t274 _ _ t294 false _ ?side1 ?side2 ?side3 ?side4 A18.out).mono ?_); (case side1 => repeat (first | exact (Kd.R_reads' HO276.out).2.2 | (with_reducible refine Kd.C_alloc ?_ _) | (with_reducible refine Kd.C_drewN ?_ _) | (with_reducible refine Kd.C_drew ?_))); (case side2 => exact (Kd.R_reads' HO276.out).2.1); (case side3 => repeat (first | exact (Kd.R_reads' HO296.out).2.2 | (with_reducible refine Kd.C_alloc ?_ _) | (with_reducible refine Kd.C_drewN ?_ _) | (with_reducible refine Kd.C_drew ?_))); (case side4 => exact (Kd.R_reads' HO296.out).2.1); rintro e w' ⟨rfl, ⟨nd, rfl⟩⟩) | (go_at_call 79; (with_reducible refine (path_Count.calls k  t298 _ A20.out).mono ?_); rintro e w39 ⟨v299, rfl, ho0, hb⟩; have n0_ := Aside0.mk (Kd.R_elder' (by (with_reducible repeat (first | apply Kd.R_alloc | apply Kd.R_drewN | apply Kd.R_drew)); exact HO276.out) (Kd.R_base ho0) hb); have n1_ := Aside0.mk (Kd.R_elder' (by (with_reducible repeat (first | apply Kd.R_alloc | apply Kd.R_drewN | apply Kd.R_drew)); exact HO282.out) (Kd.R_base ho0) hb); have n2_ := Aside0.mk (Kd.R_elder' (by (with_reducible repeat (first | apply Kd.R_alloc | apply Kd.R_drewN | apply Kd.R_drew)); exact HO287.out) (Kd.R_base ho0) hb); have n3_ := Aside0.mk (Kd.R_elder' (by (with_reducible repeat (first | apply Kd.R_alloc | apply Kd.R_drewN | apply Kd.R_drew)); exact HO292.out) (Kd.R_base ho0) hb); have n4_ := Aside0.mk (Kd.R_elder' (by (with_reducible repeat (first | apply Kd.R_alloc | apply Kd.R_drewN | apply Kd.R_drew)); exact HO296.out) (Kd.R_base ho0) hb); have n5_ := Aside0.mk (Kd.R_lower (Kd.R_new' (Kd.R_new' (Kd.R_new' (Kd.R_new' (Kd.R_new' ho0 (Kd.R_lt (by (with_reducible repeat (first | apply Kd.R_alloc | apply Kd.R_drewN | apply Kd.R_drew)); exact HO276.out))) (Kd.R_lt (by (with_reducible repeat (first | apply Kd.R_alloc | apply Kd.R_drewN | apply Kd.R_drew)); exact HO282.out))) (Kd.R_lt (by (with_reducible repeat (first | apply Kd.R_alloc | apply Kd.R_drewN | apply Kd.R_drew)); exact HO287.out))) (Kd.R_lt (by (with_reducible repeat (first | apply Kd.R_alloc | apply Kd.R_drewN | apply Kd.R_drew)); exact HO292.out))) (Kd.R_lt (by (with_reducible repeat (first | apply Kd.R_alloc | apply Kd.R_drewN | apply Kd.R_drew)); exact HO296.out))) (below_size (by repeat (first | (with_reducible first | exact HB.out | apply below_alloc | apply pw_below_drewN | apply below_drew1) | exact HB.out)))); have n6_ := Aside0.mk (below_step (by repeat (first | (with_reducible first | exact HB.out | apply below_alloc | apply pw_below_drewN | apply below_drew1) | exact HB.out)) hb); clear HO276; clear HO282; clear HO287; clear HO292; clear HO296; clear HB; have HO276 := n0_; have HO282 := n1_; have HO287 := n2_; have HO292 := n3_; have HO296 := n4_; have HO300 := n5_; have HB := n6_; clear n0_ n1_ n2_ n3_ n4_ n5_ n6_; (try clear hb); (try clear hb2); (try clear hk); (try clear hi); (try clear ho0); have hcv40 := own_string (P := Try.prog) Try.underlying31 Try.underlying5 Try.underlying9 (Kd.own_of_R HO300.out)) | (go_at_call 46; (with_reducible refine (path_Fits.calls _ _ t274 true _ ?side1 ?side2 A22.out).mono ?_); (case side1 => repeat (first | exact (Kd.R_reads' HO276.out).2.2 | (with_reducible refine Kd.C_alloc ?_ _) | (with_reducible refine Kd.C_drewN ?_ _) | (with_reducible refine Kd.C_drew ?_))); (case side2 => exact (Kd.R_reads' HO276.out).2.1); rintro e w' ⟨rfl, ⟨nd, rfl⟩⟩) | (go_at_call 39; (with_reducible refine (path_Bucket.calls k (⟨#[120]⟩ : ByteArray) t302 _ A24.out).mono ?_); rintro e w41 ⟨v303, rfl, ho0, hb⟩; have n0_ := Aside0.mk (Kd.R_elder' (by (with_reducible repeat (first | apply Kd.R_alloc | apply Kd.R_drewN | apply Kd.R_drew)); exact HO276.out) (Kd.R_base ho0) hb); have n1_ := Aside0.mk (Kd.R_elder' (by (with_reducible repeat (first | apply Kd.R_alloc | apply Kd.R_drewN | apply Kd.R_drew)); exact HO282.out) (Kd.R_base ho0) hb); have n2_ := Aside0.mk (Kd.R_elder' (by (with_reducible repeat (first | apply Kd.R_alloc | apply Kd.R_drewN | apply Kd.R_drew)); exact HO287.out) (Kd.R_base ho0) hb); have n3_ := Aside0.mk (Kd.R_elder' (by (with_reducible repeat (first | apply Kd.R_alloc | apply Kd.R_drewN | apply Kd.R_drew)); exact HO292.out) (Kd.R_base ho0) hb); have n4_ := Aside0.mk (Kd.R_elder' (by (with_reducible repeat (first | apply Kd.R_alloc | apply Kd.R_drewN | apply Kd.R_drew)); exact HO296.out) (Kd.R_base ho0) hb); have n5_ := Aside0.mk (Kd.R_elder' (by (with_reducible repeat (first | apply Kd.R_alloc | apply Kd.R_drewN | apply Kd.R_drew)); exact HO300.out) (Kd.R_base ho0) hb); have n6_ := Aside0.mk (Kd.R_lower (Kd.R_new' (Kd.R_new' (Kd.R_new' (Kd.R_new' (Kd.R_new' (Kd.R_new' ho0 (Kd.R_lt (by (with_reducible repeat (first | apply Kd.R_alloc | apply Kd.R_drewN | apply Kd.R_drew)); exact HO276.out))) (Kd.R_lt (by (with_reducible repeat (first | apply Kd.R_alloc | apply Kd.R_drewN | apply Kd.R_drew)); exact HO282.out))) (Kd.R_lt (by (with_reducible repeat (first | apply Kd.R_alloc | apply Kd.R_drewN | apply Kd.R_drew)); exact HO287.out))) (Kd.R_lt (by (with_reducible repeat (first | apply Kd.R_alloc | apply Kd.R_drewN | apply Kd.R_drew)); exact HO292.out))) (Kd.R_lt (by (with_reducible repeat (first | apply Kd.R_alloc | apply Kd.R_drewN | apply Kd.R_drew)); exact HO296.out))) (Kd.R_lt (by (with_reducible repeat (first | apply Kd.R_alloc | apply Kd.R_drewN | apply Kd.R_drew)); exact HO300.out))) (below_size (by repeat (first | (with_reducible first | exact HB.out | apply below_alloc | apply pw_below_drewN | apply below_drew1) | exact HB.out)))); have n7_ := Aside0.mk (below_step (by repeat (first | (with_reducible first | exact HB.out | apply below_alloc | apply pw_below_drewN | apply below_drew1) | exact HB.out)) hb); clear HO276; clear HO282; clear HO287; clear HO292; clear HO296; clear HO300; clear HB; have HO276 := n0_; have HO282 := n1_; have HO287 := n2_; have HO292 := n3_; have HO296 := n4_; have HO300 := n5_; have HO304 := n6_; have HB := n7_; clear n0_ n1_ n2_ n3_ n4_ n5_ n6_ n7_; (try clear hb); (try clear hb2); (try clear hk); (try clear hi); (try clear ho0); have hcv42 := own_string (P := Try.prog) Try.underlying31 Try.underlying5 Try.underlying9 (Kd.own_of_R HO304.out)) | (go_at_call 41; (with_reducible refine (path_Rotate.calls k 1 t305 _ A26.out).mono ?_); rintro e w43 ⟨v306, rfl, ho0, hb⟩; have n0_ := Aside0.mk (Kd.R_elder' (by (with_reducible repeat (first | apply Kd.R_alloc | apply Kd.R_drewN | apply Kd.R_drew)); exact HO276.out) (Kd.R_base ho0) hb); have n1_ := Aside0.mk (Kd.R_elder' (by (with_reducible repeat (first | apply Kd.R_alloc | apply Kd.R_drewN | apply Kd.R_drew)); exact HO282.out) (Kd.R_base ho0) hb); have n2_ := Aside0.mk (Kd.R_elder' (by (with_reducible repeat (first | apply Kd.R_alloc | apply Kd.R_drewN | apply Kd.R_drew)); exact HO287.out) (Kd.R_base ho0) hb); have n3_ := Aside0.mk (Kd.R_elder' (by (with_reducible repeat (first | apply Kd.R_alloc | apply Kd.R_drewN | apply Kd.R_drew)); exact HO292.out) (Kd.R_base ho0) hb); have n4_ := Aside0.mk (Kd.R_elder' (by (with_reducible repeat (first | apply Kd.R_alloc | apply Kd.R_drewN | apply Kd.R_drew)); exact HO296.out) (Kd.R_base ho0) hb); have n5_ := Aside0.mk (Kd.R_elder' (by (with_reducible repeat (first | apply Kd.R_alloc | apply Kd.R_drewN | apply Kd.R_drew)); exact HO300.out) (Kd.R_base ho0) hb); have n6_ := Aside0.mk (Kd.R_elder' (by (with_reducible repeat (first | apply Kd.R_alloc | apply Kd.R_drewN | apply Kd.R_drew)); exact HO304.out) (Kd.R_base ho0) hb); have n7_ := Aside0.mk (Kd.R_lower (Kd.R_new' (Kd.R_new' (Kd.R_new' (Kd.R_new' (Kd.R_new' (Kd.R_new' (Kd.R_new' ho0 (Kd.R_lt (by (with_reducible repeat (first | apply Kd.R_alloc | apply Kd.R_drewN | apply Kd.R_drew)); exact HO276.out))) (Kd.R_lt (by (with_reducible repeat (first | apply Kd.R_alloc | apply Kd.R_drewN | apply Kd.R_drew)); exact HO282.out))) (Kd.R_lt (by (with_reducible repeat (first | apply Kd.R_alloc | apply Kd.R_drewN | apply Kd.R_drew)); exact HO287.out))) (Kd.R_lt (by (with_reducible repeat (first | apply Kd.R_alloc | apply Kd.R_drewN | apply Kd.R_drew)); exact HO292.out))) (Kd.R_lt (by (with_reducible repeat (first | apply Kd.R_alloc | apply Kd.R_drewN | apply Kd.R_drew)); exact HO296.out))) (Kd.R_lt (by (with_reducible repeat (first | apply Kd.R_alloc | apply Kd.R_drewN | apply Kd.R_drew)); exact HO300.out))) (Kd.R_lt (by (with_reducible repeat (first | apply Kd.R_alloc | apply Kd.R_drewN | apply Kd.R_drew)); exact HO304.out))) (below_size (by repeat (first | (with_reducible first | exact HB.out | apply below_alloc | apply pw_below_drewN | apply below_drew1) | exact HB.out)))); have n8_ := Aside0.mk (below_step (by repeat (first | (with_reducible first | exact HB.out | apply below_alloc | apply pw_below_drewN | apply below_drew1) | exact HB.out)) hb); clear HO276; clear HO282; clear HO287; clear HO292; clear HO296; clear HO300; clear HO304; clear HB; have HO276 := n0_; have HO282 := n1_; have HO287 := n2_; have HO292 := n3_; have HO296 := n4_; have HO300 := n5_; have HO304 := n6_; have HO307 := n7_; have HB := n8_; clear n0_ n1_ n2_ n3_ n4_ n5_ n6_ n7_ n8_; (try clear hb); (try clear hb2); (try clear hk); (try clear hi); (try clear ho0); obtain ⟨Ao44, co44, eo44⟩ := Kd.R_slice HO307.out; subst eo44) | (go_at_call 52; (with_reducible refine (path_Next.calls k (fun k_ => some k_ = (.slice Ao30 t274.length co30 : Value).ownBlock) _ _ t274 t308 _ ?side1 A28.out).mono ?_); (case side1 => exact Kd.R_V (Kd.R_tight rfl (HO276.out))); rintro e w45 ⟨v309, rfl, ho0, hb⟩; have n0_ := Aside0.mk (Kd.R_elder' (by (with_reducible repeat (first | apply Kd.R_alloc | apply Kd.R_drewN | apply Kd.R_drew)); exact HO276.out) (Kd.R_base ho0) hb); have n1_ := Aside0.mk (Kd.R_elder' (by (with_reducible repeat (first | apply Kd.R_alloc | apply Kd.R_drewN | apply Kd.R_drew)); exact HO282.out) (Kd.R_base ho0) hb); have n2_ := Aside0.mk (Kd.R_elder' (by (with_reducible repeat (first | apply Kd.R_alloc | apply Kd.R_drewN | apply Kd.R_drew)); exact HO287.out) (Kd.R_base ho0) hb); have n3_ := Aside0.mk (Kd.R_elder' (by (with_reducible repeat (first | apply Kd.R_alloc | apply Kd.R_drewN | apply Kd.R_drew)); exact HO292.out) (Kd.R_base ho0) hb); have n4_ := Aside0.mk (Kd.R_elder' (by (with_reducible repeat (first | apply Kd.R_alloc | apply Kd.R_drewN | apply Kd.R_drew)); exact HO296.out) (Kd.R_base ho0) hb); have n5_ := Aside0.mk (Kd.R_elder' (by (with_reducible repeat (first | apply Kd.R_alloc | apply Kd.R_drewN | apply Kd.R_drew)); exact HO300.out) (Kd.R_base ho0) hb); have n6_ := Aside0.mk (Kd.R_elder' (by (with_reducible repeat (first | apply Kd.R_alloc | apply Kd.R_drewN | apply Kd.R_drew)); exact HO304.out) (Kd.R_base ho0) hb); have n7_ := Aside0.mk (Kd.R_elder' (by (with_reducible repeat (first | apply Kd.R_alloc | apply Kd.R_drewN | apply Kd.R_drew)); exact HO307.out) (Kd.R_base ho0) hb); have n8_ := Aside0.mk (Kd.R_lower (Kd.R_new' (Kd.R_new' (Kd.R_new' (Kd.R_new' (Kd.R_new' (Kd.R_new' (Kd.R_new' (Kd.R_new' (Kd.R_mono (ok' := fun k_ => True) ho0 (fun _ hk_ => trivial)) (Kd.R_lt (by (with_reducible repeat (first | apply Kd.R_alloc | apply Kd.R_drewN | apply Kd.R_drew)); exact HO276.out))) (Kd.R_lt (by (with_reducible repeat (first | apply Kd.R_alloc | apply Kd.R_drewN | apply Kd.R_drew)); exact HO282.out))) (Kd.R_lt (by (with_reducible repeat (first | apply Kd.R_alloc | apply Kd.R_drewN | apply Kd.R_drew)); exact HO287.out))) (Kd.R_lt (by (with_reducible repeat (first | apply Kd.R_alloc | apply Kd.R_drewN | apply Kd.R_drew)); exact HO292.out))) (Kd.R_lt (by (with_reducible repeat (first | apply Kd.R_alloc | apply Kd.R_drewN | apply Kd.R_drew)); exact HO296.out))) (Kd.R_lt (by (with_reducible repeat (first | apply Kd.R_alloc | apply Kd.R_drewN | apply Kd.R_drew)); exact HO300.out))) (Kd.R_lt (by (with_reducible repeat (first | apply Kd.R_alloc | apply Kd.R_drewN | apply Kd.R_drew)); exact HO304.out))) (Kd.R_lt (by (with_reducible repeat (first | apply Kd.R_alloc | apply Kd.R_drewN | apply Kd.R_drew)); exact HO307.out))) (below_size (by repeat (first | (with_reducible first | exact HB.out | apply below_alloc | apply pw_below_drewN | apply below_drew1) | exact HB.out)))); have n9_ := Aside0.mk (below_step (by repeat (first | (with_reducible first | exact HB.out | apply below_alloc | apply pw_below_drewN | apply below_drew1) | exact HB.out)) hb); clear HO276; clear HO282; clear HO287; clear HO292; clear HO296; clear HO300; clear HO304; clear HO307; clear HB; have HO276 := n0_; have HO282 := n1_; have HO287 := n2_; have HO292 := n3_; have HO296 := n4_; have HO300 := n5_; have HO304 := n6_; have HO307 := n7_; have HO310 := n8_; have HB := n9_; clear n0_ n1_ n2_ n3_ n4_ n5_ n6_ n7_ n8_ n9_; (try clear hb); (try clear hb2); (try clear hk); (try clear hi); (try clear ho0); obtain ⟨Ao46, co46, eo46⟩ := Kd.R_slice HO310.out; subst eo46))
                            go_ret
                            exact ⟨by first | rfl | (simp [errW_none, errW_some] <;> rfl) | (simp [*, errW_none, errW_some] <;> rfl), by repeat (first | (with_reducible first | exact HB.out | apply below_alloc | apply pw_below_drewN | apply below_drew1) | exact HB.out)⟩
                          · rw [if_neg c27] at H
                            have c27b0 : ((t305.length : Int) == 3) = false := beq_eq_false_iff_ne.mpr c27
                            have c27b1 : ((t305.length : Int) != 3) = true := bne_iff_ne.mpr c27
                            obtain rfl := Option.some.inj H
                            exact absurd hr_.out (by simp)
                        · rw [if_neg c25] at H
                          have c25b0 : ((strOfNums t302).toList == ([98, 120] : List UInt8)) = false := beq_eq_false_iff_ne.mpr c25
                          have c25b1 : ((strOfNums t302).toList != ([98, 120] : List UInt8)) = true := bne_iff_ne.mpr c25
                          obtain rfl := Option.some.inj H
                          exact absurd hr_.out (by simp)
                      · replace c23 := Bool.eq_false_iff.mpr c23
                        subst c23
                        have H1 : (some false) = some r := by rw [if_neg (show ¬ (false = true) by decide)] at H; exact H
                        clear H
                        have H := H1
                        clear H1
                        obtain rfl := Option.some.inj H
                        exact absurd hr_.out (by simp)
                    · rw [if_neg c21] at H
                      have c21b0 : ((strOfNums t298).toList == ([99] : List UInt8)) = false := beq_eq_false_iff_ne.mpr c21
                      have c21b1 : ((strOfNums t298).toList != ([99] : List UInt8)) = true := bne_iff_ne.mpr c21
                      obtain rfl := Option.some.inj H
                      exact absurd hr_.out (by simp)
                · replace c16 := Bool.eq_false_iff.mpr c16
                  subst c16
                  have H1 : (some false) = some r := by rw [if_neg (show ¬ (false = true) by decide)] at H; exact H
                  clear H
                  have H := H1
                  clear H1
                  obtain rfl := Option.some.inj H
                  exact absurd hr_.out (by simp)
              · rw [if_neg c13] at H
                have c13b0 : (t288 == 5) = false := beq_eq_false_iff_ne.mpr c13
                have c13b1 : (t288 != 5) = true := bne_iff_ne.mpr c13
                obtain rfl := Option.some.inj H
                exact absurd hr_.out (by simp)
            · replace c12 := Bool.eq_false_iff.mpr c12
              subst c12
              have H1 : (some false) = some r := by rw [if_neg (show ¬ (false = true) by decide)] at H; exact H
              clear H
              have H := H1
              clear H1
              obtain rfl := Option.some.inj H
              exact absurd hr_.out (by simp)
          · rw [if_neg c11] at H
            have c11b0 : (t283 == 7) = false := beq_eq_false_iff_ne.mpr c11
            have c11b1 : (t283 != 7) = true := bne_iff_ne.mpr c11
            obtain rfl := Option.some.inj H
            exact absurd hr_.out (by simp)
        · replace c10 := Bool.eq_false_iff.mpr c10
          subst c10
          have H1 : (some false) = some r := by rw [if_neg (show ¬ (false = true) by decide)] at H; exact H
          clear H
          have H := H1
          clear H1
          obtain rfl := Option.some.inj H
          exact absurd hr_.out (by simp)
      · rw [if_neg c9] at H
        have c9b0 : (t278 == 9) = false := beq_eq_false_iff_ne.mpr c9
        have c9b1 : (t278 != 9) = true := bne_iff_ne.mpr c9
        obtain rfl := Option.some.inj H
        exact absurd hr_.out (by simp)
    · rw [if_neg c8] at H
      have c8b0 : (t277.toList == ([107] : List UInt8)) = false := beq_eq_false_iff_ne.mpr c8
      have c8b1 : (t277.toList != ([107] : List UInt8)) = true := bne_iff_ne.mpr c8
      obtain rfl := Option.some.inj H
      exact absurd hr_.out (by simp)
  · replace c7 := Bool.eq_false_iff.mpr c7
    subst c7
    have H1 : (some false) = some r := by rw [if_neg (show ¬ (false = true) by decide)] at H; exact H
    clear H
    have H := H1
    clear H1
    obtain rfl := Option.some.inj H
    exact absurd hr_.out (by simp)

/-! ### deedboxref18_Less: function 47 -/
mutual
def deedboxref18_Less.l0 : Nat → List Int → List Int → Int → Option (Bool)
  | 0, _, _, _ => none
  | k + 1, x0, x1, x5 => if x5 < (x0.length : Int) then (deedboxref18_Less.j1 k x0 x1 x5 (decide (x5 < (x1.length : Int)))) else (deedboxref18_Less.j1 k x0 x1 x5 false)
def deedboxref18_Less.j1 : Nat → List Int → List Int → Int → Bool → Option (Bool)
  | 0, _, _, _, _ => none
  | k + 1, x0, x1, x5, x15 => if x15 = true then (if 0 ≤ x5 then (if x5 < (x0.length : Int) then (if x5 < (x1.length : Int) then (if (rd x0 x5) = (rd x1 x5) then (deedboxref18_Less.l0 k x0 x1 (wrap64 (x5 + 1))) else (some (decide ((rd x0 x5) < (rd x1 x5))))) else (none)) else (none)) else (none)) else (some (decide ((x0.length : Int) < (x1.length : Int))))
end
def deedboxref18_Less.f (k : Nat) (l0 : List Int) (l1 : List Int) : Option (Bool) := deedboxref18_Less.l0 k l0 l1 0
theorem deedboxref18_Less.mono_l : ∀ k, (∀ y0 y1 y2, LeO (deedboxref18_Less.l0 k y0 y1 y2) (deedboxref18_Less.l0 (k + 1) y0 y1 y2)) ∧ (∀ y0 y1 y2 y3, LeO (deedboxref18_Less.j1 k y0 y1 y2 y3) (deedboxref18_Less.j1 (k + 1) y0 y1 y2 y3))
  | 0 => ⟨fun _ _ _ r h => by simp [deedboxref18_Less.l0] at h, fun _ _ _ _ r h => by simp [deedboxref18_Less.j1] at h⟩
  | k + 1 => by
    obtain ⟨ih0, ih1⟩ := deedboxref18_Less.mono_l k
    refine ⟨?_, ?_⟩
    · intro y0 y1 y2
      unfold deedboxref18_Less.l0
      repeat' first
      | (with_reducible exact ih0 _ _ _)
      | (with_reducible exact ih1 _ _ _ _)
      | (with_reducible exact LeO.refl _)
      | (with_reducible exact LeO.none _)
      | (with_reducible refine LeO.ite ?_ ?_)
      | (with_reducible refine LeO.bind ?_ (fun _ => ?_))
      | exact ih0 _ _ _
      | exact ih1 _ _ _ _
      | exact LeO.none _
      | refine LeO.ite ?_ ?_
      | refine LeO.bind ?_ (fun _ => ?_)
    · intro y0 y1 y2 y3
      unfold deedboxref18_Less.j1
      repeat' first
      | (with_reducible exact ih0 _ _ _)
      | (with_reducible exact ih1 _ _ _ _)
      | (with_reducible exact LeO.refl _)
      | (with_reducible exact LeO.none _)
      | (with_reducible refine LeO.ite ?_ ?_)
      | (with_reducible refine LeO.bind ?_ (fun _ => ?_))
      | exact ih0 _ _ _
      | exact ih1 _ _ _ _
      | exact LeO.none _
      | refine LeO.ite ?_ ?_
      | refine LeO.bind ?_ (fun _ => ?_)
theorem deedboxref18_Less.mono : ∀ a0 a1 k, LeO (deedboxref18_Less.f k a0 a1) (deedboxref18_Less.f (k + 1) a0 a1) := by
  intro a0 a1 k
  obtain ⟨ih0, ih1⟩ := deedboxref18_Less.mono_l k
  unfold deedboxref18_Less.f
  repeat' first
      | (with_reducible exact ih0 _ _ _)
      | (with_reducible exact ih1 _ _ _ _)
      | (with_reducible exact LeO.refl _)
      | (with_reducible exact LeO.none _)
      | (with_reducible refine LeO.ite ?_ ?_)
      | (with_reducible refine LeO.bind ?_ (fun _ => ?_))
      | exact ih0 _ _ _
      | exact ih1 _ _ _ _
      | exact LeO.none _
      | refine LeO.ite ?_ ?_
      | refine LeO.bind ?_ (fun _ => ?_)
set_option maxHeartbeats 8000000 in
set_option maxRecDepth 100000 in
theorem deedboxref18_Less.calls (k : Nat) (A0 : Option Addr) (c0 : Nat) (l0 : List Int) (A1 : Option Addr) (c1 : Nat) (l1 : List Int) (r : Bool) (w : World) (hr0 : Kd.C (Kd.int .u8) w A0 l0.length l0) (hc0 : l0.length ≤ c0) (hr1 : Kd.C (Kd.int .u8) w A1 l1.length l1) (hc1 : l1.length ≤ c1) (h : deedboxref18_Less.f k l0 l1 = some r) :
    Calls Try.prog 47 #[.slice A0 l0.length c0, .slice A1 l1.length c1] w fun e w' => e = .returned (.bool r) ∧ Drawn0 w w' := by
  have HR0 := Aside0.mk hr0
  have HC0 := Aside0.mk hc0
  clear hr0 hc0
  have HR1 := Aside0.mk hr1
  have HC1 := Aside0.mk hc1
  clear hr1 hc1
  have H : (deedboxref18_Less.l0 k l0 l1 0) = some r := h
  clear h
  have H' := Aside0.mk H
  clear H
  go_enter Try.func47, Try.ntmps47
  go_wp2
  repeat (go_quiet (fail); try go_wp2)
  go_loopg [5] k (fun kq v5 w' => ∃ (x5_1 : Int), v5 = .int .i64 x5_1 ∧ Aside0 (deedboxref18_Less.l0 kq l0 l1 x5_1 = some r) ∧ Aside0 (kq ≤ k) ∧ Drawn0 w w')
  case atStart => exact ⟨(0), (by first | rfl | (simp; done) | (simp [*]; done)), H', ⟨Nat.le_refl _⟩, by repeat (first | exact Drawn0.refl _ | apply Drawn0.step)⟩
  case round =>
    clear H'
    try clear c1
    try clear p2
    obtain ⟨x5_1, rfl, HA, HK1, ⟨m1, rfl⟩⟩ := hrel
    cases gk with
    | zero => exact absurd HA.out (by simp [deedboxref18_Less.l0])
    | succ k1 =>
      have H := HA.out
      clear HA
      simp only [deedboxref18_Less.l0] at H
      have HC3 := Aside0.mk H
      clear H
      go_upto_region 2 with (fail)
      repeat (go_quiet (fail); go_upto_region 2 with (fail))
      go_cut [15] (fun v15 wc => ∃ (kq : Nat) (x15_2 : Bool), v15 = .bool x15_2 ∧ Aside0 (deedboxref18_Less.j1 kq l0 l1 x5_1 x15_2 = some r) ∧ Aside0 (kq ≤ k1) ∧ Drawn0 w wc)
      case first =>
        have H := HC3.out
        clear HC3
        by_cases c4 : x5_1 < (l0.length : Int)
        · rw [if_pos c4] at H
          have c4b0 : decide (x5_1 < (l0.length : Int)) = true := decide_eq_true c4
          clear c4
          (first | rw [c4b0] | (simp only [i64_w, i32_w]; rw [c4b0]) | skip)
          have H' := Aside0.mk H
          clear H
          go_wp2
          repeat (go_quiet (fail); try go_wp2)
          go_meet
          case rel => exact ⟨_, (decide (x5_1 < (l1.length : Int))), (by first | rfl | (simp; done) | (simp [*]; done)), H', ⟨by have := HK1.out; first | omega | exact Nat.le_refl _⟩, by repeat (first | exact Drawn0.refl _ | apply Drawn0.step)⟩
        · rw [if_neg c4] at H
          have c4b0 : decide (x5_1 < (l0.length : Int)) = false := decide_eq_false c4
          clear c4
          (first | rw [c4b0] | (simp only [i64_w, i32_w]; rw [c4b0]) | skip)
          have H' := Aside0.mk H
          clear H
          go_wp2
          repeat (go_quiet (fail); try go_wp2)
          go_meet
          case rel => exact ⟨_, (false), (by first | rfl | (simp; done) | (simp [*]; done)), H', ⟨by have := HK1.out; first | omega | exact Nat.le_refl _⟩, by repeat (first | exact Drawn0.refl _ | apply Drawn0.step)⟩
      case rest =>
        clear HC3
        try clear c1
        try clear p2
        try clear c4
        try clear c4b0
        try clear p2
        obtain ⟨kq, x15_2, rfl, HA, HJ2, ⟨mc2, rfl⟩⟩ := hcut
        cases kq with
        | zero => exact absurd HA.out (by simp [deedboxref18_Less.j1])
        | succ kj2 =>
          have H := HA.out
          clear HA
          simp only [deedboxref18_Less.j1] at H
          by_cases c5 : x15_2 = true
          · subst c5
            have H1 : (if 0 ≤ x5_1 then (if x5_1 < (l0.length : Int) then (if x5_1 < (l1.length : Int) then (if (rd l0 x5_1) = (rd l1 x5_1) then (deedboxref18_Less.l0 kj2 l0 l1 (wrap64 (x5_1 + 1))) else (some (decide ((rd l0 x5_1) < (rd l1 x5_1))))) else (none)) else (none)) else (none)) = some r := by rw [if_pos rfl] at H; exact H
            clear H
            have H := H1
            clear H1
            by_cases c6 : 0 ≤ x5_1
            · rw [if_pos c6] at H
              have c6b0 : decide (0 ≤ x5_1) = true := decide_eq_true c6
              clear c6
              by_cases c7 : x5_1 < (l0.length : Int)
              · rw [if_pos c7] at H
                have c7b0 : decide (x5_1 < (l0.length : Int)) = true := decide_eq_true c7
                clear c7
                by_cases c8 : x5_1 < (l1.length : Int)
                · rw [if_pos c8] at H
                  have c8b0 : decide (x5_1 < (l1.length : Int)) = true := decide_eq_true c8
                  clear c8
                  by_cases c9 : (rd l0 x5_1) = (rd l1 x5_1)
                  · rw [if_pos c9] at H
                    have c9b0 : ((rd l0 x5_1) == (rd l1 x5_1)) = true := beq_iff_eq.mpr c9
                    have c9b1 : ((rd l0 x5_1) != (rd l1 x5_1)) = false := bne_eq_false_iff_eq.mpr c9
                    clear c9
                    have H' := Aside0.mk H
                    clear H
                    have p311 : 0 ≤ (x5_1 : Int) := of_decide_eq_true (by first | (with_reducible assumption) | assumption)
                    have q311 : x5_1 < (l0.length : Int) := of_decide_eq_true (by first | (with_reducible assumption) | assumption)
                    obtain ⟨ad311, e311, hx311_0⟩ := Kd.at_int HR0.out x5_1 p311 q311
                    cases e311
                    replace p311 := eq_true p311
                    replace q311 := eq_true q311
                    have p312 : 0 ≤ (x5_1 : Int) := of_decide_eq_true (by first | (with_reducible assumption) | assumption)
                    have q312 : x5_1 < (l1.length : Int) := of_decide_eq_true (by first | (with_reducible assumption) | assumption)
                    obtain ⟨ad312, e312, hx312_0⟩ := Kd.at_int HR1.out x5_1 p312 q312
                    cases e312
                    replace p312 := eq_true p312
                    replace q312 := eq_true q312
                    go_wp2
                    repeat (go_quiet (fail); try go_wp2)
                    go_roundg kj2
                    case measure => have := HK1.out; have := HJ2.out; omega
                    case rel => exact ⟨(wrap64 (x5_1 + 1)), (by first | rfl | (simp; done) | (simp [*]; done)), H', ⟨by have := HK1.out; have := HJ2.out; omega⟩, by repeat (first | exact Drawn0.refl _ | apply Drawn0.step)⟩
                  · rw [if_neg c9] at H
                    have c9b0 : ((rd l0 x5_1) == (rd l1 x5_1)) = false := beq_eq_false_iff_ne.mpr c9
                    have c9b1 : ((rd l0 x5_1) != (rd l1 x5_1)) = true := bne_iff_ne.mpr c9
                    obtain rfl := Option.some.inj H
                    have p311 : 0 ≤ (x5_1 : Int) := of_decide_eq_true (by first | (with_reducible assumption) | assumption)
                    have q311 : x5_1 < (l0.length : Int) := of_decide_eq_true (by first | (with_reducible assumption) | assumption)
                    obtain ⟨ad311, e311, hx311_0⟩ := Kd.at_int HR0.out x5_1 p311 q311
                    cases e311
                    replace p311 := eq_true p311
                    replace q311 := eq_true q311
                    have p312 : 0 ≤ (x5_1 : Int) := of_decide_eq_true (by first | (with_reducible assumption) | assumption)
                    have q312 : x5_1 < (l1.length : Int) := of_decide_eq_true (by first | (with_reducible assumption) | assumption)
                    obtain ⟨ad312, e312, hx312_0⟩ := Kd.at_int HR1.out x5_1 p312 q312
                    cases e312
                    replace p312 := eq_true p312
                    replace q312 := eq_true q312
                    have p313 : 0 ≤ (x5_1 : Int) := of_decide_eq_true (by first | (with_reducible assumption) | assumption)
                    have q313 : x5_1 < (l0.length : Int) := of_decide_eq_true (by first | (with_reducible assumption) | assumption)
                    obtain ⟨ad313, e313, hx313_0⟩ := Kd.at_int HR0.out x5_1 p313 q313
                    obtain rfl : ad311 = ad313 := (by injection e313)
                    replace p313 := eq_true p313
                    replace q313 := eq_true q313
                    have p314 : 0 ≤ (x5_1 : Int) := of_decide_eq_true (by first | (with_reducible assumption) | assumption)
                    have q314 : x5_1 < (l1.length : Int) := of_decide_eq_true (by first | (with_reducible assumption) | assumption)
                    obtain ⟨ad314, e314, hx314_0⟩ := Kd.at_int HR1.out x5_1 p314 q314
                    obtain rfl : ad312 = ad314 := (by injection e314)
                    replace p314 := eq_true p314
                    replace q314 := eq_true q314
                    go_wp2
                    repeat (go_quiet (fail); try go_wp2)
                    go_ret
                    exact ⟨by first | rfl | (simp; done) | (simp [*]; done), by repeat (first | exact Drawn0.refl _ | apply Drawn0.step)⟩
                · rw [if_neg c8] at H
                  exact absurd H (by simp)
              · rw [if_neg c7] at H
                exact absurd H (by simp)
            · rw [if_neg c6] at H
              exact absurd H (by simp)
          · replace c5 := Bool.eq_false_iff.mpr c5
            subst c5
            have H1 : (some (decide ((l0.length : Int) < (l1.length : Int)))) = some r := by rw [if_neg (show ¬ (false = true) by decide)] at H; exact H
            clear H
            have H := H1
            clear H1
            obtain rfl := Option.some.inj H
            go_wp2
            repeat (go_quiet (fail); try go_wp2)
            go_ret
            exact ⟨by first | rfl | (simp; done) | (simp [*]; done), by repeat (first | exact Drawn0.refl _ | apply Drawn0.step)⟩

/-! ### deedboxlaw25_PathOrder: function 8 -/
def deedboxlaw25_PathOrder.j0 : Nat → Int → ByteArray → ByteArray → Int → Int → Bool → Option (Bool)
  | 0, _, _, _, _, _, _ => none
  | k + 1, x0, x1, x2, x3, x4, x21 => if x21 = true then ((deedboxlaw25_works.f k).bind fun t317 => (some t317)) else ((path_Version.f k (wrap64 (x0)) x1 (wrap64 (x3))).bind fun t318 => ((path_Version.f k (wrap64 (x0)) x2 (wrap64 (x4))).bind fun t321 => (if (Op.bytesLess x1.toList x2.toList) = true then ((deedboxref18_Less.f k t318 t321).bind fun t324 => (if (t324 == true) = true then ((deedboxlaw25_works.f k).bind fun t325 => (some t325)) else (some false))) else (if x1.toList = x2.toList then ((deedboxref18_Less.f k t318 t321).bind fun t326 => (if (t326 == (decide (x3 > x4))) = true then ((deedboxlaw25_works.f k).bind fun t327 => (some t327)) else (some false))) else ((deedboxref18_Less.f k t318 t321).bind fun t328 => (if (t328 == false) = true then ((deedboxlaw25_works.f k).bind fun t329 => (some t329)) else (some false)))))))
def deedboxlaw25_PathOrder.f (k : Nat) (a0 : Int) (a1 : ByteArray) (a2 : ByteArray) (a3 : Int) (a4 : Int) : Option (Bool) := (deedboxlaw25_plain.f k a1).bind fun t315 => (if t315 = true then ((deedboxlaw25_plain.f k a2).bind fun t316 => (deedboxlaw25_PathOrder.j0 k a0 a1 a2 a3 a4 (!t316))) else (deedboxlaw25_PathOrder.j0 k a0 a1 a2 a3 a4 true))
theorem deedboxlaw25_PathOrder.mono_l : ∀ k, (∀ y0 y1 y2 y3 y4 y5, LeO (deedboxlaw25_PathOrder.j0 k y0 y1 y2 y3 y4 y5) (deedboxlaw25_PathOrder.j0 (k + 1) y0 y1 y2 y3 y4 y5))
  | 0 => fun _ _ _ _ _ _ r h => by simp [deedboxlaw25_PathOrder.j0] at h
  | k + 1 => by
    have ih0 := deedboxlaw25_PathOrder.mono_l k
    · intro y0 y1 y2 y3 y4 y5
      unfold deedboxlaw25_PathOrder.j0
      repeat' first
      | (with_reducible exact ih0 _ _ _ _ _ _)
      | (with_reducible exact deedboxlaw25_plain.mono _ _)
      | (with_reducible exact deedboxlaw25_works.mono _)
      | (with_reducible exact deedboxref18_Less.mono _ _ _)
      | (with_reducible exact path_Version.mono _ _ _ _)
      | (with_reducible exact LeO.refl _)
      | (with_reducible exact LeO.none _)
      | (with_reducible refine LeO.ite ?_ ?_)
      | (with_reducible refine LeO.bind ?_ (fun _ => ?_))
      | exact ih0 _ _ _ _ _ _
      | exact deedboxlaw25_plain.mono _ _
      | exact deedboxlaw25_works.mono _
      | exact deedboxref18_Less.mono _ _ _
      | exact path_Version.mono _ _ _ _
      | exact LeO.none _
      | refine LeO.ite ?_ ?_
      | refine LeO.bind ?_ (fun _ => ?_)
theorem deedboxlaw25_PathOrder.mono : ∀ a0 a1 a2 a3 a4 k, LeO (deedboxlaw25_PathOrder.f k a0 a1 a2 a3 a4) (deedboxlaw25_PathOrder.f (k + 1) a0 a1 a2 a3 a4) := by
  intro a0 a1 a2 a3 a4 k
  have ih0 := deedboxlaw25_PathOrder.mono_l k
  unfold deedboxlaw25_PathOrder.f
  repeat' first
      | (with_reducible exact ih0 _ _ _ _ _ _)
      | (with_reducible exact deedboxlaw25_plain.mono _ _)
      | (with_reducible exact deedboxlaw25_works.mono _)
      | (with_reducible exact deedboxref18_Less.mono _ _ _)
      | (with_reducible exact path_Version.mono _ _ _ _)
      | (with_reducible exact LeO.refl _)
      | (with_reducible exact LeO.none _)
      | (with_reducible refine LeO.ite ?_ ?_)
      | (with_reducible refine LeO.bind ?_ (fun _ => ?_))
      | exact ih0 _ _ _ _ _ _
      | exact deedboxlaw25_plain.mono _ _
      | exact deedboxlaw25_works.mono _
      | exact deedboxref18_Less.mono _ _ _
      | exact path_Version.mono _ _ _ _
      | exact LeO.none _
      | refine LeO.ite ?_ ?_
      | refine LeO.bind ?_ (fun _ => ?_)
set_option maxHeartbeats 8000000 in
set_option maxRecDepth 100000 in
theorem deedboxlaw25_PathOrder.calls (k : Nat) (a0 : Int) (a1 : ByteArray) (a2 : ByteArray) (a3 : Int) (a4 : Int) (r : Bool) (w : World) (h : deedboxlaw25_PathOrder.f k a0 a1 a2 a3 a4 = some r) (hr_ : Aside0 (r = true)) :
    Calls Try.prog 8 #[.int .u16 a0, .string a1, .string a2, .int .u32 a3, .int .u32 a4] w fun e w' => e = .returned (.bool r) ∧ Below w.heap.size w w' := by
  have HB := Aside0.mk (Below.refl w.heap.size w)
  have H : ((deedboxlaw25_plain.f k a1).bind fun t315 => (if t315 = true then ((deedboxlaw25_plain.f k a2).bind fun t316 => (deedboxlaw25_PathOrder.j0 k a0 a1 a2 a3 a4 (!t316))) else (deedboxlaw25_PathOrder.j0 k a0 a1 a2 a3 a4 true))) = some r := h
  clear h
  have HC6 := Aside0.mk H
  clear H
  go_enter Try.func8, Try.ntmps8
  go_upto_region 1 with (fail)
  go_cut [21] (fun v21 wc => ∃ (kq : Nat) (x21_5 : Bool), v21 = .bool x21_5 ∧ Aside0 (deedboxlaw25_PathOrder.j0 kq a0 a1 a2 a3 a4 x21_5 = some r) ∧ Aside0 (kq ≤ k) ∧ Aside0 (Below w.heap.size w wc))
  case first =>
    have H := HC6.out
    clear HC6
    replace H := Option.bind_eq_some_iff.mp H
    obtain ⟨t315, A70, H⟩ := H
    replace H : (if t315 = true then ((deedboxlaw25_plain.f k a2).bind fun t316 => (deedboxlaw25_PathOrder.j0 k a0 a1 a2 a3 a4 (!t316))) else (deedboxlaw25_PathOrder.j0 k a0 a1 a2 a3 a4 true)) = some r := H
    have A7 := Aside0.mk A70
    clear A70
    by_cases c8 : t315 = true
    · subst c8
      have H1 : ((deedboxlaw25_plain.f k a2).bind fun t316 => (deedboxlaw25_PathOrder.j0 k a0 a1 a2 a3 a4 (!t316))) = some r := by rw [if_pos rfl] at H; exact H
      clear H
      have H := H1
      clear H1
      replace H := Option.bind_eq_some_iff.mp H
      obtain ⟨t316, A90, H⟩ := H
      replace H : (deedboxlaw25_PathOrder.j0 k a0 a1 a2 a3 a4 (!t316)) = some r := H
      have A9 := Aside0.mk A90
      clear A90
      have H' := Aside0.mk H
      clear H
      go_wp2_with (first | ((with_reducible refine gate_callee (f := 27) rfl ?_); refine goesL_ (some 15) rfl rfl Try.func27 (by kernel_rfl) rfl #[.string a1] rfl (by (try simp only [List.map_toArray, List.map_cons, List.map_nil]); first | done | rfl | (simp only [List.length_drop, List.length_take]; rfl)) ?_; (with_reducible refine (deedboxlaw25_plain.calls k a1 true _ A7.out).mono ?_); rintro e w' ⟨rfl, ⟨nd, rfl⟩⟩; refine ⟨_, rfl, ?_⟩) | (go_at_call 27; (with_reducible refine (deedboxlaw25_plain.calls k a2 t316 _ A9.out).mono ?_); rintro e w' ⟨rfl, ⟨nd, rfl⟩⟩))
      go_meet
      case rel => exact ⟨_, (!t316), (by first | rfl | (simp; done) | (simp [*]; done)), H', ⟨by first | omega | exact Nat.le_refl _⟩, ⟨by repeat (first | (with_reducible first | exact HB.out | apply below_alloc | apply pw_below_drewN | apply below_drew1) | exact HB.out)⟩⟩
    · replace c8 := Bool.eq_false_iff.mpr c8
      subst c8
      have H1 : (deedboxlaw25_PathOrder.j0 k a0 a1 a2 a3 a4 true) = some r := by rw [if_neg (show ¬ (false = true) by decide)] at H; exact H
      clear H
      have H := H1
      clear H1
      have H' := Aside0.mk H
      clear H
      go_wp2_with (first | ((with_reducible refine gate_callee (f := 27) rfl ?_); refine goesL_ (some 15) rfl rfl Try.func27 (by kernel_rfl) rfl #[.string a1] rfl (by (try simp only [List.map_toArray, List.map_cons, List.map_nil]); first | done | rfl | (simp only [List.length_drop, List.length_take]; rfl)) ?_; (with_reducible refine (deedboxlaw25_plain.calls k a1 false _ A7.out).mono ?_); rintro e w' ⟨rfl, ⟨nd, rfl⟩⟩; refine ⟨_, rfl, ?_⟩))
      go_meet
      case rel => exact ⟨_, (true), (by first | rfl | (simp; done) | (simp [*]; done)), H', ⟨by first | omega | exact Nat.le_refl _⟩, ⟨by repeat (first | (with_reducible first | exact HB.out | apply below_alloc | apply pw_below_drewN | apply below_drew1) | exact HB.out)⟩⟩
  case rest =>
    clear HC6
    try clear c2
    try clear p2
    try clear c8
    obtain ⟨kq, x21_5, rfl, HA, HJ5, HB⟩ := hcut
    cases kq with
    | zero => exact absurd HA.out (by simp [deedboxlaw25_PathOrder.j0])
    | succ kj5 =>
      have H := HA.out
      clear HA
      simp only [deedboxlaw25_PathOrder.j0] at H
      by_cases c10 : x21_5 = true
      · subst c10
        have H1 : ((deedboxlaw25_works.f kj5).bind fun t317 => (some t317)) = some r := by rw [if_pos rfl] at H; exact H
        clear H
        have H := H1
        clear H1
        replace H := Option.bind_eq_some_iff.mp H
        obtain ⟨t317, A110, H⟩ := H
        replace H : (some t317) = some r := H
        have A11 := Aside0.mk A110
        clear A110
        obtain rfl := Option.some.inj H
        go_wp2_with (first | ((with_reducible refine gate_callee (f := 28) rfl ?_); refine goesL_ (some 22) rfl rfl Try.func28 (by kernel_rfl) rfl #[] rfl (by (try simp only [List.map_toArray, List.map_cons, List.map_nil]); first | done | rfl | (simp only [List.length_drop, List.length_take]; rfl)) ?_; (with_reducible refine (deedboxlaw25_works.calls kj5  t317 _ A11.out hr_).mono ?_); rintro e w12 ⟨rfl, hb⟩; refine ⟨_, rfl, ?_⟩; have n0_ := Aside0.mk (below_step (by repeat (first | (with_reducible first | exact HB.out | apply below_alloc | apply pw_below_drewN | apply below_drew1) | exact HB.out)) hb); clear HB; have HB := n0_; clear n0_; (try clear hb); (try clear hb2); (try clear hk); (try clear hi)))
        go_ret
        exact ⟨by first | rfl | (simp [errW_none, errW_some] <;> rfl) | (simp [*, errW_none, errW_some] <;> rfl), by repeat (first | (with_reducible first | exact HB.out | apply below_alloc | apply pw_below_drewN | apply below_drew1) | exact HB.out)⟩
      · replace c10 := Bool.eq_false_iff.mpr c10
        subst c10
        have H1 : ((path_Version.f kj5 (wrap64 (a0)) a1 (wrap64 (a3))).bind fun t318 => ((path_Version.f kj5 (wrap64 (a0)) a2 (wrap64 (a4))).bind fun t321 => (if (Op.bytesLess a1.toList a2.toList) = true then ((deedboxref18_Less.f kj5 t318 t321).bind fun t324 => (if (t324 == true) = true then ((deedboxlaw25_works.f kj5).bind fun t325 => (some t325)) else (some false))) else (if a1.toList = a2.toList then ((deedboxref18_Less.f kj5 t318 t321).bind fun t326 => (if (t326 == (decide (a3 > a4))) = true then ((deedboxlaw25_works.f kj5).bind fun t327 => (some t327)) else (some false))) else ((deedboxref18_Less.f kj5 t318 t321).bind fun t328 => (if (t328 == false) = true then ((deedboxlaw25_works.f kj5).bind fun t329 => (some t329)) else (some false))))))) = some r := by rw [if_neg (show ¬ (false = true) by decide)] at H; exact H
        clear H
        have H := H1
        clear H1
        replace H := Option.bind_eq_some_iff.mp H
        obtain ⟨t318, A130, H⟩ := H
        replace H : ((path_Version.f kj5 (wrap64 (a0)) a2 (wrap64 (a4))).bind fun t321 => (if (Op.bytesLess a1.toList a2.toList) = true then ((deedboxref18_Less.f kj5 t318 t321).bind fun t324 => (if (t324 == true) = true then ((deedboxlaw25_works.f kj5).bind fun t325 => (some t325)) else (some false))) else (if a1.toList = a2.toList then ((deedboxref18_Less.f kj5 t318 t321).bind fun t326 => (if (t326 == (decide (a3 > a4))) = true then ((deedboxlaw25_works.f kj5).bind fun t327 => (some t327)) else (some false))) else ((deedboxref18_Less.f kj5 t318 t321).bind fun t328 => (if (t328 == false) = true then ((deedboxlaw25_works.f kj5).bind fun t329 => (some t329)) else (some false)))))) = some r := H
        have A13 := Aside0.mk A130
        clear A130
        replace H := Option.bind_eq_some_iff.mp H
        obtain ⟨t321, A140, H⟩ := H
        replace H : (if (Op.bytesLess a1.toList a2.toList) = true then ((deedboxref18_Less.f kj5 t318 t321).bind fun t324 => (if (t324 == true) = true then ((deedboxlaw25_works.f kj5).bind fun t325 => (some t325)) else (some false))) else (if a1.toList = a2.toList then ((deedboxref18_Less.f kj5 t318 t321).bind fun t326 => (if (t326 == (decide (a3 > a4))) = true then ((deedboxlaw25_works.f kj5).bind fun t327 => (some t327)) else (some false))) else ((deedboxref18_Less.f kj5 t318 t321).bind fun t328 => (if (t328 == false) = true then ((deedboxlaw25_works.f kj5).bind fun t329 => (some t329)) else (some false))))) = some r := H
        have A14 := Aside0.mk A140
        clear A140
        by_cases c15 : (Op.bytesLess a1.toList a2.toList) = true
        · rw [if_pos c15] at H
          have c15b0 : (Op.bytesLess a1.toList a2.toList) = true := c15
          clear c15
          replace H := Option.bind_eq_some_iff.mp H
          obtain ⟨t324, A160, H⟩ := H
          replace H : (if (t324 == true) = true then ((deedboxlaw25_works.f kj5).bind fun t325 => (some t325)) else (some false)) = some r := H
          have A16 := Aside0.mk A160
          clear A160
          by_cases c17 : (t324 == true) = true
          · rw [if_pos c17] at H
            have c17b0 : (t324 == true) = true := c17
            (try (have c17b1 : decide (t324 = true) = true := by simpa using c17))
            (try (have c17b2 : (t324 == true) = true := by simpa using c17))
            clear c17
            replace H := Option.bind_eq_some_iff.mp H
            obtain ⟨t325, A180, H⟩ := H
            replace H : (some t325) = some r := H
            have A18 := Aside0.mk A180
            clear A180
            obtain rfl := Option.some.inj H
            go_wp2_with (first | ((with_reducible refine gate_callee (f := 32) rfl ?_); refine goesL_ (some 28) rfl rfl Try.func32 (by kernel_rfl) rfl #[.int .i64 (wrap64 (a0)), .string a1, .int .i64 (wrap64 (a3))] rfl (by (try simp only [List.map_toArray, List.map_cons, List.map_nil]); first | done | rfl | (simp only [List.length_drop, List.length_take]; rfl)) ?_; (with_reducible refine (path_Version.calls kj5 (wrap64 (a0)) a1 (wrap64 (a3)) t318 _ A13.out).mono ?_); rintro e w19 ⟨v319, rfl, ho0, hb⟩; refine ⟨_, rfl, ?_⟩; have n0_ := Aside0.mk (Kd.R_lower ho0 (below_size (by repeat (first | (with_reducible first | exact HB.out | apply below_alloc | apply pw_below_drewN | apply below_drew1) | exact HB.out)))); have n1_ := Aside0.mk (below_step (by repeat (first | (with_reducible first | exact HB.out | apply below_alloc | apply pw_below_drewN | apply below_drew1) | exact HB.out)) hb); clear HB; have HO320 := n0_; have HB := n1_; clear n0_ n1_; (try clear hb); (try clear hb2); (try clear hk); (try clear hi); (try clear ho0)) | ((with_reducible refine gate_callee (f := 32) rfl ?_); refine goesL_ (some 34) rfl rfl Try.func32 (by kernel_rfl) rfl #[.int .i64 (wrap64 (a0)), .string a2, .int .i64 (wrap64 (a4))] rfl (by (try simp only [List.map_toArray, List.map_cons, List.map_nil]); first | done | rfl | (simp only [List.length_drop, List.length_take]; rfl)) ?_; (with_reducible refine (path_Version.calls kj5 (wrap64 (a0)) a2 (wrap64 (a4)) t321 _ A14.out).mono ?_); rintro e w20 ⟨v322, rfl, ho0, hb⟩; refine ⟨_, rfl, ?_⟩; have n0_ := Aside0.mk (Kd.R_elder' (by (with_reducible repeat (first | apply Kd.R_alloc | apply Kd.R_drewN | apply Kd.R_drew)); exact HO320.out) (Kd.R_base ho0) hb); have n1_ := Aside0.mk (Kd.R_lower (Kd.R_new' ho0 (Kd.R_lt (by (with_reducible repeat (first | apply Kd.R_alloc | apply Kd.R_drewN | apply Kd.R_drew)); exact HO320.out))) (below_size (by repeat (first | (with_reducible first | exact HB.out | apply below_alloc | apply pw_below_drewN | apply below_drew1) | exact HB.out)))); have n2_ := Aside0.mk (below_step (by repeat (first | (with_reducible first | exact HB.out | apply below_alloc | apply pw_below_drewN | apply below_drew1) | exact HB.out)) hb); clear HO320; clear HB; have HO320 := n0_; have HO323 := n1_; have HB := n2_; clear n0_ n1_ n2_; (try clear hb); (try clear hb2); (try clear hk); (try clear hi); (try clear ho0); obtain ⟨Ao21, co21, eo21⟩ := Kd.R_slice HO320.out; subst eo21; obtain ⟨Ao22, co22, eo22⟩ := Kd.R_slice HO323.out; subst eo22) | ((with_reducible refine gate_callee (f := 47) rfl ?_); refine goesL_ (some 50) rfl rfl Try.func47 (by kernel_rfl) rfl #[.slice Ao21 t318.length co21, .slice Ao22 t321.length co22] rfl (by (try simp only [List.map_toArray, List.map_cons, List.map_nil]); first | done | rfl | (simp only [List.length_drop, List.length_take]; rfl)) ?_; (with_reducible refine (deedboxref18_Less.calls kj5 _ _ t318 _ _ t321 t324 _ ?side1 ?side2 ?side3 ?side4 A16.out).mono ?_); (case side1 => repeat (first | exact (Kd.R_reads' HO320.out).2.2 | (with_reducible refine Kd.C_alloc ?_ _) | (with_reducible refine Kd.C_drewN ?_ _) | (with_reducible refine Kd.C_drew ?_))); (case side2 => exact (Kd.R_reads' HO320.out).2.1); (case side3 => repeat (first | exact (Kd.R_reads' HO323.out).2.2 | (with_reducible refine Kd.C_alloc ?_ _) | (with_reducible refine Kd.C_drewN ?_ _) | (with_reducible refine Kd.C_drew ?_))); (case side4 => exact (Kd.R_reads' HO323.out).2.1); rintro e w' ⟨rfl, ⟨nd, rfl⟩⟩; refine ⟨_, rfl, ?_⟩) | (go_at_call 28; (with_reducible refine (deedboxlaw25_works.calls kj5  t325 _ A18.out hr_).mono ?_); rintro e w23 ⟨rfl, hb⟩; have n0_ := Aside0.mk (Kd.R_below (by (with_reducible repeat (first | apply Kd.R_alloc | apply Kd.R_drewN | apply Kd.R_drew)); exact HO320.out) hb); have n1_ := Aside0.mk (Kd.R_below (by (with_reducible repeat (first | apply Kd.R_alloc | apply Kd.R_drewN | apply Kd.R_drew)); exact HO323.out) hb); have n2_ := Aside0.mk (below_step (by repeat (first | (with_reducible first | exact HB.out | apply below_alloc | apply pw_below_drewN | apply below_drew1) | exact HB.out)) hb); clear HO320; clear HO323; clear HB; have HO320 := n0_; have HO323 := n1_; have HB := n2_; clear n0_ n1_ n2_; (try clear hb); (try clear hb2); (try clear hk); (try clear hi)))
            go_ret
            exact ⟨by first | rfl | (simp [errW_none, errW_some] <;> rfl) | (simp [*, errW_none, errW_some] <;> rfl), by repeat (first | (with_reducible first | exact HB.out | apply below_alloc | apply pw_below_drewN | apply below_drew1) | exact HB.out)⟩
          · rw [if_neg c17] at H
            have c17b0 : (t324 == true) = false := by simpa using c17
            (try (have c17b1 : decide (t324 = true) = false := by simpa using c17))
            (try (have c17b2 : (t324 == true) = false := by simpa using c17))
            (try (have c17b3 : ¬ (t324 = true) := by simpa using c17))
            clear c17
            obtain rfl := Option.some.inj H
            exact absurd hr_.out (by simp)
        · rw [if_neg c15] at H
          have c15b0 : (Op.bytesLess a1.toList a2.toList) = false := by simpa using c15
          clear c15
          by_cases c24 : a1.toList = a2.toList
          · rw [if_pos c24] at H
            have c24b0 : (a1.toList == a2.toList) = true := beq_iff_eq.mpr c24
            have c24b1 : (a1.toList != a2.toList) = false := bne_eq_false_iff_eq.mpr c24
            clear c24
            replace H := Option.bind_eq_some_iff.mp H
            obtain ⟨t326, A250, H⟩ := H
            replace H : (if (t326 == (decide (a3 > a4))) = true then ((deedboxlaw25_works.f kj5).bind fun t327 => (some t327)) else (some false)) = some r := H
            have A25 := Aside0.mk A250
            clear A250
            by_cases c26 : (t326 == (decide (a3 > a4))) = true
            · rw [if_pos c26] at H
              have c26b0 : (t326 == (decide (a3 > a4))) = true := c26
              (try (have c26b1 : decide (t326 = (decide (a3 > a4))) = true := by simpa using c26))
              (try (have c26b2 : (t326 == (decide (a3 > a4))) = true := by simpa using c26))
              clear c26
              replace H := Option.bind_eq_some_iff.mp H
              obtain ⟨t327, A270, H⟩ := H
              replace H : (some t327) = some r := H
              have A27 := Aside0.mk A270
              clear A270
              obtain rfl := Option.some.inj H
              go_wp2_with (first | ((with_reducible refine gate_callee (f := 32) rfl ?_); refine goesL_ (some 28) rfl rfl Try.func32 (by kernel_rfl) rfl #[.int .i64 (wrap64 (a0)), .string a1, .int .i64 (wrap64 (a3))] rfl (by (try simp only [List.map_toArray, List.map_cons, List.map_nil]); first | done | rfl | (simp only [List.length_drop, List.length_take]; rfl)) ?_; (with_reducible refine (path_Version.calls kj5 (wrap64 (a0)) a1 (wrap64 (a3)) t318 _ A13.out).mono ?_); rintro e w28 ⟨v319, rfl, ho0, hb⟩; refine ⟨_, rfl, ?_⟩; have n0_ := Aside0.mk (Kd.R_lower ho0 (below_size (by repeat (first | (with_reducible first | exact HB.out | apply below_alloc | apply pw_below_drewN | apply below_drew1) | exact HB.out)))); have n1_ := Aside0.mk (below_step (by repeat (first | (with_reducible first | exact HB.out | apply below_alloc | apply pw_below_drewN | apply below_drew1) | exact HB.out)) hb); clear HB; have HO320 := n0_; have HB := n1_; clear n0_ n1_; (try clear hb); (try clear hb2); (try clear hk); (try clear hi); (try clear ho0)) | ((with_reducible refine gate_callee (f := 32) rfl ?_); refine goesL_ (some 34) rfl rfl Try.func32 (by kernel_rfl) rfl #[.int .i64 (wrap64 (a0)), .string a2, .int .i64 (wrap64 (a4))] rfl (by (try simp only [List.map_toArray, List.map_cons, List.map_nil]); first | done | rfl | (simp only [List.length_drop, List.length_take]; rfl)) ?_; (with_reducible refine (path_Version.calls kj5 (wrap64 (a0)) a2 (wrap64 (a4)) t321 _ A14.out).mono ?_); rintro e w29 ⟨v322, rfl, ho0, hb⟩; refine ⟨_, rfl, ?_⟩; have n0_ := Aside0.mk (Kd.R_elder' (by (with_reducible repeat (first | apply Kd.R_alloc | apply Kd.R_drewN | apply Kd.R_drew)); exact HO320.out) (Kd.R_base ho0) hb); have n1_ := Aside0.mk (Kd.R_lower (Kd.R_new' ho0 (Kd.R_lt (by (with_reducible repeat (first | apply Kd.R_alloc | apply Kd.R_drewN | apply Kd.R_drew)); exact HO320.out))) (below_size (by repeat (first | (with_reducible first | exact HB.out | apply below_alloc | apply pw_below_drewN | apply below_drew1) | exact HB.out)))); have n2_ := Aside0.mk (below_step (by repeat (first | (with_reducible first | exact HB.out | apply below_alloc | apply pw_below_drewN | apply below_drew1) | exact HB.out)) hb); clear HO320; clear HB; have HO320 := n0_; have HO323 := n1_; have HB := n2_; clear n0_ n1_ n2_; (try clear hb); (try clear hb2); (try clear hk); (try clear hi); (try clear ho0); obtain ⟨Ao30, co30, eo30⟩ := Kd.R_slice HO320.out; subst eo30; obtain ⟨Ao31, co31, eo31⟩ := Kd.R_slice HO323.out; subst eo31) | ((with_reducible refine gate_callee (f := 47) rfl ?_); refine goesL_ (some 50) rfl rfl Try.func47 (by kernel_rfl) rfl #[.slice Ao30 t318.length co30, .slice Ao31 t321.length co31] rfl (by (try simp only [List.map_toArray, List.map_cons, List.map_nil]); first | done | rfl | (simp only [List.length_drop, List.length_take]; rfl)) ?_; (with_reducible refine (deedboxref18_Less.calls kj5 _ _ t318 _ _ t321 t326 _ ?side1 ?side2 ?side3 ?side4 A25.out).mono ?_); (case side1 => repeat (first | exact (Kd.R_reads' HO320.out).2.2 | (with_reducible refine Kd.C_alloc ?_ _) | (with_reducible refine Kd.C_drewN ?_ _) | (with_reducible refine Kd.C_drew ?_))); (case side2 => exact (Kd.R_reads' HO320.out).2.1); (case side3 => repeat (first | exact (Kd.R_reads' HO323.out).2.2 | (with_reducible refine Kd.C_alloc ?_ _) | (with_reducible refine Kd.C_drewN ?_ _) | (with_reducible refine Kd.C_drew ?_))); (case side4 => exact (Kd.R_reads' HO323.out).2.1); rintro e w' ⟨rfl, ⟨nd, rfl⟩⟩; refine ⟨_, rfl, ?_⟩) | (go_at_call 28; (with_reducible refine (deedboxlaw25_works.calls kj5  t327 _ A27.out hr_).mono ?_); rintro e w32 ⟨rfl, hb⟩; have n0_ := Aside0.mk (Kd.R_below (by (with_reducible repeat (first | apply Kd.R_alloc | apply Kd.R_drewN | apply Kd.R_drew)); exact HO320.out) hb); have n1_ := Aside0.mk (Kd.R_below (by (with_reducible repeat (first | apply Kd.R_alloc | apply Kd.R_drewN | apply Kd.R_drew)); exact HO323.out) hb); have n2_ := Aside0.mk (below_step (by repeat (first | (with_reducible first | exact HB.out | apply below_alloc | apply pw_below_drewN | apply below_drew1) | exact HB.out)) hb); clear HO320; clear HO323; clear HB; have HO320 := n0_; have HO323 := n1_; have HB := n2_; clear n0_ n1_ n2_; (try clear hb); (try clear hb2); (try clear hk); (try clear hi)))
              go_ret
              exact ⟨by first | rfl | (simp [errW_none, errW_some] <;> rfl) | (simp [*, errW_none, errW_some] <;> rfl), by repeat (first | (with_reducible first | exact HB.out | apply below_alloc | apply pw_below_drewN | apply below_drew1) | exact HB.out)⟩
            · rw [if_neg c26] at H
              have c26b0 : (t326 == (decide (a3 > a4))) = false := by simpa using c26
              (try (have c26b1 : decide (t326 = (decide (a3 > a4))) = false := by simpa using c26))
              (try (have c26b2 : (t326 == (decide (a3 > a4))) = false := by simpa using c26))
              (try (have c26b3 : ¬ (t326 = (decide (a3 > a4))) := by simpa using c26))
              clear c26
              obtain rfl := Option.some.inj H
              exact absurd hr_.out (by simp)
          · rw [if_neg c24] at H
            have c24b0 : (a1.toList == a2.toList) = false := beq_eq_false_iff_ne.mpr c24
            have c24b1 : (a1.toList != a2.toList) = true := bne_iff_ne.mpr c24
            replace H := Option.bind_eq_some_iff.mp H
            obtain ⟨t328, A330, H⟩ := H
            replace H : (if (t328 == false) = true then ((deedboxlaw25_works.f kj5).bind fun t329 => (some t329)) else (some false)) = some r := H
            have A33 := Aside0.mk A330
            clear A330
            by_cases c34 : (t328 == false) = true
            · rw [if_pos c34] at H
              have c34b0 : (t328 == false) = true := c34
              (try (have c34b1 : decide (t328 = false) = true := by simpa using c34))
              (try (have c34b2 : (t328 == false) = true := by simpa using c34))
              clear c34
              replace H := Option.bind_eq_some_iff.mp H
              obtain ⟨t329, A350, H⟩ := H
              replace H : (some t329) = some r := H
              have A35 := Aside0.mk A350
              clear A350
              obtain rfl := Option.some.inj H
              go_wp2_with (first | ((with_reducible refine gate_callee (f := 32) rfl ?_); refine goesL_ (some 28) rfl rfl Try.func32 (by kernel_rfl) rfl #[.int .i64 (wrap64 (a0)), .string a1, .int .i64 (wrap64 (a3))] rfl (by (try simp only [List.map_toArray, List.map_cons, List.map_nil]); first | done | rfl | (simp only [List.length_drop, List.length_take]; rfl)) ?_; (with_reducible refine (path_Version.calls kj5 (wrap64 (a0)) a1 (wrap64 (a3)) t318 _ A13.out).mono ?_); rintro e w36 ⟨v319, rfl, ho0, hb⟩; refine ⟨_, rfl, ?_⟩; have n0_ := Aside0.mk (Kd.R_lower ho0 (below_size (by repeat (first | (with_reducible first | exact HB.out | apply below_alloc | apply pw_below_drewN | apply below_drew1) | exact HB.out)))); have n1_ := Aside0.mk (below_step (by repeat (first | (with_reducible first | exact HB.out | apply below_alloc | apply pw_below_drewN | apply below_drew1) | exact HB.out)) hb); clear HB; have HO320 := n0_; have HB := n1_; clear n0_ n1_; (try clear hb); (try clear hb2); (try clear hk); (try clear hi); (try clear ho0)) | ((with_reducible refine gate_callee (f := 32) rfl ?_); refine goesL_ (some 34) rfl rfl Try.func32 (by kernel_rfl) rfl #[.int .i64 (wrap64 (a0)), .string a2, .int .i64 (wrap64 (a4))] rfl (by (try simp only [List.map_toArray, List.map_cons, List.map_nil]); first | done | rfl | (simp only [List.length_drop, List.length_take]; rfl)) ?_; (with_reducible refine (path_Version.calls kj5 (wrap64 (a0)) a2 (wrap64 (a4)) t321 _ A14.out).mono ?_); rintro e w37 ⟨v322, rfl, ho0, hb⟩; refine ⟨_, rfl, ?_⟩; have n0_ := Aside0.mk (Kd.R_elder' (by (with_reducible repeat (first | apply Kd.R_alloc | apply Kd.R_drewN | apply Kd.R_drew)); exact HO320.out) (Kd.R_base ho0) hb); have n1_ := Aside0.mk (Kd.R_lower (Kd.R_new' ho0 (Kd.R_lt (by (with_reducible repeat (first | apply Kd.R_alloc | apply Kd.R_drewN | apply Kd.R_drew)); exact HO320.out))) (below_size (by repeat (first | (with_reducible first | exact HB.out | apply below_alloc | apply pw_below_drewN | apply below_drew1) | exact HB.out)))); have n2_ := Aside0.mk (below_step (by repeat (first | (with_reducible first | exact HB.out | apply below_alloc | apply pw_below_drewN | apply below_drew1) | exact HB.out)) hb); clear HO320; clear HB; have HO320 := n0_; have HO323 := n1_; have HB := n2_; clear n0_ n1_ n2_; (try clear hb); (try clear hb2); (try clear hk); (try clear hi); (try clear ho0); obtain ⟨Ao38, co38, eo38⟩ := Kd.R_slice HO320.out; subst eo38; obtain ⟨Ao39, co39, eo39⟩ := Kd.R_slice HO323.out; subst eo39) | ((with_reducible refine gate_callee (f := 47) rfl ?_); refine goesL_ (some 50) rfl rfl Try.func47 (by kernel_rfl) rfl #[.slice Ao38 t318.length co38, .slice Ao39 t321.length co39] rfl (by (try simp only [List.map_toArray, List.map_cons, List.map_nil]); first | done | rfl | (simp only [List.length_drop, List.length_take]; rfl)) ?_; (with_reducible refine (deedboxref18_Less.calls kj5 _ _ t318 _ _ t321 t328 _ ?side1 ?side2 ?side3 ?side4 A33.out).mono ?_); (case side1 => repeat (first | exact (Kd.R_reads' HO320.out).2.2 | (with_reducible refine Kd.C_alloc ?_ _) | (with_reducible refine Kd.C_drewN ?_ _) | (with_reducible refine Kd.C_drew ?_))); (case side2 => exact (Kd.R_reads' HO320.out).2.1); (case side3 => repeat (first | exact (Kd.R_reads' HO323.out).2.2 | (with_reducible refine Kd.C_alloc ?_ _) | (with_reducible refine Kd.C_drewN ?_ _) | (with_reducible refine Kd.C_drew ?_))); (case side4 => exact (Kd.R_reads' HO323.out).2.1); rintro e w' ⟨rfl, ⟨nd, rfl⟩⟩; refine ⟨_, rfl, ?_⟩) | (go_at_call 28; (with_reducible refine (deedboxlaw25_works.calls kj5  t329 _ A35.out hr_).mono ?_); rintro e w40 ⟨rfl, hb⟩; have n0_ := Aside0.mk (Kd.R_below (by (with_reducible repeat (first | apply Kd.R_alloc | apply Kd.R_drewN | apply Kd.R_drew)); exact HO320.out) hb); have n1_ := Aside0.mk (Kd.R_below (by (with_reducible repeat (first | apply Kd.R_alloc | apply Kd.R_drewN | apply Kd.R_drew)); exact HO323.out) hb); have n2_ := Aside0.mk (below_step (by repeat (first | (with_reducible first | exact HB.out | apply below_alloc | apply pw_below_drewN | apply below_drew1) | exact HB.out)) hb); clear HO320; clear HO323; clear HB; have HO320 := n0_; have HO323 := n1_; have HB := n2_; clear n0_ n1_ n2_; (try clear hb); (try clear hb2); (try clear hk); (try clear hi)))
              go_ret
              exact ⟨by first | rfl | (simp [errW_none, errW_some] <;> rfl) | (simp [*, errW_none, errW_some] <;> rfl), by repeat (first | (with_reducible first | exact HB.out | apply below_alloc | apply pw_below_drewN | apply below_drew1) | exact HB.out)⟩
            · rw [if_neg c34] at H
              have c34b0 : (t328 == false) = false := by simpa using c34
              (try (have c34b1 : decide (t328 = false) = false := by simpa using c34))
              (try (have c34b2 : (t328 == false) = false := by simpa using c34))
              (try (have c34b3 : ¬ (t328 = false) := by simpa using c34))
              clear c34
              obtain rfl := Option.some.inj H
              exact absurd hr_.out (by simp)

/-- THE ONE PURE STATEMENT of deedboxlaw25_PathOrder: yours. -/
def deedboxlaw25_PathOrder.Pure : Prop := ∀ (a0 : Int) (a1 : ByteArray) (a2 : ByteArray) (a3 : Int) (a4 : Int), (Lit.int .u16 a0).wf = true → a1.size ≤ 140737488351232 → a2.size ≤ 140737488351232 → (Lit.int .u32 a3).wf = true → (Lit.int .u32 a4).wf = true → ∃ k, deedboxlaw25_PathOrder.f k a0 a1 a2 a3 a4 = some true
theorem deedboxlaw25_PathOrder.walk (P : deedboxlaw25_PathOrder.Pure) (a0 : Int) (a1 : ByteArray) (a2 : ByteArray) (a3 : Int) (a4 : Int) (w : World) (w0 : (Lit.int .u16 a0).wf = true) (w1 : a1.size ≤ 140737488351232) (w2 : a2.size ≤ 140737488351232) (w3 : (Lit.int .u32 a3).wf = true) (w4 : (Lit.int .u32 a4).wf = true) :
    Calls Try.prog 8 #[.int .u16 a0, .string a1, .string a2, .int .u32 a3, .int .u32 a4] w fun e w' => e = .returned (.bool true) ∧ Below w.heap.size w w' := by
  obtain ⟨k, h⟩ := P a0 a1 a2 a3 a4 w0 w1 w2 w3 w4
  refine (deedboxlaw25_PathOrder.calls k a0 a1 a2 a3 a4 true w h (Aside0.mk rfl)).mono ?_
  rintro e w' ⟨rfl, hd⟩
  exact ⟨rfl, hd⟩

end Go.Proofs.Ytagoofdopgopoaa.PPathOrder
