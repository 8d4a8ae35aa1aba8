/- Written by a program of the prover: the functions that a law reaches, as plain Lean functions, each with the proof that the call of the machine comes to it. -/
import Derived.Test.YtagoofdopgopoaaPPathBackx0
import Derived.Test.YtagoofdopgopoaaPPathBackx1
import Derived.Test.YtagoofdopgopoaaPPathBackx2
namespace Go.Proofs.Ytagoofdopgopoaa.PPathBack
open Go.RowKit Go.Proofs.YtagoofdopgopoaaW.PrintWords Go.Proofs.YtagoofdopgopoaaW.PrintLast Go.Proofs.YtagoofdopgopoaaW.PrintMore
attribute [local go_sem] max2_int min2_int max_two min_two max_three min_three max_four min_four   -- for this text's walks alone
set_option linter.unusedVariables false
set_option linter.unusedSimpArgs false

/-! ### deedboxlaw25_works: function 28 -/
def deedboxlaw25_works.f (k : Nat)  : Option (Bool) := (path_Version.f k 3 (⟨#[107]⟩ : ByteArray) 9).bind fun t274 => ((path_ReadVersion.f k t274).bind fun bt277 => ((path_Upload.f k 3 7).bind fun t280 => ((path_ReadUpload.f k t280).bind fun bt283 => ((path_Part.f k 3 7 5).bind fun t285 => ((path_ReadPart.f k t285).bind fun bt288 => (if bt277.2.2 = true then (if bt277.1.toList = ([107] : List UInt8) then (if bt277.2.1 = 9 then (if bt283.2 = true then (if bt283.1 = 7 then (if bt288.2 = true then (if bt288.1 = 5 then ((path_Names.f k 3 (⟨#[107]⟩ : ByteArray)).bind fun t290 => ((path_Begins.f t274 t290).bind fun t293 => (if t293 = true then ((path_Names.f k 3 (⟨#[]⟩ : ByteArray)).bind fun t294 => ((path_Begins.f t274 t294).bind fun t297 => (if t297 = true then (some false) else ((path_Count.f k).bind fun t298 => (if (strOfNums t298).toList = ([99] : List UInt8) then ((path_Fits.f t274).bind fun t301 => (if t301 = true then ((path_Bucket.f k (⟨#[120]⟩ : ByteArray)).bind fun t302 => (if (strOfNums t302).toList = ([98, 120] : List UInt8) then ((path_Rotate.f k 1).bind fun t305 => (if (t305.length : Int) = 3 then ((path_Next.f k t274).bind fun t308 => (some ((t308.length : Int) == (wrap64 ((t274.length : Int) + 1))))) else (some false))) else (some false))) else (some false))) else (some false)))))) else (some false)))) else (some false)) else (some false)) else (some false)) else (some false)) else (some false)) else (some false)) else (some false)))))))
theorem deedboxlaw25_works.mono : ∀ k, LeO (deedboxlaw25_works.f k ) (deedboxlaw25_works.f (k + 1) ) := by
  intro  k
  unfold deedboxlaw25_works.f
  repeat' first
      | (with_reducible exact path_Bucket.mono _ _)
      | (with_reducible exact path_Count.mono _)
      | (with_reducible exact path_Names.mono _ _ _)
      | (with_reducible exact path_Next.mono _ _)
      | (with_reducible exact path_Part.mono _ _ _ _)
      | (with_reducible exact path_ReadPart.mono _ _)
      | (with_reducible exact path_ReadUpload.mono _ _)
      | (with_reducible exact path_ReadVersion.mono _ _)
      | (with_reducible exact path_Rotate.mono _ _)
      | (with_reducible exact path_Upload.mono _ _ _)
      | (with_reducible exact path_Version.mono _ _ _ _)
      | (with_reducible exact LeO.refl _)
      | (with_reducible exact LeO.none _)
      | (with_reducible refine LeO.ite ?_ ?_)
      | (with_reducible refine LeO.bind ?_ (fun _ => ?_))
      | exact path_Bucket.mono _ _
      | exact path_Count.mono _
      | exact path_Names.mono _ _ _
      | exact path_Next.mono _ _
      | exact path_Part.mono _ _ _ _
      | exact path_ReadPart.mono _ _
      | exact path_ReadUpload.mono _ _
      | exact path_ReadVersion.mono _ _
      | exact path_Rotate.mono _ _
      | exact path_Upload.mono _ _ _
      | exact path_Version.mono _ _ _ _
      | exact LeO.none _
      | refine LeO.ite ?_ ?_
      | refine LeO.bind ?_ (fun _ => ?_)
set_option maxHeartbeats 8000000 in
set_option maxRecDepth 100000 in
theorem deedboxlaw25_works.calls (k : Nat)  (r : Bool) (w : World) (h : deedboxlaw25_works.f k  = some r) (hr_ : Aside0 (r = true)) :
    Calls Try.prog 28 #[] w fun e w' => e = .returned (.bool r) ∧ Below w.heap.size w w' := by
  have HB := Aside0.mk (Below.refl w.heap.size w)
  have H : ((path_Version.f k 3 (⟨#[107]⟩ : ByteArray) 9).bind fun t274 => ((path_ReadVersion.f k t274).bind fun bt277 => ((path_Upload.f k 3 7).bind fun t280 => ((path_ReadUpload.f k t280).bind fun bt283 => ((path_Part.f k 3 7 5).bind fun t285 => ((path_ReadPart.f k t285).bind fun bt288 => (if bt277.2.2 = true then (if bt277.1.toList = ([107] : List UInt8) then (if bt277.2.1 = 9 then (if bt283.2 = true then (if bt283.1 = 7 then (if bt288.2 = true then (if bt288.1 = 5 then ((path_Names.f k 3 (⟨#[107]⟩ : ByteArray)).bind fun t290 => ((path_Begins.f t274 t290).bind fun t293 => (if t293 = true then ((path_Names.f k 3 (⟨#[]⟩ : ByteArray)).bind fun t294 => ((path_Begins.f t274 t294).bind fun t297 => (if t297 = true then (some false) else ((path_Count.f k).bind fun t298 => (if (strOfNums t298).toList = ([99] : List UInt8) then ((path_Fits.f t274).bind fun t301 => (if t301 = true then ((path_Bucket.f k (⟨#[120]⟩ : ByteArray)).bind fun t302 => (if (strOfNums t302).toList = ([98, 120] : List UInt8) then ((path_Rotate.f k 1).bind fun t305 => (if (t305.length : Int) = 3 then ((path_Next.f k t274).bind fun t308 => (some ((t308.length : Int) == (wrap64 ((t274.length : Int) + 1))))) else (some false))) else (some false))) else (some false))) else (some false)))))) else (some false)))) else (some false)) else (some false)) else (some false)) else (some false)) else (some false)) else (some false)) else (some false)))))))) = some r := h
  clear h
  replace H := Option.bind_eq_some_iff.mp H
  obtain ⟨t274, A10, H⟩ := H
  replace H : ((path_ReadVersion.f k t274).bind fun bt277 => ((path_Upload.f k 3 7).bind fun t280 => ((path_ReadUpload.f k t280).bind fun bt283 => ((path_Part.f k 3 7 5).bind fun t285 => ((path_ReadPart.f k t285).bind fun bt288 => (if bt277.2.2 = true then (if bt277.1.toList = ([107] : List UInt8) then (if bt277.2.1 = 9 then (if bt283.2 = true then (if bt283.1 = 7 then (if bt288.2 = true then (if bt288.1 = 5 then ((path_Names.f k 3 (⟨#[107]⟩ : ByteArray)).bind fun t290 => ((path_Begins.f t274 t290).bind fun t293 => (if t293 = true then ((path_Names.f k 3 (⟨#[]⟩ : ByteArray)).bind fun t294 => ((path_Begins.f t274 t294).bind fun t297 => (if t297 = true then (some false) else ((path_Count.f k).bind fun t298 => (if (strOfNums t298).toList = ([99] : List UInt8) then ((path_Fits.f t274).bind fun t301 => (if t301 = true then ((path_Bucket.f k (⟨#[120]⟩ : ByteArray)).bind fun t302 => (if (strOfNums t302).toList = ([98, 120] : List UInt8) then ((path_Rotate.f k 1).bind fun t305 => (if (t305.length : Int) = 3 then ((path_Next.f k t274).bind fun t308 => (some ((t308.length : Int) == (wrap64 ((t274.length : Int) + 1))))) else (some false))) else (some false))) else (some false))) else (some false)))))) else (some false)))) else (some false)) else (some false)) else (some false)) else (some false)) else (some false)) else (some false)) else (some false))))))) = some r := H
  have A1 := Aside0.mk A10
  clear A10
  replace H := Option.bind_eq_some_iff.mp H
  obtain ⟨⟨t277, t278, t279⟩, A20, H⟩ := H
  replace H : ((path_Upload.f k 3 7).bind fun t280 => ((path_ReadUpload.f k t280).bind fun bt283 => ((path_Part.f k 3 7 5).bind fun t285 => ((path_ReadPart.f k t285).bind fun bt288 => (if t279 = true then (if t277.toList = ([107] : List UInt8) then (if t278 = 9 then (if bt283.2 = true then (if bt283.1 = 7 then (if bt288.2 = true then (if bt288.1 = 5 then ((path_Names.f k 3 (⟨#[107]⟩ : ByteArray)).bind fun t290 => ((path_Begins.f t274 t290).bind fun t293 => (if t293 = true then ((path_Names.f k 3 (⟨#[]⟩ : ByteArray)).bind fun t294 => ((path_Begins.f t274 t294).bind fun t297 => (if t297 = true then (some false) else ((path_Count.f k).bind fun t298 => (if (strOfNums t298).toList = ([99] : List UInt8) then ((path_Fits.f t274).bind fun t301 => (if t301 = true then ((path_Bucket.f k (⟨#[120]⟩ : ByteArray)).bind fun t302 => (if (strOfNums t302).toList = ([98, 120] : List UInt8) then ((path_Rotate.f k 1).bind fun t305 => (if (t305.length : Int) = 3 then ((path_Next.f k t274).bind fun t308 => (some ((t308.length : Int) == (wrap64 ((t274.length : Int) + 1))))) else (some false))) else (some false))) else (some false))) else (some false)))))) else (some false)))) else (some false)) else (some false)) else (some false)) else (some false)) else (some false)) else (some false)) else (some false)))))) = some r := H
  have A2 := Aside0.mk A20
  clear A20
  replace H := Option.bind_eq_some_iff.mp H
  obtain ⟨t280, A30, H⟩ := H
  replace H : ((path_ReadUpload.f k t280).bind fun bt283 => ((path_Part.f k 3 7 5).bind fun t285 => ((path_ReadPart.f k t285).bind fun bt288 => (if t279 = true then (if t277.toList = ([107] : List UInt8) then (if t278 = 9 then (if bt283.2 = true then (if bt283.1 = 7 then (if bt288.2 = true then (if bt288.1 = 5 then ((path_Names.f k 3 (⟨#[107]⟩ : ByteArray)).bind fun t290 => ((path_Begins.f t274 t290).bind fun t293 => (if t293 = true then ((path_Names.f k 3 (⟨#[]⟩ : ByteArray)).bind fun t294 => ((path_Begins.f t274 t294).bind fun t297 => (if t297 = true then (some false) else ((path_Count.f k).bind fun t298 => (if (strOfNums t298).toList = ([99] : List UInt8) then ((path_Fits.f t274).bind fun t301 => (if t301 = true then ((path_Bucket.f k (⟨#[120]⟩ : ByteArray)).bind fun t302 => (if (strOfNums t302).toList = ([98, 120] : List UInt8) then ((path_Rotate.f k 1).bind fun t305 => (if (t305.length : Int) = 3 then ((path_Next.f k t274).bind fun t308 => (some ((t308.length : Int) == (wrap64 ((t274.length : Int) + 1))))) else (some false))) else (some false))) else (some false))) else (some false)))))) else (some false)))) else (some false)) else (some false)) else (some false)) else (some false)) else (some false)) else (some false)) else (some false))))) = some r := H
  have A3 := Aside0.mk A30
  clear A30
  replace H := Option.bind_eq_some_iff.mp H
  obtain ⟨⟨t283, t284⟩, A40, H⟩ := H
  replace H : ((path_Part.f k 3 7 5).bind fun t285 => ((path_ReadPart.f k t285).bind fun bt288 => (if t279 = true then (if t277.toList = ([107] : List UInt8) then (if t278 = 9 then (if t284 = true then (if t283 = 7 then (if bt288.2 = true then (if bt288.1 = 5 then ((path_Names.f k 3 (⟨#[107]⟩ : ByteArray)).bind fun t290 => ((path_Begins.f t274 t290).bind fun t293 => (if t293 = true then ((path_Names.f k 3 (⟨#[]⟩ : ByteArray)).bind fun t294 => ((path_Begins.f t274 t294).bind fun t297 => (if t297 = true then (some false) else ((path_Count.f k).bind fun t298 => (if (strOfNums t298).toList = ([99] : List UInt8) then ((path_Fits.f t274).bind fun t301 => (if t301 = true then ((path_Bucket.f k (⟨#[120]⟩ : ByteArray)).bind fun t302 => (if (strOfNums t302).toList = ([98, 120] : List UInt8) then ((path_Rotate.f k 1).bind fun t305 => (if (t305.length : Int) = 3 then ((path_Next.f k t274).bind fun t308 => (some ((t308.length : Int) == (wrap64 ((t274.length : Int) + 1))))) else (some false))) else (some false))) else (some false))) else (some false)))))) else (some false)))) else (some false)) else (some false)) else (some false)) else (some false)) else (some false)) else (some false)) else (some false)))) = some r := H
  have A4 := Aside0.mk A40
  clear A40
  replace H := Option.bind_eq_some_iff.mp H
  obtain ⟨t285, A50, H⟩ := H
  replace H : ((path_ReadPart.f k t285).bind fun bt288 => (if t279 = true then (if t277.toList = ([107] : List UInt8) then (if t278 = 9 then (if t284 = true then (if t283 = 7 then (if bt288.2 = true then (if bt288.1 = 5 then ((path_Names.f k 3 (⟨#[107]⟩ : ByteArray)).bind fun t290 => ((path_Begins.f t274 t290).bind fun t293 => (if t293 = true then ((path_Names.f k 3 (⟨#[]⟩ : ByteArray)).bind fun t294 => ((path_Begins.f t274 t294).bind fun t297 => (if t297 = true then (some false) else ((path_Count.f k).bind fun t298 => (if (strOfNums t298).toList = ([99] : List UInt8) then ((path_Fits.f t274).bind fun t301 => (if t301 = true then ((path_Bucket.f k (⟨#[120]⟩ : ByteArray)).bind fun t302 => (if (strOfNums t302).toList = ([98, 120] : List UInt8) then ((path_Rotate.f k 1).bind fun t305 => (if (t305.length : Int) = 3 then ((path_Next.f k t274).bind fun t308 => (some ((t308.length : Int) == (wrap64 ((t274.length : Int) + 1))))) else (some false))) else (some false))) else (some false))) else (some false)))))) else (some false)))) else (some false)) else (some false)) else (some false)) else (some false)) else (some false)) else (some false)) else (some false))) = some r := H
  have A5 := Aside0.mk A50
  clear A50
  replace H := Option.bind_eq_some_iff.mp H
  obtain ⟨⟨t288, t289⟩, A60, H⟩ := H
  replace H : (if t279 = true then (if t277.toList = ([107] : List UInt8) then (if t278 = 9 then (if t284 = true then (if t283 = 7 then (if t289 = true then (if t288 = 5 then ((path_Names.f k 3 (⟨#[107]⟩ : ByteArray)).bind fun t290 => ((path_Begins.f t274 t290).bind fun t293 => (if t293 = true then ((path_Names.f k 3 (⟨#[]⟩ : ByteArray)).bind fun t294 => ((path_Begins.f t274 t294).bind fun t297 => (if t297 = true then (some false) else ((path_Count.f k).bind fun t298 => (if (strOfNums t298).toList = ([99] : List UInt8) then ((path_Fits.f t274).bind fun t301 => (if t301 = true then ((path_Bucket.f k (⟨#[120]⟩ : ByteArray)).bind fun t302 => (if (strOfNums t302).toList = ([98, 120] : List UInt8) then ((path_Rotate.f k 1).bind fun t305 => (if (t305.length : Int) = 3 then ((path_Next.f k t274).bind fun t308 => (some ((t308.length : Int) == (wrap64 ((t274.length : Int) + 1))))) else (some false))) else (some false))) else (some false))) else (some false)))))) else (some false)))) else (some false)) else (some false)) else (some false)) else (some false)) else (some false)) else (some false)) else (some false)) = some r := H
  have A6 := Aside0.mk A60
  clear A60
  by_cases c7 : t279 = true
  · subst c7
    have H1 : (if t277.toList = ([107] : List UInt8) then (if t278 = 9 then (if t284 = true then (if t283 = 7 then (if t289 = true then (if t288 = 5 then ((path_Names.f k 3 (⟨#[107]⟩ : ByteArray)).bind fun t290 => ((path_Begins.f t274 t290).bind fun t293 => (if t293 = true then ((path_Names.f k 3 (⟨#[]⟩ : ByteArray)).bind fun t294 => ((path_Begins.f t274 t294).bind fun t297 => (if t297 = true then (some false) else ((path_Count.f k).bind fun t298 => (if (strOfNums t298).toList = ([99] : List UInt8) then ((path_Fits.f t274).bind fun t301 => (if t301 = true then ((path_Bucket.f k (⟨#[120]⟩ : ByteArray)).bind fun t302 => (if (strOfNums t302).toList = ([98, 120] : List UInt8) then ((path_Rotate.f k 1).bind fun t305 => (if (t305.length : Int) = 3 then ((path_Next.f k t274).bind fun t308 => (some ((t308.length : Int) == (wrap64 ((t274.length : Int) + 1))))) else (some false))) else (some false))) else (some false))) else (some false)))))) else (some false)))) else (some false)) else (some false)) else (some false)) else (some false)) else (some false)) else (some false)) = some r := by rw [if_pos rfl] at H; exact H
    clear H
    have H := H1
    clear H1
    by_cases c8 : t277.toList = ([107] : List UInt8)
    · rw [if_pos c8] at H
      have c8b0 : (t277.toList == ([107] : List UInt8)) = true := beq_iff_eq.mpr c8
      have c8b1 : (t277.toList != ([107] : List UInt8)) = false := bne_eq_false_iff_eq.mpr c8
      clear c8
      by_cases c9 : t278 = 9
      · rw [if_pos c9] at H
        have c9b0 : (t278 == 9) = true := beq_iff_eq.mpr c9
        have c9b1 : (t278 != 9) = false := bne_eq_false_iff_eq.mpr c9
        clear c9
        by_cases c10 : t284 = true
        · subst c10
          have H1 : (if t283 = 7 then (if t289 = true then (if t288 = 5 then ((path_Names.f k 3 (⟨#[107]⟩ : ByteArray)).bind fun t290 => ((path_Begins.f t274 t290).bind fun t293 => (if t293 = true then ((path_Names.f k 3 (⟨#[]⟩ : ByteArray)).bind fun t294 => ((path_Begins.f t274 t294).bind fun t297 => (if t297 = true then (some false) else ((path_Count.f k).bind fun t298 => (if (strOfNums t298).toList = ([99] : List UInt8) then ((path_Fits.f t274).bind fun t301 => (if t301 = true then ((path_Bucket.f k (⟨#[120]⟩ : ByteArray)).bind fun t302 => (if (strOfNums t302).toList = ([98, 120] : List UInt8) then ((path_Rotate.f k 1).bind fun t305 => (if (t305.length : Int) = 3 then ((path_Next.f k t274).bind fun t308 => (some ((t308.length : Int) == (wrap64 ((t274.length : Int) + 1))))) else (some false))) else (some false))) else (some false))) else (some false)))))) else (some false)))) else (some false)) else (some false)) else (some false)) = some r := by rw [if_pos rfl] at H; exact H
          clear H
          have H := H1
          clear H1
          by_cases c11 : t283 = 7
          · rw [if_pos c11] at H
            have c11b0 : (t283 == 7) = true := beq_iff_eq.mpr c11
            have c11b1 : (t283 != 7) = false := bne_eq_false_iff_eq.mpr c11
            clear c11
            by_cases c12 : t289 = true
            · subst c12
              have H1 : (if t288 = 5 then ((path_Names.f k 3 (⟨#[107]⟩ : ByteArray)).bind fun t290 => ((path_Begins.f t274 t290).bind fun t293 => (if t293 = true then ((path_Names.f k 3 (⟨#[]⟩ : ByteArray)).bind fun t294 => ((path_Begins.f t274 t294).bind fun t297 => (if t297 = true then (some false) else ((path_Count.f k).bind fun t298 => (if (strOfNums t298).toList = ([99] : List UInt8) then ((path_Fits.f t274).bind fun t301 => (if t301 = true then ((path_Bucket.f k (⟨#[120]⟩ : ByteArray)).bind fun t302 => (if (strOfNums t302).toList = ([98, 120] : List UInt8) then ((path_Rotate.f k 1).bind fun t305 => (if (t305.length : Int) = 3 then ((path_Next.f k t274).bind fun t308 => (some ((t308.length : Int) == (wrap64 ((t274.length : Int) + 1))))) else (some false))) else (some false))) else (some false))) else (some false)))))) else (some false)))) else (some false)) = some r := by rw [if_pos rfl] at H; exact H
              clear H
              have H := H1
              clear H1
              by_cases c13 : t288 = 5
              · rw [if_pos c13] at H
                have c13b0 : (t288 == 5) = true := beq_iff_eq.mpr c13
                have c13b1 : (t288 != 5) = false := bne_eq_false_iff_eq.mpr c13
                clear c13
                replace H := Option.bind_eq_some_iff.mp H
                obtain ⟨t290, A140, H⟩ := H
                replace H : ((path_Begins.f t274 t290).bind fun t293 => (if t293 = true then ((path_Names.f k 3 (⟨#[]⟩ : ByteArray)).bind fun t294 => ((path_Begins.f t274 t294).bind fun t297 => (if t297 = true then (some false) else ((path_Count.f k).bind fun t298 => (if (strOfNums t298).toList = ([99] : List UInt8) then ((path_Fits.f t274).bind fun t301 => (if t301 = true then ((path_Bucket.f k (⟨#[120]⟩ : ByteArray)).bind fun t302 => (if (strOfNums t302).toList = ([98, 120] : List UInt8) then ((path_Rotate.f k 1).bind fun t305 => (if (t305.length : Int) = 3 then ((path_Next.f k t274).bind fun t308 => (some ((t308.length : Int) == (wrap64 ((t274.length : Int) + 1))))) else (some false))) else (some false))) else (some false))) else (some false)))))) else (some false))) = some r := H
                have A14 := Aside0.mk A140
                clear A140
                replace H := Option.bind_eq_some_iff.mp H
                obtain ⟨t293, A150, H⟩ := H
                replace H : (if t293 = true then ((path_Names.f k 3 (⟨#[]⟩ : ByteArray)).bind fun t294 => ((path_Begins.f t274 t294).bind fun t297 => (if t297 = true then (some false) else ((path_Count.f k).bind fun t298 => (if (strOfNums t298).toList = ([99] : List UInt8) then ((path_Fits.f t274).bind fun t301 => (if t301 = true then ((path_Bucket.f k (⟨#[120]⟩ : ByteArray)).bind fun t302 => (if (strOfNums t302).toList = ([98, 120] : List UInt8) then ((path_Rotate.f k 1).bind fun t305 => (if (t305.length : Int) = 3 then ((path_Next.f k t274).bind fun t308 => (some ((t308.length : Int) == (wrap64 ((t274.length : Int) + 1))))) else (some false))) else (some false))) else (some false))) else (some false)))))) else (some false)) = some r := H
                have A15 := Aside0.mk A150
                clear A150
                by_cases c16 : t293 = true
                · subst c16
                  have H1 : ((path_Names.f k 3 (⟨#[]⟩ : ByteArray)).bind fun t294 => ((path_Begins.f t274 t294).bind fun t297 => (if t297 = true then (some false) else ((path_Count.f k).bind fun t298 => (if (strOfNums t298).toList = ([99] : List UInt8) then ((path_Fits.f t274).bind fun t301 => (if t301 = true then ((path_Bucket.f k (⟨#[120]⟩ : ByteArray)).bind fun t302 => (if (strOfNums t302).toList = ([98, 120] : List UInt8) then ((path_Rotate.f k 1).bind fun t305 => (if (t305.length : Int) = 3 then ((path_Next.f k t274).bind fun t308 => (some ((t308.length : Int) == (wrap64 ((t274.length : Int) + 1))))) else (some false))) else (some false))) else (some false))) else (some false)))))) = some r := by rw [if_pos rfl] at H; exact H
                  clear H
                  have H := H1
                  clear H1
                  replace H := Option.bind_eq_some_iff.mp H
                  obtain ⟨t294, A170, H⟩ := H
                  replace H : ((path_Begins.f t274 t294).bind fun t297 => (if t297 = true then (some false) else ((path_Count.f k).bind fun t298 => (if (strOfNums t298).toList = ([99] : List UInt8) then ((path_Fits.f t274).bind fun t301 => (if t301 = true then ((path_Bucket.f k (⟨#[120]⟩ : ByteArray)).bind fun t302 => (if (strOfNums t302).toList = ([98, 120] : List UInt8) then ((path_Rotate.f k 1).bind fun t305 => (if (t305.length : Int) = 3 then ((path_Next.f k t274).bind fun t308 => (some ((t308.length : Int) == (wrap64 ((t274.length : Int) + 1))))) else (some false))) else (some false))) else (some false))) else (some false))))) = some r := H
                  have A17 := Aside0.mk A170
                  clear A170
                  replace H := Option.bind_eq_some_iff.mp H
                  obtain ⟨t297, A180, H⟩ := H
                  replace H : (if t297 = true then (some false) else ((path_Count.f k).bind fun t298 => (if (strOfNums t298).toList = ([99] : List UInt8) then ((path_Fits.f t274).bind fun t301 => (if t301 = true then ((path_Bucket.f k (⟨#[120]⟩ : ByteArray)).bind fun t302 => (if (strOfNums t302).toList = ([98, 120] : List UInt8) then ((path_Rotate.f k 1).bind fun t305 => (if (t305.length : Int) = 3 then ((path_Next.f k t274).bind fun t308 => (some ((t308.length : Int) == (wrap64 ((t274.length : Int) + 1))))) else (some false))) else (some false))) else (some false))) else (some false)))) = some r := H
                  have A18 := Aside0.mk A180
                  clear A180
                  by_cases c19 : t297 = true
                  · subst c19
                    have H1 : (some false) = some r := by rw [if_pos rfl] at H; exact H
                    clear H
                    have H := H1
                    clear H1
                    obtain rfl := Option.some.inj H
                    exact absurd hr_.out (by simp)
                  · replace c19 := Bool.eq_false_iff.mpr c19
                    subst c19
                    have H1 : ((path_Count.f k).bind fun t298 => (if (strOfNums t298).toList = ([99] : List UInt8) then ((path_Fits.f t274).bind fun t301 => (if t301 = true then ((path_Bucket.f k (⟨#[120]⟩ : ByteArray)).bind fun t302 => (if (strOfNums t302).toList = ([98, 120] : List UInt8) then ((path_Rotate.f k 1).bind fun t305 => (if (t305.length : Int) = 3 then ((path_Next.f k t274).bind fun t308 => (some ((t308.length : Int) == (wrap64 ((t274.length : Int) + 1))))) else (some false))) else (some false))) else (some false))) else (some false))) = some r := by rw [if_neg (show ¬ (false = true) by decide)] at H; exact H
                    clear H
                    have H := H1
                    clear H1
                    replace H := Option.bind_eq_some_iff.mp H
                    obtain ⟨t298, A200, H⟩ := H
                    replace H : (if (strOfNums t298).toList = ([99] : List UInt8) then ((path_Fits.f t274).bind fun t301 => (if t301 = true then ((path_Bucket.f k (⟨#[120]⟩ : ByteArray)).bind fun t302 => (if (strOfNums t302).toList = ([98, 120] : List UInt8) then ((path_Rotate.f k 1).bind fun t305 => (if (t305.length : Int) = 3 then ((path_Next.f k t274).bind fun t308 => (some ((t308.length : Int) == (wrap64 ((t274.length : Int) + 1))))) else (some false))) else (some false))) else (some false))) else (some false)) = some r := H
                    have A20 := Aside0.mk A200
                    clear A200
                    by_cases c21 : (strOfNums t298).toList = ([99] : List UInt8)
                    · rw [if_pos c21] at H
                      have c21b0 : ((strOfNums t298).toList == ([99] : List UInt8)) = true := beq_iff_eq.mpr c21
                      have c21b1 : ((strOfNums t298).toList != ([99] : List UInt8)) = false := bne_eq_false_iff_eq.mpr c21
                      clear c21
                      replace H := Option.bind_eq_some_iff.mp H
                      obtain ⟨t301, A220, H⟩ := H
                      replace H : (if t301 = true then ((path_Bucket.f k (⟨#[120]⟩ : ByteArray)).bind fun t302 => (if (strOfNums t302).toList = ([98, 120] : List UInt8) then ((path_Rotate.f k 1).bind fun t305 => (if (t305.length : Int) = 3 then ((path_Next.f k t274).bind fun t308 => (some ((t308.length : Int) == (wrap64 ((t274.length : Int) + 1))))) else (some false))) else (some false))) else (some false)) = some r := H
                      have A22 := Aside0.mk A220
                      clear A220
                      by_cases c23 : t301 = true
                      · subst c23
                        have H1 : ((path_Bucket.f k (⟨#[120]⟩ : ByteArray)).bind fun t302 => (if (strOfNums t302).toList = ([98, 120] : List UInt8) then ((path_Rotate.f k 1).bind fun t305 => (if (t305.length : Int) = 3 then ((path_Next.f k t274).bind fun t308 => (some ((t308.length : Int) == (wrap64 ((t274.length : Int) + 1))))) else (some false))) else (some false))) = some r := by rw [if_pos rfl] at H; exact H
                        clear H
                        have H := H1
                        clear H1
                        replace H := Option.bind_eq_some_iff.mp H
                        obtain ⟨t302, A240, H⟩ := H
                        replace H : (if (strOfNums t302).toList = ([98, 120] : List UInt8) then ((path_Rotate.f k 1).bind fun t305 => (if (t305.length : Int) = 3 then ((path_Next.f k t274).bind fun t308 => (some ((t308.length : Int) == (wrap64 ((t274.length : Int) + 1))))) else (some false))) else (some false)) = some r := H
                        have A24 := Aside0.mk A240
                        clear A240
                        by_cases c25 : (strOfNums t302).toList = ([98, 120] : List UInt8)
                        · rw [if_pos c25] at H
                          have c25b0 : ((strOfNums t302).toList == ([98, 120] : List UInt8)) = true := beq_iff_eq.mpr c25
                          have c25b1 : ((strOfNums t302).toList != ([98, 120] : List UInt8)) = false := bne_eq_false_iff_eq.mpr c25
                          clear c25
                          replace H := Option.bind_eq_some_iff.mp H
                          obtain ⟨t305, A260, H⟩ := H
                          replace H : (if (t305.length : Int) = 3 then ((path_Next.f k t274).bind fun t308 => (some ((t308.length : Int) == (wrap64 ((t274.length : Int) + 1))))) else (some false)) = some r := H
                          have A26 := Aside0.mk A260
                          clear A260
                          by_cases c27 : (t305.length : Int) = 3
                          · rw [if_pos c27] at H
                            have c27b0 : ((t305.length : Int) == 3) = true := beq_iff_eq.mpr c27
                            have c27b1 : ((t305.length : Int) != 3) = false := bne_eq_false_iff_eq.mpr c27
                            clear c27
                            replace H := Option.bind_eq_some_iff.mp H
                            obtain ⟨t308, A280, H⟩ := H
                            replace H : (some ((t308.length : Int) == (wrap64 ((t274.length : Int) + 1)))) = some r := H
                            have A28 := Aside0.mk A280
                            clear A280
                            obtain rfl := Option.some.inj H
                            go_enter Try.func28, Try.ntmps28
                            go_wp2_with (first | ((with_reducible refine gate_callee (f := 32) rfl ?_); refine goesL_ (some 9) rfl rfl Try.func32 (by kernel_rfl) rfl #[.int .i64 3, .string (⟨#[107]⟩ : ByteArray), .int .i64 9] rfl (by (try simp only [List.map_toArray, List.map_cons, List.map_nil]); first | done | rfl | (simp only [List.length_drop, List.length_take]; rfl)) ?_; (with_reducible refine (path_Version.calls k 3 (⟨#[107]⟩ : ByteArray) 9 t274 _ A1.out).mono ?_); rintro e w29 ⟨v275, rfl, ho0, hb⟩; refine ⟨_, rfl, ?_⟩; have n0_ := Aside0.mk (Kd.R_lower ho0 (below_size (by repeat (first | (with_reducible first | exact HB.out | apply below_alloc | apply pw_below_drewN | apply below_drew1) | exact HB.out)))); have n1_ := Aside0.mk (below_step (by repeat (first | (with_reducible first | exact HB.out | apply below_alloc | apply pw_below_drewN | apply below_drew1) | exact HB.out)) hb); clear HB; have HO276 := n0_; have HB := n1_; clear n0_ n1_; (try clear hb); (try clear hb2); (try clear hk); (try clear hi); (try clear ho0); obtain ⟨Ao30, co30, eo30⟩ := Kd.R_slice HO276.out; subst eo30) | ((with_reducible refine gate_callee (f := 43) rfl ?_); refine goesL_ (some 12) rfl rfl Try.func43 (by kernel_rfl) rfl #[.slice Ao30 t274.length co30] rfl (by (try simp only [List.map_toArray, List.map_cons, List.map_nil]); first | done | rfl | (simp only [List.length_drop, List.length_take]; rfl)) ?_; (with_reducible refine (path_ReadVersion.calls k _ _ t274 t277 t278 true _ ?side1 ?side2 A2.out).mono ?_); (case side1 => repeat (first | exact (Kd.R_reads' HO276.out).2.2 | (with_reducible refine Kd.C_alloc ?_ _) | (with_reducible refine Kd.C_drewN ?_ _) | (with_reducible refine Kd.C_drew ?_))); (case side2 => exact (Kd.R_reads' HO276.out).2.1); rintro e w' ⟨rfl, ⟨nd, rfl⟩⟩; refine ⟨_, rfl, ?_⟩) | ((with_reducible refine gate_callee (f := 35) rfl ?_); refine goesL_ (some 17) rfl rfl Try.func35 (by kernel_rfl) rfl #[.int .i64 3, .int .i64 7] rfl (by (try simp only [List.map_toArray, List.map_cons, List.map_nil]); first | done | rfl | (simp only [List.length_drop, List.length_take]; rfl)) ?_; (with_reducible refine (path_Upload.calls k 3 7 t280 _ A3.out).mono ?_); rintro e w31 ⟨v281, rfl, ho0, hb⟩; refine ⟨_, rfl, ?_⟩; have n0_ := Aside0.mk (Kd.R_elder' (by (with_reducible repeat (first | apply Kd.R_alloc | apply Kd.R_drewN | apply Kd.R_drew)); exact HO276.out) (Kd.R_base ho0) hb); have n1_ := Aside0.mk (Kd.R_lower (Kd.R_new' ho0 (Kd.R_lt (by (with_reducible repeat (first | apply Kd.R_alloc | apply Kd.R_drewN | apply Kd.R_drew)); exact HO276.out))) (below_size (by repeat (first | (with_reducible first | exact HB.out | apply below_alloc | apply pw_below_drewN | apply below_drew1) | exact HB.out)))); have n2_ := Aside0.mk (below_step (by repeat (first | (with_reducible first | exact HB.out | apply below_alloc | apply pw_below_drewN | apply below_drew1) | exact HB.out)) hb); clear HO276; clear HB; have HO276 := n0_; have HO282 := n1_; have HB := n2_; clear n0_ n1_ n2_; (try clear hb); (try clear hb2); (try clear hk); (try clear hi); (try clear ho0); obtain ⟨Ao32, co32, eo32⟩ := Kd.R_slice HO282.out; subst eo32) | ((with_reducible refine gate_callee (f := 44) rfl ?_); refine goesL_ (some 18) rfl rfl Try.func44 (by kernel_rfl) rfl #[.slice Ao32 t280.length co32] rfl (by (try simp only [List.map_toArray, List.map_cons, List.map_nil]); first | done | rfl | (simp only [List.length_drop, List.length_take]; rfl)) ?_; (with_reducible refine (path_ReadUpload.calls k _ _ t280 t283 true _ ?side1 ?side2 A4.out).mono ?_); (case side1 => repeat (first | exact (Kd.R_reads' HO282.out).2.2 | (with_reducible refine Kd.C_alloc ?_ _) | (with_reducible refine Kd.C_drewN ?_ _) | (with_reducible refine Kd.C_drew ?_))); (case side2 => exact (Kd.R_reads' HO282.out).2.1); rintro e w' ⟨rfl, ⟨nd, rfl⟩⟩; refine ⟨_, rfl, ?_⟩) | ((with_reducible refine gate_callee (f := 37) rfl ?_); refine goesL_ (some 22) rfl rfl Try.func37 (by kernel_rfl) rfl #[.int .i64 3, .int .i64 7, .int .i64 5] rfl (by (try simp only [List.map_toArray, List.map_cons, List.map_nil]); first | done | rfl | (simp only [List.length_drop, List.length_take]; rfl)) ?_; (with_reducible refine (path_Part.calls k 3 7 5 t285 _ A5.out).mono ?_); rintro e w33 ⟨v286, rfl, ho0, hb⟩; refine ⟨_, rfl, ?_⟩; have n0_ := Aside0.mk (Kd.R_elder' (by (with_reducible repeat (first | apply Kd.R_alloc | apply Kd.R_drewN | apply Kd.R_drew)); exact HO276.out) (Kd.R_base ho0) hb); have n1_ := Aside0.mk (Kd.R_elder' (by (with_reducible repeat (first | apply Kd.R_alloc | apply Kd.R_drewN | apply Kd.R_drew)); exact HO282.out) (Kd.R_base ho0) hb); have n2_ := Aside0.mk (Kd.R_lower (Kd.R_new' (Kd.R_new' ho0 (Kd.R_lt (by (with_reducible repeat (first | apply Kd.R_alloc | apply Kd.R_drewN | apply Kd.R_drew)); exact HO276.out))) (Kd.R_lt (by (with_reducible repeat (first | apply Kd.R_alloc | apply Kd.R_drewN | apply Kd.R_drew)); exact HO282.out))) (below_size (by repeat (first | (with_reducible first | exact HB.out | apply below_alloc | apply pw_below_drewN | apply below_drew1) | exact HB.out)))); have n3_ := Aside0.mk (below_step (by repeat (first | (with_reducible first | exact HB.out | apply below_alloc | apply pw_below_drewN | apply below_drew1) | exact HB.out)) hb); clear HO276; clear HO282; clear HB; have HO276 := n0_; have HO282 := n1_; have HO287 := n2_; have HB := n3_; clear n0_ n1_ n2_ n3_; (try clear hb); (try clear hb2); (try clear hk); (try clear hi); (try clear ho0); obtain ⟨Ao34, co34, eo34⟩ := Kd.R_slice HO287.out; subst eo34) | ((with_reducible refine gate_callee (f := 45) rfl ?_); refine goesL_ (some 23) rfl rfl Try.func45 (by kernel_rfl) rfl #[.slice Ao34 t285.length co34] rfl (by (try simp only [List.map_toArray, List.map_cons, List.map_nil]); first | done | rfl | (simp only [List.length_drop, List.length_take]; rfl)) ?_; (with_reducible refine (path_ReadPart.calls k _ _ t285 t288 true _ ?side1 ?side2 A6.out).mono ?_); (case side1 => repeat (first | exact (Kd.R_reads' HO287.out).2.2 | (with_reducible refine Kd.C_alloc ?_ _) | (with_reducible refine Kd.C_drewN ?_ _) | (with_reducible refine Kd.C_drew ?_))); (case side2 => exact (Kd.R_reads' HO287.out).2.1); rintro e w' ⟨rfl, ⟨nd, rfl⟩⟩; refine ⟨_, rfl, ?_⟩) | (go_at_call 33; (with_reducible refine (path_Names.calls k 3 (⟨#[107]⟩ : ByteArray) t290 _ A14.out).mono ?_); rintro e w35 ⟨v291, rfl, ho0, hb⟩; have n0_ := Aside0.mk (Kd.R_elder' (by (with_reducible repeat (first | apply Kd.R_alloc | apply Kd.R_drewN | apply Kd.R_drew)); exact HO276.out) (Kd.R_base ho0) hb); have n1_ := Aside0.mk (Kd.R_elder' (by (with_reducible repeat (first | apply Kd.R_alloc | apply Kd.R_drewN | apply Kd.R_drew)); exact HO282.out) (Kd.R_base ho0) hb); have n2_ := Aside0.mk (Kd.R_elder' (by (with_reducible repeat (first | apply Kd.R_alloc | apply Kd.R_drewN | apply Kd.R_drew)); exact HO287.out) (Kd.R_base ho0) hb); have n3_ := Aside0.mk (Kd.R_lower (Kd.R_new' (Kd.R_new' (Kd.R_new' ho0 (Kd.R_lt (by (with_reducible repeat (first | apply Kd.R_alloc | apply Kd.R_drewN | apply Kd.R_drew)); exact HO276.out))) (Kd.R_lt (by (with_reducible repeat (first | apply Kd.R_alloc | apply Kd.R_drewN | apply Kd.R_drew)); exact HO282.out))) (Kd.R_lt (by (with_reducible repeat (first | apply Kd.R_alloc | apply Kd.R_drewN | apply Kd.R_drew)); exact HO287.out))) (below_size (by repeat (first | (with_reducible first | exact HB.out | apply below_alloc | apply pw_below_drewN | apply below_drew1) | exact HB.out)))); have n4_ := Aside0.mk (below_step (by repeat (first | (with_reducible first | exact HB.out | apply below_alloc | apply pw_below_drewN | apply below_drew1) | exact HB.out)) hb); clear HO276; clear HO282; clear HO287; clear HB; have HO276 := n0_; have HO282 := n1_; have HO287 := n2_; have HO292 := n3_; have HB := n4_; clear n0_ n1_ n2_ n3_ n4_; (try clear hb); (try clear hb2); (try clear hk); (try clear hi); (try clear ho0); obtain ⟨Ao36, co36, eo36⟩ := Kd.R_slice HO292.out; subst eo36) | (go_at_call 48; (with_reducible refine (path_Begins.calls _ _ t274 _ _ t290 true _ ?side1 ?side2 ?side3 ?side4 A15.out).mono ?_); (case side1 => repeat (first | exact (Kd.R_reads' HO276.out).2.2 | (with_reducible refine Kd.C_alloc ?_ _) | (with_reducible refine Kd.C_drewN ?_ _) | (with_reducible refine Kd.C_drew ?_))); (case side2 => exact (Kd.R_reads' HO276.out).2.1); (case side3 => repeat (first | exact (Kd.R_reads' HO292.out).2.2 | (with_reducible refine Kd.C_alloc ?_ _) | (with_reducible refine Kd.C_drewN ?_ _) | (with_reducible refine Kd.C_drew ?_))); (case side4 => exact (Kd.R_reads' HO292.out).2.1); rintro e w' ⟨rfl, ⟨nd, rfl⟩⟩) | (go_at_call 33; (with_reducible refine (path_Names.calls k 3 (⟨#[]⟩ : ByteArray) t294 _ A17.out).mono ?_); rintro e w37 ⟨v295, rfl, ho0, hb⟩; have n0_ := Aside0.mk (Kd.R_elder' (by (with_reducible repeat (first | apply Kd.R_alloc | apply Kd.R_drewN | apply Kd.R_drew)); exact HO276.out) (Kd.R_base ho0) hb); have n1_ := Aside0.mk (Kd.R_elder' (by (with_reducible repeat (first | apply Kd.R_alloc | apply Kd.R_drewN | apply Kd.R_drew)); exact HO282.out) (Kd.R_base ho0) hb); have n2_ := Aside0.mk (Kd.R_elder' (by (with_reducible repeat (first | apply Kd.R_alloc | apply Kd.R_drewN | apply Kd.R_drew)); exact HO287.out) (Kd.R_base ho0) hb); have n3_ := Aside0.mk (Kd.R_elder' (by (with_reducible repeat (first | apply Kd.R_alloc | apply Kd.R_drewN | apply Kd.R_drew)); exact HO292.out) (Kd.R_base ho0) hb); have n4_ := Aside0.mk (Kd.R_lower (Kd.R_new' (Kd.R_new' (Kd.R_new' (Kd.R_new' ho0 (Kd.R_lt (by (with_reducible repeat (first | apply Kd.R_alloc | apply Kd.R_drewN | apply Kd.R_drew)); exact HO276.out))) (Kd.R_lt (by (with_reducible repeat (first | apply Kd.R_alloc | apply Kd.R_drewN | apply Kd.R_drew)); exact HO282.out))) (Kd.R_lt (by (with_reducible repeat (first | apply Kd.R_alloc | apply Kd.R_drewN | apply Kd.R_drew)); exact HO287.out))) (Kd.R_lt (by (with_reducible repeat (first | apply Kd.R_alloc | apply Kd.R_drewN | apply Kd.R_drew)); exact HO292.out))) (below_size (by repeat (first | (with_reducible first | exact HB.out | apply below_alloc | apply pw_below_drewN | apply below_drew1) | exact HB.out)))); have n5_ := Aside0.mk (below_step (by repeat (first | (with_reducible first | exact HB.out | apply below_alloc | apply pw_below_drewN | apply below_drew1) | exact HB.out)) hb); clear HO276; clear HO282; clear HO287; clear HO292; clear HB; have HO276 := n0_; have HO282 := n1_; have HO287 := n2_; have HO292 := n3_; have HO296 := n4_; have HB := n5_; clear n0_ n1_ n2_ n3_ n4_ n5_; (try clear hb); (try clear hb2); (try clear hk); (try clear hi); (try clear ho0); obtain ⟨Ao38, co38, eo38⟩ := Kd.R_slice HO296.out; subst eo38) | (go_at_call 48; (with_reducible refine (path_Begins.calls _ _ t274 _ _ t294 false _ ?side1 ?side2 ?side3 ?side4 A18.out).mono ?_); (case side1 => repeat (first | exact (Kd.R_reads' HO276.out).2.2 | (with_reducible refine Kd.C_alloc ?_ _) | (with_reducible refine Kd.C_drewN ?_ _) | (with_reducible refine Kd.C_drew ?_))); (case side2 => exact (Kd.R_reads' HO276.out).2.1); (case side3 => repeat (first | exact (Kd.R_reads' HO296.out).2.2 | (with_reducible refine Kd.C_alloc ?_ _) | (with_reducible refine Kd.C_drewN ?_ _) | (with_reducible refine Kd.C_drew ?_))); (case side4 => exact (Kd.R_reads' HO296.out).2.1); rintro e w' ⟨rfl, ⟨nd, rfl⟩⟩) | (go_at_call 79; (with_reducible refine (path_Count.calls k  t298 _ A20.out).mono ?_); rintro e w39 ⟨v299, rfl, ho0, hb⟩; have n0_ := Aside0.mk (Kd.R_elder' (by (with_reducible repeat (first | apply Kd.R_alloc | apply Kd.R_drewN | apply Kd.R_drew)); exact HO276.out) (Kd.R_base ho0) hb); have n1_ := Aside0.mk (Kd.R_elder' (by (with_reducible repeat (first | apply Kd.R_alloc | apply Kd.R_drewN | apply Kd.R_drew)); exact HO282.out) (Kd.R_base ho0) hb); have n2_ := Aside0.mk (Kd.R_elder' (by (with_reducible repeat (first | apply Kd.R_alloc | apply Kd.R_drewN | apply Kd.R_drew)); exact HO287.out) (Kd.R_base ho0) hb); have n3_ := Aside0.mk (Kd.R_elder' (by (with_reducible repeat (first | apply Kd.R_alloc | apply Kd.R_drewN | apply Kd.R_drew)); exact HO292.out) (Kd.R_base ho0) hb); have n4_ := Aside0.mk (Kd.R_elder' (by (with_reducible repeat (first | apply Kd.R_alloc | apply Kd.R_drewN | apply Kd.R_drew)); exact HO296.out) (Kd.R_base ho0) hb); have n5_ := Aside0.mk (Kd.R_lower (Kd.R_new' (Kd.R_new' (Kd.R_new' (Kd.R_new' (Kd.R_new' ho0 (Kd.R_lt (by (with_reducible repeat (first | apply Kd.R_alloc | apply Kd.R_drewN | apply Kd.R_drew)); exact HO276.out))) (Kd.R_lt (by (with_reducible repeat (first | apply Kd.R_alloc | apply Kd.R_drewN | apply Kd.R_drew)); exact HO282.out))) (Kd.R_lt (by (with_reducible repeat (first | apply Kd.R_alloc | apply Kd.R_drewN | apply Kd.R_drew)); exact HO287.out))) (Kd.R_lt (by (with_reducible repeat (first | apply Kd.R_alloc | apply Kd.R_drewN | apply Kd.R_drew)); exact HO292.out))) (Kd.R_lt (by (with_reducible repeat (first | apply Kd.R_alloc | apply Kd.R_drewN | apply Kd.R_drew)); exact HO296.out))) (below_size (by repeat (first | (with_reducible first | exact HB.out | apply below_alloc | apply pw_below_drewN | apply below_drew1) | exact HB.out)))); have n6_ := Aside0.mk (below_step (by repeat (first | (with_reducible first | exact HB.out | apply below_alloc | apply pw_below_drewN | apply below_drew1) | exact HB.out)) hb); clear HO276; clear HO282; clear HO287; clear HO292; clear HO296; clear HB; have HO276 := n0_; have HO282 := n1_; have HO287 := n2_; have HO292 := n3_; have HO296 := n4_; have HO300 := n5_; have HB := n6_; clear n0_ n1_ n2_ n3_ n4_ n5_ n6_; (try clear hb); (try clear hb2); (try clear hk); (try clear hi); (try clear ho0); have hcv40 := own_string (P := Try.prog) Try.underlying31 Try.underlying5 Try.underlying9 (Kd.own_of_R HO300.out)) | (go_at_call 46; (with_reducible refine (path_Fits.calls _ _ t274 true _ ?side1 ?side2 A22.out).mono ?_); (case side1 => repeat (first | exact (Kd.R_reads' HO276.out).2.2 | (with_reducible refine Kd.C_alloc ?_ _) | (with_reducible refine Kd.C_drewN ?_ _) | (with_reducible refine Kd.C_drew ?_))); (case side2 => exact (Kd.R_reads' HO276.out).2.1); rintro e w' ⟨rfl, ⟨nd, rfl⟩⟩) | (go_at_call 39; (with_reducible refine (path_Bucket.calls k (⟨#[120]⟩ : ByteArray) t302 _ A24.out).mono ?_); rintro e w41 ⟨v303, rfl, ho0, hb⟩; have n0_ := Aside0.mk (Kd.R_elder' (by (with_reducible repeat (first | apply Kd.R_alloc | apply Kd.R_drewN | apply Kd.R_drew)); exact HO276.out) (Kd.R_base ho0) hb); have n1_ := Aside0.mk (Kd.R_elder' (by (with_reducible repeat (first | apply Kd.R_alloc | apply Kd.R_drewN | apply Kd.R_drew)); exact HO282.out) (Kd.R_base ho0) hb); have n2_ := Aside0.mk (Kd.R_elder' (by (with_reducible repeat (first | apply Kd.R_alloc | apply Kd.R_drewN | apply Kd.R_drew)); exact HO287.out) (Kd.R_base ho0) hb); have n3_ := Aside0.mk (Kd.R_elder' (by (with_reducible repeat (first | apply Kd.R_alloc | apply Kd.R_drewN | apply Kd.R_drew)); exact HO292.out) (Kd.R_base ho0) hb); have n4_ := Aside0.mk (Kd.R_elder' (by (with_reducible repeat (first | apply Kd.R_alloc | apply Kd.R_drewN | apply Kd.R_drew)); exact HO296.out) (Kd.R_base ho0) hb); have n5_ := Aside0.mk (Kd.R_elder' (by (with_reducible repeat (first | apply Kd.R_alloc | apply Kd.R_drewN | apply Kd.R_drew)); exact HO300.out) (Kd.R_base ho0) hb); have n6_ := Aside0.mk (Kd.R_lower (Kd.R_new' (Kd.R_new' (Kd.R_new' (Kd.R_new' (Kd.R_new' (Kd.R_new' ho0 (Kd.R_lt (by (with_reducible repeat (first | apply Kd.R_alloc | apply Kd.R_drewN | apply Kd.R_drew)); exact HO276.out))) (Kd.R_lt (by (with_reducible repeat (first | apply Kd.R_alloc | apply Kd.R_drewN | apply Kd.R_drew)); exact HO282.out))) (Kd.R_lt (by (with_reducible repeat (first | apply Kd.R_alloc | apply Kd.R_drewN | apply Kd.R_drew)); exact HO287.out))) (Kd.R_lt (by (with_reducible repeat (first | apply Kd.R_alloc | apply Kd.R_drewN | apply Kd.R_drew)); exact HO292.out))) (Kd.R_lt (by (with_reducible repeat (first | apply Kd.R_alloc | apply Kd.R_drewN | apply Kd.R_drew)); exact HO296.out))) (Kd.R_lt (by (with_reducible repeat (first | apply Kd.R_alloc | apply Kd.R_drewN | apply Kd.R_drew)); exact HO300.out))) (below_size (by repeat (first | (with_reducible first | exact HB.out | apply below_alloc | apply pw_below_drewN | apply below_drew1) | exact HB.out)))); have n7_ := Aside0.mk (below_step (by repeat (first | (with_reducible first | exact HB.out | apply below_alloc | apply pw_below_drewN | apply below_drew1) | exact HB.out)) hb); clear HO276; clear HO282; clear HO287; clear HO292; clear HO296; clear HO300; clear HB; have HO276 := n0_; have HO282 := n1_; have HO287 := n2_; have HO292 := n3_; have HO296 := n4_; have HO300 := n5_; have HO304 := n6_; have HB := n7_; clear n0_ n1_ n2_ n3_ n4_ n5_ n6_ n7_; (try clear hb); (try clear hb2); (try clear hk); (try clear hi); (try clear ho0); have hcv42 := own_string (P := Try.prog) Try.underlying31 Try.underlying5 Try.underlying9 (Kd.own_of_R HO304.out)) | (go_at_call 41; (with_reducible refine (path_Rotate.calls k 1 t305 _ A26.out).mono ?_); rintro e w43 ⟨v306, rfl, ho0, hb⟩; have n0_ := Aside0.mk (Kd.R_elder' (by (with_reducible repeat (first | apply Kd.R_alloc | apply Kd.R_drewN | apply Kd.R_drew)); exact HO276.out) (Kd.R_base ho0) hb); have n1_ := Aside0.mk (Kd.R_elder' (by (with_reducible repeat (first | apply Kd.R_alloc | apply Kd.R_drewN | apply Kd.R_drew)); exact HO282.out) (Kd.R_base ho0) hb); have n2_ := Aside0.mk (Kd.R_elder' (by (with_reducible repeat (first | apply Kd.R_alloc | apply Kd.R_drewN | apply Kd.R_drew)); exact HO287.out) (Kd.R_base ho0) hb); have n3_ := Aside0.mk (Kd.R_elder' (by (with_reducible repeat (first | apply Kd.R_alloc | apply Kd.R_drewN | apply Kd.R_drew)); exact HO292.out) (Kd.R_base ho0) hb); have n4_ := Aside0.mk (Kd.R_elder' (by (with_reducible repeat (first | apply Kd.R_alloc | apply Kd.R_drewN | apply Kd.R_drew)); exact HO296.out) (Kd.R_base ho0) hb); have n5_ := Aside0.mk (Kd.R_elder' (by (with_reducible repeat (first | apply Kd.R_alloc | apply Kd.R_drewN | apply Kd.R_drew)); exact HO300.out) (Kd.R_base ho0) hb); have n6_ := Aside0.mk (Kd.R_elder' (by (with_reducible repeat (first | apply Kd.R_alloc | apply Kd.R_drewN | apply Kd.R_drew)); exact HO304.out) (Kd.R_base ho0) hb); have n7_ := Aside0.mk (Kd.R_lower (Kd.R_new' (Kd.R_new' (Kd.R_new' (Kd.R_new' (Kd.R_new' (Kd.R_new' (Kd.R_new' ho0 (Kd.R_lt (by (with_reducible repeat (first | apply Kd.R_alloc | apply Kd.R_drewN | apply Kd.R_drew)); exact HO276.out))) (Kd.R_lt (by (with_reducible repeat (first | apply Kd.R_alloc | apply Kd.R_drewN | apply Kd.R_drew)); exact HO282.out))) (Kd.R_lt (by (with_reducible repeat (first | apply Kd.R_alloc | apply Kd.R_drewN | apply Kd.R_drew)); exact HO287.out))) (Kd.R_lt (by (with_reducible repeat (first | apply Kd.R_alloc | apply Kd.R_drewN | apply Kd.R_drew)); exact HO292.out))) (Kd.R_lt (by (with_reducible repeat (first | apply Kd.R_alloc | apply Kd.R_drewN | apply Kd.R_drew)); exact HO296.out))) (Kd.R_lt (by (with_reducible repeat (first | apply Kd.R_alloc | apply Kd.R_drewN | apply Kd.R_drew)); exact HO300.out))) (Kd.R_lt (by (with_reducible repeat (first | apply Kd.R_alloc | apply Kd.R_drewN | apply Kd.R_drew)); exact HO304.out))) (below_size (by repeat (first | (with_reducible first | exact HB.out | apply below_alloc | apply pw_below_drewN | apply below_drew1) | exact HB.out)))); have n8_ := Aside0.mk (below_step (by repeat (first | (with_reducible first | exact HB.out | apply below_alloc | apply pw_below_drewN | apply below_drew1) | exact HB.out)) hb); clear HO276; clear HO282; clear HO287; clear HO292; clear HO296; clear HO300; clear HO304; clear HB; have HO276 := n0_; have HO282 := n1_; have HO287 := n2_; have HO292 := n3_; have HO296 := n4_; have HO300 := n5_; have HO304 := n6_; have HO307 := n7_; have HB := n8_; clear n0_ n1_ n2_ n3_ n4_ n5_ n6_ n7_ n8_; (try clear hb); (try clear hb2); (try clear hk); (try clear hi); (try clear ho0); obtain ⟨Ao44, co44, eo44⟩ := Kd.R_slice HO307.out; subst eo44) | (go_at_call 52; (with_reducible refine (path_Next.calls k (fun k_ => some k_ = (.slice Ao30 t274.length co30 : Value).ownBlock) _ _ t274 t308 _ ?side1 A28.out).mono ?_); (case side1 => exact Kd.R_V (Kd.R_tight rfl (HO276.out))); rintro e w45 ⟨v309, rfl, ho0, hb⟩; have n0_ := Aside0.mk (Kd.R_elder' (by (with_reducible repeat (first | apply Kd.R_alloc | apply Kd.R_drewN | apply Kd.R_drew)); exact HO276.out) (Kd.R_base ho0) hb); have n1_ := Aside0.mk (Kd.R_elder' (by (with_reducible repeat (first | apply Kd.R_alloc | apply Kd.R_drewN | apply Kd.R_drew)); exact HO282.out) (Kd.R_base ho0) hb); have n2_ := Aside0.mk (Kd.R_elder' (by (with_reducible repeat (first | apply Kd.R_alloc | apply Kd.R_drewN | apply Kd.R_drew)); exact HO287.out) (Kd.R_base ho0) hb); have n3_ := Aside0.mk (Kd.R_elder' (by (with_reducible repeat (first | apply Kd.R_alloc | apply Kd.R_drewN | apply Kd.R_drew)); exact HO292.out) (Kd.R_base ho0) hb); have n4_ := Aside0.mk (Kd.R_elder' (by (with_reducible repeat (first | apply Kd.R_alloc | apply Kd.R_drewN | apply Kd.R_drew)); exact HO296.out) (Kd.R_base ho0) hb); have n5_ := Aside0.mk (Kd.R_elder' (by (with_reducible repeat (first | apply Kd.R_alloc | apply Kd.R_drewN | apply Kd.R_drew)); exact HO300.out) (Kd.R_base ho0) hb); have n6_ := Aside0.mk (Kd.R_elder' (by (with_reducible repeat (first | apply Kd.R_alloc | apply Kd.R_drewN | apply Kd.R_drew)); exact HO304.out) (Kd.R_base ho0) hb); have n7_ := Aside0.mk (Kd.R_elder' (by (with_reducible repeat (first | apply Kd.R_alloc | apply Kd.R_drewN | apply Kd.R_drew)); exact HO307.out) (Kd.R_base ho0) hb); have n8_ := Aside0.mk (Kd.R_lower (Kd.R_new' (Kd.R_new' (Kd.R_new' (Kd.R_new' (Kd.R_new' (Kd.R_new' (Kd.R_new' (Kd.R_new' (Kd.R_mono (ok' := fun k_ => True) ho0 (fun _ hk_ => trivial)) (Kd.R_lt (by (with_reducible repeat (first | apply Kd.R_alloc | apply Kd.R_drewN | apply Kd.R_drew)); exact HO276.out))) (Kd.R_lt (by (with_reducible repeat (first | apply Kd.R_alloc | apply Kd.R_drewN | apply Kd.R_drew)); exact HO282.out))) (Kd.R_lt (by (with_reducible repeat (first | apply Kd.R_alloc | apply Kd.R_drewN | apply Kd.R_drew)); exact HO287.out))) (Kd.R_lt (by (with_reducible repeat (first | apply Kd.R_alloc | apply Kd.R_drewN | apply Kd.R_drew)); exact HO292.out))) (Kd.R_lt (by (with_reducible repeat (first | apply Kd.R_alloc | apply Kd.R_drewN | apply Kd.R_drew)); exact HO296.out))) (Kd.R_lt (by (with_reducible repeat (first | apply Kd.R_alloc | apply Kd.R_drewN | apply Kd.R_drew)); exact HO300.out))) (Kd.R_lt (by (with_reducible repeat (first | apply Kd.R_alloc | apply Kd.R_drewN | apply Kd.R_drew)); exact HO304.out))) (Kd.R_lt (by (with_reducible repeat (first | apply Kd.R_alloc | apply Kd.R_drewN | apply Kd.R_drew)); exact HO307.out))) (below_size (by repeat (first | (with_reducible first | exact HB.out | apply below_alloc | apply pw_below_drewN | apply below_drew1) | exact HB.out)))); have n9_ := Aside0.mk (below_step (by repeat (first | (with_reducible first | exact HB.out | apply below_alloc | apply pw_below_drewN | apply below_drew1) | exact HB.out)) hb); clear HO276; clear HO282; clear HO287; clear HO292; clear HO296; clear HO300; clear HO304; clear HO307; clear HB; have HO276 := n0_; have HO282 := n1_; have HO287 := n2_; have HO292 := n3_; have HO296 := n4_; have HO300 := n5_; have HO304 := n6_; have HO307 := n7_; have HO310 := n8_; have HB := n9_; clear n0_ n1_ n2_ n3_ n4_ n5_ n6_ n7_ n8_ n9_; (try clear hb); (try clear hb2); (try clear hk); (try clear hi); (try clear ho0); obtain ⟨Ao46, co46, eo46⟩ := Kd.R_slice HO310.out; subst eo46))
                            go_ret
                            exact ⟨by first | rfl | (simp [errW_none, errW_some] <;> rfl) | (simp [*, errW_none, errW_some] <;> rfl), by repeat (first | (with_reducible first | exact HB.out | apply below_alloc | apply pw_below_drewN | apply below_drew1) | exact HB.out)⟩
                          · rw [if_neg c27] at H
                            have c27b0 : ((t305.length : Int) == 3) = false := beq_eq_false_iff_ne.mpr c27
                            have c27b1 : ((t305.length : Int) != 3) = true := bne_iff_ne.mpr c27
                            obtain rfl := Option.some.inj H
                            exact absurd hr_.out (by simp)
                        · rw [if_neg c25] at H
                          have c25b0 : ((strOfNums t302).toList == ([98, 120] : List UInt8)) = false := beq_eq_false_iff_ne.mpr c25
                          have c25b1 : ((strOfNums t302).toList != ([98, 120] : List UInt8)) = true := bne_iff_ne.mpr c25
                          obtain rfl := Option.some.inj H
                          exact absurd hr_.out (by simp)
                      · replace c23 := Bool.eq_false_iff.mpr c23
                        subst c23
                        have H1 : (some false) = some r := by rw [if_neg (show ¬ (false = true) by decide)] at H; exact H
                        clear H
                        have H := H1
                        clear H1
                        obtain rfl := Option.some.inj H
                        exact absurd hr_.out (by simp)
                    · rw [if_neg c21] at H
                      have c21b0 : ((strOfNums t298).toList == ([99] : List UInt8)) = false := beq_eq_false_iff_ne.mpr c21
                      have c21b1 : ((strOfNums t298).toList != ([99] : List UInt8)) = true := bne_iff_ne.mpr c21
                      obtain rfl := Option.some.inj H
                      exact absurd hr_.out (by simp)
                · replace c16 := Bool.eq_false_iff.mpr c16
                  subst c16
                  have H1 : (some false) = some r := by rw [if_neg (show ¬ (false = true) by decide)] at H; exact H
                  clear H
                  have H := H1
                  clear H1
                  obtain rfl := Option.some.inj H
                  exact absurd hr_.out (by simp)
              · rw [if_neg c13] at H
                have c13b0 : (t288 == 5) = false := beq_eq_false_iff_ne.mpr c13
                have c13b1 : (t288 != 5) = true := bne_iff_ne.mpr c13
                obtain rfl := Option.some.inj H
                exact absurd hr_.out (by simp)
            · replace c12 := Bool.eq_false_iff.mpr c12
              subst c12
              have H1 : (some false) = some r := by rw [if_neg (show ¬ (false = true) by decide)] at H; exact H
              clear H
              have H := H1
              clear H1
              obtain rfl := Option.some.inj H
              exact absurd hr_.out (by simp)
          · rw [if_neg c11] at H
            have c11b0 : (t283 == 7) = false := beq_eq_false_iff_ne.mpr c11
            have c11b1 : (t283 != 7) = true := bne_iff_ne.mpr c11
            obtain rfl := Option.some.inj H
            exact absurd hr_.out (by simp)
        · replace c10 := Bool.eq_false_iff.mpr c10
          subst c10
          have H1 : (some false) = some r := by rw [if_neg (show ¬ (false = true) by decide)] at H; exact H
          clear H
          have H := H1
          clear H1
          obtain rfl := Option.some.inj H
          exact absurd hr_.out (by simp)
      · rw [if_neg c9] at H
        have c9b0 : (t278 == 9) = false := beq_eq_false_iff_ne.mpr c9
        have c9b1 : (t278 != 9) = true := bne_iff_ne.mpr c9
        obtain rfl := Option.some.inj H
        exact absurd hr_.out (by simp)
    · rw [if_neg c8] at H
      have c8b0 : (t277.toList == ([107] : List UInt8)) = false := beq_eq_false_iff_ne.mpr c8
      have c8b1 : (t277.toList != ([107] : List UInt8)) = true := bne_iff_ne.mpr c8
      obtain rfl := Option.some.inj H
      exact absurd hr_.out (by simp)
  · replace c7 := Bool.eq_false_iff.mpr c7
    subst c7
    have H1 : (some false) = some r := by rw [if_neg (show ¬ (false = true) by decide)] at H; exact H
    clear H
    have H := H1
    clear H1
    obtain rfl := Option.some.inj H
    exact absurd hr_.out (by simp)

/-! ### deedboxlaw25_PathBack: function 7 -/
def deedboxlaw25_PathBack.j0 : Nat → Int → ByteArray → Int → Int → Bool → Option (Bool)
  | 0, _, _, _, _, _ => none
  | k + 1, x0, x1, x2, x3, x26 => if x26 = true then ((deedboxlaw25_works.f k).bind fun t312 => (some t312)) else ((path_Version.f k (wrap64 (x0)) x1 (wrap64 (x2))).bind fun t313 => ((path_ReadVersion.f k t313).bind fun bt316 => ((path_Upload.f k (wrap64 (x0)) (wrap64 (x2))).bind fun t319 => ((path_ReadUpload.f k t319).bind fun bt322 => ((path_Part.f k (wrap64 (x0)) (wrap64 (x2)) (wrap64 (x3))).bind fun t324 => ((path_ReadPart.f k t324).bind fun bt327 => (if bt316.2.2 = true then (if bt316.1.toList = x1.toList then (if bt316.2.1 = (wrap64 (x2)) then (if bt322.2 = true then (if bt322.1 = (wrap64 (x2)) then (if bt327.2 = true then (if bt327.1 = (wrap64 (x3)) then ((path_Version.f k (wrap64 (x0)) x1 (wrap64 (x2))).bind fun t329 => ((path_Fits.f t329).bind fun t332 => (if t332 = true then ((path_Part.f k (wrap64 (x0)) (wrap64 (x2)) (wrap64 (x3))).bind fun t333 => ((path_Fits.f t333).bind fun t336 => (if t336 = true then (if 65 ≤ 281474976710656 then ((path_Fits.f (List.replicate 65 0)).bind fun t340 => (if t340 = true then (some false) else ((deedboxlaw25_works.f k).bind fun t341 => (some t341)))) else (none)) else (some false)))) else (some false)))) else (some false)) else (some false)) else (some false)) else (some false)) else (some false)) else (some false)) else (some false))))))))
def deedboxlaw25_PathBack.f (k : Nat) (a0 : Int) (a1 : ByteArray) (a2 : Int) (a3 : Int) : Option (Bool) := (deedboxlaw25_plain.f k a1).bind fun t311 => (if t311 = true then (deedboxlaw25_PathBack.j0 k a0 a1 a2 a3 ((a1.size : Int) == 0)) else (deedboxlaw25_PathBack.j0 k a0 a1 a2 a3 true))
theorem deedboxlaw25_PathBack.mono_l : ∀ k, (∀ y0 y1 y2 y3 y4, LeO (deedboxlaw25_PathBack.j0 k y0 y1 y2 y3 y4) (deedboxlaw25_PathBack.j0 (k + 1) y0 y1 y2 y3 y4))
  | 0 => fun _ _ _ _ _ r h => by simp [deedboxlaw25_PathBack.j0] at h
  | k + 1 => by
    have ih0 := deedboxlaw25_PathBack.mono_l k
    · intro y0 y1 y2 y3 y4
      unfold deedboxlaw25_PathBack.j0
      repeat' first
      | (with_reducible exact ih0 _ _ _ _ _)
      | (with_reducible exact deedboxlaw25_plain.mono _ _)
      | (with_reducible exact deedboxlaw25_works.mono _)
      | (with_reducible exact path_Part.mono _ _ _ _)
      | (with_reducible exact path_ReadPart.mono _ _)
      | (with_reducible exact path_ReadUpload.mono _ _)
      | (with_reducible exact path_ReadVersion.mono _ _)
      | (with_reducible exact path_Upload.mono _ _ _)
      | (with_reducible exact path_Version.mono _ _ _ _)
      | (with_reducible exact LeO.refl _)
      | (with_reducible exact LeO.none _)
      | (with_reducible refine LeO.ite ?_ ?_)
      | (with_reducible refine LeO.bind ?_ (fun _ => ?_))
      | exact ih0 _ _ _ _ _
      | exact deedboxlaw25_plain.mono _ _
      | exact deedboxlaw25_works.mono _
      | exact path_Part.mono _ _ _ _
      | exact path_ReadPart.mono _ _
      | exact path_ReadUpload.mono _ _
      | exact path_ReadVersion.mono _ _
      | exact path_Upload.mono _ _ _
      | exact path_Version.mono _ _ _ _
      | exact LeO.none _
      | refine LeO.ite ?_ ?_
      | refine LeO.bind ?_ (fun _ => ?_)
theorem deedboxlaw25_PathBack.mono : ∀ a0 a1 a2 a3 k, LeO (deedboxlaw25_PathBack.f k a0 a1 a2 a3) (deedboxlaw25_PathBack.f (k + 1) a0 a1 a2 a3) := by
  intro a0 a1 a2 a3 k
  have ih0 := deedboxlaw25_PathBack.mono_l k
  unfold deedboxlaw25_PathBack.f
  repeat' first
      | (with_reducible exact ih0 _ _ _ _ _)
      | (with_reducible exact deedboxlaw25_plain.mono _ _)
      | (with_reducible exact deedboxlaw25_works.mono _)
      | (with_reducible exact path_Part.mono _ _ _ _)
      | (with_reducible exact path_ReadPart.mono _ _)
      | (with_reducible exact path_ReadUpload.mono _ _)
      | (with_reducible exact path_ReadVersion.mono _ _)
      | (with_reducible exact path_Upload.mono _ _ _)
      | (with_reducible exact path_Version.mono _ _ _ _)
      | (with_reducible exact LeO.refl _)
      | (with_reducible exact LeO.none _)
      | (with_reducible refine LeO.ite ?_ ?_)
      | (with_reducible refine LeO.bind ?_ (fun _ => ?_))
      | exact ih0 _ _ _ _ _
      | exact deedboxlaw25_plain.mono _ _
      | exact deedboxlaw25_works.mono _
      | exact path_Part.mono _ _ _ _
      | exact path_ReadPart.mono _ _
      | exact path_ReadUpload.mono _ _
      | exact path_ReadVersion.mono _ _
      | exact path_Upload.mono _ _ _
      | exact path_Version.mono _ _ _ _
      | exact LeO.none _
      | refine LeO.ite ?_ ?_
      | refine LeO.bind ?_ (fun _ => ?_)
set_option maxHeartbeats 8000000 in
set_option maxRecDepth 100000 in
theorem deedboxlaw25_PathBack.calls (k : Nat) (a0 : Int) (a1 : ByteArray) (a2 : Int) (a3 : Int) (r : Bool) (w : World) (h : deedboxlaw25_PathBack.f k a0 a1 a2 a3 = some r) (hr_ : Aside0 (r = true)) :
    Calls Try.prog 7 #[.int .u16 a0, .string a1, .int .u32 a2, .int .u16 a3] w fun e w' => e = .returned (.bool r) ∧ Below w.heap.size w w' := by
  have HB := Aside0.mk (Below.refl w.heap.size w)
  have H : ((deedboxlaw25_plain.f k a1).bind fun t311 => (if t311 = true then (deedboxlaw25_PathBack.j0 k a0 a1 a2 a3 ((a1.size : Int) == 0)) else (deedboxlaw25_PathBack.j0 k a0 a1 a2 a3 true))) = some r := h
  clear h
  have HC5 := Aside0.mk H
  clear H
  go_enter Try.func7, Try.ntmps7
  go_upto_region 1 with (fail)
  go_cut [26] (fun v26 wc => ∃ (kq : Nat) (x26_4 : Bool), v26 = .bool x26_4 ∧ Aside0 (deedboxlaw25_PathBack.j0 kq a0 a1 a2 a3 x26_4 = some r) ∧ Aside0 (kq ≤ k) ∧ Aside0 (Below w.heap.size w wc))
  case first =>
    have H := HC5.out
    clear HC5
    replace H := Option.bind_eq_some_iff.mp H
    obtain ⟨t311, A60, H⟩ := H
    replace H : (if t311 = true then (deedboxlaw25_PathBack.j0 k a0 a1 a2 a3 ((a1.size : Int) == 0)) else (deedboxlaw25_PathBack.j0 k a0 a1 a2 a3 true)) = some r := H
    have A6 := Aside0.mk A60
    clear A60
    by_cases c7 : t311 = true
    · subst c7
      have H1 : (deedboxlaw25_PathBack.j0 k a0 a1 a2 a3 ((a1.size : Int) == 0)) = some r := by rw [if_pos rfl] at H; exact H
      clear H
      have H := H1
      clear H1
      have H' := Aside0.mk H
      clear H
      go_wp2_with (first | ((with_reducible refine gate_callee (f := 27) rfl ?_); refine goesL_ (some 20) rfl rfl Try.func27 (by kernel_rfl) rfl #[.string a1] rfl (by (try simp only [List.map_toArray, List.map_cons, List.map_nil]); first | done | rfl | (simp only [List.length_drop, List.length_take]; rfl)) ?_; (with_reducible refine (deedboxlaw25_plain.calls k a1 true _ A6.out).mono ?_); rintro e w' ⟨rfl, ⟨nd, rfl⟩⟩; refine ⟨_, rfl, ?_⟩))
      go_meet
      case rel => exact ⟨_, (((a1.size : Int) == 0)), (by first | rfl | (simp; done) | (simp [*]; done)), H', ⟨by first | omega | exact Nat.le_refl _⟩, ⟨by repeat (first | (with_reducible first | exact HB.out | apply below_alloc | apply pw_below_drewN | apply below_drew1) | exact HB.out)⟩⟩
    · replace c7 := Bool.eq_false_iff.mpr c7
      subst c7
      have H1 : (deedboxlaw25_PathBack.j0 k a0 a1 a2 a3 true) = some r := by rw [if_neg (show ¬ (false = true) by decide)] at H; exact H
      clear H
      have H := H1
      clear H1
      have H' := Aside0.mk H
      clear H
      go_wp2_with (first | ((with_reducible refine gate_callee (f := 27) rfl ?_); refine goesL_ (some 20) rfl rfl Try.func27 (by kernel_rfl) rfl #[.string a1] rfl (by (try simp only [List.map_toArray, List.map_cons, List.map_nil]); first | done | rfl | (simp only [List.length_drop, List.length_take]; rfl)) ?_; (with_reducible refine (deedboxlaw25_plain.calls k a1 false _ A6.out).mono ?_); rintro e w' ⟨rfl, ⟨nd, rfl⟩⟩; refine ⟨_, rfl, ?_⟩))
      go_meet
      case rel => exact ⟨_, (true), (by first | rfl | (simp; done) | (simp [*]; done)), H', ⟨by first | omega | exact Nat.le_refl _⟩, ⟨by repeat (first | (with_reducible first | exact HB.out | apply below_alloc | apply pw_below_drewN | apply below_drew1) | exact HB.out)⟩⟩
  case rest =>
    clear HC5
    try clear c2
    try clear p2
    try clear c7
    obtain ⟨kq, x26_4, rfl, HA, HJ4, HB⟩ := hcut
    cases kq with
    | zero => exact absurd HA.out (by simp [deedboxlaw25_PathBack.j0])
    | succ kj4 =>
      have H := HA.out
      clear HA
      simp only [deedboxlaw25_PathBack.j0] at H
      by_cases c8 : x26_4 = true
      · subst c8
        have H1 : ((deedboxlaw25_works.f kj4).bind fun t312 => (some t312)) = some r := by rw [if_pos rfl] at H; exact H
        clear H
        have H := H1
        clear H1
        replace H := Option.bind_eq_some_iff.mp H
        obtain ⟨t312, A90, H⟩ := H
        replace H : (some t312) = some r := H
        have A9 := Aside0.mk A90
        clear A90
        obtain rfl := Option.some.inj H
        go_wp2_with (first | ((with_reducible refine gate_callee (f := 28) rfl ?_); refine goesL_ (some 27) rfl rfl Try.func28 (by kernel_rfl) rfl #[] rfl (by (try simp only [List.map_toArray, List.map_cons, List.map_nil]); first | done | rfl | (simp only [List.length_drop, List.length_take]; rfl)) ?_; (with_reducible refine (deedboxlaw25_works.calls kj4  t312 _ A9.out hr_).mono ?_); rintro e w10 ⟨rfl, hb⟩; refine ⟨_, rfl, ?_⟩; have n0_ := Aside0.mk (below_step (by repeat (first | (with_reducible first | exact HB.out | apply below_alloc | apply pw_below_drewN | apply below_drew1) | exact HB.out)) hb); clear HB; have HB := n0_; clear n0_; (try clear hb); (try clear hb2); (try clear hk); (try clear hi)))
        go_ret
        exact ⟨by first | rfl | (simp [errW_none, errW_some] <;> rfl) | (simp [*, errW_none, errW_some] <;> rfl), by repeat (first | (with_reducible first | exact HB.out | apply below_alloc | apply pw_below_drewN | apply below_drew1) | exact HB.out)⟩
      · replace c8 := Bool.eq_false_iff.mpr c8
        subst c8
        have H1 : ((path_Version.f kj4 (wrap64 (a0)) a1 (wrap64 (a2))).bind fun t313 => ((path_ReadVersion.f kj4 t313).bind fun bt316 => ((path_Upload.f kj4 (wrap64 (a0)) (wrap64 (a2))).bind fun t319 => ((path_ReadUpload.f kj4 t319).bind fun bt322 => ((path_Part.f kj4 (wrap64 (a0)) (wrap64 (a2)) (wrap64 (a3))).bind fun t324 => ((path_ReadPart.f kj4 t324).bind fun bt327 => (if bt316.2.2 = true then (if bt316.1.toList = a1.toList then (if bt316.2.1 = (wrap64 (a2)) then (if bt322.2 = true then (if bt322.1 = (wrap64 (a2)) then (if bt327.2 = true then (if bt327.1 = (wrap64 (a3)) then ((path_Version.f kj4 (wrap64 (a0)) a1 (wrap64 (a2))).bind fun t329 => ((path_Fits.f t329).bind fun t332 => (if t332 = true then ((path_Part.f kj4 (wrap64 (a0)) (wrap64 (a2)) (wrap64 (a3))).bind fun t333 => ((path_Fits.f t333).bind fun t336 => (if t336 = true then (if 65 ≤ 281474976710656 then ((path_Fits.f (List.replicate 65 0)).bind fun t340 => (if t340 = true then (some false) else ((deedboxlaw25_works.f kj4).bind fun t341 => (some t341)))) else (none)) else (some false)))) else (some false)))) else (some false)) else (some false)) else (some false)) else (some false)) else (some false)) else (some false)) else (some false)))))))) = some r := by rw [if_neg (show ¬ (false = true) by decide)] at H; exact H
        clear H
        have H := H1
        clear H1
        replace H := Option.bind_eq_some_iff.mp H
        obtain ⟨t313, A110, H⟩ := H
        replace H : ((path_ReadVersion.f kj4 t313).bind fun bt316 => ((path_Upload.f kj4 (wrap64 (a0)) (wrap64 (a2))).bind fun t319 => ((path_ReadUpload.f kj4 t319).bind fun bt322 => ((path_Part.f kj4 (wrap64 (a0)) (wrap64 (a2)) (wrap64 (a3))).bind fun t324 => ((path_ReadPart.f kj4 t324).bind fun bt327 => (if bt316.2.2 = true then (if bt316.1.toList = a1.toList then (if bt316.2.1 = (wrap64 (a2)) then (if bt322.2 = true then (if bt322.1 = (wrap64 (a2)) then (if bt327.2 = true then (if bt327.1 = (wrap64 (a3)) then ((path_Version.f kj4 (wrap64 (a0)) a1 (wrap64 (a2))).bind fun t329 => ((path_Fits.f t329).bind fun t332 => (if t332 = true then ((path_Part.f kj4 (wrap64 (a0)) (wrap64 (a2)) (wrap64 (a3))).bind fun t333 => ((path_Fits.f t333).bind fun t336 => (if t336 = true then (if 65 ≤ 281474976710656 then ((path_Fits.f (List.replicate 65 0)).bind fun t340 => (if t340 = true then (some false) else ((deedboxlaw25_works.f kj4).bind fun t341 => (some t341)))) else (none)) else (some false)))) else (some false)))) else (some false)) else (some false)) else (some false)) else (some false)) else (some false)) else (some false)) else (some false))))))) = some r := H
        have A11 := Aside0.mk A110
        clear A110
        replace H := Option.bind_eq_some_iff.mp H
        obtain ⟨⟨t316, t317, t318⟩, A120, H⟩ := H
        replace H : ((path_Upload.f kj4 (wrap64 (a0)) (wrap64 (a2))).bind fun t319 => ((path_ReadUpload.f kj4 t319).bind fun bt322 => ((path_Part.f kj4 (wrap64 (a0)) (wrap64 (a2)) (wrap64 (a3))).bind fun t324 => ((path_ReadPart.f kj4 t324).bind fun bt327 => (if t318 = true then (if t316.toList = a1.toList then (if t317 = (wrap64 (a2)) then (if bt322.2 = true then (if bt322.1 = (wrap64 (a2)) then (if bt327.2 = true then (if bt327.1 = (wrap64 (a3)) then ((path_Version.f kj4 (wrap64 (a0)) a1 (wrap64 (a2))).bind fun t329 => ((path_Fits.f t329).bind fun t332 => (if t332 = true then ((path_Part.f kj4 (wrap64 (a0)) (wrap64 (a2)) (wrap64 (a3))).bind fun t333 => ((path_Fits.f t333).bind fun t336 => (if t336 = true then (if 65 ≤ 281474976710656 then ((path_Fits.f (List.replicate 65 0)).bind fun t340 => (if t340 = true then (some false) else ((deedboxlaw25_works.f kj4).bind fun t341 => (some t341)))) else (none)) else (some false)))) else (some false)))) else (some false)) else (some false)) else (some false)) else (some false)) else (some false)) else (some false)) else (some false)))))) = some r := H
        have A12 := Aside0.mk A120
        clear A120
        replace H := Option.bind_eq_some_iff.mp H
        obtain ⟨t319, A130, H⟩ := H
        replace H : ((path_ReadUpload.f kj4 t319).bind fun bt322 => ((path_Part.f kj4 (wrap64 (a0)) (wrap64 (a2)) (wrap64 (a3))).bind fun t324 => ((path_ReadPart.f kj4 t324).bind fun bt327 => (if t318 = true then (if t316.toList = a1.toList then (if t317 = (wrap64 (a2)) then (if bt322.2 = true then (if bt322.1 = (wrap64 (a2)) then (if bt327.2 = true then (if bt327.1 = (wrap64 (a3)) then ((path_Version.f kj4 (wrap64 (a0)) a1 (wrap64 (a2))).bind fun t329 => ((path_Fits.f t329).bind fun t332 => (if t332 = true then ((path_Part.f kj4 (wrap64 (a0)) (wrap64 (a2)) (wrap64 (a3))).bind fun t333 => ((path_Fits.f t333).bind fun t336 => (if t336 = true then (if 65 ≤ 281474976710656 then ((path_Fits.f (List.replicate 65 0)).bind fun t340 => (if t340 = true then (some false) else ((deedboxlaw25_works.f kj4).bind fun t341 => (some t341)))) else (none)) else (some false)))) else (some false)))) else (some false)) else (some false)) else (some false)) else (some false)) else (some false)) else (some false)) else (some false))))) = some r := H
        have A13 := Aside0.mk A130
        clear A130
        replace H := Option.bind_eq_some_iff.mp H
        obtain ⟨⟨t322, t323⟩, A140, H⟩ := H
        replace H : ((path_Part.f kj4 (wrap64 (a0)) (wrap64 (a2)) (wrap64 (a3))).bind fun t324 => ((path_ReadPart.f kj4 t324).bind fun bt327 => (if t318 = true then (if t316.toList = a1.toList then (if t317 = (wrap64 (a2)) then (if t323 = true then (if t322 = (wrap64 (a2)) then (if bt327.2 = true then (if bt327.1 = (wrap64 (a3)) then ((path_Version.f kj4 (wrap64 (a0)) a1 (wrap64 (a2))).bind fun t329 => ((path_Fits.f t329).bind fun t332 => (if t332 = true then ((path_Part.f kj4 (wrap64 (a0)) (wrap64 (a2)) (wrap64 (a3))).bind fun t333 => ((path_Fits.f t333).bind fun t336 => (if t336 = true then (if 65 ≤ 281474976710656 then ((path_Fits.f (List.replicate 65 0)).bind fun t340 => (if t340 = true then (some false) else ((deedboxlaw25_works.f kj4).bind fun t341 => (some t341)))) else (none)) else (some false)))) else (some false)))) else (some false)) else (some false)) else (some false)) else (some false)) else (some false)) else (some false)) else (some false)))) = some r := H
        have A14 := Aside0.mk A140
        clear A140
        replace H := Option.bind_eq_some_iff.mp H
        obtain ⟨t324, A150, H⟩ := H
        replace H : ((path_ReadPart.f kj4 t324).bind fun bt327 => (if t318 = true then (if t316.toList = a1.toList then (if t317 = (wrap64 (a2)) then (if t323 = true then (if t322 = (wrap64 (a2)) then (if bt327.2 = true then (if bt327.1 = (wrap64 (a3)) then ((path_Version.f kj4 (wrap64 (a0)) a1 (wrap64 (a2))).bind fun t329 => ((path_Fits.f t329).bind fun t332 => (if t332 = true then ((path_Part.f kj4 (wrap64 (a0)) (wrap64 (a2)) (wrap64 (a3))).bind fun t333 => ((path_Fits.f t333).bind fun t336 => (if t336 = true then (if 65 ≤ 281474976710656 then ((path_Fits.f (List.replicate 65 0)).bind fun t340 => (if t340 = true then (some false) else ((deedboxlaw25_works.f kj4).bind fun t341 => (some t341)))) else (none)) else (some false)))) else (some false)))) else (some false)) else (some false)) else (some false)) else (some false)) else (some false)) else (some false)) else (some false))) = some r := H
        have A15 := Aside0.mk A150
        clear A150
        replace H := Option.bind_eq_some_iff.mp H
        obtain ⟨⟨t327, t328⟩, A160, H⟩ := H
        replace H : (if t318 = true then (if t316.toList = a1.toList then (if t317 = (wrap64 (a2)) then (if t323 = true then (if t322 = (wrap64 (a2)) then (if t328 = true then (if t327 = (wrap64 (a3)) then ((path_Version.f kj4 (wrap64 (a0)) a1 (wrap64 (a2))).bind fun t329 => ((path_Fits.f t329).bind fun t332 => (if t332 = true then ((path_Part.f kj4 (wrap64 (a0)) (wrap64 (a2)) (wrap64 (a3))).bind fun t333 => ((path_Fits.f t333).bind fun t336 => (if t336 = true then (if 65 ≤ 281474976710656 then ((path_Fits.f (List.replicate 65 0)).bind fun t340 => (if t340 = true then (some false) else ((deedboxlaw25_works.f kj4).bind fun t341 => (some t341)))) else (none)) else (some false)))) else (some false)))) else (some false)) else (some false)) else (some false)) else (some false)) else (some false)) else (some false)) else (some false)) = some r := H
        have A16 := Aside0.mk A160
        clear A160
        by_cases c17 : t318 = true
        · subst c17
          have H1 : (if t316.toList = a1.toList then (if t317 = (wrap64 (a2)) then (if t323 = true then (if t322 = (wrap64 (a2)) then (if t328 = true then (if t327 = (wrap64 (a3)) then ((path_Version.f kj4 (wrap64 (a0)) a1 (wrap64 (a2))).bind fun t329 => ((path_Fits.f t329).bind fun t332 => (if t332 = true then ((path_Part.f kj4 (wrap64 (a0)) (wrap64 (a2)) (wrap64 (a3))).bind fun t333 => ((path_Fits.f t333).bind fun t336 => (if t336 = true then (if 65 ≤ 281474976710656 then ((path_Fits.f (List.replicate 65 0)).bind fun t340 => (if t340 = true then (some false) else ((deedboxlaw25_works.f kj4).bind fun t341 => (some t341)))) else (none)) else (some false)))) else (some false)))) else (some false)) else (some false)) else (some false)) else (some false)) else (some false)) else (some false)) = some r := by rw [if_pos rfl] at H; exact H
          clear H
          have H := H1
          clear H1
          by_cases c18 : t316.toList = a1.toList
          · rw [if_pos c18] at H
            have c18b0 : (t316.toList == a1.toList) = true := beq_iff_eq.mpr c18
            have c18b1 : (t316.toList != a1.toList) = false := bne_eq_false_iff_eq.mpr c18
            clear c18
            by_cases c19 : t317 = (wrap64 (a2))
            · rw [if_pos c19] at H
              have c19b0 : (t317 == (wrap64 (a2))) = true := beq_iff_eq.mpr c19
              have c19b1 : (t317 != (wrap64 (a2))) = false := bne_eq_false_iff_eq.mpr c19
              clear c19
              by_cases c20 : t323 = true
              · subst c20
                have H1 : (if t322 = (wrap64 (a2)) then (if t328 = true then (if t327 = (wrap64 (a3)) then ((path_Version.f kj4 (wrap64 (a0)) a1 (wrap64 (a2))).bind fun t329 => ((path_Fits.f t329).bind fun t332 => (if t332 = true then ((path_Part.f kj4 (wrap64 (a0)) (wrap64 (a2)) (wrap64 (a3))).bind fun t333 => ((path_Fits.f t333).bind fun t336 => (if t336 = true then (if 65 ≤ 281474976710656 then ((path_Fits.f (List.replicate 65 0)).bind fun t340 => (if t340 = true then (some false) else ((deedboxlaw25_works.f kj4).bind fun t341 => (some t341)))) else (none)) else (some false)))) else (some false)))) else (some false)) else (some false)) else (some false)) = some r := by rw [if_pos rfl] at H; exact H
                clear H
                have H := H1
                clear H1
                by_cases c21 : t322 = (wrap64 (a2))
                · rw [if_pos c21] at H
                  have c21b0 : (t322 == (wrap64 (a2))) = true := beq_iff_eq.mpr c21
                  have c21b1 : (t322 != (wrap64 (a2))) = false := bne_eq_false_iff_eq.mpr c21
                  clear c21
                  by_cases c22 : t328 = true
                  · subst c22
                    have H1 : (if t327 = (wrap64 (a3)) then ((path_Version.f kj4 (wrap64 (a0)) a1 (wrap64 (a2))).bind fun t329 => ((path_Fits.f t329).bind fun t332 => (if t332 = true then ((path_Part.f kj4 (wrap64 (a0)) (wrap64 (a2)) (wrap64 (a3))).bind fun t333 => ((path_Fits.f t333).bind fun t336 => (if t336 = true then (if 65 ≤ 281474976710656 then ((path_Fits.f (List.replicate 65 0)).bind fun t340 => (if t340 = true then (some false) else ((deedboxlaw25_works.f kj4).bind fun t341 => (some t341)))) else (none)) else (some false)))) else (some false)))) else (some false)) = some r := by rw [if_pos rfl] at H; exact H
                    clear H
                    have H := H1
                    clear H1
                    by_cases c23 : t327 = (wrap64 (a3))
                    · rw [if_pos c23] at H
                      have c23b0 : (t327 == (wrap64 (a3))) = true := beq_iff_eq.mpr c23
                      have c23b1 : (t327 != (wrap64 (a3))) = false := bne_eq_false_iff_eq.mpr c23
                      clear c23
                      replace H := Option.bind_eq_some_iff.mp H
                      obtain ⟨t329, A240, H⟩ := H
                      replace H : ((path_Fits.f t329).bind fun t332 => (if t332 = true then ((path_Part.f kj4 (wrap64 (a0)) (wrap64 (a2)) (wrap64 (a3))).bind fun t333 => ((path_Fits.f t333).bind fun t336 => (if t336 = true then (if 65 ≤ 281474976710656 then ((path_Fits.f (List.replicate 65 0)).bind fun t340 => (if t340 = true then (some false) else ((deedboxlaw25_works.f kj4).bind fun t341 => (some t341)))) else (none)) else (some false)))) else (some false))) = some r := H
                      have A24 := Aside0.mk A240
                      clear A240
                      replace H := Option.bind_eq_some_iff.mp H
                      obtain ⟨t332, A250, H⟩ := H
                      replace H : (if t332 = true then ((path_Part.f kj4 (wrap64 (a0)) (wrap64 (a2)) (wrap64 (a3))).bind fun t333 => ((path_Fits.f t333).bind fun t336 => (if t336 = true then (if 65 ≤ 281474976710656 then ((path_Fits.f (List.replicate 65 0)).bind fun t340 => (if t340 = true then (some false) else ((deedboxlaw25_works.f kj4).bind fun t341 => (some t341)))) else (none)) else (some false)))) else (some false)) = some r := H
                      have A25 := Aside0.mk A250
                      clear A250
                      by_cases c26 : t332 = true
                      · subst c26
                        have H1 : ((path_Part.f kj4 (wrap64 (a0)) (wrap64 (a2)) (wrap64 (a3))).bind fun t333 => ((path_Fits.f t333).bind fun t336 => (if t336 = true then (if 65 ≤ 281474976710656 then ((path_Fits.f (List.replicate 65 0)).bind fun t340 => (if t340 = true then (some false) else ((deedboxlaw25_works.f kj4).bind fun t341 => (some t341)))) else (none)) else (some false)))) = some r := by rw [if_pos rfl] at H; exact H
                        clear H
                        have H := H1
                        clear H1
                        replace H := Option.bind_eq_some_iff.mp H
                        obtain ⟨t333, A270, H⟩ := H
                        replace H : ((path_Fits.f t333).bind fun t336 => (if t336 = true then (if 65 ≤ 281474976710656 then ((path_Fits.f (List.replicate 65 0)).bind fun t340 => (if t340 = true then (some false) else ((deedboxlaw25_works.f kj4).bind fun t341 => (some t341)))) else (none)) else (some false))) = some r := H
                        have A27 := Aside0.mk A270
                        clear A270
                        replace H := Option.bind_eq_some_iff.mp H
                        obtain ⟨t336, A280, H⟩ := H
                        replace H : (if t336 = true then (if 65 ≤ 281474976710656 then ((path_Fits.f (List.replicate 65 0)).bind fun t340 => (if t340 = true then (some false) else ((deedboxlaw25_works.f kj4).bind fun t341 => (some t341)))) else (none)) else (some false)) = some r := H
                        have A28 := Aside0.mk A280
                        clear A280
                        by_cases c29 : t336 = true
                        · subst c29
                          have H1 : (if 65 ≤ 281474976710656 then ((path_Fits.f (List.replicate 65 0)).bind fun t340 => (if t340 = true then (some false) else ((deedboxlaw25_works.f kj4).bind fun t341 => (some t341)))) else (none)) = some r := by rw [if_pos rfl] at H; exact H
                          clear H
                          have H := H1
                          clear H1
                          by_cases c30 : 65 ≤ 281474976710656
                          · rw [if_pos c30] at H
                            have c30b0 := eq_true c30
                            have c30b1 : decide (65 ≤ 281474976710656) = true := decide_eq_true c30
                            clear c30
                            obtain ⟨y337, hy337⟩ : ∃ y_ : List Int, y_ = (List.replicate 65 0) := ⟨_, rfl⟩
                            replace H : ((path_Fits.f y337).bind fun t340 => (if t340 = true then (some false) else ((deedboxlaw25_works.f kj4).bind fun t341 => (some t341)))) = some r := by first | (rw [hy337]; with_reducible exact H) | (have H2_ := (Option.bind_some _ _).symm.trans H; rw [hy337]; with_reducible exact H2_) | (have H2_ := (Option.bind_some _ _).symm.trans H; with_reducible exact H2_) | with_reducible exact H | (rw [hy337]; exact H) | exact H
                            have Ny337 := Aside0.mk hy337
                            clear hy337
                            replace H := Option.bind_eq_some_iff.mp H
                            obtain ⟨t340, A310, H⟩ := H
                            replace H : (if t340 = true then (some false) else ((deedboxlaw25_works.f kj4).bind fun t341 => (some t341))) = some r := H
                            have A31 := Aside0.mk A310
                            clear A310
                            by_cases c32 : t340 = true
                            · subst c32
                              have H1 : (some false) = some r := by rw [if_pos rfl] at H; exact H
                              clear H
                              have H := H1
                              clear H1
                              obtain rfl := Option.some.inj H
                              exact absurd hr_.out (by simp)
                            · replace c32 := Bool.eq_false_iff.mpr c32
                              subst c32
                              have H1 : ((deedboxlaw25_works.f kj4).bind fun t341 => (some t341)) = some r := by rw [if_neg (show ¬ (false = true) by decide)] at H; exact H
                              clear H
                              have H := H1
                              clear H1
                              replace H := Option.bind_eq_some_iff.mp H
                              obtain ⟨t341, A330, H⟩ := H
                              replace H : (some t341) = some r := H
                              have A33 := Aside0.mk A330
                              clear A330
                              obtain rfl := Option.some.inj H
                              go_wp2_with (first | ((with_reducible refine gate_callee (f := 32) rfl ?_); refine goesL_ (some 38) rfl rfl Try.func32 (by kernel_rfl) rfl #[.int .i64 (wrap64 (a0)), .string a1, .int .i64 (wrap64 (a2))] rfl (by (try simp only [List.map_toArray, List.map_cons, List.map_nil]); first | done | rfl | (simp only [List.length_drop, List.length_take]; rfl)) ?_; (with_reducible refine (path_Version.calls kj4 (wrap64 (a0)) a1 (wrap64 (a2)) t313 _ A11.out).mono ?_); rintro e w34 ⟨v314, rfl, ho0, hb⟩; refine ⟨_, rfl, ?_⟩; have n0_ := Aside0.mk (Kd.R_lower ho0 (below_size (by repeat (first | (with_reducible first | exact HB.out | apply below_alloc | apply pw_below_drewN | apply below_drew1) | exact HB.out)))); have n1_ := Aside0.mk (below_step (by repeat (first | (with_reducible first | exact HB.out | apply below_alloc | apply pw_below_drewN | apply below_drew1) | exact HB.out)) hb); clear HB; have HO315 := n0_; have HB := n1_; clear n0_ n1_; (try clear hb); (try clear hb2); (try clear hk); (try clear hi); (try clear ho0); obtain ⟨Ao35, co35, eo35⟩ := Kd.R_slice HO315.out; subst eo35) | ((with_reducible refine gate_callee (f := 43) rfl ?_); refine goesL_ (some 39) rfl rfl Try.func43 (by kernel_rfl) rfl #[.slice Ao35 t313.length co35] rfl (by (try simp only [List.map_toArray, List.map_cons, List.map_nil]); first | done | rfl | (simp only [List.length_drop, List.length_take]; rfl)) ?_; (with_reducible refine (path_ReadVersion.calls kj4 _ _ t313 t316 t317 true _ ?side1 ?side2 A12.out).mono ?_); (case side1 => repeat (first | exact (Kd.R_reads' HO315.out).2.2 | (with_reducible refine Kd.C_alloc ?_ _) | (with_reducible refine Kd.C_drewN ?_ _) | (with_reducible refine Kd.C_drew ?_))); (case side2 => exact (Kd.R_reads' HO315.out).2.1); rintro e w' ⟨rfl, ⟨nd, rfl⟩⟩; refine ⟨_, rfl, ?_⟩) | ((with_reducible refine gate_callee (f := 35) rfl ?_); refine goesL_ (some 46) rfl rfl Try.func35 (by kernel_rfl) rfl #[.int .i64 (wrap64 (a0)), .int .i64 (wrap64 (a2))] rfl (by (try simp only [List.map_toArray, List.map_cons, List.map_nil]); first | done | rfl | (simp only [List.length_drop, List.length_take]; rfl)) ?_; (with_reducible refine (path_Upload.calls kj4 (wrap64 (a0)) (wrap64 (a2)) t319 _ A13.out).mono ?_); rintro e w36 ⟨v320, rfl, ho0, hb⟩; refine ⟨_, rfl, ?_⟩; have n0_ := Aside0.mk (Kd.R_elder' (by (with_reducible repeat (first | apply Kd.R_alloc | apply Kd.R_drewN | apply Kd.R_drew)); exact HO315.out) (Kd.R_base ho0) hb); have n1_ := Aside0.mk (Kd.R_lower (Kd.R_new' ho0 (Kd.R_lt (by (with_reducible repeat (first | apply Kd.R_alloc | apply Kd.R_drewN | apply Kd.R_drew)); exact HO315.out))) (below_size (by repeat (first | (with_reducible first | exact HB.out | apply below_alloc | apply pw_below_drewN | apply below_drew1) | exact HB.out)))); have n2_ := Aside0.mk (below_step (by repeat (first | (with_reducible first | exact HB.out | apply below_alloc | apply pw_below_drewN | apply below_drew1) | exact HB.out)) hb); clear HO315; clear HB; have HO315 := n0_; have HO321 := n1_; have HB := n2_; clear n0_ n1_ n2_; (try clear hb); (try clear hb2); (try clear hk); (try clear hi); (try clear ho0); obtain ⟨Ao37, co37, eo37⟩ := Kd.R_slice HO321.out; subst eo37) | ((with_reducible refine gate_callee (f := 44) rfl ?_); refine goesL_ (some 47) rfl rfl Try.func44 (by kernel_rfl) rfl #[.slice Ao37 t319.length co37] rfl (by (try simp only [List.map_toArray, List.map_cons, List.map_nil]); first | done | rfl | (simp only [List.length_drop, List.length_take]; rfl)) ?_; (with_reducible refine (path_ReadUpload.calls kj4 _ _ t319 t322 true _ ?side1 ?side2 A14.out).mono ?_); (case side1 => repeat (first | exact (Kd.R_reads' HO321.out).2.2 | (with_reducible refine Kd.C_alloc ?_ _) | (with_reducible refine Kd.C_drewN ?_ _) | (with_reducible refine Kd.C_drew ?_))); (case side2 => exact (Kd.R_reads' HO321.out).2.1); rintro e w' ⟨rfl, ⟨nd, rfl⟩⟩; refine ⟨_, rfl, ?_⟩) | ((with_reducible refine gate_callee (f := 37) rfl ?_); refine goesL_ (some 54) rfl rfl Try.func37 (by kernel_rfl) rfl #[.int .i64 (wrap64 (a0)), .int .i64 (wrap64 (a2)), .int .i64 (wrap64 (a3))] rfl (by (try simp only [List.map_toArray, List.map_cons, List.map_nil]); first | done | rfl | (simp only [List.length_drop, List.length_take]; rfl)) ?_; (with_reducible refine (path_Part.calls kj4 (wrap64 (a0)) (wrap64 (a2)) (wrap64 (a3)) t324 _ A15.out).mono ?_); rintro e w38 ⟨v325, rfl, ho0, hb⟩; refine ⟨_, rfl, ?_⟩; have n0_ := Aside0.mk (Kd.R_elder' (by (with_reducible repeat (first | apply Kd.R_alloc | apply Kd.R_drewN | apply Kd.R_drew)); exact HO315.out) (Kd.R_base ho0) hb); have n1_ := Aside0.mk (Kd.R_elder' (by (with_reducible repeat (first | apply Kd.R_alloc | apply Kd.R_drewN | apply Kd.R_drew)); exact HO321.out) (Kd.R_base ho0) hb); have n2_ := Aside0.mk (Kd.R_lower (Kd.R_new' (Kd.R_new' ho0 (Kd.R_lt (by (with_reducible repeat (first | apply Kd.R_alloc | apply Kd.R_drewN | apply Kd.R_drew)); exact HO315.out))) (Kd.R_lt (by (with_reducible repeat (first | apply Kd.R_alloc | apply Kd.R_drewN | apply Kd.R_drew)); exact HO321.out))) (below_size (by repeat (first | (with_reducible first | exact HB.out | apply below_alloc | apply pw_below_drewN | apply below_drew1) | exact HB.out)))); have n3_ := Aside0.mk (below_step (by repeat (first | (with_reducible first | exact HB.out | apply below_alloc | apply pw_below_drewN | apply below_drew1) | exact HB.out)) hb); clear HO315; clear HO321; clear HB; have HO315 := n0_; have HO321 := n1_; have HO326 := n2_; have HB := n3_; clear n0_ n1_ n2_ n3_; (try clear hb); (try clear hb2); (try clear hk); (try clear hi); (try clear ho0); obtain ⟨Ao39, co39, eo39⟩ := Kd.R_slice HO326.out; subst eo39) | ((with_reducible refine gate_callee (f := 45) rfl ?_); refine goesL_ (some 55) rfl rfl Try.func45 (by kernel_rfl) rfl #[.slice Ao39 t324.length co39] rfl (by (try simp only [List.map_toArray, List.map_cons, List.map_nil]); first | done | rfl | (simp only [List.length_drop, List.length_take]; rfl)) ?_; (with_reducible refine (path_ReadPart.calls kj4 _ _ t324 t327 true _ ?side1 ?side2 A16.out).mono ?_); (case side1 => repeat (first | exact (Kd.R_reads' HO326.out).2.2 | (with_reducible refine Kd.C_alloc ?_ _) | (with_reducible refine Kd.C_drewN ?_ _) | (with_reducible refine Kd.C_drew ?_))); (case side2 => exact (Kd.R_reads' HO326.out).2.1); rintro e w' ⟨rfl, ⟨nd, rfl⟩⟩; refine ⟨_, rfl, ?_⟩) | (go_at_call 32; (with_reducible refine (path_Version.calls kj4 (wrap64 (a0)) a1 (wrap64 (a2)) t329 _ A24.out).mono ?_); rintro e w40 ⟨v330, rfl, ho0, hb⟩; have n0_ := Aside0.mk (Kd.R_elder' (by (with_reducible repeat (first | apply Kd.R_alloc | apply Kd.R_drewN | apply Kd.R_drew)); exact HO315.out) (Kd.R_base ho0) hb); have n1_ := Aside0.mk (Kd.R_elder' (by (with_reducible repeat (first | apply Kd.R_alloc | apply Kd.R_drewN | apply Kd.R_drew)); exact HO321.out) (Kd.R_base ho0) hb); have n2_ := Aside0.mk (Kd.R_elder' (by (with_reducible repeat (first | apply Kd.R_alloc | apply Kd.R_drewN | apply Kd.R_drew)); exact HO326.out) (Kd.R_base ho0) hb); have n3_ := Aside0.mk (Kd.R_lower (Kd.R_new' (Kd.R_new' (Kd.R_new' ho0 (Kd.R_lt (by (with_reducible repeat (first | apply Kd.R_alloc | apply Kd.R_drewN | apply Kd.R_drew)); exact HO315.out))) (Kd.R_lt (by (with_reducible repeat (first | apply Kd.R_alloc | apply Kd.R_drewN | apply Kd.R_drew)); exact HO321.out))) (Kd.R_lt (by (with_reducible repeat (first | apply Kd.R_alloc | apply Kd.R_drewN | apply Kd.R_drew)); exact HO326.out))) (below_size (by repeat (first | (with_reducible first | exact HB.out | apply below_alloc | apply pw_below_drewN | apply below_drew1) | exact HB.out)))); have n4_ := Aside0.mk (below_step (by repeat (first | (with_reducible first | exact HB.out | apply below_alloc | apply pw_below_drewN | apply below_drew1) | exact HB.out)) hb); clear HO315; clear HO321; clear HO326; clear HB; have HO315 := n0_; have HO321 := n1_; have HO326 := n2_; have HO331 := n3_; have HB := n4_; clear n0_ n1_ n2_ n3_ n4_; (try clear hb); (try clear hb2); (try clear hk); (try clear hi); (try clear ho0); obtain ⟨Ao41, co41, eo41⟩ := Kd.R_slice HO331.out; subst eo41) | (go_at_call 46; (with_reducible refine (path_Fits.calls _ _ t329 true _ ?side1 ?side2 A25.out).mono ?_); (case side1 => repeat (first | exact (Kd.R_reads' HO331.out).2.2 | (with_reducible refine Kd.C_alloc ?_ _) | (with_reducible refine Kd.C_drewN ?_ _) | (with_reducible refine Kd.C_drew ?_))); (case side2 => exact (Kd.R_reads' HO331.out).2.1); rintro e w' ⟨rfl, ⟨nd, rfl⟩⟩) | (go_at_call 37; (with_reducible refine (path_Part.calls kj4 (wrap64 (a0)) (wrap64 (a2)) (wrap64 (a3)) t333 _ A27.out).mono ?_); rintro e w42 ⟨v334, rfl, ho0, hb⟩; have n0_ := Aside0.mk (Kd.R_elder' (by (with_reducible repeat (first | apply Kd.R_alloc | apply Kd.R_drewN | apply Kd.R_drew)); exact HO315.out) (Kd.R_base ho0) hb); have n1_ := Aside0.mk (Kd.R_elder' (by (with_reducible repeat (first | apply Kd.R_alloc | apply Kd.R_drewN | apply Kd.R_drew)); exact HO321.out) (Kd.R_base ho0) hb); have n2_ := Aside0.mk (Kd.R_elder' (by (with_reducible repeat (first | apply Kd.R_alloc | apply Kd.R_drewN | apply Kd.R_drew)); exact HO326.out) (Kd.R_base ho0) hb); have n3_ := Aside0.mk (Kd.R_elder' (by (with_reducible repeat (first | apply Kd.R_alloc | apply Kd.R_drewN | apply Kd.R_drew)); exact HO331.out) (Kd.R_base ho0) hb); have n4_ := Aside0.mk (Kd.R_lower (Kd.R_new' (Kd.R_new' (Kd.R_new' (Kd.R_new' ho0 (Kd.R_lt (by (with_reducible repeat (first | apply Kd.R_alloc | apply Kd.R_drewN | apply Kd.R_drew)); exact HO315.out))) (Kd.R_lt (by (with_reducible repeat (first | apply Kd.R_alloc | apply Kd.R_drewN | apply Kd.R_drew)); exact HO321.out))) (Kd.R_lt (by (with_reducible repeat (first | apply Kd.R_alloc | apply Kd.R_drewN | apply Kd.R_drew)); exact HO326.out))) (Kd.R_lt (by (with_reducible repeat (first | apply Kd.R_alloc | apply Kd.R_drewN | apply Kd.R_drew)); exact HO331.out))) (below_size (by repeat (first | (with_reducible first | exact HB.out | apply below_alloc | apply pw_below_drewN | apply below_drew1) | exact HB.out)))); have n5_ := Aside0.mk (below_step (by repeat (first | (with_reducible first | exact HB.out | apply below_alloc | apply pw_below_drewN | apply below_drew1) | exact HB.out)) hb); clear HO315; clear HO321; clear HO326; clear HO331; clear HB; have HO315 := n0_; have HO321 := n1_; have HO326 := n2_; have HO331 := n3_; have HO335 := n4_; have HB := n5_; clear n0_ n1_ n2_ n3_ n4_ n5_; (try clear hb); (try clear hb2); (try clear hk); (try clear hi); (try clear ho0); obtain ⟨Ao43, co43, eo43⟩ := Kd.R_slice HO335.out; subst eo43) | (go_at_call 46; (with_reducible refine (path_Fits.calls _ _ t333 true _ ?side1 ?side2 A28.out).mono ?_); (case side1 => repeat (first | exact (Kd.R_reads' HO335.out).2.2 | (with_reducible refine Kd.C_alloc ?_ _) | (with_reducible refine Kd.C_drewN ?_ _) | (with_reducible refine Kd.C_drew ?_))); (case side2 => exact (Kd.R_reads' HO335.out).2.1); rintro e w' ⟨rfl, ⟨nd, rfl⟩⟩) | ((with_reducible refine gate_dst (N := 100) rfl ?_); (try (refine gate_guard (by rfl) ?_; dsimp only)); refine Kd.R_make (Kd.int .u8) _ 5 rfl (N := 100) rfl 31 _ _ rfl 65 rfl rfl Try.underlying31 (.int .u8 0) 1 info5 rfl (by decide) (by omega) 0 (ok := fun _ => True) (okp := fun _ => True) rfl (fun _ hk => hk) trivial (by omega) (by omega) (Below.refl _ _) (Nat.le_refl _) ?_; intro v338 w44 ho45 hb hg_ hnew_; clear hg_ hnew_; (first | rw [← Ny337.out] at ho45 | (simp only [Int.reduceToNat] at ho45; rw [← Ny337.out] at ho45)); have n0_ := Aside0.mk (Kd.R_elder' (by (with_reducible repeat (first | apply Kd.R_alloc | apply Kd.R_drewN | apply Kd.R_drew)); exact HO315.out) (Kd.R_base ho45) hb); have n1_ := Aside0.mk (Kd.R_elder' (by (with_reducible repeat (first | apply Kd.R_alloc | apply Kd.R_drewN | apply Kd.R_drew)); exact HO321.out) (Kd.R_base ho45) hb); have n2_ := Aside0.mk (Kd.R_elder' (by (with_reducible repeat (first | apply Kd.R_alloc | apply Kd.R_drewN | apply Kd.R_drew)); exact HO326.out) (Kd.R_base ho45) hb); have n3_ := Aside0.mk (Kd.R_elder' (by (with_reducible repeat (first | apply Kd.R_alloc | apply Kd.R_drewN | apply Kd.R_drew)); exact HO331.out) (Kd.R_base ho45) hb); have n4_ := Aside0.mk (Kd.R_elder' (by (with_reducible repeat (first | apply Kd.R_alloc | apply Kd.R_drewN | apply Kd.R_drew)); exact HO335.out) (Kd.R_base ho45) hb); have n5_ := Aside0.mk (Kd.R_lower (Kd.R_new' (Kd.R_new' (Kd.R_new' (Kd.R_new' (Kd.R_new' ho45 (Kd.R_lt (by (with_reducible repeat (first | apply Kd.R_alloc | apply Kd.R_drewN | apply Kd.R_drew)); exact HO315.out))) (Kd.R_lt (by (with_reducible repeat (first | apply Kd.R_alloc | apply Kd.R_drewN | apply Kd.R_drew)); exact HO321.out))) (Kd.R_lt (by (with_reducible repeat (first | apply Kd.R_alloc | apply Kd.R_drewN | apply Kd.R_drew)); exact HO326.out))) (Kd.R_lt (by (with_reducible repeat (first | apply Kd.R_alloc | apply Kd.R_drewN | apply Kd.R_drew)); exact HO331.out))) (Kd.R_lt (by (with_reducible repeat (first | apply Kd.R_alloc | apply Kd.R_drewN | apply Kd.R_drew)); exact HO335.out))) (below_size (by repeat (first | (with_reducible first | exact HB.out | apply below_alloc | apply pw_below_drewN | apply below_drew1) | exact HB.out)))); have n6_ := Aside0.mk (below_step (by repeat (first | (with_reducible first | exact HB.out | apply below_alloc | apply pw_below_drewN | apply below_drew1) | exact HB.out)) hb); clear HO315; clear HO321; clear HO326; clear HO331; clear HO335; clear HB; have HO315 := n0_; have HO321 := n1_; have HO326 := n2_; have HO331 := n3_; have HO335 := n4_; have HO339 := n5_; have HB := n6_; clear n0_ n1_ n2_ n3_ n4_ n5_ n6_; clear hb ho45; obtain ⟨Ao46, co46, eo46⟩ := Kd.R_slice HO339.out; subst eo46) | (go_at_call 46; (with_reducible refine (path_Fits.calls _ _ y337 false _ ?side1 ?side2 A31.out).mono ?_); (case side1 => repeat (first | exact (Kd.R_reads' HO339.out).2.2 | (with_reducible refine Kd.C_alloc ?_ _) | (with_reducible refine Kd.C_drewN ?_ _) | (with_reducible refine Kd.C_drew ?_))); (case side2 => exact (Kd.R_reads' HO339.out).2.1); rintro e w' ⟨rfl, ⟨nd, rfl⟩⟩) | (go_at_call 28; (with_reducible refine (deedboxlaw25_works.calls kj4  t341 _ A33.out hr_).mono ?_); rintro e w47 ⟨rfl, hb⟩; have n0_ := Aside0.mk (Kd.R_below (by (with_reducible repeat (first | apply Kd.R_alloc | apply Kd.R_drewN | apply Kd.R_drew)); exact HO315.out) hb); have n1_ := Aside0.mk (Kd.R_below (by (with_reducible repeat (first | apply Kd.R_alloc | apply Kd.R_drewN | apply Kd.R_drew)); exact HO321.out) hb); have n2_ := Aside0.mk (Kd.R_below (by (with_reducible repeat (first | apply Kd.R_alloc | apply Kd.R_drewN | apply Kd.R_drew)); exact HO326.out) hb); have n3_ := Aside0.mk (Kd.R_below (by (with_reducible repeat (first | apply Kd.R_alloc | apply Kd.R_drewN | apply Kd.R_drew)); exact HO331.out) hb); have n4_ := Aside0.mk (Kd.R_below (by (with_reducible repeat (first | apply Kd.R_alloc | apply Kd.R_drewN | apply Kd.R_drew)); exact HO335.out) hb); have n5_ := Aside0.mk (Kd.R_below (by (with_reducible repeat (first | apply Kd.R_alloc | apply Kd.R_drewN | apply Kd.R_drew)); exact HO339.out) hb); have n6_ := Aside0.mk (below_step (by repeat (first | (with_reducible first | exact HB.out | apply below_alloc | apply pw_below_drewN | apply below_drew1) | exact HB.out)) hb); clear HO315; clear HO321; clear HO326; clear HO331; clear HO335; clear HO339; clear HB; have HO315 := n0_; have HO321 := n1_; have HO326 := n2_; have HO331 := n3_; have HO335 := n4_; have HO339 := n5_; have HB := n6_; clear n0_ n1_ n2_ n3_ n4_ n5_ n6_; (try clear hb); (try clear hb2); (try clear hk); (try clear hi)))
                              go_ret
                              exact ⟨by first | rfl | (simp [errW_none, errW_some] <;> rfl) | (simp [*, errW_none, errW_some] <;> rfl), by repeat (first | (with_reducible first | exact HB.out | apply below_alloc | apply pw_below_drewN | apply below_drew1) | exact HB.out)⟩
                          · rw [if_neg c30] at H
                            exact absurd H (by simp)
                        · replace c29 := Bool.eq_false_iff.mpr c29
                          subst c29
                          have H1 : (some false) = some r := by rw [if_neg (show ¬ (false = true) by decide)] at H; exact H
                          clear H
                          have H := H1
                          clear H1
                          obtain rfl := Option.some.inj H
                          exact absurd hr_.out (by simp)
                      · replace c26 := Bool.eq_false_iff.mpr c26
                        subst c26
                        have H1 : (some false) = some r := by rw [if_neg (show ¬ (false = true) by decide)] at H; exact H
                        clear H
                        have H := H1
                        clear H1
                        obtain rfl := Option.some.inj H
                        exact absurd hr_.out (by simp)
                    · rw [if_neg c23] at H
                      have c23b0 : (t327 == (wrap64 (a3))) = false := beq_eq_false_iff_ne.mpr c23
                      have c23b1 : (t327 != (wrap64 (a3))) = true := bne_iff_ne.mpr c23
                      obtain rfl := Option.some.inj H
                      exact absurd hr_.out (by simp)
                  · replace c22 := Bool.eq_false_iff.mpr c22
                    subst c22
                    have H1 : (some false) = some r := by rw [if_neg (show ¬ (false = true) by decide)] at H; exact H
                    clear H
                    have H := H1
                    clear H1
                    obtain rfl := Option.some.inj H
                    exact absurd hr_.out (by simp)
                · rw [if_neg c21] at H
                  have c21b0 : (t322 == (wrap64 (a2))) = false := beq_eq_false_iff_ne.mpr c21
                  have c21b1 : (t322 != (wrap64 (a2))) = true := bne_iff_ne.mpr c21
                  obtain rfl := Option.some.inj H
                  exact absurd hr_.out (by simp)
              · replace c20 := Bool.eq_false_iff.mpr c20
                subst c20
                have H1 : (some false) = some r := by rw [if_neg (show ¬ (false = true) by decide)] at H; exact H
                clear H
                have H := H1
                clear H1
                obtain rfl := Option.some.inj H
                exact absurd hr_.out (by simp)
            · rw [if_neg c19] at H
              have c19b0 : (t317 == (wrap64 (a2))) = false := beq_eq_false_iff_ne.mpr c19
              have c19b1 : (t317 != (wrap64 (a2))) = true := bne_iff_ne.mpr c19
              obtain rfl := Option.some.inj H
              exact absurd hr_.out (by simp)
          · rw [if_neg c18] at H
            have c18b0 : (t316.toList == a1.toList) = false := beq_eq_false_iff_ne.mpr c18
            have c18b1 : (t316.toList != a1.toList) = true := bne_iff_ne.mpr c18
            obtain rfl := Option.some.inj H
            exact absurd hr_.out (by simp)
        · replace c17 := Bool.eq_false_iff.mpr c17
          subst c17
          have H1 : (some false) = some r := by rw [if_neg (show ¬ (false = true) by decide)] at H; exact H
          clear H
          have H := H1
          clear H1
          obtain rfl := Option.some.inj H
          exact absurd hr_.out (by simp)

/-- THE ONE PURE STATEMENT of deedboxlaw25_PathBack: yours. -/
def deedboxlaw25_PathBack.Pure : Prop := ∀ (a0 : Int) (a1 : ByteArray) (a2 : Int) (a3 : Int), (Lit.int .u16 a0).wf = true → a1.size ≤ 140737488351232 → (Lit.int .u32 a2).wf = true → (Lit.int .u16 a3).wf = true → ∃ k, deedboxlaw25_PathBack.f k a0 a1 a2 a3 = some true
theorem deedboxlaw25_PathBack.walk (P : deedboxlaw25_PathBack.Pure) (a0 : Int) (a1 : ByteArray) (a2 : Int) (a3 : Int) (w : World) (w0 : (Lit.int .u16 a0).wf = true) (w1 : a1.size ≤ 140737488351232) (w2 : (Lit.int .u32 a2).wf = true) (w3 : (Lit.int .u16 a3).wf = true) :
    Calls Try.prog 7 #[.int .u16 a0, .string a1, .int .u32 a2, .int .u16 a3] w fun e w' => e = .returned (.bool true) ∧ Below w.heap.size w w' := by
  obtain ⟨k, h⟩ := P a0 a1 a2 a3 w0 w1 w2 w3
  refine (deedboxlaw25_PathBack.calls k a0 a1 a2 a3 true w h (Aside0.mk rfl)).mono ?_
  rintro e w' ⟨rfl, hd⟩
  exact ⟨rfl, hd⟩

end Go.Proofs.Ytagoofdopgopoaa.PPathBack
