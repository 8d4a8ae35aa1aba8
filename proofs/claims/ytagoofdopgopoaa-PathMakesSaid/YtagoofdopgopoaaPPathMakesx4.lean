/- Written by a program of the prover: the functions that a law reaches, as plain Lean functions, each with the proof that the call of the machine comes to it. -/
import Derived.Test.YtagoofdopgopoaaPPathMakesx0
import Derived.Test.YtagoofdopgopoaaPPathMakesx1
import Derived.Test.YtagoofdopgopoaaPPathMakesx2
import Derived.Test.YtagoofdopgopoaaPPathMakesx3
namespace Go.Proofs.Ytagoofdopgopoaa.PPathMakes
open Go.RowKit Go.Proofs.YtagoofdopgopoaaW.PrintWords Go.Proofs.YtagoofdopgopoaaW.PrintLast Go.Proofs.YtagoofdopgopoaaW.PrintMore
attribute [local go_sem] max2_int min2_int max_two min_two max_three min_three max_four min_four   -- for this text's walks alone
set_option linter.unusedVariables false
set_option linter.unusedSimpArgs false

/-! ### deedboxlaw25_PathMakes: function 6 -/
def deedboxlaw25_PathMakes.f (k : Nat) (a0 : Int) (a1 : ByteArray) (a2 : Int) (a3 : Int) : Option (Bool) := (deedboxlaw25_plain.f k a1).bind fun t385 => (if t385 = true then ((deedboxref25_Version.f k (wrap64 (a0)) a1 (wrap64 (a2))).bind fun t387 => ((deedboxref25_Upload.f k (wrap64 (a0)) (wrap64 (a2))).bind fun t390 => ((deedboxref25_Part.f k (wrap64 (a0)) (wrap64 (a2)) (wrap64 (a3))).bind fun t393 => ((path_Version.f k (wrap64 (a0)) a1 (wrap64 (a2))).bind fun t396 => ((deedboxref01_Same.f k t396 t387).bind fun t399 => (if t399 = true then ((path_Names.f k (wrap64 (a0)) a1).bind fun t400 => (if 0 ≤ (wrap64 ((t387.length : Int) - 6)) then (if (wrap64 ((t387.length : Int) - 6)) ≤ (t387.length : Int) then ((deedboxref01_Same.f k t400 (t387.take ((wrap64 ((t387.length : Int) - 6)) : Int).toNat)).bind fun t407 => (if t407 = true then ((path_Versions.f k (wrap64 (a0))).bind fun t408 => (if 3 ≤ (t387.length : Int) then ((deedboxref01_Same.f k t408 (t387.take 3)).bind fun t415 => (if t415 = true then ((path_Upload.f k (wrap64 (a0)) (wrap64 (a2))).bind fun t416 => ((deedboxref01_Same.f k t416 t390).bind fun t419 => (if t419 = true then ((path_Uploads.f k (wrap64 (a0))).bind fun t420 => (if 3 ≤ (t390.length : Int) then ((deedboxref01_Same.f k t420 (t390.take 3)).bind fun t427 => (if t427 = true then ((path_Part.f k (wrap64 (a0)) (wrap64 (a2)) (wrap64 (a3))).bind fun t428 => ((deedboxref01_Same.f k t428 t393).bind fun t431 => (if t431 = true then ((path_Parts.f k (wrap64 (a0)) (wrap64 (a2))).bind fun t432 => (if 9 ≤ (t393.length : Int) then ((deedboxref01_Same.f k t432 (t393.take 9)).bind fun t439 => (if t439 = true then ((path_Bucket.f k a1).bind fun t440 => ((deedboxref25_Bucket.f a1).bind fun t443 => ((deedboxref01_Same.f k t440 t443).bind fun t446 => (if t446 = true then ((path_Rotate.f k (wrap64 (a0))).bind fun t447 => ((deedboxref25_Rotate.f k (wrap64 (a0))).bind fun t450 => ((deedboxref01_Same.f k t447 t450).bind fun t453 => (if t453 = true then ((deedboxlaw25_works.f k).bind fun t454 => (some t454)) else (some false))))) else (some false))))) else (some false))) else (none))) else (some false)))) else (some false))) else (none))) else (some false)))) else (some false))) else (none))) else (some false))) else (none)) else (none))) else (some false))))))) else ((deedboxlaw25_works.f k).bind fun t386 => (some t386)))
theorem deedboxlaw25_PathMakes.mono : ∀ a0 a1 a2 a3 k, LeO (deedboxlaw25_PathMakes.f k a0 a1 a2 a3) (deedboxlaw25_PathMakes.f (k + 1) a0 a1 a2 a3) := by
  intro a0 a1 a2 a3 k
  unfold deedboxlaw25_PathMakes.f
  repeat' first
      | (with_reducible exact deedboxlaw25_plain.mono _ _)
      | (with_reducible exact deedboxlaw25_works.mono _)
      | (with_reducible exact deedboxref01_Same.mono _ _ _)
      | (with_reducible exact deedboxref25_Part.mono _ _ _ _)
      | (with_reducible exact deedboxref25_Rotate.mono _ _)
      | (with_reducible exact deedboxref25_Upload.mono _ _ _)
      | (with_reducible exact deedboxref25_Version.mono _ _ _ _)
      | (with_reducible exact path_Bucket.mono _ _)
      | (with_reducible exact path_Names.mono _ _ _)
      | (with_reducible exact path_Part.mono _ _ _ _)
      | (with_reducible exact path_Parts.mono _ _ _)
      | (with_reducible exact path_Rotate.mono _ _)
      | (with_reducible exact path_Upload.mono _ _ _)
      | (with_reducible exact path_Uploads.mono _ _)
      | (with_reducible exact path_Version.mono _ _ _ _)
      | (with_reducible exact path_Versions.mono _ _)
      | (with_reducible exact LeO.refl _)
      | (with_reducible exact LeO.none _)
      | (with_reducible refine LeO.ite ?_ ?_)
      | (with_reducible refine LeO.bind ?_ (fun _ => ?_))
      | exact deedboxlaw25_plain.mono _ _
      | exact deedboxlaw25_works.mono _
      | exact deedboxref01_Same.mono _ _ _
      | exact deedboxref25_Part.mono _ _ _ _
      | exact deedboxref25_Rotate.mono _ _
      | exact deedboxref25_Upload.mono _ _ _
      | exact deedboxref25_Version.mono _ _ _ _
      | exact path_Bucket.mono _ _
      | exact path_Names.mono _ _ _
      | exact path_Part.mono _ _ _ _
      | exact path_Parts.mono _ _ _
      | exact path_Rotate.mono _ _
      | exact path_Upload.mono _ _ _
      | exact path_Uploads.mono _ _
      | exact path_Version.mono _ _ _ _
      | exact path_Versions.mono _ _
      | exact LeO.none _
      | refine LeO.ite ?_ ?_
      | refine LeO.bind ?_ (fun _ => ?_)
def deedboxlaw25_PathMakes.T7 : Bool × List (List Nat × List Nat) := (true, [([], []), ([], []), ([], []), ([0, 1, 2], [0, 1, 2]), ([], []), ([3, 4, 3], [3, 4]), ([5, 5], [5]), ([6], [6]), ([6], [6]), ([7, 8, 6, 6], [6, 7, 8]), ([6], [6]), ([6], [6]), ([11, 6], [6, 11]), ([12, 6], [6, 12]), ([10, 13, 6], [6, 10, 13]), ([9, 14, 9, 6], [6, 9, 14]), ([6, 15], [6, 15]), ([16, 15], [16]), ([17], [17]), ([18, 17, 17], [17, 18]), ([17], [17]), ([20, 17], [17, 20]), ([19, 21, 19, 17], [17, 19, 21]), ([17, 22], [17, 22]), ([23, 22], [23]), ([24], [24]), ([24], [24]), ([25, 26, 24, 24], [24, 25, 26]), ([24], [24]), ([27, 28, 27, 24], [24, 27, 28]), ([24, 29], [24, 29]), ([30, 29], [30]), ([31], [31]), ([32, 31, 31], [31, 32]), ([31], [31]), ([34, 31], [31, 34]), ([33, 35, 33, 31], [31, 33, 35]), ([31, 36], [31, 36]), ([37, 36], [37]), ([38], [38]), ([38], [38]), ([38], [38]), ([39, 40, 41, 38, 38], [38, 39, 40, 41]), ([38], [38]), ([42, 43, 42, 38], [38, 42, 43]), ([38, 44], [38, 44]), ([45, 44], [45]), ([46], [46]), ([46], [46]), ([47, 48, 46, 46], [46, 47, 48]), ([46], [46]), ([50, 46], [46, 50]), ([49, 51, 49, 46], [46, 49, 51]), ([46, 52], [46, 52]), ([53, 52], [53]), ([54], [54]), ([55, 54, 54], [54, 55]), ([54], [54]), ([57, 56, 54], [54, 57]), ([56, 58, 58, 54], [54, 56, 58]), ([54, 59], [54, 59]), ([60, 59], [60]), ([61], [61]), ([62, 61, 61], [61, 62]), ([61], [61]), ([64, 63, 61], [61, 64]), ([63, 65, 65, 61], [61, 63, 65]), ([61, 66], [61, 66]), ([67, 66], [67]), ([68, 68], [68]), ([68, 69], [68, 69]), ([70, 69, 0, 1, 2, 3, 4, 5, 6, 7, 8, 9, 10, 11, 12, 13, 14, 15, 16, 17, 18, 19, 20, 21, 22, 23, 24, 25, 26, 27, 28, 29, 30, 31, 32, 33, 34, 35, 36, 37, 38, 39, 40, 41, 42, 43, 44, 45, 46, 47, 48, 49, 50, 51, 52, 53, 54, 55, 56, 57, 58, 59, 60, 61, 62, 63, 64, 65, 66, 67, 68, 69, 70], [70])])
def deedboxlaw25_PathMakes.B7 : List Nat := [0, 0, 0, 7, 0, 31, 63, 127, 127, 511, 127, 127, 2175, 6271, 15487, 32767, 65535, 131071, 262143, 524287, 262143, 1310719, 4194303, 8388607, 16777215, 33554431, 33554431, 134217727, 33554431, 536870911, 1073741823, 2147483647, 4294967295, 8589934591, 4294967295, 21474836479, 68719476735, 137438953471, 274877906943, 549755813887, 549755813887, 549755813887, 4398046511103, 549755813887, 17592186044415, 35184372088831, 70368744177663, 140737488355327, 140737488355327, 562949953421311, 140737488355327, 1266637395197951, 4503599627370495, 9007199254740991, 18014398509481983, 36028797018963967, 72057594037927935, 36028797018963967, 288230376151711743, 576460752303423487, 1152921504606846975, 2305843009213693951, 4611686018427387903, 9223372036854775807, 4611686018427387903, 36893488147419103231, 73786976294838206463, 147573952589676412927, 295147905179352825855, 590295810358705651711, 1180591620717411303423, 2361183241434822606847]
theorem deedboxlaw25_PathMakes.tab7 : rtab .any (opsOf Try.f6 7) = deedboxlaw25_PathMakes.T7 := by kernel_rfl
theorem deedboxlaw25_PathMakes.bits7 : waitsOk deedboxlaw25_PathMakes.T7.2 deedboxlaw25_PathMakes.B7 = true := by kernel_rfl
set_option maxHeartbeats 8000000 in
set_option maxRecDepth 100000 in
theorem deedboxlaw25_PathMakes.calls (k : Nat) (a0 : Int) (a1 : ByteArray) (a2 : Int) (a3 : Int) (r : Bool) (w : World) (h : deedboxlaw25_PathMakes.f k a0 a1 a2 a3 = some r) (hr_ : Aside0 (r = true)) :
    Calls Try.prog 6 #[.int .u16 a0, .string a1, .int .u32 a2, .int .u16 a3] w fun e w' => e = .returned (.bool r) ∧ Below w.heap.size w w' := by
  have HB := Aside0.mk (Below.refl w.heap.size w)
  have H : ((deedboxlaw25_plain.f k a1).bind fun t385 => (if t385 = true then ((deedboxref25_Version.f k (wrap64 (a0)) a1 (wrap64 (a2))).bind fun t387 => ((deedboxref25_Upload.f k (wrap64 (a0)) (wrap64 (a2))).bind fun t390 => ((deedboxref25_Part.f k (wrap64 (a0)) (wrap64 (a2)) (wrap64 (a3))).bind fun t393 => ((path_Version.f k (wrap64 (a0)) a1 (wrap64 (a2))).bind fun t396 => ((deedboxref01_Same.f k t396 t387).bind fun t399 => (if t399 = true then ((path_Names.f k (wrap64 (a0)) a1).bind fun t400 => (if 0 ≤ (wrap64 ((t387.length : Int) - 6)) then (if (wrap64 ((t387.length : Int) - 6)) ≤ (t387.length : Int) then ((deedboxref01_Same.f k t400 (t387.take ((wrap64 ((t387.length : Int) - 6)) : Int).toNat)).bind fun t407 => (if t407 = true then ((path_Versions.f k (wrap64 (a0))).bind fun t408 => (if 3 ≤ (t387.length : Int) then ((deedboxref01_Same.f k t408 (t387.take 3)).bind fun t415 => (if t415 = true then ((path_Upload.f k (wrap64 (a0)) (wrap64 (a2))).bind fun t416 => ((deedboxref01_Same.f k t416 t390).bind fun t419 => (if t419 = true then ((path_Uploads.f k (wrap64 (a0))).bind fun t420 => (if 3 ≤ (t390.length : Int) then ((deedboxref01_Same.f k t420 (t390.take 3)).bind fun t427 => (if t427 = true then ((path_Part.f k (wrap64 (a0)) (wrap64 (a2)) (wrap64 (a3))).bind fun t428 => ((deedboxref01_Same.f k t428 t393).bind fun t431 => (if t431 = true then ((path_Parts.f k (wrap64 (a0)) (wrap64 (a2))).bind fun t432 => (if 9 ≤ (t393.length : Int) then ((deedboxref01_Same.f k t432 (t393.take 9)).bind fun t439 => (if t439 = true then ((path_Bucket.f k a1).bind fun t440 => ((deedboxref25_Bucket.f a1).bind fun t443 => ((deedboxref01_Same.f k t440 t443).bind fun t446 => (if t446 = true then ((path_Rotate.f k (wrap64 (a0))).bind fun t447 => ((deedboxref25_Rotate.f k (wrap64 (a0))).bind fun t450 => ((deedboxref01_Same.f k t447 t450).bind fun t453 => (if t453 = true then ((deedboxlaw25_works.f k).bind fun t454 => (some t454)) else (some false))))) else (some false))))) else (some false))) else (none))) else (some false)))) else (some false))) else (none))) else (some false)))) else (some false))) else (none))) else (some false))) else (none)) else (none))) else (some false))))))) else ((deedboxlaw25_works.f k).bind fun t386 => (some t386)))) = some r := h
  clear h
  replace H := Option.bind_eq_some_iff.mp H
  obtain ⟨t385, A50, H⟩ := H
  replace H : (if t385 = true then ((deedboxref25_Version.f k (wrap64 (a0)) a1 (wrap64 (a2))).bind fun t387 => ((deedboxref25_Upload.f k (wrap64 (a0)) (wrap64 (a2))).bind fun t390 => ((deedboxref25_Part.f k (wrap64 (a0)) (wrap64 (a2)) (wrap64 (a3))).bind fun t393 => ((path_Version.f k (wrap64 (a0)) a1 (wrap64 (a2))).bind fun t396 => ((deedboxref01_Same.f k t396 t387).bind fun t399 => (if t399 = true then ((path_Names.f k (wrap64 (a0)) a1).bind fun t400 => (if 0 ≤ (wrap64 ((t387.length : Int) - 6)) then (if (wrap64 ((t387.length : Int) - 6)) ≤ (t387.length : Int) then ((deedboxref01_Same.f k t400 (t387.take ((wrap64 ((t387.length : Int) - 6)) : Int).toNat)).bind fun t407 => (if t407 = true then ((path_Versions.f k (wrap64 (a0))).bind fun t408 => (if 3 ≤ (t387.length : Int) then ((deedboxref01_Same.f k t408 (t387.take 3)).bind fun t415 => (if t415 = true then ((path_Upload.f k (wrap64 (a0)) (wrap64 (a2))).bind fun t416 => ((deedboxref01_Same.f k t416 t390).bind fun t419 => (if t419 = true then ((path_Uploads.f k (wrap64 (a0))).bind fun t420 => (if 3 ≤ (t390.length : Int) then ((deedboxref01_Same.f k t420 (t390.take 3)).bind fun t427 => (if t427 = true then ((path_Part.f k (wrap64 (a0)) (wrap64 (a2)) (wrap64 (a3))).bind fun t428 => ((deedboxref01_Same.f k t428 t393).bind fun t431 => (if t431 = true then ((path_Parts.f k (wrap64 (a0)) (wrap64 (a2))).bind fun t432 => (if 9 ≤ (t393.length : Int) then ((deedboxref01_Same.f k t432 (t393.take 9)).bind fun t439 => (if t439 = true then ((path_Bucket.f k a1).bind fun t440 => ((deedboxref25_Bucket.f a1).bind fun t443 => ((deedboxref01_Same.f k t440 t443).bind fun t446 => (if t446 = true then ((path_Rotate.f k (wrap64 (a0))).bind fun t447 => ((deedboxref25_Rotate.f k (wrap64 (a0))).bind fun t450 => ((deedboxref01_Same.f k t447 t450).bind fun t453 => (if t453 = true then ((deedboxlaw25_works.f k).bind fun t454 => (some t454)) else (some false))))) else (some false))))) else (some false))) else (none))) else (some false)))) else (some false))) else (none))) else (some false)))) else (some false))) else (none))) else (some false))) else (none)) else (none))) else (some false))))))) else ((deedboxlaw25_works.f k).bind fun t386 => (some t386))) = some r := H
  have A5 := Aside0.mk A50
  clear A50
  by_cases c6 : t385 = true
  · subst c6
    have H1 : ((deedboxref25_Version.f k (wrap64 (a0)) a1 (wrap64 (a2))).bind fun t387 => ((deedboxref25_Upload.f k (wrap64 (a0)) (wrap64 (a2))).bind fun t390 => ((deedboxref25_Part.f k (wrap64 (a0)) (wrap64 (a2)) (wrap64 (a3))).bind fun t393 => ((path_Version.f k (wrap64 (a0)) a1 (wrap64 (a2))).bind fun t396 => ((deedboxref01_Same.f k t396 t387).bind fun t399 => (if t399 = true then ((path_Names.f k (wrap64 (a0)) a1).bind fun t400 => (if 0 ≤ (wrap64 ((t387.length : Int) - 6)) then (if (wrap64 ((t387.length : Int) - 6)) ≤ (t387.length : Int) then ((deedboxref01_Same.f k t400 (t387.take ((wrap64 ((t387.length : Int) - 6)) : Int).toNat)).bind fun t407 => (if t407 = true then ((path_Versions.f k (wrap64 (a0))).bind fun t408 => (if 3 ≤ (t387.length : Int) then ((deedboxref01_Same.f k t408 (t387.take 3)).bind fun t415 => (if t415 = true then ((path_Upload.f k (wrap64 (a0)) (wrap64 (a2))).bind fun t416 => ((deedboxref01_Same.f k t416 t390).bind fun t419 => (if t419 = true then ((path_Uploads.f k (wrap64 (a0))).bind fun t420 => (if 3 ≤ (t390.length : Int) then ((deedboxref01_Same.f k t420 (t390.take 3)).bind fun t427 => (if t427 = true then ((path_Part.f k (wrap64 (a0)) (wrap64 (a2)) (wrap64 (a3))).bind fun t428 => ((deedboxref01_Same.f k t428 t393).bind fun t431 => (if t431 = true then ((path_Parts.f k (wrap64 (a0)) (wrap64 (a2))).bind fun t432 => (if 9 ≤ (t393.length : Int) then ((deedboxref01_Same.f k t432 (t393.take 9)).bind fun t439 => (if t439 = true then ((path_Bucket.f k a1).bind fun t440 => ((deedboxref25_Bucket.f a1).bind fun t443 => ((deedboxref01_Same.f k t440 t443).bind fun t446 => (if t446 = true then ((path_Rotate.f k (wrap64 (a0))).bind fun t447 => ((deedboxref25_Rotate.f k (wrap64 (a0))).bind fun t450 => ((deedboxref01_Same.f k t447 t450).bind fun t453 => (if t453 = true then ((deedboxlaw25_works.f k).bind fun t454 => (some t454)) else (some false))))) else (some false))))) else (some false))) else (none))) else (some false)))) else (some false))) else (none))) else (some false)))) else (some false))) else (none))) else (some false))) else (none)) else (none))) else (some false))))))) = some r := by rw [if_pos rfl] at H; exact H
    clear H
    have H := H1
    clear H1
    replace H := Option.bind_eq_some_iff.mp H
    obtain ⟨t387, A70, H⟩ := H
    replace H : ((deedboxref25_Upload.f k (wrap64 (a0)) (wrap64 (a2))).bind fun t390 => ((deedboxref25_Part.f k (wrap64 (a0)) (wrap64 (a2)) (wrap64 (a3))).bind fun t393 => ((path_Version.f k (wrap64 (a0)) a1 (wrap64 (a2))).bind fun t396 => ((deedboxref01_Same.f k t396 t387).bind fun t399 => (if t399 = true then ((path_Names.f k (wrap64 (a0)) a1).bind fun t400 => (if 0 ≤ (wrap64 ((t387.length : Int) - 6)) then (if (wrap64 ((t387.length : Int) - 6)) ≤ (t387.length : Int) then ((deedboxref01_Same.f k t400 (t387.take ((wrap64 ((t387.length : Int) - 6)) : Int).toNat)).bind fun t407 => (if t407 = true then ((path_Versions.f k (wrap64 (a0))).bind fun t408 => (if 3 ≤ (t387.length : Int) then ((deedboxref01_Same.f k t408 (t387.take 3)).bind fun t415 => (if t415 = true then ((path_Upload.f k (wrap64 (a0)) (wrap64 (a2))).bind fun t416 => ((deedboxref01_Same.f k t416 t390).bind fun t419 => (if t419 = true then ((path_Uploads.f k (wrap64 (a0))).bind fun t420 => (if 3 ≤ (t390.length : Int) then ((deedboxref01_Same.f k t420 (t390.take 3)).bind fun t427 => (if t427 = true then ((path_Part.f k (wrap64 (a0)) (wrap64 (a2)) (wrap64 (a3))).bind fun t428 => ((deedboxref01_Same.f k t428 t393).bind fun t431 => (if t431 = true then ((path_Parts.f k (wrap64 (a0)) (wrap64 (a2))).bind fun t432 => (if 9 ≤ (t393.length : Int) then ((deedboxref01_Same.f k t432 (t393.take 9)).bind fun t439 => (if t439 = true then ((path_Bucket.f k a1).bind fun t440 => ((deedboxref25_Bucket.f a1).bind fun t443 => ((deedboxref01_Same.f k t440 t443).bind fun t446 => (if t446 = true then ((path_Rotate.f k (wrap64 (a0))).bind fun t447 => ((deedboxref25_Rotate.f k (wrap64 (a0))).bind fun t450 => ((deedboxref01_Same.f k t447 t450).bind fun t453 => (if t453 = true then ((deedboxlaw25_works.f k).bind fun t454 => (some t454)) else (some false))))) else (some false))))) else (some false))) else (none))) else (some false)))) else (some false))) else (none))) else (some false)))) else (some false))) else (none))) else (some false))) else (none)) else (none))) else (some false)))))) = some r := H
    have A7 := Aside0.mk A70
    clear A70
    replace H := Option.bind_eq_some_iff.mp H
    obtain ⟨t390, A80, H⟩ := H
    replace H : ((deedboxref25_Part.f k (wrap64 (a0)) (wrap64 (a2)) (wrap64 (a3))).bind fun t393 => ((path_Version.f k (wrap64 (a0)) a1 (wrap64 (a2))).bind fun t396 => ((deedboxref01_Same.f k t396 t387).bind fun t399 => (if t399 = true then ((path_Names.f k (wrap64 (a0)) a1).bind fun t400 => (if 0 ≤ (wrap64 ((t387.length : Int) - 6)) then (if (wrap64 ((t387.length : Int) - 6)) ≤ (t387.length : Int) then ((deedboxref01_Same.f k t400 (t387.take ((wrap64 ((t387.length : Int) - 6)) : Int).toNat)).bind fun t407 => (if t407 = true then ((path_Versions.f k (wrap64 (a0))).bind fun t408 => (if 3 ≤ (t387.length : Int) then ((deedboxref01_Same.f k t408 (t387.take 3)).bind fun t415 => (if t415 = true then ((path_Upload.f k (wrap64 (a0)) (wrap64 (a2))).bind fun t416 => ((deedboxref01_Same.f k t416 t390).bind fun t419 => (if t419 = true then ((path_Uploads.f k (wrap64 (a0))).bind fun t420 => (if 3 ≤ (t390.length : Int) then ((deedboxref01_Same.f k t420 (t390.take 3)).bind fun t427 => (if t427 = true then ((path_Part.f k (wrap64 (a0)) (wrap64 (a2)) (wrap64 (a3))).bind fun t428 => ((deedboxref01_Same.f k t428 t393).bind fun t431 => (if t431 = true then ((path_Parts.f k (wrap64 (a0)) (wrap64 (a2))).bind fun t432 => (if 9 ≤ (t393.length : Int) then ((deedboxref01_Same.f k t432 (t393.take 9)).bind fun t439 => (if t439 = true then ((path_Bucket.f k a1).bind fun t440 => ((deedboxref25_Bucket.f a1).bind fun t443 => ((deedboxref01_Same.f k t440 t443).bind fun t446 => (if t446 = true then ((path_Rotate.f k (wrap64 (a0))).bind fun t447 => ((deedboxref25_Rotate.f k (wrap64 (a0))).bind fun t450 => ((deedboxref01_Same.f k t447 t450).bind fun t453 => (if t453 = true then ((deedboxlaw25_works.f k).bind fun t454 => (some t454)) else (some false))))) else (some false))))) else (some false))) else (none))) else (some false)))) else (some false))) else (none))) else (some false)))) else (some false))) else (none))) else (some false))) else (none)) else (none))) else (some false))))) = some r := H
    have A8 := Aside0.mk A80
    clear A80
    replace H := Option.bind_eq_some_iff.mp H
    obtain ⟨t393, A90, H⟩ := H
    replace H : ((path_Version.f k (wrap64 (a0)) a1 (wrap64 (a2))).bind fun t396 => ((deedboxref01_Same.f k t396 t387).bind fun t399 => (if t399 = true then ((path_Names.f k (wrap64 (a0)) a1).bind fun t400 => (if 0 ≤ (wrap64 ((t387.length : Int) - 6)) then (if (wrap64 ((t387.length : Int) - 6)) ≤ (t387.length : Int) then ((deedboxref01_Same.f k t400 (t387.take ((wrap64 ((t387.length : Int) - 6)) : Int).toNat)).bind fun t407 => (if t407 = true then ((path_Versions.f k (wrap64 (a0))).bind fun t408 => (if 3 ≤ (t387.length : Int) then ((deedboxref01_Same.f k t408 (t387.take 3)).bind fun t415 => (if t415 = true then ((path_Upload.f k (wrap64 (a0)) (wrap64 (a2))).bind fun t416 => ((deedboxref01_Same.f k t416 t390).bind fun t419 => (if t419 = true then ((path_Uploads.f k (wrap64 (a0))).bind fun t420 => (if 3 ≤ (t390.length : Int) then ((deedboxref01_Same.f k t420 (t390.take 3)).bind fun t427 => (if t427 = true then ((path_Part.f k (wrap64 (a0)) (wrap64 (a2)) (wrap64 (a3))).bind fun t428 => ((deedboxref01_Same.f k t428 t393).bind fun t431 => (if t431 = true then ((path_Parts.f k (wrap64 (a0)) (wrap64 (a2))).bind fun t432 => (if 9 ≤ (t393.length : Int) then ((deedboxref01_Same.f k t432 (t393.take 9)).bind fun t439 => (if t439 = true then ((path_Bucket.f k a1).bind fun t440 => ((deedboxref25_Bucket.f a1).bind fun t443 => ((deedboxref01_Same.f k t440 t443).bind fun t446 => (if t446 = true then ((path_Rotate.f k (wrap64 (a0))).bind fun t447 => ((deedboxref25_Rotate.f k (wrap64 (a0))).bind fun t450 => ((deedboxref01_Same.f k t447 t450).bind fun t453 => (if t453 = true then ((deedboxlaw25_works.f k).bind fun t454 => (some t454)) else (some false))))) else (some false))))) else (some false))) else (none))) else (some false)))) else (some false))) else (none))) else (some false)))) else (some false))) else (none))) else (some false))) else (none)) else (none))) else (some false)))) = some r := H
    have A9 := Aside0.mk A90
    clear A90
    replace H := Option.bind_eq_some_iff.mp H
    obtain ⟨t396, A100, H⟩ := H
    replace H : ((deedboxref01_Same.f k t396 t387).bind fun t399 => (if t399 = true then ((path_Names.f k (wrap64 (a0)) a1).bind fun t400 => (if 0 ≤ (wrap64 ((t387.length : Int) - 6)) then (if (wrap64 ((t387.length : Int) - 6)) ≤ (t387.length : Int) then ((deedboxref01_Same.f k t400 (t387.take ((wrap64 ((t387.length : Int) - 6)) : Int).toNat)).bind fun t407 => (if t407 = true then ((path_Versions.f k (wrap64 (a0))).bind fun t408 => (if 3 ≤ (t387.length : Int) then ((deedboxref01_Same.f k t408 (t387.take 3)).bind fun t415 => (if t415 = true then ((path_Upload.f k (wrap64 (a0)) (wrap64 (a2))).bind fun t416 => ((deedboxref01_Same.f k t416 t390).bind fun t419 => (if t419 = true then ((path_Uploads.f k (wrap64 (a0))).bind fun t420 => (if 3 ≤ (t390.length : Int) then ((deedboxref01_Same.f k t420 (t390.take 3)).bind fun t427 => (if t427 = true then ((path_Part.f k (wrap64 (a0)) (wrap64 (a2)) (wrap64 (a3))).bind fun t428 => ((deedboxref01_Same.f k t428 t393).bind fun t431 => (if t431 = true then ((path_Parts.f k (wrap64 (a0)) (wrap64 (a2))).bind fun t432 => (if 9 ≤ (t393.length : Int) then ((deedboxref01_Same.f k t432 (t393.take 9)).bind fun t439 => (if t439 = true then ((path_Bucket.f k a1).bind fun t440 => ((deedboxref25_Bucket.f a1).bind fun t443 => ((deedboxref01_Same.f k t440 t443).bind fun t446 => (if t446 = true then ((path_Rotate.f k (wrap64 (a0))).bind fun t447 => ((deedboxref25_Rotate.f k (wrap64 (a0))).bind fun t450 => ((deedboxref01_Same.f k t447 t450).bind fun t453 => (if t453 = true then ((deedboxlaw25_works.f k).bind fun t454 => (some t454)) else (some false))))) else (some false))))) else (some false))) else (none))) else (some false)))) else (some false))) else (none))) else (some false)))) else (some false))) else (none))) else (some false))) else (none)) else (none))) else (some false))) = some r := H
    have A10 := Aside0.mk A100
    clear A100
    replace H := Option.bind_eq_some_iff.mp H
    obtain ⟨t399, A110, H⟩ := H
    replace H : (if t399 = true then ((path_Names.f k (wrap64 (a0)) a1).bind fun t400 => (if 0 ≤ (wrap64 ((t387.length : Int) - 6)) then (if (wrap64 ((t387.length : Int) - 6)) ≤ (t387.length : Int) then ((deedboxref01_Same.f k t400 (t387.take ((wrap64 ((t387.length : Int) - 6)) : Int).toNat)).bind fun t407 => (if t407 = true then ((path_Versions.f k (wrap64 (a0))).bind fun t408 => (if 3 ≤ (t387.length : Int) then ((deedboxref01_Same.f k t408 (t387.take 3)).bind fun t415 => (if t415 = true then ((path_Upload.f k (wrap64 (a0)) (wrap64 (a2))).bind fun t416 => ((deedboxref01_Same.f k t416 t390).bind fun t419 => (if t419 = true then ((path_Uploads.f k (wrap64 (a0))).bind fun t420 => (if 3 ≤ (t390.length : Int) then ((deedboxref01_Same.f k t420 (t390.take 3)).bind fun t427 => (if t427 = true then ((path_Part.f k (wrap64 (a0)) (wrap64 (a2)) (wrap64 (a3))).bind fun t428 => ((deedboxref01_Same.f k t428 t393).bind fun t431 => (if t431 = true then ((path_Parts.f k (wrap64 (a0)) (wrap64 (a2))).bind fun t432 => (if 9 ≤ (t393.length : Int) then ((deedboxref01_Same.f k t432 (t393.take 9)).bind fun t439 => (if t439 = true then ((path_Bucket.f k a1).bind fun t440 => ((deedboxref25_Bucket.f a1).bind fun t443 => ((deedboxref01_Same.f k t440 t443).bind fun t446 => (if t446 = true then ((path_Rotate.f k (wrap64 (a0))).bind fun t447 => ((deedboxref25_Rotate.f k (wrap64 (a0))).bind fun t450 => ((deedboxref01_Same.f k t447 t450).bind fun t453 => (if t453 = true then ((deedboxlaw25_works.f k).bind fun t454 => (some t454)) else (some false))))) else (some false))))) else (some false))) else (none))) else (some false)))) else (some false))) else (none))) else (some false)))) else (some false))) else (none))) else (some false))) else (none)) else (none))) else (some false)) = some r := H
    have A11 := Aside0.mk A110
    clear A110
    by_cases c12 : t399 = true
    · subst c12
      have H1 : ((path_Names.f k (wrap64 (a0)) a1).bind fun t400 => (if 0 ≤ (wrap64 ((t387.length : Int) - 6)) then (if (wrap64 ((t387.length : Int) - 6)) ≤ (t387.length : Int) then ((deedboxref01_Same.f k t400 (t387.take ((wrap64 ((t387.length : Int) - 6)) : Int).toNat)).bind fun t407 => (if t407 = true then ((path_Versions.f k (wrap64 (a0))).bind fun t408 => (if 3 ≤ (t387.length : Int) then ((deedboxref01_Same.f k t408 (t387.take 3)).bind fun t415 => (if t415 = true then ((path_Upload.f k (wrap64 (a0)) (wrap64 (a2))).bind fun t416 => ((deedboxref01_Same.f k t416 t390).bind fun t419 => (if t419 = true then ((path_Uploads.f k (wrap64 (a0))).bind fun t420 => (if 3 ≤ (t390.length : Int) then ((deedboxref01_Same.f k t420 (t390.take 3)).bind fun t427 => (if t427 = true then ((path_Part.f k (wrap64 (a0)) (wrap64 (a2)) (wrap64 (a3))).bind fun t428 => ((deedboxref01_Same.f k t428 t393).bind fun t431 => (if t431 = true then ((path_Parts.f k (wrap64 (a0)) (wrap64 (a2))).bind fun t432 => (if 9 ≤ (t393.length : Int) then ((deedboxref01_Same.f k t432 (t393.take 9)).bind fun t439 => (if t439 = true then ((path_Bucket.f k a1).bind fun t440 => ((deedboxref25_Bucket.f a1).bind fun t443 => ((deedboxref01_Same.f k t440 t443).bind fun t446 => (if t446 = true then ((path_Rotate.f k (wrap64 (a0))).bind fun t447 => ((deedboxref25_Rotate.f k (wrap64 (a0))).bind fun t450 => ((deedboxref01_Same.f k t447 t450).bind fun t453 => (if t453 = true then ((deedboxlaw25_works.f k).bind fun t454 => (some t454)) else (some false))))) else (some false))))) else (some false))) else (none))) else (some false)))) else (some false))) else (none))) else (some false)))) else (some false))) else (none))) else (some false))) else (none)) else (none))) = some r := by rw [if_pos rfl] at H; exact H
      clear H
      have H := H1
      clear H1
      replace H := Option.bind_eq_some_iff.mp H
      obtain ⟨t400, A130, H⟩ := H
      replace H : (if 0 ≤ (wrap64 ((t387.length : Int) - 6)) then (if (wrap64 ((t387.length : Int) - 6)) ≤ (t387.length : Int) then ((deedboxref01_Same.f k t400 (t387.take ((wrap64 ((t387.length : Int) - 6)) : Int).toNat)).bind fun t407 => (if t407 = true then ((path_Versions.f k (wrap64 (a0))).bind fun t408 => (if 3 ≤ (t387.length : Int) then ((deedboxref01_Same.f k t408 (t387.take 3)).bind fun t415 => (if t415 = true then ((path_Upload.f k (wrap64 (a0)) (wrap64 (a2))).bind fun t416 => ((deedboxref01_Same.f k t416 t390).bind fun t419 => (if t419 = true then ((path_Uploads.f k (wrap64 (a0))).bind fun t420 => (if 3 ≤ (t390.length : Int) then ((deedboxref01_Same.f k t420 (t390.take 3)).bind fun t427 => (if t427 = true then ((path_Part.f k (wrap64 (a0)) (wrap64 (a2)) (wrap64 (a3))).bind fun t428 => ((deedboxref01_Same.f k t428 t393).bind fun t431 => (if t431 = true then ((path_Parts.f k (wrap64 (a0)) (wrap64 (a2))).bind fun t432 => (if 9 ≤ (t393.length : Int) then ((deedboxref01_Same.f k t432 (t393.take 9)).bind fun t439 => (if t439 = true then ((path_Bucket.f k a1).bind fun t440 => ((deedboxref25_Bucket.f a1).bind fun t443 => ((deedboxref01_Same.f k t440 t443).bind fun t446 => (if t446 = true then ((path_Rotate.f k (wrap64 (a0))).bind fun t447 => ((deedboxref25_Rotate.f k (wrap64 (a0))).bind fun t450 => ((deedboxref01_Same.f k t447 t450).bind fun t453 => (if t453 = true then ((deedboxlaw25_works.f k).bind fun t454 => (some t454)) else (some false))))) else (some false))))) else (some false))) else (none))) else (some false)))) else (some false))) else (none))) else (some false)))) else (some false))) else (none))) else (some false))) else (none)) else (none)) = some r := H
      have A13 := Aside0.mk A130
      clear A130
      obtain ⟨ji14, hji14⟩ : ∃ j_ : Int, (wrap64 ((t387.length : Int) - 6)) = j_ := ⟨_, rfl⟩
      replace H : (if 0 ≤ (ji14) then (if (ji14) ≤ (t387.length : Int) then ((deedboxref01_Same.f k t400 (t387.take ((ji14) : Int).toNat)).bind fun t407 => (if t407 = true then ((path_Versions.f k (wrap64 (a0))).bind fun t408 => (if 3 ≤ (t387.length : Int) then ((deedboxref01_Same.f k t408 (t387.take 3)).bind fun t415 => (if t415 = true then ((path_Upload.f k (wrap64 (a0)) (wrap64 (a2))).bind fun t416 => ((deedboxref01_Same.f k t416 t390).bind fun t419 => (if t419 = true then ((path_Uploads.f k (wrap64 (a0))).bind fun t420 => (if 3 ≤ (t390.length : Int) then ((deedboxref01_Same.f k t420 (t390.take 3)).bind fun t427 => (if t427 = true then ((path_Part.f k (wrap64 (a0)) (wrap64 (a2)) (wrap64 (a3))).bind fun t428 => ((deedboxref01_Same.f k t428 t393).bind fun t431 => (if t431 = true then ((path_Parts.f k (wrap64 (a0)) (wrap64 (a2))).bind fun t432 => (if 9 ≤ (t393.length : Int) then ((deedboxref01_Same.f k t432 (t393.take 9)).bind fun t439 => (if t439 = true then ((path_Bucket.f k a1).bind fun t440 => ((deedboxref25_Bucket.f a1).bind fun t443 => ((deedboxref01_Same.f k t440 t443).bind fun t446 => (if t446 = true then ((path_Rotate.f k (wrap64 (a0))).bind fun t447 => ((deedboxref25_Rotate.f k (wrap64 (a0))).bind fun t450 => ((deedboxref01_Same.f k t447 t450).bind fun t453 => (if t453 = true then ((deedboxlaw25_works.f k).bind fun t454 => (some t454)) else (some false))))) else (some false))))) else (some false))) else (none))) else (some false)))) else (some false))) else (none))) else (some false)))) else (some false))) else (none))) else (some false))) else (none)) else (none)) = some r := by first | (rw [hji14] at H; exact H) | (simp only [hji14] at H ⊢; exact H)
      (try rw [hji14] at A5)
      (try rw [hji14] at A7)
      (try rw [hji14] at A8)
      (try rw [hji14] at A9)
      (try rw [hji14] at A10)
      (try rw [hji14] at A11)
      (try rw [hji14] at A13)
      have hji14w : (IntKind.i64.wrap ((t387.length : Int) - 6)) = ji14 := (i64_w _).trans hji14
      by_cases c15 : 0 ≤ (ji14)
      · rw [if_pos c15] at H
        have c15b0 := eq_true c15
        have c15b1 : decide (0 ≤ (ji14)) = true := decide_eq_true c15
        clear c15
        by_cases c16 : (ji14) ≤ (t387.length : Int)
        · rw [if_pos c16] at H
          have c16b0 := eq_true c16
          have c16b1 : decide ((ji14) ≤ (t387.length : Int)) = true := decide_eq_true c16
          clear c16
          obtain ⟨y403, hy403⟩ : ∃ y_ : List Int, y_ = (t387.take ((ji14) : Int).toNat) := ⟨_, rfl⟩
          replace H : ((deedboxref01_Same.f k t400 y403).bind fun t407 => (if t407 = true then ((path_Versions.f k (wrap64 (a0))).bind fun t408 => (if 3 ≤ (t387.length : Int) then ((deedboxref01_Same.f k t408 (t387.take 3)).bind fun t415 => (if t415 = true then ((path_Upload.f k (wrap64 (a0)) (wrap64 (a2))).bind fun t416 => ((deedboxref01_Same.f k t416 t390).bind fun t419 => (if t419 = true then ((path_Uploads.f k (wrap64 (a0))).bind fun t420 => (if 3 ≤ (t390.length : Int) then ((deedboxref01_Same.f k t420 (t390.take 3)).bind fun t427 => (if t427 = true then ((path_Part.f k (wrap64 (a0)) (wrap64 (a2)) (wrap64 (a3))).bind fun t428 => ((deedboxref01_Same.f k t428 t393).bind fun t431 => (if t431 = true then ((path_Parts.f k (wrap64 (a0)) (wrap64 (a2))).bind fun t432 => (if 9 ≤ (t393.length : Int) then ((deedboxref01_Same.f k t432 (t393.take 9)).bind fun t439 => (if t439 = true then ((path_Bucket.f k a1).bind fun t440 => ((deedboxref25_Bucket.f a1).bind fun t443 => ((deedboxref01_Same.f k t440 t443).bind fun t446 => (if t446 = true then ((path_Rotate.f k (wrap64 (a0))).bind fun t447 => ((deedboxref25_Rotate.f k (wrap64 (a0))).bind fun t450 => ((deedboxref01_Same.f k t447 t450).bind fun t453 => (if t453 = true then ((deedboxlaw25_works.f k).bind fun t454 => (some t454)) else (some false))))) else (some false))))) else (some false))) else (none))) else (some false)))) else (some false))) else (none))) else (some false)))) else (some false))) else (none))) else (some false))) = some r := by first | (rw [hy403]; with_reducible exact H) | (have H2_ := (Option.bind_some _ _).symm.trans H; rw [hy403]; with_reducible exact H2_) | (have H2_ := (Option.bind_some _ _).symm.trans H; with_reducible exact H2_) | with_reducible exact H | (rw [hy403]; exact H) | exact H
          have Ny403 := Aside0.mk hy403
          clear hy403
          replace H := Option.bind_eq_some_iff.mp H
          obtain ⟨t407, A170, H⟩ := H
          replace H : (if t407 = true then ((path_Versions.f k (wrap64 (a0))).bind fun t408 => (if 3 ≤ (t387.length : Int) then ((deedboxref01_Same.f k t408 (t387.take 3)).bind fun t415 => (if t415 = true then ((path_Upload.f k (wrap64 (a0)) (wrap64 (a2))).bind fun t416 => ((deedboxref01_Same.f k t416 t390).bind fun t419 => (if t419 = true then ((path_Uploads.f k (wrap64 (a0))).bind fun t420 => (if 3 ≤ (t390.length : Int) then ((deedboxref01_Same.f k t420 (t390.take 3)).bind fun t427 => (if t427 = true then ((path_Part.f k (wrap64 (a0)) (wrap64 (a2)) (wrap64 (a3))).bind fun t428 => ((deedboxref01_Same.f k t428 t393).bind fun t431 => (if t431 = true then ((path_Parts.f k (wrap64 (a0)) (wrap64 (a2))).bind fun t432 => (if 9 ≤ (t393.length : Int) then ((deedboxref01_Same.f k t432 (t393.take 9)).bind fun t439 => (if t439 = true then ((path_Bucket.f k a1).bind fun t440 => ((deedboxref25_Bucket.f a1).bind fun t443 => ((deedboxref01_Same.f k t440 t443).bind fun t446 => (if t446 = true then ((path_Rotate.f k (wrap64 (a0))).bind fun t447 => ((deedboxref25_Rotate.f k (wrap64 (a0))).bind fun t450 => ((deedboxref01_Same.f k t447 t450).bind fun t453 => (if t453 = true then ((deedboxlaw25_works.f k).bind fun t454 => (some t454)) else (some false))))) else (some false))))) else (some false))) else (none))) else (some false)))) else (some false))) else (none))) else (some false)))) else (some false))) else (none))) else (some false)) = some r := H
          have A17 := Aside0.mk A170
          clear A170
          by_cases c18 : t407 = true
          · subst c18
            have H1 : ((path_Versions.f k (wrap64 (a0))).bind fun t408 => (if 3 ≤ (t387.length : Int) then ((deedboxref01_Same.f k t408 (t387.take 3)).bind fun t415 => (if t415 = true then ((path_Upload.f k (wrap64 (a0)) (wrap64 (a2))).bind fun t416 => ((deedboxref01_Same.f k t416 t390).bind fun t419 => (if t419 = true then ((path_Uploads.f k (wrap64 (a0))).bind fun t420 => (if 3 ≤ (t390.length : Int) then ((deedboxref01_Same.f k t420 (t390.take 3)).bind fun t427 => (if t427 = true then ((path_Part.f k (wrap64 (a0)) (wrap64 (a2)) (wrap64 (a3))).bind fun t428 => ((deedboxref01_Same.f k t428 t393).bind fun t431 => (if t431 = true then ((path_Parts.f k (wrap64 (a0)) (wrap64 (a2))).bind fun t432 => (if 9 ≤ (t393.length : Int) then ((deedboxref01_Same.f k t432 (t393.take 9)).bind fun t439 => (if t439 = true then ((path_Bucket.f k a1).bind fun t440 => ((deedboxref25_Bucket.f a1).bind fun t443 => ((deedboxref01_Same.f k t440 t443).bind fun t446 => (if t446 = true then ((path_Rotate.f k (wrap64 (a0))).bind fun t447 => ((deedboxref25_Rotate.f k (wrap64 (a0))).bind fun t450 => ((deedboxref01_Same.f k t447 t450).bind fun t453 => (if t453 = true then ((deedboxlaw25_works.f k).bind fun t454 => (some t454)) else (some false))))) else (some false))))) else (some false))) else (none))) else (some false)))) else (some false))) else (none))) else (some false)))) else (some false))) else (none))) = some r := by rw [if_pos rfl] at H; exact H
            clear H
            have H := H1
            clear H1
            replace H := Option.bind_eq_some_iff.mp H
            obtain ⟨t408, A190, H⟩ := H
            replace H : (if 3 ≤ (t387.length : Int) then ((deedboxref01_Same.f k t408 (t387.take 3)).bind fun t415 => (if t415 = true then ((path_Upload.f k (wrap64 (a0)) (wrap64 (a2))).bind fun t416 => ((deedboxref01_Same.f k t416 t390).bind fun t419 => (if t419 = true then ((path_Uploads.f k (wrap64 (a0))).bind fun t420 => (if 3 ≤ (t390.length : Int) then ((deedboxref01_Same.f k t420 (t390.take 3)).bind fun t427 => (if t427 = true then ((path_Part.f k (wrap64 (a0)) (wrap64 (a2)) (wrap64 (a3))).bind fun t428 => ((deedboxref01_Same.f k t428 t393).bind fun t431 => (if t431 = true then ((path_Parts.f k (wrap64 (a0)) (wrap64 (a2))).bind fun t432 => (if 9 ≤ (t393.length : Int) then ((deedboxref01_Same.f k t432 (t393.take 9)).bind fun t439 => (if t439 = true then ((path_Bucket.f k a1).bind fun t440 => ((deedboxref25_Bucket.f a1).bind fun t443 => ((deedboxref01_Same.f k t440 t443).bind fun t446 => (if t446 = true then ((path_Rotate.f k (wrap64 (a0))).bind fun t447 => ((deedboxref25_Rotate.f k (wrap64 (a0))).bind fun t450 => ((deedboxref01_Same.f k t447 t450).bind fun t453 => (if t453 = true then ((deedboxlaw25_works.f k).bind fun t454 => (some t454)) else (some false))))) else (some false))))) else (some false))) else (none))) else (some false)))) else (some false))) else (none))) else (some false)))) else (some false))) else (none)) = some r := H
            have A19 := Aside0.mk A190
            clear A190
            by_cases c20 : 3 ≤ (t387.length : Int)
            · rw [if_pos c20] at H
              have c20b0 := eq_true c20
              have c20b1 : decide (3 ≤ (t387.length : Int)) = true := decide_eq_true c20
              clear c20
              obtain ⟨y411, hy411⟩ : ∃ y_ : List Int, y_ = (t387.take 3) := ⟨_, rfl⟩
              replace H : ((deedboxref01_Same.f k t408 y411).bind fun t415 => (if t415 = true then ((path_Upload.f k (wrap64 (a0)) (wrap64 (a2))).bind fun t416 => ((deedboxref01_Same.f k t416 t390).bind fun t419 => (if t419 = true then ((path_Uploads.f k (wrap64 (a0))).bind fun t420 => (if 3 ≤ (t390.length : Int) then ((deedboxref01_Same.f k t420 (t390.take 3)).bind fun t427 => (if t427 = true then ((path_Part.f k (wrap64 (a0)) (wrap64 (a2)) (wrap64 (a3))).bind fun t428 => ((deedboxref01_Same.f k t428 t393).bind fun t431 => (if t431 = true then ((path_Parts.f k (wrap64 (a0)) (wrap64 (a2))).bind fun t432 => (if 9 ≤ (t393.length : Int) then ((deedboxref01_Same.f k t432 (t393.take 9)).bind fun t439 => (if t439 = true then ((path_Bucket.f k a1).bind fun t440 => ((deedboxref25_Bucket.f a1).bind fun t443 => ((deedboxref01_Same.f k t440 t443).bind fun t446 => (if t446 = true then ((path_Rotate.f k (wrap64 (a0))).bind fun t447 => ((deedboxref25_Rotate.f k (wrap64 (a0))).bind fun t450 => ((deedboxref01_Same.f k t447 t450).bind fun t453 => (if t453 = true then ((deedboxlaw25_works.f k).bind fun t454 => (some t454)) else (some false))))) else (some false))))) else (some false))) else (none))) else (some false)))) else (some false))) else (none))) else (some false)))) else (some false))) = some r := by first | (rw [hy411]; with_reducible exact H) | (have H2_ := (Option.bind_some _ _).symm.trans H; rw [hy411]; with_reducible exact H2_) | (have H2_ := (Option.bind_some _ _).symm.trans H; with_reducible exact H2_) | with_reducible exact H | (rw [hy411]; exact H) | exact H
              have Ny411 := Aside0.mk hy411
              clear hy411
              replace H := Option.bind_eq_some_iff.mp H
              obtain ⟨t415, A210, H⟩ := H
              replace H : (if t415 = true then ((path_Upload.f k (wrap64 (a0)) (wrap64 (a2))).bind fun t416 => ((deedboxref01_Same.f k t416 t390).bind fun t419 => (if t419 = true then ((path_Uploads.f k (wrap64 (a0))).bind fun t420 => (if 3 ≤ (t390.length : Int) then ((deedboxref01_Same.f k t420 (t390.take 3)).bind fun t427 => (if t427 = true then ((path_Part.f k (wrap64 (a0)) (wrap64 (a2)) (wrap64 (a3))).bind fun t428 => ((deedboxref01_Same.f k t428 t393).bind fun t431 => (if t431 = true then ((path_Parts.f k (wrap64 (a0)) (wrap64 (a2))).bind fun t432 => (if 9 ≤ (t393.length : Int) then ((deedboxref01_Same.f k t432 (t393.take 9)).bind fun t439 => (if t439 = true then ((path_Bucket.f k a1).bind fun t440 => ((deedboxref25_Bucket.f a1).bind fun t443 => ((deedboxref01_Same.f k t440 t443).bind fun t446 => (if t446 = true then ((path_Rotate.f k (wrap64 (a0))).bind fun t447 => ((deedboxref25_Rotate.f k (wrap64 (a0))).bind fun t450 => ((deedboxref01_Same.f k t447 t450).bind fun t453 => (if t453 = true then ((deedboxlaw25_works.f k).bind fun t454 => (some t454)) else (some false))))) else (some false))))) else (some false))) else (none))) else (some false)))) else (some false))) else (none))) else (some false)))) else (some false)) = some r := H
              have A21 := Aside0.mk A210
              clear A210
              by_cases c22 : t415 = true
              · subst c22
                have H1 : ((path_Upload.f k (wrap64 (a0)) (wrap64 (a2))).bind fun t416 => ((deedboxref01_Same.f k t416 t390).bind fun t419 => (if t419 = true then ((path_Uploads.f k (wrap64 (a0))).bind fun t420 => (if 3 ≤ (t390.length : Int) then ((deedboxref01_Same.f k t420 (t390.take 3)).bind fun t427 => (if t427 = true then ((path_Part.f k (wrap64 (a0)) (wrap64 (a2)) (wrap64 (a3))).bind fun t428 => ((deedboxref01_Same.f k t428 t393).bind fun t431 => (if t431 = true then ((path_Parts.f k (wrap64 (a0)) (wrap64 (a2))).bind fun t432 => (if 9 ≤ (t393.length : Int) then ((deedboxref01_Same.f k t432 (t393.take 9)).bind fun t439 => (if t439 = true then ((path_Bucket.f k a1).bind fun t440 => ((deedboxref25_Bucket.f a1).bind fun t443 => ((deedboxref01_Same.f k t440 t443).bind fun t446 => (if t446 = true then ((path_Rotate.f k (wrap64 (a0))).bind fun t447 => ((deedboxref25_Rotate.f k (wrap64 (a0))).bind fun t450 => ((deedboxref01_Same.f k t447 t450).bind fun t453 => (if t453 = true then ((deedboxlaw25_works.f k).bind fun t454 => (some t454)) else (some false))))) else (some false))))) else (some false))) else (none))) else (some false)))) else (some false))) else (none))) else (some false)))) = some r := by rw [if_pos rfl] at H; exact H
                clear H
                have H := H1
                clear H1
                replace H := Option.bind_eq_some_iff.mp H
                obtain ⟨t416, A230, H⟩ := H
                replace H : ((deedboxref01_Same.f k t416 t390).bind fun t419 => (if t419 = true then ((path_Uploads.f k (wrap64 (a0))).bind fun t420 => (if 3 ≤ (t390.length : Int) then ((deedboxref01_Same.f k t420 (t390.take 3)).bind fun t427 => (if t427 = true then ((path_Part.f k (wrap64 (a0)) (wrap64 (a2)) (wrap64 (a3))).bind fun t428 => ((deedboxref01_Same.f k t428 t393).bind fun t431 => (if t431 = true then ((path_Parts.f k (wrap64 (a0)) (wrap64 (a2))).bind fun t432 => (if 9 ≤ (t393.length : Int) then ((deedboxref01_Same.f k t432 (t393.take 9)).bind fun t439 => (if t439 = true then ((path_Bucket.f k a1).bind fun t440 => ((deedboxref25_Bucket.f a1).bind fun t443 => ((deedboxref01_Same.f k t440 t443).bind fun t446 => (if t446 = true then ((path_Rotate.f k (wrap64 (a0))).bind fun t447 => ((deedboxref25_Rotate.f k (wrap64 (a0))).bind fun t450 => ((deedboxref01_Same.f k t447 t450).bind fun t453 => (if t453 = true then ((deedboxlaw25_works.f k).bind fun t454 => (some t454)) else (some false))))) else (some false))))) else (some false))) else (none))) else (some false)))) else (some false))) else (none))) else (some false))) = some r := H
                have A23 := Aside0.mk A230
                clear A230
                replace H := Option.bind_eq_some_iff.mp H
                obtain ⟨t419, A240, H⟩ := H
                replace H : (if t419 = true then ((path_Uploads.f k (wrap64 (a0))).bind fun t420 => (if 3 ≤ (t390.length : Int) then ((deedboxref01_Same.f k t420 (t390.take 3)).bind fun t427 => (if t427 = true then ((path_Part.f k (wrap64 (a0)) (wrap64 (a2)) (wrap64 (a3))).bind fun t428 => ((deedboxref01_Same.f k t428 t393).bind fun t431 => (if t431 = true then ((path_Parts.f k (wrap64 (a0)) (wrap64 (a2))).bind fun t432 => (if 9 ≤ (t393.length : Int) then ((deedboxref01_Same.f k t432 (t393.take 9)).bind fun t439 => (if t439 = true then ((path_Bucket.f k a1).bind fun t440 => ((deedboxref25_Bucket.f a1).bind fun t443 => ((deedboxref01_Same.f k t440 t443).bind fun t446 => (if t446 = true then ((path_Rotate.f k (wrap64 (a0))).bind fun t447 => ((deedboxref25_Rotate.f k (wrap64 (a0))).bind fun t450 => ((deedboxref01_Same.f k t447 t450).bind fun t453 => (if t453 = true then ((deedboxlaw25_works.f k).bind fun t454 => (some t454)) else (some false))))) else (some false))))) else (some false))) else (none))) else (some false)))) else (some false))) else (none))) else (some false)) = some r := H
                have A24 := Aside0.mk A240
                clear A240
                by_cases c25 : t419 = true
                · subst c25
                  have H1 : ((path_Uploads.f k (wrap64 (a0))).bind fun t420 => (if 3 ≤ (t390.length : Int) then ((deedboxref01_Same.f k t420 (t390.take 3)).bind fun t427 => (if t427 = true then ((path_Part.f k (wrap64 (a0)) (wrap64 (a2)) (wrap64 (a3))).bind fun t428 => ((deedboxref01_Same.f k t428 t393).bind fun t431 => (if t431 = true then ((path_Parts.f k (wrap64 (a0)) (wrap64 (a2))).bind fun t432 => (if 9 ≤ (t393.length : Int) then ((deedboxref01_Same.f k t432 (t393.take 9)).bind fun t439 => (if t439 = true then ((path_Bucket.f k a1).bind fun t440 => ((deedboxref25_Bucket.f a1).bind fun t443 => ((deedboxref01_Same.f k t440 t443).bind fun t446 => (if t446 = true then ((path_Rotate.f k (wrap64 (a0))).bind fun t447 => ((deedboxref25_Rotate.f k (wrap64 (a0))).bind fun t450 => ((deedboxref01_Same.f k t447 t450).bind fun t453 => (if t453 = true then ((deedboxlaw25_works.f k).bind fun t454 => (some t454)) else (some false))))) else (some false))))) else (some false))) else (none))) else (some false)))) else (some false))) else (none))) = some r := by rw [if_pos rfl] at H; exact H
                  clear H
                  have H := H1
                  clear H1
                  replace H := Option.bind_eq_some_iff.mp H
                  obtain ⟨t420, A260, H⟩ := H
                  replace H : (if 3 ≤ (t390.length : Int) then ((deedboxref01_Same.f k t420 (t390.take 3)).bind fun t427 => (if t427 = true then ((path_Part.f k (wrap64 (a0)) (wrap64 (a2)) (wrap64 (a3))).bind fun t428 => ((deedboxref01_Same.f k t428 t393).bind fun t431 => (if t431 = true then ((path_Parts.f k (wrap64 (a0)) (wrap64 (a2))).bind fun t432 => (if 9 ≤ (t393.length : Int) then ((deedboxref01_Same.f k t432 (t393.take 9)).bind fun t439 => (if t439 = true then ((path_Bucket.f k a1).bind fun t440 => ((deedboxref25_Bucket.f a1).bind fun t443 => ((deedboxref01_Same.f k t440 t443).bind fun t446 => (if t446 = true then ((path_Rotate.f k (wrap64 (a0))).bind fun t447 => ((deedboxref25_Rotate.f k (wrap64 (a0))).bind fun t450 => ((deedboxref01_Same.f k t447 t450).bind fun t453 => (if t453 = true then ((deedboxlaw25_works.f k).bind fun t454 => (some t454)) else (some false))))) else (some false))))) else (some false))) else (none))) else (some false)))) else (some false))) else (none)) = some r := H
                  have A26 := Aside0.mk A260
                  clear A260
                  by_cases c27 : 3 ≤ (t390.length : Int)
                  · rw [if_pos c27] at H
                    have c27b0 := eq_true c27
                    have c27b1 : decide (3 ≤ (t390.length : Int)) = true := decide_eq_true c27
                    clear c27
                    obtain ⟨y423, hy423⟩ : ∃ y_ : List Int, y_ = (t390.take 3) := ⟨_, rfl⟩
                    replace H : ((deedboxref01_Same.f k t420 y423).bind fun t427 => (if t427 = true then ((path_Part.f k (wrap64 (a0)) (wrap64 (a2)) (wrap64 (a3))).bind fun t428 => ((deedboxref01_Same.f k t428 t393).bind fun t431 => (if t431 = true then ((path_Parts.f k (wrap64 (a0)) (wrap64 (a2))).bind fun t432 => (if 9 ≤ (t393.length : Int) then ((deedboxref01_Same.f k t432 (t393.take 9)).bind fun t439 => (if t439 = true then ((path_Bucket.f k a1).bind fun t440 => ((deedboxref25_Bucket.f a1).bind fun t443 => ((deedboxref01_Same.f k t440 t443).bind fun t446 => (if t446 = true then ((path_Rotate.f k (wrap64 (a0))).bind fun t447 => ((deedboxref25_Rotate.f k (wrap64 (a0))).bind fun t450 => ((deedboxref01_Same.f k t447 t450).bind fun t453 => (if t453 = true then ((deedboxlaw25_works.f k).bind fun t454 => (some t454)) else (some false))))) else (some false))))) else (some false))) else (none))) else (some false)))) else (some false))) = some r := by first | (rw [hy423]; with_reducible exact H) | (have H2_ := (Option.bind_some _ _).symm.trans H; rw [hy423]; with_reducible exact H2_) | (have H2_ := (Option.bind_some _ _).symm.trans H; with_reducible exact H2_) | with_reducible exact H | (rw [hy423]; exact H) | exact H
                    have Ny423 := Aside0.mk hy423
                    clear hy423
                    replace H := Option.bind_eq_some_iff.mp H
                    obtain ⟨t427, A280, H⟩ := H
                    replace H : (if t427 = true then ((path_Part.f k (wrap64 (a0)) (wrap64 (a2)) (wrap64 (a3))).bind fun t428 => ((deedboxref01_Same.f k t428 t393).bind fun t431 => (if t431 = true then ((path_Parts.f k (wrap64 (a0)) (wrap64 (a2))).bind fun t432 => (if 9 ≤ (t393.length : Int) then ((deedboxref01_Same.f k t432 (t393.take 9)).bind fun t439 => (if t439 = true then ((path_Bucket.f k a1).bind fun t440 => ((deedboxref25_Bucket.f a1).bind fun t443 => ((deedboxref01_Same.f k t440 t443).bind fun t446 => (if t446 = true then ((path_Rotate.f k (wrap64 (a0))).bind fun t447 => ((deedboxref25_Rotate.f k (wrap64 (a0))).bind fun t450 => ((deedboxref01_Same.f k t447 t450).bind fun t453 => (if t453 = true then ((deedboxlaw25_works.f k).bind fun t454 => (some t454)) else (some false))))) else (some false))))) else (some false))) else (none))) else (some false)))) else (some false)) = some r := H
                    have A28 := Aside0.mk A280
                    clear A280
                    by_cases c29 : t427 = true
                    · subst c29
                      have H1 : ((path_Part.f k (wrap64 (a0)) (wrap64 (a2)) (wrap64 (a3))).bind fun t428 => ((deedboxref01_Same.f k t428 t393).bind fun t431 => (if t431 = true then ((path_Parts.f k (wrap64 (a0)) (wrap64 (a2))).bind fun t432 => (if 9 ≤ (t393.length : Int) then ((deedboxref01_Same.f k t432 (t393.take 9)).bind fun t439 => (if t439 = true then ((path_Bucket.f k a1).bind fun t440 => ((deedboxref25_Bucket.f a1).bind fun t443 => ((deedboxref01_Same.f k t440 t443).bind fun t446 => (if t446 = true then ((path_Rotate.f k (wrap64 (a0))).bind fun t447 => ((deedboxref25_Rotate.f k (wrap64 (a0))).bind fun t450 => ((deedboxref01_Same.f k t447 t450).bind fun t453 => (if t453 = true then ((deedboxlaw25_works.f k).bind fun t454 => (some t454)) else (some false))))) else (some false))))) else (some false))) else (none))) else (some false)))) = some r := by rw [if_pos rfl] at H; exact H
                      clear H
                      have H := H1
                      clear H1
                      replace H := Option.bind_eq_some_iff.mp H
                      obtain ⟨t428, A300, H⟩ := H
                      replace H : ((deedboxref01_Same.f k t428 t393).bind fun t431 => (if t431 = true then ((path_Parts.f k (wrap64 (a0)) (wrap64 (a2))).bind fun t432 => (if 9 ≤ (t393.length : Int) then ((deedboxref01_Same.f k t432 (t393.take 9)).bind fun t439 => (if t439 = true then ((path_Bucket.f k a1).bind fun t440 => ((deedboxref25_Bucket.f a1).bind fun t443 => ((deedboxref01_Same.f k t440 t443).bind fun t446 => (if t446 = true then ((path_Rotate.f k (wrap64 (a0))).bind fun t447 => ((deedboxref25_Rotate.f k (wrap64 (a0))).bind fun t450 => ((deedboxref01_Same.f k t447 t450).bind fun t453 => (if t453 = true then ((deedboxlaw25_works.f k).bind fun t454 => (some t454)) else (some false))))) else (some false))))) else (some false))) else (none))) else (some false))) = some r := H
                      have A30 := Aside0.mk A300
                      clear A300
                      replace H := Option.bind_eq_some_iff.mp H
                      obtain ⟨t431, A310, H⟩ := H
                      replace H : (if t431 = true then ((path_Parts.f k (wrap64 (a0)) (wrap64 (a2))).bind fun t432 => (if 9 ≤ (t393.length : Int) then ((deedboxref01_Same.f k t432 (t393.take 9)).bind fun t439 => (if t439 = true then ((path_Bucket.f k a1).bind fun t440 => ((deedboxref25_Bucket.f a1).bind fun t443 => ((deedboxref01_Same.f k t440 t443).bind fun t446 => (if t446 = true then ((path_Rotate.f k (wrap64 (a0))).bind fun t447 => ((deedboxref25_Rotate.f k (wrap64 (a0))).bind fun t450 => ((deedboxref01_Same.f k t447 t450).bind fun t453 => (if t453 = true then ((deedboxlaw25_works.f k).bind fun t454 => (some t454)) else (some false))))) else (some false))))) else (some false))) else (none))) else (some false)) = some r := H
                      have A31 := Aside0.mk A310
                      clear A310
                      by_cases c32 : t431 = true
                      · subst c32
                        have H1 : ((path_Parts.f k (wrap64 (a0)) (wrap64 (a2))).bind fun t432 => (if 9 ≤ (t393.length : Int) then ((deedboxref01_Same.f k t432 (t393.take 9)).bind fun t439 => (if t439 = true then ((path_Bucket.f k a1).bind fun t440 => ((deedboxref25_Bucket.f a1).bind fun t443 => ((deedboxref01_Same.f k t440 t443).bind fun t446 => (if t446 = true then ((path_Rotate.f k (wrap64 (a0))).bind fun t447 => ((deedboxref25_Rotate.f k (wrap64 (a0))).bind fun t450 => ((deedboxref01_Same.f k t447 t450).bind fun t453 => (if t453 = true then ((deedboxlaw25_works.f k).bind fun t454 => (some t454)) else (some false))))) else (some false))))) else (some false))) else (none))) = some r := by rw [if_pos rfl] at H; exact H
                        clear H
                        have H := H1
                        clear H1
                        replace H := Option.bind_eq_some_iff.mp H
                        obtain ⟨t432, A330, H⟩ := H
                        replace H : (if 9 ≤ (t393.length : Int) then ((deedboxref01_Same.f k t432 (t393.take 9)).bind fun t439 => (if t439 = true then ((path_Bucket.f k a1).bind fun t440 => ((deedboxref25_Bucket.f a1).bind fun t443 => ((deedboxref01_Same.f k t440 t443).bind fun t446 => (if t446 = true then ((path_Rotate.f k (wrap64 (a0))).bind fun t447 => ((deedboxref25_Rotate.f k (wrap64 (a0))).bind fun t450 => ((deedboxref01_Same.f k t447 t450).bind fun t453 => (if t453 = true then ((deedboxlaw25_works.f k).bind fun t454 => (some t454)) else (some false))))) else (some false))))) else (some false))) else (none)) = some r := H
                        have A33 := Aside0.mk A330
                        clear A330
                        by_cases c34 : 9 ≤ (t393.length : Int)
                        · rw [if_pos c34] at H
                          have c34b0 := eq_true c34
                          have c34b1 : decide (9 ≤ (t393.length : Int)) = true := decide_eq_true c34
                          clear c34
                          obtain ⟨y435, hy435⟩ : ∃ y_ : List Int, y_ = (t393.take 9) := ⟨_, rfl⟩
                          replace H : ((deedboxref01_Same.f k t432 y435).bind fun t439 => (if t439 = true then ((path_Bucket.f k a1).bind fun t440 => ((deedboxref25_Bucket.f a1).bind fun t443 => ((deedboxref01_Same.f k t440 t443).bind fun t446 => (if t446 = true then ((path_Rotate.f k (wrap64 (a0))).bind fun t447 => ((deedboxref25_Rotate.f k (wrap64 (a0))).bind fun t450 => ((deedboxref01_Same.f k t447 t450).bind fun t453 => (if t453 = true then ((deedboxlaw25_works.f k).bind fun t454 => (some t454)) else (some false))))) else (some false))))) else (some false))) = some r := by first | (rw [hy435]; with_reducible exact H) | (have H2_ := (Option.bind_some _ _).symm.trans H; rw [hy435]; with_reducible exact H2_) | (have H2_ := (Option.bind_some _ _).symm.trans H; with_reducible exact H2_) | with_reducible exact H | (rw [hy435]; exact H) | exact H
                          have Ny435 := Aside0.mk hy435
                          clear hy435
                          replace H := Option.bind_eq_some_iff.mp H
                          obtain ⟨t439, A350, H⟩ := H
                          replace H : (if t439 = true then ((path_Bucket.f k a1).bind fun t440 => ((deedboxref25_Bucket.f a1).bind fun t443 => ((deedboxref01_Same.f k t440 t443).bind fun t446 => (if t446 = true then ((path_Rotate.f k (wrap64 (a0))).bind fun t447 => ((deedboxref25_Rotate.f k (wrap64 (a0))).bind fun t450 => ((deedboxref01_Same.f k t447 t450).bind fun t453 => (if t453 = true then ((deedboxlaw25_works.f k).bind fun t454 => (some t454)) else (some false))))) else (some false))))) else (some false)) = some r := H
                          have A35 := Aside0.mk A350
                          clear A350
                          by_cases c36 : t439 = true
                          · subst c36
                            have H1 : ((path_Bucket.f k a1).bind fun t440 => ((deedboxref25_Bucket.f a1).bind fun t443 => ((deedboxref01_Same.f k t440 t443).bind fun t446 => (if t446 = true then ((path_Rotate.f k (wrap64 (a0))).bind fun t447 => ((deedboxref25_Rotate.f k (wrap64 (a0))).bind fun t450 => ((deedboxref01_Same.f k t447 t450).bind fun t453 => (if t453 = true then ((deedboxlaw25_works.f k).bind fun t454 => (some t454)) else (some false))))) else (some false))))) = some r := by rw [if_pos rfl] at H; exact H
                            clear H
                            have H := H1
                            clear H1
                            replace H := Option.bind_eq_some_iff.mp H
                            obtain ⟨t440, A370, H⟩ := H
                            replace H : ((deedboxref25_Bucket.f a1).bind fun t443 => ((deedboxref01_Same.f k t440 t443).bind fun t446 => (if t446 = true then ((path_Rotate.f k (wrap64 (a0))).bind fun t447 => ((deedboxref25_Rotate.f k (wrap64 (a0))).bind fun t450 => ((deedboxref01_Same.f k t447 t450).bind fun t453 => (if t453 = true then ((deedboxlaw25_works.f k).bind fun t454 => (some t454)) else (some false))))) else (some false)))) = some r := H
                            have A37 := Aside0.mk A370
                            clear A370
                            replace H := Option.bind_eq_some_iff.mp H
                            obtain ⟨t443, A380, H⟩ := H
                            replace H : ((deedboxref01_Same.f k t440 t443).bind fun t446 => (if t446 = true then ((path_Rotate.f k (wrap64 (a0))).bind fun t447 => ((deedboxref25_Rotate.f k (wrap64 (a0))).bind fun t450 => ((deedboxref01_Same.f k t447 t450).bind fun t453 => (if t453 = true then ((deedboxlaw25_works.f k).bind fun t454 => (some t454)) else (some false))))) else (some false))) = some r := H
                            have A38 := Aside0.mk A380
                            clear A380
                            replace H := Option.bind_eq_some_iff.mp H
                            obtain ⟨t446, A390, H⟩ := H
                            replace H : (if t446 = true then ((path_Rotate.f k (wrap64 (a0))).bind fun t447 => ((deedboxref25_Rotate.f k (wrap64 (a0))).bind fun t450 => ((deedboxref01_Same.f k t447 t450).bind fun t453 => (if t453 = true then ((deedboxlaw25_works.f k).bind fun t454 => (some t454)) else (some false))))) else (some false)) = some r := H
                            have A39 := Aside0.mk A390
                            clear A390
                            by_cases c40 : t446 = true
                            · subst c40
                              have H1 : ((path_Rotate.f k (wrap64 (a0))).bind fun t447 => ((deedboxref25_Rotate.f k (wrap64 (a0))).bind fun t450 => ((deedboxref01_Same.f k t447 t450).bind fun t453 => (if t453 = true then ((deedboxlaw25_works.f k).bind fun t454 => (some t454)) else (some false))))) = some r := by rw [if_pos rfl] at H; exact H
                              clear H
                              have H := H1
                              clear H1
                              replace H := Option.bind_eq_some_iff.mp H
                              obtain ⟨t447, A410, H⟩ := H
                              replace H : ((deedboxref25_Rotate.f k (wrap64 (a0))).bind fun t450 => ((deedboxref01_Same.f k t447 t450).bind fun t453 => (if t453 = true then ((deedboxlaw25_works.f k).bind fun t454 => (some t454)) else (some false)))) = some r := H
                              have A41 := Aside0.mk A410
                              clear A410
                              replace H := Option.bind_eq_some_iff.mp H
                              obtain ⟨t450, A420, H⟩ := H
                              replace H : ((deedboxref01_Same.f k t447 t450).bind fun t453 => (if t453 = true then ((deedboxlaw25_works.f k).bind fun t454 => (some t454)) else (some false))) = some r := H
                              have A42 := Aside0.mk A420
                              clear A420
                              replace H := Option.bind_eq_some_iff.mp H
                              obtain ⟨t453, A430, H⟩ := H
                              replace H : (if t453 = true then ((deedboxlaw25_works.f k).bind fun t454 => (some t454)) else (some false)) = some r := H
                              have A43 := Aside0.mk A430
                              clear A430
                              by_cases c44 : t453 = true
                              · subst c44
                                have H1 : ((deedboxlaw25_works.f k).bind fun t454 => (some t454)) = some r := by rw [if_pos rfl] at H; exact H
                                clear H
                                have H := H1
                                clear H1
                                replace H := Option.bind_eq_some_iff.mp H
                                obtain ⟨t454, A450, H⟩ := H
                                replace H : (some t454) = some r := H
                                have A45 := Aside0.mk A450
                                clear A450
                                obtain rfl := Option.some.inj H
                                go_enter Try.func6, Try.ntmps6
                                try go_wp2_with (first | ((with_reducible refine gate_callee (f := 27) rfl ?_); refine goesL_ (some 16) rfl rfl Try.func27 (by kernel_rfl) rfl #[.string a1] rfl (by (try simp only [List.map_toArray, List.map_cons, List.map_nil]); first | done | rfl | (simp only [List.length_drop, List.length_take]; rfl)) ?_; (with_reducible refine (deedboxlaw25_plain.calls k a1 true _ A5.out).mono ?_); rintro e w' ⟨rfl, ⟨nd, rfl⟩⟩; refine ⟨_, rfl, ?_⟩) | ((with_reducible refine gate_callee (f := 29) rfl ?_); refine goesL_ (some 28) rfl rfl Try.func29 (by kernel_rfl) rfl #[.int .i64 (wrap64 (a0)), .string a1, .int .i64 (wrap64 (a2))] rfl (by (try simp only [List.map_toArray, List.map_cons, List.map_nil]); first | done | rfl | (simp only [List.length_drop, List.length_take]; rfl)) ?_; (with_reducible refine (deedboxref25_Version.calls k (wrap64 (a0)) a1 (wrap64 (a2)) t387 _ A7.out).mono ?_); rintro e w46 ⟨v388, rfl, ho0, hb⟩; refine ⟨_, rfl, ?_⟩; have n0_ := Aside0.mk (Kd.R_lower ho0 (below_size (by repeat (first | (with_reducible first | exact HB.out | apply below_alloc | apply pw_below_drewN | apply below_drew1) | exact HB.out)))); have n1_ := Aside0.mk (below_step (by repeat (first | (with_reducible first | exact HB.out | apply below_alloc | apply pw_below_drewN | apply below_drew1) | exact HB.out)) hb); clear HB; have HO389 := n0_; have HB := n1_; clear n0_ n1_; (try clear hb); (try clear hb2); (try clear hk); (try clear hi); (try clear ho0)) | ((with_reducible refine gate_callee (f := 30) rfl ?_); refine goesL_ (some 31) rfl rfl Try.func30 (by kernel_rfl) rfl #[.int .i64 (wrap64 (a0)), .int .i64 (wrap64 (a2))] rfl (by (try simp only [List.map_toArray, List.map_cons, List.map_nil]); first | done | rfl | (simp only [List.length_drop, List.length_take]; rfl)) ?_; (with_reducible refine (deedboxref25_Upload.calls k (wrap64 (a0)) (wrap64 (a2)) t390 _ A8.out).mono ?_); rintro e w47 ⟨v391, rfl, ho0, hb⟩; refine ⟨_, rfl, ?_⟩; have n0_ := Aside0.mk (Kd.R_elder' (by (with_reducible repeat (first | apply Kd.R_alloc | apply Kd.R_drewN | apply Kd.R_drew)); exact HO389.out) (Kd.R_base ho0) hb); have n1_ := Aside0.mk (Kd.R_lower (Kd.R_new' ho0 (Kd.R_lt (by (with_reducible repeat (first | apply Kd.R_alloc | apply Kd.R_drewN | apply Kd.R_drew)); exact HO389.out))) (below_size (by repeat (first | (with_reducible first | exact HB.out | apply below_alloc | apply pw_below_drewN | apply below_drew1) | exact HB.out)))); have n2_ := Aside0.mk (below_step (by repeat (first | (with_reducible first | exact HB.out | apply below_alloc | apply pw_below_drewN | apply below_drew1) | exact HB.out)) hb); clear HO389; clear HB; have HO389 := n0_; have HO392 := n1_; have HB := n2_; clear n0_ n1_ n2_; (try clear hb); (try clear hb2); (try clear hk); (try clear hi); (try clear ho0)) | ((with_reducible refine gate_callee (f := 31) rfl ?_); refine goesL_ (some 35) rfl rfl Try.func31 (by kernel_rfl) rfl #[.int .i64 (wrap64 (a0)), .int .i64 (wrap64 (a2)), .int .i64 (wrap64 (a3))] rfl (by (try simp only [List.map_toArray, List.map_cons, List.map_nil]); first | done | rfl | (simp only [List.length_drop, List.length_take]; rfl)) ?_; (with_reducible refine (deedboxref25_Part.calls k (wrap64 (a0)) (wrap64 (a2)) (wrap64 (a3)) t393 _ A9.out).mono ?_); rintro e w48 ⟨v394, rfl, ho0, hb⟩; refine ⟨_, rfl, ?_⟩; have n0_ := Aside0.mk (Kd.R_elder' (by (with_reducible repeat (first | apply Kd.R_alloc | apply Kd.R_drewN | apply Kd.R_drew)); exact HO389.out) (Kd.R_base ho0) hb); have n1_ := Aside0.mk (Kd.R_elder' (by (with_reducible repeat (first | apply Kd.R_alloc | apply Kd.R_drewN | apply Kd.R_drew)); exact HO392.out) (Kd.R_base ho0) hb); have n2_ := Aside0.mk (Kd.R_lower (Kd.R_new' (Kd.R_new' ho0 (Kd.R_lt (by (with_reducible repeat (first | apply Kd.R_alloc | apply Kd.R_drewN | apply Kd.R_drew)); exact HO389.out))) (Kd.R_lt (by (with_reducible repeat (first | apply Kd.R_alloc | apply Kd.R_drewN | apply Kd.R_drew)); exact HO392.out))) (below_size (by repeat (first | (with_reducible first | exact HB.out | apply below_alloc | apply pw_below_drewN | apply below_drew1) | exact HB.out)))); have n3_ := Aside0.mk (below_step (by repeat (first | (with_reducible first | exact HB.out | apply below_alloc | apply pw_below_drewN | apply below_drew1) | exact HB.out)) hb); clear HO389; clear HO392; clear HB; have HO389 := n0_; have HO392 := n1_; have HO395 := n2_; have HB := n3_; clear n0_ n1_ n2_ n3_; (try clear hb); (try clear hb2); (try clear hk); (try clear hi); (try clear ho0)))
                                have n0_ := Aside0.mk (Kd.R_drew HO389.out)
                                have n1_ := Aside0.mk (Kd.R_drew HO392.out)
                                have n2_ := Aside0.mk (Kd.R_drew HO395.out)
                                have n3_ := Aside0.mk (below_drew1 HB.out)
                                clear HO389
                                clear HO392
                                clear HO395
                                clear HB
                                have HO389 := n0_
                                have HO392 := n1_
                                have HO395 := n2_
                                have HB := n3_
                                clear n0_ n1_ n2_ n3_
                                refine start_ (n := 72) (S := fun w' => True) (ds := []) #[false, false, false, false, false, false, false, false, false, false, false, false, false, false, false, false, false, false, false, false, false, false, false, false, false, false, false, false, false, false, false, false, false, false, false, false, false, false, false, false, false, false, false, false, false, false, false, false, false, false, false, false, false, false, false, false, false, false, false, false, false, false, false, false, false, false, false, false, false, false, false, false] (by kernel_rfl) rfl rfl trivial (fun hHeld => ?_); refine with_tabW deedboxlaw25_PathMakes.tab7 deedboxlaw25_PathMakes.bits7 (fun HT_ HW_ => ?_)
                                generalize w48.drew = w49 at HO389 HO392 HO395 HB hHeld ⊢
                                refine pure_ (i := 0) (N := some 36) (v := ?_) (a' := ?_) #[true, false, false, false, false, false, false, false, false, false, false, false, false, false, false, false, false, false, false, false, false, false, false, false, false, false, false, false, false, false, false, false, false, false, false, false, false, false, false, false, false, false, false, false, false, false, false, false, false, false, false, false, false, false, false, false, false, false, false, false, false, false, false, false, false, false, false, false, false, false, false, false] rfl rfl (any_of HT_.out (by kernel_rfl)) (fun _ _ _ h => h) (Or.inl ⟨by rfl, ?_⟩) ?_ ?_
                                rotate_left
                                · intro w'
                                  go_simp
                                  with_reducible rfl
                                rotate_left
                                · simp only [Act.put, List.setIfInBounds_toArray, List.set_cons_zero, List.set_cons_succ, i64_w, i32_w]
                                  rfl
                                refine pure_ (i := 1) (N := some 37) (v := ?_) (a' := ?_) #[true, true, false, false, false, false, false, false, false, false, false, false, false, false, false, false, false, false, false, false, false, false, false, false, false, false, false, false, false, false, false, false, false, false, false, false, false, false, false, false, false, false, false, false, false, false, false, false, false, false, false, false, false, false, false, false, false, false, false, false, false, false, false, false, false, false, false, false, false, false, false, false] rfl rfl (any_of HT_.out (by kernel_rfl)) (fun _ _ _ h => h) (Or.inl ⟨by rfl, ?_⟩) ?_ ?_
                                rotate_left
                                · intro w'
                                  go_simp
                                  with_reducible rfl
                                rotate_left
                                · simp only [Act.put, List.setIfInBounds_toArray, List.set_cons_zero, List.set_cons_succ, i64_w, i32_w]
                                  rfl
                                refine pure_ (i := 2) (N := some 38) (v := ?_) (a' := ?_) #[true, true, true, false, false, false, false, false, false, false, false, false, false, false, false, false, false, false, false, false, false, false, false, false, false, false, false, false, false, false, false, false, false, false, false, false, false, false, false, false, false, false, false, false, false, false, false, false, false, false, false, false, false, false, false, false, false, false, false, false, false, false, false, false, false, false, false, false, false, false, false, false] rfl rfl (any_of HT_.out (by kernel_rfl)) (fun _ _ _ h => h) (Or.inl ⟨by rfl, ?_⟩) ?_ ?_
                                rotate_left
                                · intro w'
                                  go_simp
                                  with_reducible rfl
                                rotate_left
                                · simp only [Act.put, List.setIfInBounds_toArray, List.set_cons_zero, List.set_cons_succ, i64_w, i32_w]
                                  rfl
                                refine pure_ (i := 4) (N := some 40) (v := ?_) (a' := ?_) #[true, true, true, false, true, false, false, false, false, false, false, false, false, false, false, false, false, false, false, false, false, false, false, false, false, false, false, false, false, false, false, false, false, false, false, false, false, false, false, false, false, false, false, false, false, false, false, false, false, false, false, false, false, false, false, false, false, false, false, false, false, false, false, false, false, false, false, false, false, false, false, false] rfl rfl (any_of HT_.out (by kernel_rfl)) (fun _ _ _ h => h) (Or.inl ⟨by rfl, ?_⟩) ?_ ?_
                                rotate_left
                                · intro w'
                                  go_simp
                                  with_reducible rfl
                                rotate_left
                                · simp only [Act.put, List.setIfInBounds_toArray, List.set_cons_zero, List.set_cons_succ, i64_w, i32_w]
                                  rfl
                                refine one_ (i := 3) (N := some 39) #[true, true, true, true, true, false, false, false, false, false, false, false, false, false, false, false, false, false, false, false, false, false, false, false, false, false, false, false, false, false, false, false, false, false, false, false, false, false, false, false, false, false, false, false, false, false, false, false, false, false, false, false, false, false, false, false, false, false, false, false, false, false, false, false, false, false, false, false, false, false, false, false] rfl rfl (one_of HT_.out (by kernel_rfl)) (by decide) (fun K hK => ?_)
                                refine goes_ Try.func32 (by kernel_rfl) rfl #[.int .i64 (wrap64 (a0)), .string a1, .int .i64 (wrap64 (a2))] (by rfl) rfl rfl (by (try simp only [List.map_toArray, List.map_cons, List.map_nil]); first | done | rfl | (simp only [List.length_drop, List.length_take]; rfl)) ?_
                                with_reducible refine (path_Version.calls k (wrap64 (a0)) a1 (wrap64 (a2)) t396 _ A10.out).mono ?_
                                rintro e w50 ⟨v397, rfl, ho0, hb⟩
                                refine ⟨_, rfl, ?_⟩
                                have n0_ := Aside0.mk (Kd.R_elder' (by (with_reducible repeat (first | apply Kd.R_alloc | apply Kd.R_drewN | apply Kd.R_drew)); exact HO389.out) (Kd.R_base ho0) hb)
                                have n1_ := Aside0.mk (Kd.R_elder' (by (with_reducible repeat (first | apply Kd.R_alloc | apply Kd.R_drewN | apply Kd.R_drew)); exact HO392.out) (Kd.R_base ho0) hb)
                                have n2_ := Aside0.mk (Kd.R_elder' (by (with_reducible repeat (first | apply Kd.R_alloc | apply Kd.R_drewN | apply Kd.R_drew)); exact HO395.out) (Kd.R_base ho0) hb)
                                have n3_ := Aside0.mk (Kd.R_lower (Kd.R_new' (Kd.R_new' (Kd.R_new' ho0 (Kd.R_lt (by (with_reducible repeat (first | apply Kd.R_alloc | apply Kd.R_drewN | apply Kd.R_drew)); exact HO389.out))) (Kd.R_lt (by (with_reducible repeat (first | apply Kd.R_alloc | apply Kd.R_drewN | apply Kd.R_drew)); exact HO392.out))) (Kd.R_lt (by (with_reducible repeat (first | apply Kd.R_alloc | apply Kd.R_drewN | apply Kd.R_drew)); exact HO395.out))) (below_size (by repeat (first | (with_reducible first | exact HB.out | apply below_alloc | apply pw_below_drewN | apply below_drew1) | exact HB.out))))
                                have n4_ := Aside0.mk (below_step (by repeat (first | (with_reducible first | exact HB.out | apply below_alloc | apply pw_below_drewN | apply below_drew1) | exact HB.out)) hb)
                                clear HO389
                                clear HO392
                                clear HO395
                                clear HB
                                have HO389 := n0_
                                have HO392 := n1_
                                have HO395 := n2_
                                have HO398 := n3_
                                have HB := n4_
                                clear n0_ n1_ n2_ n3_ n4_
                                (try clear hb)
                                (try clear hb2)
                                (try clear hk)
                                (try clear hi)
                                (try clear ho0)
                                obtain ⟨Ao51, co51, eo51⟩ := Kd.R_slice HO398.out
                                (first | subst eo51 | (injection eo51 with f1_ f2_ f3_; have f4_ := f1_.symm; have f5_ := f3_.symm; clear f1_ f2_ f3_; subst f4_; subst f5_))
                                obtain ⟨Ao52, co52, eo52⟩ := Kd.R_slice HO389.out
                                (first | subst eo52 | (injection eo52 with f1_ f2_ f3_; have f4_ := f1_.symm; have f5_ := f3_.symm; clear f1_ f2_ f3_; subst f4_; subst f5_))
                                refine hK.out _ _ trivial (fun hHeld => ?_)
                                clear hK K
                                refine norm_ (a' := ?_) ?_ ?_
                                rotate_left
                                · show Act.put _ (some 39) _ = _
                                  simp only [Act.put, List.setIfInBounds_toArray, List.set_cons_zero, List.set_cons_succ, i64_w, i32_w]
                                  rfl
                                refine one_ (i := 5) (N := some 41) #[true, true, true, true, true, true, false, false, false, false, false, false, false, false, false, false, false, false, false, false, false, false, false, false, false, false, false, false, false, false, false, false, false, false, false, false, false, false, false, false, false, false, false, false, false, false, false, false, false, false, false, false, false, false, false, false, false, false, false, false, false, false, false, false, false, false, false, false, false, false, false, false] rfl rfl (one_of HT_.out (by kernel_rfl)) (by decide) (fun K hK => ?_)
                                refine goes_ Try.func22 (by kernel_rfl) rfl #[.slice Ao51 t396.length co51, .slice Ao52 t387.length co52] (by rfl) rfl rfl (by (try simp only [List.map_toArray, List.map_cons, List.map_nil]); first | done | rfl | (simp only [List.length_drop, List.length_take]; rfl)) ?_
                                with_reducible refine (deedboxref01_Same.calls k _ _ t396 _ _ t387 true _ ?side1 ?side2 ?side3 ?side4 A11.out).mono ?_
                                (case side1 => repeat (first | exact (Kd.R_reads' HO398.out).2.2 | (with_reducible refine Kd.C_alloc ?_ _) | (with_reducible refine Kd.C_drewN ?_ _) | (with_reducible refine Kd.C_drew ?_)))
                                (case side2 => exact (Kd.R_reads' HO398.out).2.1)
                                (case side3 => repeat (first | exact (Kd.R_reads' HO389.out).2.2 | (with_reducible refine Kd.C_alloc ?_ _) | (with_reducible refine Kd.C_drewN ?_ _) | (with_reducible refine Kd.C_drew ?_)))
                                (case side4 => exact (Kd.R_reads' HO389.out).2.1)
                                rintro e w' ⟨rfl, ⟨nd, rfl⟩⟩
                                refine ⟨_, rfl, ?_⟩
                                have q53 : ((ji14) : Int) ≤ ((t387.length : Int) : Int) := of_decide_eq_true (by first | (with_reducible assumption) | assumption)
                                obtain ⟨i053, hi053, _, hsz53, _⟩ := info_parts info5
                                have hroom53 : t387.length ≤ co52 := (Kd.R_reads' HO389.out).2.1
                                have hC53 : Kd.C (Kd.int .u8) _ Ao52 t387.length t387 := (Kd.R_reads' HO389.out).2.2
                                have hcut53 := cut_to (P := Try.prog) 31 5 .i64 Try.underlying31 hi053 Ao52 t387.length co52 (ji14) (of_decide_eq_true (by first | (with_reducible assumption) | assumption)) q53 hroom53
                                have hr53 := Kd.C_take (m := ((ji14) : Int).toNat) hC53 (by omega)
                                have hy53 : y403.length = ((ji14) : Int).toNat := (by rw [Ny403.out, List.length_take]; omega)
                                rw [← Ny403.out] at hr53
                                rw [← hy53] at hcut53
                                have HR406 := Aside0.mk hr53
                                have HC406 := Aside0.mk (show y403.length ≤ co52 from by omega)
                                clear hr53 hC53 hroom53 hi053 hsz53
                                have KY53 := Aside0.mk hy53
                                clear hy53
                                have KL53 := Aside0.mk (show ((ji14) : Int).toNat ≤ t387.length from by omega)
                                replace q53 := eq_true q53
                                refine hK.out _ _ trivial (fun hHeld => ?_)
                                clear hK K
                                refine norm_ (a' := ?_) ?_ ?_
                                rotate_left
                                · show Act.put _ (some 41) _ = _
                                  simp only [Act.put, List.setIfInBounds_toArray, List.set_cons_zero, List.set_cons_succ, i64_w, i32_w]
                                  rfl
                                refine pure_ (i := 6) (N := some 42) (v := ?_) (a' := ?_) #[true, true, true, true, true, true, true, false, false, false, false, false, false, false, false, false, false, false, false, false, false, false, false, false, false, false, false, false, false, false, false, false, false, false, false, false, false, false, false, false, false, false, false, false, false, false, false, false, false, false, false, false, false, false, false, false, false, false, false, false, false, false, false, false, false, false, false, false, false, false, false, false] rfl rfl (any_of HT_.out (by kernel_rfl)) (fun _ _ _ h => h) (Or.inl ⟨by rfl, ?_⟩) ?_ ?_
                                rotate_left
                                · intro w'
                                  go_simp
                                  with_reducible rfl
                                rotate_left
                                · simp only [Act.put, List.setIfInBounds_toArray, List.set_cons_zero, List.set_cons_succ, i64_w, i32_w]
                                  rfl
                                refine pure_ (i := 7) (N := some 43) (v := ?_) (a' := ?_) #[true, true, true, true, true, true, true, true, false, false, false, false, false, false, false, false, false, false, false, false, false, false, false, false, false, false, false, false, false, false, false, false, false, false, false, false, false, false, false, false, false, false, false, false, false, false, false, false, false, false, false, false, false, false, false, false, false, false, false, false, false, false, false, false, false, false, false, false, false, false, false, false] rfl rfl (any_of HT_.out (by kernel_rfl)) (fun _ _ _ h => h) (Or.inl ⟨by rfl, ?_⟩) ?_ ?_
                                rotate_left
                                · intro w'
                                  go_simp
                                  with_reducible rfl
                                rotate_left
                                · simp only [Act.put, List.setIfInBounds_toArray, List.set_cons_zero, List.set_cons_succ, i64_w, i32_w]
                                  rfl
                                refine pure_ (i := 8) (N := some 44) (v := ?_) (a' := ?_) #[true, true, true, true, true, true, true, true, true, false, false, false, false, false, false, false, false, false, false, false, false, false, false, false, false, false, false, false, false, false, false, false, false, false, false, false, false, false, false, false, false, false, false, false, false, false, false, false, false, false, false, false, false, false, false, false, false, false, false, false, false, false, false, false, false, false, false, false, false, false, false, false] rfl rfl (any_of HT_.out (by kernel_rfl)) (fun _ _ _ h => h) (Or.inl ⟨by rfl, ?_⟩) ?_ ?_
                                rotate_left
                                · intro w'
                                  go_simp
                                  with_reducible rfl
                                rotate_left
                                · simp only [Act.put, List.setIfInBounds_toArray, List.set_cons_zero, List.set_cons_succ, i64_w, i32_w]
                                  rfl
                                refine pure_ (i := 10) (N := some 46) (v := ?_) (a' := ?_) #[true, true, true, true, true, true, true, true, true, false, true, false, false, false, false, false, false, false, false, false, false, false, false, false, false, false, false, false, false, false, false, false, false, false, false, false, false, false, false, false, false, false, false, false, false, false, false, false, false, false, false, false, false, false, false, false, false, false, false, false, false, false, false, false, false, false, false, false, false, false, false, false] rfl rfl (any_of HT_.out (by kernel_rfl)) (fun _ _ _ h => h) (Or.inl ⟨by rfl, ?_⟩) ?_ ?_
                                rotate_left
                                · intro w'
                                  go_simp
                                  with_reducible rfl
                                rotate_left
                                · simp only [Act.put, List.setIfInBounds_toArray, List.set_cons_zero, List.set_cons_succ, i64_w, i32_w]
                                  rfl
                                refine pure_ (i := 11) (N := some 47) (v := ?_) (a' := ?_) #[true, true, true, true, true, true, true, true, true, false, true, true, false, false, false, false, false, false, false, false, false, false, false, false, false, false, false, false, false, false, false, false, false, false, false, false, false, false, false, false, false, false, false, false, false, false, false, false, false, false, false, false, false, false, false, false, false, false, false, false, false, false, false, false, false, false, false, false, false, false, false, false] rfl rfl (any_of HT_.out (by kernel_rfl)) (fun _ _ _ h => h) (Or.inl ⟨by rfl, ?_⟩) ?_ ?_
                                rotate_left
                                · intro w'
                                  go_simp
                                  with_reducible rfl
                                rotate_left
                                · simp only [Act.put, List.setIfInBounds_toArray, List.set_cons_zero, List.set_cons_succ, i64_w, i32_w]
                                  rfl
                                refine pure_ (i := 12) (N := some 48) (v := ?_) (a' := ?_) #[true, true, true, true, true, true, true, true, true, false, true, true, true, false, false, false, false, false, false, false, false, false, false, false, false, false, false, false, false, false, false, false, false, false, false, false, false, false, false, false, false, false, false, false, false, false, false, false, false, false, false, false, false, false, false, false, false, false, false, false, false, false, false, false, false, false, false, false, false, false, false, false] rfl rfl (any_of HT_.out (by kernel_rfl)) (fun _ _ _ h => h) (Or.inl ⟨by rfl, ?_⟩) ?_ ?_
                                rotate_left
                                · intro w'
                                  go_simp
                                  with_reducible rfl
                                rotate_left
                                · simp only [Act.put, List.setIfInBounds_toArray, List.set_cons_zero, List.set_cons_succ, i64_w, i32_w]
                                  rfl
                                refine pure_ (i := 13) (N := some 49) (v := ?_) (a' := ?_) #[true, true, true, true, true, true, true, true, true, false, true, true, true, true, false, false, false, false, false, false, false, false, false, false, false, false, false, false, false, false, false, false, false, false, false, false, false, false, false, false, false, false, false, false, false, false, false, false, false, false, false, false, false, false, false, false, false, false, false, false, false, false, false, false, false, false, false, false, false, false, false, false] rfl rfl (any_of HT_.out (by kernel_rfl)) (fun _ _ _ h => h) (Or.inl ⟨by rfl, ?_⟩) ?_ ?_
                                rotate_left
                                · intro w'
                                  go_simp
                                  with_reducible rfl
                                rotate_left
                                · simp only [Act.put, List.setIfInBounds_toArray, List.set_cons_zero, List.set_cons_succ, i64_w, i32_w]
                                  rfl
                                refine pure_ (i := 14) (N := some 50) (v := ?_) (a' := ?_) #[true, true, true, true, true, true, true, true, true, false, true, true, true, true, true, false, false, false, false, false, false, false, false, false, false, false, false, false, false, false, false, false, false, false, false, false, false, false, false, false, false, false, false, false, false, false, false, false, false, false, false, false, false, false, false, false, false, false, false, false, false, false, false, false, false, false, false, false, false, false, false, false] rfl rfl (any_of HT_.out (by kernel_rfl)) (fun _ _ _ h => h) (Or.inl ⟨by rfl, ?_⟩) ?_ ?_
                                rotate_left
                                · intro w'
                                  go_simp
                                  with_reducible rfl
                                rotate_left
                                · simp only [Act.put, List.setIfInBounds_toArray, List.set_cons_zero, List.set_cons_succ, i64_w, i32_w]
                                  rfl
                                refine one_ (i := 9) (N := some 45) #[true, true, true, true, true, true, true, true, true, true, true, true, true, true, true, false, false, false, false, false, false, false, false, false, false, false, false, false, false, false, false, false, false, false, false, false, false, false, false, false, false, false, false, false, false, false, false, false, false, false, false, false, false, false, false, false, false, false, false, false, false, false, false, false, false, false, false, false, false, false, false, false] rfl rfl (one_of HT_.out (by kernel_rfl)) (by decide) (fun K hK => ?_)
                                refine goes_ Try.func33 (by kernel_rfl) rfl #[.int .i64 (wrap64 (a0)), .string a1] (by rfl) rfl rfl (by (try simp only [List.map_toArray, List.map_cons, List.map_nil]); first | done | rfl | (simp only [List.length_drop, List.length_take]; rfl)) ?_
                                with_reducible refine (path_Names.calls k (wrap64 (a0)) a1 t400 _ A13.out).mono ?_
                                rintro e w54 ⟨v401, rfl, ho0, hb⟩
                                refine ⟨_, rfl, ?_⟩
                                have n0_ := Aside0.mk (Kd.R_elder' (by (with_reducible repeat (first | apply Kd.R_alloc | apply Kd.R_drewN | apply Kd.R_drew)); exact HO389.out) (Kd.R_base ho0) hb)
                                have n1_ := Aside0.mk (Kd.R_elder' (by (with_reducible repeat (first | apply Kd.R_alloc | apply Kd.R_drewN | apply Kd.R_drew)); exact HO392.out) (Kd.R_base ho0) hb)
                                have n2_ := Aside0.mk (Kd.R_elder' (by (with_reducible repeat (first | apply Kd.R_alloc | apply Kd.R_drewN | apply Kd.R_drew)); exact HO395.out) (Kd.R_base ho0) hb)
                                have n3_ := Aside0.mk (Kd.R_elder' (by (with_reducible repeat (first | apply Kd.R_alloc | apply Kd.R_drewN | apply Kd.R_drew)); exact HO398.out) (Kd.R_base ho0) hb)
                                have n4_ := Aside0.mk (Kd.R_lower (Kd.R_new' (Kd.R_new' (Kd.R_new' (Kd.R_new' ho0 (Kd.R_lt (by (with_reducible repeat (first | apply Kd.R_alloc | apply Kd.R_drewN | apply Kd.R_drew)); exact HO389.out))) (Kd.R_lt (by (with_reducible repeat (first | apply Kd.R_alloc | apply Kd.R_drewN | apply Kd.R_drew)); exact HO392.out))) (Kd.R_lt (by (with_reducible repeat (first | apply Kd.R_alloc | apply Kd.R_drewN | apply Kd.R_drew)); exact HO395.out))) (Kd.R_lt (by (with_reducible repeat (first | apply Kd.R_alloc | apply Kd.R_drewN | apply Kd.R_drew)); exact HO398.out))) (below_size (by repeat (first | (with_reducible first | exact HB.out | apply below_alloc | apply pw_below_drewN | apply below_drew1) | exact HB.out))))
                                (first | have n5_ := Aside0.mk (Kd.C_below (Kd.C_drewN HR406.out _) hb) | have n5_ := Aside0.mk (Kd.C_below HR406.out hb) | have n5_ := Aside0.mk (Kd.C_below (by repeat (first | (with_reducible exact HR406.out) | (with_reducible refine Kd.C_alloc ?_ _) | (with_reducible refine Kd.C_drewN ?_ _) | (with_reducible refine Kd.C_drew ?_) | exact HR406.out)) hb))
                                have n6_ := Aside0.mk (below_step (by repeat (first | (with_reducible first | exact HB.out | apply below_alloc | apply pw_below_drewN | apply below_drew1) | exact HB.out)) hb)
                                clear HO389
                                clear HO392
                                clear HO395
                                clear HO398
                                clear HR406
                                clear HB
                                have HO389 := n0_
                                have HO392 := n1_
                                have HO395 := n2_
                                have HO398 := n3_
                                have HO402 := n4_
                                have HR406 := n5_
                                have HB := n6_
                                clear n0_ n1_ n2_ n3_ n4_ n5_ n6_
                                (try clear hb)
                                (try clear hb2)
                                (try clear hk)
                                (try clear hi)
                                (try clear ho0)
                                obtain ⟨Ao55, co55, eo55⟩ := Kd.R_slice HO402.out
                                (first | subst eo55 | (injection eo55 with f1_ f2_ f3_; have f4_ := f1_.symm; have f5_ := f3_.symm; clear f1_ f2_ f3_; subst f4_; subst f5_))
                                refine hK.out _ _ trivial (fun hHeld => ?_)
                                clear hK K
                                refine norm_ (a' := ?_) ?_ ?_
                                rotate_left
                                · show Act.put _ (some 45) _ = _
                                  simp only [Act.put, List.setIfInBounds_toArray, List.set_cons_zero, List.set_cons_succ, i64_w, i32_w]
                                  rfl
                                refine one_ (i := 15) (N := some 51) #[true, true, true, true, true, true, true, true, true, true, true, true, true, true, true, true, false, false, false, false, false, false, false, false, false, false, false, false, false, false, false, false, false, false, false, false, false, false, false, false, false, false, false, false, false, false, false, false, false, false, false, false, false, false, false, false, false, false, false, false, false, false, false, false, false, false, false, false, false, false, false, false] rfl rfl (one_of HT_.out (by kernel_rfl)) (by decide) (fun K hK => ?_)
                                refine goes_ Try.func22 (by kernel_rfl) rfl #[.slice Ao55 t400.length co55, .slice Ao52 y403.length co52] (by rfl) rfl rfl (by (try simp only [List.map_toArray, List.map_cons, List.map_nil]); first | done | rfl | (simp only [List.length_drop, List.length_take]; rfl)) ?_
                                with_reducible refine (deedboxref01_Same.calls k _ _ t400 _ _ y403 true _ ?side1 ?side2 ?side3 ?side4 A17.out).mono ?_
                                (case side1 => repeat (first | exact (Kd.R_reads' HO402.out).2.2 | (with_reducible refine Kd.C_alloc ?_ _) | (with_reducible refine Kd.C_drewN ?_ _) | (with_reducible refine Kd.C_drew ?_)))
                                (case side2 => exact (Kd.R_reads' HO402.out).2.1)
                                (case side3 => repeat (first | exact (by repeat (first | (with_reducible exact HR406.out) | (with_reducible refine Kd.C_alloc ?_ _) | (with_reducible refine Kd.C_drewN ?_ _) | (with_reducible refine Kd.C_drew ?_) | exact HR406.out)) | (with_reducible refine Kd.C_alloc ?_ _) | (with_reducible refine Kd.C_drewN ?_ _) | (with_reducible refine Kd.C_drew ?_)))
                                (case side4 => exact HC406.out)
                                rintro e w' ⟨rfl, ⟨nd, rfl⟩⟩
                                refine ⟨_, rfl, ?_⟩
                                have q56 : (3 : Int) ≤ ((t387.length : Int) : Int) := of_decide_eq_true (by first | (with_reducible assumption) | assumption)
                                obtain ⟨i056, hi056, _, hsz56, _⟩ := info_parts info5
                                have hroom56 : t387.length ≤ co52 := (Kd.R_reads' HO389.out).2.1
                                have hC56 : Kd.C (Kd.int .u8) _ Ao52 t387.length t387 := (Kd.R_reads' HO389.out).2.2
                                have hcut56 := cut_to (P := Try.prog) 31 5 .i64 Try.underlying31 hi056 Ao52 t387.length co52 3 (by omega) q56 hroom56
                                have hr56 := Kd.C_take (m := 3) hC56 (by omega)
                                have hy56 : y411.length = (3 : Int).toNat := (by rw [Ny411.out, List.length_take]; omega)
                                rw [← Ny411.out] at hr56
                                rw [← hy56] at hcut56
                                have HR414 := Aside0.mk hr56
                                have HC414 := Aside0.mk (show y411.length ≤ co52 from by omega)
                                clear hr56 hC56 hroom56 hi056 hsz56
                                have KY56 := Aside0.mk hy56
                                clear hy56
                                have KL56 := Aside0.mk (show 3 ≤ t387.length from by omega)
                                replace q56 := eq_true q56
                                refine hK.out _ _ trivial (fun hHeld => ?_)
                                clear hK K
                                refine norm_ (a' := ?_) ?_ ?_
                                rotate_left
                                · show Act.put _ (some 51) _ = _
                                  simp only [Act.put, List.setIfInBounds_toArray, List.set_cons_zero, List.set_cons_succ, i64_w, i32_w]
                                  rfl
                                refine pure_ (i := 16) (N := some 52) (v := ?_) (a' := ?_) #[true, true, true, true, true, true, true, true, true, true, true, true, true, true, true, true, true, false, false, false, false, false, false, false, false, false, false, false, false, false, false, false, false, false, false, false, false, false, false, false, false, false, false, false, false, false, false, false, false, false, false, false, false, false, false, false, false, false, false, false, false, false, false, false, false, false, false, false, false, false, false, false] rfl rfl (any_of HT_.out (by kernel_rfl)) (fun _ _ _ h => h) (Or.inl ⟨by rfl, ?_⟩) ?_ ?_
                                rotate_left
                                · intro w'
                                  go_simp
                                  with_reducible rfl
                                rotate_left
                                · simp only [Act.put, List.setIfInBounds_toArray, List.set_cons_zero, List.set_cons_succ, i64_w, i32_w]
                                  rfl
                                refine pure_ (i := 17) (N := some 53) (v := ?_) (a' := ?_) #[true, true, true, true, true, true, true, true, true, true, true, true, true, true, true, true, true, true, false, false, false, false, false, false, false, false, false, false, false, false, false, false, false, false, false, false, false, false, false, false, false, false, false, false, false, false, false, false, false, false, false, false, false, false, false, false, false, false, false, false, false, false, false, false, false, false, false, false, false, false, false, false] rfl rfl (any_of HT_.out (by kernel_rfl)) (fun _ _ _ h => h) (Or.inl ⟨by rfl, ?_⟩) ?_ ?_
                                rotate_left
                                · intro w'
                                  go_simp
                                  with_reducible rfl
                                rotate_left
                                · simp only [Act.put, List.setIfInBounds_toArray, List.set_cons_zero, List.set_cons_succ, i64_w, i32_w]
                                  rfl
                                refine pure_ (i := 18) (N := some 54) (v := ?_) (a' := ?_) #[true, true, true, true, true, true, true, true, true, true, true, true, true, true, true, true, true, true, true, false, false, false, false, false, false, false, false, false, false, false, false, false, false, false, false, false, false, false, false, false, false, false, false, false, false, false, false, false, false, false, false, false, false, false, false, false, false, false, false, false, false, false, false, false, false, false, false, false, false, false, false, false] rfl rfl (any_of HT_.out (by kernel_rfl)) (fun _ _ _ h => h) (Or.inl ⟨by rfl, ?_⟩) ?_ ?_
                                rotate_left
                                · intro w'
                                  go_simp
                                  with_reducible rfl
                                rotate_left
                                · simp only [Act.put, List.setIfInBounds_toArray, List.set_cons_zero, List.set_cons_succ, i64_w, i32_w]
                                  rfl
                                refine pure_ (i := 20) (N := some 56) (v := ?_) (a' := ?_) #[true, true, true, true, true, true, true, true, true, true, true, true, true, true, true, true, true, true, true, false, true, false, false, false, false, false, false, false, false, false, false, false, false, false, false, false, false, false, false, false, false, false, false, false, false, false, false, false, false, false, false, false, false, false, false, false, false, false, false, false, false, false, false, false, false, false, false, false, false, false, false, false] rfl rfl (any_of HT_.out (by kernel_rfl)) (fun _ _ _ h => h) (Or.inl ⟨by rfl, ?_⟩) ?_ ?_
                                rotate_left
                                · intro w'
                                  go_simp
                                  with_reducible rfl
                                rotate_left
                                · simp only [Act.put, List.setIfInBounds_toArray, List.set_cons_zero, List.set_cons_succ, i64_w, i32_w]
                                  rfl
                                refine pure_ (i := 21) (N := some 57) (v := ?_) (a' := ?_) #[true, true, true, true, true, true, true, true, true, true, true, true, true, true, true, true, true, true, true, false, true, true, false, false, false, false, false, false, false, false, false, false, false, false, false, false, false, false, false, false, false, false, false, false, false, false, false, false, false, false, false, false, false, false, false, false, false, false, false, false, false, false, false, false, false, false, false, false, false, false, false, false] rfl rfl (any_of HT_.out (by kernel_rfl)) (fun _ _ _ h => h) (Or.inl ⟨by rfl, ?_⟩) ?_ ?_
                                rotate_left
                                · intro w'
                                  go_simp
                                  with_reducible rfl
                                rotate_left
                                · simp only [Act.put, List.setIfInBounds_toArray, List.set_cons_zero, List.set_cons_succ, i64_w, i32_w]
                                  rfl
                                refine one_ (i := 19) (N := some 55) #[true, true, true, true, true, true, true, true, true, true, true, true, true, true, true, true, true, true, true, true, true, true, false, false, false, false, false, false, false, false, false, false, false, false, false, false, false, false, false, false, false, false, false, false, false, false, false, false, false, false, false, false, false, false, false, false, false, false, false, false, false, false, false, false, false, false, false, false, false, false, false, false] rfl rfl (one_of HT_.out (by kernel_rfl)) (by decide) (fun K hK => ?_)
                                refine goes_ Try.func34 (by kernel_rfl) rfl #[.int .i64 (wrap64 (a0))] (by rfl) rfl rfl (by (try simp only [List.map_toArray, List.map_cons, List.map_nil]); first | done | rfl | (simp only [List.length_drop, List.length_take]; rfl)) ?_
                                with_reducible refine (path_Versions.calls k (wrap64 (a0)) t408 _ A19.out).mono ?_
                                rintro e w57 ⟨v409, rfl, ho0, hb⟩
                                refine ⟨_, rfl, ?_⟩
                                have n0_ := Aside0.mk (Kd.R_elder' (by (with_reducible repeat (first | apply Kd.R_alloc | apply Kd.R_drewN | apply Kd.R_drew)); exact HO389.out) (Kd.R_base ho0) hb)
                                have n1_ := Aside0.mk (Kd.R_elder' (by (with_reducible repeat (first | apply Kd.R_alloc | apply Kd.R_drewN | apply Kd.R_drew)); exact HO392.out) (Kd.R_base ho0) hb)
                                have n2_ := Aside0.mk (Kd.R_elder' (by (with_reducible repeat (first | apply Kd.R_alloc | apply Kd.R_drewN | apply Kd.R_drew)); exact HO395.out) (Kd.R_base ho0) hb)
                                have n3_ := Aside0.mk (Kd.R_elder' (by (with_reducible repeat (first | apply Kd.R_alloc | apply Kd.R_drewN | apply Kd.R_drew)); exact HO398.out) (Kd.R_base ho0) hb)
                                have n4_ := Aside0.mk (Kd.R_elder' (by (with_reducible repeat (first | apply Kd.R_alloc | apply Kd.R_drewN | apply Kd.R_drew)); exact HO402.out) (Kd.R_base ho0) hb)
                                have n5_ := Aside0.mk (Kd.R_lower (Kd.R_new' (Kd.R_new' (Kd.R_new' (Kd.R_new' (Kd.R_new' ho0 (Kd.R_lt (by (with_reducible repeat (first | apply Kd.R_alloc | apply Kd.R_drewN | apply Kd.R_drew)); exact HO389.out))) (Kd.R_lt (by (with_reducible repeat (first | apply Kd.R_alloc | apply Kd.R_drewN | apply Kd.R_drew)); exact HO392.out))) (Kd.R_lt (by (with_reducible repeat (first | apply Kd.R_alloc | apply Kd.R_drewN | apply Kd.R_drew)); exact HO395.out))) (Kd.R_lt (by (with_reducible repeat (first | apply Kd.R_alloc | apply Kd.R_drewN | apply Kd.R_drew)); exact HO398.out))) (Kd.R_lt (by (with_reducible repeat (first | apply Kd.R_alloc | apply Kd.R_drewN | apply Kd.R_drew)); exact HO402.out))) (below_size (by repeat (first | (with_reducible first | exact HB.out | apply below_alloc | apply pw_below_drewN | apply below_drew1) | exact HB.out))))
                                (first | have n6_ := Aside0.mk (Kd.C_below (Kd.C_drewN HR406.out _) hb) | have n6_ := Aside0.mk (Kd.C_below HR406.out hb) | have n6_ := Aside0.mk (Kd.C_below (by repeat (first | (with_reducible exact HR406.out) | (with_reducible refine Kd.C_alloc ?_ _) | (with_reducible refine Kd.C_drewN ?_ _) | (with_reducible refine Kd.C_drew ?_) | exact HR406.out)) hb))
                                (first | have n7_ := Aside0.mk (Kd.C_below (Kd.C_drewN HR414.out _) hb) | have n7_ := Aside0.mk (Kd.C_below HR414.out hb) | have n7_ := Aside0.mk (Kd.C_below (by repeat (first | (with_reducible exact HR414.out) | (with_reducible refine Kd.C_alloc ?_ _) | (with_reducible refine Kd.C_drewN ?_ _) | (with_reducible refine Kd.C_drew ?_) | exact HR414.out)) hb))
                                have n8_ := Aside0.mk (below_step (by repeat (first | (with_reducible first | exact HB.out | apply below_alloc | apply pw_below_drewN | apply below_drew1) | exact HB.out)) hb)
                                clear HO389
                                clear HO392
                                clear HO395
                                clear HO398
                                clear HO402
                                clear HR406
                                clear HR414
                                clear HB
                                have HO389 := n0_
                                have HO392 := n1_
                                have HO395 := n2_
                                have HO398 := n3_
                                have HO402 := n4_
                                have HO410 := n5_
                                have HR406 := n6_
                                have HR414 := n7_
                                have HB := n8_
                                clear n0_ n1_ n2_ n3_ n4_ n5_ n6_ n7_ n8_
                                (try clear hb)
                                (try clear hb2)
                                (try clear hk)
                                (try clear hi)
                                (try clear ho0)
                                obtain ⟨Ao58, co58, eo58⟩ := Kd.R_slice HO410.out
                                (first | subst eo58 | (injection eo58 with f1_ f2_ f3_; have f4_ := f1_.symm; have f5_ := f3_.symm; clear f1_ f2_ f3_; subst f4_; subst f5_))
                                refine hK.out _ _ trivial (fun hHeld => ?_)
                                clear hK K
                                refine norm_ (a' := ?_) ?_ ?_
                                rotate_left
                                · show Act.put _ (some 55) _ = _
                                  simp only [Act.put, List.setIfInBounds_toArray, List.set_cons_zero, List.set_cons_succ, i64_w, i32_w]
                                  rfl
                                refine one_ (i := 22) (N := some 58) #[true, true, true, true, true, true, true, true, true, true, true, true, true, true, true, true, true, true, true, true, true, true, true, false, false, false, false, false, false, false, false, false, false, false, false, false, false, false, false, false, false, false, false, false, false, false, false, false, false, false, false, false, false, false, false, false, false, false, false, false, false, false, false, false, false, false, false, false, false, false, false, false] rfl rfl (one_of HT_.out (by kernel_rfl)) (by decide) (fun K hK => ?_)
                                refine goes_ Try.func22 (by kernel_rfl) rfl #[.slice Ao58 t408.length co58, .slice Ao52 y411.length co52] (by rfl) rfl rfl (by (try simp only [List.map_toArray, List.map_cons, List.map_nil]); first | done | rfl | (simp only [List.length_drop, List.length_take]; rfl)) ?_
                                with_reducible refine (deedboxref01_Same.calls k _ _ t408 _ _ y411 true _ ?side1 ?side2 ?side3 ?side4 A21.out).mono ?_
                                (case side1 => repeat (first | exact (Kd.R_reads' HO410.out).2.2 | (with_reducible refine Kd.C_alloc ?_ _) | (with_reducible refine Kd.C_drewN ?_ _) | (with_reducible refine Kd.C_drew ?_)))
                                (case side2 => exact (Kd.R_reads' HO410.out).2.1)
                                (case side3 => repeat (first | exact (by repeat (first | (with_reducible exact HR414.out) | (with_reducible refine Kd.C_alloc ?_ _) | (with_reducible refine Kd.C_drewN ?_ _) | (with_reducible refine Kd.C_drew ?_) | exact HR414.out)) | (with_reducible refine Kd.C_alloc ?_ _) | (with_reducible refine Kd.C_drewN ?_ _) | (with_reducible refine Kd.C_drew ?_)))
                                (case side4 => exact HC414.out)
                                rintro e w' ⟨rfl, ⟨nd, rfl⟩⟩
                                refine ⟨_, rfl, ?_⟩
                                refine hK.out _ _ trivial (fun hHeld => ?_)
                                clear hK K
                                refine norm_ (a' := ?_) ?_ ?_
                                rotate_left
                                · show Act.put _ (some 58) _ = _
                                  simp only [Act.put, List.setIfInBounds_toArray, List.set_cons_zero, List.set_cons_succ, i64_w, i32_w]
                                  rfl
                                refine pure_ (i := 23) (N := some 59) (v := ?_) (a' := ?_) #[true, true, true, true, true, true, true, true, true, true, true, true, true, true, true, true, true, true, true, true, true, true, true, true, false, false, false, false, false, false, false, false, false, false, false, false, false, false, false, false, false, false, false, false, false, false, false, false, false, false, false, false, false, false, false, false, false, false, false, false, false, false, false, false, false, false, false, false, false, false, false, false] rfl rfl (any_of HT_.out (by kernel_rfl)) (fun _ _ _ h => h) (Or.inl ⟨by rfl, ?_⟩) ?_ ?_
                                rotate_left
                                · intro w'
                                  go_simp
                                  with_reducible rfl
                                rotate_left
                                · simp only [Act.put, List.setIfInBounds_toArray, List.set_cons_zero, List.set_cons_succ, i64_w, i32_w]
                                  rfl
                                refine pure_ (i := 24) (N := some 60) (v := ?_) (a' := ?_) #[true, true, true, true, true, true, true, true, true, true, true, true, true, true, true, true, true, true, true, true, true, true, true, true, true, false, false, false, false, false, false, false, false, false, false, false, false, false, false, false, false, false, false, false, false, false, false, false, false, false, false, false, false, false, false, false, false, false, false, false, false, false, false, false, false, false, false, false, false, false, false, false] rfl rfl (any_of HT_.out (by kernel_rfl)) (fun _ _ _ h => h) (Or.inl ⟨by rfl, ?_⟩) ?_ ?_
                                rotate_left
                                · intro w'
                                  go_simp
                                  with_reducible rfl
                                rotate_left
                                · simp only [Act.put, List.setIfInBounds_toArray, List.set_cons_zero, List.set_cons_succ, i64_w, i32_w]
                                  rfl
                                refine pure_ (i := 25) (N := some 61) (v := ?_) (a' := ?_) #[true, true, true, true, true, true, true, true, true, true, true, true, true, true, true, true, true, true, true, true, true, true, true, true, true, true, false, false, false, false, false, false, false, false, false, false, false, false, false, false, false, false, false, false, false, false, false, false, false, false, false, false, false, false, false, false, false, false, false, false, false, false, false, false, false, false, false, false, false, false, false, false] rfl rfl (any_of HT_.out (by kernel_rfl)) (fun _ _ _ h => h) (Or.inl ⟨by rfl, ?_⟩) ?_ ?_
                                rotate_left
                                · intro w'
                                  go_simp
                                  with_reducible rfl
                                rotate_left
                                · simp only [Act.put, List.setIfInBounds_toArray, List.set_cons_zero, List.set_cons_succ, i64_w, i32_w]
                                  rfl
                                refine pure_ (i := 26) (N := some 62) (v := ?_) (a' := ?_) #[true, true, true, true, true, true, true, true, true, true, true, true, true, true, true, true, true, true, true, true, true, true, true, true, true, true, true, false, false, false, false, false, false, false, false, false, false, false, false, false, false, false, false, false, false, false, false, false, false, false, false, false, false, false, false, false, false, false, false, false, false, false, false, false, false, false, false, false, false, false, false, false] rfl rfl (any_of HT_.out (by kernel_rfl)) (fun _ _ _ h => h) (Or.inl ⟨by rfl, ?_⟩) ?_ ?_
                                rotate_left
                                · intro w'
                                  go_simp
                                  with_reducible rfl
                                rotate_left
                                · simp only [Act.put, List.setIfInBounds_toArray, List.set_cons_zero, List.set_cons_succ, i64_w, i32_w]
                                  rfl
                                refine pure_ (i := 28) (N := some 64) (v := ?_) (a' := ?_) #[true, true, true, true, true, true, true, true, true, true, true, true, true, true, true, true, true, true, true, true, true, true, true, true, true, true, true, false, true, false, false, false, false, false, false, false, false, false, false, false, false, false, false, false, false, false, false, false, false, false, false, false, false, false, false, false, false, false, false, false, false, false, false, false, false, false, false, false, false, false, false, false] rfl rfl (any_of HT_.out (by kernel_rfl)) (fun _ _ _ h => h) (Or.inl ⟨by rfl, ?_⟩) ?_ ?_
                                rotate_left
                                · intro w'
                                  go_simp
                                  with_reducible rfl
                                rotate_left
                                · simp only [Act.put, List.setIfInBounds_toArray, List.set_cons_zero, List.set_cons_succ, i64_w, i32_w]
                                  rfl
                                refine one_ (i := 27) (N := some 63) #[true, true, true, true, true, true, true, true, true, true, true, true, true, true, true, true, true, true, true, true, true, true, true, true, true, true, true, true, true, false, false, false, false, false, false, false, false, false, false, false, false, false, false, false, false, false, false, false, false, false, false, false, false, false, false, false, false, false, false, false, false, false, false, false, false, false, false, false, false, false, false, false] rfl rfl (one_of HT_.out (by kernel_rfl)) (by decide) (fun K hK => ?_)
                                refine goes_ Try.func35 (by kernel_rfl) rfl #[.int .i64 (wrap64 (a0)), .int .i64 (wrap64 (a2))] (by rfl) rfl rfl (by (try simp only [List.map_toArray, List.map_cons, List.map_nil]); first | done | rfl | (simp only [List.length_drop, List.length_take]; rfl)) ?_
                                with_reducible refine (path_Upload.calls k (wrap64 (a0)) (wrap64 (a2)) t416 _ A23.out).mono ?_
                                rintro e w59 ⟨v417, rfl, ho0, hb⟩
                                refine ⟨_, rfl, ?_⟩
                                have n0_ := Aside0.mk (Kd.R_elder' (by (with_reducible repeat (first | apply Kd.R_alloc | apply Kd.R_drewN | apply Kd.R_drew)); exact HO389.out) (Kd.R_base ho0) hb)
                                have n1_ := Aside0.mk (Kd.R_elder' (by (with_reducible repeat (first | apply Kd.R_alloc | apply Kd.R_drewN | apply Kd.R_drew)); exact HO392.out) (Kd.R_base ho0) hb)
                                have n2_ := Aside0.mk (Kd.R_elder' (by (with_reducible repeat (first | apply Kd.R_alloc | apply Kd.R_drewN | apply Kd.R_drew)); exact HO395.out) (Kd.R_base ho0) hb)
                                have n3_ := Aside0.mk (Kd.R_elder' (by (with_reducible repeat (first | apply Kd.R_alloc | apply Kd.R_drewN | apply Kd.R_drew)); exact HO398.out) (Kd.R_base ho0) hb)
                                have n4_ := Aside0.mk (Kd.R_elder' (by (with_reducible repeat (first | apply Kd.R_alloc | apply Kd.R_drewN | apply Kd.R_drew)); exact HO402.out) (Kd.R_base ho0) hb)
                                have n5_ := Aside0.mk (Kd.R_elder' (by (with_reducible repeat (first | apply Kd.R_alloc | apply Kd.R_drewN | apply Kd.R_drew)); exact HO410.out) (Kd.R_base ho0) hb)
                                have n6_ := Aside0.mk (Kd.R_lower (Kd.R_new' (Kd.R_new' (Kd.R_new' (Kd.R_new' (Kd.R_new' (Kd.R_new' ho0 (Kd.R_lt (by (with_reducible repeat (first | apply Kd.R_alloc | apply Kd.R_drewN | apply Kd.R_drew)); exact HO389.out))) (Kd.R_lt (by (with_reducible repeat (first | apply Kd.R_alloc | apply Kd.R_drewN | apply Kd.R_drew)); exact HO392.out))) (Kd.R_lt (by (with_reducible repeat (first | apply Kd.R_alloc | apply Kd.R_drewN | apply Kd.R_drew)); exact HO395.out))) (Kd.R_lt (by (with_reducible repeat (first | apply Kd.R_alloc | apply Kd.R_drewN | apply Kd.R_drew)); exact HO398.out))) (Kd.R_lt (by (with_reducible repeat (first | apply Kd.R_alloc | apply Kd.R_drewN | apply Kd.R_drew)); exact HO402.out))) (Kd.R_lt (by (with_reducible repeat (first | apply Kd.R_alloc | apply Kd.R_drewN | apply Kd.R_drew)); exact HO410.out))) (below_size (by repeat (first | (with_reducible first | exact HB.out | apply below_alloc | apply pw_below_drewN | apply below_drew1) | exact HB.out))))
                                (first | have n7_ := Aside0.mk (Kd.C_below (Kd.C_drewN HR406.out _) hb) | have n7_ := Aside0.mk (Kd.C_below HR406.out hb) | have n7_ := Aside0.mk (Kd.C_below (by repeat (first | (with_reducible exact HR406.out) | (with_reducible refine Kd.C_alloc ?_ _) | (with_reducible refine Kd.C_drewN ?_ _) | (with_reducible refine Kd.C_drew ?_) | exact HR406.out)) hb))
                                (first | have n8_ := Aside0.mk (Kd.C_below (Kd.C_drewN HR414.out _) hb) | have n8_ := Aside0.mk (Kd.C_below HR414.out hb) | have n8_ := Aside0.mk (Kd.C_below (by repeat (first | (with_reducible exact HR414.out) | (with_reducible refine Kd.C_alloc ?_ _) | (with_reducible refine Kd.C_drewN ?_ _) | (with_reducible refine Kd.C_drew ?_) | exact HR414.out)) hb))
                                have n9_ := Aside0.mk (below_step (by repeat (first | (with_reducible first | exact HB.out | apply below_alloc | apply pw_below_drewN | apply below_drew1) | exact HB.out)) hb)
                                clear HO389
                                clear HO392
                                clear HO395
                                clear HO398
                                clear HO402
                                clear HO410
                                clear HR406
                                clear HR414
                                clear HB
                                have HO389 := n0_
                                have HO392 := n1_
                                have HO395 := n2_
                                have HO398 := n3_
                                have HO402 := n4_
                                have HO410 := n5_
                                have HO418 := n6_
                                have HR406 := n7_
                                have HR414 := n8_
                                have HB := n9_
                                clear n0_ n1_ n2_ n3_ n4_ n5_ n6_ n7_ n8_ n9_
                                (try clear hb)
                                (try clear hb2)
                                (try clear hk)
                                (try clear hi)
                                (try clear ho0)
                                obtain ⟨Ao60, co60, eo60⟩ := Kd.R_slice HO418.out
                                (first | subst eo60 | (injection eo60 with f1_ f2_ f3_; have f4_ := f1_.symm; have f5_ := f3_.symm; clear f1_ f2_ f3_; subst f4_; subst f5_))
                                obtain ⟨Ao61, co61, eo61⟩ := Kd.R_slice HO392.out
                                (first | subst eo61 | (injection eo61 with f1_ f2_ f3_; have f4_ := f1_.symm; have f5_ := f3_.symm; clear f1_ f2_ f3_; subst f4_; subst f5_))
                                refine hK.out _ _ trivial (fun hHeld => ?_)
                                clear hK K
                                refine norm_ (a' := ?_) ?_ ?_
                                rotate_left
                                · show Act.put _ (some 63) _ = _
                                  simp only [Act.put, List.setIfInBounds_toArray, List.set_cons_zero, List.set_cons_succ, i64_w, i32_w]
                                  rfl
                                refine one_ (i := 29) (N := some 65) #[true, true, true, true, true, true, true, true, true, true, true, true, true, true, true, true, true, true, true, true, true, true, true, true, true, true, true, true, true, true, false, false, false, false, false, false, false, false, false, false, false, false, false, false, false, false, false, false, false, false, false, false, false, false, false, false, false, false, false, false, false, false, false, false, false, false, false, false, false, false, false, false] rfl rfl (one_of HT_.out (by kernel_rfl)) (by decide) (fun K hK => ?_)
                                refine goes_ Try.func22 (by kernel_rfl) rfl #[.slice Ao60 t416.length co60, .slice Ao61 t390.length co61] (by rfl) rfl rfl (by (try simp only [List.map_toArray, List.map_cons, List.map_nil]); first | done | rfl | (simp only [List.length_drop, List.length_take]; rfl)) ?_
                                with_reducible refine (deedboxref01_Same.calls k _ _ t416 _ _ t390 true _ ?side1 ?side2 ?side3 ?side4 A24.out).mono ?_
                                (case side1 => repeat (first | exact (Kd.R_reads' HO418.out).2.2 | (with_reducible refine Kd.C_alloc ?_ _) | (with_reducible refine Kd.C_drewN ?_ _) | (with_reducible refine Kd.C_drew ?_)))
                                (case side2 => exact (Kd.R_reads' HO418.out).2.1)
                                (case side3 => repeat (first | exact (Kd.R_reads' HO392.out).2.2 | (with_reducible refine Kd.C_alloc ?_ _) | (with_reducible refine Kd.C_drewN ?_ _) | (with_reducible refine Kd.C_drew ?_)))
                                (case side4 => exact (Kd.R_reads' HO392.out).2.1)
                                rintro e w' ⟨rfl, ⟨nd, rfl⟩⟩
                                refine ⟨_, rfl, ?_⟩
                                have q62 : (3 : Int) ≤ ((t390.length : Int) : Int) := of_decide_eq_true (by first | (with_reducible assumption) | assumption)
                                obtain ⟨i062, hi062, _, hsz62, _⟩ := info_parts info5
                                have hroom62 : t390.length ≤ co61 := (Kd.R_reads' HO392.out).2.1
                                have hC62 : Kd.C (Kd.int .u8) _ Ao61 t390.length t390 := (Kd.R_reads' HO392.out).2.2
                                have hcut62 := cut_to (P := Try.prog) 31 5 .i64 Try.underlying31 hi062 Ao61 t390.length co61 3 (by omega) q62 hroom62
                                have hr62 := Kd.C_take (m := 3) hC62 (by omega)
                                have hy62 : y423.length = (3 : Int).toNat := (by rw [Ny423.out, List.length_take]; omega)
                                rw [← Ny423.out] at hr62
                                rw [← hy62] at hcut62
                                have HR426 := Aside0.mk hr62
                                have HC426 := Aside0.mk (show y423.length ≤ co61 from by omega)
                                clear hr62 hC62 hroom62 hi062 hsz62
                                have KY62 := Aside0.mk hy62
                                clear hy62
                                have KL62 := Aside0.mk (show 3 ≤ t390.length from by omega)
                                replace q62 := eq_true q62
                                refine hK.out _ _ trivial (fun hHeld => ?_)
                                clear hK K
                                refine norm_ (a' := ?_) ?_ ?_
                                rotate_left
                                · show Act.put _ (some 65) _ = _
                                  simp only [Act.put, List.setIfInBounds_toArray, List.set_cons_zero, List.set_cons_succ, i64_w, i32_w]
                                  rfl
                                refine pure_ (i := 30) (N := some 66) (v := ?_) (a' := ?_) #[true, true, true, true, true, true, true, true, true, true, true, true, true, true, true, true, true, true, true, true, true, true, true, true, true, true, true, true, true, true, true, false, false, false, false, false, false, false, false, false, false, false, false, false, false, false, false, false, false, false, false, false, false, false, false, false, false, false, false, false, false, false, false, false, false, false, false, false, false, false, false, false] rfl rfl (any_of HT_.out (by kernel_rfl)) (fun _ _ _ h => h) (Or.inl ⟨by rfl, ?_⟩) ?_ ?_
                                rotate_left
                                · intro w'
                                  go_simp
                                  with_reducible rfl
                                rotate_left
                                · simp only [Act.put, List.setIfInBounds_toArray, List.set_cons_zero, List.set_cons_succ, i64_w, i32_w]
                                  rfl
                                refine pure_ (i := 31) (N := some 67) (v := ?_) (a' := ?_) #[true, true, true, true, true, true, true, true, true, true, true, true, true, true, true, true, true, true, true, true, true, true, true, true, true, true, true, true, true, true, true, true, false, false, false, false, false, false, false, false, false, false, false, false, false, false, false, false, false, false, false, false, false, false, false, false, false, false, false, false, false, false, false, false, false, false, false, false, false, false, false, false] rfl rfl (any_of HT_.out (by kernel_rfl)) (fun _ _ _ h => h) (Or.inl ⟨by rfl, ?_⟩) ?_ ?_
                                rotate_left
                                · intro w'
                                  go_simp
                                  with_reducible rfl
                                rotate_left
                                · simp only [Act.put, List.setIfInBounds_toArray, List.set_cons_zero, List.set_cons_succ, i64_w, i32_w]
                                  rfl
                                refine pure_ (i := 32) (N := some 68) (v := ?_) (a' := ?_) #[true, true, true, true, true, true, true, true, true, true, true, true, true, true, true, true, true, true, true, true, true, true, true, true, true, true, true, true, true, true, true, true, true, false, false, false, false, false, false, false, false, false, false, false, false, false, false, false, false, false, false, false, false, false, false, false, false, false, false, false, false, false, false, false, false, false, false, false, false, false, false, false] rfl rfl (any_of HT_.out (by kernel_rfl)) (fun _ _ _ h => h) (Or.inl ⟨by rfl, ?_⟩) ?_ ?_
                                rotate_left
                                · intro w'
                                  go_simp
                                  with_reducible rfl
                                rotate_left
                                · simp only [Act.put, List.setIfInBounds_toArray, List.set_cons_zero, List.set_cons_succ, i64_w, i32_w]
                                  rfl
                                refine pure_ (i := 34) (N := some 70) (v := ?_) (a' := ?_) #[true, true, true, true, true, true, true, true, true, true, true, true, true, true, true, true, true, true, true, true, true, true, true, true, true, true, true, true, true, true, true, true, true, false, true, false, false, false, false, false, false, false, false, false, false, false, false, false, false, false, false, false, false, false, false, false, false, false, false, false, false, false, false, false, false, false, false, false, false, false, false, false] rfl rfl (any_of HT_.out (by kernel_rfl)) (fun _ _ _ h => h) (Or.inl ⟨by rfl, ?_⟩) ?_ ?_
                                rotate_left
                                · intro w'
                                  go_simp
                                  with_reducible rfl
                                rotate_left
                                · simp only [Act.put, List.setIfInBounds_toArray, List.set_cons_zero, List.set_cons_succ, i64_w, i32_w]
                                  rfl
                                refine pure_ (i := 35) (N := some 71) (v := ?_) (a' := ?_) #[true, true, true, true, true, true, true, true, true, true, true, true, true, true, true, true, true, true, true, true, true, true, true, true, true, true, true, true, true, true, true, true, true, false, true, true, false, false, false, false, false, false, false, false, false, false, false, false, false, false, false, false, false, false, false, false, false, false, false, false, false, false, false, false, false, false, false, false, false, false, false, false] rfl rfl (any_of HT_.out (by kernel_rfl)) (fun _ _ _ h => h) (Or.inl ⟨by rfl, ?_⟩) ?_ ?_
                                rotate_left
                                · intro w'
                                  go_simp
                                  with_reducible rfl
                                rotate_left
                                · simp only [Act.put, List.setIfInBounds_toArray, List.set_cons_zero, List.set_cons_succ, i64_w, i32_w]
                                  rfl
                                refine one_ (i := 33) (N := some 69) #[true, true, true, true, true, true, true, true, true, true, true, true, true, true, true, true, true, true, true, true, true, true, true, true, true, true, true, true, true, true, true, true, true, true, true, true, false, false, false, false, false, false, false, false, false, false, false, false, false, false, false, false, false, false, false, false, false, false, false, false, false, false, false, false, false, false, false, false, false, false, false, false] rfl rfl (one_of HT_.out (by kernel_rfl)) (by decide) (fun K hK => ?_)
                                refine goes_ Try.func36 (by kernel_rfl) rfl #[.int .i64 (wrap64 (a0))] (by rfl) rfl rfl (by (try simp only [List.map_toArray, List.map_cons, List.map_nil]); first | done | rfl | (simp only [List.length_drop, List.length_take]; rfl)) ?_
                                with_reducible refine (path_Uploads.calls k (wrap64 (a0)) t420 _ A26.out).mono ?_
                                rintro e w63 ⟨v421, rfl, ho0, hb⟩
                                refine ⟨_, rfl, ?_⟩
                                have n0_ := Aside0.mk (Kd.R_elder' (by (with_reducible repeat (first | apply Kd.R_alloc | apply Kd.R_drewN | apply Kd.R_drew)); exact HO389.out) (Kd.R_base ho0) hb)
                                have n1_ := Aside0.mk (Kd.R_elder' (by (with_reducible repeat (first | apply Kd.R_alloc | apply Kd.R_drewN | apply Kd.R_drew)); exact HO392.out) (Kd.R_base ho0) hb)
                                have n2_ := Aside0.mk (Kd.R_elder' (by (with_reducible repeat (first | apply Kd.R_alloc | apply Kd.R_drewN | apply Kd.R_drew)); exact HO395.out) (Kd.R_base ho0) hb)
                                have n3_ := Aside0.mk (Kd.R_elder' (by (with_reducible repeat (first | apply Kd.R_alloc | apply Kd.R_drewN | apply Kd.R_drew)); exact HO398.out) (Kd.R_base ho0) hb)
                                have n4_ := Aside0.mk (Kd.R_elder' (by (with_reducible repeat (first | apply Kd.R_alloc | apply Kd.R_drewN | apply Kd.R_drew)); exact HO402.out) (Kd.R_base ho0) hb)
                                have n5_ := Aside0.mk (Kd.R_elder' (by (with_reducible repeat (first | apply Kd.R_alloc | apply Kd.R_drewN | apply Kd.R_drew)); exact HO410.out) (Kd.R_base ho0) hb)
                                have n6_ := Aside0.mk (Kd.R_elder' (by (with_reducible repeat (first | apply Kd.R_alloc | apply Kd.R_drewN | apply Kd.R_drew)); exact HO418.out) (Kd.R_base ho0) hb)
                                have n7_ := Aside0.mk (Kd.R_lower (Kd.R_new' (Kd.R_new' (Kd.R_new' (Kd.R_new' (Kd.R_new' (Kd.R_new' (Kd.R_new' ho0 (Kd.R_lt (by (with_reducible repeat (first | apply Kd.R_alloc | apply Kd.R_drewN | apply Kd.R_drew)); exact HO389.out))) (Kd.R_lt (by (with_reducible repeat (first | apply Kd.R_alloc | apply Kd.R_drewN | apply Kd.R_drew)); exact HO392.out))) (Kd.R_lt (by (with_reducible repeat (first | apply Kd.R_alloc | apply Kd.R_drewN | apply Kd.R_drew)); exact HO395.out))) (Kd.R_lt (by (with_reducible repeat (first | apply Kd.R_alloc | apply Kd.R_drewN | apply Kd.R_drew)); exact HO398.out))) (Kd.R_lt (by (with_reducible repeat (first | apply Kd.R_alloc | apply Kd.R_drewN | apply Kd.R_drew)); exact HO402.out))) (Kd.R_lt (by (with_reducible repeat (first | apply Kd.R_alloc | apply Kd.R_drewN | apply Kd.R_drew)); exact HO410.out))) (Kd.R_lt (by (with_reducible repeat (first | apply Kd.R_alloc | apply Kd.R_drewN | apply Kd.R_drew)); exact HO418.out))) (below_size (by repeat (first | (with_reducible first | exact HB.out | apply below_alloc | apply pw_below_drewN | apply below_drew1) | exact HB.out))))
                                (first | have n8_ := Aside0.mk (Kd.C_below (Kd.C_drewN HR406.out _) hb) | have n8_ := Aside0.mk (Kd.C_below HR406.out hb) | have n8_ := Aside0.mk (Kd.C_below (by repeat (first | (with_reducible exact HR406.out) | (with_reducible refine Kd.C_alloc ?_ _) | (with_reducible refine Kd.C_drewN ?_ _) | (with_reducible refine Kd.C_drew ?_) | exact HR406.out)) hb))
                                (first | have n9_ := Aside0.mk (Kd.C_below (Kd.C_drewN HR414.out _) hb) | have n9_ := Aside0.mk (Kd.C_below HR414.out hb) | have n9_ := Aside0.mk (Kd.C_below (by repeat (first | (with_reducible exact HR414.out) | (with_reducible refine Kd.C_alloc ?_ _) | (with_reducible refine Kd.C_drewN ?_ _) | (with_reducible refine Kd.C_drew ?_) | exact HR414.out)) hb))
                                (first | have n10_ := Aside0.mk (Kd.C_below (Kd.C_drewN HR426.out _) hb) | have n10_ := Aside0.mk (Kd.C_below HR426.out hb) | have n10_ := Aside0.mk (Kd.C_below (by repeat (first | (with_reducible exact HR426.out) | (with_reducible refine Kd.C_alloc ?_ _) | (with_reducible refine Kd.C_drewN ?_ _) | (with_reducible refine Kd.C_drew ?_) | exact HR426.out)) hb))
                                have n11_ := Aside0.mk (below_step (by repeat (first | (with_reducible first | exact HB.out | apply below_alloc | apply pw_below_drewN | apply below_drew1) | exact HB.out)) hb)
                                clear HO389
                                clear HO392
                                clear HO395
                                clear HO398
                                clear HO402
                                clear HO410
                                clear HO418
                                clear HR406
                                clear HR414
                                clear HR426
                                clear HB
                                have HO389 := n0_
                                have HO392 := n1_
                                have HO395 := n2_
                                have HO398 := n3_
                                have HO402 := n4_
                                have HO410 := n5_
                                have HO418 := n6_
                                have HO422 := n7_
                                have HR406 := n8_
                                have HR414 := n9_
                                have HR426 := n10_
                                have HB := n11_
                                clear n0_ n1_ n2_ n3_ n4_ n5_ n6_ n7_ n8_ n9_ n10_ n11_
                                (try clear hb)
                                (try clear hb2)
                                (try clear hk)
                                (try clear hi)
                                (try clear ho0)
                                obtain ⟨Ao64, co64, eo64⟩ := Kd.R_slice HO422.out
                                (first | subst eo64 | (injection eo64 with f1_ f2_ f3_; have f4_ := f1_.symm; have f5_ := f3_.symm; clear f1_ f2_ f3_; subst f4_; subst f5_))
                                refine hK.out _ _ trivial (fun hHeld => ?_)
                                clear hK K
                                refine norm_ (a' := ?_) ?_ ?_
                                rotate_left
                                · show Act.put _ (some 69) _ = _
                                  simp only [Act.put, List.setIfInBounds_toArray, List.set_cons_zero, List.set_cons_succ, i64_w, i32_w]
                                  rfl
                                refine one_ (i := 36) (N := some 72) #[true, true, true, true, true, true, true, true, true, true, true, true, true, true, true, true, true, true, true, true, true, true, true, true, true, true, true, true, true, true, true, true, true, true, true, true, true, false, false, false, false, false, false, false, false, false, false, false, false, false, false, false, false, false, false, false, false, false, false, false, false, false, false, false, false, false, false, false, false, false, false, false] rfl rfl (one_of HT_.out (by kernel_rfl)) (by decide) (fun K hK => ?_)
                                refine goes_ Try.func22 (by kernel_rfl) rfl #[.slice Ao64 t420.length co64, .slice Ao61 y423.length co61] (by rfl) rfl rfl (by (try simp only [List.map_toArray, List.map_cons, List.map_nil]); first | done | rfl | (simp only [List.length_drop, List.length_take]; rfl)) ?_
                                with_reducible refine (deedboxref01_Same.calls k _ _ t420 _ _ y423 true _ ?side1 ?side2 ?side3 ?side4 A28.out).mono ?_
                                (case side1 => repeat (first | exact (Kd.R_reads' HO422.out).2.2 | (with_reducible refine Kd.C_alloc ?_ _) | (with_reducible refine Kd.C_drewN ?_ _) | (with_reducible refine Kd.C_drew ?_)))
                                (case side2 => exact (Kd.R_reads' HO422.out).2.1)
                                (case side3 => repeat (first | exact (by repeat (first | (with_reducible exact HR426.out) | (with_reducible refine Kd.C_alloc ?_ _) | (with_reducible refine Kd.C_drewN ?_ _) | (with_reducible refine Kd.C_drew ?_) | exact HR426.out)) | (with_reducible refine Kd.C_alloc ?_ _) | (with_reducible refine Kd.C_drewN ?_ _) | (with_reducible refine Kd.C_drew ?_)))
                                (case side4 => exact HC426.out)
                                rintro e w' ⟨rfl, ⟨nd, rfl⟩⟩
                                refine ⟨_, rfl, ?_⟩
                                refine hK.out _ _ trivial (fun hHeld => ?_)
                                clear hK K
                                refine norm_ (a' := ?_) ?_ ?_
                                rotate_left
                                · show Act.put _ (some 72) _ = _
                                  simp only [Act.put, List.setIfInBounds_toArray, List.set_cons_zero, List.set_cons_succ, i64_w, i32_w]
                                  rfl
                                refine pure_ (i := 37) (N := some 73) (v := ?_) (a' := ?_) #[true, true, true, true, true, true, true, true, true, true, true, true, true, true, true, true, true, true, true, true, true, true, true, true, true, true, true, true, true, true, true, true, true, true, true, true, true, true, false, false, false, false, false, false, false, false, false, false, false, false, false, false, false, false, false, false, false, false, false, false, false, false, false, false, false, false, false, false, false, false, false, false] rfl rfl (any_of HT_.out (by kernel_rfl)) (fun _ _ _ h => h) (Or.inl ⟨by rfl, ?_⟩) ?_ ?_
                                rotate_left
                                · intro w'
                                  go_simp
                                  with_reducible rfl
                                rotate_left
                                · simp only [Act.put, List.setIfInBounds_toArray, List.set_cons_zero, List.set_cons_succ, i64_w, i32_w]
                                  rfl
                                refine pure_ (i := 38) (N := some 74) (v := ?_) (a' := ?_) #[true, true, true, true, true, true, true, true, true, true, true, true, true, true, true, true, true, true, true, true, true, true, true, true, true, true, true, true, true, true, true, true, true, true, true, true, true, true, true, false, false, false, false, false, false, false, false, false, false, false, false, false, false, false, false, false, false, false, false, false, false, false, false, false, false, false, false, false, false, false, false, false] rfl rfl (any_of HT_.out (by kernel_rfl)) (fun _ _ _ h => h) (Or.inl ⟨by rfl, ?_⟩) ?_ ?_
                                rotate_left
                                · intro w'
                                  go_simp
                                  with_reducible rfl
                                rotate_left
                                · simp only [Act.put, List.setIfInBounds_toArray, List.set_cons_zero, List.set_cons_succ, i64_w, i32_w]
                                  rfl
                                refine pure_ (i := 39) (N := some 75) (v := ?_) (a' := ?_) #[true, true, true, true, true, true, true, true, true, true, true, true, true, true, true, true, true, true, true, true, true, true, true, true, true, true, true, true, true, true, true, true, true, true, true, true, true, true, true, true, false, false, false, false, false, false, false, false, false, false, false, false, false, false, false, false, false, false, false, false, false, false, false, false, false, false, false, false, false, false, false, false] rfl rfl (any_of HT_.out (by kernel_rfl)) (fun _ _ _ h => h) (Or.inl ⟨by rfl, ?_⟩) ?_ ?_
                                rotate_left
                                · intro w'
                                  go_simp
                                  with_reducible rfl
                                rotate_left
                                · simp only [Act.put, List.setIfInBounds_toArray, List.set_cons_zero, List.set_cons_succ, i64_w, i32_w]
                                  rfl
                                refine pure_ (i := 40) (N := some 76) (v := ?_) (a' := ?_) #[true, true, true, true, true, true, true, true, true, true, true, true, true, true, true, true, true, true, true, true, true, true, true, true, true, true, true, true, true, true, true, true, true, true, true, true, true, true, true, true, true, false, false, false, false, false, false, false, false, false, false, false, false, false, false, false, false, false, false, false, false, false, false, false, false, false, false, false, false, false, false, false] rfl rfl (any_of HT_.out (by kernel_rfl)) (fun _ _ _ h => h) (Or.inl ⟨by rfl, ?_⟩) ?_ ?_
                                rotate_left
                                · intro w'
                                  go_simp
                                  with_reducible rfl
                                rotate_left
                                · simp only [Act.put, List.setIfInBounds_toArray, List.set_cons_zero, List.set_cons_succ, i64_w, i32_w]
                                  rfl
                                refine pure_ (i := 41) (N := some 77) (v := ?_) (a' := ?_) #[true, true, true, true, true, true, true, true, true, true, true, true, true, true, true, true, true, true, true, true, true, true, true, true, true, true, true, true, true, true, true, true, true, true, true, true, true, true, true, true, true, true, false, false, false, false, false, false, false, false, false, false, false, false, false, false, false, false, false, false, false, false, false, false, false, false, false, false, false, false, false, false] rfl rfl (any_of HT_.out (by kernel_rfl)) (fun _ _ _ h => h) (Or.inl ⟨by rfl, ?_⟩) ?_ ?_
                                rotate_left
                                · intro w'
                                  go_simp
                                  with_reducible rfl
                                rotate_left
                                · simp only [Act.put, List.setIfInBounds_toArray, List.set_cons_zero, List.set_cons_succ, i64_w, i32_w]
                                  rfl
                                refine pure_ (i := 43) (N := some 79) (v := ?_) (a' := ?_) #[true, true, true, true, true, true, true, true, true, true, true, true, true, true, true, true, true, true, true, true, true, true, true, true, true, true, true, true, true, true, true, true, true, true, true, true, true, true, true, true, true, true, false, true, false, false, false, false, false, false, false, false, false, false, false, false, false, false, false, false, false, false, false, false, false, false, false, false, false, false, false, false] rfl rfl (any_of HT_.out (by kernel_rfl)) (fun _ _ _ h => h) (Or.inl ⟨by rfl, ?_⟩) ?_ ?_
                                rotate_left
                                · intro w'
                                  go_simp
                                  with_reducible rfl
                                rotate_left
                                · simp only [Act.put, List.setIfInBounds_toArray, List.set_cons_zero, List.set_cons_succ, i64_w, i32_w]
                                  rfl
                                refine one_ (i := 42) (N := some 78) #[true, true, true, true, true, true, true, true, true, true, true, true, true, true, true, true, true, true, true, true, true, true, true, true, true, true, true, true, true, true, true, true, true, true, true, true, true, true, true, true, true, true, true, true, false, false, false, false, false, false, false, false, false, false, false, false, false, false, false, false, false, false, false, false, false, false, false, false, false, false, false, false] rfl rfl (one_of HT_.out (by kernel_rfl)) (by decide) (fun K hK => ?_)
                                refine goes_ Try.func37 (by kernel_rfl) rfl #[.int .i64 (wrap64 (a0)), .int .i64 (wrap64 (a2)), .int .i64 (wrap64 (a3))] (by rfl) rfl rfl (by (try simp only [List.map_toArray, List.map_cons, List.map_nil]); first | done | rfl | (simp only [List.length_drop, List.length_take]; rfl)) ?_
                                with_reducible refine (path_Part.calls k (wrap64 (a0)) (wrap64 (a2)) (wrap64 (a3)) t428 _ A30.out).mono ?_
                                rintro e w65 ⟨v429, rfl, ho0, hb⟩
                                refine ⟨_, rfl, ?_⟩
                                have n0_ := Aside0.mk (Kd.R_elder' (by (with_reducible repeat (first | apply Kd.R_alloc | apply Kd.R_drewN | apply Kd.R_drew)); exact HO389.out) (Kd.R_base ho0) hb)
                                have n1_ := Aside0.mk (Kd.R_elder' (by (with_reducible repeat (first | apply Kd.R_alloc | apply Kd.R_drewN | apply Kd.R_drew)); exact HO392.out) (Kd.R_base ho0) hb)
                                have n2_ := Aside0.mk (Kd.R_elder' (by (with_reducible repeat (first | apply Kd.R_alloc | apply Kd.R_drewN | apply Kd.R_drew)); exact HO395.out) (Kd.R_base ho0) hb)
                                have n3_ := Aside0.mk (Kd.R_elder' (by (with_reducible repeat (first | apply Kd.R_alloc | apply Kd.R_drewN | apply Kd.R_drew)); exact HO398.out) (Kd.R_base ho0) hb)
                                have n4_ := Aside0.mk (Kd.R_elder' (by (with_reducible repeat (first | apply Kd.R_alloc | apply Kd.R_drewN | apply Kd.R_drew)); exact HO402.out) (Kd.R_base ho0) hb)
                                have n5_ := Aside0.mk (Kd.R_elder' (by (with_reducible repeat (first | apply Kd.R_alloc | apply Kd.R_drewN | apply Kd.R_drew)); exact HO410.out) (Kd.R_base ho0) hb)
                                have n6_ := Aside0.mk (Kd.R_elder' (by (with_reducible repeat (first | apply Kd.R_alloc | apply Kd.R_drewN | apply Kd.R_drew)); exact HO418.out) (Kd.R_base ho0) hb)
                                have n7_ := Aside0.mk (Kd.R_elder' (by (with_reducible repeat (first | apply Kd.R_alloc | apply Kd.R_drewN | apply Kd.R_drew)); exact HO422.out) (Kd.R_base ho0) hb)
                                have n8_ := Aside0.mk (Kd.R_lower (Kd.R_new' (Kd.R_new' (Kd.R_new' (Kd.R_new' (Kd.R_new' (Kd.R_new' (Kd.R_new' (Kd.R_new' ho0 (Kd.R_lt (by (with_reducible repeat (first | apply Kd.R_alloc | apply Kd.R_drewN | apply Kd.R_drew)); exact HO389.out))) (Kd.R_lt (by (with_reducible repeat (first | apply Kd.R_alloc | apply Kd.R_drewN | apply Kd.R_drew)); exact HO392.out))) (Kd.R_lt (by (with_reducible repeat (first | apply Kd.R_alloc | apply Kd.R_drewN | apply Kd.R_drew)); exact HO395.out))) (Kd.R_lt (by (with_reducible repeat (first | apply Kd.R_alloc | apply Kd.R_drewN | apply Kd.R_drew)); exact HO398.out))) (Kd.R_lt (by (with_reducible repeat (first | apply Kd.R_alloc | apply Kd.R_drewN | apply Kd.R_drew)); exact HO402.out))) (Kd.R_lt (by (with_reducible repeat (first | apply Kd.R_alloc | apply Kd.R_drewN | apply Kd.R_drew)); exact HO410.out))) (Kd.R_lt (by (with_reducible repeat (first | apply Kd.R_alloc | apply Kd.R_drewN | apply Kd.R_drew)); exact HO418.out))) (Kd.R_lt (by (with_reducible repeat (first | apply Kd.R_alloc | apply Kd.R_drewN | apply Kd.R_drew)); exact HO422.out))) (below_size (by repeat (first | (with_reducible first | exact HB.out | apply below_alloc | apply pw_below_drewN | apply below_drew1) | exact HB.out))))
                                (first | have n9_ := Aside0.mk (Kd.C_below (Kd.C_drewN HR406.out _) hb) | have n9_ := Aside0.mk (Kd.C_below HR406.out hb) | have n9_ := Aside0.mk (Kd.C_below (by repeat (first | (with_reducible exact HR406.out) | (with_reducible refine Kd.C_alloc ?_ _) | (with_reducible refine Kd.C_drewN ?_ _) | (with_reducible refine Kd.C_drew ?_) | exact HR406.out)) hb))
                                (first | have n10_ := Aside0.mk (Kd.C_below (Kd.C_drewN HR414.out _) hb) | have n10_ := Aside0.mk (Kd.C_below HR414.out hb) | have n10_ := Aside0.mk (Kd.C_below (by repeat (first | (with_reducible exact HR414.out) | (with_reducible refine Kd.C_alloc ?_ _) | (with_reducible refine Kd.C_drewN ?_ _) | (with_reducible refine Kd.C_drew ?_) | exact HR414.out)) hb))
                                (first | have n11_ := Aside0.mk (Kd.C_below (Kd.C_drewN HR426.out _) hb) | have n11_ := Aside0.mk (Kd.C_below HR426.out hb) | have n11_ := Aside0.mk (Kd.C_below (by repeat (first | (with_reducible exact HR426.out) | (with_reducible refine Kd.C_alloc ?_ _) | (with_reducible refine Kd.C_drewN ?_ _) | (with_reducible refine Kd.C_drew ?_) | exact HR426.out)) hb))
                                have n12_ := Aside0.mk (below_step (by repeat (first | (with_reducible first | exact HB.out | apply below_alloc | apply pw_below_drewN | apply below_drew1) | exact HB.out)) hb)
                                clear HO389
                                clear HO392
                                clear HO395
                                clear HO398
                                clear HO402
                                clear HO410
                                clear HO418
                                clear HO422
                                clear HR406
                                clear HR414
                                clear HR426
                                clear HB
                                have HO389 := n0_
                                have HO392 := n1_
                                have HO395 := n2_
                                have HO398 := n3_
                                have HO402 := n4_
                                have HO410 := n5_
                                have HO418 := n6_
                                have HO422 := n7_
                                have HO430 := n8_
                                have HR406 := n9_
                                have HR414 := n10_
                                have HR426 := n11_
                                have HB := n12_
                                clear n0_ n1_ n2_ n3_ n4_ n5_ n6_ n7_ n8_ n9_ n10_ n11_ n12_
                                (try clear hb)
                                (try clear hb2)
                                (try clear hk)
                                (try clear hi)
                                (try clear ho0)
                                obtain ⟨Ao66, co66, eo66⟩ := Kd.R_slice HO430.out
                                (first | subst eo66 | (injection eo66 with f1_ f2_ f3_; have f4_ := f1_.symm; have f5_ := f3_.symm; clear f1_ f2_ f3_; subst f4_; subst f5_))
                                obtain ⟨Ao67, co67, eo67⟩ := Kd.R_slice HO395.out
                                (first | subst eo67 | (injection eo67 with f1_ f2_ f3_; have f4_ := f1_.symm; have f5_ := f3_.symm; clear f1_ f2_ f3_; subst f4_; subst f5_))
                                refine hK.out _ _ trivial (fun hHeld => ?_)
                                clear hK K
                                refine norm_ (a' := ?_) ?_ ?_
                                rotate_left
                                · show Act.put _ (some 78) _ = _
                                  simp only [Act.put, List.setIfInBounds_toArray, List.set_cons_zero, List.set_cons_succ, i64_w, i32_w]
                                  rfl
                                refine one_ (i := 44) (N := some 80) #[true, true, true, true, true, true, true, true, true, true, true, true, true, true, true, true, true, true, true, true, true, true, true, true, true, true, true, true, true, true, true, true, true, true, true, true, true, true, true, true, true, true, true, true, true, false, false, false, false, false, false, false, false, false, false, false, false, false, false, false, false, false, false, false, false, false, false, false, false, false, false, false] rfl rfl (one_of HT_.out (by kernel_rfl)) (by decide) (fun K hK => ?_)
                                refine goes_ Try.func22 (by kernel_rfl) rfl #[.slice Ao66 t428.length co66, .slice Ao67 t393.length co67] (by rfl) rfl rfl (by (try simp only [List.map_toArray, List.map_cons, List.map_nil]); first | done | rfl | (simp only [List.length_drop, List.length_take]; rfl)) ?_
                                with_reducible refine (deedboxref01_Same.calls k _ _ t428 _ _ t393 true _ ?side1 ?side2 ?side3 ?side4 A31.out).mono ?_
                                (case side1 => repeat (first | exact (Kd.R_reads' HO430.out).2.2 | (with_reducible refine Kd.C_alloc ?_ _) | (with_reducible refine Kd.C_drewN ?_ _) | (with_reducible refine Kd.C_drew ?_)))
                                (case side2 => exact (Kd.R_reads' HO430.out).2.1)
                                (case side3 => repeat (first | exact (Kd.R_reads' HO395.out).2.2 | (with_reducible refine Kd.C_alloc ?_ _) | (with_reducible refine Kd.C_drewN ?_ _) | (with_reducible refine Kd.C_drew ?_)))
                                (case side4 => exact (Kd.R_reads' HO395.out).2.1)
                                rintro e w' ⟨rfl, ⟨nd, rfl⟩⟩
                                refine ⟨_, rfl, ?_⟩
                                have q68 : (9 : Int) ≤ ((t393.length : Int) : Int) := of_decide_eq_true (by first | (with_reducible assumption) | assumption)
                                obtain ⟨i068, hi068, _, hsz68, _⟩ := info_parts info5
                                have hroom68 : t393.length ≤ co67 := (Kd.R_reads' HO395.out).2.1
                                have hC68 : Kd.C (Kd.int .u8) _ Ao67 t393.length t393 := (Kd.R_reads' HO395.out).2.2
                                have hcut68 := cut_to (P := Try.prog) 31 5 .i64 Try.underlying31 hi068 Ao67 t393.length co67 9 (by omega) q68 hroom68
                                have hr68 := Kd.C_take (m := 9) hC68 (by omega)
                                have hy68 : y435.length = (9 : Int).toNat := (by rw [Ny435.out, List.length_take]; omega)
                                rw [← Ny435.out] at hr68
                                rw [← hy68] at hcut68
                                have HR438 := Aside0.mk hr68
                                have HC438 := Aside0.mk (show y435.length ≤ co67 from by omega)
                                clear hr68 hC68 hroom68 hi068 hsz68
                                have KY68 := Aside0.mk hy68
                                clear hy68
                                have KL68 := Aside0.mk (show 9 ≤ t393.length from by omega)
                                replace q68 := eq_true q68
                                refine hK.out _ _ trivial (fun hHeld => ?_)
                                clear hK K
                                refine norm_ (a' := ?_) ?_ ?_
                                rotate_left
                                · show Act.put _ (some 80) _ = _
                                  simp only [Act.put, List.setIfInBounds_toArray, List.set_cons_zero, List.set_cons_succ, i64_w, i32_w]
                                  rfl
                                refine pure_ (i := 45) (N := some 81) (v := ?_) (a' := ?_) #[true, true, true, true, true, true, true, true, true, true, true, true, true, true, true, true, true, true, true, true, true, true, true, true, true, true, true, true, true, true, true, true, true, true, true, true, true, true, true, true, true, true, true, true, true, true, false, false, false, false, false, false, false, false, false, false, false, false, false, false, false, false, false, false, false, false, false, false, false, false, false, false] rfl rfl (any_of HT_.out (by kernel_rfl)) (fun _ _ _ h => h) (Or.inl ⟨by rfl, ?_⟩) ?_ ?_
                                rotate_left
                                · intro w'
                                  go_simp
                                  with_reducible rfl
                                rotate_left
                                · simp only [Act.put, List.setIfInBounds_toArray, List.set_cons_zero, List.set_cons_succ, i64_w, i32_w]
                                  rfl
                                refine pure_ (i := 46) (N := some 82) (v := ?_) (a' := ?_) #[true, true, true, true, true, true, true, true, true, true, true, true, true, true, true, true, true, true, true, true, true, true, true, true, true, true, true, true, true, true, true, true, true, true, true, true, true, true, true, true, true, true, true, true, true, true, true, false, false, false, false, false, false, false, false, false, false, false, false, false, false, false, false, false, false, false, false, false, false, false, false, false] rfl rfl (any_of HT_.out (by kernel_rfl)) (fun _ _ _ h => h) (Or.inl ⟨by rfl, ?_⟩) ?_ ?_
                                rotate_left
                                · intro w'
                                  go_simp
                                  with_reducible rfl
                                rotate_left
                                · simp only [Act.put, List.setIfInBounds_toArray, List.set_cons_zero, List.set_cons_succ, i64_w, i32_w]
                                  rfl
                                refine pure_ (i := 47) (N := some 83) (v := ?_) (a' := ?_) #[true, true, true, true, true, true, true, true, true, true, true, true, true, true, true, true, true, true, true, true, true, true, true, true, true, true, true, true, true, true, true, true, true, true, true, true, true, true, true, true, true, true, true, true, true, true, true, true, false, false, false, false, false, false, false, false, false, false, false, false, false, false, false, false, false, false, false, false, false, false, false, false] rfl rfl (any_of HT_.out (by kernel_rfl)) (fun _ _ _ h => h) (Or.inl ⟨by rfl, ?_⟩) ?_ ?_
                                rotate_left
                                · intro w'
                                  go_simp
                                  with_reducible rfl
                                rotate_left
                                · simp only [Act.put, List.setIfInBounds_toArray, List.set_cons_zero, List.set_cons_succ, i64_w, i32_w]
                                  rfl
                                refine pure_ (i := 48) (N := some 84) (v := ?_) (a' := ?_) #[true, true, true, true, true, true, true, true, true, true, true, true, true, true, true, true, true, true, true, true, true, true, true, true, true, true, true, true, true, true, true, true, true, true, true, true, true, true, true, true, true, true, true, true, true, true, true, true, true, false, false, false, false, false, false, false, false, false, false, false, false, false, false, false, false, false, false, false, false, false, false, false] rfl rfl (any_of HT_.out (by kernel_rfl)) (fun _ _ _ h => h) (Or.inl ⟨by rfl, ?_⟩) ?_ ?_
                                rotate_left
                                · intro w'
                                  go_simp
                                  with_reducible rfl
                                rotate_left
                                · simp only [Act.put, List.setIfInBounds_toArray, List.set_cons_zero, List.set_cons_succ, i64_w, i32_w]
                                  rfl
                                refine pure_ (i := 50) (N := some 86) (v := ?_) (a' := ?_) #[true, true, true, true, true, true, true, true, true, true, true, true, true, true, true, true, true, true, true, true, true, true, true, true, true, true, true, true, true, true, true, true, true, true, true, true, true, true, true, true, true, true, true, true, true, true, true, true, true, false, true, false, false, false, false, false, false, false, false, false, false, false, false, false, false, false, false, false, false, false, false, false] rfl rfl (any_of HT_.out (by kernel_rfl)) (fun _ _ _ h => h) (Or.inl ⟨by rfl, ?_⟩) ?_ ?_
                                rotate_left
                                · intro w'
                                  go_simp
                                  with_reducible rfl
                                rotate_left
                                · simp only [Act.put, List.setIfInBounds_toArray, List.set_cons_zero, List.set_cons_succ, i64_w, i32_w]
                                  rfl
                                refine pure_ (i := 51) (N := some 87) (v := ?_) (a' := ?_) #[true, true, true, true, true, true, true, true, true, true, true, true, true, true, true, true, true, true, true, true, true, true, true, true, true, true, true, true, true, true, true, true, true, true, true, true, true, true, true, true, true, true, true, true, true, true, true, true, true, false, true, true, false, false, false, false, false, false, false, false, false, false, false, false, false, false, false, false, false, false, false, false] rfl rfl (any_of HT_.out (by kernel_rfl)) (fun _ _ _ h => h) (Or.inl ⟨by rfl, ?_⟩) ?_ ?_
                                rotate_left
                                · intro w'
                                  go_simp
                                  with_reducible rfl
                                rotate_left
                                · simp only [Act.put, List.setIfInBounds_toArray, List.set_cons_zero, List.set_cons_succ, i64_w, i32_w]
                                  rfl
                                refine one_ (i := 49) (N := some 85) #[true, true, true, true, true, true, true, true, true, true, true, true, true, true, true, true, true, true, true, true, true, true, true, true, true, true, true, true, true, true, true, true, true, true, true, true, true, true, true, true, true, true, true, true, true, true, true, true, true, true, true, true, false, false, false, false, false, false, false, false, false, false, false, false, false, false, false, false, false, false, false, false] rfl rfl (one_of HT_.out (by kernel_rfl)) (by decide) (fun K hK => ?_)
                                refine goes_ Try.func38 (by kernel_rfl) rfl #[.int .i64 (wrap64 (a0)), .int .i64 (wrap64 (a2))] (by rfl) rfl rfl (by (try simp only [List.map_toArray, List.map_cons, List.map_nil]); first | done | rfl | (simp only [List.length_drop, List.length_take]; rfl)) ?_
                                with_reducible refine (path_Parts.calls k (wrap64 (a0)) (wrap64 (a2)) t432 _ A33.out).mono ?_
                                rintro e w69 ⟨v433, rfl, ho0, hb⟩
                                refine ⟨_, rfl, ?_⟩
                                have n0_ := Aside0.mk (Kd.R_elder' (by (with_reducible repeat (first | apply Kd.R_alloc | apply Kd.R_drewN | apply Kd.R_drew)); exact HO389.out) (Kd.R_base ho0) hb)
                                have n1_ := Aside0.mk (Kd.R_elder' (by (with_reducible repeat (first | apply Kd.R_alloc | apply Kd.R_drewN | apply Kd.R_drew)); exact HO392.out) (Kd.R_base ho0) hb)
                                have n2_ := Aside0.mk (Kd.R_elder' (by (with_reducible repeat (first | apply Kd.R_alloc | apply Kd.R_drewN | apply Kd.R_drew)); exact HO395.out) (Kd.R_base ho0) hb)
                                have n3_ := Aside0.mk (Kd.R_elder' (by (with_reducible repeat (first | apply Kd.R_alloc | apply Kd.R_drewN | apply Kd.R_drew)); exact HO398.out) (Kd.R_base ho0) hb)
                                have n4_ := Aside0.mk (Kd.R_elder' (by (with_reducible repeat (first | apply Kd.R_alloc | apply Kd.R_drewN | apply Kd.R_drew)); exact HO402.out) (Kd.R_base ho0) hb)
                                have n5_ := Aside0.mk (Kd.R_elder' (by (with_reducible repeat (first | apply Kd.R_alloc | apply Kd.R_drewN | apply Kd.R_drew)); exact HO410.out) (Kd.R_base ho0) hb)
                                have n6_ := Aside0.mk (Kd.R_elder' (by (with_reducible repeat (first | apply Kd.R_alloc | apply Kd.R_drewN | apply Kd.R_drew)); exact HO418.out) (Kd.R_base ho0) hb)
                                have n7_ := Aside0.mk (Kd.R_elder' (by (with_reducible repeat (first | apply Kd.R_alloc | apply Kd.R_drewN | apply Kd.R_drew)); exact HO422.out) (Kd.R_base ho0) hb)
                                have n8_ := Aside0.mk (Kd.R_elder' (by (with_reducible repeat (first | apply Kd.R_alloc | apply Kd.R_drewN | apply Kd.R_drew)); exact HO430.out) (Kd.R_base ho0) hb)
                                have n9_ := Aside0.mk (Kd.R_lower (Kd.R_new' (Kd.R_new' (Kd.R_new' (Kd.R_new' (Kd.R_new' (Kd.R_new' (Kd.R_new' (Kd.R_new' (Kd.R_new' ho0 (Kd.R_lt (by (with_reducible repeat (first | apply Kd.R_alloc | apply Kd.R_drewN | apply Kd.R_drew)); exact HO389.out))) (Kd.R_lt (by (with_reducible repeat (first | apply Kd.R_alloc | apply Kd.R_drewN | apply Kd.R_drew)); exact HO392.out))) (Kd.R_lt (by (with_reducible repeat (first | apply Kd.R_alloc | apply Kd.R_drewN | apply Kd.R_drew)); exact HO395.out))) (Kd.R_lt (by (with_reducible repeat (first | apply Kd.R_alloc | apply Kd.R_drewN | apply Kd.R_drew)); exact HO398.out))) (Kd.R_lt (by (with_reducible repeat (first | apply Kd.R_alloc | apply Kd.R_drewN | apply Kd.R_drew)); exact HO402.out))) (Kd.R_lt (by (with_reducible repeat (first | apply Kd.R_alloc | apply Kd.R_drewN | apply Kd.R_drew)); exact HO410.out))) (Kd.R_lt (by (with_reducible repeat (first | apply Kd.R_alloc | apply Kd.R_drewN | apply Kd.R_drew)); exact HO418.out))) (Kd.R_lt (by (with_reducible repeat (first | apply Kd.R_alloc | apply Kd.R_drewN | apply Kd.R_drew)); exact HO422.out))) (Kd.R_lt (by (with_reducible repeat (first | apply Kd.R_alloc | apply Kd.R_drewN | apply Kd.R_drew)); exact HO430.out))) (below_size (by repeat (first | (with_reducible first | exact HB.out | apply below_alloc | apply pw_below_drewN | apply below_drew1) | exact HB.out))))
                                (first | have n10_ := Aside0.mk (Kd.C_below (Kd.C_drewN HR406.out _) hb) | have n10_ := Aside0.mk (Kd.C_below HR406.out hb) | have n10_ := Aside0.mk (Kd.C_below (by repeat (first | (with_reducible exact HR406.out) | (with_reducible refine Kd.C_alloc ?_ _) | (with_reducible refine Kd.C_drewN ?_ _) | (with_reducible refine Kd.C_drew ?_) | exact HR406.out)) hb))
                                (first | have n11_ := Aside0.mk (Kd.C_below (Kd.C_drewN HR414.out _) hb) | have n11_ := Aside0.mk (Kd.C_below HR414.out hb) | have n11_ := Aside0.mk (Kd.C_below (by repeat (first | (with_reducible exact HR414.out) | (with_reducible refine Kd.C_alloc ?_ _) | (with_reducible refine Kd.C_drewN ?_ _) | (with_reducible refine Kd.C_drew ?_) | exact HR414.out)) hb))
                                (first | have n12_ := Aside0.mk (Kd.C_below (Kd.C_drewN HR426.out _) hb) | have n12_ := Aside0.mk (Kd.C_below HR426.out hb) | have n12_ := Aside0.mk (Kd.C_below (by repeat (first | (with_reducible exact HR426.out) | (with_reducible refine Kd.C_alloc ?_ _) | (with_reducible refine Kd.C_drewN ?_ _) | (with_reducible refine Kd.C_drew ?_) | exact HR426.out)) hb))
                                (first | have n13_ := Aside0.mk (Kd.C_below (Kd.C_drewN HR438.out _) hb) | have n13_ := Aside0.mk (Kd.C_below HR438.out hb) | have n13_ := Aside0.mk (Kd.C_below (by repeat (first | (with_reducible exact HR438.out) | (with_reducible refine Kd.C_alloc ?_ _) | (with_reducible refine Kd.C_drewN ?_ _) | (with_reducible refine Kd.C_drew ?_) | exact HR438.out)) hb))
                                have n14_ := Aside0.mk (below_step (by repeat (first | (with_reducible first | exact HB.out | apply below_alloc | apply pw_below_drewN | apply below_drew1) | exact HB.out)) hb)
                                clear HO389
                                clear HO392
                                clear HO395
                                clear HO398
                                clear HO402
                                clear HO410
                                clear HO418
                                clear HO422
                                clear HO430
                                clear HR406
                                clear HR414
                                clear HR426
                                clear HR438
                                clear HB
                                have HO389 := n0_
                                have HO392 := n1_
                                have HO395 := n2_
                                have HO398 := n3_
                                have HO402 := n4_
                                have HO410 := n5_
                                have HO418 := n6_
                                have HO422 := n7_
                                have HO430 := n8_
                                have HO434 := n9_
                                have HR406 := n10_
                                have HR414 := n11_
                                have HR426 := n12_
                                have HR438 := n13_
                                have HB := n14_
                                clear n0_ n1_ n2_ n3_ n4_ n5_ n6_ n7_ n8_ n9_ n10_ n11_ n12_ n13_ n14_
                                (try clear hb)
                                (try clear hb2)
                                (try clear hk)
                                (try clear hi)
                                (try clear ho0)
                                obtain ⟨Ao70, co70, eo70⟩ := Kd.R_slice HO434.out
                                (first | subst eo70 | (injection eo70 with f1_ f2_ f3_; have f4_ := f1_.symm; have f5_ := f3_.symm; clear f1_ f2_ f3_; subst f4_; subst f5_))
                                refine hK.out _ _ trivial (fun hHeld => ?_)
                                clear hK K
                                refine norm_ (a' := ?_) ?_ ?_
                                rotate_left
                                · show Act.put _ (some 85) _ = _
                                  simp only [Act.put, List.setIfInBounds_toArray, List.set_cons_zero, List.set_cons_succ, i64_w, i32_w]
                                  rfl
                                refine one_ (i := 52) (N := some 88) #[true, true, true, true, true, true, true, true, true, true, true, true, true, true, true, true, true, true, true, true, true, true, true, true, true, true, true, true, true, true, true, true, true, true, true, true, true, true, true, true, true, true, true, true, true, true, true, true, true, true, true, true, true, false, false, false, false, false, false, false, false, false, false, false, false, false, false, false, false, false, false, false] rfl rfl (one_of HT_.out (by kernel_rfl)) (by decide) (fun K hK => ?_)
                                refine goes_ Try.func22 (by kernel_rfl) rfl #[.slice Ao70 t432.length co70, .slice Ao67 y435.length co67] (by rfl) rfl rfl (by (try simp only [List.map_toArray, List.map_cons, List.map_nil]); first | done | rfl | (simp only [List.length_drop, List.length_take]; rfl)) ?_
                                with_reducible refine (deedboxref01_Same.calls k _ _ t432 _ _ y435 true _ ?side1 ?side2 ?side3 ?side4 A35.out).mono ?_
                                (case side1 => repeat (first | exact (Kd.R_reads' HO434.out).2.2 | (with_reducible refine Kd.C_alloc ?_ _) | (with_reducible refine Kd.C_drewN ?_ _) | (with_reducible refine Kd.C_drew ?_)))
                                (case side2 => exact (Kd.R_reads' HO434.out).2.1)
                                (case side3 => repeat (first | exact (by repeat (first | (with_reducible exact HR438.out) | (with_reducible refine Kd.C_alloc ?_ _) | (with_reducible refine Kd.C_drewN ?_ _) | (with_reducible refine Kd.C_drew ?_) | exact HR438.out)) | (with_reducible refine Kd.C_alloc ?_ _) | (with_reducible refine Kd.C_drewN ?_ _) | (with_reducible refine Kd.C_drew ?_)))
                                (case side4 => exact HC438.out)
                                rintro e w' ⟨rfl, ⟨nd, rfl⟩⟩
                                refine ⟨_, rfl, ?_⟩
                                refine hK.out _ _ trivial (fun hHeld => ?_)
                                clear hK K
                                refine norm_ (a' := ?_) ?_ ?_
                                rotate_left
                                · show Act.put _ (some 88) _ = _
                                  simp only [Act.put, List.setIfInBounds_toArray, List.set_cons_zero, List.set_cons_succ, i64_w, i32_w]
                                  rfl
                                refine pure_ (i := 53) (N := some 89) (v := ?_) (a' := ?_) #[true, true, true, true, true, true, true, true, true, true, true, true, true, true, true, true, true, true, true, true, true, true, true, true, true, true, true, true, true, true, true, true, true, true, true, true, true, true, true, true, true, true, true, true, true, true, true, true, true, true, true, true, true, true, false, false, false, false, false, false, false, false, false, false, false, false, false, false, false, false, false, false] rfl rfl (any_of HT_.out (by kernel_rfl)) (fun _ _ _ h => h) (Or.inl ⟨by rfl, ?_⟩) ?_ ?_
                                rotate_left
                                · intro w'
                                  go_simp
                                  with_reducible rfl
                                rotate_left
                                · simp only [Act.put, List.setIfInBounds_toArray, List.set_cons_zero, List.set_cons_succ, i64_w, i32_w]
                                  rfl
                                refine pure_ (i := 54) (N := some 90) (v := ?_) (a' := ?_) #[true, true, true, true, true, true, true, true, true, true, true, true, true, true, true, true, true, true, true, true, true, true, true, true, true, true, true, true, true, true, true, true, true, true, true, true, true, true, true, true, true, true, true, true, true, true, true, true, true, true, true, true, true, true, true, false, false, false, false, false, false, false, false, false, false, false, false, false, false, false, false, false] rfl rfl (any_of HT_.out (by kernel_rfl)) (fun _ _ _ h => h) (Or.inl ⟨by rfl, ?_⟩) ?_ ?_
                                rotate_left
                                · intro w'
                                  go_simp
                                  with_reducible rfl
                                rotate_left
                                · simp only [Act.put, List.setIfInBounds_toArray, List.set_cons_zero, List.set_cons_succ, i64_w, i32_w]
                                  rfl
                                refine pure_ (i := 55) (N := some 91) (v := ?_) (a' := ?_) #[true, true, true, true, true, true, true, true, true, true, true, true, true, true, true, true, true, true, true, true, true, true, true, true, true, true, true, true, true, true, true, true, true, true, true, true, true, true, true, true, true, true, true, true, true, true, true, true, true, true, true, true, true, true, true, true, false, false, false, false, false, false, false, false, false, false, false, false, false, false, false, false] rfl rfl (any_of HT_.out (by kernel_rfl)) (fun _ _ _ h => h) (Or.inl ⟨by rfl, ?_⟩) ?_ ?_
                                rotate_left
                                · intro w'
                                  go_simp
                                  with_reducible rfl
                                rotate_left
                                · simp only [Act.put, List.setIfInBounds_toArray, List.set_cons_zero, List.set_cons_succ, i64_w, i32_w]
                                  rfl
                                refine pure_ (i := 57) (N := some 93) (v := ?_) (a' := ?_) #[true, true, true, true, true, true, true, true, true, true, true, true, true, true, true, true, true, true, true, true, true, true, true, true, true, true, true, true, true, true, true, true, true, true, true, true, true, true, true, true, true, true, true, true, true, true, true, true, true, true, true, true, true, true, true, true, false, true, false, false, false, false, false, false, false, false, false, false, false, false, false, false] rfl rfl (any_of HT_.out (by kernel_rfl)) (fun _ _ _ h => h) (Or.inl ⟨by rfl, ?_⟩) ?_ ?_
                                rotate_left
                                · intro w'
                                  go_simp
                                  with_reducible rfl
                                rotate_left
                                · simp only [Act.put, List.setIfInBounds_toArray, List.set_cons_zero, List.set_cons_succ, i64_w, i32_w]
                                  rfl
                                refine one_ (i := 56) (N := some 92) #[true, true, true, true, true, true, true, true, true, true, true, true, true, true, true, true, true, true, true, true, true, true, true, true, true, true, true, true, true, true, true, true, true, true, true, true, true, true, true, true, true, true, true, true, true, true, true, true, true, true, true, true, true, true, true, true, true, true, false, false, false, false, false, false, false, false, false, false, false, false, false, false] rfl rfl (one_of HT_.out (by kernel_rfl)) (by decide) (fun K hK => ?_)
                                refine goes_ Try.func39 (by kernel_rfl) rfl #[.string a1] (by rfl) rfl rfl (by (try simp only [List.map_toArray, List.map_cons, List.map_nil]); first | done | rfl | (simp only [List.length_drop, List.length_take]; rfl)) ?_
                                with_reducible refine (path_Bucket.calls k a1 t440 _ A37.out).mono ?_
                                rintro e w71 ⟨v441, rfl, ho0, hb⟩
                                refine ⟨_, rfl, ?_⟩
                                have n0_ := Aside0.mk (Kd.R_elder' (by (with_reducible repeat (first | apply Kd.R_alloc | apply Kd.R_drewN | apply Kd.R_drew)); exact HO389.out) (Kd.R_base ho0) hb)
                                have n1_ := Aside0.mk (Kd.R_elder' (by (with_reducible repeat (first | apply Kd.R_alloc | apply Kd.R_drewN | apply Kd.R_drew)); exact HO392.out) (Kd.R_base ho0) hb)
                                have n2_ := Aside0.mk (Kd.R_elder' (by (with_reducible repeat (first | apply Kd.R_alloc | apply Kd.R_drewN | apply Kd.R_drew)); exact HO395.out) (Kd.R_base ho0) hb)
                                have n3_ := Aside0.mk (Kd.R_elder' (by (with_reducible repeat (first | apply Kd.R_alloc | apply Kd.R_drewN | apply Kd.R_drew)); exact HO398.out) (Kd.R_base ho0) hb)
                                have n4_ := Aside0.mk (Kd.R_elder' (by (with_reducible repeat (first | apply Kd.R_alloc | apply Kd.R_drewN | apply Kd.R_drew)); exact HO402.out) (Kd.R_base ho0) hb)
                                have n5_ := Aside0.mk (Kd.R_elder' (by (with_reducible repeat (first | apply Kd.R_alloc | apply Kd.R_drewN | apply Kd.R_drew)); exact HO410.out) (Kd.R_base ho0) hb)
                                have n6_ := Aside0.mk (Kd.R_elder' (by (with_reducible repeat (first | apply Kd.R_alloc | apply Kd.R_drewN | apply Kd.R_drew)); exact HO418.out) (Kd.R_base ho0) hb)
                                have n7_ := Aside0.mk (Kd.R_elder' (by (with_reducible repeat (first | apply Kd.R_alloc | apply Kd.R_drewN | apply Kd.R_drew)); exact HO422.out) (Kd.R_base ho0) hb)
                                have n8_ := Aside0.mk (Kd.R_elder' (by (with_reducible repeat (first | apply Kd.R_alloc | apply Kd.R_drewN | apply Kd.R_drew)); exact HO430.out) (Kd.R_base ho0) hb)
                                have n9_ := Aside0.mk (Kd.R_elder' (by (with_reducible repeat (first | apply Kd.R_alloc | apply Kd.R_drewN | apply Kd.R_drew)); exact HO434.out) (Kd.R_base ho0) hb)
                                have n10_ := Aside0.mk (Kd.R_lower (Kd.R_new' (Kd.R_new' (Kd.R_new' (Kd.R_new' (Kd.R_new' (Kd.R_new' (Kd.R_new' (Kd.R_new' (Kd.R_new' (Kd.R_new' ho0 (Kd.R_lt (by (with_reducible repeat (first | apply Kd.R_alloc | apply Kd.R_drewN | apply Kd.R_drew)); exact HO389.out))) (Kd.R_lt (by (with_reducible repeat (first | apply Kd.R_alloc | apply Kd.R_drewN | apply Kd.R_drew)); exact HO392.out))) (Kd.R_lt (by (with_reducible repeat (first | apply Kd.R_alloc | apply Kd.R_drewN | apply Kd.R_drew)); exact HO395.out))) (Kd.R_lt (by (with_reducible repeat (first | apply Kd.R_alloc | apply Kd.R_drewN | apply Kd.R_drew)); exact HO398.out))) (Kd.R_lt (by (with_reducible repeat (first | apply Kd.R_alloc | apply Kd.R_drewN | apply Kd.R_drew)); exact HO402.out))) (Kd.R_lt (by (with_reducible repeat (first | apply Kd.R_alloc | apply Kd.R_drewN | apply Kd.R_drew)); exact HO410.out))) (Kd.R_lt (by (with_reducible repeat (first | apply Kd.R_alloc | apply Kd.R_drewN | apply Kd.R_drew)); exact HO418.out))) (Kd.R_lt (by (with_reducible repeat (first | apply Kd.R_alloc | apply Kd.R_drewN | apply Kd.R_drew)); exact HO422.out))) (Kd.R_lt (by (with_reducible repeat (first | apply Kd.R_alloc | apply Kd.R_drewN | apply Kd.R_drew)); exact HO430.out))) (Kd.R_lt (by (with_reducible repeat (first | apply Kd.R_alloc | apply Kd.R_drewN | apply Kd.R_drew)); exact HO434.out))) (below_size (by repeat (first | (with_reducible first | exact HB.out | apply below_alloc | apply pw_below_drewN | apply below_drew1) | exact HB.out))))
                                (first | have n11_ := Aside0.mk (Kd.C_below (Kd.C_drewN HR406.out _) hb) | have n11_ := Aside0.mk (Kd.C_below HR406.out hb) | have n11_ := Aside0.mk (Kd.C_below (by repeat (first | (with_reducible exact HR406.out) | (with_reducible refine Kd.C_alloc ?_ _) | (with_reducible refine Kd.C_drewN ?_ _) | (with_reducible refine Kd.C_drew ?_) | exact HR406.out)) hb))
                                (first | have n12_ := Aside0.mk (Kd.C_below (Kd.C_drewN HR414.out _) hb) | have n12_ := Aside0.mk (Kd.C_below HR414.out hb) | have n12_ := Aside0.mk (Kd.C_below (by repeat (first | (with_reducible exact HR414.out) | (with_reducible refine Kd.C_alloc ?_ _) | (with_reducible refine Kd.C_drewN ?_ _) | (with_reducible refine Kd.C_drew ?_) | exact HR414.out)) hb))
                                (first | have n13_ := Aside0.mk (Kd.C_below (Kd.C_drewN HR426.out _) hb) | have n13_ := Aside0.mk (Kd.C_below HR426.out hb) | have n13_ := Aside0.mk (Kd.C_below (by repeat (first | (with_reducible exact HR426.out) | (with_reducible refine Kd.C_alloc ?_ _) | (with_reducible refine Kd.C_drewN ?_ _) | (with_reducible refine Kd.C_drew ?_) | exact HR426.out)) hb))
                                (first | have n14_ := Aside0.mk (Kd.C_below (Kd.C_drewN HR438.out _) hb) | have n14_ := Aside0.mk (Kd.C_below HR438.out hb) | have n14_ := Aside0.mk (Kd.C_below (by repeat (first | (with_reducible exact HR438.out) | (with_reducible refine Kd.C_alloc ?_ _) | (with_reducible refine Kd.C_drewN ?_ _) | (with_reducible refine Kd.C_drew ?_) | exact HR438.out)) hb))
                                have n15_ := Aside0.mk (below_step (by repeat (first | (with_reducible first | exact HB.out | apply below_alloc | apply pw_below_drewN | apply below_drew1) | exact HB.out)) hb)
                                clear HO389
                                clear HO392
                                clear HO395
                                clear HO398
                                clear HO402
                                clear HO410
                                clear HO418
                                clear HO422
                                clear HO430
                                clear HO434
                                clear HR406
                                clear HR414
                                clear HR426
                                clear HR438
                                clear HB
                                have HO389 := n0_
                                have HO392 := n1_
                                have HO395 := n2_
                                have HO398 := n3_
                                have HO402 := n4_
                                have HO410 := n5_
                                have HO418 := n6_
                                have HO422 := n7_
                                have HO430 := n8_
                                have HO434 := n9_
                                have HO442 := n10_
                                have HR406 := n11_
                                have HR414 := n12_
                                have HR426 := n13_
                                have HR438 := n14_
                                have HB := n15_
                                clear n0_ n1_ n2_ n3_ n4_ n5_ n6_ n7_ n8_ n9_ n10_ n11_ n12_ n13_ n14_ n15_
                                (try clear hb)
                                (try clear hb2)
                                (try clear hk)
                                (try clear hi)
                                (try clear ho0)
                                refine hK.out _ _ trivial (fun hHeld => ?_)
                                clear hK K
                                refine norm_ (a' := ?_) ?_ ?_
                                rotate_left
                                · show Act.put _ (some 92) _ = _
                                  simp only [Act.put, List.setIfInBounds_toArray, List.set_cons_zero, List.set_cons_succ, i64_w, i32_w]
                                  rfl
                                refine one_ (i := 58) (N := some 94) #[true, true, true, true, true, true, true, true, true, true, true, true, true, true, true, true, true, true, true, true, true, true, true, true, true, true, true, true, true, true, true, true, true, true, true, true, true, true, true, true, true, true, true, true, true, true, true, true, true, true, true, true, true, true, true, true, true, true, true, false, false, false, false, false, false, false, false, false, false, false, false, false] rfl rfl (one_of HT_.out (by kernel_rfl)) (by decide) (fun K hK => ?_)
                                refine goes_ Try.func40 (by kernel_rfl) rfl #[.string a1] (by rfl) rfl rfl (by (try simp only [List.map_toArray, List.map_cons, List.map_nil]); first | done | rfl | (simp only [List.length_drop, List.length_take]; rfl)) ?_
                                with_reducible refine (deedboxref25_Bucket.calls a1 t443 _ A38.out).mono ?_
                                rintro e w72 ⟨v444, rfl, ho0, hb⟩
                                refine ⟨_, rfl, ?_⟩
                                have n0_ := Aside0.mk (Kd.R_elder' (by (with_reducible repeat (first | apply Kd.R_alloc | apply Kd.R_drewN | apply Kd.R_drew)); exact HO389.out) (Kd.R_base ho0) hb)
                                have n1_ := Aside0.mk (Kd.R_elder' (by (with_reducible repeat (first | apply Kd.R_alloc | apply Kd.R_drewN | apply Kd.R_drew)); exact HO392.out) (Kd.R_base ho0) hb)
                                have n2_ := Aside0.mk (Kd.R_elder' (by (with_reducible repeat (first | apply Kd.R_alloc | apply Kd.R_drewN | apply Kd.R_drew)); exact HO395.out) (Kd.R_base ho0) hb)
                                have n3_ := Aside0.mk (Kd.R_elder' (by (with_reducible repeat (first | apply Kd.R_alloc | apply Kd.R_drewN | apply Kd.R_drew)); exact HO398.out) (Kd.R_base ho0) hb)
                                have n4_ := Aside0.mk (Kd.R_elder' (by (with_reducible repeat (first | apply Kd.R_alloc | apply Kd.R_drewN | apply Kd.R_drew)); exact HO402.out) (Kd.R_base ho0) hb)
                                have n5_ := Aside0.mk (Kd.R_elder' (by (with_reducible repeat (first | apply Kd.R_alloc | apply Kd.R_drewN | apply Kd.R_drew)); exact HO410.out) (Kd.R_base ho0) hb)
                                have n6_ := Aside0.mk (Kd.R_elder' (by (with_reducible repeat (first | apply Kd.R_alloc | apply Kd.R_drewN | apply Kd.R_drew)); exact HO418.out) (Kd.R_base ho0) hb)
                                have n7_ := Aside0.mk (Kd.R_elder' (by (with_reducible repeat (first | apply Kd.R_alloc | apply Kd.R_drewN | apply Kd.R_drew)); exact HO422.out) (Kd.R_base ho0) hb)
                                have n8_ := Aside0.mk (Kd.R_elder' (by (with_reducible repeat (first | apply Kd.R_alloc | apply Kd.R_drewN | apply Kd.R_drew)); exact HO430.out) (Kd.R_base ho0) hb)
                                have n9_ := Aside0.mk (Kd.R_elder' (by (with_reducible repeat (first | apply Kd.R_alloc | apply Kd.R_drewN | apply Kd.R_drew)); exact HO434.out) (Kd.R_base ho0) hb)
                                have n10_ := Aside0.mk (Kd.R_elder' (by (with_reducible repeat (first | apply Kd.R_alloc | apply Kd.R_drewN | apply Kd.R_drew)); exact HO442.out) (Kd.R_base ho0) hb)
                                have n11_ := Aside0.mk (Kd.R_lower (Kd.R_new' (Kd.R_new' (Kd.R_new' (Kd.R_new' (Kd.R_new' (Kd.R_new' (Kd.R_new' (Kd.R_new' (Kd.R_new' (Kd.R_new' (Kd.R_new' ho0 (Kd.R_lt (by (with_reducible repeat (first | apply Kd.R_alloc | apply Kd.R_drewN | apply Kd.R_drew)); exact HO389.out))) (Kd.R_lt (by (with_reducible repeat (first | apply Kd.R_alloc | apply Kd.R_drewN | apply Kd.R_drew)); exact HO392.out))) (Kd.R_lt (by (with_reducible repeat (first | apply Kd.R_alloc | apply Kd.R_drewN | apply Kd.R_drew)); exact HO395.out))) (Kd.R_lt (by (with_reducible repeat (first | apply Kd.R_alloc | apply Kd.R_drewN | apply Kd.R_drew)); exact HO398.out))) (Kd.R_lt (by (with_reducible repeat (first | apply Kd.R_alloc | apply Kd.R_drewN | apply Kd.R_drew)); exact HO402.out))) (Kd.R_lt (by (with_reducible repeat (first | apply Kd.R_alloc | apply Kd.R_drewN | apply Kd.R_drew)); exact HO410.out))) (Kd.R_lt (by (with_reducible repeat (first | apply Kd.R_alloc | apply Kd.R_drewN | apply Kd.R_drew)); exact HO418.out))) (Kd.R_lt (by (with_reducible repeat (first | apply Kd.R_alloc | apply Kd.R_drewN | apply Kd.R_drew)); exact HO422.out))) (Kd.R_lt (by (with_reducible repeat (first | apply Kd.R_alloc | apply Kd.R_drewN | apply Kd.R_drew)); exact HO430.out))) (Kd.R_lt (by (with_reducible repeat (first | apply Kd.R_alloc | apply Kd.R_drewN | apply Kd.R_drew)); exact HO434.out))) (Kd.R_lt (by (with_reducible repeat (first | apply Kd.R_alloc | apply Kd.R_drewN | apply Kd.R_drew)); exact HO442.out))) (below_size (by repeat (first | (with_reducible first | exact HB.out | apply below_alloc | apply pw_below_drewN | apply below_drew1) | exact HB.out))))
                                (first | have n12_ := Aside0.mk (Kd.C_below (Kd.C_drewN HR406.out _) hb) | have n12_ := Aside0.mk (Kd.C_below HR406.out hb) | have n12_ := Aside0.mk (Kd.C_below (by repeat (first | (with_reducible exact HR406.out) | (with_reducible refine Kd.C_alloc ?_ _) | (with_reducible refine Kd.C_drewN ?_ _) | (with_reducible refine Kd.C_drew ?_) | exact HR406.out)) hb))
                                (first | have n13_ := Aside0.mk (Kd.C_below (Kd.C_drewN HR414.out _) hb) | have n13_ := Aside0.mk (Kd.C_below HR414.out hb) | have n13_ := Aside0.mk (Kd.C_below (by repeat (first | (with_reducible exact HR414.out) | (with_reducible refine Kd.C_alloc ?_ _) | (with_reducible refine Kd.C_drewN ?_ _) | (with_reducible refine Kd.C_drew ?_) | exact HR414.out)) hb))
                                (first | have n14_ := Aside0.mk (Kd.C_below (Kd.C_drewN HR426.out _) hb) | have n14_ := Aside0.mk (Kd.C_below HR426.out hb) | have n14_ := Aside0.mk (Kd.C_below (by repeat (first | (with_reducible exact HR426.out) | (with_reducible refine Kd.C_alloc ?_ _) | (with_reducible refine Kd.C_drewN ?_ _) | (with_reducible refine Kd.C_drew ?_) | exact HR426.out)) hb))
                                (first | have n15_ := Aside0.mk (Kd.C_below (Kd.C_drewN HR438.out _) hb) | have n15_ := Aside0.mk (Kd.C_below HR438.out hb) | have n15_ := Aside0.mk (Kd.C_below (by repeat (first | (with_reducible exact HR438.out) | (with_reducible refine Kd.C_alloc ?_ _) | (with_reducible refine Kd.C_drewN ?_ _) | (with_reducible refine Kd.C_drew ?_) | exact HR438.out)) hb))
                                have n16_ := Aside0.mk (below_step (by repeat (first | (with_reducible first | exact HB.out | apply below_alloc | apply pw_below_drewN | apply below_drew1) | exact HB.out)) hb)
                                clear HO389
                                clear HO392
                                clear HO395
                                clear HO398
                                clear HO402
                                clear HO410
                                clear HO418
                                clear HO422
                                clear HO430
                                clear HO434
                                clear HO442
                                clear HR406
                                clear HR414
                                clear HR426
                                clear HR438
                                clear HB
                                have HO389 := n0_
                                have HO392 := n1_
                                have HO395 := n2_
                                have HO398 := n3_
                                have HO402 := n4_
                                have HO410 := n5_
                                have HO418 := n6_
                                have HO422 := n7_
                                have HO430 := n8_
                                have HO434 := n9_
                                have HO442 := n10_
                                have HO445 := n11_
                                have HR406 := n12_
                                have HR414 := n13_
                                have HR426 := n14_
                                have HR438 := n15_
                                have HB := n16_
                                clear n0_ n1_ n2_ n3_ n4_ n5_ n6_ n7_ n8_ n9_ n10_ n11_ n12_ n13_ n14_ n15_ n16_
                                (try clear hb)
                                (try clear hb2)
                                (try clear hk)
                                (try clear hi)
                                (try clear ho0)
                                obtain ⟨Ao73, co73, eo73⟩ := Kd.R_slice HO442.out
                                (first | subst eo73 | (injection eo73 with f1_ f2_ f3_; have f4_ := f1_.symm; have f5_ := f3_.symm; clear f1_ f2_ f3_; subst f4_; subst f5_))
                                obtain ⟨Ao74, co74, eo74⟩ := Kd.R_slice HO445.out
                                (first | subst eo74 | (injection eo74 with f1_ f2_ f3_; have f4_ := f1_.symm; have f5_ := f3_.symm; clear f1_ f2_ f3_; subst f4_; subst f5_))
                                refine hK.out _ _ trivial (fun hHeld => ?_)
                                clear hK K
                                refine norm_ (a' := ?_) ?_ ?_
                                rotate_left
                                · show Act.put _ (some 94) _ = _
                                  simp only [Act.put, List.setIfInBounds_toArray, List.set_cons_zero, List.set_cons_succ, i64_w, i32_w]
                                  rfl
                                refine one_ (i := 59) (N := some 95) #[true, true, true, true, true, true, true, true, true, true, true, true, true, true, true, true, true, true, true, true, true, true, true, true, true, true, true, true, true, true, true, true, true, true, true, true, true, true, true, true, true, true, true, true, true, true, true, true, true, true, true, true, true, true, true, true, true, true, true, true, false, false, false, false, false, false, false, false, false, false, false, false] rfl rfl (one_of HT_.out (by kernel_rfl)) (by decide) (fun K hK => ?_)
                                refine goes_ Try.func22 (by kernel_rfl) rfl #[.slice Ao73 t440.length co73, .slice Ao74 t443.length co74] (by rfl) rfl rfl (by (try simp only [List.map_toArray, List.map_cons, List.map_nil]); first | done | rfl | (simp only [List.length_drop, List.length_take]; rfl)) ?_
                                with_reducible refine (deedboxref01_Same.calls k _ _ t440 _ _ t443 true _ ?side1 ?side2 ?side3 ?side4 A39.out).mono ?_
                                (case side1 => repeat (first | exact (Kd.R_reads' HO442.out).2.2 | (with_reducible refine Kd.C_alloc ?_ _) | (with_reducible refine Kd.C_drewN ?_ _) | (with_reducible refine Kd.C_drew ?_)))
                                (case side2 => exact (Kd.R_reads' HO442.out).2.1)
                                (case side3 => repeat (first | exact (Kd.R_reads' HO445.out).2.2 | (with_reducible refine Kd.C_alloc ?_ _) | (with_reducible refine Kd.C_drewN ?_ _) | (with_reducible refine Kd.C_drew ?_)))
                                (case side4 => exact (Kd.R_reads' HO445.out).2.1)
                                rintro e w' ⟨rfl, ⟨nd, rfl⟩⟩
                                refine ⟨_, rfl, ?_⟩
                                refine hK.out _ _ trivial (fun hHeld => ?_)
                                clear hK K
                                refine norm_ (a' := ?_) ?_ ?_
                                rotate_left
                                · show Act.put _ (some 95) _ = _
                                  simp only [Act.put, List.setIfInBounds_toArray, List.set_cons_zero, List.set_cons_succ, i64_w, i32_w]
                                  rfl
                                refine pure_ (i := 60) (N := some 96) (v := ?_) (a' := ?_) #[true, true, true, true, true, true, true, true, true, true, true, true, true, true, true, true, true, true, true, true, true, true, true, true, true, true, true, true, true, true, true, true, true, true, true, true, true, true, true, true, true, true, true, true, true, true, true, true, true, true, true, true, true, true, true, true, true, true, true, true, true, false, false, false, false, false, false, false, false, false, false, false] rfl rfl (any_of HT_.out (by kernel_rfl)) (fun _ _ _ h => h) (Or.inl ⟨by rfl, ?_⟩) ?_ ?_
                                rotate_left
                                · intro w'
                                  go_simp
                                  with_reducible rfl
                                rotate_left
                                · simp only [Act.put, List.setIfInBounds_toArray, List.set_cons_zero, List.set_cons_succ, i64_w, i32_w]
                                  rfl
                                refine pure_ (i := 61) (N := some 97) (v := ?_) (a' := ?_) #[true, true, true, true, true, true, true, true, true, true, true, true, true, true, true, true, true, true, true, true, true, true, true, true, true, true, true, true, true, true, true, true, true, true, true, true, true, true, true, true, true, true, true, true, true, true, true, true, true, true, true, true, true, true, true, true, true, true, true, true, true, true, false, false, false, false, false, false, false, false, false, false] rfl rfl (any_of HT_.out (by kernel_rfl)) (fun _ _ _ h => h) (Or.inl ⟨by rfl, ?_⟩) ?_ ?_
                                rotate_left
                                · intro w'
                                  go_simp
                                  with_reducible rfl
                                rotate_left
                                · simp only [Act.put, List.setIfInBounds_toArray, List.set_cons_zero, List.set_cons_succ, i64_w, i32_w]
                                  rfl
                                refine pure_ (i := 62) (N := some 98) (v := ?_) (a' := ?_) #[true, true, true, true, true, true, true, true, true, true, true, true, true, true, true, true, true, true, true, true, true, true, true, true, true, true, true, true, true, true, true, true, true, true, true, true, true, true, true, true, true, true, true, true, true, true, true, true, true, true, true, true, true, true, true, true, true, true, true, true, true, true, true, false, false, false, false, false, false, false, false, false] rfl rfl (any_of HT_.out (by kernel_rfl)) (fun _ _ _ h => h) (Or.inl ⟨by rfl, ?_⟩) ?_ ?_
                                rotate_left
                                · intro w'
                                  go_simp
                                  with_reducible rfl
                                rotate_left
                                · simp only [Act.put, List.setIfInBounds_toArray, List.set_cons_zero, List.set_cons_succ, i64_w, i32_w]
                                  rfl
                                refine pure_ (i := 64) (N := some 100) (v := ?_) (a' := ?_) #[true, true, true, true, true, true, true, true, true, true, true, true, true, true, true, true, true, true, true, true, true, true, true, true, true, true, true, true, true, true, true, true, true, true, true, true, true, true, true, true, true, true, true, true, true, true, true, true, true, true, true, true, true, true, true, true, true, true, true, true, true, true, true, false, true, false, false, false, false, false, false, false] rfl rfl (any_of HT_.out (by kernel_rfl)) (fun _ _ _ h => h) (Or.inl ⟨by rfl, ?_⟩) ?_ ?_
                                rotate_left
                                · intro w'
                                  go_simp
                                  with_reducible rfl
                                rotate_left
                                · simp only [Act.put, List.setIfInBounds_toArray, List.set_cons_zero, List.set_cons_succ, i64_w, i32_w]
                                  rfl
                                refine one_ (i := 63) (N := some 99) #[true, true, true, true, true, true, true, true, true, true, true, true, true, true, true, true, true, true, true, true, true, true, true, true, true, true, true, true, true, true, true, true, true, true, true, true, true, true, true, true, true, true, true, true, true, true, true, true, true, true, true, true, true, true, true, true, true, true, true, true, true, true, true, true, true, false, false, false, false, false, false, false] rfl rfl (one_of HT_.out (by kernel_rfl)) (by decide) (fun K hK => ?_)
                                refine goes_ Try.func41 (by kernel_rfl) rfl #[.int .i64 (wrap64 (a0))] (by rfl) rfl rfl (by (try simp only [List.map_toArray, List.map_cons, List.map_nil]); first | done | rfl | (simp only [List.length_drop, List.length_take]; rfl)) ?_
                                with_reducible refine (path_Rotate.calls k (wrap64 (a0)) t447 _ A41.out).mono ?_
                                rintro e w75 ⟨v448, rfl, ho0, hb⟩
                                refine ⟨_, rfl, ?_⟩
                                have n0_ := Aside0.mk (Kd.R_elder' (by (with_reducible repeat (first | apply Kd.R_alloc | apply Kd.R_drewN | apply Kd.R_drew)); exact HO389.out) (Kd.R_base ho0) hb)
                                have n1_ := Aside0.mk (Kd.R_elder' (by (with_reducible repeat (first | apply Kd.R_alloc | apply Kd.R_drewN | apply Kd.R_drew)); exact HO392.out) (Kd.R_base ho0) hb)
                                have n2_ := Aside0.mk (Kd.R_elder' (by (with_reducible repeat (first | apply Kd.R_alloc | apply Kd.R_drewN | apply Kd.R_drew)); exact HO395.out) (Kd.R_base ho0) hb)
                                have n3_ := Aside0.mk (Kd.R_elder' (by (with_reducible repeat (first | apply Kd.R_alloc | apply Kd.R_drewN | apply Kd.R_drew)); exact HO398.out) (Kd.R_base ho0) hb)
                                have n4_ := Aside0.mk (Kd.R_elder' (by (with_reducible repeat (first | apply Kd.R_alloc | apply Kd.R_drewN | apply Kd.R_drew)); exact HO402.out) (Kd.R_base ho0) hb)
                                have n5_ := Aside0.mk (Kd.R_elder' (by (with_reducible repeat (first | apply Kd.R_alloc | apply Kd.R_drewN | apply Kd.R_drew)); exact HO410.out) (Kd.R_base ho0) hb)
                                have n6_ := Aside0.mk (Kd.R_elder' (by (with_reducible repeat (first | apply Kd.R_alloc | apply Kd.R_drewN | apply Kd.R_drew)); exact HO418.out) (Kd.R_base ho0) hb)
                                have n7_ := Aside0.mk (Kd.R_elder' (by (with_reducible repeat (first | apply Kd.R_alloc | apply Kd.R_drewN | apply Kd.R_drew)); exact HO422.out) (Kd.R_base ho0) hb)
                                have n8_ := Aside0.mk (Kd.R_elder' (by (with_reducible repeat (first | apply Kd.R_alloc | apply Kd.R_drewN | apply Kd.R_drew)); exact HO430.out) (Kd.R_base ho0) hb)
                                have n9_ := Aside0.mk (Kd.R_elder' (by (with_reducible repeat (first | apply Kd.R_alloc | apply Kd.R_drewN | apply Kd.R_drew)); exact HO434.out) (Kd.R_base ho0) hb)
                                have n10_ := Aside0.mk (Kd.R_elder' (by (with_reducible repeat (first | apply Kd.R_alloc | apply Kd.R_drewN | apply Kd.R_drew)); exact HO442.out) (Kd.R_base ho0) hb)
                                have n11_ := Aside0.mk (Kd.R_elder' (by (with_reducible repeat (first | apply Kd.R_alloc | apply Kd.R_drewN | apply Kd.R_drew)); exact HO445.out) (Kd.R_base ho0) hb)
                                have n12_ := Aside0.mk (Kd.R_lower (Kd.R_new' (Kd.R_new' (Kd.R_new' (Kd.R_new' (Kd.R_new' (Kd.R_new' (Kd.R_new' (Kd.R_new' (Kd.R_new' (Kd.R_new' (Kd.R_new' (Kd.R_new' ho0 (Kd.R_lt (by (with_reducible repeat (first | apply Kd.R_alloc | apply Kd.R_drewN | apply Kd.R_drew)); exact HO389.out))) (Kd.R_lt (by (with_reducible repeat (first | apply Kd.R_alloc | apply Kd.R_drewN | apply Kd.R_drew)); exact HO392.out))) (Kd.R_lt (by (with_reducible repeat (first | apply Kd.R_alloc | apply Kd.R_drewN | apply Kd.R_drew)); exact HO395.out))) (Kd.R_lt (by (with_reducible repeat (first | apply Kd.R_alloc | apply Kd.R_drewN | apply Kd.R_drew)); exact HO398.out))) (Kd.R_lt (by (with_reducible repeat (first | apply Kd.R_alloc | apply Kd.R_drewN | apply Kd.R_drew)); exact HO402.out))) (Kd.R_lt (by (with_reducible repeat (first | apply Kd.R_alloc | apply Kd.R_drewN | apply Kd.R_drew)); exact HO410.out))) (Kd.R_lt (by (with_reducible repeat (first | apply Kd.R_alloc | apply Kd.R_drewN | apply Kd.R_drew)); exact HO418.out))) (Kd.R_lt (by (with_reducible repeat (first | apply Kd.R_alloc | apply Kd.R_drewN | apply Kd.R_drew)); exact HO422.out))) (Kd.R_lt (by (with_reducible repeat (first | apply Kd.R_alloc | apply Kd.R_drewN | apply Kd.R_drew)); exact HO430.out))) (Kd.R_lt (by (with_reducible repeat (first | apply Kd.R_alloc | apply Kd.R_drewN | apply Kd.R_drew)); exact HO434.out))) (Kd.R_lt (by (with_reducible repeat (first | apply Kd.R_alloc | apply Kd.R_drewN | apply Kd.R_drew)); exact HO442.out))) (Kd.R_lt (by (with_reducible repeat (first | apply Kd.R_alloc | apply Kd.R_drewN | apply Kd.R_drew)); exact HO445.out))) (below_size (by repeat (first | (with_reducible first | exact HB.out | apply below_alloc | apply pw_below_drewN | apply below_drew1) | exact HB.out))))
                                (first | have n13_ := Aside0.mk (Kd.C_below (Kd.C_drewN HR406.out _) hb) | have n13_ := Aside0.mk (Kd.C_below HR406.out hb) | have n13_ := Aside0.mk (Kd.C_below (by repeat (first | (with_reducible exact HR406.out) | (with_reducible refine Kd.C_alloc ?_ _) | (with_reducible refine Kd.C_drewN ?_ _) | (with_reducible refine Kd.C_drew ?_) | exact HR406.out)) hb))
                                (first | have n14_ := Aside0.mk (Kd.C_below (Kd.C_drewN HR414.out _) hb) | have n14_ := Aside0.mk (Kd.C_below HR414.out hb) | have n14_ := Aside0.mk (Kd.C_below (by repeat (first | (with_reducible exact HR414.out) | (with_reducible refine Kd.C_alloc ?_ _) | (with_reducible refine Kd.C_drewN ?_ _) | (with_reducible refine Kd.C_drew ?_) | exact HR414.out)) hb))
                                (first | have n15_ := Aside0.mk (Kd.C_below (Kd.C_drewN HR426.out _) hb) | have n15_ := Aside0.mk (Kd.C_below HR426.out hb) | have n15_ := Aside0.mk (Kd.C_below (by repeat (first | (with_reducible exact HR426.out) | (with_reducible refine Kd.C_alloc ?_ _) | (with_reducible refine Kd.C_drewN ?_ _) | (with_reducible refine Kd.C_drew ?_) | exact HR426.out)) hb))
                                (first | have n16_ := Aside0.mk (Kd.C_below (Kd.C_drewN HR438.out _) hb) | have n16_ := Aside0.mk (Kd.C_below HR438.out hb) | have n16_ := Aside0.mk (Kd.C_below (by repeat (first | (with_reducible exact HR438.out) | (with_reducible refine Kd.C_alloc ?_ _) | (with_reducible refine Kd.C_drewN ?_ _) | (with_reducible refine Kd.C_drew ?_) | exact HR438.out)) hb))
                                have n17_ := Aside0.mk (below_step (by repeat (first | (with_reducible first | exact HB.out | apply below_alloc | apply pw_below_drewN | apply below_drew1) | exact HB.out)) hb)
                                clear HO389
                                clear HO392
                                clear HO395
                                clear HO398
                                clear HO402
                                clear HO410
                                clear HO418
                                clear HO422
                                clear HO430
                                clear HO434
                                clear HO442
                                clear HO445
                                clear HR406
                                clear HR414
                                clear HR426
                                clear HR438
                                clear HB
                                have HO389 := n0_
                                have HO392 := n1_
                                have HO395 := n2_
                                have HO398 := n3_
                                have HO402 := n4_
                                have HO410 := n5_
                                have HO418 := n6_
                                have HO422 := n7_
                                have HO430 := n8_
                                have HO434 := n9_
                                have HO442 := n10_
                                have HO445 := n11_
                                have HO449 := n12_
                                have HR406 := n13_
                                have HR414 := n14_
                                have HR426 := n15_
                                have HR438 := n16_
                                have HB := n17_
                                clear n0_ n1_ n2_ n3_ n4_ n5_ n6_ n7_ n8_ n9_ n10_ n11_ n12_ n13_ n14_ n15_ n16_ n17_
                                (try clear hb)
                                (try clear hb2)
                                (try clear hk)
                                (try clear hi)
                                (try clear ho0)
                                refine hK.out _ _ trivial (fun hHeld => ?_)
                                clear hK K
                                refine norm_ (a' := ?_) ?_ ?_
                                rotate_left
                                · show Act.put _ (some 99) _ = _
                                  simp only [Act.put, List.setIfInBounds_toArray, List.set_cons_zero, List.set_cons_succ, i64_w, i32_w]
                                  rfl
                                refine one_ (i := 65) (N := some 101) #[true, true, true, true, true, true, true, true, true, true, true, true, true, true, true, true, true, true, true, true, true, true, true, true, true, true, true, true, true, true, true, true, true, true, true, true, true, true, true, true, true, true, true, true, true, true, true, true, true, true, true, true, true, true, true, true, true, true, true, true, true, true, true, true, true, true, false, false, false, false, false, false] rfl rfl (one_of HT_.out (by kernel_rfl)) (by decide) (fun K hK => ?_)
                                refine goes_ Try.func42 (by kernel_rfl) rfl #[.int .i64 (wrap64 (a0))] (by rfl) rfl rfl (by (try simp only [List.map_toArray, List.map_cons, List.map_nil]); first | done | rfl | (simp only [List.length_drop, List.length_take]; rfl)) ?_
                                with_reducible refine (deedboxref25_Rotate.calls k (wrap64 (a0)) t450 _ A42.out).mono ?_
                                rintro e w76 ⟨v451, rfl, ho0, hb⟩
                                refine ⟨_, rfl, ?_⟩
                                have n0_ := Aside0.mk (Kd.R_elder' (by (with_reducible repeat (first | apply Kd.R_alloc | apply Kd.R_drewN | apply Kd.R_drew)); exact HO389.out) (Kd.R_base ho0) hb)
                                have n1_ := Aside0.mk (Kd.R_elder' (by (with_reducible repeat (first | apply Kd.R_alloc | apply Kd.R_drewN | apply Kd.R_drew)); exact HO392.out) (Kd.R_base ho0) hb)
                                have n2_ := Aside0.mk (Kd.R_elder' (by (with_reducible repeat (first | apply Kd.R_alloc | apply Kd.R_drewN | apply Kd.R_drew)); exact HO395.out) (Kd.R_base ho0) hb)
                                have n3_ := Aside0.mk (Kd.R_elder' (by (with_reducible repeat (first | apply Kd.R_alloc | apply Kd.R_drewN | apply Kd.R_drew)); exact HO398.out) (Kd.R_base ho0) hb)
                                have n4_ := Aside0.mk (Kd.R_elder' (by (with_reducible repeat (first | apply Kd.R_alloc | apply Kd.R_drewN | apply Kd.R_drew)); exact HO402.out) (Kd.R_base ho0) hb)
                                have n5_ := Aside0.mk (Kd.R_elder' (by (with_reducible repeat (first | apply Kd.R_alloc | apply Kd.R_drewN | apply Kd.R_drew)); exact HO410.out) (Kd.R_base ho0) hb)
                                have n6_ := Aside0.mk (Kd.R_elder' (by (with_reducible repeat (first | apply Kd.R_alloc | apply Kd.R_drewN | apply Kd.R_drew)); exact HO418.out) (Kd.R_base ho0) hb)
                                have n7_ := Aside0.mk (Kd.R_elder' (by (with_reducible repeat (first | apply Kd.R_alloc | apply Kd.R_drewN | apply Kd.R_drew)); exact HO422.out) (Kd.R_base ho0) hb)
                                have n8_ := Aside0.mk (Kd.R_elder' (by (with_reducible repeat (first | apply Kd.R_alloc | apply Kd.R_drewN | apply Kd.R_drew)); exact HO430.out) (Kd.R_base ho0) hb)
                                have n9_ := Aside0.mk (Kd.R_elder' (by (with_reducible repeat (first | apply Kd.R_alloc | apply Kd.R_drewN | apply Kd.R_drew)); exact HO434.out) (Kd.R_base ho0) hb)
                                have n10_ := Aside0.mk (Kd.R_elder' (by (with_reducible repeat (first | apply Kd.R_alloc | apply Kd.R_drewN | apply Kd.R_drew)); exact HO442.out) (Kd.R_base ho0) hb)
                                have n11_ := Aside0.mk (Kd.R_elder' (by (with_reducible repeat (first | apply Kd.R_alloc | apply Kd.R_drewN | apply Kd.R_drew)); exact HO445.out) (Kd.R_base ho0) hb)
                                have n12_ := Aside0.mk (Kd.R_elder' (by (with_reducible repeat (first | apply Kd.R_alloc | apply Kd.R_drewN | apply Kd.R_drew)); exact HO449.out) (Kd.R_base ho0) hb)
                                have n13_ := Aside0.mk (Kd.R_lower (Kd.R_new' (Kd.R_new' (Kd.R_new' (Kd.R_new' (Kd.R_new' (Kd.R_new' (Kd.R_new' (Kd.R_new' (Kd.R_new' (Kd.R_new' (Kd.R_new' (Kd.R_new' (Kd.R_new' ho0 (Kd.R_lt (by (with_reducible repeat (first | apply Kd.R_alloc | apply Kd.R_drewN | apply Kd.R_drew)); exact HO389.out))) (Kd.R_lt (by (with_reducible repeat (first | apply Kd.R_alloc | apply Kd.R_drewN | apply Kd.R_drew)); exact HO392.out))) (Kd.R_lt (by (with_reducible repeat (first | apply Kd.R_alloc | apply Kd.R_drewN | apply Kd.R_drew)); exact HO395.out))) (Kd.R_lt (by (with_reducible repeat (first | apply Kd.R_alloc | apply Kd.R_drewN | apply Kd.R_drew)); exact HO398.out))) (Kd.R_lt (by (with_reducible repeat (first | apply Kd.R_alloc | apply Kd.R_drewN | apply Kd.R_drew)); exact HO402.out))) (Kd.R_lt (by (with_reducible repeat (first | apply Kd.R_alloc | apply Kd.R_drewN | apply Kd.R_drew)); exact HO410.out))) (Kd.R_lt (by (with_reducible repeat (first | apply Kd.R_alloc | apply Kd.R_drewN | apply Kd.R_drew)); exact HO418.out))) (Kd.R_lt (by (with_reducible repeat (first | apply Kd.R_alloc | apply Kd.R_drewN | apply Kd.R_drew)); exact HO422.out))) (Kd.R_lt (by (with_reducible repeat (first | apply Kd.R_alloc | apply Kd.R_drewN | apply Kd.R_drew)); exact HO430.out))) (Kd.R_lt (by (with_reducible repeat (first | apply Kd.R_alloc | apply Kd.R_drewN | apply Kd.R_drew)); exact HO434.out))) (Kd.R_lt (by (with_reducible repeat (first | apply Kd.R_alloc | apply Kd.R_drewN | apply Kd.R_drew)); exact HO442.out))) (Kd.R_lt (by (with_reducible repeat (first | apply Kd.R_alloc | apply Kd.R_drewN | apply Kd.R_drew)); exact HO445.out))) (Kd.R_lt (by (with_reducible repeat (first | apply Kd.R_alloc | apply Kd.R_drewN | apply Kd.R_drew)); exact HO449.out))) (below_size (by repeat (first | (with_reducible first | exact HB.out | apply below_alloc | apply pw_below_drewN | apply below_drew1) | exact HB.out))))
                                (first | have n14_ := Aside0.mk (Kd.C_below (Kd.C_drewN HR406.out _) hb) | have n14_ := Aside0.mk (Kd.C_below HR406.out hb) | have n14_ := Aside0.mk (Kd.C_below (by repeat (first | (with_reducible exact HR406.out) | (with_reducible refine Kd.C_alloc ?_ _) | (with_reducible refine Kd.C_drewN ?_ _) | (with_reducible refine Kd.C_drew ?_) | exact HR406.out)) hb))
                                (first | have n15_ := Aside0.mk (Kd.C_below (Kd.C_drewN HR414.out _) hb) | have n15_ := Aside0.mk (Kd.C_below HR414.out hb) | have n15_ := Aside0.mk (Kd.C_below (by repeat (first | (with_reducible exact HR414.out) | (with_reducible refine Kd.C_alloc ?_ _) | (with_reducible refine Kd.C_drewN ?_ _) | (with_reducible refine Kd.C_drew ?_) | exact HR414.out)) hb))
                                (first | have n16_ := Aside0.mk (Kd.C_below (Kd.C_drewN HR426.out _) hb) | have n16_ := Aside0.mk (Kd.C_below HR426.out hb) | have n16_ := Aside0.mk (Kd.C_below (by repeat (first | (with_reducible exact HR426.out) | (with_reducible refine Kd.C_alloc ?_ _) | (with_reducible refine Kd.C_drewN ?_ _) | (with_reducible refine Kd.C_drew ?_) | exact HR426.out)) hb))
                                (first | have n17_ := Aside0.mk (Kd.C_below (Kd.C_drewN HR438.out _) hb) | have n17_ := Aside0.mk (Kd.C_below HR438.out hb) | have n17_ := Aside0.mk (Kd.C_below (by repeat (first | (with_reducible exact HR438.out) | (with_reducible refine Kd.C_alloc ?_ _) | (with_reducible refine Kd.C_drewN ?_ _) | (with_reducible refine Kd.C_drew ?_) | exact HR438.out)) hb))
                                have n18_ := Aside0.mk (below_step (by repeat (first | (with_reducible first | exact HB.out | apply below_alloc | apply pw_below_drewN | apply below_drew1) | exact HB.out)) hb)
                                clear HO389
                                clear HO392
                                clear HO395
                                clear HO398
                                clear HO402
                                clear HO410
                                clear HO418
                                clear HO422
                                clear HO430
                                clear HO434
                                clear HO442
                                clear HO445
                                clear HO449
                                clear HR406
                                clear HR414
                                clear HR426
                                clear HR438
                                clear HB
                                have HO389 := n0_
                                have HO392 := n1_
                                have HO395 := n2_
                                have HO398 := n3_
                                have HO402 := n4_
                                have HO410 := n5_
                                have HO418 := n6_
                                have HO422 := n7_
                                have HO430 := n8_
                                have HO434 := n9_
                                have HO442 := n10_
                                have HO445 := n11_
                                have HO449 := n12_
                                have HO452 := n13_
                                have HR406 := n14_
                                have HR414 := n15_
                                have HR426 := n16_
                                have HR438 := n17_
                                have HB := n18_
                                clear n0_ n1_ n2_ n3_ n4_ n5_ n6_ n7_ n8_ n9_ n10_ n11_ n12_ n13_ n14_ n15_ n16_ n17_ n18_
                                (try clear hb)
                                (try clear hb2)
                                (try clear hk)
                                (try clear hi)
                                (try clear ho0)
                                obtain ⟨Ao77, co77, eo77⟩ := Kd.R_slice HO449.out
                                (first | subst eo77 | (injection eo77 with f1_ f2_ f3_; have f4_ := f1_.symm; have f5_ := f3_.symm; clear f1_ f2_ f3_; subst f4_; subst f5_))
                                obtain ⟨Ao78, co78, eo78⟩ := Kd.R_slice HO452.out
                                (first | subst eo78 | (injection eo78 with f1_ f2_ f3_; have f4_ := f1_.symm; have f5_ := f3_.symm; clear f1_ f2_ f3_; subst f4_; subst f5_))
                                refine hK.out _ _ trivial (fun hHeld => ?_)
                                clear hK K
                                refine norm_ (a' := ?_) ?_ ?_
                                rotate_left
                                · show Act.put _ (some 101) _ = _
                                  simp only [Act.put, List.setIfInBounds_toArray, List.set_cons_zero, List.set_cons_succ, i64_w, i32_w]
                                  rfl
                                refine one_ (i := 66) (N := some 102) #[true, true, true, true, true, true, true, true, true, true, true, true, true, true, true, true, true, true, true, true, true, true, true, true, true, true, true, true, true, true, true, true, true, true, true, true, true, true, true, true, true, true, true, true, true, true, true, true, true, true, true, true, true, true, true, true, true, true, true, true, true, true, true, true, true, true, true, false, false, false, false, false] rfl rfl (one_of HT_.out (by kernel_rfl)) (by decide) (fun K hK => ?_)
                                refine goes_ Try.func22 (by kernel_rfl) rfl #[.slice Ao77 t447.length co77, .slice Ao78 t450.length co78] (by rfl) rfl rfl (by (try simp only [List.map_toArray, List.map_cons, List.map_nil]); first | done | rfl | (simp only [List.length_drop, List.length_take]; rfl)) ?_
                                with_reducible refine (deedboxref01_Same.calls k _ _ t447 _ _ t450 true _ ?side1 ?side2 ?side3 ?side4 A43.out).mono ?_
                                (case side1 => repeat (first | exact (Kd.R_reads' HO449.out).2.2 | (with_reducible refine Kd.C_alloc ?_ _) | (with_reducible refine Kd.C_drewN ?_ _) | (with_reducible refine Kd.C_drew ?_)))
                                (case side2 => exact (Kd.R_reads' HO449.out).2.1)
                                (case side3 => repeat (first | exact (Kd.R_reads' HO452.out).2.2 | (with_reducible refine Kd.C_alloc ?_ _) | (with_reducible refine Kd.C_drewN ?_ _) | (with_reducible refine Kd.C_drew ?_)))
                                (case side4 => exact (Kd.R_reads' HO452.out).2.1)
                                rintro e w' ⟨rfl, ⟨nd, rfl⟩⟩
                                refine ⟨_, rfl, ?_⟩
                                refine hK.out _ _ trivial (fun hHeld => ?_)
                                clear hK K
                                refine norm_ (a' := ?_) ?_ ?_
                                rotate_left
                                · show Act.put _ (some 102) _ = _
                                  simp only [Act.put, List.setIfInBounds_toArray, List.set_cons_zero, List.set_cons_succ, i64_w, i32_w]
                                  rfl
                                refine pure_ (i := 67) (N := some 103) (v := ?_) (a' := ?_) #[true, true, true, true, true, true, true, true, true, true, true, true, true, true, true, true, true, true, true, true, true, true, true, true, true, true, true, true, true, true, true, true, true, true, true, true, true, true, true, true, true, true, true, true, true, true, true, true, true, true, true, true, true, true, true, true, true, true, true, true, true, true, true, true, true, true, true, true, false, false, false, false] rfl rfl (any_of HT_.out (by kernel_rfl)) (fun _ _ _ h => h) (Or.inl ⟨by rfl, ?_⟩) ?_ ?_
                                rotate_left
                                · intro w'
                                  go_simp
                                  with_reducible rfl
                                rotate_left
                                · simp only [Act.put, List.setIfInBounds_toArray, List.set_cons_zero, List.set_cons_succ, i64_w, i32_w]
                                  rfl
                                refine pure_ (i := 68) (N := some 104) (v := ?_) (a' := ?_) #[true, true, true, true, true, true, true, true, true, true, true, true, true, true, true, true, true, true, true, true, true, true, true, true, true, true, true, true, true, true, true, true, true, true, true, true, true, true, true, true, true, true, true, true, true, true, true, true, true, true, true, true, true, true, true, true, true, true, true, true, true, true, true, true, true, true, true, true, true, false, false, false] rfl rfl (any_of HT_.out (by kernel_rfl)) (fun _ _ _ h => h) (Or.inl ⟨by rfl, ?_⟩) ?_ ?_
                                rotate_left
                                · intro w'
                                  go_simp
                                  with_reducible rfl
                                rotate_left
                                · simp only [Act.put, List.setIfInBounds_toArray, List.set_cons_zero, List.set_cons_succ, i64_w, i32_w]
                                  rfl
                                refine one_ (i := 69) (N := some 105) #[true, true, true, true, true, true, true, true, true, true, true, true, true, true, true, true, true, true, true, true, true, true, true, true, true, true, true, true, true, true, true, true, true, true, true, true, true, true, true, true, true, true, true, true, true, true, true, true, true, true, true, true, true, true, true, true, true, true, true, true, true, true, true, true, true, true, true, true, true, true, false, false] rfl rfl (one_of HT_.out (by kernel_rfl)) (by decide) (fun K hK => ?_)
                                refine goes_ Try.func28 (by kernel_rfl) rfl #[] (by rfl) rfl rfl (by (try simp only [List.map_toArray, List.map_cons, List.map_nil]); first | done | rfl | (simp only [List.length_drop, List.length_take]; rfl)) ?_
                                with_reducible refine (deedboxlaw25_works.calls k  t454 _ A45.out hr_).mono ?_
                                rintro e w79 ⟨rfl, hb⟩
                                refine ⟨_, rfl, ?_⟩
                                have n0_ := Aside0.mk (Kd.R_below (by (with_reducible repeat (first | apply Kd.R_alloc | apply Kd.R_drewN | apply Kd.R_drew)); exact HO389.out) hb)
                                have n1_ := Aside0.mk (Kd.R_below (by (with_reducible repeat (first | apply Kd.R_alloc | apply Kd.R_drewN | apply Kd.R_drew)); exact HO392.out) hb)
                                have n2_ := Aside0.mk (Kd.R_below (by (with_reducible repeat (first | apply Kd.R_alloc | apply Kd.R_drewN | apply Kd.R_drew)); exact HO395.out) hb)
                                have n3_ := Aside0.mk (Kd.R_below (by (with_reducible repeat (first | apply Kd.R_alloc | apply Kd.R_drewN | apply Kd.R_drew)); exact HO398.out) hb)
                                have n4_ := Aside0.mk (Kd.R_below (by (with_reducible repeat (first | apply Kd.R_alloc | apply Kd.R_drewN | apply Kd.R_drew)); exact HO402.out) hb)
                                have n5_ := Aside0.mk (Kd.R_below (by (with_reducible repeat (first | apply Kd.R_alloc | apply Kd.R_drewN | apply Kd.R_drew)); exact HO410.out) hb)
                                have n6_ := Aside0.mk (Kd.R_below (by (with_reducible repeat (first | apply Kd.R_alloc | apply Kd.R_drewN | apply Kd.R_drew)); exact HO418.out) hb)
                                have n7_ := Aside0.mk (Kd.R_below (by (with_reducible repeat (first | apply Kd.R_alloc | apply Kd.R_drewN | apply Kd.R_drew)); exact HO422.out) hb)
                                have n8_ := Aside0.mk (Kd.R_below (by (with_reducible repeat (first | apply Kd.R_alloc | apply Kd.R_drewN | apply Kd.R_drew)); exact HO430.out) hb)
                                have n9_ := Aside0.mk (Kd.R_below (by (with_reducible repeat (first | apply Kd.R_alloc | apply Kd.R_drewN | apply Kd.R_drew)); exact HO434.out) hb)
                                have n10_ := Aside0.mk (Kd.R_below (by (with_reducible repeat (first | apply Kd.R_alloc | apply Kd.R_drewN | apply Kd.R_drew)); exact HO442.out) hb)
                                have n11_ := Aside0.mk (Kd.R_below (by (with_reducible repeat (first | apply Kd.R_alloc | apply Kd.R_drewN | apply Kd.R_drew)); exact HO445.out) hb)
                                have n12_ := Aside0.mk (Kd.R_below (by (with_reducible repeat (first | apply Kd.R_alloc | apply Kd.R_drewN | apply Kd.R_drew)); exact HO449.out) hb)
                                have n13_ := Aside0.mk (Kd.R_below (by (with_reducible repeat (first | apply Kd.R_alloc | apply Kd.R_drewN | apply Kd.R_drew)); exact HO452.out) hb)
                                (first | have n14_ := Aside0.mk (Kd.C_below (Kd.C_drewN HR406.out _) hb) | have n14_ := Aside0.mk (Kd.C_below HR406.out hb) | have n14_ := Aside0.mk (Kd.C_below (by repeat (first | (with_reducible exact HR406.out) | (with_reducible refine Kd.C_alloc ?_ _) | (with_reducible refine Kd.C_drewN ?_ _) | (with_reducible refine Kd.C_drew ?_) | exact HR406.out)) hb))
                                (first | have n15_ := Aside0.mk (Kd.C_below (Kd.C_drewN HR414.out _) hb) | have n15_ := Aside0.mk (Kd.C_below HR414.out hb) | have n15_ := Aside0.mk (Kd.C_below (by repeat (first | (with_reducible exact HR414.out) | (with_reducible refine Kd.C_alloc ?_ _) | (with_reducible refine Kd.C_drewN ?_ _) | (with_reducible refine Kd.C_drew ?_) | exact HR414.out)) hb))
                                (first | have n16_ := Aside0.mk (Kd.C_below (Kd.C_drewN HR426.out _) hb) | have n16_ := Aside0.mk (Kd.C_below HR426.out hb) | have n16_ := Aside0.mk (Kd.C_below (by repeat (first | (with_reducible exact HR426.out) | (with_reducible refine Kd.C_alloc ?_ _) | (with_reducible refine Kd.C_drewN ?_ _) | (with_reducible refine Kd.C_drew ?_) | exact HR426.out)) hb))
                                (first | have n17_ := Aside0.mk (Kd.C_below (Kd.C_drewN HR438.out _) hb) | have n17_ := Aside0.mk (Kd.C_below HR438.out hb) | have n17_ := Aside0.mk (Kd.C_below (by repeat (first | (with_reducible exact HR438.out) | (with_reducible refine Kd.C_alloc ?_ _) | (with_reducible refine Kd.C_drewN ?_ _) | (with_reducible refine Kd.C_drew ?_) | exact HR438.out)) hb))
                                have n18_ := Aside0.mk (below_step (by repeat (first | (with_reducible first | exact HB.out | apply below_alloc | apply pw_below_drewN | apply below_drew1) | exact HB.out)) hb)
                                clear HO389
                                clear HO392
                                clear HO395
                                clear HO398
                                clear HO402
                                clear HO410
                                clear HO418
                                clear HO422
                                clear HO430
                                clear HO434
                                clear HO442
                                clear HO445
                                clear HO449
                                clear HO452
                                clear HR406
                                clear HR414
                                clear HR426
                                clear HR438
                                clear HB
                                have HO389 := n0_
                                have HO392 := n1_
                                have HO395 := n2_
                                have HO398 := n3_
                                have HO402 := n4_
                                have HO410 := n5_
                                have HO418 := n6_
                                have HO422 := n7_
                                have HO430 := n8_
                                have HO434 := n9_
                                have HO442 := n10_
                                have HO445 := n11_
                                have HO449 := n12_
                                have HO452 := n13_
                                have HR406 := n14_
                                have HR414 := n15_
                                have HR426 := n16_
                                have HR438 := n17_
                                have HB := n18_
                                clear n0_ n1_ n2_ n3_ n4_ n5_ n6_ n7_ n8_ n9_ n10_ n11_ n12_ n13_ n14_ n15_ n16_ n17_ n18_
                                (try clear hb)
                                (try clear hb2)
                                (try clear hk)
                                (try clear hi)
                                refine hK.out _ _ trivial (fun hHeld => ?_)
                                clear hK K
                                refine norm_ (a' := ?_) ?_ ?_
                                rotate_left
                                · show Act.put _ (some 105) _ = _
                                  simp only [Act.put, List.setIfInBounds_toArray, List.set_cons_zero, List.set_cons_succ, i64_w, i32_w]
                                  rfl
                                refine pure_ (i := 70) (N := some 106) (v := ?_) (a' := ?_) #[true, true, true, true, true, true, true, true, true, true, true, true, true, true, true, true, true, true, true, true, true, true, true, true, true, true, true, true, true, true, true, true, true, true, true, true, true, true, true, true, true, true, true, true, true, true, true, true, true, true, true, true, true, true, true, true, true, true, true, true, true, true, true, true, true, true, true, true, true, true, true, false] rfl rfl (any_of HT_.out (by kernel_rfl)) (fun _ _ _ h => h) (Or.inl ⟨by rfl, ?_⟩) ?_ ?_
                                rotate_left
                                · intro w'
                                  go_simp
                                  with_reducible rfl
                                rotate_left
                                · simp only [Act.put, List.setIfInBounds_toArray, List.set_cons_zero, List.set_cons_succ, i64_w, i32_w]
                                  rfl
                                refine pure_ (i := 71) (N := some 8) (v := ?_) (a' := ?_) #[true, true, true, true, true, true, true, true, true, true, true, true, true, true, true, true, true, true, true, true, true, true, true, true, true, true, true, true, true, true, true, true, true, true, true, true, true, true, true, true, true, true, true, true, true, true, true, true, true, true, true, true, true, true, true, true, true, true, true, true, true, true, true, true, true, true, true, true, true, true, true, true] rfl rfl (any_of HT_.out (by kernel_rfl)) (fun _ _ _ h => h) (Or.inl ⟨by rfl, ?_⟩) ?_ ?_
                                rotate_left
                                · intro w'
                                  go_simp
                                  with_reducible rfl
                                rotate_left
                                · simp only [Act.put, List.setIfInBounds_toArray, List.set_cons_zero, List.set_cons_succ, i64_w, i32_w]
                                  rfl
                                refine done_ (done_of HT_.out (by kernel_rfl)) ?_
                                try go_wp2
                                go_ret
                                exact ⟨by first | rfl | (simp [errW_none, errW_some] <;> rfl) | (simp only [← hji14]; first | rfl | (simp [errW_none, errW_some] <;> rfl)) | (simp [*, errW_none, errW_some] <;> rfl), by repeat (first | (with_reducible first | exact HB.out | apply below_alloc | apply pw_below_drewN | apply below_drew1) | exact HB.out)⟩
                              · replace c44 := Bool.eq_false_iff.mpr c44
                                subst c44
                                have H1 : (some false) = some r := by rw [if_neg (show ¬ (false = true) by decide)] at H; exact H
                                clear H
                                have H := H1
                                clear H1
                                obtain rfl := Option.some.inj H
                                exact absurd hr_.out (by simp)
                            · replace c40 := Bool.eq_false_iff.mpr c40
                              subst c40
                              have H1 : (some false) = some r := by rw [if_neg (show ¬ (false = true) by decide)] at H; exact H
                              clear H
                              have H := H1
                              clear H1
                              obtain rfl := Option.some.inj H
                              exact absurd hr_.out (by simp)
                          · replace c36 := Bool.eq_false_iff.mpr c36
                            subst c36
                            have H1 : (some false) = some r := by rw [if_neg (show ¬ (false = true) by decide)] at H; exact H
                            clear H
                            have H := H1
                            clear H1
                            obtain rfl := Option.some.inj H
                            exact absurd hr_.out (by simp)
                        · rw [if_neg c34] at H
                          exact absurd H (by simp)
                      · replace c32 := Bool.eq_false_iff.mpr c32
                        subst c32
                        have H1 : (some false) = some r := by rw [if_neg (show ¬ (false = true) by decide)] at H; exact H
                        clear H
                        have H := H1
                        clear H1
                        obtain rfl := Option.some.inj H
                        exact absurd hr_.out (by simp)
                    · replace c29 := Bool.eq_false_iff.mpr c29
                      subst c29
                      have H1 : (some false) = some r := by rw [if_neg (show ¬ (false = true) by decide)] at H; exact H
                      clear H
                      have H := H1
                      clear H1
                      obtain rfl := Option.some.inj H
                      exact absurd hr_.out (by simp)
                  · rw [if_neg c27] at H
                    exact absurd H (by simp)
                · replace c25 := Bool.eq_false_iff.mpr c25
                  subst c25
                  have H1 : (some false) = some r := by rw [if_neg (show ¬ (false = true) by decide)] at H; exact H
                  clear H
                  have H := H1
                  clear H1
                  obtain rfl := Option.some.inj H
                  exact absurd hr_.out (by simp)
              · replace c22 := Bool.eq_false_iff.mpr c22
                subst c22
                have H1 : (some false) = some r := by rw [if_neg (show ¬ (false = true) by decide)] at H; exact H
                clear H
                have H := H1
                clear H1
                obtain rfl := Option.some.inj H
                exact absurd hr_.out (by simp)
            · rw [if_neg c20] at H
              exact absurd H (by simp)
          · replace c18 := Bool.eq_false_iff.mpr c18
            subst c18
            have H1 : (some false) = some r := by rw [if_neg (show ¬ (false = true) by decide)] at H; exact H
            clear H
            have H := H1
            clear H1
            obtain rfl := Option.some.inj H
            exact absurd hr_.out (by simp)
        · rw [if_neg c16] at H
          exact absurd H (by simp)
      · rw [if_neg c15] at H
        exact absurd H (by simp)
    · replace c12 := Bool.eq_false_iff.mpr c12
      subst c12
      have H1 : (some false) = some r := by rw [if_neg (show ¬ (false = true) by decide)] at H; exact H
      clear H
      have H := H1
      clear H1
      obtain rfl := Option.some.inj H
      exact absurd hr_.out (by simp)
  · replace c6 := Bool.eq_false_iff.mpr c6
    subst c6
    have H1 : ((deedboxlaw25_works.f k).bind fun t386 => (some t386)) = some r := by rw [if_neg (show ¬ (false = true) by decide)] at H; exact H
    clear H
    have H := H1
    clear H1
    replace H := Option.bind_eq_some_iff.mp H
    obtain ⟨t386, A800, H⟩ := H
    replace H : (some t386) = some r := H
    have A80 := Aside0.mk A800
    clear A800
    obtain rfl := Option.some.inj H
    go_enter Try.func6, Try.ntmps6
    go_wp2_with (first | ((with_reducible refine gate_callee (f := 27) rfl ?_); refine goesL_ (some 16) rfl rfl Try.func27 (by kernel_rfl) rfl #[.string a1] rfl (by (try simp only [List.map_toArray, List.map_cons, List.map_nil]); first | done | rfl | (simp only [List.length_drop, List.length_take]; rfl)) ?_; (with_reducible refine (deedboxlaw25_plain.calls k a1 false _ A5.out).mono ?_); rintro e w' ⟨rfl, ⟨nd, rfl⟩⟩; refine ⟨_, rfl, ?_⟩) | ((with_reducible refine gate_callee (f := 28) rfl ?_); refine goesL_ (some 18) rfl rfl Try.func28 (by kernel_rfl) rfl #[] rfl (by (try simp only [List.map_toArray, List.map_cons, List.map_nil]); first | done | rfl | (simp only [List.length_drop, List.length_take]; rfl)) ?_; (with_reducible refine (deedboxlaw25_works.calls k  t386 _ A80.out hr_).mono ?_); rintro e w81 ⟨rfl, hb⟩; refine ⟨_, rfl, ?_⟩; have n0_ := Aside0.mk (below_step (by repeat (first | (with_reducible first | exact HB.out | apply below_alloc | apply pw_below_drewN | apply below_drew1) | exact HB.out)) hb); clear HB; have HB := n0_; clear n0_; (try clear hb); (try clear hb2); (try clear hk); (try clear hi)))
    go_ret
    exact ⟨by first | rfl | (simp [errW_none, errW_some] <;> rfl) | (simp [*, errW_none, errW_some] <;> rfl), by repeat (first | (with_reducible first | exact HB.out | apply below_alloc | apply pw_below_drewN | apply below_drew1) | exact HB.out)⟩

/-- THE ONE PURE STATEMENT of deedboxlaw25_PathMakes: yours. -/
def deedboxlaw25_PathMakes.Pure : Prop := ∀ (a0 : Int) (a1 : ByteArray) (a2 : Int) (a3 : Int), (Lit.int .u16 a0).wf = true → a1.size ≤ 140737488351232 → (Lit.int .u32 a2).wf = true → (Lit.int .u16 a3).wf = true → ∃ k, deedboxlaw25_PathMakes.f k a0 a1 a2 a3 = some true
theorem deedboxlaw25_PathMakes.walk (P : deedboxlaw25_PathMakes.Pure) (a0 : Int) (a1 : ByteArray) (a2 : Int) (a3 : Int) (w : World) (w0 : (Lit.int .u16 a0).wf = true) (w1 : a1.size ≤ 140737488351232) (w2 : (Lit.int .u32 a2).wf = true) (w3 : (Lit.int .u16 a3).wf = true) :
    Calls Try.prog 6 #[.int .u16 a0, .string a1, .int .u32 a2, .int .u16 a3] w fun e w' => e = .returned (.bool true) ∧ Below w.heap.size w w' := by
  obtain ⟨k, h⟩ := P a0 a1 a2 a3 w0 w1 w2 w3
  refine (deedboxlaw25_PathMakes.calls k a0 a1 a2 a3 true w h (Aside0.mk rfl)).mono ?_
  rintro e w' ⟨rfl, hd⟩
  exact ⟨rfl, hd⟩

end Go.Proofs.Ytagoofdopgopoaa.PPathMakes
