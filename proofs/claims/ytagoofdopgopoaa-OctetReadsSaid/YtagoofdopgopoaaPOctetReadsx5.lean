/- Written by a program of the prover: the functions that a law reaches, as plain Lean functions, each with the proof that the call of the machine comes to it. -/
import Derived.Test.YtagoofdopgopoaaPOctetReadsx0
import Derived.Test.YtagoofdopgopoaaPOctetReadsx1
import Derived.Test.YtagoofdopgopoaaPOctetReadsx2
import Derived.Test.YtagoofdopgopoaaPOctetReadsx3
import Derived.Test.YtagoofdopgopoaaPOctetReadsx4
namespace Go.Proofs.Ytagoofdopgopoaa.POctetReads
open Go.RowKit Go.Proofs.YtagoofdopgopoaaW.PrintWords Go.Proofs.YtagoofdopgopoaaW.PrintLast Go.Proofs.YtagoofdopgopoaaW.PrintMore
attribute [local go_sem] max2_int min2_int max_two min_two max_three min_three max_four min_four   -- for this text's walks alone
set_option linter.unusedVariables false
set_option linter.unusedSimpArgs false

/-! ### deedboxlaw01_OctetReads: function 13 -/
mutual
def deedboxlaw01_OctetReads.j0 : Nat → List Int → List (S73) → Bool → Option (Bool)
  | 0, _, _, _ => none
  | k + 1, x0, x1, x22 => if x22 = true then ((deedboxlaw01_works.f k).bind fun t283 => (some t283)) else ((octet_Read.f k x0).bind fun bt284 => (deedboxlaw01_OctetReads.l0 k x1 0 bt284.1 bt284.2 x0 0))
def deedboxlaw01_OctetReads.l0 : Nat → List (S73) → Int → List Int → Int → List Int → Int → Option (Bool)
  | 0, _, _, _, _, _, _ => none
  | k + 1, x1, x7, x287000, x287001, x288000, x288001 => if x7 < (x1.length : Int) then (if 0 ≤ x7 then (if ((rd_T73 x1 x7).f0) = 0 then ((deedboxref01_Number.f k x288000 x288001 ((rd_T73 x1 x7).f1)).bind fun bt295 => ((octet_Reader_Number.f k x287000 x287001 ((rd_T73 x1 x7).f1)).bind fun bt301 => (if bt301.1 = bt295.2.2 then (deedboxlaw01_OctetReads.j2 k x1 x7 bt301.2.1 bt301.2.2 bt295.1 bt295.2.1) else (some false)))) else (if ((rd_T73 x1 x7).f0) = 1 then ((deedboxref01_Bytes.f x288000 x288001 ((rd_T73 x1 x7).f1)).bind fun bt304 => ((octet_Reader_Bytes.f k x287000 x287001 ((rd_T73 x1 x7).f1)).bind fun bt312 => ((deedboxref01_Same.f k bt312.1 bt304.2.2).bind fun t317 => (if t317 = true then (deedboxlaw01_OctetReads.j2 k x1 x7 bt312.2.1 bt312.2.2 bt304.1 bt304.2.1) else (some false))))) else (if ((rd_T73 x1 x7).f0) = 2 then ((deedboxref01_Text.f k x288000 x288001 ((rd_T73 x1 x7).f1) ((rd_T73 x1 x7).f2)).bind fun bt318 => ((octet_Reader_Text.f k x287000 x287001 ((rd_T73 x1 x7).f1) ((rd_T73 x1 x7).f2)).bind fun bt326 => ((deedboxref01_Same.f k bt326.1 bt318.2.2).bind fun t331 => (if t331 = true then (deedboxlaw01_OctetReads.j2 k x1 x7 bt326.2.1 bt326.2.2 bt318.1 bt318.2.1) else (some false))))) else (if ((rd_T73 x1 x7).f0) = 3 then (if (Int.tmod ((rd_T73 x1 x7).f1) 5) = 0 then (if x288001 = 0 then ((octet_Reader_Fail.f x287000 x287001 1).bind fun bt332 => (deedboxlaw01_OctetReads.j2 k x1 x7 bt332.1 bt332.2 x288000 1)) else ((octet_Reader_Fail.f x287000 x287001 1).bind fun bt334 => (deedboxlaw01_OctetReads.j2 k x1 x7 bt334.1 bt334.2 x288000 x288001))) else (deedboxlaw01_OctetReads.j2 k x1 x7 x287000 x287001 x288000 x288001)) else (deedboxlaw01_OctetReads.j2 k x1 x7 x287000 x287001 x288000 x288001))))) else (none)) else ((octet_Reader_End.f x287000 x287001).bind fun bt288 => ((deedboxref01_End.f x288000 x288001).bind fun t291 => (if bt288.1 = t291 then ((deedboxlaw01_works.f k).bind fun t292 => (some t292)) else (some false))))
def deedboxlaw01_OctetReads.j2 : Nat → List (S73) → Int → List Int → Int → List Int → Int → Option (Bool)
  | 0, _, _, _, _, _, _ => none
  | k + 1, x1, x7, x287000, x287001, x288000, x288001 => (octet_Reader_Code.f x287000 x287001).bind fun bt336 => (if bt336.1 = x288001 then ((octet_Reader_Left.f bt336.2.1 bt336.2.2).bind fun bt339 => (if bt339.1 = (x288000.length : Int) then (deedboxlaw01_OctetReads.l0 k x1 (wrap64 (x7 + 1)) bt339.2.1 bt339.2.2 x288000 x288001) else (some false))) else (some false))
end
def deedboxlaw01_OctetReads.f (k : Nat) (l0 : List Int) (l1 : List (S73)) : Option (Bool) := if (l0.length : Int) > 3000 then (deedboxlaw01_OctetReads.j0 k l0 l1 true) else (deedboxlaw01_OctetReads.j0 k l0 l1 (decide ((l1.length : Int) > 40)))
theorem deedboxlaw01_OctetReads.mono_l : ∀ k, (∀ y0 y1 y2, LeO (deedboxlaw01_OctetReads.j0 k y0 y1 y2) (deedboxlaw01_OctetReads.j0 (k + 1) y0 y1 y2)) ∧ (∀ y0 y1 y2 y3 y4 y5, LeO (deedboxlaw01_OctetReads.l0 k y0 y1 y2 y3 y4 y5) (deedboxlaw01_OctetReads.l0 (k + 1) y0 y1 y2 y3 y4 y5)) ∧ (∀ y0 y1 y2 y3 y4 y5, LeO (deedboxlaw01_OctetReads.j2 k y0 y1 y2 y3 y4 y5) (deedboxlaw01_OctetReads.j2 (k + 1) y0 y1 y2 y3 y4 y5))
  | 0 => ⟨fun _ _ _ r h => by simp [deedboxlaw01_OctetReads.j0] at h, fun _ _ _ _ _ _ r h => by simp [deedboxlaw01_OctetReads.l0] at h, fun _ _ _ _ _ _ r h => by simp [deedboxlaw01_OctetReads.j2] at h⟩
  | k + 1 => by
    obtain ⟨ih0, ih1, ih2⟩ := deedboxlaw01_OctetReads.mono_l k
    refine ⟨?_, ?_, ?_⟩
    · intro y0 y1 y2
      unfold deedboxlaw01_OctetReads.j0
      repeat' first
      | (with_reducible exact ih0 _ _ _)
      | (with_reducible exact ih1 _ _ _ _ _ _)
      | (with_reducible exact ih2 _ _ _ _ _ _)
      | (with_reducible exact deedboxlaw01_works.mono _)
      | (with_reducible exact deedboxref01_Number.mono _ _ _ _)
      | (with_reducible exact deedboxref01_Same.mono _ _ _)
      | (with_reducible exact deedboxref01_Text.mono _ _ _ _ _)
      | (with_reducible exact octet_Read.mono _ _)
      | (with_reducible exact octet_Reader_Bytes.mono _ _ _ _)
      | (with_reducible exact octet_Reader_Number.mono _ _ _ _)
      | (with_reducible exact octet_Reader_Text.mono _ _ _ _ _)
      | (with_reducible exact LeO.refl _)
      | (with_reducible exact LeO.none _)
      | (with_reducible refine LeO.ite ?_ ?_)
      | (with_reducible refine LeO.bind ?_ (fun _ => ?_))
      | exact ih0 _ _ _
      | exact ih1 _ _ _ _ _ _
      | exact ih2 _ _ _ _ _ _
      | exact deedboxlaw01_works.mono _
      | exact deedboxref01_Number.mono _ _ _ _
      | exact deedboxref01_Same.mono _ _ _
      | exact deedboxref01_Text.mono _ _ _ _ _
      | exact octet_Read.mono _ _
      | exact octet_Reader_Bytes.mono _ _ _ _
      | exact octet_Reader_Number.mono _ _ _ _
      | exact octet_Reader_Text.mono _ _ _ _ _
      | exact LeO.none _
      | refine LeO.ite ?_ ?_
      | refine LeO.bind ?_ (fun _ => ?_)
    · intro y0 y1 y2 y3 y4 y5
      unfold deedboxlaw01_OctetReads.l0
      repeat' first
      | (with_reducible exact ih0 _ _ _)
      | (with_reducible exact ih1 _ _ _ _ _ _)
      | (with_reducible exact ih2 _ _ _ _ _ _)
      | (with_reducible exact deedboxlaw01_works.mono _)
      | (with_reducible exact deedboxref01_Number.mono _ _ _ _)
      | (with_reducible exact deedboxref01_Same.mono _ _ _)
      | (with_reducible exact deedboxref01_Text.mono _ _ _ _ _)
      | (with_reducible exact octet_Read.mono _ _)
      | (with_reducible exact octet_Reader_Bytes.mono _ _ _ _)
      | (with_reducible exact octet_Reader_Number.mono _ _ _ _)
      | (with_reducible exact octet_Reader_Text.mono _ _ _ _ _)
      | (with_reducible exact LeO.refl _)
      | (with_reducible exact LeO.none _)
      | (with_reducible refine LeO.ite ?_ ?_)
      | (with_reducible refine LeO.bind ?_ (fun _ => ?_))
      | exact ih0 _ _ _
      | exact ih1 _ _ _ _ _ _
      | exact ih2 _ _ _ _ _ _
      | exact deedboxlaw01_works.mono _
      | exact deedboxref01_Number.mono _ _ _ _
      | exact deedboxref01_Same.mono _ _ _
      | exact deedboxref01_Text.mono _ _ _ _ _
      | exact octet_Read.mono _ _
      | exact octet_Reader_Bytes.mono _ _ _ _
      | exact octet_Reader_Number.mono _ _ _ _
      | exact octet_Reader_Text.mono _ _ _ _ _
      | exact LeO.none _
      | refine LeO.ite ?_ ?_
      | refine LeO.bind ?_ (fun _ => ?_)
    · intro y0 y1 y2 y3 y4 y5
      unfold deedboxlaw01_OctetReads.j2
      repeat' first
      | (with_reducible exact ih0 _ _ _)
      | (with_reducible exact ih1 _ _ _ _ _ _)
      | (with_reducible exact ih2 _ _ _ _ _ _)
      | (with_reducible exact deedboxlaw01_works.mono _)
      | (with_reducible exact deedboxref01_Number.mono _ _ _ _)
      | (with_reducible exact deedboxref01_Same.mono _ _ _)
      | (with_reducible exact deedboxref01_Text.mono _ _ _ _ _)
      | (with_reducible exact octet_Read.mono _ _)
      | (with_reducible exact octet_Reader_Bytes.mono _ _ _ _)
      | (with_reducible exact octet_Reader_Number.mono _ _ _ _)
      | (with_reducible exact octet_Reader_Text.mono _ _ _ _ _)
      | (with_reducible exact LeO.refl _)
      | (with_reducible exact LeO.none _)
      | (with_reducible refine LeO.ite ?_ ?_)
      | (with_reducible refine LeO.bind ?_ (fun _ => ?_))
      | exact ih0 _ _ _
      | exact ih1 _ _ _ _ _ _
      | exact ih2 _ _ _ _ _ _
      | exact deedboxlaw01_works.mono _
      | exact deedboxref01_Number.mono _ _ _ _
      | exact deedboxref01_Same.mono _ _ _
      | exact deedboxref01_Text.mono _ _ _ _ _
      | exact octet_Read.mono _ _
      | exact octet_Reader_Bytes.mono _ _ _ _
      | exact octet_Reader_Number.mono _ _ _ _
      | exact octet_Reader_Text.mono _ _ _ _ _
      | exact LeO.none _
      | refine LeO.ite ?_ ?_
      | refine LeO.bind ?_ (fun _ => ?_)
theorem deedboxlaw01_OctetReads.mono : ∀ a0 a1 k, LeO (deedboxlaw01_OctetReads.f k a0 a1) (deedboxlaw01_OctetReads.f (k + 1) a0 a1) := by
  intro a0 a1 k
  obtain ⟨ih0, ih1, ih2⟩ := deedboxlaw01_OctetReads.mono_l k
  unfold deedboxlaw01_OctetReads.f
  repeat' first
      | (with_reducible exact ih0 _ _ _)
      | (with_reducible exact ih1 _ _ _ _ _ _)
      | (with_reducible exact ih2 _ _ _ _ _ _)
      | (with_reducible exact deedboxlaw01_works.mono _)
      | (with_reducible exact deedboxref01_Number.mono _ _ _ _)
      | (with_reducible exact deedboxref01_Same.mono _ _ _)
      | (with_reducible exact deedboxref01_Text.mono _ _ _ _ _)
      | (with_reducible exact octet_Read.mono _ _)
      | (with_reducible exact octet_Reader_Bytes.mono _ _ _ _)
      | (with_reducible exact octet_Reader_Number.mono _ _ _ _)
      | (with_reducible exact octet_Reader_Text.mono _ _ _ _ _)
      | (with_reducible exact LeO.refl _)
      | (with_reducible exact LeO.none _)
      | (with_reducible refine LeO.ite ?_ ?_)
      | (with_reducible refine LeO.bind ?_ (fun _ => ?_))
      | exact ih0 _ _ _
      | exact ih1 _ _ _ _ _ _
      | exact ih2 _ _ _ _ _ _
      | exact deedboxlaw01_works.mono _
      | exact deedboxref01_Number.mono _ _ _ _
      | exact deedboxref01_Same.mono _ _ _
      | exact deedboxref01_Text.mono _ _ _ _ _
      | exact octet_Read.mono _ _
      | exact octet_Reader_Bytes.mono _ _ _ _
      | exact octet_Reader_Number.mono _ _ _ _
      | exact octet_Reader_Text.mono _ _ _ _ _
      | exact LeO.none _
      | refine LeO.ite ?_ ?_
      | refine LeO.bind ?_ (fun _ => ?_)
def deedboxlaw01_OctetReads.T32 : Bool × List (List Nat × List Nat) := (true, [([], []), ([0], [0]), ([], []), ([2], [2]), ([1, 3], [1, 3]), ([4, 1], [4]), ([5], [5]), ([6, 5, 5], [5, 6]), ([5], [5]), ([8, 5], [5, 8]), ([9, 5], [5, 9]), ([7, 10, 5], [5, 7, 10]), ([5, 11], [5, 11])])
def deedboxlaw01_OctetReads.B32 : List Nat := [0, 1, 0, 4, 15, 31, 63, 127, 63, 319, 831, 2047, 4095]
theorem deedboxlaw01_OctetReads.tab32 : rtab .any (opsOf Try.f13 32) = deedboxlaw01_OctetReads.T32 := by kernel_rfl
theorem deedboxlaw01_OctetReads.bits32 : waitsOk deedboxlaw01_OctetReads.T32.2 deedboxlaw01_OctetReads.B32 = true := by kernel_rfl
def deedboxlaw01_OctetReads.T34 : Bool × List (List Nat × List Nat) := (true, [([], []), ([0], [0]), ([], []), ([2, 1], [2]), ([1, 3], [1, 3]), ([4, 3], [4]), ([5, 5], [5]), ([5, 6], [5, 6]), ([7, 6, 0, 1, 2, 3, 4, 5, 6, 7], [7])])
def deedboxlaw01_OctetReads.B34 : List Nat := [0, 1, 0, 7, 15, 31, 63, 127, 255]
theorem deedboxlaw01_OctetReads.tab34 : rtab .any (opsOf Try.f13 34) = deedboxlaw01_OctetReads.T34 := by kernel_rfl
theorem deedboxlaw01_OctetReads.bits34 : waitsOk deedboxlaw01_OctetReads.T34.2 deedboxlaw01_OctetReads.B34 = true := by kernel_rfl
set_option maxHeartbeats 8000000 in
set_option maxRecDepth 100000 in
theorem deedboxlaw01_OctetReads.calls (k : Nat) (P0_ : Nat → Prop) (A0 : Option Addr) (c0 : Nat) (l0 : List Int) (A1 : Option Addr) (c1 : Nat) (l1 : List (S73)) (r : Bool) (w : World) (hs0 : Kd.V (Kd.int .u8) 5 w w.heap.size (fun k_ => P0_ k_) (.slice A0 l0.length c0) l0) (hr1 : Kd.C k73 w A1 l1.length l1) (hc1 : l1.length ≤ c1) (h : deedboxlaw01_OctetReads.f k l0 l1 = some r) (hr_ : Aside0 (r = true)) :
    Calls Try.prog 13 #[.slice A0 l0.length c0, .slice A1 l1.length c1] w fun e w' => e = .returned (.bool r) ∧ Below w.heap.size w w' := by
  have hu71 := Try.underlying71
  have hu73 := Try.underlying73
  have HO0 := Aside0.mk (show Kd.V (Kd.int .u8) 5 w w.heap.size (fun k_ => (P0_ k_ ∨ w.heap.size ≤ k_)) (.slice A0 l0.length c0) l0 from Kd.V_mono hs0 (fun k_ hk => .inl hk))
  have HR1 := Aside0.mk hr1
  have HC1 := Aside0.mk hc1
  clear hr1 hc1
  have HB := Aside0.mk (Below.refl w.heap.size w)
  have H : (if (l0.length : Int) > 3000 then (deedboxlaw01_OctetReads.j0 k l0 l1 true) else (deedboxlaw01_OctetReads.j0 k l0 l1 (decide ((l1.length : Int) > 40)))) = some r := h
  clear h
  have HC3 := Aside0.mk H
  clear H
  go_enter Try.func13, Try.ntmps13
  go_upto_region 1 with (fail)
  go_cut [22] (fun v22 wc => ∃ (kq : Nat) (x22_2 : Bool), v22 = .bool x22_2 ∧ Aside0 (deedboxlaw01_OctetReads.j0 kq l0 l1 x22_2 = some r) ∧ Aside0 (kq ≤ k) ∧ Aside0 (Kd.V (Kd.int .u8) 5 wc w.heap.size (fun k_ => (P0_ k_ ∨ w.heap.size ≤ k_)) (.slice A0 l0.length c0) l0) ∧ Aside0 (Below w.heap.size w wc))
  case first =>
    have H := HC3.out
    clear HC3
    by_cases c4 : (l0.length : Int) > 3000
    · rw [if_pos c4] at H
      have c4b0 : decide (3000 < (l0.length : Int)) = true := decide_eq_true c4
      have c4b1 : decide (3000 < l0.length) = true := decide_eq_true (by omega)
      clear c4
      (first | rw [c4b0] | (simp only [i64_w, i32_w]; rw [c4b0]) | skip)
      have H' := Aside0.mk H
      clear H
      go_wp2
      go_meet
      case rel => exact ⟨_, (true), (by first | rfl | (simp; done) | (simp [*]; done)), H', ⟨by first | omega | exact Nat.le_refl _⟩, ⟨by (with_reducible repeat (first | apply Kd.V_alloc | apply Kd.V_drewN | apply Kd.V_drew)); exact HO0.out⟩, ⟨by repeat (first | (with_reducible first | exact HB.out | apply below_alloc | apply pw_below_drewN | apply below_drew1) | exact HB.out)⟩⟩
    · rw [if_neg c4] at H
      have c4b0 : decide (3000 < (l0.length : Int)) = false := decide_eq_false c4
      have c4b1 : decide (3000 < l0.length) = false := decide_eq_false (by omega)
      clear c4
      (first | rw [c4b0] | (simp only [i64_w, i32_w]; rw [c4b0]) | skip)
      have H' := Aside0.mk H
      clear H
      go_wp2
      go_meet
      case rel => exact ⟨_, (decide ((l1.length : Int) > 40)), (by first | rfl | (simp; done) | (simp [*]; done)), H', ⟨by first | omega | exact Nat.le_refl _⟩, ⟨by (with_reducible repeat (first | apply Kd.V_alloc | apply Kd.V_drewN | apply Kd.V_drew)); exact HO0.out⟩, ⟨by repeat (first | (with_reducible first | exact HB.out | apply below_alloc | apply pw_below_drewN | apply below_drew1) | exact HB.out)⟩⟩
  case rest =>
    clear HC3
    try clear c1
    try clear p2
    try clear c4
    try clear c4b0
    try clear c4b1
    obtain ⟨kq, x22_2, rfl, HA, HJ2, HO_0, HB⟩ := hcut
    cases kq with
    | zero => exact absurd HA.out (by simp [deedboxlaw01_OctetReads.j0])
    | succ kj2 =>
      have H := HA.out
      clear HA
      simp only [deedboxlaw01_OctetReads.j0] at H
      by_cases c5 : x22_2 = true
      · subst c5
        have H1 : ((deedboxlaw01_works.f kj2).bind fun t283 => (some t283)) = some r := by rw [if_pos rfl] at H; exact H
        clear H
        have H := H1
        clear H1
        replace H := Option.bind_eq_some_iff.mp H
        obtain ⟨t283, A60, H⟩ := H
        replace H : (some t283) = some r := H
        have A6 := Aside0.mk A60
        clear A60
        obtain rfl := Option.some.inj H
        go_wp2_with (first | ((with_reducible refine gate_callee (f := 53) rfl ?_); refine goesL_ (some 23) rfl rfl Try.func53 (by kernel_rfl) rfl #[] rfl (by (try simp only [List.map_toArray, List.map_cons, List.map_nil]); first | done | rfl | (simp only [List.length_drop, List.length_take]; rfl)) ?_; (with_reducible refine (deedboxlaw01_works.calls kj2  t283 _ A6.out hr_).mono ?_); rintro e w7 ⟨rfl, hb⟩; refine ⟨_, rfl, ?_⟩; have n0_ := Aside0.mk (Kd.V_below (by (with_reducible repeat (first | apply Kd.V_alloc | apply Kd.V_drewN | apply Kd.V_drew)); exact HO_0.out) hb); have n1_ := Aside0.mk (below_step (by repeat (first | (with_reducible first | exact HB.out | apply below_alloc | apply pw_below_drewN | apply below_drew1) | exact HB.out)) hb); clear HO_0; clear HB; have HO_0 := n0_; have HB := n1_; clear n0_ n1_; (try clear hb); (try clear hb2); (try clear hk); (try clear hi)))
        go_ret
        exact ⟨by first | rfl | (simp [errW_none, errW_some] <;> rfl) | (simp [*, errW_none, errW_some] <;> rfl), by repeat (first | (with_reducible first | exact HB.out | apply below_alloc | apply pw_below_drewN | apply below_drew1) | exact HB.out)⟩
      · replace c5 := Bool.eq_false_iff.mpr c5
        subst c5
        have H1 : ((octet_Read.f kj2 l0).bind fun bt284 => (deedboxlaw01_OctetReads.l0 kj2 l1 0 bt284.1 bt284.2 l0 0)) = some r := by rw [if_neg (show ¬ (false = true) by decide)] at H; exact H
        clear H
        have H := H1
        clear H1
        replace H := Option.bind_eq_some_iff.mp H
        obtain ⟨⟨t284, t285⟩, A80, H⟩ := H
        replace H : (deedboxlaw01_OctetReads.l0 kj2 l1 0 t284 t285 l0 0) = some r := H
        have A8 := Aside0.mk A80
        clear A80
        have H' := Aside0.mk H
        clear H
        go_wp2_with (first | ((with_reducible refine gate_callee (f := 64) rfl ?_); refine goesL_ (some 25) rfl rfl Try.func64 (by kernel_rfl) rfl #[.slice A0 l0.length c0] rfl (by (try simp only [List.map_toArray, List.map_cons, List.map_nil]); first | done | rfl | (simp only [List.length_drop, List.length_take]; rfl)) ?_; (with_reducible refine (octet_Read.calls kj2 _ _ l0 t284 t285 w _ ?side1 ?side2 ?side3 A8.out).mono ?_); (case side1 => repeat (first | (with_reducible first | exact HB.out | apply below_alloc | apply pw_below_drewN | apply below_drew1) | exact HB.out)); (case side2 => repeat (first | exact (Kd.V_reads' HO_0.out).2.2 | (with_reducible refine Kd.C_alloc ?_ _) | (with_reducible refine Kd.C_drewN ?_ _) | (with_reducible refine Kd.C_drew ?_))); (case side3 => exact (Kd.V_reads' HO_0.out).2.1); rintro e w9 ⟨g286, rfl, hi, hgn, hb, hb2⟩; refine ⟨_, rfl, ?_⟩; have n0_ := Aside0.mk (Kd.V_below (Kd.V_elderB (by (with_reducible repeat (first | apply Kd.V_alloc | apply Kd.V_drewN | apply Kd.V_drew)); exact HO_0.out) g286 hgn) hb2); have n1_ := Aside0.mk (hb); have n2_ := Aside0.mk (hi); clear HO_0; clear HB; have HO_0 := n0_; have HB := n1_; have HI286 := n2_; clear n0_ n1_ n2_; (try clear hb); (try clear hb2); (try clear hk); (try clear hi)) | ((with_reducible refine gate_dst (N := 6) rfl ?_); (try (refine gate_guard (by rfl) ?_; dsimp only)); refine box_event ?hg (N := 6) ?hd (cs := #[.slice none 0 0, .int .i64 0]) (t := 71) ?hr ?_; (case hd => rfl); (case hg => rfl); (case hr => first | (go_simp; done) | (go_simp; rfl)); intro gb287 hg w10 hbox hb; have n0_ := Aside0.mk (Kd.V_below (Kd.V_elderB (by (with_reducible repeat (first | apply Kd.V_alloc | apply Kd.V_drewN | apply Kd.V_drew)); exact HO_0.out) gb287 (Nat.le_of_eq hg.symm)) hb); have n1_ := Aside0.mk (IsS94.below (by repeat (first | (with_reducible first | exact HI286.out | apply IsS94.alloc | apply IsS94.drewN | apply IsS94.drew | apply IsS94.set_0 | apply IsS94.set_1) | exact HI286.out)) hb); have n2_ := Aside0.mk (below_step (by repeat (first | (with_reducible first | exact HB.out | apply below_alloc | apply pw_below_drewN | apply below_drew1 | refine below_set ?_ (IsS94.ge HI286.out)) | exact HB.out)) hb); have n3_ := Aside0.mk (hbox); have n4_ := Aside0.mk ((by rw [hg]; exact (below_size (by repeat (first | (with_reducible first | exact HB.out | apply below_alloc | apply pw_below_drewN | apply below_drew1 | refine below_set ?_ (IsS94.ge HI286.out)) | exact HB.out))) : w.heap.size ≤ gb287)); have n5_ := Aside0.mk ((by rw [hg]; exact (below_size (by repeat (first | (with_reducible first | exact HB.out | apply below_alloc | apply pw_below_drewN | apply below_drew1 | refine below_set ?_ (IsS94.ge HI286.out)) | exact HB.out))) : w.heap.size ≤ gb287)); have n6_ := Aside0.mk ((by rw [hg]; exact Nat.ne_of_lt (IsS94.lt (show IsS94 w _ g286 t284 t285 from by repeat (first | (with_reducible first | exact HI286.out | apply IsS94.alloc | apply IsS94.drewN | apply IsS94.drew | apply IsS94.set_0 | apply IsS94.set_1) | exact HI286.out))) : g286 ≠ gb287)); have n7_ := Aside0.mk ((by rw [hg]; exact Nat.ne_of_gt (IsS94.lt (show IsS94 w _ g286 t284 t285 from by repeat (first | (with_reducible first | exact HI286.out | apply IsS94.alloc | apply IsS94.drewN | apply IsS94.drew | apply IsS94.set_0 | apply IsS94.set_1) | exact HI286.out))) : gb287 ≠ g286)); clear HO_0; clear HI286; clear HB; have HO_0 := n0_; have HI286 := n1_; have HB := n2_; have BK287 := n3_; have GW287 := n4_; have GE287 := n5_; have NB286_287 := n6_; have NB287_286 := n7_; clear n0_ n1_ n2_ n3_ n4_ n5_ n6_ n7_; clear hb hbox hg; have hnb11 := NB287_286.out; have hnc11 := NB286_287.out; have hcz12_0 : w10.cell? ⟨gb287, 0, none⟩ = some (.slice none 0 0) := (blk_cell BK287.out 0).trans rfl; have hcz12_1 : w10.cell? ⟨gb287, 1, none⟩ = some (.int .i64 0) := (blk_cell BK287.out 1).trans rfl; have hfz12_0 := blk_frozen BK287.out 0; have hfz12_1 := blk_frozen BK287.out 1))
        go_loopg [7] kj2 (fun kq v7 w' => ∃ (x7_2 : Int) (x287000_2 : List Int) (x287001_2 : Int) (x288000_2 : List Int) (x288001_2 : Int) (u288000 : Value), v7 = .int .i64 x7_2 ∧ Aside0 (deedboxlaw01_OctetReads.l0 kq l1 x7_2 x287000_2 x287001_2 x288000_2 x288001_2 = some r) ∧ Aside0 (kq ≤ kj2) ∧ Aside0 (Kd.V (Kd.int .u8) 5 w' w.heap.size (fun k_ => (P0_ k_ ∨ w.heap.size ≤ k_) ∧ k_ ≠ gb287 ∧ k_ ≠ g286) u288000 x288000_2) ∧ Aside0 (w'.heap[gb287]? = some (.cells #[u288000, .int .i64 x288001_2] 71 (0, 0))) ∧ Aside0 (IsS94 w w' g286 x287000_2 x287001_2) ∧ Aside0 (Below w.heap.size w w'))
        case atStart => exact ⟨(0), (t284), (t285), (l0), (0), (.slice A0 l0.length c0), (by first | rfl | (simp; done) | (simp [*]; done)), H', ⟨Nat.le_refl _⟩, ⟨by (with_reducible repeat (first | apply Kd.V_alloc | apply Kd.V_drewN | apply Kd.V_drew)); exact Kd.V_mono (Kd.V_far (p := ⟨gb287, 1, none⟩) (Kd.V_far (p := ⟨gb287, 0, none⟩) (Kd.V_mono HO_0.out (fun k_ hk => (⟨hk, hk.2⟩ : _ ∧ k_ ≠ gb287))) (fun _ hk => hk.2) (.slice A0 l0.length c0)) (fun _ hk => hk.2) (.int .i64 0)) (fun _ hk => ⟨hk.1.1.1, ⟨hk.1.2, hk.1.1.2⟩⟩)⟩, ⟨by (with_reducible repeat (first | refine blk_drewN ?_ _ | refine blk_drew ?_ | refine blk_alloc ?_ _)); refine blk_put (cs := #[.slice A0 l0.length c0, .int .i64 0]) ?_ 1 _ rfl; (with_reducible repeat (first | refine blk_drewN ?_ _ | refine blk_drew ?_ | refine blk_alloc ?_ _)); refine blk_put (cs := #[.slice none 0 0, .int .i64 0]) ?_ 0 _ rfl; (with_reducible repeat (first | refine blk_drewN ?_ _ | refine blk_drew ?_ | refine blk_alloc ?_ _)); exact BK287.out⟩, ⟨by repeat (first | (with_reducible first | exact HI286.out | apply IsS94.alloc | apply IsS94.drewN | apply IsS94.drew | apply IsS94.set_0 | apply IsS94.set_1) | refine IsS94.farT ?_ NB286_287.out (by first | ((repeat apply not_rows_set); exact not_rows_of BK287.out (by decide)) | ((repeat apply not_bytes_set); exact not_bytes_of BK287.out (by decide))) _ | exact HI286.out)⟩, ⟨by repeat (first | (with_reducible first | exact HB.out | apply below_alloc | apply pw_below_drewN | apply below_drew1 | refine below_set ?_ (IsS94.ge HI286.out) | refine below_set ?_ GE287.out) | exact HB.out)⟩⟩
        case round =>
          clear H'
          try clear c1
          try clear p2
          try clear c4
          try clear c4b0
          try clear c4b1
          try clear c5
          try clear c6
          try clear c11
          try clear hcz12_0
          try clear hcz12_1
          try clear hfz12_0
          try clear hfz12_1
          try clear p2
          obtain ⟨x7_2, x287000_2, x287001_2, x288000_2, x288001_2, u288000, rfl, HA, HK2, HO_288000, BK287, HI286, HB⟩ := hrel
          cases gk with
          | zero => exact absurd HA.out (by simp [deedboxlaw01_OctetReads.l0])
          | succ k2 =>
            have H := HA.out
            clear HA
            simp only [deedboxlaw01_OctetReads.l0] at H
            by_cases c13 : x7_2 < (l1.length : Int)
            · rw [if_pos c13] at H
              have c13b0 : decide (x7_2 < (l1.length : Int)) = true := decide_eq_true c13
              clear c13
              by_cases c14 : 0 ≤ x7_2
              · rw [if_pos c14] at H
                have c14b0 : decide (0 ≤ x7_2) = true := decide_eq_true c14
                clear c14
                have HC15 := Aside0.mk H
                clear H
                have p293 : 0 ≤ (x7_2 : Int) := of_decide_eq_true (by first | (with_reducible assumption) | assumption)
                have q293 : x7_2 < (l1.length : Int) := of_decide_eq_true (by first | (with_reducible assumption) | assumption)
                obtain ⟨ad293, e293, hx293_0, hx293_1, hx293_2⟩ := at_T73 HR1.out x7_2 p293 q293
                cases e293
                replace hx293_0 := (HB.out.cell (World.block_lt_of_cell? w _ hx293_0)).trans hx293_0
                replace hx293_1 := (HB.out.cell (World.block_lt_of_cell? w _ hx293_1)).trans hx293_1
                replace hx293_2 := (HB.out.cell (World.block_lt_of_cell? w _ hx293_2)).trans hx293_2
                replace p293 := eq_true p293
                replace q293 := eq_true q293
                go_upto_block 2 with (first | ((with_reducible refine gate_dst (N := 8) rfl ?_); (try (refine gate_guard (by rfl) ?_; dsimp only)); refine box_event ?hg (N := 8) ?hd (cs := #[.int .i64 0, .int .i64 0, .int .i64 0]) (t := 73) ?hr ?_; (case hd => rfl); (case hg => rfl); (case hr => first | (go_simp; done) | (go_simp; rfl)); intro gb294 hg w16 hbox hb; have n0_ := Aside0.mk (Kd.V_below (Kd.V_elderB (by (with_reducible repeat (first | apply Kd.V_alloc | apply Kd.V_drewN | apply Kd.V_drew)); exact HO_288000.out) gb294 (Nat.le_of_eq hg.symm)) hb); have n1_ := Aside0.mk (blk_below (g := gb287) (o := .cells #[u288000, .int .i64 x288001_2] 71 (0, 0)) (by (with_reducible repeat (first | refine blk_drewN ?_ _ | refine blk_drew ?_ | refine blk_alloc ?_ _)); exact BK287.out) hb); have n2_ := Aside0.mk (IsS94.below (by repeat (first | (with_reducible first | exact HI286.out | apply IsS94.alloc | apply IsS94.drewN | apply IsS94.drew | apply IsS94.set_0 | apply IsS94.set_1) | refine IsS94.farT ?_ NB286_287.out (by first | ((repeat apply not_rows_set); exact not_rows_of BK287.out (by decide)) | ((repeat apply not_bytes_set); exact not_bytes_of BK287.out (by decide))) _ | exact HI286.out)) hb); have n3_ := Aside0.mk (below_step (by repeat (first | (with_reducible first | exact HB.out | apply below_alloc | apply pw_below_drewN | apply below_drew1 | refine below_set ?_ (IsS94.ge HI286.out) | refine below_set ?_ GE287.out) | exact HB.out)) hb); have n4_ := Aside0.mk (hbox); have n5_ := Aside0.mk ((by rw [hg]; exact (below_size (by repeat (first | (with_reducible first | exact HB.out | apply below_alloc | apply pw_below_drewN | apply below_drew1 | refine below_set ?_ (IsS94.ge HI286.out) | refine below_set ?_ GE287.out) | exact HB.out))) : w.heap.size ≤ gb294)); have n6_ := Aside0.mk ((by rw [hg]; exact (below_size (by repeat (first | (with_reducible first | exact HB.out | apply below_alloc | apply pw_below_drewN | apply below_drew1 | refine below_set ?_ (IsS94.ge HI286.out) | refine below_set ?_ GE287.out) | exact HB.out))) : w.heap.size ≤ gb294)); have n7_ := Aside0.mk ((by rw [hg]; exact Nat.ne_of_lt (blk_lt (g := gb287) (o := .cells #[u288000, .int .i64 x288001_2] 71 (0, 0)) (by (with_reducible repeat (first | refine blk_drewN ?_ _ | refine blk_drew ?_ | refine blk_alloc ?_ _)); exact BK287.out)) : gb287 ≠ gb294)); have n8_ := Aside0.mk ((by rw [hg]; exact Nat.ne_of_gt (blk_lt (g := gb287) (o := .cells #[u288000, .int .i64 x288001_2] 71 (0, 0)) (by (with_reducible repeat (first | refine blk_drewN ?_ _ | refine blk_drew ?_ | refine blk_alloc ?_ _)); exact BK287.out)) : gb294 ≠ gb287)); have n9_ := Aside0.mk ((by rw [hg]; exact Nat.ne_of_lt (IsS94.lt (show IsS94 w _ g286 x287000_2 x287001_2 from by repeat (first | (with_reducible first | exact HI286.out | apply IsS94.alloc | apply IsS94.drewN | apply IsS94.drew | apply IsS94.set_0 | apply IsS94.set_1) | refine IsS94.farT ?_ NB286_287.out (by first | ((repeat apply not_rows_set); exact not_rows_of BK287.out (by decide)) | ((repeat apply not_bytes_set); exact not_bytes_of BK287.out (by decide))) _ | exact HI286.out))) : g286 ≠ gb294)); have n10_ := Aside0.mk ((by rw [hg]; exact Nat.ne_of_gt (IsS94.lt (show IsS94 w _ g286 x287000_2 x287001_2 from by repeat (first | (with_reducible first | exact HI286.out | apply IsS94.alloc | apply IsS94.drewN | apply IsS94.drew | apply IsS94.set_0 | apply IsS94.set_1) | refine IsS94.farT ?_ NB286_287.out (by first | ((repeat apply not_rows_set); exact not_rows_of BK287.out (by decide)) | ((repeat apply not_bytes_set); exact not_bytes_of BK287.out (by decide))) _ | exact HI286.out))) : gb294 ≠ g286)); clear HO_288000; clear BK287; clear HI286; clear HB; have HO_288000 := n0_; have BK287 := n1_; have HI286 := n2_; have HB := n3_; have BK294 := n4_; have GW294 := n5_; have GE294 := n6_; have NB287_294 := n7_; have NB294_287 := n8_; have NB286_294 := n9_; have NB294_286 := n10_; clear n0_ n1_ n2_ n3_ n4_ n5_ n6_ n7_ n8_ n9_ n10_; clear hb hbox hg; have hnb17 := NB294_287.out; have hnc17 := NB287_294.out; have hnb18 := NB294_286.out; have hnc18 := NB286_294.out; have hcz19_0 : w16.cell? ⟨gb294, 0, none⟩ = some (.int .i64 0) := (blk_cell BK294.out 0).trans rfl; have hcz19_1 : w16.cell? ⟨gb294, 1, none⟩ = some (.int .i64 0) := (blk_cell BK294.out 1).trans rfl; have hcz19_2 : w16.cell? ⟨gb294, 2, none⟩ = some (.int .i64 0) := (blk_cell BK294.out 2).trans rfl; have hfz19_0 := blk_frozen BK294.out 0; have hfz19_1 := blk_frozen BK294.out 1; have hfz19_2 := blk_frozen BK294.out 2))
                (try simp only [Act.put, List.setIfInBounds_toArray, List.set_cons_zero, List.set_cons_succ])
                go_cut [] (fun wc => ∃ (kq : Nat) (x287000_14 : List Int) (x287001_14 : Int) (x288000_14 : List Int) (x288001_14 : Int) (u288000 : Value), Aside0 (deedboxlaw01_OctetReads.j2 kq l1 x7_2 x287000_14 x287001_14 x288000_14 x288001_14 = some r) ∧ Aside0 (kq ≤ k2) ∧ Aside0 (Kd.V (Kd.int .u8) 5 wc w.heap.size (fun k_ => (P0_ k_ ∨ w.heap.size ≤ k_) ∧ k_ ≠ gb287 ∧ k_ ≠ gb294 ∧ k_ ≠ g286) u288000 x288000_14) ∧ Aside0 (wc.heap[gb287]? = some (.cells #[u288000, .int .i64 x288001_14] 71 (0, 0))) ∧ Aside0 (wc.heap[gb294]? = some (.cells #[.int .i64 ((rd_T73 l1 x7_2).f0), .int .i64 ((rd_T73 l1 x7_2).f1), .int .i64 ((rd_T73 l1 x7_2).f2)] 73 (0, 0))) ∧ Aside0 (IsS94 w wc g286 x287000_14 x287001_14) ∧ Aside0 (Below w.heap.size w wc))
                case first =>
                  have H := HC15.out
                  clear HC15
                  by_cases c20 : ((rd_T73 l1 x7_2).f0) = 0
                  · rw [if_pos c20] at H
                    have c20b0 : (((rd_T73 l1 x7_2).f0) == 0) = true := beq_iff_eq.mpr c20
                    have c20b1 : (((rd_T73 l1 x7_2).f0) != 0) = false := bne_eq_false_iff_eq.mpr c20
                    clear c20
                    (first | rw [c20b0] | (simp only [i64_w, i32_w]; rw [c20b0]) | skip)
                    replace H := Option.bind_eq_some_iff.mp H
                    obtain ⟨⟨t295, t298, t299⟩, A210, H⟩ := H
                    replace H : ((octet_Reader_Number.f k2 x287000_2 x287001_2 ((rd_T73 l1 x7_2).f1)).bind fun bt301 => (if bt301.1 = t299 then (deedboxlaw01_OctetReads.j2 k2 l1 x7_2 bt301.2.1 bt301.2.2 t295 t298) else (some false))) = some r := H
                    have A21 := Aside0.mk A210
                    clear A210
                    replace H := Option.bind_eq_some_iff.mp H
                    obtain ⟨⟨t301, t302, t303⟩, A220, H⟩ := H
                    replace H : (if t301 = t299 then (deedboxlaw01_OctetReads.j2 k2 l1 x7_2 t302 t303 t295 t298) else (some false)) = some r := H
                    have A22 := Aside0.mk A220
                    clear A220
                    by_cases c23 : t301 = t299
                    · rw [if_pos c23] at H
                      have c23b0 : (t301 == t299) = true := beq_iff_eq.mpr c23
                      have c23b1 : (t301 != t299) = false := bne_eq_false_iff_eq.mpr c23
                      clear c23
                      have H' := Aside0.mk H
                      clear H
                      have hnb24 := NB287_294.out
                      have hnc24 := NB294_287.out
                      have hnb25 := NB287_286.out
                      have hnc25 := NB286_287.out
                      have hcz26_0 : w16.cell? ⟨gb287, 0, none⟩ = some (u288000) := (blk_cell BK287.out 0).trans rfl
                      have hcz26_1 : w16.cell? ⟨gb287, 1, none⟩ = some (.int .i64 x288001_2) := (blk_cell BK287.out 1).trans rfl
                      have hfz26_0 := blk_frozen BK287.out 0
                      have hfz26_1 := blk_frozen BK287.out 1
                      have hnb27 := NB294_286.out
                      have hnc27 := NB286_294.out
                      have hcz28_0 : w16.cell? ⟨gb294, 0, none⟩ = some (.int .i64 0) := (blk_cell BK294.out 0).trans rfl
                      have hcz28_1 : w16.cell? ⟨gb294, 1, none⟩ = some (.int .i64 0) := (blk_cell BK294.out 1).trans rfl
                      have hcz28_2 : w16.cell? ⟨gb294, 2, none⟩ = some (.int .i64 0) := (blk_cell BK294.out 2).trans rfl
                      have hfz28_0 := blk_frozen BK294.out 0
                      have hfz28_1 := blk_frozen BK294.out 1
                      have hfz28_2 := blk_frozen BK294.out 2
                      obtain ⟨Ao29, co29, eo29⟩ := Kd.V_slice HO_288000.out
                      subst eo29
                      go_wp2_with (first | ((with_reducible refine gate_callee (f := 65) rfl ?_); have n0_ : Aside0 (Kd.V (Kd.int .u8) 5 (((w16.setCell ⟨gb294, 0, none⟩ (.int .i64 ((rd_T73 l1 x7_2).f0))).setCell ⟨gb294, 1, none⟩ (.int .i64 ((rd_T73 l1 x7_2).f1))).setCell ⟨gb294, 2, none⟩ (.int .i64 ((rd_T73 l1 x7_2).f2))) w.heap.size (fun k_ => (P0_ k_ ∨ w.heap.size ≤ k_) ∧ k_ ≠ gb287 ∧ k_ ≠ g286 ∧ k_ ≠ gb294) (.slice Ao29 x288000_2.length co29) x288000_2) := ⟨by (with_reducible repeat (first | apply Kd.V_alloc | apply Kd.V_drewN | apply Kd.V_drew)); exact Kd.V_mono (Kd.V_far (p := ⟨gb294, 2, none⟩) (Kd.V_far (p := ⟨gb294, 1, none⟩) (Kd.V_far (p := ⟨gb294, 0, none⟩) (Kd.V_mono HO_288000.out (fun k_ hk => (⟨hk, hk.2⟩ : _ ∧ k_ ≠ gb294))) (fun _ hk => hk.2) (.int .i64 ((rd_T73 l1 x7_2).f0))) (fun _ hk => hk.2) (.int .i64 ((rd_T73 l1 x7_2).f1))) (fun _ hk => hk.2) (.int .i64 ((rd_T73 l1 x7_2).f2))) (fun _ hk => ⟨hk.1.1.1, ⟨hk.1.1.2.1, ⟨hk.1.1.2.2, hk.1.2⟩⟩⟩)⟩; have n1_ : Aside0 ((((w16.setCell ⟨gb294, 0, none⟩ (.int .i64 ((rd_T73 l1 x7_2).f0))).setCell ⟨gb294, 1, none⟩ (.int .i64 ((rd_T73 l1 x7_2).f1))).setCell ⟨gb294, 2, none⟩ (.int .i64 ((rd_T73 l1 x7_2).f2))).heap[gb287]? = some (.cells #[.slice Ao29 x288000_2.length co29, .int .i64 x288001_2] 71 (0, 0))) := ⟨by (with_reducible repeat (first | refine blk_drewN ?_ _ | refine blk_drew ?_ | refine blk_alloc ?_ _)); refine blk_far ?_ NB287_294.out _; (with_reducible repeat (first | refine blk_drewN ?_ _ | refine blk_drew ?_ | refine blk_alloc ?_ _)); refine blk_far ?_ NB287_294.out _; (with_reducible repeat (first | refine blk_drewN ?_ _ | refine blk_drew ?_ | refine blk_alloc ?_ _)); refine blk_far ?_ NB287_294.out _; (with_reducible repeat (first | refine blk_drewN ?_ _ | refine blk_drew ?_ | refine blk_alloc ?_ _)); exact BK287.out⟩; have n2_ : Aside0 ((((w16.setCell ⟨gb294, 0, none⟩ (.int .i64 ((rd_T73 l1 x7_2).f0))).setCell ⟨gb294, 1, none⟩ (.int .i64 ((rd_T73 l1 x7_2).f1))).setCell ⟨gb294, 2, none⟩ (.int .i64 ((rd_T73 l1 x7_2).f2))).heap[gb294]? = some (.cells #[.int .i64 ((rd_T73 l1 x7_2).f0), .int .i64 ((rd_T73 l1 x7_2).f1), .int .i64 ((rd_T73 l1 x7_2).f2)] 73 (0, 0))) := ⟨by (with_reducible repeat (first | refine blk_drewN ?_ _ | refine blk_drew ?_ | refine blk_alloc ?_ _)); refine blk_put (cs := #[.int .i64 ((rd_T73 l1 x7_2).f0), .int .i64 ((rd_T73 l1 x7_2).f1), .int .i64 0]) ?_ 2 _ rfl; (with_reducible repeat (first | refine blk_drewN ?_ _ | refine blk_drew ?_ | refine blk_alloc ?_ _)); refine blk_put (cs := #[.int .i64 ((rd_T73 l1 x7_2).f0), .int .i64 0, .int .i64 0]) ?_ 1 _ rfl; (with_reducible repeat (first | refine blk_drewN ?_ _ | refine blk_drew ?_ | refine blk_alloc ?_ _)); refine blk_put (cs := #[.int .i64 0, .int .i64 0, .int .i64 0]) ?_ 0 _ rfl; (with_reducible repeat (first | refine blk_drewN ?_ _ | refine blk_drew ?_ | refine blk_alloc ?_ _)); exact BK294.out⟩; have n3_ : Aside0 (IsS94 w (((w16.setCell ⟨gb294, 0, none⟩ (.int .i64 ((rd_T73 l1 x7_2).f0))).setCell ⟨gb294, 1, none⟩ (.int .i64 ((rd_T73 l1 x7_2).f1))).setCell ⟨gb294, 2, none⟩ (.int .i64 ((rd_T73 l1 x7_2).f2))) g286 x287000_2 x287001_2) := ⟨by repeat (first | (with_reducible first | exact HI286.out | apply IsS94.alloc | apply IsS94.drewN | apply IsS94.drew | apply IsS94.set_0 | apply IsS94.set_1) | refine IsS94.farT ?_ NB286_287.out (by first | ((repeat apply not_rows_set); exact not_rows_of BK287.out (by decide)) | ((repeat apply not_bytes_set); exact not_bytes_of BK287.out (by decide))) _ | refine IsS94.farT ?_ NB286_294.out (by first | ((repeat apply not_rows_set); exact not_rows_of BK294.out (by decide)) | ((repeat apply not_bytes_set); exact not_bytes_of BK294.out (by decide))) _ | exact HI286.out)⟩; have n4_ : Aside0 (Below w.heap.size w (((w16.setCell ⟨gb294, 0, none⟩ (.int .i64 ((rd_T73 l1 x7_2).f0))).setCell ⟨gb294, 1, none⟩ (.int .i64 ((rd_T73 l1 x7_2).f1))).setCell ⟨gb294, 2, none⟩ (.int .i64 ((rd_T73 l1 x7_2).f2)))) := ⟨by repeat (first | (with_reducible first | exact HB.out | apply below_alloc | apply pw_below_drewN | apply below_drew1 | refine below_set ?_ (IsS94.ge HI286.out) | refine below_set ?_ GE287.out | refine below_set ?_ GE294.out) | exact HB.out)⟩; (try clear HO_288000); (try clear BK287); (try clear BK294); (try clear HI286); (try clear HB); generalize (((w16.setCell ⟨gb294, 0, none⟩ (.int .i64 ((rd_T73 l1 x7_2).f0))).setCell ⟨gb294, 1, none⟩ (.int .i64 ((rd_T73 l1 x7_2).f1))).setCell ⟨gb294, 2, none⟩ (.int .i64 ((rd_T73 l1 x7_2).f2))) = w30 at n0_ n1_ n2_ n3_ n4_ ⊢; have HO_288000 := n0_; have BK287 := n1_; have BK294 := n2_; have HI286 := n3_; have HB := n4_; clear n0_ n1_ n2_ n3_ n4_; refine goesL_ (some 48) rfl rfl Try.func65 (by kernel_rfl) rfl #[.agg #[.slice Ao29 x288000_2.length co29, .int .i64 x288001_2], .int .i64 ((rd_T73 l1 x7_2).f1)] rfl (by (try simp only [List.map_toArray, List.map_cons, List.map_nil]); first | done | rfl | (simp only [List.length_drop, List.length_take]; rfl)) ?_; (with_reducible refine (deedboxref01_Number.calls k2 (fun k_ => ((P0_ k_ ∨ w.heap.size ≤ k_) ∧ (k_ ≠ gb287 ∧ (k_ ≠ g286 ∧ k_ ≠ gb294)))) _ _ x288000_2 x288001_2 ((rd_T73 l1 x7_2).f1) t295 t298 t299 _ ?side1 A21.out).mono ?_); (case side1 => exact HO_288000.out); rintro e w31 ⟨v296, rfl, ho0, hb⟩; refine ⟨_, rfl, ?_⟩; have n0_ := Aside0.mk (Kd.V_below (by (with_reducible repeat (first | apply Kd.V_alloc | apply Kd.V_drewN | apply Kd.V_drew)); exact HO_288000.out) hb); have n1_ := Aside0.mk (Kd.V_lower (Kd.V_mono (ok' := fun k_ => (P0_ k_ ∨ w.heap.size ≤ k_) ∧ k_ ≠ gb287 ∧ k_ ≠ gb294 ∧ k_ ≠ g286) ho0 (fun k_ hk_ => ⟨Or.elim hk_ (fun hs_ => hs_.1) (fun hn_ => (.inr (Nat.le_trans (below_size (by repeat (first | (with_reducible first | exact HB.out | apply below_alloc | apply pw_below_drewN | apply below_drew1 | refine below_set ?_ (IsS94.ge HI286.out) | refine below_set ?_ GE287.out | refine below_set ?_ GE294.out) | exact HB.out))) hn_))), Or.elim hk_ (fun hs_ => hs_.2.1) (fun hn_ => (Kd.freshB (g := gb287) (o := .cells #[.slice Ao29 x288000_2.length co29, .int .i64 x288001_2] 71 (0, 0)) (by (with_reducible repeat (first | refine blk_drewN ?_ _ | refine blk_drew ?_ | refine blk_alloc ?_ _)); exact BK287.out) k_ hn_)), Or.elim hk_ (fun hs_ => hs_.2.2.2) (fun hn_ => (Kd.freshB (g := gb294) (o := .cells #[.int .i64 ((rd_T73 l1 x7_2).f0), .int .i64 ((rd_T73 l1 x7_2).f1), .int .i64 ((rd_T73 l1 x7_2).f2)] 73 (0, 0)) (by (with_reducible repeat (first | refine blk_drewN ?_ _ | refine blk_drew ?_ | refine blk_alloc ?_ _)); exact BK294.out) k_ hn_)), Or.elim hk_ (fun hs_ => hs_.2.2.1) (fun hn_ => (IsS94.fresh (by repeat (first | (with_reducible first | exact HI286.out | apply IsS94.alloc | apply IsS94.drewN | apply IsS94.drew | apply IsS94.set_0 | apply IsS94.set_1) | refine IsS94.farT ?_ NB286_287.out (by first | ((repeat apply not_rows_set); exact not_rows_of BK287.out (by decide)) | ((repeat apply not_bytes_set); exact not_bytes_of BK287.out (by decide))) _ | refine IsS94.farT ?_ NB286_294.out (by first | ((repeat apply not_rows_set); exact not_rows_of BK294.out (by decide)) | ((repeat apply not_bytes_set); exact not_bytes_of BK294.out (by decide))) _ | exact HI286.out)) k_ hn_))⟩)) (below_size (by repeat (first | (with_reducible first | exact HB.out | apply below_alloc | apply pw_below_drewN | apply below_drew1 | refine below_set ?_ (IsS94.ge HI286.out) | refine below_set ?_ GE287.out | refine below_set ?_ GE294.out) | exact HB.out)))); have n2_ := Aside0.mk (blk_below (g := gb287) (o := .cells #[.slice Ao29 x288000_2.length co29, .int .i64 x288001_2] 71 (0, 0)) (by (with_reducible repeat (first | refine blk_drewN ?_ _ | refine blk_drew ?_ | refine blk_alloc ?_ _)); exact BK287.out) hb); have n3_ := Aside0.mk (IsS94.below (by repeat (first | (with_reducible first | exact HI286.out | apply IsS94.alloc | apply IsS94.drewN | apply IsS94.drew | apply IsS94.set_0 | apply IsS94.set_1) | refine IsS94.farT ?_ NB286_287.out (by first | ((repeat apply not_rows_set); exact not_rows_of BK287.out (by decide)) | ((repeat apply not_bytes_set); exact not_bytes_of BK287.out (by decide))) _ | refine IsS94.farT ?_ NB286_294.out (by first | ((repeat apply not_rows_set); exact not_rows_of BK294.out (by decide)) | ((repeat apply not_bytes_set); exact not_bytes_of BK294.out (by decide))) _ | exact HI286.out)) hb); have n4_ := Aside0.mk (blk_below (g := gb294) (o := .cells #[.int .i64 ((rd_T73 l1 x7_2).f0), .int .i64 ((rd_T73 l1 x7_2).f1), .int .i64 ((rd_T73 l1 x7_2).f2)] 73 (0, 0)) (by (with_reducible repeat (first | refine blk_drewN ?_ _ | refine blk_drew ?_ | refine blk_alloc ?_ _)); exact BK294.out) hb); have n5_ := Aside0.mk (below_step (by repeat (first | (with_reducible first | exact HB.out | apply below_alloc | apply pw_below_drewN | apply below_drew1 | refine below_set ?_ (IsS94.ge HI286.out) | refine below_set ?_ GE287.out | refine below_set ?_ GE294.out) | exact HB.out)) hb); clear HO_288000; clear BK287; clear HI286; clear BK294; clear HB; have HO_288000 := n0_; have HO297 := n1_; have BK287 := n2_; have HI286 := n3_; have BK294 := n4_; have HB := n5_; clear n0_ n1_ n2_ n3_ n4_ n5_; (try clear hb); (try clear hb2); (try clear hk); (try clear hi); (try clear ho0)) | ((with_reducible refine gate_dst (N := 9) rfl ?_); (try (refine gate_guard (by rfl) ?_; dsimp only)); refine box_event ?hg (N := 9) ?hd (cs := #[.slice none 0 0, .int .i64 0]) (t := 71) ?hr ?_; (case hd => rfl); (case hg => rfl); (case hr => first | (go_simp; done) | (go_simp; rfl)); intro gb300 hg w32 hbox hb; have n0_ := Aside0.mk (Kd.V_below (Kd.V_elderB (by (with_reducible repeat (first | apply Kd.V_alloc | apply Kd.V_drewN | apply Kd.V_drew)); exact HO_288000.out) gb300 (Nat.le_of_eq hg.symm)) hb); have n1_ := Aside0.mk (Kd.V_below (Kd.V_elderB (by (with_reducible repeat (first | apply Kd.V_alloc | apply Kd.V_drewN | apply Kd.V_drew)); exact HO297.out) gb300 (Nat.le_of_eq hg.symm)) hb); have n2_ := Aside0.mk (blk_below (g := gb287) (o := .cells #[.slice Ao29 x288000_2.length co29, .int .i64 x288001_2] 71 (0, 0)) (by (with_reducible repeat (first | refine blk_drewN ?_ _ | refine blk_drew ?_ | refine blk_alloc ?_ _)); exact BK287.out) hb); have n3_ := Aside0.mk (IsS94.below (by repeat (first | (with_reducible first | exact HI286.out | apply IsS94.alloc | apply IsS94.drewN | apply IsS94.drew | apply IsS94.set_0 | apply IsS94.set_1) | refine IsS94.farT ?_ NB286_287.out (by first | ((repeat apply not_rows_set); exact not_rows_of BK287.out (by decide)) | ((repeat apply not_bytes_set); exact not_bytes_of BK287.out (by decide))) _ | refine IsS94.farT ?_ NB286_294.out (by first | ((repeat apply not_rows_set); exact not_rows_of BK294.out (by decide)) | ((repeat apply not_bytes_set); exact not_bytes_of BK294.out (by decide))) _ | exact HI286.out)) hb); have n4_ := Aside0.mk (blk_below (g := gb294) (o := .cells #[.int .i64 ((rd_T73 l1 x7_2).f0), .int .i64 ((rd_T73 l1 x7_2).f1), .int .i64 ((rd_T73 l1 x7_2).f2)] 73 (0, 0)) (by (with_reducible repeat (first | refine blk_drewN ?_ _ | refine blk_drew ?_ | refine blk_alloc ?_ _)); exact BK294.out) hb); have n5_ := Aside0.mk (below_step (by repeat (first | (with_reducible first | exact HB.out | apply below_alloc | apply pw_below_drewN | apply below_drew1 | refine below_set ?_ (IsS94.ge HI286.out) | refine below_set ?_ GE287.out | refine below_set ?_ GE294.out) | exact HB.out)) hb); have n6_ := Aside0.mk (hbox); have n7_ := Aside0.mk ((by rw [hg]; exact (below_size (by repeat (first | (with_reducible first | exact HB.out | apply below_alloc | apply pw_below_drewN | apply below_drew1 | refine below_set ?_ (IsS94.ge HI286.out) | refine below_set ?_ GE287.out | refine below_set ?_ GE294.out) | exact HB.out))) : w.heap.size ≤ gb300)); have n8_ := Aside0.mk ((by rw [hg]; exact (below_size (by repeat (first | (with_reducible first | exact HB.out | apply below_alloc | apply pw_below_drewN | apply below_drew1 | refine below_set ?_ (IsS94.ge HI286.out) | refine below_set ?_ GE287.out | refine below_set ?_ GE294.out) | exact HB.out))) : w.heap.size ≤ gb300)); have n9_ := Aside0.mk ((by rw [hg]; exact Nat.ne_of_lt (blk_lt (g := gb287) (o := .cells #[.slice Ao29 x288000_2.length co29, .int .i64 x288001_2] 71 (0, 0)) (by (with_reducible repeat (first | refine blk_drewN ?_ _ | refine blk_drew ?_ | refine blk_alloc ?_ _)); exact BK287.out)) : gb287 ≠ gb300)); have n10_ := Aside0.mk ((by rw [hg]; exact Nat.ne_of_gt (blk_lt (g := gb287) (o := .cells #[.slice Ao29 x288000_2.length co29, .int .i64 x288001_2] 71 (0, 0)) (by (with_reducible repeat (first | refine blk_drewN ?_ _ | refine blk_drew ?_ | refine blk_alloc ?_ _)); exact BK287.out)) : gb300 ≠ gb287)); have n11_ := Aside0.mk ((by rw [hg]; exact Nat.ne_of_lt (blk_lt (g := gb294) (o := .cells #[.int .i64 ((rd_T73 l1 x7_2).f0), .int .i64 ((rd_T73 l1 x7_2).f1), .int .i64 ((rd_T73 l1 x7_2).f2)] 73 (0, 0)) (by (with_reducible repeat (first | refine blk_drewN ?_ _ | refine blk_drew ?_ | refine blk_alloc ?_ _)); exact BK294.out)) : gb294 ≠ gb300)); have n12_ := Aside0.mk ((by rw [hg]; exact Nat.ne_of_gt (blk_lt (g := gb294) (o := .cells #[.int .i64 ((rd_T73 l1 x7_2).f0), .int .i64 ((rd_T73 l1 x7_2).f1), .int .i64 ((rd_T73 l1 x7_2).f2)] 73 (0, 0)) (by (with_reducible repeat (first | refine blk_drewN ?_ _ | refine blk_drew ?_ | refine blk_alloc ?_ _)); exact BK294.out)) : gb300 ≠ gb294)); have n13_ := Aside0.mk ((by rw [hg]; exact Nat.ne_of_lt (IsS94.lt (show IsS94 w _ g286 x287000_2 x287001_2 from by repeat (first | (with_reducible first | exact HI286.out | apply IsS94.alloc | apply IsS94.drewN | apply IsS94.drew | apply IsS94.set_0 | apply IsS94.set_1) | refine IsS94.farT ?_ NB286_287.out (by first | ((repeat apply not_rows_set); exact not_rows_of BK287.out (by decide)) | ((repeat apply not_bytes_set); exact not_bytes_of BK287.out (by decide))) _ | refine IsS94.farT ?_ NB286_294.out (by first | ((repeat apply not_rows_set); exact not_rows_of BK294.out (by decide)) | ((repeat apply not_bytes_set); exact not_bytes_of BK294.out (by decide))) _ | exact HI286.out))) : g286 ≠ gb300)); have n14_ := Aside0.mk ((by rw [hg]; exact Nat.ne_of_gt (IsS94.lt (show IsS94 w _ g286 x287000_2 x287001_2 from by repeat (first | (with_reducible first | exact HI286.out | apply IsS94.alloc | apply IsS94.drewN | apply IsS94.drew | apply IsS94.set_0 | apply IsS94.set_1) | refine IsS94.farT ?_ NB286_287.out (by first | ((repeat apply not_rows_set); exact not_rows_of BK287.out (by decide)) | ((repeat apply not_bytes_set); exact not_bytes_of BK287.out (by decide))) _ | refine IsS94.farT ?_ NB286_294.out (by first | ((repeat apply not_rows_set); exact not_rows_of BK294.out (by decide)) | ((repeat apply not_bytes_set); exact not_bytes_of BK294.out (by decide))) _ | exact HI286.out))) : gb300 ≠ g286)); clear HO_288000; clear HO297; clear BK287; clear HI286; clear BK294; clear HB; have HO_288000 := n0_; have HO297 := n1_; have BK287 := n2_; have HI286 := n3_; have BK294 := n4_; have HB := n5_; have BK300 := n6_; have GW300 := n7_; have GE300 := n8_; have NB287_300 := n9_; have NB300_287 := n10_; have NB294_300 := n11_; have NB300_294 := n12_; have NB286_300 := n13_; have NB300_286 := n14_; clear n0_ n1_ n2_ n3_ n4_ n5_ n6_ n7_ n8_ n9_ n10_ n11_ n12_ n13_ n14_; clear hb hbox hg; obtain ⟨Ao33, co33, eo33⟩ := Kd.V_slice HO297.out; subst eo33; have hnb34 := NB300_287.out; have hnc34 := NB287_300.out; have hnb35 := NB300_294.out; have hnc35 := NB294_300.out; have hnb36 := NB300_286.out; have hnc36 := NB286_300.out; have hcz37_0 : w32.cell? ⟨gb300, 0, none⟩ = some (.slice none 0 0) := (blk_cell BK300.out 0).trans rfl; have hcz37_1 : w32.cell? ⟨gb300, 1, none⟩ = some (.int .i64 0) := (blk_cell BK300.out 1).trans rfl; have hfz37_0 := blk_frozen BK300.out 0; have hfz37_1 := blk_frozen BK300.out 1; have hcz38_0 : w32.cell? ⟨gb287, 0, none⟩ = some (.slice Ao29 x288000_2.length co29) := (blk_cell BK287.out 0).trans rfl; have hcz38_1 : w32.cell? ⟨gb287, 1, none⟩ = some (.int .i64 x288001_2) := (blk_cell BK287.out 1).trans rfl; have hfz38_0 := blk_frozen BK287.out 0; have hfz38_1 := blk_frozen BK287.out 1; have hcz39_0 : w32.cell? ⟨gb294, 0, none⟩ = some (.int .i64 ((rd_T73 l1 x7_2).f0)) := (blk_cell BK294.out 0).trans rfl; have hcz39_1 : w32.cell? ⟨gb294, 1, none⟩ = some (.int .i64 ((rd_T73 l1 x7_2).f1)) := (blk_cell BK294.out 1).trans rfl; have hcz39_2 : w32.cell? ⟨gb294, 2, none⟩ = some (.int .i64 ((rd_T73 l1 x7_2).f2)) := (blk_cell BK294.out 2).trans rfl; have hfz39_0 := blk_frozen BK294.out 0; have hfz39_1 := blk_frozen BK294.out 1; have hfz39_2 := blk_frozen BK294.out 2) | ((with_reducible refine gate_callee (f := 66) rfl ?_); refine goesL_ (some 55) rfl rfl Try.func66 (by kernel_rfl) rfl #[.pointer (some ⟨g286, 0, none⟩), .int .i64 ((rd_T73 l1 x7_2).f1)] rfl (by (try simp only [List.map_toArray, List.map_cons, List.map_nil]); first | done | rfl | (simp only [List.length_drop, List.length_take]; rfl)) ?_; (with_reducible refine (octet_Reader_Number.calls k2 g286 x287000_2 x287001_2 ((rd_T73 l1 x7_2).f1) t301 t302 t303 w _ ?side1 ?side2 A22.out).mono ?_); (case side1 => repeat (first | (with_reducible first | exact HI286.out | apply IsS94.alloc | apply IsS94.drewN | apply IsS94.drew | apply IsS94.set_0 | apply IsS94.set_1) | refine IsS94.farT ?_ NB286_287.out (by first | ((repeat apply not_rows_set); exact not_rows_of BK287.out (by decide)) | ((repeat apply not_bytes_set); exact not_bytes_of BK287.out (by decide))) _ | refine IsS94.farT ?_ NB286_294.out (by first | ((repeat apply not_rows_set); exact not_rows_of BK294.out (by decide)) | ((repeat apply not_bytes_set); exact not_bytes_of BK294.out (by decide))) _ | refine IsS94.farT ?_ NB286_300.out (by first | ((repeat apply not_rows_set); exact not_rows_of BK300.out (by decide)) | ((repeat apply not_bytes_set); exact not_bytes_of BK300.out (by decide))) _ | exact HI286.out)); (case side2 => repeat (first | (with_reducible first | exact HB.out | apply below_alloc | apply pw_below_drewN | apply below_drew1 | refine below_set ?_ (IsS94.ge HI286.out) | refine below_set ?_ GE287.out | refine below_set ?_ GE294.out | refine below_set ?_ GE300.out) | exact HB.out)); rintro e w40 ⟨rfl, hi, hb, hk⟩; refine ⟨_, rfl, ?_⟩; have n0_ := Aside0.mk (Kd.V_mono (Kd.V_keep (Kd.V_mono (ok := fun k_ => ((((P0_ k_ ∨ w.heap.size ≤ k_)) ∧ (k_ ≠ gb287 ∧ (k_ ≠ g286 ∧ k_ ≠ gb294))) ∧ k_ ≠ gb300)) (by (with_reducible repeat (first | apply Kd.V_alloc | apply Kd.V_drewN | apply Kd.V_drew)); exact (Kd.V_mono (Kd.V_mono (Kd.V_far (p := ⟨gb287, 1, none⟩) (Kd.V_far (p := ⟨gb287, 0, none⟩) (Kd.V_far (p := ⟨gb300, 1, none⟩) (Kd.V_far (p := ⟨gb300, 0, none⟩) (Kd.V_mono (Kd.V_mono HO_288000.out (fun k_ hk => (⟨hk, hk.2⟩ : _ ∧ k_ ≠ gb300))) (fun k_ hk => (⟨hk, hk.1.1.2.1⟩ : _ ∧ k_ ≠ gb287))) (fun _ hk => hk.1.2) (.slice Ao33 t295.length co33)) (fun _ hk => hk.1.2) (.int .i64 t298)) (fun _ hk => hk.2) (.slice Ao33 t295.length co33)) (fun _ hk => hk.2) (.int .i64 t298)) (fun _ h_ => h_.1)) (fun _ h_ => h_.1))) (fun k_ hk_ => (⟨hk_, hk_.1.2.2.1⟩ : _ ∧ k_ ≠ g286))) hk (fun _ h => h.2)) (fun _ h => h.1)); have n1_ := Aside0.mk (KeepBut.blk hk (g' := gb287) (o := .cells #[.slice Ao33 t295.length co33, .int .i64 t298] 71 (0, 0)) (by (with_reducible repeat (first | refine blk_drewN ?_ _ | refine blk_drew ?_ | refine blk_alloc ?_ _)); refine blk_put (cs := #[.slice Ao33 t295.length co33, .int .i64 x288001_2]) ?_ 1 _ rfl; (with_reducible repeat (first | refine blk_drewN ?_ _ | refine blk_drew ?_ | refine blk_alloc ?_ _)); refine blk_put (cs := #[.slice Ao29 x288000_2.length co29, .int .i64 x288001_2]) ?_ 0 _ rfl; (with_reducible repeat (first | refine blk_drewN ?_ _ | refine blk_drew ?_ | refine blk_alloc ?_ _)); refine blk_far ?_ NB287_300.out _; (with_reducible repeat (first | refine blk_drewN ?_ _ | refine blk_drew ?_ | refine blk_alloc ?_ _)); refine blk_far ?_ NB287_300.out _; (with_reducible repeat (first | refine blk_drewN ?_ _ | refine blk_drew ?_ | refine blk_alloc ?_ _)); exact BK287.out) NB287_286.out (by simp)); have n2_ := Aside0.mk (KeepBut.blk hk (g' := gb294) (o := .cells #[.int .i64 ((rd_T73 l1 x7_2).f0), .int .i64 ((rd_T73 l1 x7_2).f1), .int .i64 ((rd_T73 l1 x7_2).f2)] 73 (0, 0)) (by (with_reducible repeat (first | refine blk_drewN ?_ _ | refine blk_drew ?_ | refine blk_alloc ?_ _)); refine blk_far ?_ NB294_287.out _; (with_reducible repeat (first | refine blk_drewN ?_ _ | refine blk_drew ?_ | refine blk_alloc ?_ _)); refine blk_far ?_ NB294_287.out _; (with_reducible repeat (first | refine blk_drewN ?_ _ | refine blk_drew ?_ | refine blk_alloc ?_ _)); refine blk_far ?_ NB294_300.out _; (with_reducible repeat (first | refine blk_drewN ?_ _ | refine blk_drew ?_ | refine blk_alloc ?_ _)); refine blk_far ?_ NB294_300.out _; (with_reducible repeat (first | refine blk_drewN ?_ _ | refine blk_drew ?_ | refine blk_alloc ?_ _)); exact BK294.out) NB294_286.out (by simp)); have n3_ := Aside0.mk (Kd.V_mono (Kd.V_keep (Kd.V_mono (ok := fun k_ => ((((P0_ k_ ∨ w.heap.size ≤ k_)) ∧ (k_ ≠ gb287 ∧ (k_ ≠ gb294 ∧ k_ ≠ g286))) ∧ k_ ≠ gb300)) (by (with_reducible repeat (first | apply Kd.V_alloc | apply Kd.V_drewN | apply Kd.V_drew)); exact (Kd.V_mono (Kd.V_mono (Kd.V_far (p := ⟨gb287, 1, none⟩) (Kd.V_far (p := ⟨gb287, 0, none⟩) (Kd.V_far (p := ⟨gb300, 1, none⟩) (Kd.V_far (p := ⟨gb300, 0, none⟩) (Kd.V_mono (Kd.V_mono HO297.out (fun k_ hk => (⟨hk, hk.2⟩ : _ ∧ k_ ≠ gb300))) (fun k_ hk => (⟨hk, hk.1.1.2.1⟩ : _ ∧ k_ ≠ gb287))) (fun _ hk => hk.1.2) (.slice Ao33 t295.length co33)) (fun _ hk => hk.1.2) (.int .i64 t298)) (fun _ hk => hk.2) (.slice Ao33 t295.length co33)) (fun _ hk => hk.2) (.int .i64 t298)) (fun _ h_ => h_.1)) (fun _ h_ => h_.1))) (fun k_ hk_ => (⟨hk_, hk_.1.2.2.2⟩ : _ ∧ k_ ≠ g286))) hk (fun _ h => h.2)) (fun _ h => h.1)); have n4_ := Aside0.mk (KeepBut.blk hk (g' := gb300) (o := .cells #[.slice Ao33 t295.length co33, .int .i64 t298] 71 (0, 0)) (by (with_reducible repeat (first | refine blk_drewN ?_ _ | refine blk_drew ?_ | refine blk_alloc ?_ _)); refine blk_far ?_ NB300_287.out _; (with_reducible repeat (first | refine blk_drewN ?_ _ | refine blk_drew ?_ | refine blk_alloc ?_ _)); refine blk_far ?_ NB300_287.out _; (with_reducible repeat (first | refine blk_drewN ?_ _ | refine blk_drew ?_ | refine blk_alloc ?_ _)); refine blk_put (cs := #[.slice Ao33 t295.length co33, .int .i64 0]) ?_ 1 _ rfl; (with_reducible repeat (first | refine blk_drewN ?_ _ | refine blk_drew ?_ | refine blk_alloc ?_ _)); refine blk_put (cs := #[.slice none 0 0, .int .i64 0]) ?_ 0 _ rfl; (with_reducible repeat (first | refine blk_drewN ?_ _ | refine blk_drew ?_ | refine blk_alloc ?_ _)); exact BK300.out) NB300_286.out (by simp)); have n5_ := Aside0.mk (hb); have n6_ := Aside0.mk (hi); clear HO_288000; clear BK287; clear BK294; clear HO297; clear BK300; clear HB; clear HI286; have HO_288000 := n0_; have BK287 := n1_; have BK294 := n2_; have HO297 := n3_; have BK300 := n4_; have HB := n5_; have HI286 := n6_; clear n0_ n1_ n2_ n3_ n4_ n5_ n6_; (try clear hb); (try clear hb2); (try clear hk); (try clear hi)))
                      go_meet
                      case rel => exact ⟨_, (t302), (t303), (t295), (t298), (.slice Ao33 t295.length co33), H', ⟨by have := HJ2.out; have := HK2.out; first | omega | exact Nat.le_refl _⟩, ⟨by (with_reducible repeat (first | apply Kd.V_alloc | apply Kd.V_drewN | apply Kd.V_drew)); exact Kd.V_mono HO297.out (fun _ hk => ⟨hk.1.1, ⟨hk.1.2.1, ⟨hk.1.2.2.1, hk.1.2.2.2⟩⟩⟩)⟩, ⟨by (with_reducible repeat (first | refine blk_drewN ?_ _ | refine blk_drew ?_ | refine blk_alloc ?_ _)); exact BK287.out⟩, ⟨by (with_reducible repeat (first | refine blk_drewN ?_ _ | refine blk_drew ?_ | refine blk_alloc ?_ _)); exact BK294.out⟩, ⟨by repeat (first | (with_reducible first | exact HI286.out | apply IsS94.alloc | apply IsS94.drewN | apply IsS94.drew | apply IsS94.set_0 | apply IsS94.set_1) | refine IsS94.farT ?_ NB286_287.out (by first | ((repeat apply not_rows_set); exact not_rows_of BK287.out (by decide)) | ((repeat apply not_bytes_set); exact not_bytes_of BK287.out (by decide))) _ | refine IsS94.farT ?_ NB286_294.out (by first | ((repeat apply not_rows_set); exact not_rows_of BK294.out (by decide)) | ((repeat apply not_bytes_set); exact not_bytes_of BK294.out (by decide))) _ | refine IsS94.farT ?_ NB286_300.out (by first | ((repeat apply not_rows_set); exact not_rows_of BK300.out (by decide)) | ((repeat apply not_bytes_set); exact not_bytes_of BK300.out (by decide))) _ | exact HI286.out)⟩, ⟨by repeat (first | (with_reducible first | exact HB.out | apply below_alloc | apply pw_below_drewN | apply below_drew1 | refine below_set ?_ (IsS94.ge HI286.out) | refine below_set ?_ GE287.out | refine below_set ?_ GE294.out | refine below_set ?_ GE300.out) | exact HB.out)⟩⟩
                    · rw [if_neg c23] at H
                      have c23b0 : (t301 == t299) = false := beq_eq_false_iff_ne.mpr c23
                      have c23b1 : (t301 != t299) = true := bne_iff_ne.mpr c23
                      obtain rfl := Option.some.inj H
                      exact absurd hr_.out (by simp)
                  · rw [if_neg c20] at H
                    have c20b0 : (((rd_T73 l1 x7_2).f0) == 0) = false := beq_eq_false_iff_ne.mpr c20
                    have c20b1 : (((rd_T73 l1 x7_2).f0) != 0) = true := bne_iff_ne.mpr c20
                    (first | rw [c20b0] | (simp only [i64_w, i32_w]; rw [c20b0]) | skip)
                    by_cases c41 : ((rd_T73 l1 x7_2).f0) = 1
                    · rw [if_pos c41] at H
                      have c41b0 : (((rd_T73 l1 x7_2).f0) == 1) = true := beq_iff_eq.mpr c41
                      have c41b1 : (((rd_T73 l1 x7_2).f0) != 1) = false := bne_eq_false_iff_eq.mpr c41
                      clear c41
                      replace H := Option.bind_eq_some_iff.mp H
                      obtain ⟨⟨t304, t307, t308⟩, A420, H⟩ := H
                      replace H : ((octet_Reader_Bytes.f k2 x287000_2 x287001_2 ((rd_T73 l1 x7_2).f1)).bind fun bt312 => ((deedboxref01_Same.f k2 bt312.1 t308).bind fun t317 => (if t317 = true then (deedboxlaw01_OctetReads.j2 k2 l1 x7_2 bt312.2.1 bt312.2.2 t304 t307) else (some false)))) = some r := H
                      have A42 := Aside0.mk A420
                      clear A420
                      replace H := Option.bind_eq_some_iff.mp H
                      obtain ⟨⟨t312, t315, t316⟩, A430, H⟩ := H
                      replace H : ((deedboxref01_Same.f k2 t312 t308).bind fun t317 => (if t317 = true then (deedboxlaw01_OctetReads.j2 k2 l1 x7_2 t315 t316 t304 t307) else (some false))) = some r := H
                      have A43 := Aside0.mk A430
                      clear A430
                      replace H := Option.bind_eq_some_iff.mp H
                      obtain ⟨t317, A440, H⟩ := H
                      replace H : (if t317 = true then (deedboxlaw01_OctetReads.j2 k2 l1 x7_2 t315 t316 t304 t307) else (some false)) = some r := H
                      have A44 := Aside0.mk A440
                      clear A440
                      by_cases c45 : t317 = true
                      · subst c45
                        have H1 : (deedboxlaw01_OctetReads.j2 k2 l1 x7_2 t315 t316 t304 t307) = some r := by rw [if_pos rfl] at H; exact H
                        clear H
                        have H := H1
                        clear H1
                        have H' := Aside0.mk H
                        clear H
                        have hnb46 := NB287_294.out
                        have hnc46 := NB294_287.out
                        have hnb47 := NB287_286.out
                        have hnc47 := NB286_287.out
                        have hcz48_0 : w16.cell? ⟨gb287, 0, none⟩ = some (u288000) := (blk_cell BK287.out 0).trans rfl
                        have hcz48_1 : w16.cell? ⟨gb287, 1, none⟩ = some (.int .i64 x288001_2) := (blk_cell BK287.out 1).trans rfl
                        have hfz48_0 := blk_frozen BK287.out 0
                        have hfz48_1 := blk_frozen BK287.out 1
                        have hnb49 := NB294_286.out
                        have hnc49 := NB286_294.out
                        have hcz50_0 : w16.cell? ⟨gb294, 0, none⟩ = some (.int .i64 0) := (blk_cell BK294.out 0).trans rfl
                        have hcz50_1 : w16.cell? ⟨gb294, 1, none⟩ = some (.int .i64 0) := (blk_cell BK294.out 1).trans rfl
                        have hcz50_2 : w16.cell? ⟨gb294, 2, none⟩ = some (.int .i64 0) := (blk_cell BK294.out 2).trans rfl
                        have hfz50_0 := blk_frozen BK294.out 0
                        have hfz50_1 := blk_frozen BK294.out 1
                        have hfz50_2 := blk_frozen BK294.out 2
                        obtain ⟨Ao51, co51, eo51⟩ := Kd.V_slice HO_288000.out
                        subst eo51
                        go_wp2_with (first | ((with_reducible refine gate_callee (f := 67) rfl ?_); have n0_ : Aside0 (Kd.V (Kd.int .u8) 5 (((w16.setCell ⟨gb294, 0, none⟩ (.int .i64 ((rd_T73 l1 x7_2).f0))).setCell ⟨gb294, 1, none⟩ (.int .i64 ((rd_T73 l1 x7_2).f1))).setCell ⟨gb294, 2, none⟩ (.int .i64 ((rd_T73 l1 x7_2).f2))) w.heap.size (fun k_ => (P0_ k_ ∨ w.heap.size ≤ k_) ∧ k_ ≠ gb287 ∧ k_ ≠ g286 ∧ k_ ≠ gb294) (.slice Ao51 x288000_2.length co51) x288000_2) := ⟨by (with_reducible repeat (first | apply Kd.V_alloc | apply Kd.V_drewN | apply Kd.V_drew)); exact Kd.V_mono (Kd.V_far (p := ⟨gb294, 2, none⟩) (Kd.V_far (p := ⟨gb294, 1, none⟩) (Kd.V_far (p := ⟨gb294, 0, none⟩) (Kd.V_mono HO_288000.out (fun k_ hk => (⟨hk, hk.2⟩ : _ ∧ k_ ≠ gb294))) (fun _ hk => hk.2) (.int .i64 ((rd_T73 l1 x7_2).f0))) (fun _ hk => hk.2) (.int .i64 ((rd_T73 l1 x7_2).f1))) (fun _ hk => hk.2) (.int .i64 ((rd_T73 l1 x7_2).f2))) (fun _ hk => ⟨hk.1.1.1, ⟨hk.1.1.2.1, ⟨hk.1.1.2.2, hk.1.2⟩⟩⟩)⟩; have n1_ : Aside0 ((((w16.setCell ⟨gb294, 0, none⟩ (.int .i64 ((rd_T73 l1 x7_2).f0))).setCell ⟨gb294, 1, none⟩ (.int .i64 ((rd_T73 l1 x7_2).f1))).setCell ⟨gb294, 2, none⟩ (.int .i64 ((rd_T73 l1 x7_2).f2))).heap[gb287]? = some (.cells #[.slice Ao51 x288000_2.length co51, .int .i64 x288001_2] 71 (0, 0))) := ⟨by (with_reducible repeat (first | refine blk_drewN ?_ _ | refine blk_drew ?_ | refine blk_alloc ?_ _)); refine blk_far ?_ NB287_294.out _; (with_reducible repeat (first | refine blk_drewN ?_ _ | refine blk_drew ?_ | refine blk_alloc ?_ _)); refine blk_far ?_ NB287_294.out _; (with_reducible repeat (first | refine blk_drewN ?_ _ | refine blk_drew ?_ | refine blk_alloc ?_ _)); refine blk_far ?_ NB287_294.out _; (with_reducible repeat (first | refine blk_drewN ?_ _ | refine blk_drew ?_ | refine blk_alloc ?_ _)); exact BK287.out⟩; have n2_ : Aside0 ((((w16.setCell ⟨gb294, 0, none⟩ (.int .i64 ((rd_T73 l1 x7_2).f0))).setCell ⟨gb294, 1, none⟩ (.int .i64 ((rd_T73 l1 x7_2).f1))).setCell ⟨gb294, 2, none⟩ (.int .i64 ((rd_T73 l1 x7_2).f2))).heap[gb294]? = some (.cells #[.int .i64 ((rd_T73 l1 x7_2).f0), .int .i64 ((rd_T73 l1 x7_2).f1), .int .i64 ((rd_T73 l1 x7_2).f2)] 73 (0, 0))) := ⟨by (with_reducible repeat (first | refine blk_drewN ?_ _ | refine blk_drew ?_ | refine blk_alloc ?_ _)); refine blk_put (cs := #[.int .i64 ((rd_T73 l1 x7_2).f0), .int .i64 ((rd_T73 l1 x7_2).f1), .int .i64 0]) ?_ 2 _ rfl; (with_reducible repeat (first | refine blk_drewN ?_ _ | refine blk_drew ?_ | refine blk_alloc ?_ _)); refine blk_put (cs := #[.int .i64 ((rd_T73 l1 x7_2).f0), .int .i64 0, .int .i64 0]) ?_ 1 _ rfl; (with_reducible repeat (first | refine blk_drewN ?_ _ | refine blk_drew ?_ | refine blk_alloc ?_ _)); refine blk_put (cs := #[.int .i64 0, .int .i64 0, .int .i64 0]) ?_ 0 _ rfl; (with_reducible repeat (first | refine blk_drewN ?_ _ | refine blk_drew ?_ | refine blk_alloc ?_ _)); exact BK294.out⟩; have n3_ : Aside0 (IsS94 w (((w16.setCell ⟨gb294, 0, none⟩ (.int .i64 ((rd_T73 l1 x7_2).f0))).setCell ⟨gb294, 1, none⟩ (.int .i64 ((rd_T73 l1 x7_2).f1))).setCell ⟨gb294, 2, none⟩ (.int .i64 ((rd_T73 l1 x7_2).f2))) g286 x287000_2 x287001_2) := ⟨by repeat (first | (with_reducible first | exact HI286.out | apply IsS94.alloc | apply IsS94.drewN | apply IsS94.drew | apply IsS94.set_0 | apply IsS94.set_1) | refine IsS94.farT ?_ NB286_287.out (by first | ((repeat apply not_rows_set); exact not_rows_of BK287.out (by decide)) | ((repeat apply not_bytes_set); exact not_bytes_of BK287.out (by decide))) _ | refine IsS94.farT ?_ NB286_294.out (by first | ((repeat apply not_rows_set); exact not_rows_of BK294.out (by decide)) | ((repeat apply not_bytes_set); exact not_bytes_of BK294.out (by decide))) _ | exact HI286.out)⟩; have n4_ : Aside0 (Below w.heap.size w (((w16.setCell ⟨gb294, 0, none⟩ (.int .i64 ((rd_T73 l1 x7_2).f0))).setCell ⟨gb294, 1, none⟩ (.int .i64 ((rd_T73 l1 x7_2).f1))).setCell ⟨gb294, 2, none⟩ (.int .i64 ((rd_T73 l1 x7_2).f2)))) := ⟨by repeat (first | (with_reducible first | exact HB.out | apply below_alloc | apply pw_below_drewN | apply below_drew1 | refine below_set ?_ (IsS94.ge HI286.out) | refine below_set ?_ GE287.out | refine below_set ?_ GE294.out) | exact HB.out)⟩; (try clear HO_288000); (try clear BK287); (try clear BK294); (try clear HI286); (try clear HB); generalize (((w16.setCell ⟨gb294, 0, none⟩ (.int .i64 ((rd_T73 l1 x7_2).f0))).setCell ⟨gb294, 1, none⟩ (.int .i64 ((rd_T73 l1 x7_2).f1))).setCell ⟨gb294, 2, none⟩ (.int .i64 ((rd_T73 l1 x7_2).f2))) = w52 at n0_ n1_ n2_ n3_ n4_ ⊢; have HO_288000 := n0_; have BK287 := n1_; have BK294 := n2_; have HI286 := n3_; have HB := n4_; clear n0_ n1_ n2_ n3_ n4_; refine goesL_ (some 64) rfl rfl Try.func67 (by kernel_rfl) rfl #[.agg #[.slice Ao51 x288000_2.length co51, .int .i64 x288001_2], .int .i64 ((rd_T73 l1 x7_2).f1)] rfl (by (try simp only [List.map_toArray, List.map_cons, List.map_nil]); first | done | rfl | (simp only [List.length_drop, List.length_take]; rfl)) ?_; (with_reducible refine (deedboxref01_Bytes.calls (fun k_ => ((P0_ k_ ∨ w.heap.size ≤ k_) ∧ (k_ ≠ gb287 ∧ (k_ ≠ g286 ∧ k_ ≠ gb294)))) _ _ x288000_2 x288001_2 ((rd_T73 l1 x7_2).f1) t304 t307 t308 _ ?side1 A42.out).mono ?_); (case side1 => exact HO_288000.out); rintro e w53 ⟨v305, v309, rfl, ho0, ho1, hb⟩; refine ⟨_, rfl, ?_⟩; have n0_ := Aside0.mk (Kd.V_below (by (with_reducible repeat (first | apply Kd.V_alloc | apply Kd.V_drewN | apply Kd.V_drew)); exact HO_288000.out) hb); have n1_ := Aside0.mk (Kd.V_lower (Kd.V_mono (ok' := fun k_ => (P0_ k_ ∨ w.heap.size ≤ k_) ∧ k_ ≠ gb287 ∧ k_ ≠ gb294 ∧ k_ ≠ g286) ho0 (fun k_ hk_ => ⟨Or.elim hk_ (fun hs_ => hs_.1) (fun hn_ => (.inr (Nat.le_trans (below_size (by repeat (first | (with_reducible first | exact HB.out | apply below_alloc | apply pw_below_drewN | apply below_drew1 | refine below_set ?_ (IsS94.ge HI286.out) | refine below_set ?_ GE287.out | refine below_set ?_ GE294.out) | exact HB.out))) hn_))), Or.elim hk_ (fun hs_ => hs_.2.1) (fun hn_ => (Kd.freshB (g := gb287) (o := .cells #[.slice Ao51 x288000_2.length co51, .int .i64 x288001_2] 71 (0, 0)) (by (with_reducible repeat (first | refine blk_drewN ?_ _ | refine blk_drew ?_ | refine blk_alloc ?_ _)); exact BK287.out) k_ hn_)), Or.elim hk_ (fun hs_ => hs_.2.2.2) (fun hn_ => (Kd.freshB (g := gb294) (o := .cells #[.int .i64 ((rd_T73 l1 x7_2).f0), .int .i64 ((rd_T73 l1 x7_2).f1), .int .i64 ((rd_T73 l1 x7_2).f2)] 73 (0, 0)) (by (with_reducible repeat (first | refine blk_drewN ?_ _ | refine blk_drew ?_ | refine blk_alloc ?_ _)); exact BK294.out) k_ hn_)), Or.elim hk_ (fun hs_ => hs_.2.2.1) (fun hn_ => (IsS94.fresh (by repeat (first | (with_reducible first | exact HI286.out | apply IsS94.alloc | apply IsS94.drewN | apply IsS94.drew | apply IsS94.set_0 | apply IsS94.set_1) | refine IsS94.farT ?_ NB286_287.out (by first | ((repeat apply not_rows_set); exact not_rows_of BK287.out (by decide)) | ((repeat apply not_bytes_set); exact not_bytes_of BK287.out (by decide))) _ | refine IsS94.farT ?_ NB286_294.out (by first | ((repeat apply not_rows_set); exact not_rows_of BK294.out (by decide)) | ((repeat apply not_bytes_set); exact not_bytes_of BK294.out (by decide))) _ | exact HI286.out)) k_ hn_))⟩)) (below_size (by repeat (first | (with_reducible first | exact HB.out | apply below_alloc | apply pw_below_drewN | apply below_drew1 | refine below_set ?_ (IsS94.ge HI286.out) | refine below_set ?_ GE287.out | refine below_set ?_ GE294.out) | exact HB.out)))); have n2_ := Aside0.mk (Kd.V_lower (Kd.V_mono (ok' := fun k_ => (P0_ k_ ∨ w.heap.size ≤ k_) ∧ k_ ≠ gb287 ∧ k_ ≠ gb294 ∧ k_ ≠ g286) ho1 (fun k_ hk_ => ⟨Or.elim hk_ (fun hs_ => hs_.1) (fun hn_ => (.inr (Nat.le_trans (below_size (by repeat (first | (with_reducible first | exact HB.out | apply below_alloc | apply pw_below_drewN | apply below_drew1 | refine below_set ?_ (IsS94.ge HI286.out) | refine below_set ?_ GE287.out | refine below_set ?_ GE294.out) | exact HB.out))) hn_))), Or.elim hk_ (fun hs_ => hs_.2.1) (fun hn_ => (Kd.freshB (g := gb287) (o := .cells #[.slice Ao51 x288000_2.length co51, .int .i64 x288001_2] 71 (0, 0)) (by (with_reducible repeat (first | refine blk_drewN ?_ _ | refine blk_drew ?_ | refine blk_alloc ?_ _)); exact BK287.out) k_ hn_)), Or.elim hk_ (fun hs_ => hs_.2.2.2) (fun hn_ => (Kd.freshB (g := gb294) (o := .cells #[.int .i64 ((rd_T73 l1 x7_2).f0), .int .i64 ((rd_T73 l1 x7_2).f1), .int .i64 ((rd_T73 l1 x7_2).f2)] 73 (0, 0)) (by (with_reducible repeat (first | refine blk_drewN ?_ _ | refine blk_drew ?_ | refine blk_alloc ?_ _)); exact BK294.out) k_ hn_)), Or.elim hk_ (fun hs_ => hs_.2.2.1) (fun hn_ => (IsS94.fresh (by repeat (first | (with_reducible first | exact HI286.out | apply IsS94.alloc | apply IsS94.drewN | apply IsS94.drew | apply IsS94.set_0 | apply IsS94.set_1) | refine IsS94.farT ?_ NB286_287.out (by first | ((repeat apply not_rows_set); exact not_rows_of BK287.out (by decide)) | ((repeat apply not_bytes_set); exact not_bytes_of BK287.out (by decide))) _ | refine IsS94.farT ?_ NB286_294.out (by first | ((repeat apply not_rows_set); exact not_rows_of BK294.out (by decide)) | ((repeat apply not_bytes_set); exact not_bytes_of BK294.out (by decide))) _ | exact HI286.out)) k_ hn_))⟩)) (below_size (by repeat (first | (with_reducible first | exact HB.out | apply below_alloc | apply pw_below_drewN | apply below_drew1 | refine below_set ?_ (IsS94.ge HI286.out) | refine below_set ?_ GE287.out | refine below_set ?_ GE294.out) | exact HB.out)))); have n3_ := Aside0.mk (blk_below (g := gb287) (o := .cells #[.slice Ao51 x288000_2.length co51, .int .i64 x288001_2] 71 (0, 0)) (by (with_reducible repeat (first | refine blk_drewN ?_ _ | refine blk_drew ?_ | refine blk_alloc ?_ _)); exact BK287.out) hb); have n4_ := Aside0.mk (IsS94.below (by repeat (first | (with_reducible first | exact HI286.out | apply IsS94.alloc | apply IsS94.drewN | apply IsS94.drew | apply IsS94.set_0 | apply IsS94.set_1) | refine IsS94.farT ?_ NB286_287.out (by first | ((repeat apply not_rows_set); exact not_rows_of BK287.out (by decide)) | ((repeat apply not_bytes_set); exact not_bytes_of BK287.out (by decide))) _ | refine IsS94.farT ?_ NB286_294.out (by first | ((repeat apply not_rows_set); exact not_rows_of BK294.out (by decide)) | ((repeat apply not_bytes_set); exact not_bytes_of BK294.out (by decide))) _ | exact HI286.out)) hb); have n5_ := Aside0.mk (blk_below (g := gb294) (o := .cells #[.int .i64 ((rd_T73 l1 x7_2).f0), .int .i64 ((rd_T73 l1 x7_2).f1), .int .i64 ((rd_T73 l1 x7_2).f2)] 73 (0, 0)) (by (with_reducible repeat (first | refine blk_drewN ?_ _ | refine blk_drew ?_ | refine blk_alloc ?_ _)); exact BK294.out) hb); have n6_ := Aside0.mk (below_step (by repeat (first | (with_reducible first | exact HB.out | apply below_alloc | apply pw_below_drewN | apply below_drew1 | refine below_set ?_ (IsS94.ge HI286.out) | refine below_set ?_ GE287.out | refine below_set ?_ GE294.out) | exact HB.out)) hb); clear HO_288000; clear BK287; clear HI286; clear BK294; clear HB; have HO_288000 := n0_; have HO306 := n1_; have HO310 := n2_; have BK287 := n3_; have HI286 := n4_; have BK294 := n5_; have HB := n6_; clear n0_ n1_ n2_ n3_ n4_ n5_ n6_; (try clear hb); (try clear hb2); (try clear hk); (try clear hi); (try clear ho0); (try clear ho1)) | ((with_reducible refine gate_dst (N := 11) rfl ?_); (try (refine gate_guard (by rfl) ?_; dsimp only)); refine box_event ?hg (N := 11) ?hd (cs := #[.slice none 0 0, .int .i64 0]) (t := 71) ?hr ?_; (case hd => rfl); (case hg => rfl); (case hr => first | (go_simp; done) | (go_simp; rfl)); intro gb311 hg w54 hbox hb; have n0_ := Aside0.mk (Kd.V_below (Kd.V_elderB (by (with_reducible repeat (first | apply Kd.V_alloc | apply Kd.V_drewN | apply Kd.V_drew)); exact HO_288000.out) gb311 (Nat.le_of_eq hg.symm)) hb); have n1_ := Aside0.mk (Kd.V_below (Kd.V_elderB (by (with_reducible repeat (first | apply Kd.V_alloc | apply Kd.V_drewN | apply Kd.V_drew)); exact HO306.out) gb311 (Nat.le_of_eq hg.symm)) hb); have n2_ := Aside0.mk (Kd.V_below (Kd.V_elderB (by (with_reducible repeat (first | apply Kd.V_alloc | apply Kd.V_drewN | apply Kd.V_drew)); exact HO310.out) gb311 (Nat.le_of_eq hg.symm)) hb); have n3_ := Aside0.mk (blk_below (g := gb287) (o := .cells #[.slice Ao51 x288000_2.length co51, .int .i64 x288001_2] 71 (0, 0)) (by (with_reducible repeat (first | refine blk_drewN ?_ _ | refine blk_drew ?_ | refine blk_alloc ?_ _)); exact BK287.out) hb); have n4_ := Aside0.mk (IsS94.below (by repeat (first | (with_reducible first | exact HI286.out | apply IsS94.alloc | apply IsS94.drewN | apply IsS94.drew | apply IsS94.set_0 | apply IsS94.set_1) | refine IsS94.farT ?_ NB286_287.out (by first | ((repeat apply not_rows_set); exact not_rows_of BK287.out (by decide)) | ((repeat apply not_bytes_set); exact not_bytes_of BK287.out (by decide))) _ | refine IsS94.farT ?_ NB286_294.out (by first | ((repeat apply not_rows_set); exact not_rows_of BK294.out (by decide)) | ((repeat apply not_bytes_set); exact not_bytes_of BK294.out (by decide))) _ | exact HI286.out)) hb); have n5_ := Aside0.mk (blk_below (g := gb294) (o := .cells #[.int .i64 ((rd_T73 l1 x7_2).f0), .int .i64 ((rd_T73 l1 x7_2).f1), .int .i64 ((rd_T73 l1 x7_2).f2)] 73 (0, 0)) (by (with_reducible repeat (first | refine blk_drewN ?_ _ | refine blk_drew ?_ | refine blk_alloc ?_ _)); exact BK294.out) hb); have n6_ := Aside0.mk (below_step (by repeat (first | (with_reducible first | exact HB.out | apply below_alloc | apply pw_below_drewN | apply below_drew1 | refine below_set ?_ (IsS94.ge HI286.out) | refine below_set ?_ GE287.out | refine below_set ?_ GE294.out) | exact HB.out)) hb); have n7_ := Aside0.mk (hbox); have n8_ := Aside0.mk ((by rw [hg]; exact (below_size (by repeat (first | (with_reducible first | exact HB.out | apply below_alloc | apply pw_below_drewN | apply below_drew1 | refine below_set ?_ (IsS94.ge HI286.out) | refine below_set ?_ GE287.out | refine below_set ?_ GE294.out) | exact HB.out))) : w.heap.size ≤ gb311)); have n9_ := Aside0.mk ((by rw [hg]; exact (below_size (by repeat (first | (with_reducible first | exact HB.out | apply below_alloc | apply pw_below_drewN | apply below_drew1 | refine below_set ?_ (IsS94.ge HI286.out) | refine below_set ?_ GE287.out | refine below_set ?_ GE294.out) | exact HB.out))) : w.heap.size ≤ gb311)); have n10_ := Aside0.mk ((by rw [hg]; exact Nat.ne_of_lt (blk_lt (g := gb287) (o := .cells #[.slice Ao51 x288000_2.length co51, .int .i64 x288001_2] 71 (0, 0)) (by (with_reducible repeat (first | refine blk_drewN ?_ _ | refine blk_drew ?_ | refine blk_alloc ?_ _)); exact BK287.out)) : gb287 ≠ gb311)); have n11_ := Aside0.mk ((by rw [hg]; exact Nat.ne_of_gt (blk_lt (g := gb287) (o := .cells #[.slice Ao51 x288000_2.length co51, .int .i64 x288001_2] 71 (0, 0)) (by (with_reducible repeat (first | refine blk_drewN ?_ _ | refine blk_drew ?_ | refine blk_alloc ?_ _)); exact BK287.out)) : gb311 ≠ gb287)); have n12_ := Aside0.mk ((by rw [hg]; exact Nat.ne_of_lt (blk_lt (g := gb294) (o := .cells #[.int .i64 ((rd_T73 l1 x7_2).f0), .int .i64 ((rd_T73 l1 x7_2).f1), .int .i64 ((rd_T73 l1 x7_2).f2)] 73 (0, 0)) (by (with_reducible repeat (first | refine blk_drewN ?_ _ | refine blk_drew ?_ | refine blk_alloc ?_ _)); exact BK294.out)) : gb294 ≠ gb311)); have n13_ := Aside0.mk ((by rw [hg]; exact Nat.ne_of_gt (blk_lt (g := gb294) (o := .cells #[.int .i64 ((rd_T73 l1 x7_2).f0), .int .i64 ((rd_T73 l1 x7_2).f1), .int .i64 ((rd_T73 l1 x7_2).f2)] 73 (0, 0)) (by (with_reducible repeat (first | refine blk_drewN ?_ _ | refine blk_drew ?_ | refine blk_alloc ?_ _)); exact BK294.out)) : gb311 ≠ gb294)); have n14_ := Aside0.mk ((by rw [hg]; exact Nat.ne_of_lt (IsS94.lt (show IsS94 w _ g286 x287000_2 x287001_2 from by repeat (first | (with_reducible first | exact HI286.out | apply IsS94.alloc | apply IsS94.drewN | apply IsS94.drew | apply IsS94.set_0 | apply IsS94.set_1) | refine IsS94.farT ?_ NB286_287.out (by first | ((repeat apply not_rows_set); exact not_rows_of BK287.out (by decide)) | ((repeat apply not_bytes_set); exact not_bytes_of BK287.out (by decide))) _ | refine IsS94.farT ?_ NB286_294.out (by first | ((repeat apply not_rows_set); exact not_rows_of BK294.out (by decide)) | ((repeat apply not_bytes_set); exact not_bytes_of BK294.out (by decide))) _ | exact HI286.out))) : g286 ≠ gb311)); have n15_ := Aside0.mk ((by rw [hg]; exact Nat.ne_of_gt (IsS94.lt (show IsS94 w _ g286 x287000_2 x287001_2 from by repeat (first | (with_reducible first | exact HI286.out | apply IsS94.alloc | apply IsS94.drewN | apply IsS94.drew | apply IsS94.set_0 | apply IsS94.set_1) | refine IsS94.farT ?_ NB286_287.out (by first | ((repeat apply not_rows_set); exact not_rows_of BK287.out (by decide)) | ((repeat apply not_bytes_set); exact not_bytes_of BK287.out (by decide))) _ | refine IsS94.farT ?_ NB286_294.out (by first | ((repeat apply not_rows_set); exact not_rows_of BK294.out (by decide)) | ((repeat apply not_bytes_set); exact not_bytes_of BK294.out (by decide))) _ | exact HI286.out))) : gb311 ≠ g286)); clear HO_288000; clear HO306; clear HO310; clear BK287; clear HI286; clear BK294; clear HB; have HO_288000 := n0_; have HO306 := n1_; have HO310 := n2_; have BK287 := n3_; have HI286 := n4_; have BK294 := n5_; have HB := n6_; have BK311 := n7_; have GW311 := n8_; have GE311 := n9_; have NB287_311 := n10_; have NB311_287 := n11_; have NB294_311 := n12_; have NB311_294 := n13_; have NB286_311 := n14_; have NB311_286 := n15_; clear n0_ n1_ n2_ n3_ n4_ n5_ n6_ n7_ n8_ n9_ n10_ n11_ n12_ n13_ n14_ n15_; clear hb hbox hg; obtain ⟨Ao55, co55, eo55⟩ := Kd.V_slice HO306.out; subst eo55; have hnb56 := NB311_287.out; have hnc56 := NB287_311.out; have hnb57 := NB311_294.out; have hnc57 := NB294_311.out; have hnb58 := NB311_286.out; have hnc58 := NB286_311.out; have hcz59_0 : w54.cell? ⟨gb311, 0, none⟩ = some (.slice none 0 0) := (blk_cell BK311.out 0).trans rfl; have hcz59_1 : w54.cell? ⟨gb311, 1, none⟩ = some (.int .i64 0) := (blk_cell BK311.out 1).trans rfl; have hfz59_0 := blk_frozen BK311.out 0; have hfz59_1 := blk_frozen BK311.out 1; have hcz60_0 : w54.cell? ⟨gb287, 0, none⟩ = some (.slice Ao51 x288000_2.length co51) := (blk_cell BK287.out 0).trans rfl; have hcz60_1 : w54.cell? ⟨gb287, 1, none⟩ = some (.int .i64 x288001_2) := (blk_cell BK287.out 1).trans rfl; have hfz60_0 := blk_frozen BK287.out 0; have hfz60_1 := blk_frozen BK287.out 1; have hcz61_0 : w54.cell? ⟨gb294, 0, none⟩ = some (.int .i64 ((rd_T73 l1 x7_2).f0)) := (blk_cell BK294.out 0).trans rfl; have hcz61_1 : w54.cell? ⟨gb294, 1, none⟩ = some (.int .i64 ((rd_T73 l1 x7_2).f1)) := (blk_cell BK294.out 1).trans rfl; have hcz61_2 : w54.cell? ⟨gb294, 2, none⟩ = some (.int .i64 ((rd_T73 l1 x7_2).f2)) := (blk_cell BK294.out 2).trans rfl; have hfz61_0 := blk_frozen BK294.out 0; have hfz61_1 := blk_frozen BK294.out 1; have hfz61_2 := blk_frozen BK294.out 2) | ((with_reducible refine gate_callee (f := 68) rfl ?_); refine goesL_ (some 71) rfl rfl Try.func68 (by kernel_rfl) rfl #[.pointer (some ⟨g286, 0, none⟩), .int .i64 ((rd_T73 l1 x7_2).f1)] rfl (by (try simp only [List.map_toArray, List.map_cons, List.map_nil]); first | done | rfl | (simp only [List.length_drop, List.length_take]; rfl)) ?_; (with_reducible refine (octet_Reader_Bytes.calls k2 g286 x287000_2 x287001_2 ((rd_T73 l1 x7_2).f1) t312 t315 t316 w _ ?side1 ?side2 A43.out).mono ?_); (case side1 => repeat (first | (with_reducible first | exact HI286.out | apply IsS94.alloc | apply IsS94.drewN | apply IsS94.drew | apply IsS94.set_0 | apply IsS94.set_1) | refine IsS94.farT ?_ NB286_287.out (by first | ((repeat apply not_rows_set); exact not_rows_of BK287.out (by decide)) | ((repeat apply not_bytes_set); exact not_bytes_of BK287.out (by decide))) _ | refine IsS94.farT ?_ NB286_294.out (by first | ((repeat apply not_rows_set); exact not_rows_of BK294.out (by decide)) | ((repeat apply not_bytes_set); exact not_bytes_of BK294.out (by decide))) _ | refine IsS94.farT ?_ NB286_311.out (by first | ((repeat apply not_rows_set); exact not_rows_of BK311.out (by decide)) | ((repeat apply not_bytes_set); exact not_bytes_of BK311.out (by decide))) _ | exact HI286.out)); (case side2 => repeat (first | (with_reducible first | exact HB.out | apply below_alloc | apply pw_below_drewN | apply below_drew1 | refine below_set ?_ (IsS94.ge HI286.out) | refine below_set ?_ GE287.out | refine below_set ?_ GE294.out | refine below_set ?_ GE311.out) | exact HB.out)); rintro e w62 ⟨v313, rfl, ho0, hi, hb, hk⟩; refine ⟨_, rfl, ?_⟩; have n0_ := Aside0.mk (Kd.V_mono (Kd.V_told (Kd.V_oldK (Kd.V_mono (ok := fun k_ => ((((P0_ k_ ∨ w.heap.size ≤ k_)) ∧ (k_ ≠ gb287 ∧ (k_ ≠ g286 ∧ k_ ≠ gb294))) ∧ k_ ≠ gb311)) (by (with_reducible repeat (first | apply Kd.V_alloc | apply Kd.V_drewN | apply Kd.V_drew)); exact (Kd.V_mono (Kd.V_mono (Kd.V_far (p := ⟨gb287, 1, none⟩) (Kd.V_far (p := ⟨gb287, 0, none⟩) (Kd.V_far (p := ⟨gb311, 1, none⟩) (Kd.V_far (p := ⟨gb311, 0, none⟩) (Kd.V_mono (Kd.V_mono HO_288000.out (fun k_ hk => (⟨hk, hk.2⟩ : _ ∧ k_ ≠ gb311))) (fun k_ hk => (⟨hk, hk.1.1.2.1⟩ : _ ∧ k_ ≠ gb287))) (fun _ hk => hk.1.2) (.slice Ao55 t304.length co55)) (fun _ hk => hk.1.2) (.int .i64 t307)) (fun _ hk => hk.2) (.slice Ao55 t304.length co55)) (fun _ hk => hk.2) (.int .i64 t307)) (fun _ h_ => h_.1)) (fun _ h_ => h_.1))) (fun k_ hk_ => (⟨hk_, hk_.1.2.2.1⟩ : _ ∧ k_ ≠ g286))) hk) (Kd.R_base ho0)) (fun _ h_ => h_.1)); have n1_ := Aside0.mk (KeepBut.blk hk (g' := gb287) (o := .cells #[.slice Ao55 t304.length co55, .int .i64 t307] 71 (0, 0)) (by (with_reducible repeat (first | refine blk_drewN ?_ _ | refine blk_drew ?_ | refine blk_alloc ?_ _)); refine blk_put (cs := #[.slice Ao55 t304.length co55, .int .i64 x288001_2]) ?_ 1 _ rfl; (with_reducible repeat (first | refine blk_drewN ?_ _ | refine blk_drew ?_ | refine blk_alloc ?_ _)); refine blk_put (cs := #[.slice Ao51 x288000_2.length co51, .int .i64 x288001_2]) ?_ 0 _ rfl; (with_reducible repeat (first | refine blk_drewN ?_ _ | refine blk_drew ?_ | refine blk_alloc ?_ _)); refine blk_far ?_ NB287_311.out _; (with_reducible repeat (first | refine blk_drewN ?_ _ | refine blk_drew ?_ | refine blk_alloc ?_ _)); refine blk_far ?_ NB287_311.out _; (with_reducible repeat (first | refine blk_drewN ?_ _ | refine blk_drew ?_ | refine blk_alloc ?_ _)); exact BK287.out) NB287_286.out (by simp)); have n2_ := Aside0.mk (KeepBut.blk hk (g' := gb294) (o := .cells #[.int .i64 ((rd_T73 l1 x7_2).f0), .int .i64 ((rd_T73 l1 x7_2).f1), .int .i64 ((rd_T73 l1 x7_2).f2)] 73 (0, 0)) (by (with_reducible repeat (first | refine blk_drewN ?_ _ | refine blk_drew ?_ | refine blk_alloc ?_ _)); refine blk_far ?_ NB294_287.out _; (with_reducible repeat (first | refine blk_drewN ?_ _ | refine blk_drew ?_ | refine blk_alloc ?_ _)); refine blk_far ?_ NB294_287.out _; (with_reducible repeat (first | refine blk_drewN ?_ _ | refine blk_drew ?_ | refine blk_alloc ?_ _)); refine blk_far ?_ NB294_311.out _; (with_reducible repeat (first | refine blk_drewN ?_ _ | refine blk_drew ?_ | refine blk_alloc ?_ _)); refine blk_far ?_ NB294_311.out _; (with_reducible repeat (first | refine blk_drewN ?_ _ | refine blk_drew ?_ | refine blk_alloc ?_ _)); exact BK294.out) NB294_286.out (by simp)); have n3_ := Aside0.mk (Kd.V_mono (Kd.V_told (Kd.V_oldK (Kd.V_mono (ok := fun k_ => ((((P0_ k_ ∨ w.heap.size ≤ k_)) ∧ (k_ ≠ gb287 ∧ (k_ ≠ gb294 ∧ k_ ≠ g286))) ∧ k_ ≠ gb311)) (by (with_reducible repeat (first | apply Kd.V_alloc | apply Kd.V_drewN | apply Kd.V_drew)); exact (Kd.V_mono (Kd.V_mono (Kd.V_far (p := ⟨gb287, 1, none⟩) (Kd.V_far (p := ⟨gb287, 0, none⟩) (Kd.V_far (p := ⟨gb311, 1, none⟩) (Kd.V_far (p := ⟨gb311, 0, none⟩) (Kd.V_mono (Kd.V_mono HO306.out (fun k_ hk => (⟨hk, hk.2⟩ : _ ∧ k_ ≠ gb311))) (fun k_ hk => (⟨hk, hk.1.1.2.1⟩ : _ ∧ k_ ≠ gb287))) (fun _ hk => hk.1.2) (.slice Ao55 t304.length co55)) (fun _ hk => hk.1.2) (.int .i64 t307)) (fun _ hk => hk.2) (.slice Ao55 t304.length co55)) (fun _ hk => hk.2) (.int .i64 t307)) (fun _ h_ => h_.1)) (fun _ h_ => h_.1))) (fun k_ hk_ => (⟨hk_, hk_.1.2.2.2⟩ : _ ∧ k_ ≠ g286))) hk) (Kd.R_base ho0)) (fun _ h_ => h_.1)); have n4_ := Aside0.mk (Kd.V_mono (Kd.V_told (Kd.V_oldK (Kd.V_mono (ok := fun k_ => ((((P0_ k_ ∨ w.heap.size ≤ k_)) ∧ (k_ ≠ gb287 ∧ (k_ ≠ gb294 ∧ k_ ≠ g286))) ∧ k_ ≠ gb311)) (by (with_reducible repeat (first | apply Kd.V_alloc | apply Kd.V_drewN | apply Kd.V_drew)); exact (Kd.V_mono (Kd.V_mono (Kd.V_far (p := ⟨gb287, 1, none⟩) (Kd.V_far (p := ⟨gb287, 0, none⟩) (Kd.V_far (p := ⟨gb311, 1, none⟩) (Kd.V_far (p := ⟨gb311, 0, none⟩) (Kd.V_mono (Kd.V_mono HO310.out (fun k_ hk => (⟨hk, hk.2⟩ : _ ∧ k_ ≠ gb311))) (fun k_ hk => (⟨hk, hk.1.1.2.1⟩ : _ ∧ k_ ≠ gb287))) (fun _ hk => hk.1.2) (.slice Ao55 t304.length co55)) (fun _ hk => hk.1.2) (.int .i64 t307)) (fun _ hk => hk.2) (.slice Ao55 t304.length co55)) (fun _ hk => hk.2) (.int .i64 t307)) (fun _ h_ => h_.1)) (fun _ h_ => h_.1))) (fun k_ hk_ => (⟨hk_, hk_.1.2.2.2⟩ : _ ∧ k_ ≠ g286))) hk) (Kd.R_base ho0)) (fun _ h_ => h_.1)); have n5_ := Aside0.mk (KeepBut.blk hk (g' := gb311) (o := .cells #[.slice Ao55 t304.length co55, .int .i64 t307] 71 (0, 0)) (by (with_reducible repeat (first | refine blk_drewN ?_ _ | refine blk_drew ?_ | refine blk_alloc ?_ _)); refine blk_far ?_ NB311_287.out _; (with_reducible repeat (first | refine blk_drewN ?_ _ | refine blk_drew ?_ | refine blk_alloc ?_ _)); refine blk_far ?_ NB311_287.out _; (with_reducible repeat (first | refine blk_drewN ?_ _ | refine blk_drew ?_ | refine blk_alloc ?_ _)); refine blk_put (cs := #[.slice Ao55 t304.length co55, .int .i64 0]) ?_ 1 _ rfl; (with_reducible repeat (first | refine blk_drewN ?_ _ | refine blk_drew ?_ | refine blk_alloc ?_ _)); refine blk_put (cs := #[.slice none 0 0, .int .i64 0]) ?_ 0 _ rfl; (with_reducible repeat (first | refine blk_drewN ?_ _ | refine blk_drew ?_ | refine blk_alloc ?_ _)); exact BK311.out) NB311_286.out (by simp)); have n6_ := Aside0.mk (Kd.R_lower (Kd.R_newM (M := fun k_ => (w.heap.size ≤ k_)) ho0 (below_size (by repeat (first | (with_reducible first | exact HB.out | apply below_alloc | apply pw_below_drewN | apply below_drew1 | refine below_set ?_ (IsS94.ge HI286.out) | refine below_set ?_ GE287.out | refine below_set ?_ GE294.out | refine below_set ?_ GE311.out) | exact HB.out))) (fun k_ h_ => h_)) (below_size (by repeat (first | (with_reducible first | exact HB.out | apply below_alloc | apply pw_below_drewN | apply below_drew1 | refine below_set ?_ (IsS94.ge HI286.out) | refine below_set ?_ GE287.out | refine below_set ?_ GE294.out | refine below_set ?_ GE311.out) | exact HB.out)))); have n7_ := Aside0.mk (hb); have n8_ := Aside0.mk (hi); clear HO_288000; clear BK287; clear BK294; clear HO306; clear HO310; clear BK311; clear HB; clear HI286; have HO_288000 := n0_; have BK287 := n1_; have BK294 := n2_; have HO306 := n3_; have HO310 := n4_; have BK311 := n5_; have HO314 := n6_; have HB := n7_; have HI286 := n8_; clear n0_ n1_ n2_ n3_ n4_ n5_ n6_ n7_ n8_; (try clear hb); (try clear hb2); (try clear hk); (try clear hi); (try clear ho0); obtain ⟨Ao63, co63, eo63⟩ := Kd.R_slice HO314.out; subst eo63; obtain ⟨Ao64, co64, eo64⟩ := Kd.V_slice HO310.out; subst eo64) | ((with_reducible refine gate_callee (f := 22) rfl ?_); refine goesL_ (some 73) rfl rfl Try.func22 (by kernel_rfl) rfl #[.slice Ao63 t312.length co63, .slice Ao64 t308.length co64] rfl (by (try simp only [List.map_toArray, List.map_cons, List.map_nil]); first | done | rfl | (simp only [List.length_drop, List.length_take]; rfl)) ?_; (with_reducible refine (deedboxref01_Same.calls k2 _ _ t312 _ _ t308 true _ ?side1 ?side2 ?side3 ?side4 A44.out).mono ?_); (case side1 => repeat (first | exact (Kd.R_reads' HO314.out).2.2 | (with_reducible refine Kd.C_alloc ?_ _) | (with_reducible refine Kd.C_drewN ?_ _) | (with_reducible refine Kd.C_drew ?_))); (case side2 => exact (Kd.R_reads' HO314.out).2.1); (case side3 => repeat (first | exact (Kd.V_reads' HO310.out).2.2 | (with_reducible refine Kd.C_alloc ?_ _) | (with_reducible refine Kd.C_drewN ?_ _) | (with_reducible refine Kd.C_drew ?_))); (case side4 => exact (Kd.V_reads' HO310.out).2.1); rintro e w' ⟨rfl, ⟨nd, rfl⟩⟩; refine ⟨_, rfl, ?_⟩))
                        go_meet
                        case rel => exact ⟨_, (t315), (t316), (t304), (t307), (.slice Ao55 t304.length co55), H', ⟨by have := HJ2.out; have := HK2.out; first | omega | exact Nat.le_refl _⟩, ⟨by (with_reducible repeat (first | apply Kd.V_alloc | apply Kd.V_drewN | apply Kd.V_drew)); exact Kd.V_mono HO306.out (fun _ hk => ⟨hk.1.1.1, ⟨hk.1.1.2.1, ⟨hk.1.1.2.2.1, hk.1.1.2.2.2⟩⟩⟩)⟩, ⟨by (with_reducible repeat (first | refine blk_drewN ?_ _ | refine blk_drew ?_ | refine blk_alloc ?_ _)); exact BK287.out⟩, ⟨by (with_reducible repeat (first | refine blk_drewN ?_ _ | refine blk_drew ?_ | refine blk_alloc ?_ _)); exact BK294.out⟩, ⟨by repeat (first | (with_reducible first | exact HI286.out | apply IsS94.alloc | apply IsS94.drewN | apply IsS94.drew | apply IsS94.set_0 | apply IsS94.set_1) | refine IsS94.farT ?_ NB286_287.out (by first | ((repeat apply not_rows_set); exact not_rows_of BK287.out (by decide)) | ((repeat apply not_bytes_set); exact not_bytes_of BK287.out (by decide))) _ | refine IsS94.farT ?_ NB286_294.out (by first | ((repeat apply not_rows_set); exact not_rows_of BK294.out (by decide)) | ((repeat apply not_bytes_set); exact not_bytes_of BK294.out (by decide))) _ | refine IsS94.farT ?_ NB286_311.out (by first | ((repeat apply not_rows_set); exact not_rows_of BK311.out (by decide)) | ((repeat apply not_bytes_set); exact not_bytes_of BK311.out (by decide))) _ | exact HI286.out)⟩, ⟨by repeat (first | (with_reducible first | exact HB.out | apply below_alloc | apply pw_below_drewN | apply below_drew1 | refine below_set ?_ (IsS94.ge HI286.out) | refine below_set ?_ GE287.out | refine below_set ?_ GE294.out | refine below_set ?_ GE311.out) | exact HB.out)⟩⟩
                      · replace c45 := Bool.eq_false_iff.mpr c45
                        subst c45
                        have H1 : (some false) = some r := by rw [if_neg (show ¬ (false = true) by decide)] at H; exact H
                        clear H
                        have H := H1
                        clear H1
                        obtain rfl := Option.some.inj H
                        exact absurd hr_.out (by simp)
                    · rw [if_neg c41] at H
                      have c41b0 : (((rd_T73 l1 x7_2).f0) == 1) = false := beq_eq_false_iff_ne.mpr c41
                      have c41b1 : (((rd_T73 l1 x7_2).f0) != 1) = true := bne_iff_ne.mpr c41
                      by_cases c65 : ((rd_T73 l1 x7_2).f0) = 2
                      · rw [if_pos c65] at H
                        have c65b0 : (((rd_T73 l1 x7_2).f0) == 2) = true := beq_iff_eq.mpr c65
                        have c65b1 : (((rd_T73 l1 x7_2).f0) != 2) = false := bne_eq_false_iff_eq.mpr c65
                        clear c65
                        replace H := Option.bind_eq_some_iff.mp H
                        obtain ⟨⟨t318, t321, t322⟩, A660, H⟩ := H
                        replace H : ((octet_Reader_Text.f k2 x287000_2 x287001_2 ((rd_T73 l1 x7_2).f1) ((rd_T73 l1 x7_2).f2)).bind fun bt326 => ((deedboxref01_Same.f k2 bt326.1 t322).bind fun t331 => (if t331 = true then (deedboxlaw01_OctetReads.j2 k2 l1 x7_2 bt326.2.1 bt326.2.2 t318 t321) else (some false)))) = some r := H
                        have A66 := Aside0.mk A660
                        clear A660
                        replace H := Option.bind_eq_some_iff.mp H
                        obtain ⟨⟨t326, t329, t330⟩, A670, H⟩ := H
                        replace H : ((deedboxref01_Same.f k2 t326 t322).bind fun t331 => (if t331 = true then (deedboxlaw01_OctetReads.j2 k2 l1 x7_2 t329 t330 t318 t321) else (some false))) = some r := H
                        have A67 := Aside0.mk A670
                        clear A670
                        replace H := Option.bind_eq_some_iff.mp H
                        obtain ⟨t331, A680, H⟩ := H
                        replace H : (if t331 = true then (deedboxlaw01_OctetReads.j2 k2 l1 x7_2 t329 t330 t318 t321) else (some false)) = some r := H
                        have A68 := Aside0.mk A680
                        clear A680
                        by_cases c69 : t331 = true
                        · subst c69
                          have H1 : (deedboxlaw01_OctetReads.j2 k2 l1 x7_2 t329 t330 t318 t321) = some r := by rw [if_pos rfl] at H; exact H
                          clear H
                          have H := H1
                          clear H1
                          have H' := Aside0.mk H
                          clear H
                          have hnb70 := NB287_294.out
                          have hnc70 := NB294_287.out
                          have hnb71 := NB287_286.out
                          have hnc71 := NB286_287.out
                          have hcz72_0 : w16.cell? ⟨gb287, 0, none⟩ = some (u288000) := (blk_cell BK287.out 0).trans rfl
                          have hcz72_1 : w16.cell? ⟨gb287, 1, none⟩ = some (.int .i64 x288001_2) := (blk_cell BK287.out 1).trans rfl
                          have hfz72_0 := blk_frozen BK287.out 0
                          have hfz72_1 := blk_frozen BK287.out 1
                          have hnb73 := NB294_286.out
                          have hnc73 := NB286_294.out
                          have hcz74_0 : w16.cell? ⟨gb294, 0, none⟩ = some (.int .i64 0) := (blk_cell BK294.out 0).trans rfl
                          have hcz74_1 : w16.cell? ⟨gb294, 1, none⟩ = some (.int .i64 0) := (blk_cell BK294.out 1).trans rfl
                          have hcz74_2 : w16.cell? ⟨gb294, 2, none⟩ = some (.int .i64 0) := (blk_cell BK294.out 2).trans rfl
                          have hfz74_0 := blk_frozen BK294.out 0
                          have hfz74_1 := blk_frozen BK294.out 1
                          have hfz74_2 := blk_frozen BK294.out 2
                          obtain ⟨Ao75, co75, eo75⟩ := Kd.V_slice HO_288000.out
                          subst eo75
                          go_wp2_with (first | ((with_reducible refine gate_callee (f := 69) rfl ?_); have n0_ : Aside0 (Kd.V (Kd.int .u8) 5 (((w16.setCell ⟨gb294, 0, none⟩ (.int .i64 ((rd_T73 l1 x7_2).f0))).setCell ⟨gb294, 1, none⟩ (.int .i64 ((rd_T73 l1 x7_2).f1))).setCell ⟨gb294, 2, none⟩ (.int .i64 ((rd_T73 l1 x7_2).f2))) w.heap.size (fun k_ => (P0_ k_ ∨ w.heap.size ≤ k_) ∧ k_ ≠ gb287 ∧ k_ ≠ g286 ∧ k_ ≠ gb294) (.slice Ao75 x288000_2.length co75) x288000_2) := ⟨by (with_reducible repeat (first | apply Kd.V_alloc | apply Kd.V_drewN | apply Kd.V_drew)); exact Kd.V_mono (Kd.V_far (p := ⟨gb294, 2, none⟩) (Kd.V_far (p := ⟨gb294, 1, none⟩) (Kd.V_far (p := ⟨gb294, 0, none⟩) (Kd.V_mono HO_288000.out (fun k_ hk => (⟨hk, hk.2⟩ : _ ∧ k_ ≠ gb294))) (fun _ hk => hk.2) (.int .i64 ((rd_T73 l1 x7_2).f0))) (fun _ hk => hk.2) (.int .i64 ((rd_T73 l1 x7_2).f1))) (fun _ hk => hk.2) (.int .i64 ((rd_T73 l1 x7_2).f2))) (fun _ hk => ⟨hk.1.1.1, ⟨hk.1.1.2.1, ⟨hk.1.1.2.2, hk.1.2⟩⟩⟩)⟩; have n1_ : Aside0 ((((w16.setCell ⟨gb294, 0, none⟩ (.int .i64 ((rd_T73 l1 x7_2).f0))).setCell ⟨gb294, 1, none⟩ (.int .i64 ((rd_T73 l1 x7_2).f1))).setCell ⟨gb294, 2, none⟩ (.int .i64 ((rd_T73 l1 x7_2).f2))).heap[gb287]? = some (.cells #[.slice Ao75 x288000_2.length co75, .int .i64 x288001_2] 71 (0, 0))) := ⟨by (with_reducible repeat (first | refine blk_drewN ?_ _ | refine blk_drew ?_ | refine blk_alloc ?_ _)); refine blk_far ?_ NB287_294.out _; (with_reducible repeat (first | refine blk_drewN ?_ _ | refine blk_drew ?_ | refine blk_alloc ?_ _)); refine blk_far ?_ NB287_294.out _; (with_reducible repeat (first | refine blk_drewN ?_ _ | refine blk_drew ?_ | refine blk_alloc ?_ _)); refine blk_far ?_ NB287_294.out _; (with_reducible repeat (first | refine blk_drewN ?_ _ | refine blk_drew ?_ | refine blk_alloc ?_ _)); exact BK287.out⟩; have n2_ : Aside0 ((((w16.setCell ⟨gb294, 0, none⟩ (.int .i64 ((rd_T73 l1 x7_2).f0))).setCell ⟨gb294, 1, none⟩ (.int .i64 ((rd_T73 l1 x7_2).f1))).setCell ⟨gb294, 2, none⟩ (.int .i64 ((rd_T73 l1 x7_2).f2))).heap[gb294]? = some (.cells #[.int .i64 ((rd_T73 l1 x7_2).f0), .int .i64 ((rd_T73 l1 x7_2).f1), .int .i64 ((rd_T73 l1 x7_2).f2)] 73 (0, 0))) := ⟨by (with_reducible repeat (first | refine blk_drewN ?_ _ | refine blk_drew ?_ | refine blk_alloc ?_ _)); refine blk_put (cs := #[.int .i64 ((rd_T73 l1 x7_2).f0), .int .i64 ((rd_T73 l1 x7_2).f1), .int .i64 0]) ?_ 2 _ rfl; (with_reducible repeat (first | refine blk_drewN ?_ _ | refine blk_drew ?_ | refine blk_alloc ?_ _)); refine blk_put (cs := #[.int .i64 ((rd_T73 l1 x7_2).f0), .int .i64 0, .int .i64 0]) ?_ 1 _ rfl; (with_reducible repeat (first | refine blk_drewN ?_ _ | refine blk_drew ?_ | refine blk_alloc ?_ _)); refine blk_put (cs := #[.int .i64 0, .int .i64 0, .int .i64 0]) ?_ 0 _ rfl; (with_reducible repeat (first | refine blk_drewN ?_ _ | refine blk_drew ?_ | refine blk_alloc ?_ _)); exact BK294.out⟩; have n3_ : Aside0 (IsS94 w (((w16.setCell ⟨gb294, 0, none⟩ (.int .i64 ((rd_T73 l1 x7_2).f0))).setCell ⟨gb294, 1, none⟩ (.int .i64 ((rd_T73 l1 x7_2).f1))).setCell ⟨gb294, 2, none⟩ (.int .i64 ((rd_T73 l1 x7_2).f2))) g286 x287000_2 x287001_2) := ⟨by repeat (first | (with_reducible first | exact HI286.out | apply IsS94.alloc | apply IsS94.drewN | apply IsS94.drew | apply IsS94.set_0 | apply IsS94.set_1) | refine IsS94.farT ?_ NB286_287.out (by first | ((repeat apply not_rows_set); exact not_rows_of BK287.out (by decide)) | ((repeat apply not_bytes_set); exact not_bytes_of BK287.out (by decide))) _ | refine IsS94.farT ?_ NB286_294.out (by first | ((repeat apply not_rows_set); exact not_rows_of BK294.out (by decide)) | ((repeat apply not_bytes_set); exact not_bytes_of BK294.out (by decide))) _ | exact HI286.out)⟩; have n4_ : Aside0 (Below w.heap.size w (((w16.setCell ⟨gb294, 0, none⟩ (.int .i64 ((rd_T73 l1 x7_2).f0))).setCell ⟨gb294, 1, none⟩ (.int .i64 ((rd_T73 l1 x7_2).f1))).setCell ⟨gb294, 2, none⟩ (.int .i64 ((rd_T73 l1 x7_2).f2)))) := ⟨by repeat (first | (with_reducible first | exact HB.out | apply below_alloc | apply pw_below_drewN | apply below_drew1 | refine below_set ?_ (IsS94.ge HI286.out) | refine below_set ?_ GE287.out | refine below_set ?_ GE294.out) | exact HB.out)⟩; (try clear HO_288000); (try clear BK287); (try clear BK294); (try clear HI286); (try clear HB); generalize (((w16.setCell ⟨gb294, 0, none⟩ (.int .i64 ((rd_T73 l1 x7_2).f0))).setCell ⟨gb294, 1, none⟩ (.int .i64 ((rd_T73 l1 x7_2).f1))).setCell ⟨gb294, 2, none⟩ (.int .i64 ((rd_T73 l1 x7_2).f2))) = w76 at n0_ n1_ n2_ n3_ n4_ ⊢; have HO_288000 := n0_; have BK287 := n1_; have BK294 := n2_; have HI286 := n3_; have HB := n4_; clear n0_ n1_ n2_ n3_ n4_; refine goesL_ (some 83) rfl rfl Try.func69 (by kernel_rfl) rfl #[.agg #[.slice Ao75 x288000_2.length co75, .int .i64 x288001_2], .int .i64 ((rd_T73 l1 x7_2).f1), .int .i64 ((rd_T73 l1 x7_2).f2)] rfl (by (try simp only [List.map_toArray, List.map_cons, List.map_nil]); first | done | rfl | (simp only [List.length_drop, List.length_take]; rfl)) ?_; (with_reducible refine (deedboxref01_Text.calls k2 (fun k_ => ((P0_ k_ ∨ w.heap.size ≤ k_) ∧ (k_ ≠ gb287 ∧ (k_ ≠ g286 ∧ k_ ≠ gb294)))) _ _ x288000_2 x288001_2 ((rd_T73 l1 x7_2).f1) ((rd_T73 l1 x7_2).f2) t318 t321 t322 _ ?side1 A66.out).mono ?_); (case side1 => exact HO_288000.out); rintro e w77 ⟨v319, v323, rfl, ho0, ho1, hb⟩; refine ⟨_, rfl, ?_⟩; have n0_ := Aside0.mk (Kd.V_below (by (with_reducible repeat (first | apply Kd.V_alloc | apply Kd.V_drewN | apply Kd.V_drew)); exact HO_288000.out) hb); have n1_ := Aside0.mk (Kd.V_lower (Kd.V_mono (ok' := fun k_ => (P0_ k_ ∨ w.heap.size ≤ k_) ∧ k_ ≠ gb287 ∧ k_ ≠ gb294 ∧ k_ ≠ g286) ho0 (fun k_ hk_ => ⟨Or.elim hk_ (fun hs_ => hs_.1) (fun hn_ => (.inr (Nat.le_trans (below_size (by repeat (first | (with_reducible first | exact HB.out | apply below_alloc | apply pw_below_drewN | apply below_drew1 | refine below_set ?_ (IsS94.ge HI286.out) | refine below_set ?_ GE287.out | refine below_set ?_ GE294.out) | exact HB.out))) hn_))), Or.elim hk_ (fun hs_ => hs_.2.1) (fun hn_ => (Kd.freshB (g := gb287) (o := .cells #[.slice Ao75 x288000_2.length co75, .int .i64 x288001_2] 71 (0, 0)) (by (with_reducible repeat (first | refine blk_drewN ?_ _ | refine blk_drew ?_ | refine blk_alloc ?_ _)); exact BK287.out) k_ hn_)), Or.elim hk_ (fun hs_ => hs_.2.2.2) (fun hn_ => (Kd.freshB (g := gb294) (o := .cells #[.int .i64 ((rd_T73 l1 x7_2).f0), .int .i64 ((rd_T73 l1 x7_2).f1), .int .i64 ((rd_T73 l1 x7_2).f2)] 73 (0, 0)) (by (with_reducible repeat (first | refine blk_drewN ?_ _ | refine blk_drew ?_ | refine blk_alloc ?_ _)); exact BK294.out) k_ hn_)), Or.elim hk_ (fun hs_ => hs_.2.2.1) (fun hn_ => (IsS94.fresh (by repeat (first | (with_reducible first | exact HI286.out | apply IsS94.alloc | apply IsS94.drewN | apply IsS94.drew | apply IsS94.set_0 | apply IsS94.set_1) | refine IsS94.farT ?_ NB286_287.out (by first | ((repeat apply not_rows_set); exact not_rows_of BK287.out (by decide)) | ((repeat apply not_bytes_set); exact not_bytes_of BK287.out (by decide))) _ | refine IsS94.farT ?_ NB286_294.out (by first | ((repeat apply not_rows_set); exact not_rows_of BK294.out (by decide)) | ((repeat apply not_bytes_set); exact not_bytes_of BK294.out (by decide))) _ | exact HI286.out)) k_ hn_))⟩)) (below_size (by repeat (first | (with_reducible first | exact HB.out | apply below_alloc | apply pw_below_drewN | apply below_drew1 | refine below_set ?_ (IsS94.ge HI286.out) | refine below_set ?_ GE287.out | refine below_set ?_ GE294.out) | exact HB.out)))); have n2_ := Aside0.mk (Kd.V_lower (Kd.V_mono (ok' := fun k_ => (P0_ k_ ∨ w.heap.size ≤ k_) ∧ k_ ≠ gb287 ∧ k_ ≠ gb294 ∧ k_ ≠ g286) ho1 (fun k_ hk_ => ⟨Or.elim hk_ (fun hs_ => hs_.1) (fun hn_ => (.inr (Nat.le_trans (below_size (by repeat (first | (with_reducible first | exact HB.out | apply below_alloc | apply pw_below_drewN | apply below_drew1 | refine below_set ?_ (IsS94.ge HI286.out) | refine below_set ?_ GE287.out | refine below_set ?_ GE294.out) | exact HB.out))) hn_))), Or.elim hk_ (fun hs_ => hs_.2.1) (fun hn_ => (Kd.freshB (g := gb287) (o := .cells #[.slice Ao75 x288000_2.length co75, .int .i64 x288001_2] 71 (0, 0)) (by (with_reducible repeat (first | refine blk_drewN ?_ _ | refine blk_drew ?_ | refine blk_alloc ?_ _)); exact BK287.out) k_ hn_)), Or.elim hk_ (fun hs_ => hs_.2.2.2) (fun hn_ => (Kd.freshB (g := gb294) (o := .cells #[.int .i64 ((rd_T73 l1 x7_2).f0), .int .i64 ((rd_T73 l1 x7_2).f1), .int .i64 ((rd_T73 l1 x7_2).f2)] 73 (0, 0)) (by (with_reducible repeat (first | refine blk_drewN ?_ _ | refine blk_drew ?_ | refine blk_alloc ?_ _)); exact BK294.out) k_ hn_)), Or.elim hk_ (fun hs_ => hs_.2.2.1) (fun hn_ => (IsS94.fresh (by repeat (first | (with_reducible first | exact HI286.out | apply IsS94.alloc | apply IsS94.drewN | apply IsS94.drew | apply IsS94.set_0 | apply IsS94.set_1) | refine IsS94.farT ?_ NB286_287.out (by first | ((repeat apply not_rows_set); exact not_rows_of BK287.out (by decide)) | ((repeat apply not_bytes_set); exact not_bytes_of BK287.out (by decide))) _ | refine IsS94.farT ?_ NB286_294.out (by first | ((repeat apply not_rows_set); exact not_rows_of BK294.out (by decide)) | ((repeat apply not_bytes_set); exact not_bytes_of BK294.out (by decide))) _ | exact HI286.out)) k_ hn_))⟩)) (below_size (by repeat (first | (with_reducible first | exact HB.out | apply below_alloc | apply pw_below_drewN | apply below_drew1 | refine below_set ?_ (IsS94.ge HI286.out) | refine below_set ?_ GE287.out | refine below_set ?_ GE294.out) | exact HB.out)))); have n3_ := Aside0.mk (blk_below (g := gb287) (o := .cells #[.slice Ao75 x288000_2.length co75, .int .i64 x288001_2] 71 (0, 0)) (by (with_reducible repeat (first | refine blk_drewN ?_ _ | refine blk_drew ?_ | refine blk_alloc ?_ _)); exact BK287.out) hb); have n4_ := Aside0.mk (IsS94.below (by repeat (first | (with_reducible first | exact HI286.out | apply IsS94.alloc | apply IsS94.drewN | apply IsS94.drew | apply IsS94.set_0 | apply IsS94.set_1) | refine IsS94.farT ?_ NB286_287.out (by first | ((repeat apply not_rows_set); exact not_rows_of BK287.out (by decide)) | ((repeat apply not_bytes_set); exact not_bytes_of BK287.out (by decide))) _ | refine IsS94.farT ?_ NB286_294.out (by first | ((repeat apply not_rows_set); exact not_rows_of BK294.out (by decide)) | ((repeat apply not_bytes_set); exact not_bytes_of BK294.out (by decide))) _ | exact HI286.out)) hb); have n5_ := Aside0.mk (blk_below (g := gb294) (o := .cells #[.int .i64 ((rd_T73 l1 x7_2).f0), .int .i64 ((rd_T73 l1 x7_2).f1), .int .i64 ((rd_T73 l1 x7_2).f2)] 73 (0, 0)) (by (with_reducible repeat (first | refine blk_drewN ?_ _ | refine blk_drew ?_ | refine blk_alloc ?_ _)); exact BK294.out) hb); have n6_ := Aside0.mk (below_step (by repeat (first | (with_reducible first | exact HB.out | apply below_alloc | apply pw_below_drewN | apply below_drew1 | refine below_set ?_ (IsS94.ge HI286.out) | refine below_set ?_ GE287.out | refine below_set ?_ GE294.out) | exact HB.out)) hb); clear HO_288000; clear BK287; clear HI286; clear BK294; clear HB; have HO_288000 := n0_; have HO320 := n1_; have HO324 := n2_; have BK287 := n3_; have HI286 := n4_; have BK294 := n5_; have HB := n6_; clear n0_ n1_ n2_ n3_ n4_ n5_ n6_; (try clear hb); (try clear hb2); (try clear hk); (try clear hi); (try clear ho0); (try clear ho1)) | ((with_reducible refine gate_dst (N := 13) rfl ?_); (try (refine gate_guard (by rfl) ?_; dsimp only)); refine box_event ?hg (N := 13) ?hd (cs := #[.slice none 0 0, .int .i64 0]) (t := 71) ?hr ?_; (case hd => rfl); (case hg => rfl); (case hr => first | (go_simp; done) | (go_simp; rfl)); intro gb325 hg w78 hbox hb; have n0_ := Aside0.mk (Kd.V_below (Kd.V_elderB (by (with_reducible repeat (first | apply Kd.V_alloc | apply Kd.V_drewN | apply Kd.V_drew)); exact HO_288000.out) gb325 (Nat.le_of_eq hg.symm)) hb); have n1_ := Aside0.mk (Kd.V_below (Kd.V_elderB (by (with_reducible repeat (first | apply Kd.V_alloc | apply Kd.V_drewN | apply Kd.V_drew)); exact HO320.out) gb325 (Nat.le_of_eq hg.symm)) hb); have n2_ := Aside0.mk (Kd.V_below (Kd.V_elderB (by (with_reducible repeat (first | apply Kd.V_alloc | apply Kd.V_drewN | apply Kd.V_drew)); exact HO324.out) gb325 (Nat.le_of_eq hg.symm)) hb); have n3_ := Aside0.mk (blk_below (g := gb287) (o := .cells #[.slice Ao75 x288000_2.length co75, .int .i64 x288001_2] 71 (0, 0)) (by (with_reducible repeat (first | refine blk_drewN ?_ _ | refine blk_drew ?_ | refine blk_alloc ?_ _)); exact BK287.out) hb); have n4_ := Aside0.mk (IsS94.below (by repeat (first | (with_reducible first | exact HI286.out | apply IsS94.alloc | apply IsS94.drewN | apply IsS94.drew | apply IsS94.set_0 | apply IsS94.set_1) | refine IsS94.farT ?_ NB286_287.out (by first | ((repeat apply not_rows_set); exact not_rows_of BK287.out (by decide)) | ((repeat apply not_bytes_set); exact not_bytes_of BK287.out (by decide))) _ | refine IsS94.farT ?_ NB286_294.out (by first | ((repeat apply not_rows_set); exact not_rows_of BK294.out (by decide)) | ((repeat apply not_bytes_set); exact not_bytes_of BK294.out (by decide))) _ | exact HI286.out)) hb); have n5_ := Aside0.mk (blk_below (g := gb294) (o := .cells #[.int .i64 ((rd_T73 l1 x7_2).f0), .int .i64 ((rd_T73 l1 x7_2).f1), .int .i64 ((rd_T73 l1 x7_2).f2)] 73 (0, 0)) (by (with_reducible repeat (first | refine blk_drewN ?_ _ | refine blk_drew ?_ | refine blk_alloc ?_ _)); exact BK294.out) hb); have n6_ := Aside0.mk (below_step (by repeat (first | (with_reducible first | exact HB.out | apply below_alloc | apply pw_below_drewN | apply below_drew1 | refine below_set ?_ (IsS94.ge HI286.out) | refine below_set ?_ GE287.out | refine below_set ?_ GE294.out) | exact HB.out)) hb); have n7_ := Aside0.mk (hbox); have n8_ := Aside0.mk ((by rw [hg]; exact (below_size (by repeat (first | (with_reducible first | exact HB.out | apply below_alloc | apply pw_below_drewN | apply below_drew1 | refine below_set ?_ (IsS94.ge HI286.out) | refine below_set ?_ GE287.out | refine below_set ?_ GE294.out) | exact HB.out))) : w.heap.size ≤ gb325)); have n9_ := Aside0.mk ((by rw [hg]; exact (below_size (by repeat (first | (with_reducible first | exact HB.out | apply below_alloc | apply pw_below_drewN | apply below_drew1 | refine below_set ?_ (IsS94.ge HI286.out) | refine below_set ?_ GE287.out | refine below_set ?_ GE294.out) | exact HB.out))) : w.heap.size ≤ gb325)); have n10_ := Aside0.mk ((by rw [hg]; exact Nat.ne_of_lt (blk_lt (g := gb287) (o := .cells #[.slice Ao75 x288000_2.length co75, .int .i64 x288001_2] 71 (0, 0)) (by (with_reducible repeat (first | refine blk_drewN ?_ _ | refine blk_drew ?_ | refine blk_alloc ?_ _)); exact BK287.out)) : gb287 ≠ gb325)); have n11_ := Aside0.mk ((by rw [hg]; exact Nat.ne_of_gt (blk_lt (g := gb287) (o := .cells #[.slice Ao75 x288000_2.length co75, .int .i64 x288001_2] 71 (0, 0)) (by (with_reducible repeat (first | refine blk_drewN ?_ _ | refine blk_drew ?_ | refine blk_alloc ?_ _)); exact BK287.out)) : gb325 ≠ gb287)); have n12_ := Aside0.mk ((by rw [hg]; exact Nat.ne_of_lt (blk_lt (g := gb294) (o := .cells #[.int .i64 ((rd_T73 l1 x7_2).f0), .int .i64 ((rd_T73 l1 x7_2).f1), .int .i64 ((rd_T73 l1 x7_2).f2)] 73 (0, 0)) (by (with_reducible repeat (first | refine blk_drewN ?_ _ | refine blk_drew ?_ | refine blk_alloc ?_ _)); exact BK294.out)) : gb294 ≠ gb325)); have n13_ := Aside0.mk ((by rw [hg]; exact Nat.ne_of_gt (blk_lt (g := gb294) (o := .cells #[.int .i64 ((rd_T73 l1 x7_2).f0), .int .i64 ((rd_T73 l1 x7_2).f1), .int .i64 ((rd_T73 l1 x7_2).f2)] 73 (0, 0)) (by (with_reducible repeat (first | refine blk_drewN ?_ _ | refine blk_drew ?_ | refine blk_alloc ?_ _)); exact BK294.out)) : gb325 ≠ gb294)); have n14_ := Aside0.mk ((by rw [hg]; exact Nat.ne_of_lt (IsS94.lt (show IsS94 w _ g286 x287000_2 x287001_2 from by repeat (first | (with_reducible first | exact HI286.out | apply IsS94.alloc | apply IsS94.drewN | apply IsS94.drew | apply IsS94.set_0 | apply IsS94.set_1) | refine IsS94.farT ?_ NB286_287.out (by first | ((repeat apply not_rows_set); exact not_rows_of BK287.out (by decide)) | ((repeat apply not_bytes_set); exact not_bytes_of BK287.out (by decide))) _ | refine IsS94.farT ?_ NB286_294.out (by first | ((repeat apply not_rows_set); exact not_rows_of BK294.out (by decide)) | ((repeat apply not_bytes_set); exact not_bytes_of BK294.out (by decide))) _ | exact HI286.out))) : g286 ≠ gb325)); have n15_ := Aside0.mk ((by rw [hg]; exact Nat.ne_of_gt (IsS94.lt (show IsS94 w _ g286 x287000_2 x287001_2 from by repeat (first | (with_reducible first | exact HI286.out | apply IsS94.alloc | apply IsS94.drewN | apply IsS94.drew | apply IsS94.set_0 | apply IsS94.set_1) | refine IsS94.farT ?_ NB286_287.out (by first | ((repeat apply not_rows_set); exact not_rows_of BK287.out (by decide)) | ((repeat apply not_bytes_set); exact not_bytes_of BK287.out (by decide))) _ | refine IsS94.farT ?_ NB286_294.out (by first | ((repeat apply not_rows_set); exact not_rows_of BK294.out (by decide)) | ((repeat apply not_bytes_set); exact not_bytes_of BK294.out (by decide))) _ | exact HI286.out))) : gb325 ≠ g286)); clear HO_288000; clear HO320; clear HO324; clear BK287; clear HI286; clear BK294; clear HB; have HO_288000 := n0_; have HO320 := n1_; have HO324 := n2_; have BK287 := n3_; have HI286 := n4_; have BK294 := n5_; have HB := n6_; have BK325 := n7_; have GW325 := n8_; have GE325 := n9_; have NB287_325 := n10_; have NB325_287 := n11_; have NB294_325 := n12_; have NB325_294 := n13_; have NB286_325 := n14_; have NB325_286 := n15_; clear n0_ n1_ n2_ n3_ n4_ n5_ n6_ n7_ n8_ n9_ n10_ n11_ n12_ n13_ n14_ n15_; clear hb hbox hg; obtain ⟨Ao79, co79, eo79⟩ := Kd.V_slice HO320.out; subst eo79; have hnb80 := NB325_287.out; have hnc80 := NB287_325.out; have hnb81 := NB325_294.out; have hnc81 := NB294_325.out; have hnb82 := NB325_286.out; have hnc82 := NB286_325.out; have hcz83_0 : w78.cell? ⟨gb325, 0, none⟩ = some (.slice none 0 0) := (blk_cell BK325.out 0).trans rfl; have hcz83_1 : w78.cell? ⟨gb325, 1, none⟩ = some (.int .i64 0) := (blk_cell BK325.out 1).trans rfl; have hfz83_0 := blk_frozen BK325.out 0; have hfz83_1 := blk_frozen BK325.out 1; have hcz84_0 : w78.cell? ⟨gb287, 0, none⟩ = some (.slice Ao75 x288000_2.length co75) := (blk_cell BK287.out 0).trans rfl; have hcz84_1 : w78.cell? ⟨gb287, 1, none⟩ = some (.int .i64 x288001_2) := (blk_cell BK287.out 1).trans rfl; have hfz84_0 := blk_frozen BK287.out 0; have hfz84_1 := blk_frozen BK287.out 1; have hcz85_0 : w78.cell? ⟨gb294, 0, none⟩ = some (.int .i64 ((rd_T73 l1 x7_2).f0)) := (blk_cell BK294.out 0).trans rfl; have hcz85_1 : w78.cell? ⟨gb294, 1, none⟩ = some (.int .i64 ((rd_T73 l1 x7_2).f1)) := (blk_cell BK294.out 1).trans rfl; have hcz85_2 : w78.cell? ⟨gb294, 2, none⟩ = some (.int .i64 ((rd_T73 l1 x7_2).f2)) := (blk_cell BK294.out 2).trans rfl; have hfz85_0 := blk_frozen BK294.out 0; have hfz85_1 := blk_frozen BK294.out 1; have hfz85_2 := blk_frozen BK294.out 2) | ((with_reducible refine gate_callee (f := 70) rfl ?_); refine goesL_ (some 92) rfl rfl Try.func70 (by kernel_rfl) rfl #[.pointer (some ⟨g286, 0, none⟩), .int .i64 ((rd_T73 l1 x7_2).f1), .int .i64 ((rd_T73 l1 x7_2).f2)] rfl (by (try simp only [List.map_toArray, List.map_cons, List.map_nil]); first | done | rfl | (simp only [List.length_drop, List.length_take]; rfl)) ?_; (with_reducible refine (octet_Reader_Text.calls k2 g286 x287000_2 x287001_2 ((rd_T73 l1 x7_2).f1) ((rd_T73 l1 x7_2).f2) t326 t329 t330 w _ ?side1 ?side2 A67.out).mono ?_); (case side1 => repeat (first | (with_reducible first | exact HI286.out | apply IsS94.alloc | apply IsS94.drewN | apply IsS94.drew | apply IsS94.set_0 | apply IsS94.set_1) | refine IsS94.farT ?_ NB286_287.out (by first | ((repeat apply not_rows_set); exact not_rows_of BK287.out (by decide)) | ((repeat apply not_bytes_set); exact not_bytes_of BK287.out (by decide))) _ | refine IsS94.farT ?_ NB286_294.out (by first | ((repeat apply not_rows_set); exact not_rows_of BK294.out (by decide)) | ((repeat apply not_bytes_set); exact not_bytes_of BK294.out (by decide))) _ | refine IsS94.farT ?_ NB286_325.out (by first | ((repeat apply not_rows_set); exact not_rows_of BK325.out (by decide)) | ((repeat apply not_bytes_set); exact not_bytes_of BK325.out (by decide))) _ | exact HI286.out)); (case side2 => repeat (first | (with_reducible first | exact HB.out | apply below_alloc | apply pw_below_drewN | apply below_drew1 | refine below_set ?_ (IsS94.ge HI286.out) | refine below_set ?_ GE287.out | refine below_set ?_ GE294.out | refine below_set ?_ GE325.out) | exact HB.out)); rintro e w86 ⟨v327, rfl, ho0, hi, hb, hk⟩; refine ⟨_, rfl, ?_⟩; have n0_ := Aside0.mk (Kd.V_mono (Kd.V_told (Kd.V_oldK (Kd.V_mono (ok := fun k_ => ((((P0_ k_ ∨ w.heap.size ≤ k_)) ∧ (k_ ≠ gb287 ∧ (k_ ≠ g286 ∧ k_ ≠ gb294))) ∧ k_ ≠ gb325)) (by (with_reducible repeat (first | apply Kd.V_alloc | apply Kd.V_drewN | apply Kd.V_drew)); exact (Kd.V_mono (Kd.V_mono (Kd.V_far (p := ⟨gb287, 1, none⟩) (Kd.V_far (p := ⟨gb287, 0, none⟩) (Kd.V_far (p := ⟨gb325, 1, none⟩) (Kd.V_far (p := ⟨gb325, 0, none⟩) (Kd.V_mono (Kd.V_mono HO_288000.out (fun k_ hk => (⟨hk, hk.2⟩ : _ ∧ k_ ≠ gb325))) (fun k_ hk => (⟨hk, hk.1.1.2.1⟩ : _ ∧ k_ ≠ gb287))) (fun _ hk => hk.1.2) (.slice Ao79 t318.length co79)) (fun _ hk => hk.1.2) (.int .i64 t321)) (fun _ hk => hk.2) (.slice Ao79 t318.length co79)) (fun _ hk => hk.2) (.int .i64 t321)) (fun _ h_ => h_.1)) (fun _ h_ => h_.1))) (fun k_ hk_ => (⟨hk_, hk_.1.2.2.1⟩ : _ ∧ k_ ≠ g286))) hk) (Kd.R_base ho0)) (fun _ h_ => h_.1)); have n1_ := Aside0.mk (KeepBut.blk hk (g' := gb287) (o := .cells #[.slice Ao79 t318.length co79, .int .i64 t321] 71 (0, 0)) (by (with_reducible repeat (first | refine blk_drewN ?_ _ | refine blk_drew ?_ | refine blk_alloc ?_ _)); refine blk_put (cs := #[.slice Ao79 t318.length co79, .int .i64 x288001_2]) ?_ 1 _ rfl; (with_reducible repeat (first | refine blk_drewN ?_ _ | refine blk_drew ?_ | refine blk_alloc ?_ _)); refine blk_put (cs := #[.slice Ao75 x288000_2.length co75, .int .i64 x288001_2]) ?_ 0 _ rfl; (with_reducible repeat (first | refine blk_drewN ?_ _ | refine blk_drew ?_ | refine blk_alloc ?_ _)); refine blk_far ?_ NB287_325.out _; (with_reducible repeat (first | refine blk_drewN ?_ _ | refine blk_drew ?_ | refine blk_alloc ?_ _)); refine blk_far ?_ NB287_325.out _; (with_reducible repeat (first | refine blk_drewN ?_ _ | refine blk_drew ?_ | refine blk_alloc ?_ _)); exact BK287.out) NB287_286.out (by simp)); have n2_ := Aside0.mk (KeepBut.blk hk (g' := gb294) (o := .cells #[.int .i64 ((rd_T73 l1 x7_2).f0), .int .i64 ((rd_T73 l1 x7_2).f1), .int .i64 ((rd_T73 l1 x7_2).f2)] 73 (0, 0)) (by (with_reducible repeat (first | refine blk_drewN ?_ _ | refine blk_drew ?_ | refine blk_alloc ?_ _)); refine blk_far ?_ NB294_287.out _; (with_reducible repeat (first | refine blk_drewN ?_ _ | refine blk_drew ?_ | refine blk_alloc ?_ _)); refine blk_far ?_ NB294_287.out _; (with_reducible repeat (first | refine blk_drewN ?_ _ | refine blk_drew ?_ | refine blk_alloc ?_ _)); refine blk_far ?_ NB294_325.out _; (with_reducible repeat (first | refine blk_drewN ?_ _ | refine blk_drew ?_ | refine blk_alloc ?_ _)); refine blk_far ?_ NB294_325.out _; (with_reducible repeat (first | refine blk_drewN ?_ _ | refine blk_drew ?_ | refine blk_alloc ?_ _)); exact BK294.out) NB294_286.out (by simp)); have n3_ := Aside0.mk (Kd.V_mono (Kd.V_told (Kd.V_oldK (Kd.V_mono (ok := fun k_ => ((((P0_ k_ ∨ w.heap.size ≤ k_)) ∧ (k_ ≠ gb287 ∧ (k_ ≠ gb294 ∧ k_ ≠ g286))) ∧ k_ ≠ gb325)) (by (with_reducible repeat (first | apply Kd.V_alloc | apply Kd.V_drewN | apply Kd.V_drew)); exact (Kd.V_mono (Kd.V_mono (Kd.V_far (p := ⟨gb287, 1, none⟩) (Kd.V_far (p := ⟨gb287, 0, none⟩) (Kd.V_far (p := ⟨gb325, 1, none⟩) (Kd.V_far (p := ⟨gb325, 0, none⟩) (Kd.V_mono (Kd.V_mono HO320.out (fun k_ hk => (⟨hk, hk.2⟩ : _ ∧ k_ ≠ gb325))) (fun k_ hk => (⟨hk, hk.1.1.2.1⟩ : _ ∧ k_ ≠ gb287))) (fun _ hk => hk.1.2) (.slice Ao79 t318.length co79)) (fun _ hk => hk.1.2) (.int .i64 t321)) (fun _ hk => hk.2) (.slice Ao79 t318.length co79)) (fun _ hk => hk.2) (.int .i64 t321)) (fun _ h_ => h_.1)) (fun _ h_ => h_.1))) (fun k_ hk_ => (⟨hk_, hk_.1.2.2.2⟩ : _ ∧ k_ ≠ g286))) hk) (Kd.R_base ho0)) (fun _ h_ => h_.1)); have n4_ := Aside0.mk (Kd.V_mono (Kd.V_told (Kd.V_oldK (Kd.V_mono (ok := fun k_ => ((((P0_ k_ ∨ w.heap.size ≤ k_)) ∧ (k_ ≠ gb287 ∧ (k_ ≠ gb294 ∧ k_ ≠ g286))) ∧ k_ ≠ gb325)) (by (with_reducible repeat (first | apply Kd.V_alloc | apply Kd.V_drewN | apply Kd.V_drew)); exact (Kd.V_mono (Kd.V_mono (Kd.V_far (p := ⟨gb287, 1, none⟩) (Kd.V_far (p := ⟨gb287, 0, none⟩) (Kd.V_far (p := ⟨gb325, 1, none⟩) (Kd.V_far (p := ⟨gb325, 0, none⟩) (Kd.V_mono (Kd.V_mono HO324.out (fun k_ hk => (⟨hk, hk.2⟩ : _ ∧ k_ ≠ gb325))) (fun k_ hk => (⟨hk, hk.1.1.2.1⟩ : _ ∧ k_ ≠ gb287))) (fun _ hk => hk.1.2) (.slice Ao79 t318.length co79)) (fun _ hk => hk.1.2) (.int .i64 t321)) (fun _ hk => hk.2) (.slice Ao79 t318.length co79)) (fun _ hk => hk.2) (.int .i64 t321)) (fun _ h_ => h_.1)) (fun _ h_ => h_.1))) (fun k_ hk_ => (⟨hk_, hk_.1.2.2.2⟩ : _ ∧ k_ ≠ g286))) hk) (Kd.R_base ho0)) (fun _ h_ => h_.1)); have n5_ := Aside0.mk (KeepBut.blk hk (g' := gb325) (o := .cells #[.slice Ao79 t318.length co79, .int .i64 t321] 71 (0, 0)) (by (with_reducible repeat (first | refine blk_drewN ?_ _ | refine blk_drew ?_ | refine blk_alloc ?_ _)); refine blk_far ?_ NB325_287.out _; (with_reducible repeat (first | refine blk_drewN ?_ _ | refine blk_drew ?_ | refine blk_alloc ?_ _)); refine blk_far ?_ NB325_287.out _; (with_reducible repeat (first | refine blk_drewN ?_ _ | refine blk_drew ?_ | refine blk_alloc ?_ _)); refine blk_put (cs := #[.slice Ao79 t318.length co79, .int .i64 0]) ?_ 1 _ rfl; (with_reducible repeat (first | refine blk_drewN ?_ _ | refine blk_drew ?_ | refine blk_alloc ?_ _)); refine blk_put (cs := #[.slice none 0 0, .int .i64 0]) ?_ 0 _ rfl; (with_reducible repeat (first | refine blk_drewN ?_ _ | refine blk_drew ?_ | refine blk_alloc ?_ _)); exact BK325.out) NB325_286.out (by simp)); have n6_ := Aside0.mk (Kd.R_lower (Kd.R_newM (M := fun k_ => (w.heap.size ≤ k_)) ho0 (below_size (by repeat (first | (with_reducible first | exact HB.out | apply below_alloc | apply pw_below_drewN | apply below_drew1 | refine below_set ?_ (IsS94.ge HI286.out) | refine below_set ?_ GE287.out | refine below_set ?_ GE294.out | refine below_set ?_ GE325.out) | exact HB.out))) (fun k_ h_ => h_)) (below_size (by repeat (first | (with_reducible first | exact HB.out | apply below_alloc | apply pw_below_drewN | apply below_drew1 | refine below_set ?_ (IsS94.ge HI286.out) | refine below_set ?_ GE287.out | refine below_set ?_ GE294.out | refine below_set ?_ GE325.out) | exact HB.out)))); have n7_ := Aside0.mk (hb); have n8_ := Aside0.mk (hi); clear HO_288000; clear BK287; clear BK294; clear HO320; clear HO324; clear BK325; clear HB; clear HI286; have HO_288000 := n0_; have BK287 := n1_; have BK294 := n2_; have HO320 := n3_; have HO324 := n4_; have BK325 := n5_; have HO328 := n6_; have HB := n7_; have HI286 := n8_; clear n0_ n1_ n2_ n3_ n4_ n5_ n6_ n7_ n8_; (try clear hb); (try clear hb2); (try clear hk); (try clear hi); (try clear ho0); obtain ⟨Ao87, co87, eo87⟩ := Kd.R_slice HO328.out; subst eo87; obtain ⟨Ao88, co88, eo88⟩ := Kd.V_slice HO324.out; subst eo88) | ((with_reducible refine gate_callee (f := 22) rfl ?_); refine goesL_ (some 94) rfl rfl Try.func22 (by kernel_rfl) rfl #[.slice Ao87 t326.length co87, .slice Ao88 t322.length co88] rfl (by (try simp only [List.map_toArray, List.map_cons, List.map_nil]); first | done | rfl | (simp only [List.length_drop, List.length_take]; rfl)) ?_; (with_reducible refine (deedboxref01_Same.calls k2 _ _ t326 _ _ t322 true _ ?side1 ?side2 ?side3 ?side4 A68.out).mono ?_); (case side1 => repeat (first | exact (Kd.R_reads' HO328.out).2.2 | (with_reducible refine Kd.C_alloc ?_ _) | (with_reducible refine Kd.C_drewN ?_ _) | (with_reducible refine Kd.C_drew ?_))); (case side2 => exact (Kd.R_reads' HO328.out).2.1); (case side3 => repeat (first | exact (Kd.V_reads' HO324.out).2.2 | (with_reducible refine Kd.C_alloc ?_ _) | (with_reducible refine Kd.C_drewN ?_ _) | (with_reducible refine Kd.C_drew ?_))); (case side4 => exact (Kd.V_reads' HO324.out).2.1); rintro e w' ⟨rfl, ⟨nd, rfl⟩⟩; refine ⟨_, rfl, ?_⟩))
                          go_meet
                          case rel => exact ⟨_, (t329), (t330), (t318), (t321), (.slice Ao79 t318.length co79), H', ⟨by have := HJ2.out; have := HK2.out; first | omega | exact Nat.le_refl _⟩, ⟨by (with_reducible repeat (first | apply Kd.V_alloc | apply Kd.V_drewN | apply Kd.V_drew)); exact Kd.V_mono HO320.out (fun _ hk => ⟨hk.1.1.1, ⟨hk.1.1.2.1, ⟨hk.1.1.2.2.1, hk.1.1.2.2.2⟩⟩⟩)⟩, ⟨by (with_reducible repeat (first | refine blk_drewN ?_ _ | refine blk_drew ?_ | refine blk_alloc ?_ _)); exact BK287.out⟩, ⟨by (with_reducible repeat (first | refine blk_drewN ?_ _ | refine blk_drew ?_ | refine blk_alloc ?_ _)); exact BK294.out⟩, ⟨by repeat (first | (with_reducible first | exact HI286.out | apply IsS94.alloc | apply IsS94.drewN | apply IsS94.drew | apply IsS94.set_0 | apply IsS94.set_1) | refine IsS94.farT ?_ NB286_287.out (by first | ((repeat apply not_rows_set); exact not_rows_of BK287.out (by decide)) | ((repeat apply not_bytes_set); exact not_bytes_of BK287.out (by decide))) _ | refine IsS94.farT ?_ NB286_294.out (by first | ((repeat apply not_rows_set); exact not_rows_of BK294.out (by decide)) | ((repeat apply not_bytes_set); exact not_bytes_of BK294.out (by decide))) _ | refine IsS94.farT ?_ NB286_325.out (by first | ((repeat apply not_rows_set); exact not_rows_of BK325.out (by decide)) | ((repeat apply not_bytes_set); exact not_bytes_of BK325.out (by decide))) _ | exact HI286.out)⟩, ⟨by repeat (first | (with_reducible first | exact HB.out | apply below_alloc | apply pw_below_drewN | apply below_drew1 | refine below_set ?_ (IsS94.ge HI286.out) | refine below_set ?_ GE287.out | refine below_set ?_ GE294.out | refine below_set ?_ GE325.out) | exact HB.out)⟩⟩
                        · replace c69 := Bool.eq_false_iff.mpr c69
                          subst c69
                          have H1 : (some false) = some r := by rw [if_neg (show ¬ (false = true) by decide)] at H; exact H
                          clear H
                          have H := H1
                          clear H1
                          obtain rfl := Option.some.inj H
                          exact absurd hr_.out (by simp)
                      · rw [if_neg c65] at H
                        have c65b0 : (((rd_T73 l1 x7_2).f0) == 2) = false := beq_eq_false_iff_ne.mpr c65
                        have c65b1 : (((rd_T73 l1 x7_2).f0) != 2) = true := bne_iff_ne.mpr c65
                        by_cases c89 : ((rd_T73 l1 x7_2).f0) = 3
                        · rw [if_pos c89] at H
                          have c89b0 : (((rd_T73 l1 x7_2).f0) == 3) = true := beq_iff_eq.mpr c89
                          have c89b1 : (((rd_T73 l1 x7_2).f0) != 3) = false := bne_eq_false_iff_eq.mpr c89
                          clear c89
                          by_cases c90 : (Int.tmod ((rd_T73 l1 x7_2).f1) 5) = 0
                          · rw [if_pos c90] at H
                            have c90b0 : ((Int.tmod ((rd_T73 l1 x7_2).f1) 5) == 0) = true := beq_iff_eq.mpr c90
                            have c90b1 : ((Int.tmod ((rd_T73 l1 x7_2).f1) 5) != 0) = false := bne_eq_false_iff_eq.mpr c90
                            clear c90
                            by_cases c91 : x288001_2 = 0
                            · rw [if_pos c91] at H
                              have c91b0 : (x288001_2 == 0) = true := beq_iff_eq.mpr c91
                              have c91b1 : (x288001_2 != 0) = false := bne_eq_false_iff_eq.mpr c91
                              clear c91
                              replace H := Option.bind_eq_some_iff.mp H
                              obtain ⟨⟨t332, t333⟩, A920, H⟩ := H
                              replace H : (deedboxlaw01_OctetReads.j2 k2 l1 x7_2 t332 t333 x288000_2 1) = some r := H
                              have A92 := Aside0.mk A920
                              clear A920
                              have H' := Aside0.mk H
                              clear H
                              have hnb93 := NB294_287.out
                              have hnc93 := NB287_294.out
                              have hnb94 := NB294_286.out
                              have hnc94 := NB286_294.out
                              have hcz95_0 : w16.cell? ⟨gb294, 0, none⟩ = some (.int .i64 0) := (blk_cell BK294.out 0).trans rfl
                              have hcz95_1 : w16.cell? ⟨gb294, 1, none⟩ = some (.int .i64 0) := (blk_cell BK294.out 1).trans rfl
                              have hcz95_2 : w16.cell? ⟨gb294, 2, none⟩ = some (.int .i64 0) := (blk_cell BK294.out 2).trans rfl
                              have hfz95_0 := blk_frozen BK294.out 0
                              have hfz95_1 := blk_frozen BK294.out 1
                              have hfz95_2 := blk_frozen BK294.out 2
                              have hnb96 := NB287_286.out
                              have hnc96 := NB286_287.out
                              have hcz97_0 : w16.cell? ⟨gb287, 0, none⟩ = some (u288000) := (blk_cell BK287.out 0).trans rfl
                              have hcz97_1 : w16.cell? ⟨gb287, 1, none⟩ = some (.int .i64 x288001_2) := (blk_cell BK287.out 1).trans rfl
                              have hfz97_0 := blk_frozen BK287.out 0
                              have hfz97_1 := blk_frozen BK287.out 1
                              go_wp2_with (first | ((with_reducible refine gate_callee (f := 71) rfl ?_); refine goesL_ (some 107) rfl rfl Try.func71 (by kernel_rfl) rfl #[.pointer (some ⟨g286, 0, none⟩), .int .i64 1] rfl (by (try simp only [List.map_toArray, List.map_cons, List.map_nil]); first | done | rfl | (simp only [List.length_drop, List.length_take]; rfl)) ?_; (with_reducible refine (octet_Reader_Fail.calls g286 x287000_2 x287001_2 1 t332 t333 w _ ?side1 ?side2 A92.out).mono ?_); (case side1 => repeat (first | (with_reducible first | exact HI286.out | apply IsS94.alloc | apply IsS94.drewN | apply IsS94.drew | apply IsS94.set_0 | apply IsS94.set_1) | refine IsS94.farT ?_ NB286_287.out (by first | ((repeat apply not_rows_set); exact not_rows_of BK287.out (by decide)) | ((repeat apply not_bytes_set); exact not_bytes_of BK287.out (by decide))) _ | refine IsS94.farT ?_ NB286_294.out (by first | ((repeat apply not_rows_set); exact not_rows_of BK294.out (by decide)) | ((repeat apply not_bytes_set); exact not_bytes_of BK294.out (by decide))) _ | exact HI286.out)); (case side2 => repeat (first | (with_reducible first | exact HB.out | apply below_alloc | apply pw_below_drewN | apply below_drew1 | refine below_set ?_ (IsS94.ge HI286.out) | refine below_set ?_ GE287.out | refine below_set ?_ GE294.out) | exact HB.out)); rintro e w98 ⟨rfl, hi, hb, hk⟩; refine ⟨_, rfl, ?_⟩; have n0_ := Aside0.mk (Kd.V_mono (Kd.V_keep (Kd.V_mono (ok := fun k_ => ((((P0_ k_ ∨ w.heap.size ≤ k_)) ∧ (k_ ≠ gb287 ∧ k_ ≠ g286)) ∧ k_ ≠ gb294)) (by (with_reducible repeat (first | apply Kd.V_alloc | apply Kd.V_drewN | apply Kd.V_drew)); exact (Kd.V_mono (Kd.V_mono (Kd.V_far (p := ⟨gb287, 1, none⟩) (Kd.V_far (p := ⟨gb294, 2, none⟩) (Kd.V_far (p := ⟨gb294, 1, none⟩) (Kd.V_far (p := ⟨gb294, 0, none⟩) (Kd.V_mono (Kd.V_mono HO_288000.out (fun k_ hk => (⟨hk, hk.2⟩ : _ ∧ k_ ≠ gb294))) (fun k_ hk => (⟨hk, hk.1.1.2.1⟩ : _ ∧ k_ ≠ gb287))) (fun _ hk => hk.1.2) (.int .i64 ((rd_T73 l1 x7_2).f0))) (fun _ hk => hk.1.2) (.int .i64 ((rd_T73 l1 x7_2).f1))) (fun _ hk => hk.1.2) (.int .i64 ((rd_T73 l1 x7_2).f2))) (fun _ hk => hk.2) (.int .i64 1)) (fun _ h_ => h_.1)) (fun _ h_ => h_.1))) (fun k_ hk_ => (⟨hk_, hk_.1.2.2⟩ : _ ∧ k_ ≠ g286))) hk (fun _ h => h.2)) (fun _ h => h.1)); have n1_ := Aside0.mk (KeepBut.blk hk (g' := gb287) (o := .cells #[u288000, .int .i64 1] 71 (0, 0)) (by (with_reducible repeat (first | refine blk_drewN ?_ _ | refine blk_drew ?_ | refine blk_alloc ?_ _)); refine blk_put (cs := #[u288000, .int .i64 x288001_2]) ?_ 1 _ rfl; (with_reducible repeat (first | refine blk_drewN ?_ _ | refine blk_drew ?_ | refine blk_alloc ?_ _)); refine blk_far ?_ NB287_294.out _; (with_reducible repeat (first | refine blk_drewN ?_ _ | refine blk_drew ?_ | refine blk_alloc ?_ _)); refine blk_far ?_ NB287_294.out _; (with_reducible repeat (first | refine blk_drewN ?_ _ | refine blk_drew ?_ | refine blk_alloc ?_ _)); refine blk_far ?_ NB287_294.out _; (with_reducible repeat (first | refine blk_drewN ?_ _ | refine blk_drew ?_ | refine blk_alloc ?_ _)); exact BK287.out) NB287_286.out (by simp)); have n2_ := Aside0.mk (KeepBut.blk hk (g' := gb294) (o := .cells #[.int .i64 ((rd_T73 l1 x7_2).f0), .int .i64 ((rd_T73 l1 x7_2).f1), .int .i64 ((rd_T73 l1 x7_2).f2)] 73 (0, 0)) (by (with_reducible repeat (first | refine blk_drewN ?_ _ | refine blk_drew ?_ | refine blk_alloc ?_ _)); refine blk_far ?_ NB294_287.out _; (with_reducible repeat (first | refine blk_drewN ?_ _ | refine blk_drew ?_ | refine blk_alloc ?_ _)); refine blk_put (cs := #[.int .i64 ((rd_T73 l1 x7_2).f0), .int .i64 ((rd_T73 l1 x7_2).f1), .int .i64 0]) ?_ 2 _ rfl; (with_reducible repeat (first | refine blk_drewN ?_ _ | refine blk_drew ?_ | refine blk_alloc ?_ _)); refine blk_put (cs := #[.int .i64 ((rd_T73 l1 x7_2).f0), .int .i64 0, .int .i64 0]) ?_ 1 _ rfl; (with_reducible repeat (first | refine blk_drewN ?_ _ | refine blk_drew ?_ | refine blk_alloc ?_ _)); refine blk_put (cs := #[.int .i64 0, .int .i64 0, .int .i64 0]) ?_ 0 _ rfl; (with_reducible repeat (first | refine blk_drewN ?_ _ | refine blk_drew ?_ | refine blk_alloc ?_ _)); exact BK294.out) NB294_286.out (by simp)); have n3_ := Aside0.mk (hb); have n4_ := Aside0.mk (hi); clear HO_288000; clear BK287; clear BK294; clear HB; clear HI286; have HO_288000 := n0_; have BK287 := n1_; have BK294 := n2_; have HB := n3_; have HI286 := n4_; clear n0_ n1_ n2_ n3_ n4_; (try clear hb); (try clear hb2); (try clear hk); (try clear hi)))
                              go_meet
                              case rel => exact ⟨_, (t332), (t333), (x288000_2), (1), (u288000), H', ⟨by have := HJ2.out; have := HK2.out; first | omega | exact Nat.le_refl _⟩, ⟨by (with_reducible repeat (first | apply Kd.V_alloc | apply Kd.V_drewN | apply Kd.V_drew)); exact Kd.V_mono HO_288000.out (fun _ hk => ⟨hk.1.1, ⟨hk.1.2.1, ⟨hk.2, hk.1.2.2⟩⟩⟩)⟩, ⟨by (with_reducible repeat (first | refine blk_drewN ?_ _ | refine blk_drew ?_ | refine blk_alloc ?_ _)); exact BK287.out⟩, ⟨by (with_reducible repeat (first | refine blk_drewN ?_ _ | refine blk_drew ?_ | refine blk_alloc ?_ _)); exact BK294.out⟩, ⟨by repeat (first | (with_reducible first | exact HI286.out | apply IsS94.alloc | apply IsS94.drewN | apply IsS94.drew | apply IsS94.set_0 | apply IsS94.set_1) | refine IsS94.farT ?_ NB286_287.out (by first | ((repeat apply not_rows_set); exact not_rows_of BK287.out (by decide)) | ((repeat apply not_bytes_set); exact not_bytes_of BK287.out (by decide))) _ | refine IsS94.farT ?_ NB286_294.out (by first | ((repeat apply not_rows_set); exact not_rows_of BK294.out (by decide)) | ((repeat apply not_bytes_set); exact not_bytes_of BK294.out (by decide))) _ | exact HI286.out)⟩, ⟨by repeat (first | (with_reducible first | exact HB.out | apply below_alloc | apply pw_below_drewN | apply below_drew1 | refine below_set ?_ (IsS94.ge HI286.out) | refine below_set ?_ GE287.out | refine below_set ?_ GE294.out) | exact HB.out)⟩⟩
                            · rw [if_neg c91] at H
                              have c91b0 : (x288001_2 == 0) = false := beq_eq_false_iff_ne.mpr c91
                              have c91b1 : (x288001_2 != 0) = true := bne_iff_ne.mpr c91
                              replace H := Option.bind_eq_some_iff.mp H
                              obtain ⟨⟨t334, t335⟩, A990, H⟩ := H
                              replace H : (deedboxlaw01_OctetReads.j2 k2 l1 x7_2 t334 t335 x288000_2 x288001_2) = some r := H
                              have A99 := Aside0.mk A990
                              clear A990
                              have H' := Aside0.mk H
                              clear H
                              have hnb100 := NB294_287.out
                              have hnc100 := NB287_294.out
                              have hnb101 := NB294_286.out
                              have hnc101 := NB286_294.out
                              have hcz102_0 : w16.cell? ⟨gb294, 0, none⟩ = some (.int .i64 0) := (blk_cell BK294.out 0).trans rfl
                              have hcz102_1 : w16.cell? ⟨gb294, 1, none⟩ = some (.int .i64 0) := (blk_cell BK294.out 1).trans rfl
                              have hcz102_2 : w16.cell? ⟨gb294, 2, none⟩ = some (.int .i64 0) := (blk_cell BK294.out 2).trans rfl
                              have hfz102_0 := blk_frozen BK294.out 0
                              have hfz102_1 := blk_frozen BK294.out 1
                              have hfz102_2 := blk_frozen BK294.out 2
                              have hnb103 := NB287_286.out
                              have hnc103 := NB286_287.out
                              have hcz104_0 : w16.cell? ⟨gb287, 0, none⟩ = some (u288000) := (blk_cell BK287.out 0).trans rfl
                              have hcz104_1 : w16.cell? ⟨gb287, 1, none⟩ = some (.int .i64 x288001_2) := (blk_cell BK287.out 1).trans rfl
                              have hfz104_0 := blk_frozen BK287.out 0
                              have hfz104_1 := blk_frozen BK287.out 1
                              go_wp2_with (first | ((with_reducible refine gate_callee (f := 71) rfl ?_); refine goesL_ (some 107) rfl rfl Try.func71 (by kernel_rfl) rfl #[.pointer (some ⟨g286, 0, none⟩), .int .i64 1] rfl (by (try simp only [List.map_toArray, List.map_cons, List.map_nil]); first | done | rfl | (simp only [List.length_drop, List.length_take]; rfl)) ?_; (with_reducible refine (octet_Reader_Fail.calls g286 x287000_2 x287001_2 1 t334 t335 w _ ?side1 ?side2 A99.out).mono ?_); (case side1 => repeat (first | (with_reducible first | exact HI286.out | apply IsS94.alloc | apply IsS94.drewN | apply IsS94.drew | apply IsS94.set_0 | apply IsS94.set_1) | refine IsS94.farT ?_ NB286_287.out (by first | ((repeat apply not_rows_set); exact not_rows_of BK287.out (by decide)) | ((repeat apply not_bytes_set); exact not_bytes_of BK287.out (by decide))) _ | refine IsS94.farT ?_ NB286_294.out (by first | ((repeat apply not_rows_set); exact not_rows_of BK294.out (by decide)) | ((repeat apply not_bytes_set); exact not_bytes_of BK294.out (by decide))) _ | exact HI286.out)); (case side2 => repeat (first | (with_reducible first | exact HB.out | apply below_alloc | apply pw_below_drewN | apply below_drew1 | refine below_set ?_ (IsS94.ge HI286.out) | refine below_set ?_ GE287.out | refine below_set ?_ GE294.out) | exact HB.out)); rintro e w105 ⟨rfl, hi, hb, hk⟩; refine ⟨_, rfl, ?_⟩; have n0_ := Aside0.mk (Kd.V_mono (Kd.V_keep (Kd.V_mono (ok := fun k_ => ((((P0_ k_ ∨ w.heap.size ≤ k_)) ∧ (k_ ≠ gb287 ∧ k_ ≠ g286)) ∧ k_ ≠ gb294)) (by (with_reducible repeat (first | apply Kd.V_alloc | apply Kd.V_drewN | apply Kd.V_drew)); exact (Kd.V_mono (Kd.V_far (p := ⟨gb294, 2, none⟩) (Kd.V_far (p := ⟨gb294, 1, none⟩) (Kd.V_far (p := ⟨gb294, 0, none⟩) (Kd.V_mono HO_288000.out (fun k_ hk => (⟨hk, hk.2⟩ : _ ∧ k_ ≠ gb294))) (fun _ hk => hk.2) (.int .i64 ((rd_T73 l1 x7_2).f0))) (fun _ hk => hk.2) (.int .i64 ((rd_T73 l1 x7_2).f1))) (fun _ hk => hk.2) (.int .i64 ((rd_T73 l1 x7_2).f2))) (fun _ h_ => h_.1))) (fun k_ hk_ => (⟨hk_, hk_.1.2.2⟩ : _ ∧ k_ ≠ g286))) hk (fun _ h => h.2)) (fun _ h => h.1)); have n1_ := Aside0.mk (KeepBut.blk hk (g' := gb287) (o := .cells #[u288000, .int .i64 x288001_2] 71 (0, 0)) (by (with_reducible repeat (first | refine blk_drewN ?_ _ | refine blk_drew ?_ | refine blk_alloc ?_ _)); refine blk_far ?_ NB287_294.out _; (with_reducible repeat (first | refine blk_drewN ?_ _ | refine blk_drew ?_ | refine blk_alloc ?_ _)); refine blk_far ?_ NB287_294.out _; (with_reducible repeat (first | refine blk_drewN ?_ _ | refine blk_drew ?_ | refine blk_alloc ?_ _)); refine blk_far ?_ NB287_294.out _; (with_reducible repeat (first | refine blk_drewN ?_ _ | refine blk_drew ?_ | refine blk_alloc ?_ _)); exact BK287.out) NB287_286.out (by simp)); have n2_ := Aside0.mk (KeepBut.blk hk (g' := gb294) (o := .cells #[.int .i64 ((rd_T73 l1 x7_2).f0), .int .i64 ((rd_T73 l1 x7_2).f1), .int .i64 ((rd_T73 l1 x7_2).f2)] 73 (0, 0)) (by (with_reducible repeat (first | refine blk_drewN ?_ _ | refine blk_drew ?_ | refine blk_alloc ?_ _)); refine blk_put (cs := #[.int .i64 ((rd_T73 l1 x7_2).f0), .int .i64 ((rd_T73 l1 x7_2).f1), .int .i64 0]) ?_ 2 _ rfl; (with_reducible repeat (first | refine blk_drewN ?_ _ | refine blk_drew ?_ | refine blk_alloc ?_ _)); refine blk_put (cs := #[.int .i64 ((rd_T73 l1 x7_2).f0), .int .i64 0, .int .i64 0]) ?_ 1 _ rfl; (with_reducible repeat (first | refine blk_drewN ?_ _ | refine blk_drew ?_ | refine blk_alloc ?_ _)); refine blk_put (cs := #[.int .i64 0, .int .i64 0, .int .i64 0]) ?_ 0 _ rfl; (with_reducible repeat (first | refine blk_drewN ?_ _ | refine blk_drew ?_ | refine blk_alloc ?_ _)); exact BK294.out) NB294_286.out (by simp)); have n3_ := Aside0.mk (hb); have n4_ := Aside0.mk (hi); clear HO_288000; clear BK287; clear BK294; clear HB; clear HI286; have HO_288000 := n0_; have BK287 := n1_; have BK294 := n2_; have HB := n3_; have HI286 := n4_; clear n0_ n1_ n2_ n3_ n4_; (try clear hb); (try clear hb2); (try clear hk); (try clear hi)))
                              go_meet
                              case rel => exact ⟨_, (t334), (t335), (x288000_2), (x288001_2), (u288000), H', ⟨by have := HJ2.out; have := HK2.out; first | omega | exact Nat.le_refl _⟩, ⟨by (with_reducible repeat (first | apply Kd.V_alloc | apply Kd.V_drewN | apply Kd.V_drew)); exact Kd.V_mono HO_288000.out (fun _ hk => ⟨hk.1.1, ⟨hk.1.2.1, ⟨hk.2, hk.1.2.2⟩⟩⟩)⟩, ⟨by (with_reducible repeat (first | refine blk_drewN ?_ _ | refine blk_drew ?_ | refine blk_alloc ?_ _)); exact BK287.out⟩, ⟨by (with_reducible repeat (first | refine blk_drewN ?_ _ | refine blk_drew ?_ | refine blk_alloc ?_ _)); exact BK294.out⟩, ⟨by repeat (first | (with_reducible first | exact HI286.out | apply IsS94.alloc | apply IsS94.drewN | apply IsS94.drew | apply IsS94.set_0 | apply IsS94.set_1) | refine IsS94.farT ?_ NB286_287.out (by first | ((repeat apply not_rows_set); exact not_rows_of BK287.out (by decide)) | ((repeat apply not_bytes_set); exact not_bytes_of BK287.out (by decide))) _ | refine IsS94.farT ?_ NB286_294.out (by first | ((repeat apply not_rows_set); exact not_rows_of BK294.out (by decide)) | ((repeat apply not_bytes_set); exact not_bytes_of BK294.out (by decide))) _ | exact HI286.out)⟩, ⟨by repeat (first | (with_reducible first | exact HB.out | apply below_alloc | apply pw_below_drewN | apply below_drew1 | refine below_set ?_ (IsS94.ge HI286.out) | refine below_set ?_ GE287.out | refine below_set ?_ GE294.out) | exact HB.out)⟩⟩
                          · rw [if_neg c90] at H
                            have c90b0 : ((Int.tmod ((rd_T73 l1 x7_2).f1) 5) == 0) = false := beq_eq_false_iff_ne.mpr c90
                            have c90b1 : ((Int.tmod ((rd_T73 l1 x7_2).f1) 5) != 0) = true := bne_iff_ne.mpr c90
                            have H' := Aside0.mk H
                            clear H
                            have hnb106 := NB294_287.out
                            have hnc106 := NB287_294.out
                            have hnb107 := NB294_286.out
                            have hnc107 := NB286_294.out
                            have hcz108_0 : w16.cell? ⟨gb294, 0, none⟩ = some (.int .i64 0) := (blk_cell BK294.out 0).trans rfl
                            have hcz108_1 : w16.cell? ⟨gb294, 1, none⟩ = some (.int .i64 0) := (blk_cell BK294.out 1).trans rfl
                            have hcz108_2 : w16.cell? ⟨gb294, 2, none⟩ = some (.int .i64 0) := (blk_cell BK294.out 2).trans rfl
                            have hfz108_0 := blk_frozen BK294.out 0
                            have hfz108_1 := blk_frozen BK294.out 1
                            have hfz108_2 := blk_frozen BK294.out 2
                            go_wp2
                            go_meet
                            case rel => exact ⟨_, (x287000_2), (x287001_2), (x288000_2), (x288001_2), (u288000), H', ⟨by have := HJ2.out; have := HK2.out; first | omega | exact Nat.le_refl _⟩, ⟨by (with_reducible repeat (first | apply Kd.V_alloc | apply Kd.V_drewN | apply Kd.V_drew)); exact Kd.V_mono (Kd.V_far (p := ⟨gb294, 2, none⟩) (Kd.V_far (p := ⟨gb294, 1, none⟩) (Kd.V_far (p := ⟨gb294, 0, none⟩) (Kd.V_mono HO_288000.out (fun k_ hk => (⟨hk, hk.2⟩ : _ ∧ k_ ≠ gb294))) (fun _ hk => hk.2) (.int .i64 ((rd_T73 l1 x7_2).f0))) (fun _ hk => hk.2) (.int .i64 ((rd_T73 l1 x7_2).f1))) (fun _ hk => hk.2) (.int .i64 ((rd_T73 l1 x7_2).f2))) (fun _ hk => ⟨hk.1.1.1, ⟨hk.1.1.2.1, ⟨hk.1.2, hk.1.1.2.2⟩⟩⟩)⟩, ⟨by (with_reducible repeat (first | refine blk_drewN ?_ _ | refine blk_drew ?_ | refine blk_alloc ?_ _)); refine blk_far ?_ NB287_294.out _; (with_reducible repeat (first | refine blk_drewN ?_ _ | refine blk_drew ?_ | refine blk_alloc ?_ _)); refine blk_far ?_ NB287_294.out _; (with_reducible repeat (first | refine blk_drewN ?_ _ | refine blk_drew ?_ | refine blk_alloc ?_ _)); refine blk_far ?_ NB287_294.out _; (with_reducible repeat (first | refine blk_drewN ?_ _ | refine blk_drew ?_ | refine blk_alloc ?_ _)); exact BK287.out⟩, ⟨by (with_reducible repeat (first | refine blk_drewN ?_ _ | refine blk_drew ?_ | refine blk_alloc ?_ _)); refine blk_put (cs := #[.int .i64 ((rd_T73 l1 x7_2).f0), .int .i64 ((rd_T73 l1 x7_2).f1), .int .i64 0]) ?_ 2 _ rfl; (with_reducible repeat (first | refine blk_drewN ?_ _ | refine blk_drew ?_ | refine blk_alloc ?_ _)); refine blk_put (cs := #[.int .i64 ((rd_T73 l1 x7_2).f0), .int .i64 0, .int .i64 0]) ?_ 1 _ rfl; (with_reducible repeat (first | refine blk_drewN ?_ _ | refine blk_drew ?_ | refine blk_alloc ?_ _)); refine blk_put (cs := #[.int .i64 0, .int .i64 0, .int .i64 0]) ?_ 0 _ rfl; (with_reducible repeat (first | refine blk_drewN ?_ _ | refine blk_drew ?_ | refine blk_alloc ?_ _)); exact BK294.out⟩, ⟨by repeat (first | (with_reducible first | exact HI286.out | apply IsS94.alloc | apply IsS94.drewN | apply IsS94.drew | apply IsS94.set_0 | apply IsS94.set_1) | refine IsS94.farT ?_ NB286_287.out (by first | ((repeat apply not_rows_set); exact not_rows_of BK287.out (by decide)) | ((repeat apply not_bytes_set); exact not_bytes_of BK287.out (by decide))) _ | refine IsS94.farT ?_ NB286_294.out (by first | ((repeat apply not_rows_set); exact not_rows_of BK294.out (by decide)) | ((repeat apply not_bytes_set); exact not_bytes_of BK294.out (by decide))) _ | exact HI286.out)⟩, ⟨by repeat (first | (with_reducible first | exact HB.out | apply below_alloc | apply pw_below_drewN | apply below_drew1 | refine below_set ?_ (IsS94.ge HI286.out) | refine below_set ?_ GE287.out | refine below_set ?_ GE294.out) | exact HB.out)⟩⟩
                        · rw [if_neg c89] at H
                          have c89b0 : (((rd_T73 l1 x7_2).f0) == 3) = false := beq_eq_false_iff_ne.mpr c89
                          have c89b1 : (((rd_T73 l1 x7_2).f0) != 3) = true := bne_iff_ne.mpr c89
                          have H' := Aside0.mk H
                          clear H
                          go_wp2
                          go_meet
                          case rel => exact ⟨_, (x287000_2), (x287001_2), (x288000_2), (x288001_2), (u288000), H', ⟨by have := HJ2.out; have := HK2.out; first | omega | exact Nat.le_refl _⟩, ⟨by (with_reducible repeat (first | apply Kd.V_alloc | apply Kd.V_drewN | apply Kd.V_drew)); exact Kd.V_mono (Kd.V_far (p := ⟨gb294, 2, none⟩) (Kd.V_far (p := ⟨gb294, 1, none⟩) (Kd.V_far (p := ⟨gb294, 0, none⟩) (Kd.V_mono HO_288000.out (fun k_ hk => (⟨hk, hk.2⟩ : _ ∧ k_ ≠ gb294))) (fun _ hk => hk.2) (.int .i64 ((rd_T73 l1 x7_2).f0))) (fun _ hk => hk.2) (.int .i64 ((rd_T73 l1 x7_2).f1))) (fun _ hk => hk.2) (.int .i64 ((rd_T73 l1 x7_2).f2))) (fun _ hk => ⟨hk.1.1.1, ⟨hk.1.1.2.1, ⟨hk.1.2, hk.1.1.2.2⟩⟩⟩)⟩, ⟨by (with_reducible repeat (first | refine blk_drewN ?_ _ | refine blk_drew ?_ | refine blk_alloc ?_ _)); refine blk_far ?_ NB287_294.out _; (with_reducible repeat (first | refine blk_drewN ?_ _ | refine blk_drew ?_ | refine blk_alloc ?_ _)); refine blk_far ?_ NB287_294.out _; (with_reducible repeat (first | refine blk_drewN ?_ _ | refine blk_drew ?_ | refine blk_alloc ?_ _)); refine blk_far ?_ NB287_294.out _; (with_reducible repeat (first | refine blk_drewN ?_ _ | refine blk_drew ?_ | refine blk_alloc ?_ _)); exact BK287.out⟩, ⟨by (with_reducible repeat (first | refine blk_drewN ?_ _ | refine blk_drew ?_ | refine blk_alloc ?_ _)); refine blk_put (cs := #[.int .i64 ((rd_T73 l1 x7_2).f0), .int .i64 ((rd_T73 l1 x7_2).f1), .int .i64 0]) ?_ 2 _ rfl; (with_reducible repeat (first | refine blk_drewN ?_ _ | refine blk_drew ?_ | refine blk_alloc ?_ _)); refine blk_put (cs := #[.int .i64 ((rd_T73 l1 x7_2).f0), .int .i64 0, .int .i64 0]) ?_ 1 _ rfl; (with_reducible repeat (first | refine blk_drewN ?_ _ | refine blk_drew ?_ | refine blk_alloc ?_ _)); refine blk_put (cs := #[.int .i64 0, .int .i64 0, .int .i64 0]) ?_ 0 _ rfl; (with_reducible repeat (first | refine blk_drewN ?_ _ | refine blk_drew ?_ | refine blk_alloc ?_ _)); exact BK294.out⟩, ⟨by repeat (first | (with_reducible first | exact HI286.out | apply IsS94.alloc | apply IsS94.drewN | apply IsS94.drew | apply IsS94.set_0 | apply IsS94.set_1) | refine IsS94.farT ?_ NB286_287.out (by first | ((repeat apply not_rows_set); exact not_rows_of BK287.out (by decide)) | ((repeat apply not_bytes_set); exact not_bytes_of BK287.out (by decide))) _ | refine IsS94.farT ?_ NB286_294.out (by first | ((repeat apply not_rows_set); exact not_rows_of BK294.out (by decide)) | ((repeat apply not_bytes_set); exact not_bytes_of BK294.out (by decide))) _ | exact HI286.out)⟩, ⟨by repeat (first | (with_reducible first | exact HB.out | apply below_alloc | apply pw_below_drewN | apply below_drew1 | refine below_set ?_ (IsS94.ge HI286.out) | refine below_set ?_ GE287.out | refine below_set ?_ GE294.out) | exact HB.out)⟩⟩
                case rest =>
                  clear HC15
                  try clear c1
                  try clear c2
                  try clear p2
                  try clear q2
                  try clear hx2
                  try clear c3
                  try clear c4
                  try clear c4b0
                  try clear c4b1
                  try clear c5
                  try clear c6
                  try clear c7
                  try clear c8
                  try clear c9
                  try clear c10
                  try clear c11
                  try clear c13
                  try clear c13b0
                  try clear c14
                  try clear c14b0
                  try clear c17
                  try clear c18
                  try clear c20
                  try clear c20b0
                  try clear c20b1
                  try clear c22
                  try clear c23
                  try clear c23b0
                  try clear c23b1
                  try clear c24
                  try clear c25
                  try clear c27
                  try clear p29
                  try clear q29
                  try clear hx29
                  try clear c34
                  try clear c35
                  try clear c36
                  try clear c41
                  try clear c41b0
                  try clear c41b1
                  try clear c45
                  try clear c46
                  try clear c47
                  try clear c49
                  try clear c53
                  try clear c56
                  try clear c57
                  try clear c58
                  try clear c64
                  try clear c65
                  try clear c65b0
                  try clear c65b1
                  try clear c66
                  try clear c67
                  try clear c68
                  try clear c69
                  try clear c70
                  try clear c71
                  try clear c73
                  try clear c80
                  try clear c81
                  try clear c82
                  try clear c89
                  try clear c89b0
                  try clear c89b1
                  try clear c90
                  try clear c90b0
                  try clear c90b1
                  try clear c91
                  try clear c91b0
                  try clear c91b1
                  try clear c93
                  try clear c94
                  try clear c96
                  try clear c100
                  try clear c101
                  try clear c103
                  try clear c106
                  try clear c107
                  try clear hcz102_0
                  try clear hcz102_1
                  try clear hcz102_2
                  try clear hcz104_0
                  try clear hcz104_1
                  try clear hcz108_0
                  try clear hcz108_1
                  try clear hcz108_2
                  try clear hcz12_0
                  try clear hcz12_1
                  try clear hcz19_0
                  try clear hcz19_1
                  try clear hcz19_2
                  try clear hcz26_0
                  try clear hcz26_1
                  try clear hcz28_0
                  try clear hcz28_1
                  try clear hcz28_2
                  try clear hcz37_0
                  try clear hcz37_1
                  try clear hcz38_0
                  try clear hcz38_1
                  try clear hcz39_0
                  try clear hcz39_1
                  try clear hcz39_2
                  try clear hcz48_0
                  try clear hcz48_1
                  try clear hcz50_0
                  try clear hcz50_1
                  try clear hcz50_2
                  try clear hcz59_0
                  try clear hcz59_1
                  try clear hcz60_0
                  try clear hcz60_1
                  try clear hcz61_0
                  try clear hcz61_1
                  try clear hcz61_2
                  try clear hcz72_0
                  try clear hcz72_1
                  try clear hcz74_0
                  try clear hcz74_1
                  try clear hcz74_2
                  try clear hcz83_0
                  try clear hcz83_1
                  try clear hcz84_0
                  try clear hcz84_1
                  try clear hcz85_0
                  try clear hcz85_1
                  try clear hcz85_2
                  try clear hcz95_0
                  try clear hcz95_1
                  try clear hcz95_2
                  try clear hcz97_0
                  try clear hcz97_1
                  try clear hfz102_0
                  try clear hfz102_1
                  try clear hfz102_2
                  try clear hfz104_0
                  try clear hfz104_1
                  try clear hfz108_0
                  try clear hfz108_1
                  try clear hfz108_2
                  try clear hfz12_0
                  try clear hfz12_1
                  try clear hfz19_0
                  try clear hfz19_1
                  try clear hfz19_2
                  try clear hfz26_0
                  try clear hfz26_1
                  try clear hfz28_0
                  try clear hfz28_1
                  try clear hfz28_2
                  try clear hfz37_0
                  try clear hfz37_1
                  try clear hfz38_0
                  try clear hfz38_1
                  try clear hfz39_0
                  try clear hfz39_1
                  try clear hfz39_2
                  try clear hfz48_0
                  try clear hfz48_1
                  try clear hfz50_0
                  try clear hfz50_1
                  try clear hfz50_2
                  try clear hfz59_0
                  try clear hfz59_1
                  try clear hfz60_0
                  try clear hfz60_1
                  try clear hfz61_0
                  try clear hfz61_1
                  try clear hfz61_2
                  try clear hfz72_0
                  try clear hfz72_1
                  try clear hfz74_0
                  try clear hfz74_1
                  try clear hfz74_2
                  try clear hfz83_0
                  try clear hfz83_1
                  try clear hfz84_0
                  try clear hfz84_1
                  try clear hfz85_0
                  try clear hfz85_1
                  try clear hfz85_2
                  try clear hfz95_0
                  try clear hfz95_1
                  try clear hfz95_2
                  try clear hfz97_0
                  try clear hfz97_1
                  try clear hx293_0
                  try clear hx293_1
                  try clear hx293_2
                  try clear p2
                  try clear p293
                  try clear q293
                  obtain ⟨kq, x287000_14, x287001_14, x288000_14, x288001_14, u288000, HA, HJ14, HO_288000, BK287, BK294, HI286, HB⟩ := hcut
                  cases kq with
                  | zero => exact absurd HA.out (by simp [deedboxlaw01_OctetReads.j2])
                  | succ kj14 =>
                    have H := HA.out
                    clear HA
                    simp only [deedboxlaw01_OctetReads.j2] at H
                    replace H := Option.bind_eq_some_iff.mp H
                    obtain ⟨⟨t336, t337, t338⟩, A1090, H⟩ := H
                    replace H : (if t336 = x288001_14 then ((octet_Reader_Left.f t337 t338).bind fun bt339 => (if bt339.1 = (x288000_14.length : Int) then (deedboxlaw01_OctetReads.l0 kj14 l1 (wrap64 (x7_2 + 1)) bt339.2.1 bt339.2.2 x288000_14 x288001_14) else (some false))) else (some false)) = some r := H
                    have A109 := Aside0.mk A1090
                    clear A1090
                    by_cases c110 : t336 = x288001_14
                    · rw [if_pos c110] at H
                      have c110b0 : (t336 == x288001_14) = true := beq_iff_eq.mpr c110
                      have c110b1 : (t336 != x288001_14) = false := bne_eq_false_iff_eq.mpr c110
                      clear c110
                      replace H := Option.bind_eq_some_iff.mp H
                      obtain ⟨⟨t339, t340, t341⟩, A1110, H⟩ := H
                      replace H : (if t339 = (x288000_14.length : Int) then (deedboxlaw01_OctetReads.l0 kj14 l1 (wrap64 (x7_2 + 1)) t340 t341 x288000_14 x288001_14) else (some false)) = some r := H
                      have A111 := Aside0.mk A1110
                      clear A1110
                      by_cases c112 : t339 = (x288000_14.length : Int)
                      · rw [if_pos c112] at H
                        have c112b0 : (t339 == (x288000_14.length : Int)) = true := beq_iff_eq.mpr c112
                        have c112b1 : (t339 != (x288000_14.length : Int)) = false := bne_eq_false_iff_eq.mpr c112
                        clear c112
                        have H' := Aside0.mk H
                        clear H
                        try go_wp2
                        have n0_ := Aside0.mk (Kd.V_drew HO_288000.out)
                        have n1_ := Aside0.mk (blk_drew BK287.out)
                        have n2_ := Aside0.mk (blk_drew BK294.out)
                        have n3_ := Aside0.mk (IsS94.drew HI286.out)
                        have n4_ := Aside0.mk (below_drew1 HB.out)
                        clear HO_288000
                        clear BK287
                        clear BK294
                        clear HI286
                        clear HB
                        have HO_288000 := n0_
                        have BK287 := n1_
                        have BK294 := n2_
                        have HI286 := n3_
                        have HB := n4_
                        clear n0_ n1_ n2_ n3_ n4_
                        have hlenZ : ∀ w' : World, Sem.run Try.prog (Builtin.len_ #[31] 3 #[u288000]) w' = .ok (.int .i64 ((x288000_14).length : Int)) w' := by
                          obtain ⟨A_, c_, e_⟩ := Kd.V_slice HO_288000.out
                          intro w'
                          rw [e_]
                          first | rfl | (go_simp; done) | (go_simp; rfl)
                        refine start_ (n := 13) (S := fun w' => w'.cell? ⟨gb287, 0, none⟩ = some (u288000) ∧ w'.cell? ⟨gb287, 1, none⟩ = some (.int .i64 x288001_14)) (ds := []) #[false, false, false, false, false, false, false, false, false, false, false, false, false] (by kernel_rfl) rfl rfl ⟨(blk_cell BK287.out 0).trans rfl, (blk_cell BK287.out 1).trans rfl⟩ (fun hHeld => ?_); refine with_tabW deedboxlaw01_OctetReads.tab32 deedboxlaw01_OctetReads.bits32 (fun HT_ HW_ => ?_)
                        generalize wc.drew = w113 at HO_288000 BK287 BK294 HI286 HB hHeld ⊢
                        refine pure_ (i := 0) (N := some 108) (v := ?_) (a' := ?_) #[true, false, false, false, false, false, false, false, false, false, false, false, false] rfl rfl (any_of HT_.out (by kernel_rfl)) (fun _ _ _ h => h) (Or.inl ⟨by rfl, ?_⟩) ?_ ?_
                        rotate_left
                        · intro w'
                          go_simp
                          with_reducible rfl
                        rotate_left
                        · simp only [Act.put, List.setIfInBounds_toArray, List.set_cons_zero, List.set_cons_succ, i64_w, i32_w]
                          rfl
                        refine pure_ (i := 2) (N := some 110) (v := ?_) (a' := ?_) #[true, false, true, false, false, false, false, false, false, false, false, false, false] rfl rfl (any_of HT_.out (by kernel_rfl)) (fun _ _ _ h => h) (Or.inl ⟨by rfl, ?_⟩) ?_ ?_
                        rotate_left
                        · intro w'
                          go_simp
                          with_reducible rfl
                        rotate_left
                        · simp only [Act.put, List.setIfInBounds_toArray, List.set_cons_zero, List.set_cons_succ, i64_w, i32_w]
                          rfl
                        refine take_ (i := 3) (N := some 111) (v := ?_) (a' := ?_) #[true, false, true, true, false, false, false, false, false, false, false, false, false] rfl rfl (take_ofW HT_.out HW_.out (by kernel_rfl)) (fun _ _ _ h => h) (Or.inl ⟨by rfl, ?_⟩) hHeld ?_ ?_
                        rotate_left
                        · rintro w' ⟨s0, s1⟩
                          go_simp
                          with_reducible rfl
                        rotate_left
                        · simp only [Act.put, List.setIfInBounds_toArray, List.set_cons_zero, List.set_cons_succ, i64_w, i32_w]
                          rfl
                        refine one_ (i := 1) (N := some 109) #[true, true, true, true, false, false, false, false, false, false, false, false, false] rfl rfl (one_of HT_.out (by kernel_rfl)) (by decide) (fun K hK => ?_)
                        refine goes_ Try.func72 (by kernel_rfl) rfl #[.pointer (some ⟨g286, 0, none⟩)] (by rfl) rfl rfl (by (try simp only [List.map_toArray, List.map_cons, List.map_nil]); first | done | rfl | (simp only [List.length_drop, List.length_take]; rfl)) ?_
                        with_reducible refine (octet_Reader_Code.calls g286 x287000_14 x287001_14 t336 t337 t338 w _ ?side1 ?side2 A109.out).mono ?_
                        (case side1 => repeat (first | (with_reducible first | exact HI286.out | apply IsS94.alloc | apply IsS94.drewN | apply IsS94.drew | apply IsS94.set_0 | apply IsS94.set_1) | refine IsS94.farT ?_ NB286_287.out (by first | ((repeat apply not_rows_set); exact not_rows_of BK287.out (by decide)) | ((repeat apply not_bytes_set); exact not_bytes_of BK287.out (by decide))) _ | refine IsS94.farT ?_ NB286_294.out (by first | ((repeat apply not_rows_set); exact not_rows_of BK294.out (by decide)) | ((repeat apply not_bytes_set); exact not_bytes_of BK294.out (by decide))) _ | exact HI286.out))
                        (case side2 => repeat (first | (with_reducible first | exact HB.out | apply below_alloc | apply pw_below_drewN | apply below_drew1 | refine below_set ?_ (IsS94.ge HI286.out) | refine below_set ?_ GE287.out | refine below_set ?_ GE294.out) | exact HB.out))
                        rintro e w114 ⟨rfl, hi, hb, hk⟩
                        refine ⟨_, rfl, ?_⟩
                        have n0_ := Aside0.mk (Kd.V_mono (Kd.V_keep (Kd.V_mono (ok := fun k_ => (((P0_ k_ ∨ w.heap.size ≤ k_)) ∧ (k_ ≠ gb287 ∧ (k_ ≠ gb294 ∧ k_ ≠ g286)))) (by (with_reducible repeat (first | apply Kd.V_alloc | apply Kd.V_drewN | apply Kd.V_drew)); exact HO_288000.out) (fun k_ hk_ => (⟨hk_, hk_.2.2.2⟩ : _ ∧ k_ ≠ g286))) hk (fun _ h => h.2)) (fun _ h => h.1))
                        have n1_ := Aside0.mk (KeepBut.blk hk (g' := gb287) (o := .cells #[u288000, .int .i64 x288001_14] 71 (0, 0)) (by (with_reducible repeat (first | refine blk_drewN ?_ _ | refine blk_drew ?_ | refine blk_alloc ?_ _)); exact BK287.out) NB287_286.out (by simp))
                        have n2_ := Aside0.mk (KeepBut.blk hk (g' := gb294) (o := .cells #[.int .i64 ((rd_T73 l1 x7_2).f0), .int .i64 ((rd_T73 l1 x7_2).f1), .int .i64 ((rd_T73 l1 x7_2).f2)] 73 (0, 0)) (by (with_reducible repeat (first | refine blk_drewN ?_ _ | refine blk_drew ?_ | refine blk_alloc ?_ _)); exact BK294.out) NB294_286.out (by simp))
                        have n3_ := Aside0.mk (hb)
                        have n4_ := Aside0.mk (hi)
                        clear HO_288000
                        clear BK287
                        clear BK294
                        clear HB
                        clear HI286
                        have HO_288000 := n0_
                        have BK287 := n1_
                        have BK294 := n2_
                        have HB := n3_
                        have HI286 := n4_
                        clear n0_ n1_ n2_ n3_ n4_
                        (try clear hb)
                        (try clear hb2)
                        (try clear hk)
                        (try clear hi)
                        refine hK.out _ _ ⟨(blk_cell BK287.out 0).trans rfl, (blk_cell BK287.out 1).trans rfl⟩ (fun hHeld => ?_)
                        clear hK K
                        refine norm_ (a' := ?_) ?_ ?_
                        rotate_left
                        · show Act.put _ (some 109) _ = _
                          simp only [Act.put, List.setIfInBounds_toArray, List.set_cons_zero, List.set_cons_succ, i64_w, i32_w]
                          rfl
                        refine pure_ (i := 4) (N := some 112) (v := ?_) (a' := ?_) #[true, true, true, true, true, false, false, false, false, false, false, false, false] rfl rfl (any_of HT_.out (by kernel_rfl)) (fun _ _ _ h => h) (Or.inl ⟨by rfl, ?_⟩) ?_ ?_
                        rotate_left
                        · intro w'
                          go_simp
                          with_reducible rfl
                        rotate_left
                        · simp only [Act.put, List.setIfInBounds_toArray, List.set_cons_zero, List.set_cons_succ, i64_w, i32_w]
                          rfl
                        refine pure_ (i := 5) (N := some 113) (v := ?_) (a' := ?_) #[true, true, true, true, true, true, false, false, false, false, false, false, false] rfl rfl (any_of HT_.out (by kernel_rfl)) (fun _ _ _ h => h) (Or.inl ⟨by rfl, ?_⟩) ?_ ?_
                        rotate_left
                        · intro w'
                          go_simp
                          with_reducible rfl
                        rotate_left
                        · simp only [Act.put, List.setIfInBounds_toArray, List.set_cons_zero, List.set_cons_succ, i64_w, i32_w]
                          rfl
                        refine pure_ (i := 6) (N := some 114) (v := ?_) (a' := ?_) #[true, true, true, true, true, true, true, false, false, false, false, false, false] rfl rfl (any_of HT_.out (by kernel_rfl)) (fun _ _ _ h => h) (Or.inl ⟨by rfl, ?_⟩) ?_ ?_
                        rotate_left
                        · intro w'
                          go_simp
                          with_reducible rfl
                        rotate_left
                        · simp only [Act.put, List.setIfInBounds_toArray, List.set_cons_zero, List.set_cons_succ, i64_w, i32_w]
                          rfl
                        refine pure_ (i := 8) (N := some 116) (v := ?_) (a' := ?_) #[true, true, true, true, true, true, true, false, true, false, false, false, false] rfl rfl (any_of HT_.out (by kernel_rfl)) (fun _ _ _ h => h) (Or.inl ⟨by rfl, ?_⟩) ?_ ?_
                        rotate_left
                        · intro w'
                          go_simp
                          with_reducible rfl
                        rotate_left
                        · simp only [Act.put, List.setIfInBounds_toArray, List.set_cons_zero, List.set_cons_succ, i64_w, i32_w]
                          rfl
                        refine take_ (i := 9) (N := some 117) (v := ?_) (a' := ?_) #[true, true, true, true, true, true, true, false, true, true, false, false, false] rfl rfl (take_ofW HT_.out HW_.out (by kernel_rfl)) (fun _ _ _ h => h) (Or.inl ⟨by rfl, ?_⟩) hHeld ?_ ?_
                        rotate_left
                        · rintro w' ⟨s0, s1⟩
                          go_simp
                          with_reducible rfl
                        rotate_left
                        · simp only [Act.put, List.setIfInBounds_toArray, List.set_cons_zero, List.set_cons_succ, i64_w, i32_w]
                          rfl
                        refine pure_ (i := 10) (N := some 118) (v := ?_) (a' := ?_) #[true, true, true, true, true, true, true, false, true, true, true, false, false] rfl rfl (any_of HT_.out (by kernel_rfl)) (fun _ _ _ h => h) (Or.inl ⟨by rfl, ?_⟩) ?_ ?_
                        rotate_left
                        · intro w'
                          go_simp
                          with_reducible rfl
                        rotate_left
                        · simp only [Act.put, List.setIfInBounds_toArray, List.set_cons_zero, List.set_cons_succ, i64_w, i32_w]
                          rfl
                        refine one_ (i := 7) (N := some 115) #[true, true, true, true, true, true, true, true, true, true, true, false, false] rfl rfl (one_of HT_.out (by kernel_rfl)) (by decide) (fun K hK => ?_)
                        refine goes_ Try.func73 (by kernel_rfl) rfl #[.pointer (some ⟨g286, 0, none⟩)] (by rfl) rfl rfl (by (try simp only [List.map_toArray, List.map_cons, List.map_nil]); first | done | rfl | (simp only [List.length_drop, List.length_take]; rfl)) ?_
                        with_reducible refine (octet_Reader_Left.calls g286 t337 t338 t339 t340 t341 w _ ?side1 ?side2 A111.out).mono ?_
                        (case side1 => repeat (first | (with_reducible first | exact HI286.out | apply IsS94.alloc | apply IsS94.drewN | apply IsS94.drew | apply IsS94.set_0 | apply IsS94.set_1) | refine IsS94.farT ?_ NB286_287.out (by first | ((repeat apply not_rows_set); exact not_rows_of BK287.out (by decide)) | ((repeat apply not_bytes_set); exact not_bytes_of BK287.out (by decide))) _ | refine IsS94.farT ?_ NB286_294.out (by first | ((repeat apply not_rows_set); exact not_rows_of BK294.out (by decide)) | ((repeat apply not_bytes_set); exact not_bytes_of BK294.out (by decide))) _ | exact HI286.out))
                        (case side2 => repeat (first | (with_reducible first | exact HB.out | apply below_alloc | apply pw_below_drewN | apply below_drew1 | refine below_set ?_ (IsS94.ge HI286.out) | refine below_set ?_ GE287.out | refine below_set ?_ GE294.out) | exact HB.out))
                        rintro e w115 ⟨rfl, hi, hb, hk⟩
                        refine ⟨_, rfl, ?_⟩
                        have n0_ := Aside0.mk (Kd.V_mono (Kd.V_keep (Kd.V_mono (ok := fun k_ => (((P0_ k_ ∨ w.heap.size ≤ k_)) ∧ (k_ ≠ gb287 ∧ (k_ ≠ gb294 ∧ k_ ≠ g286)))) (by (with_reducible repeat (first | apply Kd.V_alloc | apply Kd.V_drewN | apply Kd.V_drew)); exact HO_288000.out) (fun k_ hk_ => (⟨hk_, hk_.2.2.2⟩ : _ ∧ k_ ≠ g286))) hk (fun _ h => h.2)) (fun _ h => h.1))
                        have n1_ := Aside0.mk (KeepBut.blk hk (g' := gb287) (o := .cells #[u288000, .int .i64 x288001_14] 71 (0, 0)) (by (with_reducible repeat (first | refine blk_drewN ?_ _ | refine blk_drew ?_ | refine blk_alloc ?_ _)); exact BK287.out) NB287_286.out (by simp))
                        have n2_ := Aside0.mk (KeepBut.blk hk (g' := gb294) (o := .cells #[.int .i64 ((rd_T73 l1 x7_2).f0), .int .i64 ((rd_T73 l1 x7_2).f1), .int .i64 ((rd_T73 l1 x7_2).f2)] 73 (0, 0)) (by (with_reducible repeat (first | refine blk_drewN ?_ _ | refine blk_drew ?_ | refine blk_alloc ?_ _)); exact BK294.out) NB294_286.out (by simp))
                        have n3_ := Aside0.mk (hb)
                        have n4_ := Aside0.mk (hi)
                        clear HO_288000
                        clear BK287
                        clear BK294
                        clear HB
                        clear HI286
                        have HO_288000 := n0_
                        have BK287 := n1_
                        have BK294 := n2_
                        have HB := n3_
                        have HI286 := n4_
                        clear n0_ n1_ n2_ n3_ n4_
                        (try clear hb)
                        (try clear hb2)
                        (try clear hk)
                        (try clear hi)
                        obtain ⟨Ao116, co116, eo116⟩ := Kd.V_slice HO_288000.out
                        (first | subst eo116 | (injection eo116 with f1_ f2_ f3_; have f4_ := f1_.symm; have f5_ := f3_.symm; clear f1_ f2_ f3_; subst f4_; subst f5_))
                        refine hK.out _ _ ⟨(blk_cell BK287.out 0).trans rfl, (blk_cell BK287.out 1).trans rfl⟩ (fun hHeld => ?_)
                        clear hK K
                        refine norm_ (a' := ?_) ?_ ?_
                        rotate_left
                        · show Act.put _ (some 115) _ = _
                          simp only [Act.put, List.setIfInBounds_toArray, List.set_cons_zero, List.set_cons_succ, i64_w, i32_w]
                          rfl
                        refine pure_ (i := 11) (N := some 119) (v := ?_) (a' := ?_) #[true, true, true, true, true, true, true, true, true, true, true, true, false] rfl rfl (any_of HT_.out (by kernel_rfl)) (fun _ _ _ h => h) (Or.inl ⟨by rfl, ?_⟩) ?_ ?_
                        rotate_left
                        · intro w'
                          go_simp
                          with_reducible rfl
                        rotate_left
                        · simp only [Act.put, List.setIfInBounds_toArray, List.set_cons_zero, List.set_cons_succ, i64_w, i32_w]
                          rfl
                        refine pure_ (i := 12) (N := some 120) (v := ?_) (a' := ?_) #[true, true, true, true, true, true, true, true, true, true, true, true, true] rfl rfl (any_of HT_.out (by kernel_rfl)) (fun _ _ _ h => h) (Or.inl ⟨by rfl, ?_⟩) ?_ ?_
                        rotate_left
                        · intro w'
                          go_simp
                          with_reducible rfl
                        rotate_left
                        · simp only [Act.put, List.setIfInBounds_toArray, List.set_cons_zero, List.set_cons_succ, i64_w, i32_w]
                          rfl
                        refine done_ (done_of HT_.out (by kernel_rfl)) ?_
                        try go_wp2
                        go_roundg kj14
                        case measure => have := HJ2.out; have := HK2.out; have := HJ14.out; omega
                        case rel => exact ⟨(wrap64 (x7_2 + 1)), (t340), (t341), (x288000_14), (x288001_14), (.slice Ao116 x288000_14.length co116), (by first | rfl | (simp; done) | (simp [*]; done)), H', ⟨by have := HJ2.out; have := HK2.out; have := HJ14.out; omega⟩, ⟨by (with_reducible repeat (first | apply Kd.V_alloc | apply Kd.V_drewN | apply Kd.V_drew)); exact Kd.V_mono HO_288000.out (fun _ hk => ⟨hk.1, ⟨hk.2.1, hk.2.2.2⟩⟩)⟩, ⟨by (with_reducible repeat (first | refine blk_drewN ?_ _ | refine blk_drew ?_ | refine blk_alloc ?_ _)); exact BK287.out⟩, ⟨by repeat (first | (with_reducible first | exact HI286.out | apply IsS94.alloc | apply IsS94.drewN | apply IsS94.drew | apply IsS94.set_0 | apply IsS94.set_1) | refine IsS94.farT ?_ NB286_287.out (by first | ((repeat apply not_rows_set); exact not_rows_of BK287.out (by decide)) | ((repeat apply not_bytes_set); exact not_bytes_of BK287.out (by decide))) _ | refine IsS94.farT ?_ NB286_294.out (by first | ((repeat apply not_rows_set); exact not_rows_of BK294.out (by decide)) | ((repeat apply not_bytes_set); exact not_bytes_of BK294.out (by decide))) _ | exact HI286.out)⟩, ⟨by repeat (first | (with_reducible first | exact HB.out | apply below_alloc | apply pw_below_drewN | apply below_drew1 | refine below_set ?_ (IsS94.ge HI286.out) | refine below_set ?_ GE287.out | refine below_set ?_ GE294.out) | exact HB.out)⟩⟩
                      · rw [if_neg c112] at H
                        have c112b0 : (t339 == (x288000_14.length : Int)) = false := beq_eq_false_iff_ne.mpr c112
                        have c112b1 : (t339 != (x288000_14.length : Int)) = true := bne_iff_ne.mpr c112
                        obtain rfl := Option.some.inj H
                        exact absurd hr_.out (by simp)
                    · rw [if_neg c110] at H
                      have c110b0 : (t336 == x288001_14) = false := beq_eq_false_iff_ne.mpr c110
                      have c110b1 : (t336 != x288001_14) = true := bne_iff_ne.mpr c110
                      obtain rfl := Option.some.inj H
                      exact absurd hr_.out (by simp)
              · rw [if_neg c14] at H
                exact absurd H (by simp)
            · rw [if_neg c13] at H
              have c13b0 : decide (x7_2 < (l1.length : Int)) = false := decide_eq_false c13
              clear c13
              replace H := Option.bind_eq_some_iff.mp H
              obtain ⟨⟨t288, t289, t290⟩, A1170, H⟩ := H
              replace H : ((deedboxref01_End.f x288000_2 x288001_2).bind fun t291 => (if t288 = t291 then ((deedboxlaw01_works.f k2).bind fun t292 => (some t292)) else (some false))) = some r := H
              have A117 := Aside0.mk A1170
              clear A1170
              replace H := Option.bind_eq_some_iff.mp H
              obtain ⟨t291, A1180, H⟩ := H
              replace H : (if t288 = t291 then ((deedboxlaw01_works.f k2).bind fun t292 => (some t292)) else (some false)) = some r := H
              have A118 := Aside0.mk A1180
              clear A1180
              by_cases c119 : t288 = t291
              · rw [if_pos c119] at H
                have c119b0 : (t288 == t291) = true := beq_iff_eq.mpr c119
                have c119b1 : (t288 != t291) = false := bne_eq_false_iff_eq.mpr c119
                clear c119
                replace H := Option.bind_eq_some_iff.mp H
                obtain ⟨t292, A1200, H⟩ := H
                replace H : (some t292) = some r := H
                have A120 := Aside0.mk A1200
                clear A1200
                obtain rfl := Option.some.inj H
                try go_wp2
                have n0_ := Aside0.mk (Kd.V_drew HO_288000.out)
                have n1_ := Aside0.mk (blk_drew BK287.out)
                have n2_ := Aside0.mk (IsS94.drew HI286.out)
                have n3_ := Aside0.mk (below_drew1 HB.out)
                clear HO_288000
                clear BK287
                clear HI286
                clear HB
                have HO_288000 := n0_
                have BK287 := n1_
                have HI286 := n2_
                have HB := n3_
                clear n0_ n1_ n2_ n3_
                refine start_ (n := 9) (S := fun w' => w'.cell? ⟨gb287, 0, none⟩ = some (u288000) ∧ w'.cell? ⟨gb287, 1, none⟩ = some (.int .i64 x288001_2)) (ds := []) #[false, false, false, false, false, false, false, false, false] (by kernel_rfl) rfl rfl ⟨(blk_cell BK287.out 0).trans rfl, (blk_cell BK287.out 1).trans rfl⟩ (fun hHeld => ?_); refine with_tabW deedboxlaw01_OctetReads.tab34 deedboxlaw01_OctetReads.bits34 (fun HT_ HW_ => ?_)
                generalize wr.drew = w121 at HO_288000 BK287 HI286 HB hHeld ⊢
                refine pure_ (i := 0) (N := some 121) (v := ?_) (a' := ?_) #[true, false, false, false, false, false, false, false, false] rfl rfl (any_of HT_.out (by kernel_rfl)) (fun _ _ _ h => h) (Or.inl ⟨by rfl, ?_⟩) ?_ ?_
                rotate_left
                · intro w'
                  go_simp
                  with_reducible rfl
                rotate_left
                · simp only [Act.put, List.setIfInBounds_toArray, List.set_cons_zero, List.set_cons_succ, i64_w, i32_w]
                  rfl
                refine take_ (i := 2) (N := some 123) (v := ?_) (a' := ?_) #[true, false, true, false, false, false, false, false, false] rfl rfl (take_ofW HT_.out HW_.out (by kernel_rfl)) (fun _ _ _ h => h) (Or.inl ⟨by rfl, ?_⟩) hHeld ?_ ?_
                rotate_left
                · rintro w' ⟨s0, s1⟩
                  go_simp
                  with_reducible rfl
                rotate_left
                · simp only [Act.put, List.setIfInBounds_toArray, List.set_cons_zero, List.set_cons_succ, i64_w, i32_w]
                  rfl
                refine one_ (i := 1) (N := some 122) #[true, true, true, false, false, false, false, false, false] rfl rfl (one_of HT_.out (by kernel_rfl)) (by decide) (fun K hK => ?_)
                refine goes_ Try.func74 (by kernel_rfl) rfl #[.pointer (some ⟨g286, 0, none⟩)] (by rfl) rfl rfl (by (try simp only [List.map_toArray, List.map_cons, List.map_nil]); first | done | rfl | (simp only [List.length_drop, List.length_take]; rfl)) ?_
                with_reducible refine (octet_Reader_End.calls g286 x287000_2 x287001_2 t288 t289 t290 w _ ?side1 ?side2 A117.out).mono ?_
                (case side1 => repeat (first | (with_reducible first | exact HI286.out | apply IsS94.alloc | apply IsS94.drewN | apply IsS94.drew | apply IsS94.set_0 | apply IsS94.set_1) | refine IsS94.farT ?_ NB286_287.out (by first | ((repeat apply not_rows_set); exact not_rows_of BK287.out (by decide)) | ((repeat apply not_bytes_set); exact not_bytes_of BK287.out (by decide))) _ | exact HI286.out))
                (case side2 => repeat (first | (with_reducible first | exact HB.out | apply below_alloc | apply pw_below_drewN | apply below_drew1 | refine below_set ?_ (IsS94.ge HI286.out) | refine below_set ?_ GE287.out) | exact HB.out))
                rintro e w122 ⟨rfl, hi, hb, hk⟩
                refine ⟨_, rfl, ?_⟩
                have n0_ := Aside0.mk (Kd.V_mono (Kd.V_keep (Kd.V_mono (ok := fun k_ => (((P0_ k_ ∨ w.heap.size ≤ k_)) ∧ (k_ ≠ gb287 ∧ k_ ≠ g286))) (by (with_reducible repeat (first | apply Kd.V_alloc | apply Kd.V_drewN | apply Kd.V_drew)); exact HO_288000.out) (fun k_ hk_ => (⟨hk_, hk_.2.2⟩ : _ ∧ k_ ≠ g286))) hk (fun _ h => h.2)) (fun _ h => h.1))
                have n1_ := Aside0.mk (KeepBut.blk hk (g' := gb287) (o := .cells #[u288000, .int .i64 x288001_2] 71 (0, 0)) (by (with_reducible repeat (first | refine blk_drewN ?_ _ | refine blk_drew ?_ | refine blk_alloc ?_ _)); exact BK287.out) NB287_286.out (by simp))
                have n2_ := Aside0.mk (hb)
                have n3_ := Aside0.mk (hi)
                clear HO_288000
                clear BK287
                clear HB
                clear HI286
                have HO_288000 := n0_
                have BK287 := n1_
                have HB := n2_
                have HI286 := n3_
                clear n0_ n1_ n2_ n3_
                (try clear hb)
                (try clear hb2)
                (try clear hk)
                (try clear hi)
                obtain ⟨Ao123, co123, eo123⟩ := Kd.V_slice HO_288000.out
                (first | subst eo123 | (injection eo123 with f1_ f2_ f3_; have f4_ := f1_.symm; have f5_ := f3_.symm; clear f1_ f2_ f3_; subst f4_; subst f5_))
                refine hK.out _ _ ⟨(blk_cell BK287.out 0).trans rfl, (blk_cell BK287.out 1).trans rfl⟩ (fun hHeld => ?_)
                clear hK K
                refine norm_ (a' := ?_) ?_ ?_
                rotate_left
                · show Act.put _ (some 122) _ = _
                  simp only [Act.put, List.setIfInBounds_toArray, List.set_cons_zero, List.set_cons_succ, i64_w, i32_w]
                  rfl
                refine one_ (i := 3) (N := some 124) #[true, true, true, true, false, false, false, false, false] rfl rfl (one_of HT_.out (by kernel_rfl)) (by decide) (fun K hK => ?_)
                refine goes_ Try.func75 (by kernel_rfl) rfl #[.agg #[.slice Ao123 x288000_2.length co123, .int .i64 x288001_2]] (by rfl) rfl rfl (by (try simp only [List.map_toArray, List.map_cons, List.map_nil]); first | done | rfl | (simp only [List.length_drop, List.length_take]; rfl)) ?_
                with_reducible refine (deedboxref01_End.calls _ _ x288000_2 x288001_2 t291 _ ?side1 ?side2 A118.out).mono ?_
                (case side1 => repeat (first | exact (Kd.V_reads' HO_288000.out).2.2 | (with_reducible refine Kd.C_alloc ?_ _) | (with_reducible refine Kd.C_drewN ?_ _) | (with_reducible refine Kd.C_drew ?_)))
                (case side2 => exact (Kd.V_reads' HO_288000.out).2.1)
                rintro e w124 ⟨rfl, hb⟩
                refine ⟨_, rfl, ?_⟩
                have n0_ := Aside0.mk (Kd.V_below (by (with_reducible repeat (first | apply Kd.V_alloc | apply Kd.V_drewN | apply Kd.V_drew)); exact HO_288000.out) hb)
                have n1_ := Aside0.mk (blk_below (g := gb287) (o := .cells #[.slice Ao123 x288000_2.length co123, .int .i64 x288001_2] 71 (0, 0)) (by (with_reducible repeat (first | refine blk_drewN ?_ _ | refine blk_drew ?_ | refine blk_alloc ?_ _)); exact BK287.out) hb)
                have n2_ := Aside0.mk (IsS94.below (by repeat (first | (with_reducible first | exact HI286.out | apply IsS94.alloc | apply IsS94.drewN | apply IsS94.drew | apply IsS94.set_0 | apply IsS94.set_1) | refine IsS94.farT ?_ NB286_287.out (by first | ((repeat apply not_rows_set); exact not_rows_of BK287.out (by decide)) | ((repeat apply not_bytes_set); exact not_bytes_of BK287.out (by decide))) _ | exact HI286.out)) hb)
                have n3_ := Aside0.mk (below_step (by repeat (first | (with_reducible first | exact HB.out | apply below_alloc | apply pw_below_drewN | apply below_drew1 | refine below_set ?_ (IsS94.ge HI286.out) | refine below_set ?_ GE287.out) | exact HB.out)) hb)
                clear HO_288000
                clear BK287
                clear HI286
                clear HB
                have HO_288000 := n0_
                have BK287 := n1_
                have HI286 := n2_
                have HB := n3_
                clear n0_ n1_ n2_ n3_
                (try clear hb)
                (try clear hb2)
                (try clear hk)
                (try clear hi)
                refine hK.out _ _ ⟨(blk_cell BK287.out 0).trans rfl, (blk_cell BK287.out 1).trans rfl⟩ (fun hHeld => ?_)
                clear hK K
                refine norm_ (a' := ?_) ?_ ?_
                rotate_left
                · show Act.put _ (some 124) _ = _
                  simp only [Act.put, List.setIfInBounds_toArray, List.set_cons_zero, List.set_cons_succ, i64_w, i32_w]
                  rfl
                refine pure_ (i := 4) (N := some 125) (v := ?_) (a' := ?_) #[true, true, true, true, true, false, false, false, false] rfl rfl (any_of HT_.out (by kernel_rfl)) (fun _ _ _ h => h) (Or.inl ⟨by rfl, ?_⟩) ?_ ?_
                rotate_left
                · intro w'
                  go_simp
                  with_reducible rfl
                rotate_left
                · simp only [Act.put, List.setIfInBounds_toArray, List.set_cons_zero, List.set_cons_succ, i64_w, i32_w]
                  rfl
                refine pure_ (i := 5) (N := some 126) (v := ?_) (a' := ?_) #[true, true, true, true, true, true, false, false, false] rfl rfl (any_of HT_.out (by kernel_rfl)) (fun _ _ _ h => h) (Or.inl ⟨by rfl, ?_⟩) ?_ ?_
                rotate_left
                · intro w'
                  go_simp
                  with_reducible rfl
                rotate_left
                · simp only [Act.put, List.setIfInBounds_toArray, List.set_cons_zero, List.set_cons_succ, i64_w, i32_w]
                  rfl
                refine one_ (i := 6) (N := some 127) #[true, true, true, true, true, true, true, false, false] rfl rfl (one_of HT_.out (by kernel_rfl)) (by decide) (fun K hK => ?_)
                refine goes_ Try.func53 (by kernel_rfl) rfl #[] (by rfl) rfl rfl (by (try simp only [List.map_toArray, List.map_cons, List.map_nil]); first | done | rfl | (simp only [List.length_drop, List.length_take]; rfl)) ?_
                with_reducible refine (deedboxlaw01_works.calls k2  t292 _ A120.out hr_).mono ?_
                rintro e w125 ⟨rfl, hb⟩
                refine ⟨_, rfl, ?_⟩
                have n0_ := Aside0.mk (Kd.V_below (by (with_reducible repeat (first | apply Kd.V_alloc | apply Kd.V_drewN | apply Kd.V_drew)); exact HO_288000.out) hb)
                have n1_ := Aside0.mk (blk_below (g := gb287) (o := .cells #[.slice Ao123 x288000_2.length co123, .int .i64 x288001_2] 71 (0, 0)) (by (with_reducible repeat (first | refine blk_drewN ?_ _ | refine blk_drew ?_ | refine blk_alloc ?_ _)); exact BK287.out) hb)
                have n2_ := Aside0.mk (IsS94.below (by repeat (first | (with_reducible first | exact HI286.out | apply IsS94.alloc | apply IsS94.drewN | apply IsS94.drew | apply IsS94.set_0 | apply IsS94.set_1) | refine IsS94.farT ?_ NB286_287.out (by first | ((repeat apply not_rows_set); exact not_rows_of BK287.out (by decide)) | ((repeat apply not_bytes_set); exact not_bytes_of BK287.out (by decide))) _ | exact HI286.out)) hb)
                have n3_ := Aside0.mk (below_step (by repeat (first | (with_reducible first | exact HB.out | apply below_alloc | apply pw_below_drewN | apply below_drew1 | refine below_set ?_ (IsS94.ge HI286.out) | refine below_set ?_ GE287.out) | exact HB.out)) hb)
                clear HO_288000
                clear BK287
                clear HI286
                clear HB
                have HO_288000 := n0_
                have BK287 := n1_
                have HI286 := n2_
                have HB := n3_
                clear n0_ n1_ n2_ n3_
                (try clear hb)
                (try clear hb2)
                (try clear hk)
                (try clear hi)
                refine hK.out _ _ ⟨(blk_cell BK287.out 0).trans rfl, (blk_cell BK287.out 1).trans rfl⟩ (fun hHeld => ?_)
                clear hK K
                refine norm_ (a' := ?_) ?_ ?_
                rotate_left
                · show Act.put _ (some 127) _ = _
                  simp only [Act.put, List.setIfInBounds_toArray, List.set_cons_zero, List.set_cons_succ, i64_w, i32_w]
                  rfl
                refine pure_ (i := 7) (N := some 128) (v := ?_) (a' := ?_) #[true, true, true, true, true, true, true, true, false] rfl rfl (any_of HT_.out (by kernel_rfl)) (fun _ _ _ h => h) (Or.inl ⟨by rfl, ?_⟩) ?_ ?_
                rotate_left
                · intro w'
                  go_simp
                  with_reducible rfl
                rotate_left
                · simp only [Act.put, List.setIfInBounds_toArray, List.set_cons_zero, List.set_cons_succ, i64_w, i32_w]
                  rfl
                refine pure_ (i := 8) (N := some 4) (v := ?_) (a' := ?_) #[true, true, true, true, true, true, true, true, true] rfl rfl (any_of HT_.out (by kernel_rfl)) (fun _ _ _ h => h) (Or.inl ⟨by rfl, ?_⟩) ?_ ?_
                rotate_left
                · intro w'
                  go_simp
                  with_reducible rfl
                rotate_left
                · simp only [Act.put, List.setIfInBounds_toArray, List.set_cons_zero, List.set_cons_succ, i64_w, i32_w]
                  rfl
                refine done_ (done_of HT_.out (by kernel_rfl)) ?_
                try go_wp2
                go_ret
                exact ⟨by first | rfl | (simp [errW_none, errW_some] <;> rfl) | (simp [*, errW_none, errW_some] <;> rfl), by repeat (first | (with_reducible first | exact HB.out | apply below_alloc | apply pw_below_drewN | apply below_drew1 | refine below_set ?_ (IsS94.ge HI286.out) | refine below_set ?_ GE287.out) | exact HB.out)⟩
              · rw [if_neg c119] at H
                have c119b0 : (t288 == t291) = false := beq_eq_false_iff_ne.mpr c119
                have c119b1 : (t288 != t291) = true := bne_iff_ne.mpr c119
                obtain rfl := Option.some.inj H
                exact absurd hr_.out (by simp)

end Go.Proofs.Ytagoofdopgopoaa.POctetReads
