/- Written by a program of the prover: the functions that a law reaches, as plain Lean functions, each with the proof that the call of the machine comes to it. -/
import Derived.Test.YtagoofdopgopoaaPTapeApartx0
import Derived.Test.YtagoofdopgopoaaPTapeApartx2
namespace Go.Proofs.Ytagoofdopgopoaa.PTapeApart
open Go.RowKit Go.Proofs.YtagoofdopgopoaaW.PrintWords Go.Proofs.YtagoofdopgopoaaW.PrintLast Go.Proofs.YtagoofdopgopoaaW.PrintMore
attribute [local go_sem] max2_int min2_int max_two min_two max_three min_three max_four min_four   -- for this text's walks alone
set_option linter.unusedVariables false
set_option linter.unusedSimpArgs false

/-! ### deedboxlaw11_TapeApart: function 5 -/
def deedboxlaw11_TapeApart.f (k : Nat) (a0 : Int) (a1 : Int) (a2 : Int) : Option (Bool) := (tape_Noise.f k a0 (wrap64 (8 + (wrap64 (a2))))).bind fun t171 => ((tape_Noise.f k a1 (wrap64 (8 + (wrap64 (a2))))).bind fun t174 => ((deedboxref01_Same.f k t171 t174).bind fun t177 => (if (t177 == (a0 == a1)) = true then ((deedboxlaw11_works.f k).bind fun t178 => (some t178)) else (some false))))
theorem deedboxlaw11_TapeApart.mono : ∀ a0 a1 a2 k, LeO (deedboxlaw11_TapeApart.f k a0 a1 a2) (deedboxlaw11_TapeApart.f (k + 1) a0 a1 a2) := by
  intro a0 a1 a2 k
  unfold deedboxlaw11_TapeApart.f
  repeat' first
      | (with_reducible exact deedboxlaw11_works.mono _)
      | (with_reducible exact deedboxref01_Same.mono _ _ _)
      | (with_reducible exact tape_Noise.mono _ _ _)
      | (with_reducible exact LeO.refl _)
      | (with_reducible exact LeO.none _)
      | (with_reducible refine LeO.ite ?_ ?_)
      | (with_reducible refine LeO.bind ?_ (fun _ => ?_))
      | exact deedboxlaw11_works.mono _
      | exact deedboxref01_Same.mono _ _ _
      | exact tape_Noise.mono _ _ _
      | exact LeO.none _
      | refine LeO.ite ?_ ?_
      | refine LeO.bind ?_ (fun _ => ?_)
set_option maxHeartbeats 8000000 in
set_option maxRecDepth 100000 in
theorem deedboxlaw11_TapeApart.calls (k : Nat) (a0 : Int) (a1 : Int) (a2 : Int) (r : Bool) (w : World) (h : deedboxlaw11_TapeApart.f k a0 a1 a2 = some r) (hr_ : Aside0 (r = true)) :
    Calls Try.prog 5 #[.int .u64 a0, .int .u64 a1, .int .u8 a2] w fun e w' => e = .returned (.bool r) ∧ Below w.heap.size w w' := by
  have HB := Aside0.mk (Below.refl w.heap.size w)
  have H : ((tape_Noise.f k a0 (wrap64 (8 + (wrap64 (a2))))).bind fun t171 => ((tape_Noise.f k a1 (wrap64 (8 + (wrap64 (a2))))).bind fun t174 => ((deedboxref01_Same.f k t171 t174).bind fun t177 => (if (t177 == (a0 == a1)) = true then ((deedboxlaw11_works.f k).bind fun t178 => (some t178)) else (some false))))) = some r := h
  clear h
  replace H := Option.bind_eq_some_iff.mp H
  obtain ⟨t171, A40, H⟩ := H
  replace H : ((tape_Noise.f k a1 (wrap64 (8 + (wrap64 (a2))))).bind fun t174 => ((deedboxref01_Same.f k t171 t174).bind fun t177 => (if (t177 == (a0 == a1)) = true then ((deedboxlaw11_works.f k).bind fun t178 => (some t178)) else (some false)))) = some r := H
  have A4 := Aside0.mk A40
  clear A40
  replace H := Option.bind_eq_some_iff.mp H
  obtain ⟨t174, A50, H⟩ := H
  replace H : ((deedboxref01_Same.f k t171 t174).bind fun t177 => (if (t177 == (a0 == a1)) = true then ((deedboxlaw11_works.f k).bind fun t178 => (some t178)) else (some false))) = some r := H
  have A5 := Aside0.mk A50
  clear A50
  replace H := Option.bind_eq_some_iff.mp H
  obtain ⟨t177, A60, H⟩ := H
  replace H : (if (t177 == (a0 == a1)) = true then ((deedboxlaw11_works.f k).bind fun t178 => (some t178)) else (some false)) = some r := H
  have A6 := Aside0.mk A60
  clear A60
  by_cases c7 : (t177 == (a0 == a1)) = true
  · rw [if_pos c7] at H
    have c7b0 : (t177 == (a0 == a1)) = true := c7
    (try (have c7b1 : decide (t177 = (a0 == a1)) = true := by simpa using c7))
    (try (have c7b2 : (t177 == (a0 == a1)) = true := by simpa using c7))
    clear c7
    replace H := Option.bind_eq_some_iff.mp H
    obtain ⟨t178, A80, H⟩ := H
    replace H : (some t178) = some r := H
    have A8 := Aside0.mk A80
    clear A80
    obtain rfl := Option.some.inj H
    go_enter Try.func5, Try.ntmps5
    go_wp2_with (first | ((with_reducible refine gate_callee (f := 25) rfl ?_); refine goesL_ (some 13) rfl rfl Try.func25 (by kernel_rfl) rfl #[.int .u64 a0, .int .i64 (wrap64 (8 + (wrap64 (a2))))] rfl (by (try simp only [List.map_toArray, List.map_cons, List.map_nil]); first | done | rfl | (simp only [List.length_drop, List.length_take]; rfl)) ?_; (with_reducible refine (tape_Noise.calls k a0 (wrap64 (8 + (wrap64 (a2)))) t171 _ A4.out).mono ?_); rintro e w9 ⟨v172, rfl, ho0, hb⟩; refine ⟨_, rfl, ?_⟩; have n0_ := Aside0.mk (Kd.R_lower ho0 (below_size (by repeat (first | (with_reducible first | exact HB.out | apply below_alloc | apply pw_below_drewN | apply below_drew1) | exact HB.out)))); have n1_ := Aside0.mk (below_step (by repeat (first | (with_reducible first | exact HB.out | apply below_alloc | apply pw_below_drewN | apply below_drew1) | exact HB.out)) hb); clear HB; have HO173 := n0_; have HB := n1_; clear n0_ n1_; (try clear hb); (try clear hb2); (try clear hk); (try clear hi); (try clear ho0)) | ((with_reducible refine gate_callee (f := 25) rfl ?_); refine goesL_ (some 16) rfl rfl Try.func25 (by kernel_rfl) rfl #[.int .u64 a1, .int .i64 (wrap64 (8 + (wrap64 (a2))))] rfl (by (try simp only [List.map_toArray, List.map_cons, List.map_nil]); first | done | rfl | (simp only [List.length_drop, List.length_take]; rfl)) ?_; (with_reducible refine (tape_Noise.calls k a1 (wrap64 (8 + (wrap64 (a2)))) t174 _ A5.out).mono ?_); rintro e w10 ⟨v175, rfl, ho0, hb⟩; refine ⟨_, rfl, ?_⟩; have n0_ := Aside0.mk (Kd.R_elder' (by (with_reducible repeat (first | apply Kd.R_alloc | apply Kd.R_drewN | apply Kd.R_drew)); exact HO173.out) (Kd.R_base ho0) hb); have n1_ := Aside0.mk (Kd.R_lower (Kd.R_new' ho0 (Kd.R_lt (by (with_reducible repeat (first | apply Kd.R_alloc | apply Kd.R_drewN | apply Kd.R_drew)); exact HO173.out))) (below_size (by repeat (first | (with_reducible first | exact HB.out | apply below_alloc | apply pw_below_drewN | apply below_drew1) | exact HB.out)))); have n2_ := Aside0.mk (below_step (by repeat (first | (with_reducible first | exact HB.out | apply below_alloc | apply pw_below_drewN | apply below_drew1) | exact HB.out)) hb); clear HO173; clear HB; have HO173 := n0_; have HO176 := n1_; have HB := n2_; clear n0_ n1_ n2_; (try clear hb); (try clear hb2); (try clear hk); (try clear hi); (try clear ho0); obtain ⟨Ao11, co11, eo11⟩ := Kd.R_slice HO173.out; subst eo11; obtain ⟨Ao12, co12, eo12⟩ := Kd.R_slice HO176.out; subst eo12) | ((with_reducible refine gate_callee (f := 22) rfl ?_); refine goesL_ (some 17) rfl rfl Try.func22 (by kernel_rfl) rfl #[.slice Ao11 t171.length co11, .slice Ao12 t174.length co12] rfl (by (try simp only [List.map_toArray, List.map_cons, List.map_nil]); first | done | rfl | (simp only [List.length_drop, List.length_take]; rfl)) ?_; (with_reducible refine (deedboxref01_Same.calls k _ _ t171 _ _ t174 t177 _ ?side1 ?side2 ?side3 ?side4 A6.out).mono ?_); (case side1 => repeat (first | exact (Kd.R_reads' HO173.out).2.2 | (with_reducible refine Kd.C_alloc ?_ _) | (with_reducible refine Kd.C_drewN ?_ _) | (with_reducible refine Kd.C_drew ?_))); (case side2 => exact (Kd.R_reads' HO173.out).2.1); (case side3 => repeat (first | exact (Kd.R_reads' HO176.out).2.2 | (with_reducible refine Kd.C_alloc ?_ _) | (with_reducible refine Kd.C_drewN ?_ _) | (with_reducible refine Kd.C_drew ?_))); (case side4 => exact (Kd.R_reads' HO176.out).2.1); rintro e w' ⟨rfl, ⟨nd, rfl⟩⟩; refine ⟨_, rfl, ?_⟩) | (go_at_call 15; (with_reducible refine (deedboxlaw11_works.calls k  t178 _ A8.out hr_).mono ?_); rintro e w13 ⟨rfl, hb⟩; have n0_ := Aside0.mk (Kd.R_below (by (with_reducible repeat (first | apply Kd.R_alloc | apply Kd.R_drewN | apply Kd.R_drew)); exact HO173.out) hb); have n1_ := Aside0.mk (Kd.R_below (by (with_reducible repeat (first | apply Kd.R_alloc | apply Kd.R_drewN | apply Kd.R_drew)); exact HO176.out) hb); have n2_ := Aside0.mk (below_step (by repeat (first | (with_reducible first | exact HB.out | apply below_alloc | apply pw_below_drewN | apply below_drew1) | exact HB.out)) hb); clear HO173; clear HO176; clear HB; have HO173 := n0_; have HO176 := n1_; have HB := n2_; clear n0_ n1_ n2_; (try clear hb); (try clear hb2); (try clear hk); (try clear hi)))
    go_ret
    exact ⟨by first | rfl | (simp [errW_none, errW_some] <;> rfl) | (simp [*, errW_none, errW_some] <;> rfl), by repeat (first | (with_reducible first | exact HB.out | apply below_alloc | apply pw_below_drewN | apply below_drew1) | exact HB.out)⟩
  · rw [if_neg c7] at H
    have c7b0 : (t177 == (a0 == a1)) = false := by simpa using c7
    (try (have c7b1 : decide (t177 = (a0 == a1)) = false := by simpa using c7))
    (try (have c7b2 : (t177 == (a0 == a1)) = false := by simpa using c7))
    (try (have c7b3 : ¬ (t177 = (a0 == a1)) := by simpa using c7))
    clear c7
    obtain rfl := Option.some.inj H
    exact absurd hr_.out (by simp)

/-- THE ONE PURE STATEMENT of deedboxlaw11_TapeApart: yours. -/
def deedboxlaw11_TapeApart.Pure : Prop := ∀ (a0 : Int) (a1 : Int) (a2 : Int), (Lit.int .u64 a0).wf = true → (Lit.int .u64 a1).wf = true → (Lit.int .u8 a2).wf = true → ∃ k, deedboxlaw11_TapeApart.f k a0 a1 a2 = some true
theorem deedboxlaw11_TapeApart.walk (P : deedboxlaw11_TapeApart.Pure) (a0 : Int) (a1 : Int) (a2 : Int) (w : World) (w0 : (Lit.int .u64 a0).wf = true) (w1 : (Lit.int .u64 a1).wf = true) (w2 : (Lit.int .u8 a2).wf = true) :
    Calls Try.prog 5 #[.int .u64 a0, .int .u64 a1, .int .u8 a2] w fun e w' => e = .returned (.bool true) ∧ Below w.heap.size w w' := by
  obtain ⟨k, h⟩ := P a0 a1 a2 w0 w1 w2
  refine (deedboxlaw11_TapeApart.calls k a0 a1 a2 true w h (Aside0.mk rfl)).mono ?_
  rintro e w' ⟨rfl, hd⟩
  exact ⟨rfl, hd⟩

end Go.Proofs.Ytagoofdopgopoaa.PTapeApart
