/- Written by a program of the prover: the functions that a law reaches, as plain Lean functions, each with the proof that the call of the machine comes to it. -/
import Derived.Test.YtagoofdopgopoaaPPathBeginsx0
import Derived.Test.YtagoofdopgopoaaPPathBeginsx1
import Derived.Test.YtagoofdopgopoaaPPathBeginsx2
namespace Go.Proofs.Ytagoofdopgopoaa.PPathBegins
open Go.RowKit Go.Proofs.YtagoofdopgopoaaW.PrintWords Go.Proofs.YtagoofdopgopoaaW.PrintLast Go.Proofs.YtagoofdopgopoaaW.PrintMore
attribute [local go_sem] max2_int min2_int max_two min_two max_three min_three max_four min_four   -- for this text's walks alone
set_option linter.unusedVariables false
set_option linter.unusedSimpArgs false

/-! ### path_Next: function 52 -/
def path_Next.f (k : Nat) (l0 : List Int) : Option (List Int) := (octet_Join.f k (([l0, (([0] : List Int))] : List (List Int)))).bind fun t270 => (some t270)
theorem path_Next.mono : ∀ a0 k, LeO (path_Next.f k a0) (path_Next.f (k + 1) a0) := by
  intro a0 k
  unfold path_Next.f
  repeat' first
      | (with_reducible exact octet_Join.mono _ _)
      | (with_reducible exact LeO.refl _)
      | (with_reducible exact LeO.none _)
      | (with_reducible refine LeO.ite ?_ ?_)
      | (with_reducible refine LeO.bind ?_ (fun _ => ?_))
      | exact octet_Join.mono _ _
      | exact LeO.none _
      | refine LeO.ite ?_ ?_
      | refine LeO.bind ?_ (fun _ => ?_)
set_option maxHeartbeats 8000000 in
set_option maxRecDepth 100000 in
theorem path_Next.calls (k : Nat) (P0_ : Nat → Prop) (A0 : Option Addr) (c0 : Nat) (l0 : List Int) (r : List Int) (w : World) (hs0 : Kd.V (Kd.int .u8) 5 w w.heap.size (fun k_ => P0_ k_) (.slice A0 l0.length c0) l0) (h : path_Next.f k l0 = some r) :
    Calls Try.prog 52 #[.slice A0 l0.length c0] w fun e w' => ∃ v0_ : Value, e = .returned (v0_) ∧ Kd.R (Kd.int .u8) 5 w' w.heap.size (fun k_ => (w.heap.size ≤ k_)) v0_ r ∧ Below w.heap.size w w' := by
  have HO0 := Aside0.mk (show Kd.V (Kd.int .u8) 5 w w.heap.size (fun k_ => (P0_ k_ ∨ w.heap.size ≤ k_)) (.slice A0 l0.length c0) l0 from Kd.V_mono hs0 (fun k_ hk => .inl hk))
  have HB := Aside0.mk (Below.refl w.heap.size w)
  have H : ((octet_Join.f k (([l0, (([0] : List Int))] : List (List Int)))).bind fun t270 => (some t270)) = some r := h
  clear h
  obtain ⟨y264, hy264⟩ : ∃ y_ : List Int, y_ = (([0] : List Int)) := ⟨_, rfl⟩
  replace H : ((octet_Join.f k (([l0, y264] : List (List Int)))).bind fun t270 => (some t270)) = some r := by first | (rw [hy264]; with_reducible exact H) | (have H2_ := (Option.bind_some _ _).symm.trans H; rw [hy264]; with_reducible exact H2_) | (have H2_ := (Option.bind_some _ _).symm.trans H; with_reducible exact H2_) | with_reducible exact H | (rw [hy264]; exact H) | exact H
  have Ny264 := Aside0.mk hy264
  clear hy264
  obtain ⟨y267, hy267⟩ : ∃ y_ : List (List Int), y_ = (([l0, y264] : List (List Int))) := ⟨_, rfl⟩
  replace H : ((octet_Join.f k y267).bind fun t270 => (some t270)) = some r := by first | (rw [hy267]; with_reducible exact H) | (have H2_ := (Option.bind_some _ _).symm.trans H; rw [hy267]; with_reducible exact H2_) | (have H2_ := (Option.bind_some _ _).symm.trans H; with_reducible exact H2_) | with_reducible exact H | (rw [hy267]; exact H) | exact H
  have Ny267 := Aside0.mk hy267
  clear hy267
  replace H := Option.bind_eq_some_iff.mp H
  obtain ⟨t270, A20, H⟩ := H
  replace H : (some t270) = some r := H
  have A2 := Aside0.mk A20
  clear A20
  obtain rfl := Option.some.inj H
  go_enter Try.func52, Try.ntmps52
  go_wp2_with (first | ((with_reducible refine gate_dst (N := 4) rfl ?_); refine Kd.R_lit (Kd.int .u8) _ 5 ?hg (N := 4) ?hd (xs := ([0] : List Int)) (inner := [.int .u8 0]) (ok := fun _ => True) (okp := fun _ => True) ?hr ?hp (fun _ hk => hk) trivial (Below.refl _ _) (Nat.le_refl _) (by simp) ?_; (case hd => rfl); (case hg => rfl); (case hr => first | (go_simp; done) | (go_simp; rfl)); (case hp => exact (Reps.one (show Kd.M (Kd.int .u8) _ _ _ 0 [.int .u8 0] from rfl) (Reps.none _ _))); intro v265 w3 ho4 hb hg_ hnew_; clear hg_ hnew_; (first | rw [← Ny264.out] at ho4 | (simp only [Int.reduceToNat] at ho4; rw [← Ny264.out] at ho4)); have n0_ := Aside0.mk (Kd.V_elder' (by (with_reducible repeat (first | apply Kd.V_alloc | apply Kd.V_drewN | apply Kd.V_drew)); exact HO0.out) (Kd.R_base ho4) hb); have n1_ := Aside0.mk (Kd.R_lower (Kd.R_newM (M := fun k_ => (w.heap.size ≤ k_)) ho4 (below_size (by repeat (first | (with_reducible first | exact HB.out | apply below_alloc | apply pw_below_drewN | apply below_drew1) | exact HB.out))) (fun k_ h_ => h_)) (below_size (by repeat (first | (with_reducible first | exact HB.out | apply below_alloc | apply pw_below_drewN | apply below_drew1) | exact HB.out)))); have n2_ := Aside0.mk (below_step (by repeat (first | (with_reducible first | exact HB.out | apply below_alloc | apply pw_below_drewN | apply below_drew1) | exact HB.out)) hb); clear HO0; clear HB; have HO0 := n0_; have HO266 := n1_; have HB := n2_; clear n0_ n1_ n2_; clear hb ho4; obtain ⟨Ao5, co5, eo5⟩ := Kd.R_slice HO266.out; subst eo5) | ((with_reducible refine gate_dst (N := 5) rfl ?_); refine Kd.N_lit (Kd.slice 5 (Kd.int .u8)) _ 31 ?hg (N' := 5) ?hd (xs := ([l0, y264] : List (List Int))) (inner := [.slice A0 l0.length c0, .slice Ao5 y264.length co5]) (ok := (fun k_ => (P0_ k_ ∨ w.heap.size ≤ k_))) (okp := (fun k_ => (P0_ k_ ∨ w.heap.size ≤ k_))) ?hr ?hp (fun _ hk => hk) ((show ∀ k_, w3.heap.size ≤ k_ → (fun k_ => (P0_ k_ ∨ w.heap.size ≤ k_)) k_ from fun k_ hk => (.inr (Nat.le_trans (below_size (by repeat (first | (with_reducible first | exact HB.out | apply below_alloc | apply pw_below_drewN | apply below_drew1) | exact HB.out))) hk))) _ (Nat.le_refl _)) (Below.refl _ _) (Nat.le_refl _) (by simp) ?_; (case hd => rfl); (case hg => rfl); (case hr => first | (go_simp; done) | (go_simp; rfl)); (case hp => exact (Reps.one (show Kd.FK (Kd.slice 5 (Kd.int .u8)) _ _ l0 [.slice A0 l0.length c0] from (Kd.FK_slice_mk (Kd.V_reads' (Kd.V_mono (ok' := (fun k_ => (P0_ k_ ∨ w.heap.size ≤ k_))) (HO0.out) (fun k_ hk => hk.1))).2.1 (Kd.V_F (Kd.V_mono (ok' := (fun k_ => (P0_ k_ ∨ w.heap.size ≤ k_))) (HO0.out) (fun k_ hk => hk.1))))) (Reps.one (show Kd.FK (Kd.slice 5 (Kd.int .u8)) _ _ y264 [.slice Ao5 y264.length co5] from (Kd.FK_slice_mk (Kd.R_reads' (Kd.R_mono (ok' := (fun k_ => (P0_ k_ ∨ w.heap.size ≤ k_))) (HO266.out) (fun k_ hk => (.inr (hk.1))))).2.1 (Kd.R_F (Kd.R_mono (ok' := (fun k_ => (P0_ k_ ∨ w.heap.size ≤ k_))) (HO266.out) (fun k_ hk => (.inr (hk.1))))))) (Reps.none _ _)))); intro v268 w6 ho7 hb hg_ hnew_; clear hg_ hnew_; (first | rw [← Ny267.out] at ho7 | (simp only [Int.reduceToNat] at ho7; rw [← Ny267.out] at ho7)); have n0_ := Aside0.mk (Kd.V_elder' (by (with_reducible repeat (first | apply Kd.V_alloc | apply Kd.V_drewN | apply Kd.V_drew)); exact HO0.out) (Kd.N_base ho7) hb); have n1_ := Aside0.mk (Kd.N_lower ho7 (below_size (by repeat (first | (with_reducible first | exact HB.out | apply below_alloc | apply pw_below_drewN | apply below_drew1) | exact HB.out)))); have n2_ := Aside0.mk (below_step (by repeat (first | (with_reducible first | exact HB.out | apply below_alloc | apply pw_below_drewN | apply below_drew1) | exact HB.out)) hb); clear HO0; clear HB; clear HO266; have HO0 := n0_; have HO269 := n1_; have HB := n2_; clear n0_ n1_ n2_; clear hb ho7; obtain ⟨Ao8, co8, eo8⟩ := Kd.N_slice HO269.out; subst eo8) | ((with_reducible refine gate_callee (f := 54) rfl ?_); refine goesL_ (some 6) rfl rfl Try.func54 (by kernel_rfl) rfl #[.slice Ao8 y267.length co8] rfl (by (try simp only [List.map_toArray, List.map_cons, List.map_nil]); first | done | rfl | (simp only [List.length_drop, List.length_take]; rfl)) ?_; (with_reducible refine (octet_Join.calls k _ _ y267 t270 _ ?side1 ?side2 A2.out).mono ?_); (case side1 => repeat (first | exact (Kd.N_reads' HO269.out).2.2 | (with_reducible refine Kd.C_alloc ?_ _) | (with_reducible refine Kd.C_drewN ?_ _) | (with_reducible refine Kd.C_drew ?_))); (case side2 => exact (Kd.N_reads' HO269.out).2.1); rintro e w9 ⟨v271, rfl, ho0, hb⟩; refine ⟨_, rfl, ?_⟩; have n0_ := Aside0.mk (Kd.V_elder' (by (with_reducible repeat (first | apply Kd.V_alloc | apply Kd.V_drewN | apply Kd.V_drew)); exact HO0.out) (Kd.R_base ho0) hb); have n1_ := Aside0.mk (Kd.N_elder' (by (with_reducible repeat (first | apply Kd.N_alloc | apply Kd.N_drewN | apply Kd.N_drew)); exact HO269.out) (Kd.R_base ho0) hb); have n2_ := Aside0.mk (Kd.R_lower (Kd.R_newM (M := fun k_ => (w.heap.size ≤ k_)) ho0 (below_size (by repeat (first | (with_reducible first | exact HB.out | apply below_alloc | apply pw_below_drewN | apply below_drew1) | exact HB.out))) (fun k_ h_ => h_)) (below_size (by repeat (first | (with_reducible first | exact HB.out | apply below_alloc | apply pw_below_drewN | apply below_drew1) | exact HB.out)))); have n3_ := Aside0.mk (below_step (by repeat (first | (with_reducible first | exact HB.out | apply below_alloc | apply pw_below_drewN | apply below_drew1) | exact HB.out)) hb); clear HO0; clear HO269; clear HB; have HO0 := n0_; have HO269 := n1_; have HO272 := n2_; have HB := n3_; clear n0_ n1_ n2_ n3_; (try clear hb); (try clear hb2); (try clear hk); (try clear hi); (try clear ho0)))
  go_ret
  exact ⟨_, by first | rfl | (simp [errW_none, errW_some] <;> rfl) | (simp [*, errW_none, errW_some] <;> rfl), by (with_reducible repeat (first | apply Kd.R_alloc | apply Kd.R_drewN | apply Kd.R_drew)); exact Kd.R_mono HO272.out (fun _ hk => hk.1), by repeat (first | (with_reducible first | exact HB.out | apply below_alloc | apply pw_below_drewN | apply below_drew1) | exact HB.out)⟩

/-! ### path_Count: function 79 -/
def path_Count.f (k : Nat)  : Option (List Int) := (path_of.f k 99 ([] : List (List Int))).bind fun t273 => (some t273)
theorem path_Count.mono : ∀ k, LeO (path_Count.f k ) (path_Count.f (k + 1) ) := by
  intro  k
  unfold path_Count.f
  repeat' first
      | (with_reducible exact path_of.mono _ _ _)
      | (with_reducible exact LeO.refl _)
      | (with_reducible exact LeO.none _)
      | (with_reducible refine LeO.ite ?_ ?_)
      | (with_reducible refine LeO.bind ?_ (fun _ => ?_))
      | exact path_of.mono _ _ _
      | exact LeO.none _
      | refine LeO.ite ?_ ?_
      | refine LeO.bind ?_ (fun _ => ?_)
set_option maxHeartbeats 8000000 in
set_option maxRecDepth 100000 in
theorem path_Count.calls (k : Nat)  (r : List Int) (w : World) (h : path_Count.f k  = some r) :
    Calls Try.prog 79 #[] w fun e w' => ∃ v0_ : Value, e = .returned (v0_) ∧ Kd.R (Kd.int .u8) 5 w' w.heap.size (fun _ => True) v0_ r ∧ Below w.heap.size w w' := by
  have HB := Aside0.mk (Below.refl w.heap.size w)
  have H : ((path_of.f k 99 ([] : List (List Int))).bind fun t273 => (some t273)) = some r := h
  clear h
  replace H := Option.bind_eq_some_iff.mp H
  obtain ⟨t273, A10, H⟩ := H
  replace H : (some t273) = some r := H
  have A1 := Aside0.mk A10
  clear A10
  obtain rfl := Option.some.inj H
  go_enter Try.func79, Try.ntmps79
  go_wp2_with (first | ((with_reducible refine gate_callee (f := 82) rfl ?_); refine goesL_ (some 1) rfl rfl Try.func82 (by kernel_rfl) rfl #[.int .u8 99, .slice none 0 0] rfl (by (try simp only [List.map_toArray, List.map_cons, List.map_nil]); first | done | rfl | (simp only [List.length_drop, List.length_take]; rfl)) ?_; (refine (path_of.calls k 99 _ _ ([] : List (List Int)) t273 _ ?side1 ?side2 A1.out).mono ?_); (case side1 => exact Kd.C_nil _ _); (case side2 => exact Nat.le_refl _); rintro e w2 ⟨v274, rfl, ho0, hb⟩; refine ⟨_, rfl, ?_⟩; have n0_ := Aside0.mk (Kd.R_lower ho0 (below_size (by repeat (first | (with_reducible first | exact HB.out | apply below_alloc | apply pw_below_drewN | apply below_drew1) | exact HB.out)))); have n1_ := Aside0.mk (below_step (by repeat (first | (with_reducible first | exact HB.out | apply below_alloc | apply pw_below_drewN | apply below_drew1) | exact HB.out)) hb); clear HB; have HO275 := n0_; have HB := n1_; clear n0_ n1_; (try clear hb); (try clear hb2); (try clear hk); (try clear hi); (try clear ho0)))
  go_ret
  exact ⟨_, by first | rfl | (simp [errW_none, errW_some] <;> rfl) | (simp [*, errW_none, errW_some] <;> rfl), by (with_reducible repeat (first | apply Kd.R_alloc | apply Kd.R_drewN | apply Kd.R_drew)); exact HO275.out, by repeat (first | (with_reducible first | exact HB.out | apply below_alloc | apply pw_below_drewN | apply below_drew1) | exact HB.out)⟩

/-! ### deedboxlaw25_works: function 28 -/
def deedboxlaw25_works.f (k : Nat)  : Option (Bool) := (path_Version.f k 3 (⟨#[107]⟩ : ByteArray) 9).bind fun t276 => ((path_ReadVersion.f k t276).bind fun bt279 => ((path_Upload.f k 3 7).bind fun t282 => ((path_ReadUpload.f k t282).bind fun bt285 => ((path_Part.f k 3 7 5).bind fun t287 => ((path_ReadPart.f k t287).bind fun bt290 => (if bt279.2.2 = true then (if bt279.1.toList = ([107] : List UInt8) then (if bt279.2.1 = 9 then (if bt285.2 = true then (if bt285.1 = 7 then (if bt290.2 = true then (if bt290.1 = 5 then ((path_Names.f k 3 (⟨#[107]⟩ : ByteArray)).bind fun t292 => ((path_Begins.f t276 t292).bind fun t295 => (if t295 = true then ((path_Names.f k 3 (⟨#[]⟩ : ByteArray)).bind fun t296 => ((path_Begins.f t276 t296).bind fun t299 => (if t299 = true then (some false) else ((path_Count.f k).bind fun t300 => (if (strOfNums t300).toList = ([99] : List UInt8) then ((path_Fits.f t276).bind fun t303 => (if t303 = true then ((path_Bucket.f k (⟨#[120]⟩ : ByteArray)).bind fun t304 => (if (strOfNums t304).toList = ([98, 120] : List UInt8) then ((path_Rotate.f k 1).bind fun t307 => (if (t307.length : Int) = 3 then ((path_Next.f k t276).bind fun t310 => (some ((t310.length : Int) == (wrap64 ((t276.length : Int) + 1))))) else (some false))) else (some false))) else (some false))) else (some false)))))) else (some false)))) else (some false)) else (some false)) else (some false)) else (some false)) else (some false)) else (some false)) else (some false)))))))
theorem deedboxlaw25_works.mono : ∀ k, LeO (deedboxlaw25_works.f k ) (deedboxlaw25_works.f (k + 1) ) := by
  intro  k
  unfold deedboxlaw25_works.f
  repeat' first
      | (with_reducible exact path_Bucket.mono _ _)
      | (with_reducible exact path_Count.mono _)
      | (with_reducible exact path_Names.mono _ _ _)
      | (with_reducible exact path_Next.mono _ _)
      | (with_reducible exact path_Part.mono _ _ _ _)
      | (with_reducible exact path_ReadPart.mono _ _)
      | (with_reducible exact path_ReadUpload.mono _ _)
      | (with_reducible exact path_ReadVersion.mono _ _)
      | (with_reducible exact path_Rotate.mono _ _)
      | (with_reducible exact path_Upload.mono _ _ _)
      | (with_reducible exact path_Version.mono _ _ _ _)
      | (with_reducible exact LeO.refl _)
      | (with_reducible exact LeO.none _)
      | (with_reducible refine LeO.ite ?_ ?_)
      | (with_reducible refine LeO.bind ?_ (fun _ => ?_))
      | exact path_Bucket.mono _ _
      | exact path_Count.mono _
      | exact path_Names.mono _ _ _
      | exact path_Next.mono _ _
      | exact path_Part.mono _ _ _ _
      | exact path_ReadPart.mono _ _
      | exact path_ReadUpload.mono _ _
      | exact path_ReadVersion.mono _ _
      | exact path_Rotate.mono _ _
      | exact path_Upload.mono _ _ _
      | exact path_Version.mono _ _ _ _
      | exact LeO.none _
      | refine LeO.ite ?_ ?_
      | refine LeO.bind ?_ (fun _ => ?_)
set_option maxHeartbeats 8000000 in
set_option maxRecDepth 100000 in
theorem deedboxlaw25_works.calls (k : Nat)  (r : Bool) (w : World) (h : deedboxlaw25_works.f k  = some r) (hr_ : Aside0 (r = true)) :
    Calls Try.prog 28 #[] w fun e w' => e = .returned (.bool r) ∧ Below w.heap.size w w' := by
  have HB := Aside0.mk (Below.refl w.heap.size w)
  have H : ((path_Version.f k 3 (⟨#[107]⟩ : ByteArray) 9).bind fun t276 => ((path_ReadVersion.f k t276).bind fun bt279 => ((path_Upload.f k 3 7).bind fun t282 => ((path_ReadUpload.f k t282).bind fun bt285 => ((path_Part.f k 3 7 5).bind fun t287 => ((path_ReadPart.f k t287).bind fun bt290 => (if bt279.2.2 = true then (if bt279.1.toList = ([107] : List UInt8) then (if bt279.2.1 = 9 then (if bt285.2 = true then (if bt285.1 = 7 then (if bt290.2 = true then (if bt290.1 = 5 then ((path_Names.f k 3 (⟨#[107]⟩ : ByteArray)).bind fun t292 => ((path_Begins.f t276 t292).bind fun t295 => (if t295 = true then ((path_Names.f k 3 (⟨#[]⟩ : ByteArray)).bind fun t296 => ((path_Begins.f t276 t296).bind fun t299 => (if t299 = true then (some false) else ((path_Count.f k).bind fun t300 => (if (strOfNums t300).toList = ([99] : List UInt8) then ((path_Fits.f t276).bind fun t303 => (if t303 = true then ((path_Bucket.f k (⟨#[120]⟩ : ByteArray)).bind fun t304 => (if (strOfNums t304).toList = ([98, 120] : List UInt8) then ((path_Rotate.f k 1).bind fun t307 => (if (t307.length : Int) = 3 then ((path_Next.f k t276).bind fun t310 => (some ((t310.length : Int) == (wrap64 ((t276.length : Int) + 1))))) else (some false))) else (some false))) else (some false))) else (some false)))))) else (some false)))) else (some false)) else (some false)) else (some false)) else (some false)) else (some false)) else (some false)) else (some false)))))))) = some r := h
  clear h
  replace H := Option.bind_eq_some_iff.mp H
  obtain ⟨t276, A10, H⟩ := H
  replace H : ((path_ReadVersion.f k t276).bind fun bt279 => ((path_Upload.f k 3 7).bind fun t282 => ((path_ReadUpload.f k t282).bind fun bt285 => ((path_Part.f k 3 7 5).bind fun t287 => ((path_ReadPart.f k t287).bind fun bt290 => (if bt279.2.2 = true then (if bt279.1.toList = ([107] : List UInt8) then (if bt279.2.1 = 9 then (if bt285.2 = true then (if bt285.1 = 7 then (if bt290.2 = true then (if bt290.1 = 5 then ((path_Names.f k 3 (⟨#[107]⟩ : ByteArray)).bind fun t292 => ((path_Begins.f t276 t292).bind fun t295 => (if t295 = true then ((path_Names.f k 3 (⟨#[]⟩ : ByteArray)).bind fun t296 => ((path_Begins.f t276 t296).bind fun t299 => (if t299 = true then (some false) else ((path_Count.f k).bind fun t300 => (if (strOfNums t300).toList = ([99] : List UInt8) then ((path_Fits.f t276).bind fun t303 => (if t303 = true then ((path_Bucket.f k (⟨#[120]⟩ : ByteArray)).bind fun t304 => (if (strOfNums t304).toList = ([98, 120] : List UInt8) then ((path_Rotate.f k 1).bind fun t307 => (if (t307.length : Int) = 3 then ((path_Next.f k t276).bind fun t310 => (some ((t310.length : Int) == (wrap64 ((t276.length : Int) + 1))))) else (some false))) else (some false))) else (some false))) else (some false)))))) else (some false)))) else (some false)) else (some false)) else (some false)) else (some false)) else (some false)) else (some false)) else (some false))))))) = some r := H
  have A1 := Aside0.mk A10
  clear A10
  replace H := Option.bind_eq_some_iff.mp H
  obtain ⟨⟨t279, t280, t281⟩, A20, H⟩ := H
  replace H : ((path_Upload.f k 3 7).bind fun t282 => ((path_ReadUpload.f k t282).bind fun bt285 => ((path_Part.f k 3 7 5).bind fun t287 => ((path_ReadPart.f k t287).bind fun bt290 => (if t281 = true then (if t279.toList = ([107] : List UInt8) then (if t280 = 9 then (if bt285.2 = true then (if bt285.1 = 7 then (if bt290.2 = true then (if bt290.1 = 5 then ((path_Names.f k 3 (⟨#[107]⟩ : ByteArray)).bind fun t292 => ((path_Begins.f t276 t292).bind fun t295 => (if t295 = true then ((path_Names.f k 3 (⟨#[]⟩ : ByteArray)).bind fun t296 => ((path_Begins.f t276 t296).bind fun t299 => (if t299 = true then (some false) else ((path_Count.f k).bind fun t300 => (if (strOfNums t300).toList = ([99] : List UInt8) then ((path_Fits.f t276).bind fun t303 => (if t303 = true then ((path_Bucket.f k (⟨#[120]⟩ : ByteArray)).bind fun t304 => (if (strOfNums t304).toList = ([98, 120] : List UInt8) then ((path_Rotate.f k 1).bind fun t307 => (if (t307.length : Int) = 3 then ((path_Next.f k t276).bind fun t310 => (some ((t310.length : Int) == (wrap64 ((t276.length : Int) + 1))))) else (some false))) else (some false))) else (some false))) else (some false)))))) else (some false)))) else (some false)) else (some false)) else (some false)) else (some false)) else (some false)) else (some false)) else (some false)))))) = some r := H
  have A2 := Aside0.mk A20
  clear A20
  replace H := Option.bind_eq_some_iff.mp H
  obtain ⟨t282, A30, H⟩ := H
  replace H : ((path_ReadUpload.f k t282).bind fun bt285 => ((path_Part.f k 3 7 5).bind fun t287 => ((path_ReadPart.f k t287).bind fun bt290 => (if t281 = true then (if t279.toList = ([107] : List UInt8) then (if t280 = 9 then (if bt285.2 = true then (if bt285.1 = 7 then (if bt290.2 = true then (if bt290.1 = 5 then ((path_Names.f k 3 (⟨#[107]⟩ : ByteArray)).bind fun t292 => ((path_Begins.f t276 t292).bind fun t295 => (if t295 = true then ((path_Names.f k 3 (⟨#[]⟩ : ByteArray)).bind fun t296 => ((path_Begins.f t276 t296).bind fun t299 => (if t299 = true then (some false) else ((path_Count.f k).bind fun t300 => (if (strOfNums t300).toList = ([99] : List UInt8) then ((path_Fits.f t276).bind fun t303 => (if t303 = true then ((path_Bucket.f k (⟨#[120]⟩ : ByteArray)).bind fun t304 => (if (strOfNums t304).toList = ([98, 120] : List UInt8) then ((path_Rotate.f k 1).bind fun t307 => (if (t307.length : Int) = 3 then ((path_Next.f k t276).bind fun t310 => (some ((t310.length : Int) == (wrap64 ((t276.length : Int) + 1))))) else (some false))) else (some false))) else (some false))) else (some false)))))) else (some false)))) else (some false)) else (some false)) else (some false)) else (some false)) else (some false)) else (some false)) else (some false))))) = some r := H
  have A3 := Aside0.mk A30
  clear A30
  replace H := Option.bind_eq_some_iff.mp H
  obtain ⟨⟨t285, t286⟩, A40, H⟩ := H
  replace H : ((path_Part.f k 3 7 5).bind fun t287 => ((path_ReadPart.f k t287).bind fun bt290 => (if t281 = true then (if t279.toList = ([107] : List UInt8) then (if t280 = 9 then (if t286 = true then (if t285 = 7 then (if bt290.2 = true then (if bt290.1 = 5 then ((path_Names.f k 3 (⟨#[107]⟩ : ByteArray)).bind fun t292 => ((path_Begins.f t276 t292).bind fun t295 => (if t295 = true then ((path_Names.f k 3 (⟨#[]⟩ : ByteArray)).bind fun t296 => ((path_Begins.f t276 t296).bind fun t299 => (if t299 = true then (some false) else ((path_Count.f k).bind fun t300 => (if (strOfNums t300).toList = ([99] : List UInt8) then ((path_Fits.f t276).bind fun t303 => (if t303 = true then ((path_Bucket.f k (⟨#[120]⟩ : ByteArray)).bind fun t304 => (if (strOfNums t304).toList = ([98, 120] : List UInt8) then ((path_Rotate.f k 1).bind fun t307 => (if (t307.length : Int) = 3 then ((path_Next.f k t276).bind fun t310 => (some ((t310.length : Int) == (wrap64 ((t276.length : Int) + 1))))) else (some false))) else (some false))) else (some false))) else (some false)))))) else (some false)))) else (some false)) else (some false)) else (some false)) else (some false)) else (some false)) else (some false)) else (some false)))) = some r := H
  have A4 := Aside0.mk A40
  clear A40
  replace H := Option.bind_eq_some_iff.mp H
  obtain ⟨t287, A50, H⟩ := H
  replace H : ((path_ReadPart.f k t287).bind fun bt290 => (if t281 = true then (if t279.toList = ([107] : List UInt8) then (if t280 = 9 then (if t286 = true then (if t285 = 7 then (if bt290.2 = true then (if bt290.1 = 5 then ((path_Names.f k 3 (⟨#[107]⟩ : ByteArray)).bind fun t292 => ((path_Begins.f t276 t292).bind fun t295 => (if t295 = true then ((path_Names.f k 3 (⟨#[]⟩ : ByteArray)).bind fun t296 => ((path_Begins.f t276 t296).bind fun t299 => (if t299 = true then (some false) else ((path_Count.f k).bind fun t300 => (if (strOfNums t300).toList = ([99] : List UInt8) then ((path_Fits.f t276).bind fun t303 => (if t303 = true then ((path_Bucket.f k (⟨#[120]⟩ : ByteArray)).bind fun t304 => (if (strOfNums t304).toList = ([98, 120] : List UInt8) then ((path_Rotate.f k 1).bind fun t307 => (if (t307.length : Int) = 3 then ((path_Next.f k t276).bind fun t310 => (some ((t310.length : Int) == (wrap64 ((t276.length : Int) + 1))))) else (some false))) else (some false))) else (some false))) else (some false)))))) else (some false)))) else (some false)) else (some false)) else (some false)) else (some false)) else (some false)) else (some false)) else (some false))) = some r := H
  have A5 := Aside0.mk A50
  clear A50
  replace H := Option.bind_eq_some_iff.mp H
  obtain ⟨⟨t290, t291⟩, A60, H⟩ := H
  replace H : (if t281 = true then (if t279.toList = ([107] : List UInt8) then (if t280 = 9 then (if t286 = true then (if t285 = 7 then (if t291 = true then (if t290 = 5 then ((path_Names.f k 3 (⟨#[107]⟩ : ByteArray)).bind fun t292 => ((path_Begins.f t276 t292).bind fun t295 => (if t295 = true then ((path_Names.f k 3 (⟨#[]⟩ : ByteArray)).bind fun t296 => ((path_Begins.f t276 t296).bind fun t299 => (if t299 = true then (some false) else ((path_Count.f k).bind fun t300 => (if (strOfNums t300).toList = ([99] : List UInt8) then ((path_Fits.f t276).bind fun t303 => (if t303 = true then ((path_Bucket.f k (⟨#[120]⟩ : ByteArray)).bind fun t304 => (if (strOfNums t304).toList = ([98, 120] : List UInt8) then ((path_Rotate.f k 1).bind fun t307 => (if (t307.length : Int) = 3 then ((path_Next.f k t276).bind fun t310 => (some ((t310.length : Int) == (wrap64 ((t276.length : Int) + 1))))) else (some false))) else (some false))) else (some false))) else (some false)))))) else (some false)))) else (some false)) else (some false)) else (some false)) else (some false)) else (some false)) else (some false)) else (some false)) = some r := H
  have A6 := Aside0.mk A60
  clear A60
  by_cases c7 : t281 = true
  · subst c7
    have H1 : (if t279.toList = ([107] : List UInt8) then (if t280 = 9 then (if t286 = true then (if t285 = 7 then (if t291 = true then (if t290 = 5 then ((path_Names.f k 3 (⟨#[107]⟩ : ByteArray)).bind fun t292 => ((path_Begins.f t276 t292).bind fun t295 => (if t295 = true then ((path_Names.f k 3 (⟨#[]⟩ : ByteArray)).bind fun t296 => ((path_Begins.f t276 t296).bind fun t299 => (if t299 = true then (some false) else ((path_Count.f k).bind fun t300 => (if (strOfNums t300).toList = ([99] : List UInt8) then ((path_Fits.f t276).bind fun t303 => (if t303 = true then ((path_Bucket.f k (⟨#[120]⟩ : ByteArray)).bind fun t304 => (if (strOfNums t304).toList = ([98, 120] : List UInt8) then ((path_Rotate.f k 1).bind fun t307 => (if (t307.length : Int) = 3 then ((path_Next.f k t276).bind fun t310 => (some ((t310.length : Int) == (wrap64 ((t276.length : Int) + 1))))) else (some false))) else (some false))) else (some false))) else (some false)))))) else (some false)))) else (some false)) else (some false)) else (some false)) else (some false)) else (some false)) else (some false)) = some r := by rw [if_pos rfl] at H; exact H
    clear H
    have H := H1
    clear H1
    by_cases c8 : t279.toList = ([107] : List UInt8)
    · rw [if_pos c8] at H
      have c8b0 : (t279.toList == ([107] : List UInt8)) = true := beq_iff_eq.mpr c8
      have c8b1 : (t279.toList != ([107] : List UInt8)) = false := bne_eq_false_iff_eq.mpr c8
      clear c8
      by_cases c9 : t280 = 9
      · rw [if_pos c9] at H
        have c9b0 : (t280 == 9) = true := beq_iff_eq.mpr c9
        have c9b1 : (t280 != 9) = false := bne_eq_false_iff_eq.mpr c9
        clear c9
        by_cases c10 : t286 = true
        · subst c10
          have H1 : (if t285 = 7 then (if t291 = true then (if t290 = 5 then ((path_Names.f k 3 (⟨#[107]⟩ : ByteArray)).bind fun t292 => ((path_Begins.f t276 t292).bind fun t295 => (if t295 = true then ((path_Names.f k 3 (⟨#[]⟩ : ByteArray)).bind fun t296 => ((path_Begins.f t276 t296).bind fun t299 => (if t299 = true then (some false) else ((path_Count.f k).bind fun t300 => (if (strOfNums t300).toList = ([99] : List UInt8) then ((path_Fits.f t276).bind fun t303 => (if t303 = true then ((path_Bucket.f k (⟨#[120]⟩ : ByteArray)).bind fun t304 => (if (strOfNums t304).toList = ([98, 120] : List UInt8) then ((path_Rotate.f k 1).bind fun t307 => (if (t307.length : Int) = 3 then ((path_Next.f k t276).bind fun t310 => (some ((t310.length : Int) == (wrap64 ((t276.length : Int) + 1))))) else (some false))) else (some false))) else (some false))) else (some false)))))) else (some false)))) else (some false)) else (some false)) else (some false)) = some r := by rw [if_pos rfl] at H; exact H
          clear H
          have H := H1
          clear H1
          by_cases c11 : t285 = 7
          · rw [if_pos c11] at H
            have c11b0 : (t285 == 7) = true := beq_iff_eq.mpr c11
            have c11b1 : (t285 != 7) = false := bne_eq_false_iff_eq.mpr c11
            clear c11
            by_cases c12 : t291 = true
            · subst c12
              have H1 : (if t290 = 5 then ((path_Names.f k 3 (⟨#[107]⟩ : ByteArray)).bind fun t292 => ((path_Begins.f t276 t292).bind fun t295 => (if t295 = true then ((path_Names.f k 3 (⟨#[]⟩ : ByteArray)).bind fun t296 => ((path_Begins.f t276 t296).bind fun t299 => (if t299 = true then (some false) else ((path_Count.f k).bind fun t300 => (if (strOfNums t300).toList = ([99] : List UInt8) then ((path_Fits.f t276).bind fun t303 => (if t303 = true then ((path_Bucket.f k (⟨#[120]⟩ : ByteArray)).bind fun t304 => (if (strOfNums t304).toList = ([98, 120] : List UInt8) then ((path_Rotate.f k 1).bind fun t307 => (if (t307.length : Int) = 3 then ((path_Next.f k t276).bind fun t310 => (some ((t310.length : Int) == (wrap64 ((t276.length : Int) + 1))))) else (some false))) else (some false))) else (some false))) else (some false)))))) else (some false)))) else (some false)) = some r := by rw [if_pos rfl] at H; exact H
              clear H
              have H := H1
              clear H1
              by_cases c13 : t290 = 5
              · rw [if_pos c13] at H
                have c13b0 : (t290 == 5) = true := beq_iff_eq.mpr c13
                have c13b1 : (t290 != 5) = false := bne_eq_false_iff_eq.mpr c13
                clear c13
                replace H := Option.bind_eq_some_iff.mp H
                obtain ⟨t292, A140, H⟩ := H
                replace H : ((path_Begins.f t276 t292).bind fun t295 => (if t295 = true then ((path_Names.f k 3 (⟨#[]⟩ : ByteArray)).bind fun t296 => ((path_Begins.f t276 t296).bind fun t299 => (if t299 = true then (some false) else ((path_Count.f k).bind fun t300 => (if (strOfNums t300).toList = ([99] : List UInt8) then ((path_Fits.f t276).bind fun t303 => (if t303 = true then ((path_Bucket.f k (⟨#[120]⟩ : ByteArray)).bind fun t304 => (if (strOfNums t304).toList = ([98, 120] : List UInt8) then ((path_Rotate.f k 1).bind fun t307 => (if (t307.length : Int) = 3 then ((path_Next.f k t276).bind fun t310 => (some ((t310.length : Int) == (wrap64 ((t276.length : Int) + 1))))) else (some false))) else (some false))) else (some false))) else (some false)))))) else (some false))) = some r := H
                have A14 := Aside0.mk A140
                clear A140
                replace H := Option.bind_eq_some_iff.mp H
                obtain ⟨t295, A150, H⟩ := H
                replace H : (if t295 = true then ((path_Names.f k 3 (⟨#[]⟩ : ByteArray)).bind fun t296 => ((path_Begins.f t276 t296).bind fun t299 => (if t299 = true then (some false) else ((path_Count.f k).bind fun t300 => (if (strOfNums t300).toList = ([99] : List UInt8) then ((path_Fits.f t276).bind fun t303 => (if t303 = true then ((path_Bucket.f k (⟨#[120]⟩ : ByteArray)).bind fun t304 => (if (strOfNums t304).toList = ([98, 120] : List UInt8) then ((path_Rotate.f k 1).bind fun t307 => (if (t307.length : Int) = 3 then ((path_Next.f k t276).bind fun t310 => (some ((t310.length : Int) == (wrap64 ((t276.length : Int) + 1))))) else (some false))) else (some false))) else (some false))) else (some false)))))) else (some false)) = some r := H
                have A15 := Aside0.mk A150
                clear A150
                by_cases c16 : t295 = true
                · subst c16
                  have H1 : ((path_Names.f k 3 (⟨#[]⟩ : ByteArray)).bind fun t296 => ((path_Begins.f t276 t296).bind fun t299 => (if t299 = true then (some false) else ((path_Count.f k).bind fun t300 => (if (strOfNums t300).toList = ([99] : List UInt8) then ((path_Fits.f t276).bind fun t303 => (if t303 = true then ((path_Bucket.f k (⟨#[120]⟩ : ByteArray)).bind fun t304 => (if (strOfNums t304).toList = ([98, 120] : List UInt8) then ((path_Rotate.f k 1).bind fun t307 => (if (t307.length : Int) = 3 then ((path_Next.f k t276).bind fun t310 => (some ((t310.length : Int) == (wrap64 ((t276.length : Int) + 1))))) else (some false))) else (some false))) else (some false))) else (some false)))))) = some r := by rw [if_pos rfl] at H; exact H
                  clear H
                  have H := H1
                  clear H1
                  replace H := Option.bind_eq_some_iff.mp H
                  obtain ⟨t296, A170, H⟩ := H
                  replace H : ((path_Begins.f t276 t296).bind fun t299 => (if t299 = true then (some false) else ((path_Count.f k).bind fun t300 => (if (strOfNums t300).toList = ([99] : List UInt8) then ((path_Fits.f t276).bind fun t303 => (if t303 = true then ((path_Bucket.f k (⟨#[120]⟩ : ByteArray)).bind fun t304 => (if (strOfNums t304).toList = ([98, 120] : List UInt8) then ((path_Rotate.f k 1).bind fun t307 => (if (t307.length : Int) = 3 then ((path_Next.f k t276).bind fun t310 => (some ((t310.length : Int) == (wrap64 ((t276.length : Int) + 1))))) else (some false))) else (some false))) else (some false))) else (some false))))) = some r := H
                  have A17 := Aside0.mk A170
                  clear A170
                  replace H := Option.bind_eq_some_iff.mp H
                  obtain ⟨t299, A180, H⟩ := H
                  replace H : (if t299 = true then (some false) else ((path_Count.f k).bind fun t300 => (if (strOfNums t300).toList = ([99] : List UInt8) then ((path_Fits.f t276).bind fun t303 => (if t303 = true then ((path_Bucket.f k (⟨#[120]⟩ : ByteArray)).bind fun t304 => (if (strOfNums t304).toList = ([98, 120] : List UInt8) then ((path_Rotate.f k 1).bind fun t307 => (if (t307.length : Int) = 3 then ((path_Next.f k t276).bind fun t310 => (some ((t310.length : Int) == (wrap64 ((t276.length : Int) + 1))))) else (some false))) else (some false))) else (some false))) else (some false)))) = some r := H
                  have A18 := Aside0.mk A180
                  clear A180
                  by_cases c19 : t299 = true
                  · subst c19
                    have H1 : (some false) = some r := by rw [if_pos rfl] at H; exact H
                    clear H
                    have H := H1
                    clear H1
                    obtain rfl := Option.some.inj H
                    exact absurd hr_.out (by simp)
                  · replace c19 := Bool.eq_false_iff.mpr c19
                    subst c19
                    have H1 : ((path_Count.f k).bind fun t300 => (if (strOfNums t300).toList = ([99] : List UInt8) then ((path_Fits.f t276).bind fun t303 => (if t303 = true then ((path_Bucket.f k (⟨#[120]⟩ : ByteArray)).bind fun t304 => (if (strOfNums t304).toList = ([98, 120] : List UInt8) then ((path_Rotate.f k 1).bind fun t307 => (if (t307.length : Int) = 3 then ((path_Next.f k t276).bind fun t310 => (some ((t310.length : Int) == (wrap64 ((t276.length : Int) + 1))))) else (some false))) else (some false))) else (some false))) else (some false))) = some r := by rw [if_neg (show ¬ (false = true) by decide)] at H; exact H
                    clear H
                    have H := H1
                    clear H1
                    replace H := Option.bind_eq_some_iff.mp H
                    obtain ⟨t300, A200, H⟩ := H
                    replace H : (if (strOfNums t300).toList = ([99] : List UInt8) then ((path_Fits.f t276).bind fun t303 => (if t303 = true then ((path_Bucket.f k (⟨#[120]⟩ : ByteArray)).bind fun t304 => (if (strOfNums t304).toList = ([98, 120] : List UInt8) then ((path_Rotate.f k 1).bind fun t307 => (if (t307.length : Int) = 3 then ((path_Next.f k t276).bind fun t310 => (some ((t310.length : Int) == (wrap64 ((t276.length : Int) + 1))))) else (some false))) else (some false))) else (some false))) else (some false)) = some r := H
                    have A20 := Aside0.mk A200
                    clear A200
                    by_cases c21 : (strOfNums t300).toList = ([99] : List UInt8)
                    · rw [if_pos c21] at H
                      have c21b0 : ((strOfNums t300).toList == ([99] : List UInt8)) = true := beq_iff_eq.mpr c21
                      have c21b1 : ((strOfNums t300).toList != ([99] : List UInt8)) = false := bne_eq_false_iff_eq.mpr c21
                      clear c21
                      replace H := Option.bind_eq_some_iff.mp H
                      obtain ⟨t303, A220, H⟩ := H
                      replace H : (if t303 = true then ((path_Bucket.f k (⟨#[120]⟩ : ByteArray)).bind fun t304 => (if (strOfNums t304).toList = ([98, 120] : List UInt8) then ((path_Rotate.f k 1).bind fun t307 => (if (t307.length : Int) = 3 then ((path_Next.f k t276).bind fun t310 => (some ((t310.length : Int) == (wrap64 ((t276.length : Int) + 1))))) else (some false))) else (some false))) else (some false)) = some r := H
                      have A22 := Aside0.mk A220
                      clear A220
                      by_cases c23 : t303 = true
                      · subst c23
                        have H1 : ((path_Bucket.f k (⟨#[120]⟩ : ByteArray)).bind fun t304 => (if (strOfNums t304).toList = ([98, 120] : List UInt8) then ((path_Rotate.f k 1).bind fun t307 => (if (t307.length : Int) = 3 then ((path_Next.f k t276).bind fun t310 => (some ((t310.length : Int) == (wrap64 ((t276.length : Int) + 1))))) else (some false))) else (some false))) = some r := by rw [if_pos rfl] at H; exact H
                        clear H
                        have H := H1
                        clear H1
                        replace H := Option.bind_eq_some_iff.mp H
                        obtain ⟨t304, A240, H⟩ := H
                        replace H : (if (strOfNums t304).toList = ([98, 120] : List UInt8) then ((path_Rotate.f k 1).bind fun t307 => (if (t307.length : Int) = 3 then ((path_Next.f k t276).bind fun t310 => (some ((t310.length : Int) == (wrap64 ((t276.length : Int) + 1))))) else (some false))) else (some false)) = some r := H
                        have A24 := Aside0.mk A240
                        clear A240
                        by_cases c25 : (strOfNums t304).toList = ([98, 120] : List UInt8)
                        · rw [if_pos c25] at H
                          have c25b0 : ((strOfNums t304).toList == ([98, 120] : List UInt8)) = true := beq_iff_eq.mpr c25
                          have c25b1 : ((strOfNums t304).toList != ([98, 120] : List UInt8)) = false := bne_eq_false_iff_eq.mpr c25
                          clear c25
                          replace H := Option.bind_eq_some_iff.mp H
                          obtain ⟨t307, A260, H⟩ := H
                          replace H : (if (t307.length : Int) = 3 then ((path_Next.f k t276).bind fun t310 => (some ((t310.length : Int) == (wrap64 ((t276.length : Int) + 1))))) else (some false)) = some r := H
                          have A26 := Aside0.mk A260
                          clear A260
                          by_cases c27 : (t307.length : Int) = 3
                          · rw [if_pos c27] at H
                            have c27b0 : ((t307.length : Int) == 3) = true := beq_iff_eq.mpr c27
                            have c27b1 : ((t307.length : Int) != 3) = false := bne_eq_false_iff_eq.mpr c27
                            clear c27
                            replace H := Option.bind_eq_some_iff.mp H
                            obtain ⟨t310, A280, H⟩ := H
                            replace H : (some ((t310.length : Int) == (wrap64 ((t276.length : Int) + 1)))) = some r := H
                            have A28 := Aside0.mk A280
                            clear A280
                            obtain rfl := Option.some.inj H
                            go_enter Try.func28, Try.ntmps28
                            go_wp2_with (first | ((with_reducible refine gate_callee (f := 32) rfl ?_); refine goesL_ (some 9) rfl rfl Try.func32 (by kernel_rfl) rfl #[.int .i64 3, .string (⟨#[107]⟩ : ByteArray), .int .i64 9] rfl (by (try simp only [List.map_toArray, List.map_cons, List.map_nil]); first | done | rfl | (simp only [List.length_drop, List.length_take]; rfl)) ?_; (with_reducible refine (path_Version.calls k 3 (⟨#[107]⟩ : ByteArray) 9 t276 _ A1.out).mono ?_); rintro e w29 ⟨v277, rfl, ho0, hb⟩; refine ⟨_, rfl, ?_⟩; have n0_ := Aside0.mk (Kd.R_lower ho0 (below_size (by repeat (first | (with_reducible first | exact HB.out | apply below_alloc | apply pw_below_drewN | apply below_drew1) | exact HB.out)))); have n1_ := Aside0.mk (below_step (by repeat (first | (with_reducible first | exact HB.out | apply below_alloc | apply pw_below_drewN | apply below_drew1) | exact HB.out)) hb); clear HB; have HO278 := n0_; have HB := n1_; clear n0_ n1_; (try clear hb); (try clear hb2); (try clear hk); (try clear hi); (try clear ho0); obtain ⟨Ao30, co30, eo30⟩ := Kd.R_slice HO278.out; subst eo30) | ((with_reducible refine gate_callee (f := 43) rfl ?_); refine goesL_ (some 12) rfl rfl Try.func43 (by kernel_rfl) rfl #[.slice Ao30 t276.length co30] rfl (by (try simp only [List.map_toArray, List.map_cons, List.map_nil]); first | done | rfl | (simp only [List.length_drop, List.length_take]; rfl)) ?_; (with_reducible refine (path_ReadVersion.calls k _ _ t276 t279 t280 true _ ?side1 ?side2 A2.out).mono ?_); (case side1 => repeat (first | exact (Kd.R_reads' HO278.out).2.2 | (with_reducible refine Kd.C_alloc ?_ _) | (with_reducible refine Kd.C_drewN ?_ _) | (with_reducible refine Kd.C_drew ?_))); (case side2 => exact (Kd.R_reads' HO278.out).2.1); rintro e w' ⟨rfl, ⟨nd, rfl⟩⟩; refine ⟨_, rfl, ?_⟩) | ((with_reducible refine gate_callee (f := 35) rfl ?_); refine goesL_ (some 17) rfl rfl Try.func35 (by kernel_rfl) rfl #[.int .i64 3, .int .i64 7] rfl (by (try simp only [List.map_toArray, List.map_cons, List.map_nil]); first | done | rfl | (simp only [List.length_drop, List.length_take]; rfl)) ?_; (with_reducible refine (path_Upload.calls k 3 7 t282 _ A3.out).mono ?_); rintro e w31 ⟨v283, rfl, ho0, hb⟩; refine ⟨_, rfl, ?_⟩; have n0_ := Aside0.mk (Kd.R_elder' (by (with_reducible repeat (first | apply Kd.R_alloc | apply Kd.R_drewN | apply Kd.R_drew)); exact HO278.out) (Kd.R_base ho0) hb); have n1_ := Aside0.mk (Kd.R_lower (Kd.R_new' ho0 (Kd.R_lt (by (with_reducible repeat (first | apply Kd.R_alloc | apply Kd.R_drewN | apply Kd.R_drew)); exact HO278.out))) (below_size (by repeat (first | (with_reducible first | exact HB.out | apply below_alloc | apply pw_below_drewN | apply below_drew1) | exact HB.out)))); have n2_ := Aside0.mk (below_step (by repeat (first | (with_reducible first | exact HB.out | apply below_alloc | apply pw_below_drewN | apply below_drew1) | exact HB.out)) hb); clear HO278; clear HB; have HO278 := n0_; have HO284 := n1_; have HB := n2_; clear n0_ n1_ n2_; (try clear hb); (try clear hb2); (try clear hk); (try clear hi); (try clear ho0); obtain ⟨Ao32, co32, eo32⟩ := Kd.R_slice HO284.out; subst eo32) | ((with_reducible refine gate_callee (f := 44) rfl ?_); refine goesL_ (some 18) rfl rfl Try.func44 (by kernel_rfl) rfl #[.slice Ao32 t282.length co32] rfl (by (try simp only [List.map_toArray, List.map_cons, List.map_nil]); first | done | rfl | (simp only [List.length_drop, List.length_take]; rfl)) ?_; (with_reducible refine (path_ReadUpload.calls k _ _ t282 t285 true _ ?side1 ?side2 A4.out).mono ?_); (case side1 => repeat (first | exact (Kd.R_reads' HO284.out).2.2 | (with_reducible refine Kd.C_alloc ?_ _) | (with_reducible refine Kd.C_drewN ?_ _) | (with_reducible refine Kd.C_drew ?_))); (case side2 => exact (Kd.R_reads' HO284.out).2.1); rintro e w' ⟨rfl, ⟨nd, rfl⟩⟩; refine ⟨_, rfl, ?_⟩) | ((with_reducible refine gate_callee (f := 37) rfl ?_); refine goesL_ (some 22) rfl rfl Try.func37 (by kernel_rfl) rfl #[.int .i64 3, .int .i64 7, .int .i64 5] rfl (by (try simp only [List.map_toArray, List.map_cons, List.map_nil]); first | done | rfl | (simp only [List.length_drop, List.length_take]; rfl)) ?_; (with_reducible refine (path_Part.calls k 3 7 5 t287 _ A5.out).mono ?_); rintro e w33 ⟨v288, rfl, ho0, hb⟩; refine ⟨_, rfl, ?_⟩; have n0_ := Aside0.mk (Kd.R_elder' (by (with_reducible repeat (first | apply Kd.R_alloc | apply Kd.R_drewN | apply Kd.R_drew)); exact HO278.out) (Kd.R_base ho0) hb); have n1_ := Aside0.mk (Kd.R_elder' (by (with_reducible repeat (first | apply Kd.R_alloc | apply Kd.R_drewN | apply Kd.R_drew)); exact HO284.out) (Kd.R_base ho0) hb); have n2_ := Aside0.mk (Kd.R_lower (Kd.R_new' (Kd.R_new' ho0 (Kd.R_lt (by (with_reducible repeat (first | apply Kd.R_alloc | apply Kd.R_drewN | apply Kd.R_drew)); exact HO278.out))) (Kd.R_lt (by (with_reducible repeat (first | apply Kd.R_alloc | apply Kd.R_drewN | apply Kd.R_drew)); exact HO284.out))) (below_size (by repeat (first | (with_reducible first | exact HB.out | apply below_alloc | apply pw_below_drewN | apply below_drew1) | exact HB.out)))); have n3_ := Aside0.mk (below_step (by repeat (first | (with_reducible first | exact HB.out | apply below_alloc | apply pw_below_drewN | apply below_drew1) | exact HB.out)) hb); clear HO278; clear HO284; clear HB; have HO278 := n0_; have HO284 := n1_; have HO289 := n2_; have HB := n3_; clear n0_ n1_ n2_ n3_; (try clear hb); (try clear hb2); (try clear hk); (try clear hi); (try clear ho0); obtain ⟨Ao34, co34, eo34⟩ := Kd.R_slice HO289.out; subst eo34) | ((with_reducible refine gate_callee (f := 45) rfl ?_); refine goesL_ (some 23) rfl rfl Try.func45 (by kernel_rfl) rfl #[.slice Ao34 t287.length co34] rfl (by (try simp only [List.map_toArray, List.map_cons, List.map_nil]); first | done | rfl | (simp only [List.length_drop, List.length_take]; rfl)) ?_; (with_reducible refine (path_ReadPart.calls k _ _ t287 t290 true _ ?side1 ?side2 A6.out).mono ?_); (case side1 => repeat (first | exact (Kd.R_reads' HO289.out).2.2 | (with_reducible refine Kd.C_alloc ?_ _) | (with_reducible refine Kd.C_drewN ?_ _) | (with_reducible refine Kd.C_drew ?_))); (case side2 => exact (Kd.R_reads' HO289.out).2.1); rintro e w' ⟨rfl, ⟨nd, rfl⟩⟩; refine ⟨_, rfl, ?_⟩) | (go_at_call 33; (with_reducible refine (path_Names.calls k 3 (⟨#[107]⟩ : ByteArray) t292 _ A14.out).mono ?_); rintro e w35 ⟨v293, rfl, ho0, hb⟩; have n0_ := Aside0.mk (Kd.R_elder' (by (with_reducible repeat (first | apply Kd.R_alloc | apply Kd.R_drewN | apply Kd.R_drew)); exact HO278.out) (Kd.R_base ho0) hb); have n1_ := Aside0.mk (Kd.R_elder' (by (with_reducible repeat (first | apply Kd.R_alloc | apply Kd.R_drewN | apply Kd.R_drew)); exact HO284.out) (Kd.R_base ho0) hb); have n2_ := Aside0.mk (Kd.R_elder' (by (with_reducible repeat (first | apply Kd.R_alloc | apply Kd.R_drewN | apply Kd.R_drew)); exact HO289.out) (Kd.R_base ho0) hb); have n3_ := Aside0.mk (Kd.R_lower (Kd.R_new' (Kd.R_new' (Kd.R_new' ho0 (Kd.R_lt (by (with_reducible repeat (first | apply Kd.R_alloc | apply Kd.R_drewN | apply Kd.R_drew)); exact HO278.out))) (Kd.R_lt (by (with_reducible repeat (first | apply Kd.R_alloc | apply Kd.R_drewN | apply Kd.R_drew)); exact HO284.out))) (Kd.R_lt (by (with_reducible repeat (first | apply Kd.R_alloc | apply Kd.R_drewN | apply Kd.R_drew)); exact HO289.out))) (below_size (by repeat (first | (with_reducible first | exact HB.out | apply below_alloc | apply pw_below_drewN | apply below_drew1) | exact HB.out)))); have n4_ := Aside0.mk (below_step (by repeat (first | (with_reducible first | exact HB.out | apply below_alloc | apply pw_below_drewN | apply below_drew1) | exact HB.out)) hb); clear HO278; clear HO284; clear HO289; clear HB; have HO278 := n0_; have HO284 := n1_; have HO289 := n2_; have HO294 := n3_; have HB := n4_; clear n0_ n1_ n2_ n3_ n4_; (try clear hb); (try clear hb2); (try clear hk); (try clear hi); (try clear ho0); obtain ⟨Ao36, co36, eo36⟩ := Kd.R_slice HO294.out; subst eo36) | (go_at_call 48; (with_reducible refine (path_Begins.calls _ _ t276 _ _ t292 true _ ?side1 ?side2 ?side3 ?side4 A15.out).mono ?_); (case side1 => repeat (first | exact (Kd.R_reads' HO278.out).2.2 | (with_reducible refine Kd.C_alloc ?_ _) | (with_reducible refine Kd.C_drewN ?_ _) | (with_reducible refine Kd.C_drew ?_))); (case side2 => exact (Kd.R_reads' HO278.out).2.1); (case side3 => repeat (first | exact (Kd.R_reads' HO294.out).2.2 | (with_reducible refine Kd.C_alloc ?_ _) | (with_reducible refine Kd.C_drewN ?_ _) | (with_reducible refine Kd.C_drew ?_))); (case side4 => exact (Kd.R_reads' HO294.out).2.1); rintro e w' ⟨rfl, ⟨nd, rfl⟩⟩) | (go_at_call 33; (with_reducible refine (path_Names.calls k 3 (⟨#[]⟩ : ByteArray) t296 _ A17.out).mono ?_); rintro e w37 ⟨v297, rfl, ho0, hb⟩; have n0_ := Aside0.mk (Kd.R_elder' (by (with_reducible repeat (first | apply Kd.R_alloc | apply Kd.R_drewN | apply Kd.R_drew)); exact HO278.out) (Kd.R_base ho0) hb); have n1_ := Aside0.mk (Kd.R_elder' (by (with_reducible repeat (first | apply Kd.R_alloc | apply Kd.R_drewN | apply Kd.R_drew)); exact HO284.out) (Kd.R_base ho0) hb); have n2_ := Aside0.mk (Kd.R_elder' (by (with_reducible repeat (first | apply Kd.R_alloc | apply Kd.R_drewN | apply Kd.R_drew)); exact HO289.out) (Kd.R_base ho0) hb); have n3_ := Aside0.mk (Kd.R_elder' (by (with_reducible repeat (first | apply Kd.R_alloc | apply Kd.R_drewN | apply Kd.R_drew)); exact HO294.out) (Kd.R_base ho0) hb); have n4_ := Aside0.mk (Kd.R_lower (Kd.R_new' (Kd.R_new' (Kd.R_new' (Kd.R_new' ho0 (Kd.R_lt (by (with_reducible repeat (first | apply Kd.R_alloc | apply Kd.R_drewN | apply Kd.R_drew)); exact HO278.out))) (Kd.R_lt (by (with_reducible repeat (first | apply Kd.R_alloc | apply Kd.R_drewN | apply Kd.R_drew)); exact HO284.out))) (Kd.R_lt (by (with_reducible repeat (first | apply Kd.R_alloc | apply Kd.R_drewN | apply Kd.R_drew)); exact HO289.out))) (Kd.R_lt (by (with_reducible repeat (first | apply Kd.R_alloc | apply Kd.R_drewN | apply Kd.R_drew)); exact HO294.out))) (below_size (by repeat (first | (with_reducible first | exact HB.out | apply below_alloc | apply pw_below_drewN | apply below_drew1) | exact HB.out)))); have n5_ := Aside0.mk (below_step (by repeat (first | (with_reducible first | exact HB.out | apply below_alloc | apply pw_below_drewN | apply below_drew1) | exact HB.out)) hb); clear HO278; clear HO284; clear HO289; clear HO294; clear HB; have HO278 := n0_; have HO284 := n1_; have HO289 := n2_; have HO294 := n3_; have HO298 := n4_; have HB := n5_; clear n0_ n1_ n2_ n3_ n4_ n5_; (try clear hb); (try clear hb2); (try clear hk); (try clear hi); (try clear ho0); obtain ⟨Ao38, co38, eo38⟩ := Kd.R_slice HO298.out; subst eo38) | (go_at_call 48; (with_reducible refine (path_Begins.calls _ _ t276 _ _ t296 false _ ?side1 ?side2 ?side3 ?side4 A18.out).mono ?_); (case side1 => repeat (first | exact (Kd.R_reads' HO278.out).2.2 | (with_reducible refine Kd.C_alloc ?_ _) | (with_reducible refine Kd.C_drewN ?_ _) | (with_reducible refine Kd.C_drew ?_))); (case side2 => exact (Kd.R_reads' HO278.out).2.1); (case side3 => repeat (first | exact (Kd.R_reads' HO298.out).2.2 | (with_reducible refine Kd.C_alloc ?_ _) | (with_reducible refine Kd.C_drewN ?_ _) | (with_reducible refine Kd.C_drew ?_))); (case side4 => exact (Kd.R_reads' HO298.out).2.1); rintro e w' ⟨rfl, ⟨nd, rfl⟩⟩) | (go_at_call 79; (with_reducible refine (path_Count.calls k  t300 _ A20.out).mono ?_); rintro e w39 ⟨v301, rfl, ho0, hb⟩; have n0_ := Aside0.mk (Kd.R_elder' (by (with_reducible repeat (first | apply Kd.R_alloc | apply Kd.R_drewN | apply Kd.R_drew)); exact HO278.out) (Kd.R_base ho0) hb); have n1_ := Aside0.mk (Kd.R_elder' (by (with_reducible repeat (first | apply Kd.R_alloc | apply Kd.R_drewN | apply Kd.R_drew)); exact HO284.out) (Kd.R_base ho0) hb); have n2_ := Aside0.mk (Kd.R_elder' (by (with_reducible repeat (first | apply Kd.R_alloc | apply Kd.R_drewN | apply Kd.R_drew)); exact HO289.out) (Kd.R_base ho0) hb); have n3_ := Aside0.mk (Kd.R_elder' (by (with_reducible repeat (first | apply Kd.R_alloc | apply Kd.R_drewN | apply Kd.R_drew)); exact HO294.out) (Kd.R_base ho0) hb); have n4_ := Aside0.mk (Kd.R_elder' (by (with_reducible repeat (first | apply Kd.R_alloc | apply Kd.R_drewN | apply Kd.R_drew)); exact HO298.out) (Kd.R_base ho0) hb); have n5_ := Aside0.mk (Kd.R_lower (Kd.R_new' (Kd.R_new' (Kd.R_new' (Kd.R_new' (Kd.R_new' ho0 (Kd.R_lt (by (with_reducible repeat (first | apply Kd.R_alloc | apply Kd.R_drewN | apply Kd.R_drew)); exact HO278.out))) (Kd.R_lt (by (with_reducible repeat (first | apply Kd.R_alloc | apply Kd.R_drewN | apply Kd.R_drew)); exact HO284.out))) (Kd.R_lt (by (with_reducible repeat (first | apply Kd.R_alloc | apply Kd.R_drewN | apply Kd.R_drew)); exact HO289.out))) (Kd.R_lt (by (with_reducible repeat (first | apply Kd.R_alloc | apply Kd.R_drewN | apply Kd.R_drew)); exact HO294.out))) (Kd.R_lt (by (with_reducible repeat (first | apply Kd.R_alloc | apply Kd.R_drewN | apply Kd.R_drew)); exact HO298.out))) (below_size (by repeat (first | (with_reducible first | exact HB.out | apply below_alloc | apply pw_below_drewN | apply below_drew1) | exact HB.out)))); have n6_ := Aside0.mk (below_step (by repeat (first | (with_reducible first | exact HB.out | apply below_alloc | apply pw_below_drewN | apply below_drew1) | exact HB.out)) hb); clear HO278; clear HO284; clear HO289; clear HO294; clear HO298; clear HB; have HO278 := n0_; have HO284 := n1_; have HO289 := n2_; have HO294 := n3_; have HO298 := n4_; have HO302 := n5_; have HB := n6_; clear n0_ n1_ n2_ n3_ n4_ n5_ n6_; (try clear hb); (try clear hb2); (try clear hk); (try clear hi); (try clear ho0); have hcv40 := own_string (P := Try.prog) Try.underlying31 Try.underlying5 Try.underlying9 (Kd.own_of_R HO302.out)) | (go_at_call 46; (with_reducible refine (path_Fits.calls _ _ t276 true _ ?side1 ?side2 A22.out).mono ?_); (case side1 => repeat (first | exact (Kd.R_reads' HO278.out).2.2 | (with_reducible refine Kd.C_alloc ?_ _) | (with_reducible refine Kd.C_drewN ?_ _) | (with_reducible refine Kd.C_drew ?_))); (case side2 => exact (Kd.R_reads' HO278.out).2.1); rintro e w' ⟨rfl, ⟨nd, rfl⟩⟩) | (go_at_call 39; (with_reducible refine (path_Bucket.calls k (⟨#[120]⟩ : ByteArray) t304 _ A24.out).mono ?_); rintro e w41 ⟨v305, rfl, ho0, hb⟩; have n0_ := Aside0.mk (Kd.R_elder' (by (with_reducible repeat (first | apply Kd.R_alloc | apply Kd.R_drewN | apply Kd.R_drew)); exact HO278.out) (Kd.R_base ho0) hb); have n1_ := Aside0.mk (Kd.R_elder' (by (with_reducible repeat (first | apply Kd.R_alloc | apply Kd.R_drewN | apply Kd.R_drew)); exact HO284.out) (Kd.R_base ho0) hb); have n2_ := Aside0.mk (Kd.R_elder' (by (with_reducible repeat (first | apply Kd.R_alloc | apply Kd.R_drewN | apply Kd.R_drew)); exact HO289.out) (Kd.R_base ho0) hb); have n3_ := Aside0.mk (Kd.R_elder' (by (with_reducible repeat (first | apply Kd.R_alloc | apply Kd.R_drewN | apply Kd.R_drew)); exact HO294.out) (Kd.R_base ho0) hb); have n4_ := Aside0.mk (Kd.R_elder' (by (with_reducible repeat (first | apply Kd.R_alloc | apply Kd.R_drewN | apply Kd.R_drew)); exact HO298.out) (Kd.R_base ho0) hb); have n5_ := Aside0.mk (Kd.R_elder' (by (with_reducible repeat (first | apply Kd.R_alloc | apply Kd.R_drewN | apply Kd.R_drew)); exact HO302.out) (Kd.R_base ho0) hb); have n6_ := Aside0.mk (Kd.R_lower (Kd.R_new' (Kd.R_new' (Kd.R_new' (Kd.R_new' (Kd.R_new' (Kd.R_new' ho0 (Kd.R_lt (by (with_reducible repeat (first | apply Kd.R_alloc | apply Kd.R_drewN | apply Kd.R_drew)); exact HO278.out))) (Kd.R_lt (by (with_reducible repeat (first | apply Kd.R_alloc | apply Kd.R_drewN | apply Kd.R_drew)); exact HO284.out))) (Kd.R_lt (by (with_reducible repeat (first | apply Kd.R_alloc | apply Kd.R_drewN | apply Kd.R_drew)); exact HO289.out))) (Kd.R_lt (by (with_reducible repeat (first | apply Kd.R_alloc | apply Kd.R_drewN | apply Kd.R_drew)); exact HO294.out))) (Kd.R_lt (by (with_reducible repeat (first | apply Kd.R_alloc | apply Kd.R_drewN | apply Kd.R_drew)); exact HO298.out))) (Kd.R_lt (by (with_reducible repeat (first | apply Kd.R_alloc | apply Kd.R_drewN | apply Kd.R_drew)); exact HO302.out))) (below_size (by repeat (first | (with_reducible first | exact HB.out | apply below_alloc | apply pw_below_drewN | apply below_drew1) | exact HB.out)))); have n7_ := Aside0.mk (below_step (by repeat (first | (with_reducible first | exact HB.out | apply below_alloc | apply pw_below_drewN | apply below_drew1) | exact HB.out)) hb); clear HO278; clear HO284; clear HO289; clear HO294; clear HO298; clear HO302; clear HB; have HO278 := n0_; have HO284 := n1_; have HO289 := n2_; have HO294 := n3_; have HO298 := n4_; have HO302 := n5_; have HO306 := n6_; have HB := n7_; clear n0_ n1_ n2_ n3_ n4_ n5_ n6_ n7_; (try clear hb); (try clear hb2); (try clear hk); (try clear hi); (try clear ho0); have hcv42 := own_string (P := Try.prog) Try.underlying31 Try.underlying5 Try.underlying9 (Kd.own_of_R HO306.out)) | (go_at_call 41; (with_reducible refine (path_Rotate.calls k 1 t307 _ A26.out).mono ?_); rintro e w43 ⟨v308, rfl, ho0, hb⟩; have n0_ := Aside0.mk (Kd.R_elder' (by (with_reducible repeat (first | apply Kd.R_alloc | apply Kd.R_drewN | apply Kd.R_drew)); exact HO278.out) (Kd.R_base ho0) hb); have n1_ := Aside0.mk (Kd.R_elder' (by (with_reducible repeat (first | apply Kd.R_alloc | apply Kd.R_drewN | apply Kd.R_drew)); exact HO284.out) (Kd.R_base ho0) hb); have n2_ := Aside0.mk (Kd.R_elder' (by (with_reducible repeat (first | apply Kd.R_alloc | apply Kd.R_drewN | apply Kd.R_drew)); exact HO289.out) (Kd.R_base ho0) hb); have n3_ := Aside0.mk (Kd.R_elder' (by (with_reducible repeat (first | apply Kd.R_alloc | apply Kd.R_drewN | apply Kd.R_drew)); exact HO294.out) (Kd.R_base ho0) hb); have n4_ := Aside0.mk (Kd.R_elder' (by (with_reducible repeat (first | apply Kd.R_alloc | apply Kd.R_drewN | apply Kd.R_drew)); exact HO298.out) (Kd.R_base ho0) hb); have n5_ := Aside0.mk (Kd.R_elder' (by (with_reducible repeat (first | apply Kd.R_alloc | apply Kd.R_drewN | apply Kd.R_drew)); exact HO302.out) (Kd.R_base ho0) hb); have n6_ := Aside0.mk (Kd.R_elder' (by (with_reducible repeat (first | apply Kd.R_alloc | apply Kd.R_drewN | apply Kd.R_drew)); exact HO306.out) (Kd.R_base ho0) hb); have n7_ := Aside0.mk (Kd.R_lower (Kd.R_new' (Kd.R_new' (Kd.R_new' (Kd.R_new' (Kd.R_new' (Kd.R_new' (Kd.R_new' ho0 (Kd.R_lt (by (with_reducible repeat (first | apply Kd.R_alloc | apply Kd.R_drewN | apply Kd.R_drew)); exact HO278.out))) (Kd.R_lt (by (with_reducible repeat (first | apply Kd.R_alloc | apply Kd.R_drewN | apply Kd.R_drew)); exact HO284.out))) (Kd.R_lt (by (with_reducible repeat (first | apply Kd.R_alloc | apply Kd.R_drewN | apply Kd.R_drew)); exact HO289.out))) (Kd.R_lt (by (with_reducible repeat (first | apply Kd.R_alloc | apply Kd.R_drewN | apply Kd.R_drew)); exact HO294.out))) (Kd.R_lt (by (with_reducible repeat (first | apply Kd.R_alloc | apply Kd.R_drewN | apply Kd.R_drew)); exact HO298.out))) (Kd.R_lt (by (with_reducible repeat (first | apply Kd.R_alloc | apply Kd.R_drewN | apply Kd.R_drew)); exact HO302.out))) (Kd.R_lt (by (with_reducible repeat (first | apply Kd.R_alloc | apply Kd.R_drewN | apply Kd.R_drew)); exact HO306.out))) (below_size (by repeat (first | (with_reducible first | exact HB.out | apply below_alloc | apply pw_below_drewN | apply below_drew1) | exact HB.out)))); have n8_ := Aside0.mk (below_step (by repeat (first | (with_reducible first | exact HB.out | apply below_alloc | apply pw_below_drewN | apply below_drew1) | exact HB.out)) hb); clear HO278; clear HO284; clear HO289; clear HO294; clear HO298; clear HO302; clear HO306; clear HB; have HO278 := n0_; have HO284 := n1_; have HO289 := n2_; have HO294 := n3_; have HO298 := n4_; have HO302 := n5_; have HO306 := n6_; have HO309 := n7_; have HB := n8_; clear n0_ n1_ n2_ n3_ n4_ n5_ n6_ n7_ n8_; (try clear hb); (try clear hb2); (try clear hk); (try clear hi); (try clear ho0); obtain ⟨Ao44, co44, eo44⟩ := Kd.R_slice HO309.out; subst eo44) | (go_at_call 52; (with_reducible refine (path_Next.calls k (fun k_ => some k_ = (.slice Ao30 t276.length co30 : Value).ownBlock) _ _ t276 t310 _ ?side1 A28.out).mono ?_); (case side1 => exact Kd.R_V (Kd.R_tight rfl (HO278.out))); rintro e w45 ⟨v311, rfl, ho0, hb⟩; have n0_ := Aside0.mk (Kd.R_elder' (by (with_reducible repeat (first | apply Kd.R_alloc | apply Kd.R_drewN | apply Kd.R_drew)); exact HO278.out) (Kd.R_base ho0) hb); have n1_ := Aside0.mk (Kd.R_elder' (by (with_reducible repeat (first | apply Kd.R_alloc | apply Kd.R_drewN | apply Kd.R_drew)); exact HO284.out) (Kd.R_base ho0) hb); have n2_ := Aside0.mk (Kd.R_elder' (by (with_reducible repeat (first | apply Kd.R_alloc | apply Kd.R_drewN | apply Kd.R_drew)); exact HO289.out) (Kd.R_base ho0) hb); have n3_ := Aside0.mk (Kd.R_elder' (by (with_reducible repeat (first | apply Kd.R_alloc | apply Kd.R_drewN | apply Kd.R_drew)); exact HO294.out) (Kd.R_base ho0) hb); have n4_ := Aside0.mk (Kd.R_elder' (by (with_reducible repeat (first | apply Kd.R_alloc | apply Kd.R_drewN | apply Kd.R_drew)); exact HO298.out) (Kd.R_base ho0) hb); have n5_ := Aside0.mk (Kd.R_elder' (by (with_reducible repeat (first | apply Kd.R_alloc | apply Kd.R_drewN | apply Kd.R_drew)); exact HO302.out) (Kd.R_base ho0) hb); have n6_ := Aside0.mk (Kd.R_elder' (by (with_reducible repeat (first | apply Kd.R_alloc | apply Kd.R_drewN | apply Kd.R_drew)); exact HO306.out) (Kd.R_base ho0) hb); have n7_ := Aside0.mk (Kd.R_elder' (by (with_reducible repeat (first | apply Kd.R_alloc | apply Kd.R_drewN | apply Kd.R_drew)); exact HO309.out) (Kd.R_base ho0) hb); have n8_ := Aside0.mk (Kd.R_lower (Kd.R_new' (Kd.R_new' (Kd.R_new' (Kd.R_new' (Kd.R_new' (Kd.R_new' (Kd.R_new' (Kd.R_new' (Kd.R_mono (ok' := fun k_ => True) ho0 (fun _ hk_ => trivial)) (Kd.R_lt (by (with_reducible repeat (first | apply Kd.R_alloc | apply Kd.R_drewN | apply Kd.R_drew)); exact HO278.out))) (Kd.R_lt (by (with_reducible repeat (first | apply Kd.R_alloc | apply Kd.R_drewN | apply Kd.R_drew)); exact HO284.out))) (Kd.R_lt (by (with_reducible repeat (first | apply Kd.R_alloc | apply Kd.R_drewN | apply Kd.R_drew)); exact HO289.out))) (Kd.R_lt (by (with_reducible repeat (first | apply Kd.R_alloc | apply Kd.R_drewN | apply Kd.R_drew)); exact HO294.out))) (Kd.R_lt (by (with_reducible repeat (first | apply Kd.R_alloc | apply Kd.R_drewN | apply Kd.R_drew)); exact HO298.out))) (Kd.R_lt (by (with_reducible repeat (first | apply Kd.R_alloc | apply Kd.R_drewN | apply Kd.R_drew)); exact HO302.out))) (Kd.R_lt (by (with_reducible repeat (first | apply Kd.R_alloc | apply Kd.R_drewN | apply Kd.R_drew)); exact HO306.out))) (Kd.R_lt (by (with_reducible repeat (first | apply Kd.R_alloc | apply Kd.R_drewN | apply Kd.R_drew)); exact HO309.out))) (below_size (by repeat (first | (with_reducible first | exact HB.out | apply below_alloc | apply pw_below_drewN | apply below_drew1) | exact HB.out)))); have n9_ := Aside0.mk (below_step (by repeat (first | (with_reducible first | exact HB.out | apply below_alloc | apply pw_below_drewN | apply below_drew1) | exact HB.out)) hb); clear HO278; clear HO284; clear HO289; clear HO294; clear HO298; clear HO302; clear HO306; clear HO309; clear HB; have HO278 := n0_; have HO284 := n1_; have HO289 := n2_; have HO294 := n3_; have HO298 := n4_; have HO302 := n5_; have HO306 := n6_; have HO309 := n7_; have HO312 := n8_; have HB := n9_; clear n0_ n1_ n2_ n3_ n4_ n5_ n6_ n7_ n8_ n9_; (try clear hb); (try clear hb2); (try clear hk); (try clear hi); (try clear ho0); obtain ⟨Ao46, co46, eo46⟩ := Kd.R_slice HO312.out; subst eo46))
                            go_ret
                            exact ⟨by first | rfl | (simp [errW_none, errW_some] <;> rfl) | (simp [*, errW_none, errW_some] <;> rfl), by repeat (first | (with_reducible first | exact HB.out | apply below_alloc | apply pw_below_drewN | apply below_drew1) | exact HB.out)⟩
                          · rw [if_neg c27] at H
                            have c27b0 : ((t307.length : Int) == 3) = false := beq_eq_false_iff_ne.mpr c27
                            have c27b1 : ((t307.length : Int) != 3) = true := bne_iff_ne.mpr c27
                            obtain rfl := Option.some.inj H
                            exact absurd hr_.out (by simp)
                        · rw [if_neg c25] at H
                          have c25b0 : ((strOfNums t304).toList == ([98, 120] : List UInt8)) = false := beq_eq_false_iff_ne.mpr c25
                          have c25b1 : ((strOfNums t304).toList != ([98, 120] : List UInt8)) = true := bne_iff_ne.mpr c25
                          obtain rfl := Option.some.inj H
                          exact absurd hr_.out (by simp)
                      · replace c23 := Bool.eq_false_iff.mpr c23
                        subst c23
                        have H1 : (some false) = some r := by rw [if_neg (show ¬ (false = true) by decide)] at H; exact H
                        clear H
                        have H := H1
                        clear H1
                        obtain rfl := Option.some.inj H
                        exact absurd hr_.out (by simp)
                    · rw [if_neg c21] at H
                      have c21b0 : ((strOfNums t300).toList == ([99] : List UInt8)) = false := beq_eq_false_iff_ne.mpr c21
                      have c21b1 : ((strOfNums t300).toList != ([99] : List UInt8)) = true := bne_iff_ne.mpr c21
                      obtain rfl := Option.some.inj H
                      exact absurd hr_.out (by simp)
                · replace c16 := Bool.eq_false_iff.mpr c16
                  subst c16
                  have H1 : (some false) = some r := by rw [if_neg (show ¬ (false = true) by decide)] at H; exact H
                  clear H
                  have H := H1
                  clear H1
                  obtain rfl := Option.some.inj H
                  exact absurd hr_.out (by simp)
              · rw [if_neg c13] at H
                have c13b0 : (t290 == 5) = false := beq_eq_false_iff_ne.mpr c13
                have c13b1 : (t290 != 5) = true := bne_iff_ne.mpr c13
                obtain rfl := Option.some.inj H
                exact absurd hr_.out (by simp)
            · replace c12 := Bool.eq_false_iff.mpr c12
              subst c12
              have H1 : (some false) = some r := by rw [if_neg (show ¬ (false = true) by decide)] at H; exact H
              clear H
              have H := H1
              clear H1
              obtain rfl := Option.some.inj H
              exact absurd hr_.out (by simp)
          · rw [if_neg c11] at H
            have c11b0 : (t285 == 7) = false := beq_eq_false_iff_ne.mpr c11
            have c11b1 : (t285 != 7) = true := bne_iff_ne.mpr c11
            obtain rfl := Option.some.inj H
            exact absurd hr_.out (by simp)
        · replace c10 := Bool.eq_false_iff.mpr c10
          subst c10
          have H1 : (some false) = some r := by rw [if_neg (show ¬ (false = true) by decide)] at H; exact H
          clear H
          have H := H1
          clear H1
          obtain rfl := Option.some.inj H
          exact absurd hr_.out (by simp)
      · rw [if_neg c9] at H
        have c9b0 : (t280 == 9) = false := beq_eq_false_iff_ne.mpr c9
        have c9b1 : (t280 != 9) = true := bne_iff_ne.mpr c9
        obtain rfl := Option.some.inj H
        exact absurd hr_.out (by simp)
    · rw [if_neg c8] at H
      have c8b0 : (t279.toList == ([107] : List UInt8)) = false := beq_eq_false_iff_ne.mpr c8
      have c8b1 : (t279.toList != ([107] : List UInt8)) = true := bne_iff_ne.mpr c8
      obtain rfl := Option.some.inj H
      exact absurd hr_.out (by simp)
  · replace c7 := Bool.eq_false_iff.mpr c7
    subst c7
    have H1 : (some false) = some r := by rw [if_neg (show ¬ (false = true) by decide)] at H; exact H
    clear H
    have H := H1
    clear H1
    obtain rfl := Option.some.inj H
    exact absurd hr_.out (by simp)

/-! ### deedboxref18_Less: function 47 -/
mutual
def deedboxref18_Less.l0 : Nat → List Int → List Int → Int → Option (Bool)
  | 0, _, _, _ => none
  | k + 1, x0, x1, x5 => if x5 < (x0.length : Int) then (deedboxref18_Less.j1 k x0 x1 x5 (decide (x5 < (x1.length : Int)))) else (deedboxref18_Less.j1 k x0 x1 x5 false)
def deedboxref18_Less.j1 : Nat → List Int → List Int → Int → Bool → Option (Bool)
  | 0, _, _, _, _ => none
  | k + 1, x0, x1, x5, x15 => if x15 = true then (if 0 ≤ x5 then (if x5 < (x0.length : Int) then (if x5 < (x1.length : Int) then (if (rd x0 x5) = (rd x1 x5) then (deedboxref18_Less.l0 k x0 x1 (wrap64 (x5 + 1))) else (some (decide ((rd x0 x5) < (rd x1 x5))))) else (none)) else (none)) else (none)) else (some (decide ((x0.length : Int) < (x1.length : Int))))
end
def deedboxref18_Less.f (k : Nat) (l0 : List Int) (l1 : List Int) : Option (Bool) := deedboxref18_Less.l0 k l0 l1 0
theorem deedboxref18_Less.mono_l : ∀ k, (∀ y0 y1 y2, LeO (deedboxref18_Less.l0 k y0 y1 y2) (deedboxref18_Less.l0 (k + 1) y0 y1 y2)) ∧ (∀ y0 y1 y2 y3, LeO (deedboxref18_Less.j1 k y0 y1 y2 y3) (deedboxref18_Less.j1 (k + 1) y0 y1 y2 y3))
  | 0 => ⟨fun _ _ _ r h => by simp [deedboxref18_Less.l0] at h, fun _ _ _ _ r h => by simp [deedboxref18_Less.j1] at h⟩
  | k + 1 => by
    obtain ⟨ih0, ih1⟩ := deedboxref18_Less.mono_l k
    refine ⟨?_, ?_⟩
    · intro y0 y1 y2
      unfold deedboxref18_Less.l0
      repeat' first
      | (with_reducible exact ih0 _ _ _)
      | (with_reducible exact ih1 _ _ _ _)
      | (with_reducible exact LeO.refl _)
      | (with_reducible exact LeO.none _)
      | (with_reducible refine LeO.ite ?_ ?_)
      | (with_reducible refine LeO.bind ?_ (fun _ => ?_))
      | exact ih0 _ _ _
      | exact ih1 _ _ _ _
      | exact LeO.none _
      | refine LeO.ite ?_ ?_
      | refine LeO.bind ?_ (fun _ => ?_)
    · intro y0 y1 y2 y3
      unfold deedboxref18_Less.j1
      repeat' first
      | (with_reducible exact ih0 _ _ _)
      | (with_reducible exact ih1 _ _ _ _)
      | (with_reducible exact LeO.refl _)
      | (with_reducible exact LeO.none _)
      | (with_reducible refine LeO.ite ?_ ?_)
      | (with_reducible refine LeO.bind ?_ (fun _ => ?_))
      | exact ih0 _ _ _
      | exact ih1 _ _ _ _
      | exact LeO.none _
      | refine LeO.ite ?_ ?_
      | refine LeO.bind ?_ (fun _ => ?_)
theorem deedboxref18_Less.mono : ∀ a0 a1 k, LeO (deedboxref18_Less.f k a0 a1) (deedboxref18_Less.f (k + 1) a0 a1) := by
  intro a0 a1 k
  obtain ⟨ih0, ih1⟩ := deedboxref18_Less.mono_l k
  unfold deedboxref18_Less.f
  repeat' first
      | (with_reducible exact ih0 _ _ _)
      | (with_reducible exact ih1 _ _ _ _)
      | (with_reducible exact LeO.refl _)
      | (with_reducible exact LeO.none _)
      | (with_reducible refine LeO.ite ?_ ?_)
      | (with_reducible refine LeO.bind ?_ (fun _ => ?_))
      | exact ih0 _ _ _
      | exact ih1 _ _ _ _
      | exact LeO.none _
      | refine LeO.ite ?_ ?_
      | refine LeO.bind ?_ (fun _ => ?_)
set_option maxHeartbeats 8000000 in
set_option maxRecDepth 100000 in
theorem deedboxref18_Less.calls (k : Nat) (A0 : Option Addr) (c0 : Nat) (l0 : List Int) (A1 : Option Addr) (c1 : Nat) (l1 : List Int) (r : Bool) (w : World) (hr0 : Kd.C (Kd.int .u8) w A0 l0.length l0) (hc0 : l0.length ≤ c0) (hr1 : Kd.C (Kd.int .u8) w A1 l1.length l1) (hc1 : l1.length ≤ c1) (h : deedboxref18_Less.f k l0 l1 = some r) :
    Calls Try.prog 47 #[.slice A0 l0.length c0, .slice A1 l1.length c1] w fun e w' => e = .returned (.bool r) ∧ Drawn0 w w' := by
  have HR0 := Aside0.mk hr0
  have HC0 := Aside0.mk hc0
  clear hr0 hc0
  have HR1 := Aside0.mk hr1
  have HC1 := Aside0.mk hc1
  clear hr1 hc1
  have H : (deedboxref18_Less.l0 k l0 l1 0) = some r := h
  clear h
  have H' := Aside0.mk H
  clear H
  go_enter Try.func47, Try.ntmps47
  go_wp2
  repeat (go_quiet (fail); try go_wp2)
  go_loopg [5] k (fun kq v5 w' => ∃ (x5_1 : Int), v5 = .int .i64 x5_1 ∧ Aside0 (deedboxref18_Less.l0 kq l0 l1 x5_1 = some r) ∧ Aside0 (kq ≤ k) ∧ Drawn0 w w')
  case atStart => exact ⟨(0), (by first | rfl | (simp; done) | (simp [*]; done)), H', ⟨Nat.le_refl _⟩, by repeat (first | exact Drawn0.refl _ | apply Drawn0.step)⟩
  case round =>
    clear H'
    try clear c1
    try clear p2
    obtain ⟨x5_1, rfl, HA, HK1, ⟨m1, rfl⟩⟩ := hrel
    cases gk with
    | zero => exact absurd HA.out (by simp [deedboxref18_Less.l0])
    | succ k1 =>
      have H := HA.out
      clear HA
      simp only [deedboxref18_Less.l0] at H
      have HC3 := Aside0.mk H
      clear H
      go_upto_region 2 with (fail)
      repeat (go_quiet (fail); go_upto_region 2 with (fail))
      go_cut [15] (fun v15 wc => ∃ (kq : Nat) (x15_2 : Bool), v15 = .bool x15_2 ∧ Aside0 (deedboxref18_Less.j1 kq l0 l1 x5_1 x15_2 = some r) ∧ Aside0 (kq ≤ k1) ∧ Drawn0 w wc)
      case first =>
        have H := HC3.out
        clear HC3
        by_cases c4 : x5_1 < (l0.length : Int)
        · rw [if_pos c4] at H
          have c4b0 : decide (x5_1 < (l0.length : Int)) = true := decide_eq_true c4
          clear c4
          (first | rw [c4b0] | (simp only [i64_w, i32_w]; rw [c4b0]) | skip)
          have H' := Aside0.mk H
          clear H
          go_wp2
          repeat (go_quiet (fail); try go_wp2)
          go_meet
          case rel => exact ⟨_, (decide (x5_1 < (l1.length : Int))), (by first | rfl | (simp; done) | (simp [*]; done)), H', ⟨by have := HK1.out; first | omega | exact Nat.le_refl _⟩, by repeat (first | exact Drawn0.refl _ | apply Drawn0.step)⟩
        · rw [if_neg c4] at H
          have c4b0 : decide (x5_1 < (l0.length : Int)) = false := decide_eq_false c4
          clear c4
          (first | rw [c4b0] | (simp only [i64_w, i32_w]; rw [c4b0]) | skip)
          have H' := Aside0.mk H
          clear H
          go_wp2
          repeat (go_quiet (fail); try go_wp2)
          go_meet
          case rel => exact ⟨_, (false), (by first | rfl | (simp; done) | (simp [*]; done)), H', ⟨by have := HK1.out; first | omega | exact Nat.le_refl _⟩, by repeat (first | exact Drawn0.refl _ | apply Drawn0.step)⟩
      case rest =>
        clear HC3
        try clear c1
        try clear p2
        try clear c4
        try clear c4b0
        try clear p2
        obtain ⟨kq, x15_2, rfl, HA, HJ2, ⟨mc2, rfl⟩⟩ := hcut
        cases kq with
        | zero => exact absurd HA.out (by simp [deedboxref18_Less.j1])
        | succ kj2 =>
          have H := HA.out
          clear HA
          simp only [deedboxref18_Less.j1] at H
          by_cases c5 : x15_2 = true
          · subst c5
            have H1 : (if 0 ≤ x5_1 then (if x5_1 < (l0.length : Int) then (if x5_1 < (l1.length : Int) then (if (rd l0 x5_1) = (rd l1 x5_1) then (deedboxref18_Less.l0 kj2 l0 l1 (wrap64 (x5_1 + 1))) else (some (decide ((rd l0 x5_1) < (rd l1 x5_1))))) else (none)) else (none)) else (none)) = some r := by rw [if_pos rfl] at H; exact H
            clear H
            have H := H1
            clear H1
            by_cases c6 : 0 ≤ x5_1
            · rw [if_pos c6] at H
              have c6b0 : decide (0 ≤ x5_1) = true := decide_eq_true c6
              clear c6
              by_cases c7 : x5_1 < (l0.length : Int)
              · rw [if_pos c7] at H
                have c7b0 : decide (x5_1 < (l0.length : Int)) = true := decide_eq_true c7
                clear c7
                by_cases c8 : x5_1 < (l1.length : Int)
                · rw [if_pos c8] at H
                  have c8b0 : decide (x5_1 < (l1.length : Int)) = true := decide_eq_true c8
                  clear c8
                  by_cases c9 : (rd l0 x5_1) = (rd l1 x5_1)
                  · rw [if_pos c9] at H
                    have c9b0 : ((rd l0 x5_1) == (rd l1 x5_1)) = true := beq_iff_eq.mpr c9
                    have c9b1 : ((rd l0 x5_1) != (rd l1 x5_1)) = false := bne_eq_false_iff_eq.mpr c9
                    clear c9
                    have H' := Aside0.mk H
                    clear H
                    have p313 : 0 ≤ (x5_1 : Int) := of_decide_eq_true (by first | (with_reducible assumption) | assumption)
                    have q313 : x5_1 < (l0.length : Int) := of_decide_eq_true (by first | (with_reducible assumption) | assumption)
                    obtain ⟨ad313, e313, hx313_0⟩ := Kd.at_int HR0.out x5_1 p313 q313
                    cases e313
                    replace p313 := eq_true p313
                    replace q313 := eq_true q313
                    have p314 : 0 ≤ (x5_1 : Int) := of_decide_eq_true (by first | (with_reducible assumption) | assumption)
                    have q314 : x5_1 < (l1.length : Int) := of_decide_eq_true (by first | (with_reducible assumption) | assumption)
                    obtain ⟨ad314, e314, hx314_0⟩ := Kd.at_int HR1.out x5_1 p314 q314
                    cases e314
                    replace p314 := eq_true p314
                    replace q314 := eq_true q314
                    go_wp2
                    repeat (go_quiet (fail); try go_wp2)
                    go_roundg kj2
                    case measure => have := HK1.out; have := HJ2.out; omega
                    case rel => exact ⟨(wrap64 (x5_1 + 1)), (by first | rfl | (simp; done) | (simp [*]; done)), H', ⟨by have := HK1.out; have := HJ2.out; omega⟩, by repeat (first | exact Drawn0.refl _ | apply Drawn0.step)⟩
                  · rw [if_neg c9] at H
                    have c9b0 : ((rd l0 x5_1) == (rd l1 x5_1)) = false := beq_eq_false_iff_ne.mpr c9
                    have c9b1 : ((rd l0 x5_1) != (rd l1 x5_1)) = true := bne_iff_ne.mpr c9
                    obtain rfl := Option.some.inj H
                    have p313 : 0 ≤ (x5_1 : Int) := of_decide_eq_true (by first | (with_reducible assumption) | assumption)
                    have q313 : x5_1 < (l0.length : Int) := of_decide_eq_true (by first | (with_reducible assumption) | assumption)
                    obtain ⟨ad313, e313, hx313_0⟩ := Kd.at_int HR0.out x5_1 p313 q313
                    cases e313
                    replace p313 := eq_true p313
                    replace q313 := eq_true q313
                    have p314 : 0 ≤ (x5_1 : Int) := of_decide_eq_true (by first | (with_reducible assumption) | assumption)
                    have q314 : x5_1 < (l1.length : Int) := of_decide_eq_true (by first | (with_reducible assumption) | assumption)
                    obtain ⟨ad314, e314, hx314_0⟩ := Kd.at_int HR1.out x5_1 p314 q314
                    cases e314
                    replace p314 := eq_true p314
                    replace q314 := eq_true q314
                    have p315 : 0 ≤ (x5_1 : Int) := of_decide_eq_true (by first | (with_reducible assumption) | assumption)
                    have q315 : x5_1 < (l0.length : Int) := of_decide_eq_true (by first | (with_reducible assumption) | assumption)
                    obtain ⟨ad315, e315, hx315_0⟩ := Kd.at_int HR0.out x5_1 p315 q315
                    obtain rfl : ad313 = ad315 := (by injection e315)
                    replace p315 := eq_true p315
                    replace q315 := eq_true q315
                    have p316 : 0 ≤ (x5_1 : Int) := of_decide_eq_true (by first | (with_reducible assumption) | assumption)
                    have q316 : x5_1 < (l1.length : Int) := of_decide_eq_true (by first | (with_reducible assumption) | assumption)
                    obtain ⟨ad316, e316, hx316_0⟩ := Kd.at_int HR1.out x5_1 p316 q316
                    obtain rfl : ad314 = ad316 := (by injection e316)
                    replace p316 := eq_true p316
                    replace q316 := eq_true q316
                    go_wp2
                    repeat (go_quiet (fail); try go_wp2)
                    go_ret
                    exact ⟨by first | rfl | (simp; done) | (simp [*]; done), by repeat (first | exact Drawn0.refl _ | apply Drawn0.step)⟩
                · rw [if_neg c8] at H
                  exact absurd H (by simp)
              · rw [if_neg c7] at H
                exact absurd H (by simp)
            · rw [if_neg c6] at H
              exact absurd H (by simp)
          · replace c5 := Bool.eq_false_iff.mpr c5
            subst c5
            have H1 : (some (decide ((l0.length : Int) < (l1.length : Int)))) = some r := by rw [if_neg (show ¬ (false = true) by decide)] at H; exact H
            clear H
            have H := H1
            clear H1
            obtain rfl := Option.some.inj H
            go_wp2
            repeat (go_quiet (fail); try go_wp2)
            go_ret
            exact ⟨by first | rfl | (simp; done) | (simp [*]; done), by repeat (first | exact Drawn0.refl _ | apply Drawn0.step)⟩

/-! ### path_Behind: function 49 -/
def path_Behind.l0 : Nat → List Int → Int → Option (List Int)
  | 0, _, _ => none
  | k + 1, x3, x4 => if x4 ≥ 0 then (if 0 ≤ x4 then (if x4 < (x3.length : Int) then (if (rd x3 x4) < 255 then (if 0 ≤ (wrap64 (x4 + 1)) then (if (wrap64 (x4 + 1)) ≤ (x3.length : Int) then (some ((x3.set (x4 : Int).toNat (((rd x3 x4) + 1) % 256)).take ((wrap64 (x4 + 1)) : Int).toNat)) else (none)) else (none)) else (path_Behind.l0 k x3 (wrap64 (x4 - 1)))) else (none)) else (none)) else (some ([] : List Int))
def path_Behind.f (k : Nat) (l0 : List Int) : Option (List Int) := (octet_Join.f k (([l0] : List (List Int)))).bind fun t320 => (path_Behind.l0 k t320 (wrap64 ((t320.length : Int) - 1)))
theorem path_Behind.mono_l : ∀ k, (∀ y0 y1, LeO (path_Behind.l0 k y0 y1) (path_Behind.l0 (k + 1) y0 y1))
  | 0 => fun _ _ r h => by simp [path_Behind.l0] at h
  | k + 1 => by
    have ih0 := path_Behind.mono_l k
    · intro y0 y1
      unfold path_Behind.l0
      repeat' first
      | (with_reducible exact ih0 _ _)
      | (with_reducible exact octet_Join.mono _ _)
      | (with_reducible exact LeO.refl _)
      | (with_reducible exact LeO.none _)
      | (with_reducible refine LeO.ite ?_ ?_)
      | (with_reducible refine LeO.bind ?_ (fun _ => ?_))
      | exact ih0 _ _
      | exact octet_Join.mono _ _
      | exact LeO.none _
      | refine LeO.ite ?_ ?_
      | refine LeO.bind ?_ (fun _ => ?_)
theorem path_Behind.mono : ∀ a0 k, LeO (path_Behind.f k a0) (path_Behind.f (k + 1) a0) := by
  intro a0 k
  have ih0 := path_Behind.mono_l k
  unfold path_Behind.f
  repeat' first
      | (with_reducible exact ih0 _ _)
      | (with_reducible exact octet_Join.mono _ _)
      | (with_reducible exact LeO.refl _)
      | (with_reducible exact LeO.none _)
      | (with_reducible refine LeO.ite ?_ ?_)
      | (with_reducible refine LeO.bind ?_ (fun _ => ?_))
      | exact ih0 _ _
      | exact octet_Join.mono _ _
      | exact LeO.none _
      | refine LeO.ite ?_ ?_
      | refine LeO.bind ?_ (fun _ => ?_)
set_option maxHeartbeats 8000000 in
set_option maxRecDepth 100000 in
theorem path_Behind.calls (k : Nat) (P0_ : Nat → Prop) (A0 : Option Addr) (c0 : Nat) (l0 : List Int) (r : List Int) (w : World) (hs0 : Kd.V (Kd.int .u8) 5 w w.heap.size (fun k_ => P0_ k_) (.slice A0 l0.length c0) l0) (h : path_Behind.f k l0 = some r) :
    Calls Try.prog 49 #[.slice A0 l0.length c0] w fun e w' => ∃ v0_ : Value, e = .returned (v0_) ∧ Kd.R (Kd.int .u8) 5 w' w.heap.size (fun k_ => (w.heap.size ≤ k_)) v0_ r ∧ Below w.heap.size w w' := by
  have HO0 := Aside0.mk (show Kd.V (Kd.int .u8) 5 w w.heap.size (fun k_ => (P0_ k_ ∨ w.heap.size ≤ k_)) (.slice A0 l0.length c0) l0 from Kd.V_mono hs0 (fun k_ hk => .inl hk))
  have HB := Aside0.mk (Below.refl w.heap.size w)
  have H : ((octet_Join.f k (([l0] : List (List Int)))).bind fun t320 => (path_Behind.l0 k t320 (wrap64 ((t320.length : Int) - 1)))) = some r := h
  clear h
  obtain ⟨y317, hy317⟩ : ∃ y_ : List (List Int), y_ = (([l0] : List (List Int))) := ⟨_, rfl⟩
  replace H : ((octet_Join.f k y317).bind fun t320 => (path_Behind.l0 k t320 (wrap64 ((t320.length : Int) - 1)))) = some r := by first | (rw [hy317]; with_reducible exact H) | (have H2_ := (Option.bind_some _ _).symm.trans H; rw [hy317]; with_reducible exact H2_) | (have H2_ := (Option.bind_some _ _).symm.trans H; with_reducible exact H2_) | with_reducible exact H | (rw [hy317]; exact H) | exact H
  have Ny317 := Aside0.mk hy317
  clear hy317
  replace H := Option.bind_eq_some_iff.mp H
  obtain ⟨t320, A20, H⟩ := H
  replace H : (path_Behind.l0 k t320 (wrap64 ((t320.length : Int) - 1))) = some r := H
  have A2 := Aside0.mk A20
  clear A20
  have H' := Aside0.mk H
  clear H
  go_enter Try.func49, Try.ntmps49
  go_wp2_with (first | ((with_reducible refine gate_dst (N := 6) rfl ?_); refine Kd.N_lit (Kd.slice 5 (Kd.int .u8)) _ 31 ?hg (N' := 6) ?hd (xs := ([l0] : List (List Int))) (inner := [.slice A0 l0.length c0]) (ok := (fun k_ => (P0_ k_ ∨ w.heap.size ≤ k_))) (okp := (fun k_ => (P0_ k_ ∨ w.heap.size ≤ k_))) ?hr ?hp (fun _ hk => hk) ((show ∀ k_, w.heap.size ≤ k_ → (fun k_ => (P0_ k_ ∨ w.heap.size ≤ k_)) k_ from fun k_ hk => (.inr (Nat.le_trans (below_size (by repeat (first | (with_reducible first | exact HB.out | apply below_alloc | apply pw_below_drewN | apply below_drew1) | exact HB.out))) hk))) _ (Nat.le_refl _)) (Below.refl _ _) (Nat.le_refl _) (by simp) ?_; (case hd => rfl); (case hg => rfl); (case hr => first | (go_simp; done) | (go_simp; rfl)); (case hp => exact (Reps.one (show Kd.FK (Kd.slice 5 (Kd.int .u8)) _ _ l0 [.slice A0 l0.length c0] from (Kd.FK_slice_mk (Kd.V_reads' (Kd.V_mono (ok' := (fun k_ => (P0_ k_ ∨ w.heap.size ≤ k_))) (HO0.out) (fun k_ hk => hk))).2.1 (Kd.V_F (Kd.V_mono (ok' := (fun k_ => (P0_ k_ ∨ w.heap.size ≤ k_))) (HO0.out) (fun k_ hk => hk))))) (Reps.none _ _))); intro v318 w3 ho4 hb hg_ hnew_; clear hg_ hnew_; (first | rw [← Ny317.out] at ho4 | (simp only [Int.reduceToNat] at ho4; rw [← Ny317.out] at ho4)); have n0_ := Aside0.mk (Kd.V_elder' (by (with_reducible repeat (first | apply Kd.V_alloc | apply Kd.V_drewN | apply Kd.V_drew)); exact HO0.out) (Kd.N_base ho4) hb); have n1_ := Aside0.mk (Kd.N_lower ho4 (below_size (by repeat (first | (with_reducible first | exact HB.out | apply below_alloc | apply pw_below_drewN | apply below_drew1) | exact HB.out)))); have n2_ := Aside0.mk (below_step (by repeat (first | (with_reducible first | exact HB.out | apply below_alloc | apply pw_below_drewN | apply below_drew1) | exact HB.out)) hb); clear HO0; clear HB; have HO0 := n0_; have HO319 := n1_; have HB := n2_; clear n0_ n1_ n2_; clear hb ho4; obtain ⟨Ao5, co5, eo5⟩ := Kd.N_slice HO319.out; subst eo5) | ((with_reducible refine gate_callee (f := 54) rfl ?_); refine goesL_ (some 7) rfl rfl Try.func54 (by kernel_rfl) rfl #[.slice Ao5 y317.length co5] rfl (by (try simp only [List.map_toArray, List.map_cons, List.map_nil]); first | done | rfl | (simp only [List.length_drop, List.length_take]; rfl)) ?_; (with_reducible refine (octet_Join.calls k _ _ y317 t320 _ ?side1 ?side2 A2.out).mono ?_); (case side1 => repeat (first | exact (Kd.N_reads' HO319.out).2.2 | (with_reducible refine Kd.C_alloc ?_ _) | (with_reducible refine Kd.C_drewN ?_ _) | (with_reducible refine Kd.C_drew ?_))); (case side2 => exact (Kd.N_reads' HO319.out).2.1); rintro e w6 ⟨v321, rfl, ho0, hb⟩; refine ⟨_, rfl, ?_⟩; have n0_ := Aside0.mk (Kd.V_elder' (by (with_reducible repeat (first | apply Kd.V_alloc | apply Kd.V_drewN | apply Kd.V_drew)); exact HO0.out) (Kd.R_base ho0) hb); have n1_ := Aside0.mk (Kd.N_elder' (by (with_reducible repeat (first | apply Kd.N_alloc | apply Kd.N_drewN | apply Kd.N_drew)); exact HO319.out) (Kd.R_base ho0) hb); have n2_ := Aside0.mk (Kd.R_lower (Kd.R_newM (M := fun k_ => (w.heap.size ≤ k_)) ho0 (below_size (by repeat (first | (with_reducible first | exact HB.out | apply below_alloc | apply pw_below_drewN | apply below_drew1) | exact HB.out))) (fun k_ h_ => h_)) (below_size (by repeat (first | (with_reducible first | exact HB.out | apply below_alloc | apply pw_below_drewN | apply below_drew1) | exact HB.out)))); have n3_ := Aside0.mk (below_step (by repeat (first | (with_reducible first | exact HB.out | apply below_alloc | apply pw_below_drewN | apply below_drew1) | exact HB.out)) hb); clear HO0; clear HO319; clear HB; have HO0 := n0_; have HO319 := n1_; have HO322 := n2_; have HB := n3_; clear n0_ n1_ n2_ n3_; (try clear hb); (try clear hb2); (try clear hk); (try clear hi); (try clear ho0); obtain ⟨Ao7, co7, eo7⟩ := Kd.R_slice HO322.out; subst eo7))
  go_loopg [4] k (fun kq v4 w' => ∃ (x3_1 : List Int) (x4_1 : Int), v4 = .int .i64 x4_1 ∧ Aside0 (path_Behind.l0 kq x3_1 x4_1 = some r) ∧ Aside0 (kq ≤ k) ∧ Aside0 (Kd.R (Kd.int .u8) 5 w' w.heap.size (fun k_ => (w.heap.size ≤ k_)) (.slice Ao7 t320.length co7) x3_1) ∧ Aside0 (Below w.heap.size w w'))
  case atStart => exact ⟨(t320), (wrap64 ((t320.length : Int) - 1)), (by first | rfl | (simp; done) | (simp [*]; done)), H', ⟨Nat.le_refl _⟩, ⟨by (with_reducible repeat (first | apply Kd.R_alloc | apply Kd.R_drewN | apply Kd.R_drew)); exact Kd.R_mono HO322.out (fun _ hk => hk.1)⟩, ⟨by repeat (first | (with_reducible first | exact HB.out | apply below_alloc | apply pw_below_drewN | apply below_drew1) | exact HB.out)⟩⟩
  case round =>
    clear H'
    try clear p2
    try clear c4
    try clear c5
    try clear p6
    obtain ⟨x3_1, x4_1, rfl, HA, HK1, HO_3, HB⟩ := hrel
    have hl3_1 := (Kd.R_reads' HO_3.out).1
    rw [hl3_1] at HO_3
    (try simp only [hl3_1])
    cases gk with
    | zero => exact absurd HA.out (by simp [path_Behind.l0])
    | succ k1 =>
      have H := HA.out
      clear HA
      simp only [path_Behind.l0] at H
      by_cases c8 : x4_1 ≥ 0
      · rw [if_pos c8] at H
        have c8b0 : decide (0 ≤ x4_1) = true := decide_eq_true c8
        clear c8
        by_cases c9 : 0 ≤ x4_1
        · rw [if_pos c9] at H
          have c9b0 : decide (0 ≤ x4_1) = true := decide_eq_true c9
          clear c9
          by_cases c10 : x4_1 < (x3_1.length : Int)
          · rw [if_pos c10] at H
            have c10b0 : decide (x4_1 < (x3_1.length : Int)) = true := decide_eq_true c10
            clear c10
            by_cases c11 : (rd x3_1 x4_1) < 255
            · rw [if_pos c11] at H
              have c11b0 : decide ((rd x3_1 x4_1) < 255) = true := decide_eq_true c11
              clear c11
              obtain ⟨y325, hy325⟩ : ∃ y_ : List Int, y_ = (x3_1.set (x4_1 : Int).toNat (((rd x3_1 x4_1) + 1) % 256)) := ⟨_, rfl⟩
              replace H : (if 0 ≤ (wrap64 (x4_1 + 1)) then (if (wrap64 (x4_1 + 1)) ≤ (x3_1.length : Int) then (some (y325.take ((wrap64 (x4_1 + 1)) : Int).toNat)) else (none)) else (none)) = some r := by first | (rw [hy325]; with_reducible exact H) | (have H2_ := (Option.bind_some _ _).symm.trans H; rw [hy325]; with_reducible exact H2_) | (have H2_ := (Option.bind_some _ _).symm.trans H; with_reducible exact H2_) | with_reducible exact H | (rw [hy325]; exact H) | exact H
              have Ny325 := Aside0.mk hy325
              clear hy325
              obtain ⟨ji13, hji13⟩ : ∃ j_ : Int, (wrap64 (x4_1 + 1)) = j_ := ⟨_, rfl⟩
              replace H : (if 0 ≤ (ji13) then (if (ji13) ≤ (x3_1.length : Int) then (some (y325.take ((ji13) : Int).toNat)) else (none)) else (none)) = some r := by first | (rw [hji13] at H; exact H) | (simp only [hji13] at H ⊢; exact H)
              have hji13w : (IntKind.i64.wrap (x4_1 + 1)) = ji13 := (i64_w _).trans hji13
              by_cases c14 : 0 ≤ (ji13)
              · rw [if_pos c14] at H
                have c14b0 := eq_true c14
                have c14b1 : decide (0 ≤ (ji13)) = true := decide_eq_true c14
                clear c14
                by_cases c15 : (ji13) ≤ (x3_1.length : Int)
                · rw [if_pos c15] at H
                  have c15b0 := eq_true c15
                  have c15b1 : decide ((ji13) ≤ (x3_1.length : Int)) = true := decide_eq_true c15
                  clear c15
                  obtain ⟨y326, hy326⟩ : ∃ y_ : List Int, y_ = (y325.take ((ji13) : Int).toNat) := ⟨_, rfl⟩
                  replace H : (some y326) = some r := by first | (rw [hy326]; with_reducible exact H) | (have H2_ := (Option.bind_some _ _).symm.trans H; rw [hy326]; with_reducible exact H2_) | (have H2_ := (Option.bind_some _ _).symm.trans H; with_reducible exact H2_) | with_reducible exact H | (rw [hy326]; exact H) | exact H
                  have Ny326 := Aside0.mk hy326
                  clear hy326
                  obtain rfl := Option.some.inj H
                  have p323 : 0 ≤ (x4_1 : Int) := of_decide_eq_true (by first | (with_reducible assumption) | assumption)
                  have q323 : x4_1 < (x3_1.length : Int) := of_decide_eq_true (by first | (with_reducible assumption) | assumption)
                  obtain ⟨ad323, e323, hx323_0⟩ := Kd.at_int (Kd.R_reads' HO_3.out).2.2 x4_1 p323 q323
                  cases e323
                  replace p323 := eq_true p323
                  replace q323 := eq_true q323
                  have p324 : 0 ≤ (x4_1 : Int) := of_decide_eq_true (by first | (with_reducible assumption) | assumption)
                  have q324 : x4_1 < (x3_1.length : Int) := of_decide_eq_true (by first | (with_reducible assumption) | assumption)
                  obtain ⟨ad324, e324, hx324_0⟩ := Kd.at_int (Kd.R_reads' HO_3.out).2.2 x4_1 p324 q324
                  obtain rfl : ad323 = ad324 := (by injection e324)
                  replace p324 := eq_true p324
                  replace q324 := eq_true q324
                  have p12 : 0 ≤ (x4_1 : Int) := of_decide_eq_true (by first | (with_reducible assumption) | assumption)
                  have q12 : (x4_1 : Int) < ((x3_1.length : Int) : Int) := of_decide_eq_true (by first | (with_reducible assumption) | assumption)
                  obtain ⟨go12, co12, eo12, gb12, gl12, cl12, HG12⟩ := Kd.R_form HO_3.out (by omega)
                  (first | cases eo12 | (injection eo12 with ea_ en_ ec_; (first | subst ea_ | (injection ea_ with ea_; subst ea_)); subst ec_; clear en_))
                  have GB12 := Aside0.mk gb12
                  have GG12 := Aside0.mk HG12
                  clear gb12 gl12 HG12
                  (first | simp only [add_plain] at hx323_0 | skip)
                  (first | simp only [add_plain] at hx324_0 | skip)
                  obtain ⟨hx12_0, hf12_0⟩ := Kd.R_celln 0 HO_3.out (x4_1 : Int) p12 q12
                  replace p12 := eq_true p12
                  replace q12 := eq_true q12
                  have HP16 := Kd.R_putg HO_3.out (x4_1 : Int) (((rd x3_1 x4_1) + 1) % 256)
                  go_wp2_with (first | ((with_reducible refine gate_store (t := 5) (p := 25) rfl ?_); refine store_event (t := 5) (p := 25) (v := ?vo_w17) (w1 := (wr.setCell ⟨go12, (x4_1 : Int).toNat, none⟩ (.int .u8 (((rd x3_1 x4_1) + 1) % 256)))) ?hg ?ho ?hn ?hr ?_; (case ho => rfl); (case hg => rfl); (case hn => rfl); (case hr => first | (go_simp; done) | (go_simp; rfl)); intro w17 hw; have hg : wr.grownBy w17 (some go12) := (by rw [hw]; exact HP16.2); have hp_ : Kd.R (Kd.int .u8) 5 w17 w.heap.size (fun k_ => (w.heap.size ≤ k_)) (.slice (some ⟨go12, 0, none⟩) x3_1.length co7) y325 := (by rw [hw, Ny325.out]; exact HP16.1); clear HP16; have n0_ := Aside0.mk (hp_); have n1_ := Aside0.mk ((by rw [hw]; exact below_set (HB.out) GB12.out : Below w.heap.size w w17)); clear HO_3; clear HB; have HO_3 := n0_; have HB := n1_; clear n0_ n1_; clear hg hw hp_; have q18 : ((ji13) : Int) ≤ ((x3_1.length : Int) : Int) := of_decide_eq_true (by first | (with_reducible assumption) | assumption); obtain ⟨i018, hi018, _, hsz18, _⟩ := info_parts info5; have hcut18 := cut_to (P := Try.prog) 31 5 .i64 Try.underlying31 hi018 (some ⟨go12, 0, none⟩) x3_1.length co7 (ji13) (of_decide_eq_true (by first | (with_reducible assumption) | assumption)) q18 (Kd.R_reads' HO_3.out).2.1; have hly18 := (Kd.R_reads' HO_3.out).1; have hr18 := Kd.R_take (m := ((ji13) : Int).toNat) HO_3.out (by omega); have hy18 : y326.length = ((ji13) : Int).toNat := (by rw [Ny326.out, List.length_take]; omega); rw [← Ny326.out] at hr18; rw [← hy18] at hr18 hcut18; clear hly18; clear hy18 hi018 hsz18 HO_3; have HO328 := Aside0.mk hr18; clear hr18; replace q18 := eq_true q18))
                  go_ret
                  exact ⟨_, by first | rfl | (simp [errW_none, errW_some] <;> rfl) | (simp only [← hji13]; first | rfl | (simp [errW_none, errW_some] <;> rfl)) | (simp [*, errW_none, errW_some] <;> rfl), by (with_reducible repeat (first | apply Kd.R_alloc | apply Kd.R_drewN | apply Kd.R_drew)); exact HO328.out, by repeat (first | (with_reducible first | exact HB.out | apply below_alloc | apply pw_below_drewN | apply below_drew1) | exact HB.out)⟩
                · rw [if_neg c15] at H
                  exact absurd H (by simp)
              · rw [if_neg c14] at H
                exact absurd H (by simp)
            · rw [if_neg c11] at H
              have c11b0 : decide ((rd x3_1 x4_1) < 255) = false := decide_eq_false c11
              clear c11
              have H' := Aside0.mk H
              clear H
              have p323 : 0 ≤ (x4_1 : Int) := of_decide_eq_true (by first | (with_reducible assumption) | assumption)
              have q323 : x4_1 < (x3_1.length : Int) := of_decide_eq_true (by first | (with_reducible assumption) | assumption)
              obtain ⟨ad323, e323, hx323_0⟩ := Kd.at_int (Kd.R_reads' HO_3.out).2.2 x4_1 p323 q323
              cases e323
              replace p323 := eq_true p323
              replace q323 := eq_true q323
              go_wp2
              (try simp only [← hl3_1])
              go_roundg k1
              case measure => have := HK1.out; omega
              case rel => exact ⟨(x3_1), (wrap64 (x4_1 - 1)), (by first | rfl | (simp; done) | (simp [*]; done)), H', ⟨by have := HK1.out; omega⟩, ⟨by (try simp only [hl3_1]); (with_reducible repeat (first | apply Kd.R_alloc | apply Kd.R_drewN | apply Kd.R_drew)); exact HO_3.out⟩, ⟨by repeat (first | (with_reducible first | exact HB.out | apply below_alloc | apply pw_below_drewN | apply below_drew1) | exact HB.out)⟩⟩
          · rw [if_neg c10] at H
            exact absurd H (by simp)
        · rw [if_neg c9] at H
          exact absurd H (by simp)
      · rw [if_neg c8] at H
        have c8b0 : decide (0 ≤ x4_1) = false := decide_eq_false c8
        clear c8
        obtain rfl := Option.some.inj H
        go_wp2
        go_ret
        exact ⟨_, by first | rfl | (simp [errW_none, errW_some] <;> rfl) | (simp [*, errW_none, errW_some] <;> rfl), by first | exact Kd.R_nil _ _ _ _ _ | exact Kd.N_nil _ _ _ _ _ | exact Kd.V_nil _ _ _ _ _ | exact Kd.Q_nil _ _ _ _ _ | exact Kd.S_nil _ _ _ _ _, by repeat (first | (with_reducible first | exact HB.out | apply below_alloc | apply pw_below_drewN | apply below_drew1) | exact HB.out)⟩

/-! ### deedboxref25_Begins: function 50 -/
def deedboxref25_Begins.f (k : Nat) (l0 : List Int) (l1 : List Int) : Option (Bool) := if (l0.length : Int) ≥ (l1.length : Int) then (if 0 ≤ (l1.length : Int) then (if (l1.length : Int) ≤ (l0.length : Int) then ((deedboxref01_Same.f k (l0.take ((l1.length : Int) : Int).toNat) l1).bind fun t333 => (some t333)) else (none)) else (none)) else (some false)
theorem deedboxref25_Begins.mono : ∀ a0 a1 k, LeO (deedboxref25_Begins.f k a0 a1) (deedboxref25_Begins.f (k + 1) a0 a1) := by
  intro a0 a1 k
  unfold deedboxref25_Begins.f
  repeat' first
      | (with_reducible exact deedboxref01_Same.mono _ _ _)
      | (with_reducible exact LeO.refl _)
      | (with_reducible exact LeO.none _)
      | (with_reducible refine LeO.ite ?_ ?_)
      | (with_reducible refine LeO.bind ?_ (fun _ => ?_))
      | exact deedboxref01_Same.mono _ _ _
      | exact LeO.none _
      | refine LeO.ite ?_ ?_
      | refine LeO.bind ?_ (fun _ => ?_)
set_option maxHeartbeats 8000000 in
set_option maxRecDepth 100000 in
theorem deedboxref25_Begins.calls (k : Nat) (A0 : Option Addr) (c0 : Nat) (l0 : List Int) (A1 : Option Addr) (c1 : Nat) (l1 : List Int) (r : Bool) (w : World) (hr0 : Kd.C (Kd.int .u8) w A0 l0.length l0) (hc0 : l0.length ≤ c0) (hr1 : Kd.C (Kd.int .u8) w A1 l1.length l1) (hc1 : l1.length ≤ c1) (h : deedboxref25_Begins.f k l0 l1 = some r) :
    Calls Try.prog 50 #[.slice A0 l0.length c0, .slice A1 l1.length c1] w fun e w' => e = .returned (.bool r) ∧ Drawn0 w w' := by
  have HR0 := Aside0.mk hr0
  have HC0 := Aside0.mk hc0
  clear hr0 hc0
  have HR1 := Aside0.mk hr1
  have HC1 := Aside0.mk hc1
  clear hr1 hc1
  have H : (if (l0.length : Int) ≥ (l1.length : Int) then (if 0 ≤ (l1.length : Int) then (if (l1.length : Int) ≤ (l0.length : Int) then ((deedboxref01_Same.f k (l0.take ((l1.length : Int) : Int).toNat) l1).bind fun t333 => (some t333)) else (none)) else (none)) else (some false)) = some r := h
  clear h
  by_cases c3 : (l0.length : Int) ≥ (l1.length : Int)
  · rw [if_pos c3] at H
    have c3b0 : decide ((l1.length : Int) ≤ (l0.length : Int)) = true := decide_eq_true c3
    have c3b1 : decide (l1.length ≤ l0.length) = true := decide_eq_true (Int.ofNat_le.mp c3)
    clear c3
    by_cases c4 : 0 ≤ (l1.length : Int)
    · rw [if_pos c4] at H
      have c4b0 := eq_true c4
      have c4b1 : decide (0 ≤ (l1.length : Int)) = true := decide_eq_true c4
      clear c4
      by_cases c5 : (l1.length : Int) ≤ (l0.length : Int)
      · rw [if_pos c5] at H
        have c5b0 := eq_true c5
        have c5b1 : decide ((l1.length : Int) ≤ (l0.length : Int)) = true := decide_eq_true c5
        clear c5
        obtain ⟨y329, hy329⟩ : ∃ y_ : List Int, y_ = (l0.take ((l1.length : Int) : Int).toNat) := ⟨_, rfl⟩
        replace H : ((deedboxref01_Same.f k y329 l1).bind fun t333 => (some t333)) = some r := by first | (rw [hy329]; with_reducible exact H) | (have H2_ := (Option.bind_some _ _).symm.trans H; rw [hy329]; with_reducible exact H2_) | (have H2_ := (Option.bind_some _ _).symm.trans H; with_reducible exact H2_) | with_reducible exact H | (rw [hy329]; exact H) | exact H
        have Ny329 := Aside0.mk hy329
        clear hy329
        replace H := Option.bind_eq_some_iff.mp H
        obtain ⟨t333, A60, H⟩ := H
        replace H : (some t333) = some r := H
        have A6 := Aside0.mk A60
        clear A60
        obtain rfl := Option.some.inj H
        have q7 : ((l1.length : Int) : Int) ≤ ((l0.length : Int) : Int) := of_decide_eq_true (by first | (with_reducible assumption) | assumption)
        obtain ⟨i07, hi07, _, hsz7, _⟩ := info_parts info5
        have hroom7 : l0.length ≤ c0 := HC0.out
        have hC7 : Kd.C (Kd.int .u8) _ A0 l0.length l0 := HR0.out
        have hcut7 := cut_to (P := Try.prog) 31 5 .i64 Try.underlying31 hi07 A0 l0.length c0 (l1.length : Int) (of_decide_eq_true (by first | (with_reducible assumption) | assumption)) q7 hroom7
        have hr7 := Kd.C_take (m := ((l1.length : Int) : Int).toNat) hC7 (by omega)
        have hy7 : y329.length = ((l1.length : Int) : Int).toNat := (by rw [Ny329.out, List.length_take]; omega)
        rw [← Ny329.out] at hr7
        rw [← hy7] at hcut7
        have HR332 := Aside0.mk hr7
        have HC332 := Aside0.mk (show y329.length ≤ c0 from by omega)
        clear hr7 hC7 hroom7 hi07 hsz7
        have KY7 := Aside0.mk hy7
        clear hy7
        replace q7 := eq_true q7
        go_enter Try.func50, Try.ntmps50
        go_wp2_with (first | (go_at_call 22; (with_reducible refine (deedboxref01_Same.calls k _ _ y329 _ _ l1 t333 _ ?side1 ?side2 ?side3 ?side4 A6.out).mono ?_); (case side1 => repeat (first | exact HR332.out | (with_reducible refine Kd.C_alloc ?_ _) | (with_reducible refine Kd.C_drewN ?_ _) | (with_reducible refine Kd.C_drew ?_))); (case side2 => exact HC332.out); (case side3 => repeat (first | exact HR1.out | (with_reducible refine Kd.C_alloc ?_ _) | (with_reducible refine Kd.C_drewN ?_ _) | (with_reducible refine Kd.C_drew ?_))); (case side4 => exact HC1.out); rintro e w' ⟨rfl, ⟨nd, rfl⟩⟩))
        go_ret
        exact ⟨by first | rfl | (simp; done) | (simp [*]; done), by repeat (first | exact Drawn0.refl _ | apply Drawn0.step)⟩
      · rw [if_neg c5] at H
        exact absurd H (by simp)
    · rw [if_neg c4] at H
      exact absurd H (by simp)
  · rw [if_neg c3] at H
    have c3b0 : decide ((l1.length : Int) ≤ (l0.length : Int)) = false := decide_eq_false c3
    have c3b1 : decide (l1.length ≤ l0.length) = false := decide_eq_false (fun h => c3 (Int.ofNat_le.mpr h))
    clear c3
    obtain rfl := Option.some.inj H
    go_enter Try.func50, Try.ntmps50
    go_wp2
    go_ret
    exact ⟨by first | rfl | (simp; done) | (simp [*]; done), by repeat (first | exact Drawn0.refl _ | apply Drawn0.step)⟩

end Go.Proofs.Ytagoofdopgopoaa.PPathBegins
