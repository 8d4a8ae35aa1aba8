/- The law 'BulkSplits': whatever rows of bytes and number are handed in, the call answers 'true', and what was handed in reads as it did; its card. -/
import Derived.Test.YtopblipficpilaaGreatDoorBulkSplits20
import Derived.Test.YtopblipficpilaaGreatDoorBulkSplits28
import Derived.Test.YtopblipficpilaaGreatDoorBulkSplits21
import Derived.Test.YtopblipficpilaaGreatDoorBulkSplits36
import Derived.Test.YtopblipficpilaaGreatDoorBulkSplits22
import Derived.Test.YtopblipficpilaaGreatDoorBulkSplits23
import Derived.Test.YtopblipficpilaaGreatDoorBulkSplits24
import Derived.Test.YtopblipficpilaaGreatDoorRows
import Derived.Test.YtopblipficpilaaGreatDoorTie
import Derived.Test.YtopblipficpilaaGreatDoorCards
import Derived.ProofKit
import Derived.OpenShut
import Derived.LaidMore
import Derived.Lay
import Derived.SevenTiedAt
import Derived.Stop.Joined
import Derived.Shelf.Vars
namespace Go.Proofs.YtopblipficpilaaGreatDoor.AY
open Go Go.Proofs Go.RowKit Go.ChangeShapes Go.WideShapes Go.ChangeAt Go.Deep
set_option linter.unusedVariables false
set_option linter.unusedSimpArgs false
set_option maxRecDepth 100000

namespace bulkSplits
theorem own : ownKnob Tryz.prog.godebug = none := by kernel_rfl
theorem max_cell {W : World} (h : W.ShapedOpen Tryz.prog) : ∃ m, W.cell? ⟨maxLenG, 0, none⟩ = some (.int .i64 m) :=
  cell_of_shapedOpen_int (P := Tryz.prog) (g := maxLenG) (t := 3) (zero := #[.int .i64 0]) h (of_decide_eq_true (by kernel_rfl)) (by kernel_rfl) rfl (by kernel_rfl) (by kernel_rfl) Tryz.underlying3
theorem lifted (os : Os) (started : os.Started) (H : Type) (enc : TypeId × Value → H) :
    ReturnsInHanded {} Tryz.checked os 7 .any (fun w args => (Rows.bulkSplitsSpec.pre enc Tryz.prog Tryz.f7 Rows.bulkSplitsRow.domain false w args ∧ laidMetH Tryz.prog Rows.bulkSplitsRow.laid w) ∧ sizedMet enc Tryz.prog Tryz.f7 (OpenSpec.ofChange Rows.bulkSplitsSpec) false w args)
      (Rows.bulkSplitsSpec.post enc Tryz.prog Tryz.f7 false true false false) := by
  refine held_both (C := Tryz.checked) (X := fun w _ => laidMetH Tryz.prog Rows.bulkSplitsRow.laid w) (fun _ _ _ hh h => h.of_heap hh) own started (by kernel_rfl) Tryz.func7
    (ChangeSpec.witness_shaped (enc := enc) (C := Tryz.checked) (os := os) (X := fun w _ => laidMetH Tryz.prog Rows.bulkSplitsRow.laid w) false (World.laidAll Tryz.prog os Rows.bulkSplitsRow.laid) #[.slice none 0 0, .int .i64 0] 8 (World.laidAll_os _ _ _)
      (World.shaped_of_ZipB (by kernel_rfl) (by kernel_rfl)) (by kernel_rfl) (by kernel_rfl) (by kernel_rfl)
      (by rw [MakeChecks.laidMetH_plain _ _ _ (by kernel_rfl)]; exact laidMet_laidAll _ (by kernel_rfl) (by kernel_rfl))) ?_
  intro W base args ds gs before hval0 hW hsh
  have hval : ∀ (j : Nat) t v, Tryz.f7.params[j]? = some t → args[j]? = some v → Value.okWide Tryz.prog W .any base t v := hval0
  have hW' := hW
  obtain ⟨p, q, hA0, hV, rfl, hfz, hnd⟩ := hW
  have hA : DataW.TrodAll enc Tryz.prog W 0 (fun _ => true) true Tryz.f7.params.toList args.toList ds p := hA0
  rw [Tryz.params7] at hA hval
  obtain ⟨v0, vs0, d0, ds0, p0, q0, hargs, rfl, rfl, h0, r0⟩ := trodAll_cons hA
  obtain ⟨v1, vs1, d1, ds1, p1, q1, rfl, rfl, rfl, h1, r1⟩ := trodAll_cons r0
  obtain ⟨rfl, rfl, rfl⟩ := trodAll_nil r1
  obtain rfl : args = #[v0, v1] := by cases args; simp_all
  obtain ⟨rfl, rfl⟩ := trodVars_none hV
  have k0 := h0
  have lt0 : ∀ x ∈ p0, x.block < W.heap.size := by obtain ⟨m, hm⟩ := k0; exact DataW.trod_lt m _ _ _ hm
  have k1 := h1
  have lt1 : ∀ x ∈ p1, x.block < W.heap.size := by obtain ⟨m, hm⟩ := k1; exact DataW.trod_lt m _ _ _ hm
  obtain ⟨ρs, Ms, hgs, hjs, hns⟩ := Good.startG Tryz.prog (max_cell hsh)
  obtain ⟨ρ0, M0, av0, s0, g0, hg0, hv0, hsh0⟩ := reifyV (n := 8) (by kernel_rfl) (hval 0 59 v0 rfl rfl) h0 hgs
  obtain ⟨ρ1, M1, av1, s1, g1, hg1, hv1, hsh1⟩ := reifyV (n := 8) (by kernel_rfl) (hval 1 3 v1 rfl rfl) h1 hg0
  obtain ⟨vs, ls, hR, hP, hL⟩ := rem_of (hsh0.grew g1)
  obtain ⟨most, rfl, hm⟩ := int_of hsh1
  have hj : M1.get 0 = some ⟨[], globTag + maxLenG, false⟩ := by rw [(g0.trans g1).keep 0 hns]; exact hjs
  obtain ⟨_, _, hc, rfl, rfl⟩ := law7_spec av0 vs ls most M1 hg1.ok hR hP hL hm 0 hj
  refine (hc.row hg1 (VRs.two (hv0.mono s1) hv1)).mono fun e W' ⟨r', ρ', he, hr', bel⟩ => ?_
  subst he
  cases hr'
  exact ⟨_, rfl, _, _, _, [], _, [], hW', trodAll_mk1 (shut_bool Tryz.underlying4 _), (trodAll_cons_mk (Below.trod laidOut (by kernel_rfl) (of_decide_eq_true (by kernel_rfl)) k0 bel lt0) (trodAll_cons_mk (Below.trod laidOut (by kernel_rfl) (of_decide_eq_true (by kernel_rfl)) k1 bel lt1) trodAll_mk0)), rfl, bel.frame _, fun h => by cases h⟩
end bulkSplits
end Go.Proofs.YtopblipficpilaaGreatDoor.AY
namespace Go.Proofs.YtopblipficpilaaGreatDoor
open Go
set_option maxRecDepth 100000
theorem bulkSplits_row : Rows.BulkSplitsSaid :=
  OpenClaim.holds_of_wide 7 Tryz.f7 rfl rfl rfl rfl rfl rfl rfl ⟨rfl, rfl, rfl, rfl, rfl⟩ rfl rfl rfl rfl rfl AY.bulkSplits.named Tryz.func7 AY.bulkSplits.joined
    (of_decide_eq_true (by kernel_rfl)) (by unfold Func.isWrapper; first | (rw [if_pos (by decide +kernel)]; kernel_rfl) | (rw [if_neg (by decide +kernel)]; exact ⟨rfl, rfl⟩))
    (fun os started H enc _ => AY.bulkSplits.lifted os started H enc)
theorem AY.bulkSplits.goes : false = Rows.bulkSplitsRow.goesBy Tryz.prog := by
  have e : Rows.bulkSplitsRow.goesBy Tryz.prog = (Tryz.prog.goesFrom "deedbox/deedboxlaw40.BulkSplits" || false) := rfl
  rw [e, Bool.or_false, Program.goesFrom, AY.bulkSplits.named, Option.any_some]
  exact (AY.goes_false AY.noGoes 7).symm
/-- The tied card. -/
theorem bulkSplits_holds : Rows.BulkSplitsCardSaid :=
  Claim7.holds_tied_plain_at .later [] [.data, .pinned] true (true, "48bd2db131e9648794cae3c635d5614bb7ba11ab4ea341627dcdcba87f6bfa98") false bulkSplits_row (fun _ h => by cases h) (by kernel_rfl) (fun _ h => by cases h) bulkSplits_row_tie rfl ⟨rfl, rfl⟩ (by kernel_rfl) rfl
    (fun f fn hf hfn => by
      obtain rfl : f = 7 := Option.some.inj (AY.bulkSplits.named.symm.trans hf) |>.symm
      obtain rfl : fn = Tryz.f7 := (Option.some.inj (Tryz.func7.symm.trans hfn)).symm
      exact ⟨AY.noLooks, fun j t ht => by
        rw [Tryz.params7] at ht
        have hm : t ∈ [59, 3] := by simpa using Array.mem_of_getElem? ht
        have hall : ([59, 3].all fun u => !Tryz.prog.wantsStandIn u) = true := by kernel_rfl
        exact (show Tryz.prog.wantsStandIn t = false by simpa using List.all_eq_true.1 hall t hm)⟩)
    (AY.bulkSplits.goes)
#print axioms bulkSplits_holds
end Go.Proofs.YtopblipficpilaaGreatDoor
