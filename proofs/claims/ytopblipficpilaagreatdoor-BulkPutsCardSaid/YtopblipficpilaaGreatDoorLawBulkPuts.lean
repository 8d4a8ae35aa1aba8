/- The law 'BulkPuts': whatever answer, rows of bytes and bytes are handed in, the call answers 'true', and what was handed in reads as it did; its card. -/
import Derived.Test.YtopblipficpilaaGreatDoorBulkPuts22
import Derived.Test.YtopblipficpilaaGreatDoorBulkPuts40
import Derived.Test.YtopblipficpilaaGreatDoorBulkPuts31
import Derived.Test.YtopblipficpilaaGreatDoorBulkPuts23
import Derived.Test.YtopblipficpilaaGreatDoorBulkPuts39
import Derived.Test.YtopblipficpilaaGreatDoorBulkPuts24
import Derived.Test.YtopblipficpilaaGreatDoorBulkPuts25
import Derived.Test.YtopblipficpilaaGreatDoorBulkPuts26
import Derived.Test.YtopblipficpilaaGreatDoorRows
import Derived.Test.YtopblipficpilaaGreatDoorTie
import Derived.Test.YtopblipficpilaaGreatDoorCards
import Derived.ProofKit
import Derived.OpenShut
import Derived.LaidMore
import Derived.Lay
import Derived.SevenTiedAt
import Derived.Stop.Joined
import Derived.Shelf.Vars
namespace Go.Proofs.YtopblipficpilaaGreatDoor.AY
open Go Go.Proofs Go.RowKit Go.ChangeShapes Go.WideShapes Go.ChangeAt Go.Deep
set_option linter.unusedVariables false
set_option linter.unusedSimpArgs false
set_option maxRecDepth 100000

namespace bulkPuts
theorem own : ownKnob Tryz.prog.godebug = none := by kernel_rfl
theorem max_cell {W : World} (h : W.ShapedOpen Tryz.prog) : ∃ m, W.cell? ⟨maxLenG, 0, none⟩ = some (.int .i64 m) :=
  cell_of_shapedOpen_int (P := Tryz.prog) (g := maxLenG) (t := 3) (zero := #[.int .i64 0]) h (of_decide_eq_true (by kernel_rfl)) (by kernel_rfl) rfl (by kernel_rfl) (by kernel_rfl) Tryz.underlying3
theorem lifted (os : Os) (started : os.Started) (H : Type) (enc : TypeId × Value → H) :
    ReturnsInHanded {} Tryz.checked os 6 .any (fun w args => (Rows.bulkPutsSpec.pre enc Tryz.prog Tryz.f6 Rows.bulkPutsRow.domain false w args ∧ laidMetH Tryz.prog Rows.bulkPutsRow.laid w) ∧ sizedMet enc Tryz.prog Tryz.f6 (OpenSpec.ofChange Rows.bulkPutsSpec) false w args)
      (Rows.bulkPutsSpec.post enc Tryz.prog Tryz.f6 false true false false) := by
  refine held_both (C := Tryz.checked) (X := fun w _ => laidMetH Tryz.prog Rows.bulkPutsRow.laid w) (fun _ _ _ hh h => h.of_heap hh) own started (by kernel_rfl) Tryz.func6
    (ChangeSpec.witness_shaped (enc := enc) (C := Tryz.checked) (os := os) (X := fun w _ => laidMetH Tryz.prog Rows.bulkPutsRow.laid w) false (World.laidAll Tryz.prog os Rows.bulkPutsRow.laid) #[.bool false, .slice none 0 0, .slice none 0 0] 8 (World.laidAll_os _ _ _)
      (World.shaped_of_ZipB (by kernel_rfl) (by kernel_rfl)) (by kernel_rfl) (by kernel_rfl) (by kernel_rfl)
      (by rw [MakeChecks.laidMetH_plain _ _ _ (by kernel_rfl)]; exact laidMet_laidAll _ (by kernel_rfl) (by kernel_rfl))) ?_
  intro W base args ds gs before hval0 hW hsh
  have hval : ∀ (j : Nat) t v, Tryz.f6.params[j]? = some t → args[j]? = some v → Value.okWide Tryz.prog W .any base t v := hval0
  have hW' := hW
  obtain ⟨p, q, hA0, hV, rfl, hfz, hnd⟩ := hW
  have hA : DataW.TrodAll enc Tryz.prog W 0 (fun _ => true) true Tryz.f6.params.toList args.toList ds p := hA0
  rw [Tryz.params6] at hA hval
  obtain ⟨v0, vs0, d0, ds0, p0, q0, hargs, rfl, rfl, h0, r0⟩ := trodAll_cons hA
  obtain ⟨v1, vs1, d1, ds1, p1, q1, rfl, rfl, rfl, h1, r1⟩ := trodAll_cons r0
  obtain ⟨v2, vs2, d2, ds2, p2, q2, rfl, rfl, rfl, h2, r2⟩ := trodAll_cons r1
  obtain ⟨rfl, rfl, rfl⟩ := trodAll_nil r2
  obtain rfl : args = #[v0, v1, v2] := by cases args; simp_all
  obtain ⟨rfl, rfl⟩ := trodVars_none hV
  have k0 := h0
  have lt0 : ∀ x ∈ p0, x.block < W.heap.size := by obtain ⟨m, hm⟩ := k0; exact DataW.trod_lt m _ _ _ hm
  have k1 := h1
  have lt1 : ∀ x ∈ p1, x.block < W.heap.size := by obtain ⟨m, hm⟩ := k1; exact DataW.trod_lt m _ _ _ hm
  have k2 := h2
  have lt2 : ∀ x ∈ p2, x.block < W.heap.size := by obtain ⟨m, hm⟩ := k2; exact DataW.trod_lt m _ _ _ hm
  obtain ⟨ρs, Ms, hgs, hjs, hns⟩ := Good.startG Tryz.prog (max_cell hsh)
  obtain ⟨ρ0, M0, av0, s0, g0, hg0, hv0, hsh0⟩ := reifyV (n := 8) (by kernel_rfl) (hval 0 4 v0 rfl rfl) h0 hgs
  obtain ⟨ρ1, M1, av1, s1, g1, hg1, hv1, hsh1⟩ := reifyV (n := 8) (by kernel_rfl) (hval 1 59 v1 rfl rfl) h1 hg0
  obtain ⟨ρ2, M2, av2, s2, g2, hg2, hv2, hsh2⟩ := reifyV (n := 8) (by kernel_rfl) (hval 2 42 v2 rfl rfl) h2 hg1
  obtain ⟨on, rfl⟩ := bool_of ((hsh0.grew g1).grew g2)
  obtain ⟨vs, ls, hR, hP, hL, hB⟩ := rows_ofB (hsh1.grew g2)
  obtain ⟨b, hRb, hEb, hBb, hLb⟩ := bytes_ofE hsh2
  have hj : M2.get 0 = some ⟨[], globTag + maxLenG, false⟩ := by rw [(g0.trans (g1.trans g2)).keep 0 hns]; exact hjs
  obtain ⟨_, _, hc, rfl, rfl⟩ := law6_spec on av1 vs ls av2 b M2 hg2.ok hR hP hL hB hRb hEb hBb hLb 0 hj
  refine (hc.row hg2 (VRs.three ((hv0.mono s1).mono s2) (hv1.mono s2) hv2)).mono fun e W' ⟨r', ρ', he, hr', bel⟩ => ?_
  subst he
  cases hr'
  exact ⟨_, rfl, _, _, _, [], _, [], hW', trodAll_mk1 (shut_bool Tryz.underlying4 _), (trodAll_cons_mk (Below.trod laidOut (by kernel_rfl) (of_decide_eq_true (by kernel_rfl)) k0 bel lt0) (trodAll_cons_mk (Below.trod laidOut (by kernel_rfl) (of_decide_eq_true (by kernel_rfl)) k1 bel lt1) (trodAll_cons_mk (Below.trod laidOut (by kernel_rfl) (of_decide_eq_true (by kernel_rfl)) k2 bel lt2) trodAll_mk0))), rfl, bel.frame _, fun h => by cases h⟩
end bulkPuts
end Go.Proofs.YtopblipficpilaaGreatDoor.AY
namespace Go.Proofs.YtopblipficpilaaGreatDoor
open Go
set_option maxRecDepth 100000
theorem bulkPuts_row : Rows.BulkPutsSaid :=
  OpenClaim.holds_of_wide 6 Tryz.f6 rfl rfl rfl rfl rfl rfl rfl ⟨rfl, rfl, rfl, rfl, rfl⟩ rfl rfl rfl rfl rfl AY.bulkPuts.named Tryz.func6 AY.bulkPuts.joined
    (of_decide_eq_true (by kernel_rfl)) (by unfold Func.isWrapper; first | (rw [if_pos (by decide +kernel)]; kernel_rfl) | (rw [if_neg (by decide +kernel)]; exact ⟨rfl, rfl⟩))
    (fun os started H enc _ => AY.bulkPuts.lifted os started H enc)
theorem AY.bulkPuts.goes : false = Rows.bulkPutsRow.goesBy Tryz.prog := by
  have e : Rows.bulkPutsRow.goesBy Tryz.prog = (Tryz.prog.goesFrom "deedbox/deedboxlaw40.BulkPuts" || false) := rfl
  rw [e, Bool.or_false, Program.goesFrom, AY.bulkPuts.named, Option.any_some]
  exact (AY.goes_false AY.noGoes 6).symm
/-- The tied card. -/
theorem bulkPuts_holds : Rows.BulkPutsCardSaid :=
  Claim7.holds_tied_plain_at .later [] [.data, .pinned] true (true, "48bd2db131e9648794cae3c635d5614bb7ba11ab4ea341627dcdcba87f6bfa98") false bulkPuts_row (fun _ h => by cases h) (by kernel_rfl) (fun _ h => by cases h) bulkPuts_row_tie rfl ⟨rfl, rfl⟩ (by kernel_rfl) rfl
    (fun f fn hf hfn => by
      obtain rfl : f = 6 := Option.some.inj (AY.bulkPuts.named.symm.trans hf) |>.symm
      obtain rfl : fn = Tryz.f6 := (Option.some.inj (Tryz.func6.symm.trans hfn)).symm
      exact ⟨AY.noLooks, fun j t ht => by
        rw [Tryz.params6] at ht
        have hm : t ∈ [4, 59, 42] := by simpa using Array.mem_of_getElem? ht
        have hall : ([4, 59, 42].all fun u => !Tryz.prog.wantsStandIn u) = true := by kernel_rfl
        exact (show Tryz.prog.wantsStandIn t = false by simpa using List.all_eq_true.1 hall t hm)⟩)
    (AY.bulkPuts.goes)
#print axioms bulkPuts_holds
end Go.Proofs.YtopblipficpilaaGreatDoor
