/- The law 'ReplyReads': whatever bytes are handed in, the call answers 'true', and what was handed in reads as it did. -/
import Derived.Test.YthheaehpnleiaaaReplyReads17
import Derived.Test.YthheaehpnleiaaaReplyReads14
import Derived.Test.YthheaehpnleiaaaRows
import Derived.WalkKit
import Derived.ProofKit
import Derived.OpenShut
import Derived.ShutString
import Derived.ChangeOld
import Derived.SizedLaws
namespace Go.Proofs.Ythheaehpnleiaaa.AX
open Go Go.Proofs Go.RowKit Go.ChangeShapes Go.WideShapes Go.Deep
set_option linter.unusedVariables false
set_option linter.unusedSimpArgs false
set_option maxRecDepth 100000

namespace replyReads
theorem own : ownKnob Try.prog.godebug = none := by kernel_rfl
theorem laidOut : laidOutB Try.prog = true := by kernel_rfl
theorem lifted (os : Os) (started : os.Started) (H : Type) (enc : TypeId × Value → H) :
    ReturnsInHanded {} Try.checked os 4 .any (Rows.replyReadsSpec.pre6 enc Try.prog Try.f4 Rows.replyReadsRow.domain false) (Rows.replyReadsSpec.post enc Try.prog Try.f4 false true false false) := by
  refine returnsInHanded_of_change_sized (C := Try.checked) own started (by kernel_rfl) Try.func4
    (ChangeSpec.witness6 (enc := enc) (C := Try.checked) false ⟨#[], #[.slice none 0 0], []⟩ 8 (by kernel_rfl) (by kernel_rfl) (by kernel_rfl) (by kernel_rfl)) ?_
  intro W base args ds gs before hval0 hW hcnd hsz0 _
  have hval : ∀ (j : Nat) t v, Try.f4.params[j]? = some t → args[j]? = some v → Value.okWide Try.prog W .any base t v := hval0
  have hW' := hW
  obtain ⟨p, q, hA0, hV, rfl, hfz, hnd⟩ := hW
  have hA : DataW.TrodAll enc Try.prog W 0 (fun _ => true) true Try.f4.params.toList args.toList ds p := hA0
  rw [Try.params4] at hA hval
  obtain ⟨v0, vs0, d0, ds0, p0, q0, hargs, rfl, rfl, h0, r0⟩ := trodAll_cons hA
  obtain ⟨rfl, rfl, rfl⟩ := trodAll_nil r0
  obtain rfl : args = #[v0] := by cases args; simp_all
  obtain ⟨rfl, rfl⟩ := trodVars_none hV
  have k0 := h0
  have lt0 : ∀ x ∈ p0, x.block < W.heap.size := by obtain ⟨m, hm⟩ := k0; exact DataW.trod_lt m _ _ _ hm
  obtain ⟨ρ0, M0, av0, s0, g0, hg0, hv0, hsh0⟩ := reifyV (n := 8) (by kernel_rfl) (hval 0 23 v0 rfl rfl) h0 (Good.start Try.prog W)
  obtain ⟨l0, hR0, hB0, hE0⟩ := bytes_ofE hsh0
  obtain ⟨_, _, hc, rfl, rfl⟩ := law4_spec _ l0 M0 hg0.ok hR0 hB0 hE0
  refine (hc.row hg0 (VRs.one hv0)).mono fun e W' ⟨r', ρ', he, hr', bel⟩ => ?_
  subst he
  cases hr'
  exact ⟨_, rfl, _, _, _, [], _, [], hW', trodAll_mk1 (shut_bool Try.underlying4 _), (trodAll_cons_mk (Below.trod laidOut (by kernel_rfl) (of_decide_eq_true (by kernel_rfl)) k0 bel lt0) trodAll_mk0), rfl, bel.frame _, fun h => by cases h⟩
theorem over : Rows.replyReadsRow.holds Try.pinned (OpenSpec.ofChange Rows.replyReadsSpec) :=
  OpenClaim.holds_of_wide 4 Try.f4 rfl rfl rfl rfl rfl rfl rfl ⟨rfl, rfl, rfl, rfl, rfl⟩ rfl rfl rfl rfl rfl (by kernel_rfl) Try.func4 (by kernel_rfl)
    (of_decide_eq_true (by kernel_rfl)) (by unfold Func.isWrapper; first | (rw [if_pos (by decide +kernel)]; kernel_rfl) | (rw [if_neg (by decide +kernel)]; exact ⟨rfl, rfl⟩))
    (fun os started H enc _ => lifted os started H enc)
end replyReads
end Go.Proofs.Ythheaehpnleiaaa.AX
namespace Go.Proofs.Ythheaehpnleiaaa
/-- The row, under a short name, for the claim. -/
theorem replyReads_holds : Rows.ReplyReadsSaid := AX.replyReads.over
#print axioms replyReads_holds
end Go.Proofs.Ythheaehpnleiaaa
