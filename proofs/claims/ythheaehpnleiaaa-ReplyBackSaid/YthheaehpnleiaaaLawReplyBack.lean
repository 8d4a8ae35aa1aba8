/- The law 'ReplyBack': whatever answer and bytes are handed in, the call answers 'true', and what was handed in reads as it did. -/
import Derived.Test.YthheaehpnleiaaaReplyBack17
import Derived.Test.YthheaehpnleiaaaReplyBack14
import Derived.Test.YthheaehpnleiaaaRows
import Derived.WalkKit
import Derived.ProofKit
import Derived.OpenShut
import Derived.ShutString
import Derived.ChangeOld
import Derived.SizedLaws
namespace Go.Proofs.Ythheaehpnleiaaa.AX
open Go Go.Proofs Go.RowKit Go.ChangeShapes Go.WideShapes Go.Deep
set_option linter.unusedVariables false
set_option linter.unusedSimpArgs false
set_option maxRecDepth 100000

namespace replyBack
theorem own : ownKnob Try.prog.godebug = none := by kernel_rfl
theorem laidOut : laidOutB Try.prog = true := by kernel_rfl
theorem lifted (os : Os) (started : os.Started) (H : Type) (enc : TypeId × Value → H) :
    ReturnsInHanded {} Try.checked os 5 .any (Rows.replyBackSpec.pre6 enc Try.prog Try.f5 Rows.replyBackRow.domain false) (Rows.replyBackSpec.post enc Try.prog Try.f5 false true false false) := by
  refine returnsInHanded_of_change_sized (C := Try.checked) own started (by kernel_rfl) Try.func5
    (ChangeSpec.witness6 (enc := enc) (C := Try.checked) false ⟨#[], #[.agg #[.int .i64 0, .int .i64 0, .int .i64 0, .int .i64 0, .slice none 0 0, .slice none 0 0, .slice none 0 0, .int .i64 0, .bool false, .slice none 0 0, .slice none 0 0, .string ⟨#[]⟩, .bool false, .slice none 0 0, .int .i64 0, .int .i64 0, .bool false], .slice none 0 0], []⟩ 8 (by kernel_rfl) (by kernel_rfl) (by kernel_rfl) (by kernel_rfl)) ?_
  intro W base args ds gs before hval0 hW hcnd hsz0 _
  have hval : ∀ (j : Nat) t v, Try.f5.params[j]? = some t → args[j]? = some v → Value.okWide Try.prog W .any base t v := hval0
  have hW' := hW
  obtain ⟨p, q, hA0, hV, rfl, hfz, hnd⟩ := hW
  have hA : DataW.TrodAll enc Try.prog W 0 (fun _ => true) true Try.f5.params.toList args.toList ds p := hA0
  rw [Try.params5] at hA hval
  obtain ⟨v0, vs0, d0, ds0, p0, q0, hargs, rfl, rfl, h0, r0⟩ := trodAll_cons hA
  obtain ⟨v1, vs1, d1, ds1, p1, q1, rfl, rfl, rfl, h1, r1⟩ := trodAll_cons r0
  obtain ⟨rfl, rfl, rfl⟩ := trodAll_nil r1
  obtain rfl : args = #[v0, v1] := by cases args; simp_all
  obtain ⟨rfl, rfl⟩ := trodVars_none hV
  have k0 := h0
  have lt0 : ∀ x ∈ p0, x.block < W.heap.size := by obtain ⟨m, hm⟩ := k0; exact DataW.trod_lt m _ _ _ hm
  have k1 := h1
  have lt1 : ∀ x ∈ p1, x.block < W.heap.size := by obtain ⟨m, hm⟩ := k1; exact DataW.trod_lt m _ _ _ hm
  obtain ⟨ρ0, M0, av0, s0, g0, hg0, hv0, hsh0⟩ := reifyV (n := 8) (by kernel_rfl) (hval 0 29 v0 rfl rfl) h0 (Good.start Try.prog W)
  obtain ⟨ρ1, M1, av1, s1, g1, hg1, hv1, hsh1⟩ := reifyV (n := 8) (by kernel_rfl) (hval 1 23 v1 rfl rfl) h1 hg0
  obtain ⟨r0_, vb0, vm0, vt0, vn0, vp0, vs0_, rfl, hR0, hB0⟩ := rep_ofB (hsh0.grew g1)
  obtain ⟨l1, hR1, hB1, hl1⟩ := bytes_of hsh1
  obtain ⟨_, _, hc, rfl, rfl⟩ := law5_spec r0_ vb0 vm0 vt0 vn0 vp0 vs0_ _ l1 M1 hg1.ok hR0 hB0 hR1 hB1
  refine (hc.row hg1 (VRs.two (hv0.mono s1) hv1)).mono fun e W' ⟨r', ρ', he, hr', bel⟩ => ?_
  subst he
  cases hr'
  exact ⟨_, rfl, _, _, _, [], _, [], hW', trodAll_mk1 (shut_bool Try.underlying4 _), (trodAll_cons_mk (Below.trod laidOut (by kernel_rfl) (of_decide_eq_true (by kernel_rfl)) k0 bel lt0) (trodAll_cons_mk (Below.trod laidOut (by kernel_rfl) (of_decide_eq_true (by kernel_rfl)) k1 bel lt1) trodAll_mk0)), rfl, bel.frame _, fun h => by cases h⟩
theorem over : Rows.replyBackRow.holds Try.pinned (OpenSpec.ofChange Rows.replyBackSpec) :=
  OpenClaim.holds_of_wide 5 Try.f5 rfl rfl rfl rfl rfl rfl rfl ⟨rfl, rfl, rfl, rfl, rfl⟩ rfl rfl rfl rfl rfl (by kernel_rfl) Try.func5 (by kernel_rfl)
    (of_decide_eq_true (by kernel_rfl)) (by unfold Func.isWrapper; first | (rw [if_pos (by decide +kernel)]; kernel_rfl) | (rw [if_neg (by decide +kernel)]; exact ⟨rfl, rfl⟩))
    (fun os started H enc _ => lifted os started H enc)
end replyBack
end Go.Proofs.Ythheaehpnleiaaa.AX
namespace Go.Proofs.Ythheaehpnleiaaa
/-- The row, under a short name, for the claim. -/
theorem replyBack_holds : Rows.ReplyBackSaid := AX.replyBack.over
#print axioms replyBack_holds
end Go.Proofs.Ythheaehpnleiaaa
