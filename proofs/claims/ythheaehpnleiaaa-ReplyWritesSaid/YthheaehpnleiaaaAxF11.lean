/- The law's function: it answers 'true'. -/
import Derived.Test.YthheaehpnleiaaaAxF10
import Derived.Test.YthheaehpnleiaaaAxG11
namespace Go.Proofs.Ythheaehpnleiaaa.AX
open Go Go.Proofs
set_option maxRecDepth 100000
set_option linter.unusedVariables false
set_option linter.unusedSimpArgs false

theorem law3_spec (r : Rep) (vb vm vt vn vp vs : Value) (M : Mem) (hok : Ok M) (hr : RepR M r vb vm vt vn vp vs) :
    ∃ v M', ACall Try.prog 3 #[.agg (repC r vb vm vt vn vp vs).toArray] M v M' ∧ v = .bool true ∧ M' = M := by
  refine ACall.fin (args := [.agg (repC r vb vm vt vn vp vs).toArray]) (k := 39) Try.func3 rfl rfl rfl (Nat.le_of_ble_eq_true rfl) ?_
  refine AWP.stepR [1] fun K hK => ?_ -- r0
  simp only [go_sem, Nat.reduceEqDiff, Nat.reduceLT, Nat.reduceAdd, Nat.reduceMul, Nat.reduceSub, Nat.add_zero, Nat.zero_add, Int.reduceEq, Int.reduceLT]
  refine hK _ _ _ (by simp only [go_sem, Nat.reduceEqDiff, Nat.reduceLT, Nat.reduceAdd, Nat.reduceMul, Nat.reduceSub, Nat.add_zero, Nat.zero_add, Int.reduceEq, Int.reduceLT]; rfl) ?_; clear hK
  have hlt0 : M.next < (M.bump 1).next := Nat.lt_succ_self _
  obtain ⟨hg1, hh1⟩ := mk_put ((Grew.refl M).bump 1) (Nat.le_refl _) hlt0 ⟨repC r vb vm vt vn vp vs, 29, true⟩
  change AWP _ _ _ ⟨_, (M.bump 1).put M.next ⟨repC r vb vm vt vn vp vs, 29, true⟩⟩ _
  generalize hM1 : (M.bump 1).put M.next ⟨repC r vb vm vt vn vp vs, 29, true⟩ = M1 at hg1 hh1
  have hr := hr.grew hg1
  obtain ⟨rl, Ml, hcl, hrl, hMl⟩ := light10_spec r vb vm vt vn vp vs M1 (hg1.ok hok) hr
  rw [hrl, hMl] at hcl
  refine AWP.seq ?_
  refine AWP.stepR [1, 9] fun K hK => ?_ -- r1
  simp only [go_sem, Nat.reduceEqDiff, Nat.reduceLT, Nat.reduceAdd, Nat.reduceMul, Nat.reduceSub, Nat.add_zero, Nat.zero_add, Int.reduceEq, Int.reduceLT, ld_29, hh1.lda (repC_len ..)]
  refine ⟨_, _, hcl, ?_⟩
  refine hK _ _ _ (by simp only [go_sem, Nat.reduceEqDiff, Nat.reduceLT, Nat.reduceAdd, Nat.reduceMul, Nat.reduceSub, Nat.add_zero, Nat.zero_add, Int.reduceEq, Int.reduceLT]; rfl) ?_; clear hK
  refine AWP.cond_split rfl (fun h9 => ?_) fun h9 => ?_
  · refine AWP.stepR [2] fun K hK => ?_ -- r2
    simp only [go_sem, Nat.reduceEqDiff, Nat.reduceLT, Nat.reduceAdd, Nat.reduceMul, Nat.reduceSub, Nat.add_zero, Nat.zero_add, Int.reduceEq, Int.reduceLT]
    refine ⟨_, _, works11_spec _, ?_⟩
    refine hK _ _ _ (by simp only [go_sem, Nat.reduceEqDiff, Nat.reduceLT, Nat.reduceAdd, Nat.reduceMul, Nat.reduceSub, Nat.add_zero, Nat.zero_add, Int.reduceEq, Int.reduceLT]; rfl) ?_; clear hK
    refine AWP.ret (Then.ret (?_))
    exact Fin.plain (.inr rfl) rfl rfl hok hg1 ⟨rfl, rfl⟩
  · have hL : Lt r := Lt.of (by simpa using h9)
    have hn1 : r.names.length ≤ 1000 := Nat.le_trans hL.names (by decide)
    have hn2 : r.prefixes.length ≤ 1000 := Nat.le_trans hL.prefixes (by decide)
    have hn3 : r.shown.length ≤ 1000 := Nat.le_trans hL.shown (by decide)
    obtain ⟨ra, Ma, hca, hga, ba, rfl, hba⟩ := put12_spec r vb vm vt vn vp vs M1 (hg1.ok hok) hr hL
    have hra := hr.grew hga
    have hha := hh1.grew hga
    have hgA := hg1.trans hga
    obtain ⟨rb, Mb, hcb, hgb, bb, rfl, hbb⟩ := put13_spec r vb vm vt vn vp vs Ma (hgA.ok hok) hra hL
    have hrb := hra.grew hgb
    have hhb := hha.grew hgb
    have hgB := hgA.trans hgb
    have hba := hba.grew hgb
    have hlen : (if checkF r = 0 then replyB r else []).length ≤ 4611686018427387904 := by
      split
      · have h1 := shownF_le hL r.shown.length (Nat.le_refl _)
        have h2 := hL.shown; have h3 := hL.body
        rw [replyB, List.length_append, longB_length]; omega
      · simp
    obtain ⟨rs, Ms, hcs, hrs, hMs⟩ := same14_spec ba bb _ _ Mb (hgB.ok hok) hba hbb hlen
    rw [hrs, hMs, beq_self_eq_true] at hcs
    obtain ⟨rc, Mc, hcc, hrc, hMc⟩ := check15_spec r vb vm vt vn vp vs Mb (hgB.ok hok) hrb hn1 hn2 hn3
    rw [hrc, hMc] at hcc
    obtain ⟨rd, Md, hcd, hrd, hMd⟩ := check16_spec r vb vm vt vn vp vs Mb (hgB.ok hok) hrb hn1 hn2 hn3
    rw [hrd, hMd] at hcd
    refine AWP.skip ?_
    refine AWP.stepR [1, 3, 4] fun K hK => ?_ -- r3
    simp only [go_sem, Nat.reduceEqDiff, Nat.reduceLT, Nat.reduceAdd, Nat.reduceMul, Nat.reduceSub, Nat.add_zero, Nat.zero_add, Int.reduceEq, Int.reduceLT, ld_29, hh1.lda (repC_len ..)]
    refine ⟨_, _, hca, ?_⟩
    simp only [go_sem, Nat.reduceEqDiff, Nat.reduceLT, Nat.reduceAdd, Nat.reduceMul, Nat.reduceSub, Nat.add_zero, Nat.zero_add, Int.reduceEq, Int.reduceLT, extractV]
    refine hK _ _ _ (by simp only [go_sem, Nat.reduceEqDiff, Nat.reduceLT, Nat.reduceAdd, Nat.reduceMul, Nat.reduceSub, Nat.add_zero, Nat.zero_add, Int.reduceEq, Int.reduceLT]; rfl) ?_; clear hK
    refine AWP.stepR [1, 3, 4, 5, 6] fun K hK => ?_ -- r4
    simp only [go_sem, Nat.reduceEqDiff, Nat.reduceLT, Nat.reduceAdd, Nat.reduceMul, Nat.reduceSub, Nat.add_zero, Nat.zero_add, Int.reduceEq, Int.reduceLT, ld_29, hha.lda (repC_len ..)]
    refine ⟨_, _, hcb, ?_⟩
    simp only [go_sem, Nat.reduceEqDiff, Nat.reduceLT, Nat.reduceAdd, Nat.reduceMul, Nat.reduceSub, Nat.add_zero, Nat.zero_add, Int.reduceEq, Int.reduceLT, extractV]
    refine hK _ _ _ (by simp only [go_sem, Nat.reduceEqDiff, Nat.reduceLT, Nat.reduceAdd, Nat.reduceMul, Nat.reduceSub, Nat.add_zero, Nat.zero_add, Int.reduceEq, Int.reduceLT]; rfl) ?_; clear hK
    refine AWP.stepD hmo [0, 1, 2, 3, 4, 5, 6, 7, 8, 9, 10, 11, 12, 13, 14, 15, 16, 17, 18] [0, 0, 3, 7, 15, 15, 63, 127, 255, 511, 1023, 511, 4095, 8191, 16383, 32767, 65535, 131071, 262143] [] [(11, 10)] (by kernel_rfl) [2] fun K hK => ?_ -- r5
    simp -implicitDefEqProofs only [go_sem, Nat.reduceEqDiff, Nat.reduceLT, Nat.reduceAdd, Nat.reduceMul, Nat.reduceSub, Nat.add_zero, Nat.zero_add, Int.reduceEq, Int.reduceLT]
    refine ⟨_, _, hcs, ?_⟩
    simp -implicitDefEqProofs only [go_sem, Nat.reduceEqDiff, Nat.reduceLT, Nat.reduceAdd, Nat.reduceMul, Nat.reduceSub, Nat.add_zero, Nat.zero_add, Int.reduceEq, Int.reduceLT, ld_29, hhb.lda (repC_len ..), beq_self_eq_true]
    refine ⟨_, _, hcc, ?_⟩
    simp -implicitDefEqProofs only [go_sem, Nat.reduceEqDiff, Nat.reduceLT, Nat.reduceAdd, Nat.reduceMul, Nat.reduceSub, Nat.add_zero, Nat.zero_add, Int.reduceEq, Int.reduceLT, ld_29, hhb.lda (repC_len ..), beq_self_eq_true]
    refine ⟨_, _, hcd, ?_⟩
    simp -implicitDefEqProofs only [go_sem, Nat.reduceEqDiff, Nat.reduceLT, Nat.reduceAdd, Nat.reduceMul, Nat.reduceSub, Nat.add_zero, Nat.zero_add, Int.reduceEq, Int.reduceLT, beq_self_eq_true]
    refine ⟨_, _, works11_spec _, ?_⟩
    try simp -implicitDefEqProofs only [go_sem, Nat.reduceEqDiff, Nat.reduceLT, Nat.reduceAdd, Nat.reduceMul, Nat.reduceSub, Nat.add_zero, Nat.zero_add, Int.reduceEq, Int.reduceLT]
    refine hK _ _ _ (by simp only [go_sem, Nat.reduceEqDiff, Nat.reduceLT, Nat.reduceAdd, Nat.reduceMul, Nat.reduceSub, Nat.add_zero, Nat.zero_add, Int.reduceEq, Int.reduceLT]; rfl) ?_; clear hK
    refine AWP.ret (?_)
    exact Fin.plain (.inr rfl) rfl rfl hok hgB ⟨rfl, rfl⟩
end Go.Proofs.Ythheaehpnleiaaa.AX
