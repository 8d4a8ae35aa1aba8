/- How great a node is, by the document; what is wrong with its parts; whether it is no more than is waited for. -/
import Derived.Test.YthheaehpnleiaaaAxN1
namespace Go.Proofs.Ythheaehpnleiaaa.AX
open Go Go.Proofs
set_option maxRecDepth 100000
set_option linter.unusedVariables false
set_option linter.unusedSimpArgs false

theorem size29_spec (n : Node) (vp vk : Value) (M : Mem) (hok : Ok M) (hr : NodeR M n vp vk) (hL : Lt18 n) : ∃ r M', ACall Try.prog 29 #[.agg (nodeC n.leaf vp vk).toArray] M r M' ∧ r = .int .i64 (sizeF n) ∧ M' = M := by
  refine ACall.fin (args := [.agg (nodeC n.leaf vp vk).toArray]) (k := 49) Try.func29 rfl rfl rfl (Nat.le_of_ble_eq_true rfl) ?_
  refine AWP.stepR [1] fun K hK => ?_
  simp only [go_sem, Nat.reduceEqDiff, Nat.reduceLT, Nat.reduceAdd, Nat.reduceMul, Nat.reduceSub, Nat.add_zero, Nat.zero_add, Int.reduceEq, Int.reduceLT]
  refine hK _ _ _ (by simp only [go_sem, Nat.reduceEqDiff, Nat.reduceLT, Nat.reduceAdd, Nat.reduceMul, Nat.reduceSub, Nat.add_zero, Nat.zero_add, Int.reduceEq, Int.reduceLT]; rfl) ?_; clear hK
  have hlt1 : M.next < (M.bump 1).next := Nat.lt_succ_self _
  obtain ⟨hg1, hh1⟩ := mk_put ((Grew.refl M).bump 1) (Nat.le_refl _) hlt1 ⟨nodeC n.leaf vp vk, 44, true⟩
  change AWP _ _ _ ⟨_, (M.bump 1).put M.next ⟨nodeC n.leaf vp vk, 44, true⟩⟩ _
  generalize hM1 : (M.bump 1).put M.next ⟨nodeC n.leaf vp vk, 44, true⟩ = M1 at hg1 hh1
  have hr := hr.grew hg1
  obtain ⟨lf, ps, ks⟩ := n
  have hlp := hL.pairs; have hlk := hL.kids
  have hsp := sum_take_le hL.pr (by simp only at hlp; simp only; omega)
  have hsk := sum_take_le hL.kd (by simp only at hlk; simp only; omega)
  simp only at hlp hlk hsp hsk hh1
  refine AWP.stepR [1, 3] fun K hK => ?_
  simp only [go_sem, Nat.reduceEqDiff, Nat.reduceLT, Nat.reduceAdd, Nat.reduceMul, Nat.reduceSub, Nat.add_zero, Nat.zero_add, Int.reduceEq, Int.reduceLT]
  refine hK _ _ _ (by simp only [go_sem, Nat.reduceEqDiff, Nat.reduceLT, Nat.reduceAdd, Nat.reduceMul, Nat.reduceSub, Nat.add_zero, Nat.zero_add, Int.reduceEq, Int.reduceLT]; rfl) ?_; clear hK
  refine AWP.seq ?_
  refine AWP.stepR [1, 3, 4] fun K hK => ?_
  simp only [go_sem, Nat.reduceEqDiff, Nat.reduceLT, Nat.reduceAdd, Nat.reduceMul, Nat.reduceSub, Nat.add_zero, Nat.zero_add, Int.reduceEq, Int.reduceLT]
  refine hK _ _ _ (by simp only [go_sem, Nat.reduceEqDiff, Nat.reduceLT, Nat.reduceAdd, Nat.reduceMul, Nat.reduceSub, Nat.add_zero, Nat.zero_add, Int.reduceEq, Int.reduceLT]; rfl) ?_; clear hK
  refine AWP.block ?_ -- b0
  refine AWP.loopK [1, 3, 4] (fun n e M0 => M0 = M1 ∧ n ≤ ps.length ∧ e = [(1, .pointer (some ⟨M.next, 0, none⟩)), (3, .int .i64 (3 + sumF prSz (ps.take (ps.length - n)))), (4, .int .i64 ((ps.length - n : Nat) : Int))]) ps.length ?_ fun n e M0 hI => ?_ -- LOOP
  · simp only [go_sem, Nat.reduceEqDiff, Nat.reduceLT, Nat.reduceAdd, Nat.reduceMul, Nat.reduceSub, Nat.add_zero, Nat.zero_add, Int.reduceEq, Int.reduceLT, true_and, Nat.le_refl]
    simp [sumF]
  obtain ⟨rfl, hn, rfl⟩ := hI
  refine AWP.seq ?_
  refine AWP.stepR [1, 3, 4, 10] fun K hK => ?_
  simp only [go_sem, Nat.reduceEqDiff, Nat.reduceLT, Nat.reduceAdd, Nat.reduceMul, Nat.reduceSub, Nat.add_zero, Nat.zero_add, Int.reduceEq, Int.reduceLT, ld_41, hh1.ld, nodeC, hr.pairs.len es_41]
  refine hK _ _ _ (by simp only [go_sem, Nat.reduceEqDiff, Nat.reduceLT, Nat.reduceAdd, Nat.reduceMul, Nat.reduceSub, Nat.add_zero, Nat.zero_add, Int.reduceEq, Int.reduceLT]; rfl) ?_; clear hK
  refine AWP.cond_split rfl (fun h10 => ?_) fun h10 => ?_
  · have hlt : ps.length - n < ps.length := by simpa using h10
    obtain ⟨b, q, ha, hd⟩ := pr_at hr.pairs hlt
    obtain ⟨hd1, hd2, _⟩ := hd M0 (Grew.refl _)
    have hk := hr.pk _ (List.getElem_mem hlt)
    have hv := hr.pv _ (List.getElem_mem hlt)
    have hs1 := hsp (ps.length - n)
    have hs2 := hsp (ps.length - n + 1)
    rw [sumF_take prSz ps hlt] at hs2
    have hb := hL.pk _ (List.getElem_mem hlt)
    have hb2 := hL.pv _ (List.getElem_mem hlt)
    have hst := sumF_take prSz ps hlt
    simp only at ha hd1 hd2 hk hv hb hb2 hst
    generalize ps[ps.length - n] = x at hd1 hd2 hk hv hs2 hb hb2 hst
    refine AWP.skip ?_
    refine AWP.seq ?_
    refine AWP.block ?_ -- b1
    refine AWP.oneD' hmo [0, 1, 2, 3, 4, 5, 6, 7, 8, 9, 10, 11, 12, 13, 14, 15, 16, 17, 18] [0, 1, 0, 4, 0, 28, 60, 124, 252, 511, 0, 1024, 0, 7168, 15360, 31744, 64512, 131071, 262143] [] [] (by kernel_rfl) fun K hK => ?_
    simp only [go_sem, Nat.reduceEqDiff, Nat.reduceLT, Nat.reduceAdd, Nat.reduceMul, Nat.reduceSub, Nat.add_zero, Nat.zero_add, Int.reduceEq, Int.reduceLT, ld_41, hh1.ld, nodeC, ha, hd1, hd2, ld_23, hk.len es_23, hv.len es_23]
    refine hK _ _ ?_; clear hK
    refine AWP.lastR fun K hK => ?_
    simp only [go_sem, Nat.reduceEqDiff, Nat.reduceLT, Nat.reduceAdd, Nat.reduceMul, Nat.reduceSub, Nat.add_zero, Nat.zero_add, Int.reduceEq, Int.reduceLT]
    refine hK _ _ ?_; clear hK
    refine ⟨n - 1, by omega, rfl, by omega, ?_⟩ -- ROUND
    simp only [go_sem, Nat.reduceEqDiff, Nat.reduceLT, Nat.reduceAdd, Nat.reduceMul, Nat.reduceSub, Nat.add_zero, Nat.zero_add, Int.reduceEq, Int.reduceLT]
    have hpx : prSz x = 2 + (x.key.length : Int) + (x.val.length : Int) := rfl
    rw [i64w (n := ((ps.length - n : Nat) : Int) + 1) (by omega) (by omega), i64w (n := 3 + sumF prSz (ps.take (ps.length - n)) + 2) (by omega) (by omega), i64w (n := 3 + sumF prSz (ps.take (ps.length - n)) + 2 + _) (by omega) (by omega), i64w (by omega) (by omega),
      show ((ps.length - n : Nat) : Int) + 1 = ((ps.length - (n - 1) : Nat) : Int) by omega, show ps.length - (n - 1) = ps.length - n + 1 by omega, hst]
    congr 4
    omega
  · refine AWP.exit (Then.exit (Then.exit (InBlock.same ?_)))
    have hn0 : n = 0 := by simp at h10; omega
    subst hn0
    rw [Nat.sub_zero, List.take_length]
    have hsum := hsp ps.length
    rw [List.take_length] at hsum
    refine AWP.seq ?_
    refine AWP.stepR [1, 3, 5] fun K hK => ?_
    simp only [go_sem, Nat.reduceEqDiff, Nat.reduceLT, Nat.reduceAdd, Nat.reduceMul, Nat.reduceSub, Nat.add_zero, Nat.zero_add, Int.reduceEq, Int.reduceLT]
    refine hK _ _ _ (by simp only [go_sem, Nat.reduceEqDiff, Nat.reduceLT, Nat.reduceAdd, Nat.reduceMul, Nat.reduceSub, Nat.add_zero, Nat.zero_add, Int.reduceEq, Int.reduceLT]; rfl) ?_; clear hK
    refine AWP.block ?_ -- b2
    refine AWP.loopK [1, 3, 5] (fun n e M2 => M2 = M0 ∧ n ≤ ks.length ∧ e = [(1, .pointer (some ⟨M.next, 0, none⟩)), (3, .int .i64 (3 + sumF prSz ps + sumF kdSz (ks.take (ks.length - n)))), (5, .int .i64 ((ks.length - n : Nat) : Int))]) ks.length ?_ fun n e M2 hI => ?_ -- LOOP
    · simp only [go_sem, Nat.reduceEqDiff, Nat.reduceLT, Nat.reduceAdd, Nat.reduceMul, Nat.reduceSub, Nat.add_zero, Nat.zero_add, Int.reduceEq, Int.reduceLT, true_and, Nat.le_refl]
      simp [sumF]
    obtain ⟨rfl, hn, rfl⟩ := hI
    refine AWP.seq ?_
    refine AWP.stepR [1, 3, 5, 35] fun K hK => ?_
    simp only [go_sem, Nat.reduceEqDiff, Nat.reduceLT, Nat.reduceAdd, Nat.reduceMul, Nat.reduceSub, Nat.add_zero, Nat.zero_add, Int.reduceEq, Int.reduceLT, ld_42, hh1.ld, nodeC, hr.kids.len es_42]
    refine hK _ _ _ (by simp only [go_sem, Nat.reduceEqDiff, Nat.reduceLT, Nat.reduceAdd, Nat.reduceMul, Nat.reduceSub, Nat.add_zero, Nat.zero_add, Int.reduceEq, Int.reduceLT]; rfl) ?_; clear hK
    refine AWP.cond_split rfl (fun h35 => ?_) fun h35 => ?_
    · have hlt : ks.length - n < ks.length := by simpa using h35
      obtain ⟨b, q, ha, hd⟩ := kd_at hr.kids hlt
      obtain ⟨hd1, _⟩ := hd M2 (Grew.refl _)
      have hk := hr.kk _ (List.getElem_mem hlt)
      have hs1 := hsk (ks.length - n)
      have hs2 := hsk (ks.length - n + 1)
      rw [sumF_take kdSz ks hlt] at hs2
      have hb := hL.kk _ (List.getElem_mem hlt)
      have hst := sumF_take kdSz ks hlt
      simp only at ha hd1 hk hb hst
      generalize ks[ks.length - n] = x at hd1 hk hs2 hb hst
      refine AWP.skip ?_
      refine AWP.seq ?_
      refine AWP.block ?_ -- b3
      refine AWP.lastR fun K hK => ?_
      simp only [go_sem, Nat.reduceEqDiff, Nat.reduceLT, Nat.reduceAdd, Nat.reduceMul, Nat.reduceSub, Nat.add_zero, Nat.zero_add, Int.reduceEq, Int.reduceLT, ld_42, hh1.ld, nodeC, ha, hd1, ld_23, hk.len es_23]
      refine hK _ _ ?_; clear hK
      refine AWP.lastR fun K hK => ?_
      simp only [go_sem, Nat.reduceEqDiff, Nat.reduceLT, Nat.reduceAdd, Nat.reduceMul, Nat.reduceSub, Nat.add_zero, Nat.zero_add, Int.reduceEq, Int.reduceLT]
      refine hK _ _ ?_; clear hK
      refine ⟨n - 1, by omega, rfl, by omega, ?_⟩ -- ROUND
      simp only [go_sem, Nat.reduceEqDiff, Nat.reduceLT, Nat.reduceAdd, Nat.reduceMul, Nat.reduceSub, Nat.add_zero, Nat.zero_add, Int.reduceEq, Int.reduceLT]
      have hpx : kdSz x = 11 + (x.key.length : Int) := rfl
      rw [i64w (n := ((ks.length - n : Nat) : Int) + 1) (by omega) (by omega), i64w (n := 3 + sumF prSz ps + sumF kdSz (ks.take (ks.length - n)) + 11) (by omega) (by omega), i64w (by omega) (by omega),
        show ((ks.length - n : Nat) : Int) + 1 = ((ks.length - (n - 1) : Nat) : Int) by omega, show ks.length - (n - 1) = ks.length - n + 1 by omega, hst]
      congr 4
      omega
    · refine AWP.exit (Then.exit (Then.exit (InBlock.same ?_)))
      refine AWP.stepR [2] fun K hK => ?_
      simp only [go_sem, Nat.reduceEqDiff, Nat.reduceLT, Nat.reduceAdd, Nat.reduceMul, Nat.reduceSub, Nat.add_zero, Nat.zero_add, Int.reduceEq, Int.reduceLT]
      refine hK _ _ _ (by simp only [go_sem, Nat.reduceEqDiff, Nat.reduceLT, Nat.reduceAdd, Nat.reduceMul, Nat.reduceSub, Nat.add_zero, Nat.zero_add, Int.reduceEq, Int.reduceLT]; rfl) ?_; clear hK
      refine AWP.ret (?_)
      refine Fin.plain (.inr rfl) rfl rfl hok hg1 ⟨?_, rfl⟩
      have hn0 : n = 0 := by simp at h35; omega
      rw [hn0, Nat.sub_zero, List.take_length, sizeF]

end Go.Proofs.Ythheaehpnleiaaa.AX
