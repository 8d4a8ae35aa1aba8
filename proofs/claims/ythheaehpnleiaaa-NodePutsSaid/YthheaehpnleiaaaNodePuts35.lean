/- The law's function 'NodePuts': it answers 'true'. -/
import Derived.Test.YthheaehpnleiaaaNodePuts30
import Derived.Test.YthheaehpnleiaaaNodePuts33
import Derived.Test.YthheaehpnleiaaaNodePuts34
namespace Go.Proofs.Ythheaehpnleiaaa.AX
open Go Go.Proofs
set_option maxRecDepth 100000
set_option linter.unusedVariables false
set_option linter.unusedSimpArgs false

theorem endF_err {x : Rs × NodeP} (h : (endF x).2 ≠ 0) : (endF x).1 = zP := by
  unfold endF at h ⊢
  split
  · rfl
  · rename_i h1
    rw [if_neg h1] at h
    split
    · rename_i h2
      rw [if_pos h2] at h
      split
      · rename_i h3
        rw [if_pos h3] at h
        exact absurd rfl h
      · rfl
    · rfl
theorem getF_err {b : List Int} (h : (getF b).2 ≠ 0) : (getF b).1 = zP := by
  unfold getF at h ⊢
  split
  · rename_i h1
    rw [if_pos h1] at h
    split
    · rfl
    · rename_i h2
      rw [if_neg h2] at h
      exact endF_err h
  · rfl
theorem lt_of_get {b : List Int} {m : Node} (hb : BytB b) (hm : NodeP.of m = (getF b).1) : Lt18 m := by
  by_cases h : (getF b).2 = 0
  · exact (put_getN hb h hm).2.2.1
  · rw [getF_err h] at hm
    have e1 : m.pairs = [] := List.map_eq_nil_iff.1 (congrArg NodeP.pairs hm)
    have e2 : m.kids = [] := List.map_eq_nil_iff.1 (congrArg NodeP.kids hm)
    refine ⟨by rw [e1]; simp, by rw [e2]; simp, fun p hp => ?_, fun p hp => ?_, fun p hp => ?_⟩
    · rw [e1] at hp; cases hp
    · rw [e1] at hp; cases hp
    · rw [e2] at hp; cases hp

theorem law6_spec (n : Node) (vp vk kv : Value) (b : List Int) (M : Mem) (hok : Ok M) (hr : NodeR M n vp vk) (hB : NodeB n) (hk : RowB M kv b) (hbk : Byt b) (hkE : b = [] ∨ RowE M kv b.length (cB b) 5) :
    ∃ r M', ACall Try.prog 6 #[.agg (nodeC n.leaf vp vk).toArray, kv] M r M' ∧ r = .bool true ∧ M' = M := by
  refine ACall.fin (args := [.agg (nodeC n.leaf vp vk).toArray, kv]) (k := 77) (rs := [.tmp 4]) Try.func6 rfl rfl rfl (Nat.le_of_ble_eq_true rfl) ?_
  refine AWP.stepR [1, 2] fun K hK => ?_
  simp only [go_sem, Nat.reduceEqDiff, Nat.reduceLT, Nat.reduceAdd, Nat.reduceMul, Nat.reduceSub, Nat.add_zero, Nat.zero_add, Int.reduceEq, Int.reduceLT]
  refine hK _ _ _ (by simp only [go_sem, Nat.reduceEqDiff, Nat.reduceLT, Nat.reduceAdd, Nat.reduceMul, Nat.reduceSub, Nat.add_zero, Nat.zero_add, Int.reduceEq, Int.reduceLT]; rfl) ?_; clear hK
  have hlt1 : M.next < (M.bump 1).next := Nat.lt_succ_self _
  obtain ⟨hg1, hh1⟩ := mk_put ((Grew.refl M).bump 1) (Nat.le_refl _) hlt1 ⟨nodeC n.leaf vp vk, 44, true⟩
  change AWP _ _ _ ⟨_, (M.bump 1).put M.next ⟨nodeC n.leaf vp vk, 44, true⟩⟩ _
  generalize hM1 : (M.bump 1).put M.next ⟨nodeC n.leaf vp vk, 44, true⟩ = M1 at hg1 hh1
  have hr := hr.grew hg1
  have hk := hk.grew hg1
  obtain ⟨r2, M2, hc2, hr2, hM2⟩ := light20_spec n vp vk M1 (hg1.ok hok) hr
  rw [hr2, hM2, lightV] at hc2
  refine AWP.seq ?_
  refine AWP.stepX [1, 2, 20] [(1, kv), (2, .pointer (some ⟨M.next, 0, none⟩)), (20, .bool (!(lightN n && !decide ((b.length : Int) > 600))))] M1 (fun K hK => ?_) ?_
  · cases hl : lightN n
    · rw [hl, if_neg (by decide)] at hc2
      simp only [go_sem, Nat.reduceEqDiff, Nat.reduceLT, Nat.reduceAdd, Nat.reduceMul, Nat.reduceSub, Nat.add_zero, Nat.zero_add, Int.reduceEq, Int.reduceLT, ld_44, hh1.lda (nodeC_len ..)]
      refine ⟨_, _, hc2, ?_⟩
      simp only [go_sem, Nat.reduceEqDiff, Nat.reduceLT, Nat.reduceAdd, Nat.reduceMul, Nat.reduceSub, Nat.add_zero, Nat.zero_add, Int.reduceEq, Int.reduceLT, show decide ((1 : Int) > 0) = true from rfl]
      refine hK _ ?_
      simp only [go_sem, Nat.reduceEqDiff, Nat.reduceLT, Nat.reduceAdd, Nat.reduceMul, Nat.reduceSub, Nat.add_zero, Nat.zero_add, Int.reduceEq, Int.reduceLT, hl, Bool.false_and, Bool.not_false]
    · rw [hl, if_pos rfl] at hc2
      simp only [go_sem, Nat.reduceEqDiff, Nat.reduceLT, Nat.reduceAdd, Nat.reduceMul, Nat.reduceSub, Nat.add_zero, Nat.zero_add, Int.reduceEq, Int.reduceLT, ld_44, hh1.lda (nodeC_len ..)]
      refine ⟨_, _, hc2, ?_⟩
      simp only [go_sem, Nat.reduceEqDiff, Nat.reduceLT, Nat.reduceAdd, Nat.reduceMul, Nat.reduceSub, Nat.add_zero, Nat.zero_add, Int.reduceEq, Int.reduceLT, show decide ((0 : Int) > 0) = false from rfl, hk.len es_23]
      refine hK _ ?_
      simp only [go_sem, Nat.reduceEqDiff, Nat.reduceLT, Nat.reduceAdd, Nat.reduceMul, Nat.reduceSub, Nat.add_zero, Nat.zero_add, Int.reduceEq, Int.reduceLT, hl, Bool.true_and, Bool.not_not]
  refine AWP.cond_split rfl (fun h20 => ?_) fun h20 => ?_
  · refine AWP.stepR [4] fun K hK => ?_
    simp only [go_sem, Nat.reduceEqDiff, Nat.reduceLT, Nat.reduceAdd, Nat.reduceMul, Nat.reduceSub, Nat.add_zero, Nat.zero_add, Int.reduceEq, Int.reduceLT]
    refine ⟨_, _, works21_spec _, ?_⟩
    refine hK _ _ _ (by simp only [go_sem, Nat.reduceEqDiff, Nat.reduceLT, Nat.reduceAdd, Nat.reduceMul, Nat.reduceSub, Nat.add_zero, Nat.zero_add, Int.reduceEq, Int.reduceLT]; rfl) ?_; clear hK
    refine AWP.ret (Then.ret (?_))
    exact Fin.plain (.inr rfl) rfl rfl hok hg1 ⟨rfl, rfl⟩
  · have hlight : lightN n = true ∧ b.length ≤ 600 := by
      simp only [Bool.not_eq_false', Bool.and_eq_true, Bool.not_eq_true', decide_eq_false_iff_not] at h20
      exact ⟨h20.1, by omega⟩
    have hL := Lt18.of hlight.1
    have hbl := hlight.2
    have hlp := hL.pairs; have hlk := hL.kids
    refine AWP.skip ?_
    -- both pages
    obtain ⟨r3, M3, hc3, hg3, bv3, rfl, hb3⟩ := put22_spec n vp vk M1 (hg1.ok hok) hr hL hB
    have hg03 := hg1.trans hg3
    refine AWP.stepR [1, 2, 5, 6] fun K hK => ?_
    simp only [go_sem, Nat.reduceEqDiff, Nat.reduceLT, Nat.reduceAdd, Nat.reduceMul, Nat.reduceSub, Nat.add_zero, Nat.zero_add, Int.reduceEq, Int.reduceLT, ld_44, hh1.lda (nodeC_len ..)]
    refine ⟨_, _, hc3, ?_⟩
    try simp only [go_sem, Nat.reduceEqDiff, Nat.reduceLT, Nat.reduceAdd, Nat.reduceMul, Nat.reduceSub, Nat.add_zero, Nat.zero_add, Int.reduceEq, Int.reduceLT, extractV]
    refine hK _ _ _ (by simp only [go_sem, Nat.reduceEqDiff, Nat.reduceLT, Nat.reduceAdd, Nat.reduceMul, Nat.reduceSub, Nat.add_zero, Nat.zero_add, Int.reduceEq, Int.reduceLT]; rfl) ?_; clear hK
    obtain ⟨r4, M4, hc4, hg4, bv4, rfl, hb4⟩ := put23_spec n vp vk M3 (hg03.ok hok) (hr.grew hg3) hL
    have hg04 := hg03.trans hg4
    refine AWP.stepR [1, 2, 5, 6, 7, 8] fun K hK => ?_
    simp only [go_sem, Nat.reduceEqDiff, Nat.reduceLT, Nat.reduceAdd, Nat.reduceMul, Nat.reduceSub, Nat.add_zero, Nat.zero_add, Int.reduceEq, Int.reduceLT, ld_44, (hh1.grew hg3).lda (nodeC_len ..)]
    refine ⟨_, _, hc4, ?_⟩
    try simp only [go_sem, Nat.reduceEqDiff, Nat.reduceLT, Nat.reduceAdd, Nat.reduceMul, Nat.reduceSub, Nat.add_zero, Nat.zero_add, Int.reduceEq, Int.reduceLT, extractV]
    refine hK _ _ _ (by simp only [go_sem, Nat.reduceEqDiff, Nat.reduceLT, Nat.reduceAdd, Nat.reduceMul, Nat.reduceSub, Nat.add_zero, Nat.zero_add, Int.reduceEq, Int.reduceLT]; rfl) ?_; clear hK
    have hg14 := hg3.trans hg4
    -- both nodes
    obtain ⟨r5, X5, hc5, hx5, m, wp, wk, rfl, hrm, hmf⟩ := get24_spec kv b (M4.bump 1) ((hg04.bump 1).ok hok) (hk.grew (hg14.bump 1)) hbk (by omega)
    have hnone5 : X5.get M4.next = none := none_keep (p := M4.next + 1) (hg04.ok hok) (hx5.x _) (by omega)
    have hones5 : oneCells (nodeC m.leaf wp wk) = true := by simp only [oneCells, nodeC, List.all_cons, List.all_nil, hrm.pairs.one, hrm.kids.one]; rfl
    refine AWP.stepR [1, 2, 5, 6, 7, 8, 9, 10] fun K hK => ?_
    simp only [go_sem, Nat.reduceEqDiff, Nat.reduceLT, Nat.reduceAdd, Nat.reduceMul, Nat.reduceSub, Nat.add_zero, Nat.zero_add, Int.reduceEq, Int.reduceLT]
    refine ⟨_, _, hc5, ?_⟩
    try simp only [go_sem, Nat.reduceEqDiff, Nat.reduceLT, Nat.reduceAdd, Nat.reduceMul, Nat.reduceSub, Nat.add_zero, Nat.zero_add, Int.reduceEq, Int.reduceLT, extractV, st_fresh (M := X5) (i := M4.next) (n := 3) (old := [.bool false, .slice none 0 0, .slice none 0 0]) (vs := nodeC m.leaf wp wk) (e := 44) rfl rfl hones5]
    refine hK _ _ _ (by simp only [go_sem, Nat.reduceEqDiff, Nat.reduceLT, Nat.reduceAdd, Nat.reduceMul, Nat.reduceSub, Nat.add_zero, Nat.zero_add, Int.reduceEq, Int.reduceLT]; rfl) ?_; clear hK
    have hrm5 := hrm.within (Within.put2 hnone5 ⟨[.bool false, .slice none 0 0, .slice none 0 0], 44, true⟩ ⟨nodeC m.leaf wp wk, 44, true⟩) (Nat.le_refl _)
    obtain ⟨M5, hM5, hg5, hh5⟩ := kept M4 X5 hx5 [.bool false, .slice none 0 0, .slice none 0 0] (nodeC m.leaf wp wk) 44
    rw [hM5] at hrm5 ⊢
    have hg05 := hg04.trans hg5
    have hg15 := hg14.trans hg5
    obtain ⟨r6, X6, hc6, hx6, m', xp, xk, rfl, hrm', hmf'⟩ := get25_spec kv b (M5.bump 1) ((hg05.bump 1).ok hok) (hk.grew (hg15.bump 1)) (fun h => (hkE.resolve_left (by rintro rfl; cases h)).grew (hg05.bump 1)) hbk (by omega)
    have hnone6 : X6.get M5.next = none := none_keep (p := M5.next + 1) (hg05.ok hok) (hx6.x _) (by omega)
    have hones6 : oneCells (nodeC m'.leaf xp xk) = true := by simp only [oneCells, nodeC, List.all_cons, List.all_nil, hrm'.pairs.one, hrm'.kids.one]; rfl
    refine AWP.stepR [2, 5, 6, 7, 8, 9, 10, 11, 12] fun K hK => ?_
    simp only [go_sem, Nat.reduceEqDiff, Nat.reduceLT, Nat.reduceAdd, Nat.reduceMul, Nat.reduceSub, Nat.add_zero, Nat.zero_add, Int.reduceEq, Int.reduceLT]
    refine ⟨_, _, hc6, ?_⟩
    try simp only [go_sem, Nat.reduceEqDiff, Nat.reduceLT, Nat.reduceAdd, Nat.reduceMul, Nat.reduceSub, Nat.add_zero, Nat.zero_add, Int.reduceEq, Int.reduceLT, extractV, st_fresh (M := X6) (i := M5.next) (n := 3) (old := [.bool false, .slice none 0 0, .slice none 0 0]) (vs := nodeC m'.leaf xp xk) (e := 44) rfl rfl hones6]
    refine hK _ _ _ (by simp only [go_sem, Nat.reduceEqDiff, Nat.reduceLT, Nat.reduceAdd, Nat.reduceMul, Nat.reduceSub, Nat.add_zero, Nat.zero_add, Int.reduceEq, Int.reduceLT]; rfl) ?_; clear hK
    have hrm6 := hrm'.within (Within.put2 hnone6 ⟨[.bool false, .slice none 0 0, .slice none 0 0], 44, true⟩ ⟨nodeC m'.leaf xp xk, 44, true⟩) (Nat.le_refl _)
    obtain ⟨M6, hM6, hg6, hh6⟩ := kept M5 X6 hx6 [.bool false, .slice none 0 0, .slice none 0 0] (nodeC m'.leaf xp xk) 44
    rw [hM6] at hrm6 ⊢
    have hg06 := hg05.trans hg6
    have hg16 := hg15.trans hg6
    have hh56 := hh5.grew hg6
    have hh16 := hh1.grew hg16
    have hr6 := hr.grew hg16
    have hlen : (putV n).length ≤ 1000000 := by
      unfold putV
      split
      · rename_i h; rw [nodeB_length (putOk h).2]; omega
      · simp
    obtain ⟨ra, Ma, hca, hra, hMa⟩ := same14_spec bv3 bv4 (putV n) (putV n) M6 (hg06.ok hok) (hb3.grew (hg4.trans (hg5.trans hg6))) (hb4.grew (hg5.trans hg6)) (by omega)
    rw [hra, hMa, beq_self_eq_true] at hca
    obtain ⟨rb, Mb, hcb, hrb, hMb⟩ := check26_spec n vp vk M6 (hg06.ok hok) hr6 hL hB
    rw [hrb, hMb] at hcb
    obtain ⟨rc, Mc, hcc, hrc, hMc⟩ := check27_spec n vp vk M6 (hg06.ok hok) hr6 hL
    rw [hrc, hMc] at hcc
    obtain ⟨rd, Md, hcd, hrd, hMd⟩ := size28_spec n vp vk M6 (hg06.ok hok) hr6 hL
    rw [hrd, hMd] at hcd
    obtain ⟨re, Me, hce, hre, hMe⟩ := size29_spec n vp vk M6 (hg06.ok hok) hr6 hL
    rw [hre, hMe] at hce
    obtain ⟨rf, Mf, hcf, hrf, hMf⟩ := same30_true m m' wp wk xp xk M6 (hg06.ok hok) (hrm5.grew hg6) hrm6 (lt_of_get hbk hmf) (sameN_of (hmf'.trans hmf.symm))
    rw [hrf, hMf] at hcf
    generalize checkN n = cn at hcb hcc
    generalize sizeF n = sn at hcd hce
    generalize (getF b).2 = gn
    refine AWP.stepD hmo [0, 1, 2, 3, 4, 5, 6, 7, 8, 9, 10, 11, 12, 13, 14, 15, 16, 17, 18, 19, 20, 21, 22, 23, 24, 25, 26, 27, 28, 29, 30, 31, 32, 33, 34, 35] [0, 0, 3, 7, 15, 15, 63, 127, 255, 511, 1023, 511, 4095, 8191, 16383, 32767, 65535, 131071, 65535, 524287, 1048575, 2097151, 4194303, 8388607, 8388607, 33554431, 67108863, 134217727, 268435455, 268435455, 1073741823, 2147483647, 4294967295, 8589934591, 17179869183, 34359738367] [] [(11, 10), (18, 17)] (by kernel_rfl) [4] fun K hK => ?_
    simp -implicitDefEqProofs only [go_sem, Nat.reduceEqDiff, Nat.reduceLT, Nat.reduceAdd, Nat.reduceMul, Nat.reduceSub, Nat.add_zero, Nat.zero_add, Int.reduceEq, Int.reduceLT, beq_self_eq_true]
    refine ⟨_, _, hca, ?_⟩
    try simp -implicitDefEqProofs only [go_sem, Nat.reduceEqDiff, Nat.reduceLT, Nat.reduceAdd, Nat.reduceMul, Nat.reduceSub, Nat.add_zero, Nat.zero_add, Int.reduceEq, Int.reduceLT, ld_44, hh16.lda (nodeC_len ..), beq_self_eq_true]
    refine ⟨_, _, hcb, ?_⟩
    try simp -implicitDefEqProofs only [go_sem, Nat.reduceEqDiff, Nat.reduceLT, Nat.reduceAdd, Nat.reduceMul, Nat.reduceSub, Nat.add_zero, Nat.zero_add, Int.reduceEq, Int.reduceLT, ld_44, hh16.lda (nodeC_len ..), beq_self_eq_true]
    refine ⟨_, _, hcc, ?_⟩
    try simp -implicitDefEqProofs only [go_sem, Nat.reduceEqDiff, Nat.reduceLT, Nat.reduceAdd, Nat.reduceMul, Nat.reduceSub, Nat.add_zero, Nat.zero_add, Int.reduceEq, Int.reduceLT, ld_44, hh16.lda (nodeC_len ..), beq_self_eq_true]
    refine ⟨_, _, hcd, ?_⟩
    try simp -implicitDefEqProofs only [go_sem, Nat.reduceEqDiff, Nat.reduceLT, Nat.reduceAdd, Nat.reduceMul, Nat.reduceSub, Nat.add_zero, Nat.zero_add, Int.reduceEq, Int.reduceLT, ld_44, hh16.lda (nodeC_len ..), beq_self_eq_true]
    refine ⟨_, _, hce, ?_⟩
    try simp -implicitDefEqProofs only [go_sem, Nat.reduceEqDiff, Nat.reduceLT, Nat.reduceAdd, Nat.reduceMul, Nat.reduceSub, Nat.add_zero, Nat.zero_add, Int.reduceEq, Int.reduceLT, ld_44, hh56.lda (nodeC_len ..), hh6.lda (nodeC_len ..), beq_self_eq_true]
    refine ⟨_, _, hcf, ?_⟩
    try simp -implicitDefEqProofs only [go_sem, Nat.reduceEqDiff, Nat.reduceLT, Nat.reduceAdd, Nat.reduceMul, Nat.reduceSub, Nat.add_zero, Nat.zero_add, Int.reduceEq, Int.reduceLT, beq_self_eq_true]
    refine ⟨_, _, works21_spec _, ?_⟩
    try simp -implicitDefEqProofs only [go_sem, Nat.reduceEqDiff, Nat.reduceLT, Nat.reduceAdd, Nat.reduceMul, Nat.reduceSub, Nat.add_zero, Nat.zero_add, Int.reduceEq, Int.reduceLT, beq_self_eq_true]
    refine hK _ _ _ (by simp only [go_sem, Nat.reduceEqDiff, Nat.reduceLT, Nat.reduceAdd, Nat.reduceMul, Nat.reduceSub, Nat.add_zero, Nat.zero_add, Int.reduceEq, Int.reduceLT]; rfl) ?_; clear hK
    refine AWP.ret (?_)
    exact Fin.plain (.inr rfl) rfl rfl hok hg06 ⟨rfl, rfl⟩
end Go.Proofs.Ythheaehpnleiaaa.AX
