/- Whether things rise, how great a node is, what is wrong with it: by the program. -/
import Derived.Test.YthheaehpnleiaaaNodePuts17
namespace Go.Proofs.Ythheaehpnleiaaa.AX
open Go Go.Proofs
set_option maxRecDepth 100000
set_option linter.unusedVariables false
set_option linter.unusedSimpArgs false

theorem rising72_spec (v : Value) (l : List Pr) (M : Mem) (hok : Ok M) (hv : Row_ M v l.length (l.flatMap prC)) (hkey : ∀ p, p ∈ l → RowB M p.kv p.key) (hb : ∀ p, p ∈ l → Byt p.key) (hl : l.length ≤ 1000) :
    ∃ r M', ACall Try.prog 72 #[v, .func (.func 73) #[] #[]] M r M' ∧ r = .bool (risingB (l.map Pr.key)) ∧ M' = M := by
  refine ACall.fin (args := [v, .func (.func 73) #[] #[]]) (k := 27) (rs := [.tmp 4]) Try.func72 rfl rfl rfl (Nat.le_of_ble_eq_true rfl) ?_
  refine AWP.stepR [0, 1] fun K hK => ?_
  simp only [go_sem, Nat.reduceEqDiff, Nat.reduceLT, Nat.reduceAdd, Nat.reduceMul, Nat.reduceSub, Nat.add_zero, Nat.zero_add, Int.reduceEq, Int.reduceLT]
  refine hK _ _ _ (by simp only [go_sem, Nat.reduceEqDiff, Nat.reduceLT, Nat.reduceAdd, Nat.reduceMul, Nat.reduceSub, Nat.add_zero, Nat.zero_add, Int.reduceEq, Int.reduceLT]; rfl) ?_; clear hK
  refine AWP.seq ?_
  refine AWP.stepR [0, 1, 5] fun K hK => ?_
  simp only [go_sem, Nat.reduceEqDiff, Nat.reduceLT, Nat.reduceAdd, Nat.reduceMul, Nat.reduceSub, Nat.add_zero, Nat.zero_add, Int.reduceEq, Int.reduceLT]
  refine hK _ _ _ (by simp only [go_sem, Nat.reduceEqDiff, Nat.reduceLT, Nat.reduceAdd, Nat.reduceMul, Nat.reduceSub, Nat.add_zero, Nat.zero_add, Int.reduceEq, Int.reduceLT]; rfl) ?_; clear hK
  refine AWP.block ?_ -- b0
  refine AWP.loopK [0, 1, 5] (fun c e M0 => Grew M M0 ∧ ∃ i, 1 ≤ i ∧ i ≤ l.length + 1 ∧ c = l.length + 1 - i ∧ e = [(0, v), (1, .func (.func 73) #[] #[]), (5, .int .i64 (i : Nat))] ∧ risingB (l.map Pr.key) = risingB ((l.map Pr.key).drop (i - 1))) l.length ?_ fun c e M0 hI => ?_ -- LOOP
  · simp only [go_sem, Nat.reduceEqDiff, Nat.reduceLT, Nat.reduceAdd, Nat.reduceMul, Nat.reduceSub, Nat.add_zero, Nat.zero_add, Int.reduceEq, Int.reduceLT]
    exact ⟨Grew.refl _, 1, by omega, by omega, by omega, rfl, by simp⟩
  obtain ⟨hg0, i, hi1, hi2, hc, rfl, hrise⟩ := hI
  refine AWP.seq ?_
  refine AWP.stepR [0, 1, 5, 9] fun K hK => ?_
  simp only [go_sem, Nat.reduceEqDiff, Nat.reduceLT, Nat.reduceAdd, Nat.reduceMul, Nat.reduceSub, Nat.add_zero, Nat.zero_add, Int.reduceEq, Int.reduceLT, hv.len es_41]
  refine hK _ _ _ (by simp only [go_sem, Nat.reduceEqDiff, Nat.reduceLT, Nat.reduceAdd, Nat.reduceMul, Nat.reduceSub, Nat.add_zero, Nat.zero_add, Int.reduceEq, Int.reduceLT]; rfl) ?_; clear hK
  refine AWP.cond_split rfl (fun h9 => ?_) fun h9 => ?_
  · have hlt : i < l.length := by simpa using h9
    obtain ⟨b, q, ha, hd⟩ := pr_at hv hlt
    have hd0 := (hd M0 hg0).2.2
    obtain ⟨b', q', ha', hd'⟩ := pr_at hv (show i - 1 < l.length by omega)
    have hd0' := (hd' M0 hg0).2.2
    have hk := hkey _ (List.getElem_mem hlt)
    have hk' := hkey _ (List.getElem_mem (show i - 1 < l.length by omega))
    have hbx := hb _ (List.getElem_mem hlt)
    have hbx' := hb _ (List.getElem_mem (show i - 1 < l.length by omega))
    have hat := risingB_at (l := l.map Pr.key) hi1 (by simpa using hlt)
    simp only [List.getElem_map] at hat
    generalize l[i] = x at hd hd0 hk hbx hat
    generalize l[i - 1] = y at hd' hd0' hk' hbx' hat
    obtain ⟨r2, M2, hc2, hr2, hg2⟩ := key73_spec y M0 (hg0.ok hok)
    rw [hr2] at hc2
    have hg02 := hg0.trans hg2
    have hd2 := (hd M2 hg02).2.2
    obtain ⟨r3, M3, hc3, hr3, hg3⟩ := key73_spec x M2 (hg02.ok hok)
    rw [hr3] at hc3
    have hg03 := hg02.trans hg3
    have hc4 := compare100_spec y.kv x.kv y.key x.key M3 (hk'.grew hg03) (hk.grew hg03)
    obtain ⟨e1, e2⟩ := cmpB_less hbx' hbx
    refine AWP.skip ?_
    refine AWP.seq ?_
    refine AWP.block ?_ -- b1
    refine AWP.stepD hmo [0, 1, 2, 3, 4, 5, 6, 7, 8, 9, 10, 11, 12, 13, 14] [0, 0, 0, 4, 14, 30, 63, 0, 0, 0, 768, 1792, 4095, 8191, 16383] [] [(11, 6)] (by kernel_rfl) [0, 1, 5, 26] fun K hK => ?_
    simp only [go_sem, Nat.reduceEqDiff, Nat.reduceLT, Nat.reduceAdd, Nat.reduceMul, Nat.reduceSub, Nat.add_zero, Nat.zero_add, Int.reduceEq, Int.reduceLT, i64w (n := ((i - 1 : Nat) : Int)) (by omega) (by omega), show (i : Int) - 1 = ((i - 1 : Nat) : Int) by omega, ha, ha', ld_58, hd0, hd0', hd2]
    refine ⟨_, _, hc2, ?_⟩
    try simp only [go_sem, Nat.reduceEqDiff, Nat.reduceLT, Nat.reduceAdd, Nat.reduceMul, Nat.reduceSub, Nat.add_zero, Nat.zero_add, Int.reduceEq, Int.reduceLT, ha, ha', ld_58, hd0, hd0', hd2]
    refine ⟨_, _, hc3, ?_⟩
    try simp only [go_sem, Nat.reduceEqDiff, Nat.reduceLT, Nat.reduceAdd, Nat.reduceMul, Nat.reduceSub, Nat.add_zero, Nat.zero_add, Int.reduceEq, Int.reduceLT, ha, ha', ld_58, hd0, hd0', hd2]
    refine ⟨_, _, hc4, ?_⟩
    try simp only [go_sem, Nat.reduceEqDiff, Nat.reduceLT, Nat.reduceAdd, Nat.reduceMul, Nat.reduceSub, Nat.add_zero, Nat.zero_add, Int.reduceEq, Int.reduceLT]
    refine hK _ _ _ (by simp only [go_sem, Nat.reduceEqDiff, Nat.reduceLT, Nat.reduceAdd, Nat.reduceMul, Nat.reduceSub, Nat.add_zero, Nat.zero_add, Int.reduceEq, Int.reduceLT]; rfl) ?_; clear hK
    refine AWP.cond_split rfl (fun h26 => ?_) fun h26 => ?_
    · refine AWP.stepR [4] fun K hK => ?_
      simp only [go_sem, Nat.reduceEqDiff, Nat.reduceLT, Nat.reduceAdd, Nat.reduceMul, Nat.reduceSub, Nat.add_zero, Nat.zero_add, Int.reduceEq, Int.reduceLT]
      refine hK _ _ _ (by simp only [go_sem, Nat.reduceEqDiff, Nat.reduceLT, Nat.reduceAdd, Nat.reduceMul, Nat.reduceSub, Nat.add_zero, Nat.zero_add, Int.reduceEq, Int.reduceLT]; rfl) ?_; clear hK
      refine AWP.ret (InBlock.ret (Then.ret (Then.ret (InBlock.ret (Then.ret (?_))))))
      refine Fin.plain (.inr rfl) rfl rfl hok hg03 ⟨?_, rfl⟩
      have hnl : lessB y.key x.key = false := by
        cases hh : lessB y.key x.key with
        | false => rfl
        | true => have := e1.2 hh; simp at h26; omega
      rw [hrise, hat, hnl]; rfl
    · have hyl : lessB y.key x.key = true := e1.1 (by simp at h26; omega)
      refine AWP.skip ?_
      refine AWP.lastR fun K hK => ?_
      simp only [go_sem, Nat.reduceEqDiff, Nat.reduceLT, Nat.reduceAdd, Nat.reduceMul, Nat.reduceSub, Nat.add_zero, Nat.zero_add, Int.reduceEq, Int.reduceLT]
      refine hK _ _ ?_; clear hK
      refine ⟨c - 1, by omega, hg03, i + 1, by omega, by omega, by omega, ?_, ?_⟩ -- ROUND
      · simp only [go_sem, Nat.reduceEqDiff, Nat.reduceLT, Nat.reduceAdd, Nat.reduceMul, Nat.reduceSub, Nat.add_zero, Nat.zero_add, Int.reduceEq, Int.reduceLT]
        rw [i64w (by omega) (by omega)]; rfl
      · rw [hrise, hat, hyl, Bool.true_and, Nat.add_sub_cancel]
  · refine AWP.exit (Then.exit (Then.exit (InBlock.same ?_)))
    have hge : l.length ≤ i := by simpa using h9
    rw [risingB_short (l := (l.map Pr.key).drop (i - 1)) (by simp; omega)] at hrise
    refine AWP.stepR [4] fun K hK => ?_
    simp only [go_sem, Nat.reduceEqDiff, Nat.reduceLT, Nat.reduceAdd, Nat.reduceMul, Nat.reduceSub, Nat.add_zero, Nat.zero_add, Int.reduceEq, Int.reduceLT]
    refine hK _ _ _ (by simp only [go_sem, Nat.reduceEqDiff, Nat.reduceLT, Nat.reduceAdd, Nat.reduceMul, Nat.reduceSub, Nat.add_zero, Nat.zero_add, Int.reduceEq, Int.reduceLT]; rfl) ?_; clear hK
    refine AWP.ret (?_)
    exact Fin.plain (.inr rfl) rfl rfl hok hg0 ⟨by rw [hrise], rfl⟩

theorem rising74_spec (v : Value) (l : List Kd) (M : Mem) (hok : Ok M) (hv : Row_ M v l.length (l.flatMap kdC)) (hkey : ∀ p, p ∈ l → RowB M p.kv p.key) (hb : ∀ p, p ∈ l → Byt p.key) (hl : l.length ≤ 1000) :
    ∃ r M', ACall Try.prog 74 #[v, .func (.func 75) #[] #[]] M r M' ∧ r = .bool (risingB (l.map Kd.key)) ∧ M' = M := by
  refine ACall.fin (args := [v, .func (.func 75) #[] #[]]) (k := 27) (rs := [.tmp 4]) Try.func74 rfl rfl rfl (Nat.le_of_ble_eq_true rfl) ?_
  refine AWP.stepR [0, 1] fun K hK => ?_
  simp only [go_sem, Nat.reduceEqDiff, Nat.reduceLT, Nat.reduceAdd, Nat.reduceMul, Nat.reduceSub, Nat.add_zero, Nat.zero_add, Int.reduceEq, Int.reduceLT]
  refine hK _ _ _ (by simp only [go_sem, Nat.reduceEqDiff, Nat.reduceLT, Nat.reduceAdd, Nat.reduceMul, Nat.reduceSub, Nat.add_zero, Nat.zero_add, Int.reduceEq, Int.reduceLT]; rfl) ?_; clear hK
  refine AWP.seq ?_
  refine AWP.stepR [0, 1, 5] fun K hK => ?_
  simp only [go_sem, Nat.reduceEqDiff, Nat.reduceLT, Nat.reduceAdd, Nat.reduceMul, Nat.reduceSub, Nat.add_zero, Nat.zero_add, Int.reduceEq, Int.reduceLT]
  refine hK _ _ _ (by simp only [go_sem, Nat.reduceEqDiff, Nat.reduceLT, Nat.reduceAdd, Nat.reduceMul, Nat.reduceSub, Nat.add_zero, Nat.zero_add, Int.reduceEq, Int.reduceLT]; rfl) ?_; clear hK
  refine AWP.block ?_ -- b0
  refine AWP.loopK [0, 1, 5] (fun c e M0 => Grew M M0 ∧ ∃ i, 1 ≤ i ∧ i ≤ l.length + 1 ∧ c = l.length + 1 - i ∧ e = [(0, v), (1, .func (.func 75) #[] #[]), (5, .int .i64 (i : Nat))] ∧ risingB (l.map Kd.key) = risingB ((l.map Kd.key).drop (i - 1))) l.length ?_ fun c e M0 hI => ?_ -- LOOP
  · simp only [go_sem, Nat.reduceEqDiff, Nat.reduceLT, Nat.reduceAdd, Nat.reduceMul, Nat.reduceSub, Nat.add_zero, Nat.zero_add, Int.reduceEq, Int.reduceLT]
    exact ⟨Grew.refl _, 1, by omega, by omega, by omega, rfl, by simp⟩
  obtain ⟨hg0, i, hi1, hi2, hc, rfl, hrise⟩ := hI
  refine AWP.seq ?_
  refine AWP.stepR [0, 1, 5, 9] fun K hK => ?_
  simp only [go_sem, Nat.reduceEqDiff, Nat.reduceLT, Nat.reduceAdd, Nat.reduceMul, Nat.reduceSub, Nat.add_zero, Nat.zero_add, Int.reduceEq, Int.reduceLT, hv.len es_42]
  refine hK _ _ _ (by simp only [go_sem, Nat.reduceEqDiff, Nat.reduceLT, Nat.reduceAdd, Nat.reduceMul, Nat.reduceSub, Nat.add_zero, Nat.zero_add, Int.reduceEq, Int.reduceLT]; rfl) ?_; clear hK
  refine AWP.cond_split rfl (fun h9 => ?_) fun h9 => ?_
  · have hlt : i < l.length := by simpa using h9
    obtain ⟨b, q, ha, hd⟩ := kd_at hv hlt
    have hd0 := (hd M0 hg0).2.2.2
    obtain ⟨b', q', ha', hd'⟩ := kd_at hv (show i - 1 < l.length by omega)
    have hd0' := (hd' M0 hg0).2.2.2
    have hk := hkey _ (List.getElem_mem hlt)
    have hk' := hkey _ (List.getElem_mem (show i - 1 < l.length by omega))
    have hbx := hb _ (List.getElem_mem hlt)
    have hbx' := hb _ (List.getElem_mem (show i - 1 < l.length by omega))
    have hat := risingB_at (l := l.map Kd.key) hi1 (by simpa using hlt)
    simp only [List.getElem_map] at hat
    generalize l[i] = x at hd hd0 hk hbx hat
    generalize l[i - 1] = y at hd' hd0' hk' hbx' hat
    obtain ⟨r2, M2, hc2, hr2, hg2⟩ := key75_spec y M0 (hg0.ok hok)
    rw [hr2] at hc2
    have hg02 := hg0.trans hg2
    have hd2 := (hd M2 hg02).2.2.2
    obtain ⟨r3, M3, hc3, hr3, hg3⟩ := key75_spec x M2 (hg02.ok hok)
    rw [hr3] at hc3
    have hg03 := hg02.trans hg3
    have hc4 := compare100_spec y.kv x.kv y.key x.key M3 (hk'.grew hg03) (hk.grew hg03)
    obtain ⟨e1, e2⟩ := cmpB_less hbx' hbx
    refine AWP.skip ?_
    refine AWP.seq ?_
    refine AWP.block ?_ -- b1
    refine AWP.stepD hmo [0, 1, 2, 3, 4, 5, 6, 7, 8, 9, 10, 11, 12, 13, 14] [0, 0, 0, 4, 14, 30, 63, 0, 0, 0, 768, 1792, 4095, 8191, 16383] [] [(11, 6)] (by kernel_rfl) [0, 1, 5, 26] fun K hK => ?_
    simp only [go_sem, Nat.reduceEqDiff, Nat.reduceLT, Nat.reduceAdd, Nat.reduceMul, Nat.reduceSub, Nat.add_zero, Nat.zero_add, Int.reduceEq, Int.reduceLT, i64w (n := ((i - 1 : Nat) : Int)) (by omega) (by omega), show (i : Int) - 1 = ((i - 1 : Nat) : Int) by omega, ha, ha', ld_60, hd0, hd0', hd2]
    refine ⟨_, _, hc2, ?_⟩
    try simp only [go_sem, Nat.reduceEqDiff, Nat.reduceLT, Nat.reduceAdd, Nat.reduceMul, Nat.reduceSub, Nat.add_zero, Nat.zero_add, Int.reduceEq, Int.reduceLT, ha, ha', ld_60, hd0, hd0', hd2]
    refine ⟨_, _, hc3, ?_⟩
    try simp only [go_sem, Nat.reduceEqDiff, Nat.reduceLT, Nat.reduceAdd, Nat.reduceMul, Nat.reduceSub, Nat.add_zero, Nat.zero_add, Int.reduceEq, Int.reduceLT, ha, ha', ld_60, hd0, hd0', hd2]
    refine ⟨_, _, hc4, ?_⟩
    try simp only [go_sem, Nat.reduceEqDiff, Nat.reduceLT, Nat.reduceAdd, Nat.reduceMul, Nat.reduceSub, Nat.add_zero, Nat.zero_add, Int.reduceEq, Int.reduceLT]
    refine hK _ _ _ (by simp only [go_sem, Nat.reduceEqDiff, Nat.reduceLT, Nat.reduceAdd, Nat.reduceMul, Nat.reduceSub, Nat.add_zero, Nat.zero_add, Int.reduceEq, Int.reduceLT]; rfl) ?_; clear hK
    refine AWP.cond_split rfl (fun h26 => ?_) fun h26 => ?_
    · refine AWP.stepR [4] fun K hK => ?_
      simp only [go_sem, Nat.reduceEqDiff, Nat.reduceLT, Nat.reduceAdd, Nat.reduceMul, Nat.reduceSub, Nat.add_zero, Nat.zero_add, Int.reduceEq, Int.reduceLT]
      refine hK _ _ _ (by simp only [go_sem, Nat.reduceEqDiff, Nat.reduceLT, Nat.reduceAdd, Nat.reduceMul, Nat.reduceSub, Nat.add_zero, Nat.zero_add, Int.reduceEq, Int.reduceLT]; rfl) ?_; clear hK
      refine AWP.ret (InBlock.ret (Then.ret (Then.ret (InBlock.ret (Then.ret (?_))))))
      refine Fin.plain (.inr rfl) rfl rfl hok hg03 ⟨?_, rfl⟩
      have hnl : lessB y.key x.key = false := by
        cases hh : lessB y.key x.key with
        | false => rfl
        | true => have := e1.2 hh; simp at h26; omega
      rw [hrise, hat, hnl]; rfl
    · have hyl : lessB y.key x.key = true := e1.1 (by simp at h26; omega)
      refine AWP.skip ?_
      refine AWP.lastR fun K hK => ?_
      simp only [go_sem, Nat.reduceEqDiff, Nat.reduceLT, Nat.reduceAdd, Nat.reduceMul, Nat.reduceSub, Nat.add_zero, Nat.zero_add, Int.reduceEq, Int.reduceLT]
      refine hK _ _ ?_; clear hK
      refine ⟨c - 1, by omega, hg03, i + 1, by omega, by omega, by omega, ?_, ?_⟩ -- ROUND
      · simp only [go_sem, Nat.reduceEqDiff, Nat.reduceLT, Nat.reduceAdd, Nat.reduceMul, Nat.reduceSub, Nat.add_zero, Nat.zero_add, Int.reduceEq, Int.reduceLT]
        rw [i64w (by omega) (by omega)]; rfl
      · rw [hrise, hat, hyl, Bool.true_and, Nat.add_sub_cancel]
  · refine AWP.exit (Then.exit (Then.exit (InBlock.same ?_)))
    have hge : l.length ≤ i := by simpa using h9
    rw [risingB_short (l := (l.map Kd.key).drop (i - 1)) (by simp; omega)] at hrise
    refine AWP.stepR [4] fun K hK => ?_
    simp only [go_sem, Nat.reduceEqDiff, Nat.reduceLT, Nat.reduceAdd, Nat.reduceMul, Nat.reduceSub, Nat.add_zero, Nat.zero_add, Int.reduceEq, Int.reduceLT]
    refine hK _ _ _ (by simp only [go_sem, Nat.reduceEqDiff, Nat.reduceLT, Nat.reduceAdd, Nat.reduceMul, Nat.reduceSub, Nat.add_zero, Nat.zero_add, Int.reduceEq, Int.reduceLT]; rfl) ?_; clear hK
    refine AWP.ret (?_)
    exact Fin.plain (.inr rfl) rfl rfl hok hg0 ⟨by rw [hrise], rfl⟩

theorem size28_spec (n : Node) (vp vk : Value) (M : Mem) (hok : Ok M) (hr : NodeR M n vp vk) (hL : Lt18 n) : ∃ r M', ACall Try.prog 28 #[.agg (nodeC n.leaf vp vk).toArray] M r M' ∧ r = .int .i64 (sizeF n) ∧ M' = M := by
  refine ACall.fin (args := [.agg (nodeC n.leaf vp vk).toArray]) (k := 11) (rs := [.tmp 2]) Try.func28 rfl rfl rfl (Nat.le_of_ble_eq_true rfl) ?_
  have hlp := hL.pairs; have hlk := hL.kids
  have hsp := sum_take_le hL.pr hlp n.pairs.length
  have hsk := sum_take_le hL.kd hlk n.kids.length
  rw [List.take_length] at hsp hsk
  refine AWP.stepR [1] fun K hK => ?_
  simp only [go_sem, Nat.reduceEqDiff, Nat.reduceLT, Nat.reduceAdd, Nat.reduceMul, Nat.reduceSub, Nat.add_zero, Nat.zero_add, Int.reduceEq, Int.reduceLT]
  refine hK _ _ _ (by simp only [go_sem, Nat.reduceEqDiff, Nat.reduceLT, Nat.reduceAdd, Nat.reduceMul, Nat.reduceSub, Nat.add_zero, Nat.zero_add, Int.reduceEq, Int.reduceLT]; rfl) ?_; clear hK
  have hlt1 : M.next < (M.bump 1).next := Nat.lt_succ_self _
  obtain ⟨hg1, hh1⟩ := mk_put ((Grew.refl M).bump 1) (Nat.le_refl _) hlt1 ⟨nodeC n.leaf vp vk, 44, true⟩
  change AWP _ _ _ ⟨_, (M.bump 1).put M.next ⟨nodeC n.leaf vp vk, 44, true⟩⟩ _
  generalize hM1 : (M.bump 1).put M.next ⟨nodeC n.leaf vp vk, 44, true⟩ = M1 at hg1 hh1
  have hr := hr.grew hg1
  obtain ⟨r2, M2, hc2, hr2, hM2⟩ := sum78_spec vp n.pairs M1 (hg1.ok hok) hr.pairs (fun p hp => ⟨hr.pk p hp, hr.pv p hp⟩) hL.pr hlp
  rw [hr2, hM2] at hc2
  obtain ⟨r3, M3, hc3, hr3, hM3⟩ := sum80_spec vk n.kids M1 (hg1.ok hok) hr.kids hr.kk hL.kd hlk
  rw [hr3, hM3] at hc3
  refine AWP.stepD hmo [0, 1, 2, 3, 4, 5, 6, 7, 8] [0, 1, 3, 7, 0, 16, 55, 127, 255] [] [(5, 2)] (by kernel_rfl) [2] fun K hK => ?_
  simp only [go_sem, Nat.reduceEqDiff, Nat.reduceLT, Nat.reduceAdd, Nat.reduceMul, Nat.reduceSub, Nat.add_zero, Nat.zero_add, Int.reduceEq, Int.reduceLT, ld_41, ld_42, hh1.ld, nodeC]
  refine ⟨_, _, hc2, ?_⟩
  try simp only [go_sem, Nat.reduceEqDiff, Nat.reduceLT, Nat.reduceAdd, Nat.reduceMul, Nat.reduceSub, Nat.add_zero, Nat.zero_add, Int.reduceEq, Int.reduceLT, ld_41, ld_42, hh1.ld, nodeC]
  refine ⟨_, _, hc3, ?_⟩
  try simp only [go_sem, Nat.reduceEqDiff, Nat.reduceLT, Nat.reduceAdd, Nat.reduceMul, Nat.reduceSub, Nat.add_zero, Nat.zero_add, Int.reduceEq, Int.reduceLT]
  refine hK _ _ _ (by simp only [go_sem, Nat.reduceEqDiff, Nat.reduceLT, Nat.reduceAdd, Nat.reduceMul, Nat.reduceSub, Nat.add_zero, Nat.zero_add, Int.reduceEq, Int.reduceLT]; rfl) ?_; clear hK
  refine AWP.ret (?_)
  refine Fin.plain (.inr rfl) rfl rfl hok hg1 ⟨?_, rfl⟩
  rw [i64w (n := 3 + sumF prSz n.pairs) (by omega) (by omega), i64w (by omega) (by omega), sizeF]

theorem check26_spec (n : Node) (vp vk : Value) (M : Mem) (hok : Ok M) (hr : NodeR M n vp vk) (hL : Lt18 n) (hB : NodeB n) : ∃ r M', ACall Try.prog 26 #[.agg (nodeC n.leaf vp vk).toArray] M r M' ∧ r = .int .i64 (checkN n) ∧ M' = M := by
  refine ACall.fin (args := [.agg (nodeC n.leaf vp vk).toArray]) (k := 91) (rs := [.tmp 2]) Try.func26 rfl rfl rfl (Nat.le_of_ble_eq_true rfl) ?_
  refine AWP.stepR [1] fun K hK => ?_
  simp only [go_sem, Nat.reduceEqDiff, Nat.reduceLT, Nat.reduceAdd, Nat.reduceMul, Nat.reduceSub, Nat.add_zero, Nat.zero_add, Int.reduceEq, Int.reduceLT]
  refine hK _ _ _ (by simp only [go_sem, Nat.reduceEqDiff, Nat.reduceLT, Nat.reduceAdd, Nat.reduceMul, Nat.reduceSub, Nat.add_zero, Nat.zero_add, Int.reduceEq, Int.reduceLT]; rfl) ?_; clear hK
  have hlt1 : M.next < (M.bump 1).next := Nat.lt_succ_self _
  obtain ⟨hg1, hh1⟩ := mk_put ((Grew.refl M).bump 1) (Nat.le_refl _) hlt1 ⟨nodeC n.leaf vp vk, 44, true⟩
  change AWP _ _ _ ⟨_, (M.bump 1).put M.next ⟨nodeC n.leaf vp vk, 44, true⟩⟩ _
  generalize hM1 : (M.bump 1).put M.next ⟨nodeC n.leaf vp vk, 44, true⟩ = M1 at hg1 hh1
  have hr := hr.grew hg1
  have hlp := hL.pairs; have hlk := hL.kids
  refine AWP.seq ?_
  refine AWP.stepX [1, 25] [(1, .pointer (some ⟨M.next, 0, none⟩)), (25, .bool (formOk n))] M1 (fun K hK => ?_) ?_
  · cases hlf : n.leaf <;> cases hk0 : decide ((n.kids.length : Int) > 0) <;> simp only [go_sem, Nat.reduceEqDiff, Nat.reduceLT, Nat.reduceAdd, Nat.reduceMul, Nat.reduceSub, Nat.add_zero, Nat.zero_add, Int.reduceEq, Int.reduceLT, ld_4, ld_41, ld_42, hh1.ld, nodeC, hr.pairs.len es_41, hr.kids.len es_42, hlf, hk0] <;> refine hK _ ?_ <;> simp only [go_sem, Nat.reduceEqDiff, Nat.reduceLT, Nat.reduceAdd, Nat.reduceMul, Nat.reduceSub, Nat.add_zero, Nat.zero_add, Int.reduceEq, Int.reduceLT, formOk, hlf, hk0, Bool.or_false, Bool.or_true, Bool.false_or, Bool.true_or, Bool.not_false, Bool.not_true, Bool.true_and, Bool.false_and] <;> rfl
  refine AWP.cond_split rfl (fun h25 => ?_) fun h25 => ?_
  · refine AWP.stepR [2] fun K hK => ?_
    simp only [go_sem, Nat.reduceEqDiff, Nat.reduceLT, Nat.reduceAdd, Nat.reduceMul, Nat.reduceSub, Nat.add_zero, Nat.zero_add, Int.reduceEq, Int.reduceLT]
    refine hK _ _ _ (by simp only [go_sem, Nat.reduceEqDiff, Nat.reduceLT, Nat.reduceAdd, Nat.reduceMul, Nat.reduceSub, Nat.add_zero, Nat.zero_add, Int.reduceEq, Int.reduceLT]; rfl) ?_; clear hK
    refine AWP.ret (Then.ret (?_))
    exact Fin.plain (.inr rfl) rfl rfl hok hg1 ⟨by rw [checkN, if_pos h25], rfl⟩
  · have hchk : checkN n = if partsF n = 0 then (if risingB (n.pairs.map Pr.key) && risingB (n.kids.map Kd.key) then (if sizeF n > 496 then 16 else 0) else 4) else partsF n := by rw [checkN, if_neg (by simpa using h25)]
    refine AWP.skip ?_
    refine AWP.seq ?_
    refine AWP.stepR [1, 27, 28, 29] fun K hK => ?_
    simp only [go_sem, Nat.reduceEqDiff, Nat.reduceLT, Nat.reduceAdd, Nat.reduceMul, Nat.reduceSub, Nat.add_zero, Nat.zero_add, Int.reduceEq, Int.reduceLT, ld_41, hh1.ld, nodeC, hr.pairs.len es_41]
    refine hK _ _ _ (by simp only [go_sem, Nat.reduceEqDiff, Nat.reduceLT, Nat.reduceAdd, Nat.reduceMul, Nat.reduceSub, Nat.add_zero, Nat.zero_add, Int.reduceEq, Int.reduceLT]; rfl) ?_; clear hK
    refine AWP.block ?_ -- b0
    refine AWP.loopK [1, 27, 28, 29] (fun c e M0 => Grew M1 M0 ∧ c ≤ n.pairs.length ∧ e = [(1, .pointer (some ⟨M.next, 0, none⟩)), (27, vp), (28, .int .i64 n.pairs.length), (29, .int .i64 ((n.pairs.length - c : Nat) : Int))] ∧ (n.pairs.take (n.pairs.length - c)).all prOk = true) n.pairs.length ?_ fun c e M0 hI => ?_ -- LOOP
    · simp only [go_sem, Nat.reduceEqDiff, Nat.reduceLT, Nat.reduceAdd, Nat.reduceMul, Nat.reduceSub, Nat.add_zero, Nat.zero_add, Int.reduceEq, Int.reduceLT, Nat.le_refl]
      exact ⟨Grew.refl _, by simp⟩
    obtain ⟨hgl, hn, rfl, hall⟩ := hI
    refine AWP.stepR [1, 27, 28, 29, 30] fun K hK => ?_
    simp only [go_sem, Nat.reduceEqDiff, Nat.reduceLT, Nat.reduceAdd, Nat.reduceMul, Nat.reduceSub, Nat.add_zero, Nat.zero_add, Int.reduceEq, Int.reduceLT]
    refine hK _ _ _ (by simp only [go_sem, Nat.reduceEqDiff, Nat.reduceLT, Nat.reduceAdd, Nat.reduceMul, Nat.reduceSub, Nat.add_zero, Nat.zero_add, Int.reduceEq, Int.reduceLT]; rfl) ?_; clear hK
    refine AWP.condS rfl (fun h30 => ?_) fun h30 => ?_
    · have hlt : n.pairs.length - c < n.pairs.length := by simpa using h30
      have hrl := hr.grew hgl
      obtain ⟨b, q, ha, hd⟩ := pr_at hrl.pairs hlt
      have hd := (hd M0 (Grew.refl _)).2.2
      have hk : PrOk M0 n.pairs[n.pairs.length - c] := ⟨hrl.pk _ (List.getElem_mem hlt), hrl.pv _ (List.getElem_mem hlt)⟩
      have hst := List.take_succ_eq_append_getElem hlt
      have hmem := List.getElem_mem hlt
      generalize n.pairs[n.pairs.length - c] = x at hd hk hst hmem
      refine AWP.skip ?_
      refine AWP.seq ?_
      refine AWP.block ?_ -- b1
      have hlt2 : M0.next < (M0.bump 1).next := Nat.lt_succ_self _
      refine AWP.stepR [1, 4, 27, 28, 29] fun K hK => ?_
      simp only [go_sem, Nat.reduceEqDiff, Nat.reduceLT, Nat.reduceAdd, Nat.reduceMul, Nat.reduceSub, Nat.add_zero, Nat.zero_add, Int.reduceEq, Int.reduceLT, ha, ld_58, hd, st_fresh (M := M0.bump 1) (i := M0.next) (n := 2) (old := [.slice none 0 0, .slice none 0 0]) (vs := prC x) (e := 58) rfl rfl hk.one]
      refine hK _ _ _ (by simp only [go_sem, Nat.reduceEqDiff, Nat.reduceLT, Nat.reduceAdd, Nat.reduceMul, Nat.reduceSub, Nat.add_zero, Nat.zero_add, Int.reduceEq, Int.reduceLT]; rfl) ?_; clear hK
      have hg4 := (((Grew.refl M0).bump 1).put (Nat.le_refl _) hlt2 ⟨[.slice none 0 0, .slice none 0 0], 58, true⟩).put (Nat.le_refl _) hlt2 ⟨prC x, 58, true⟩
      have hh4 : Has (((M0.bump 1).put M0.next ⟨[.slice none 0 0, .slice none 0 0], 58, true⟩).put M0.next ⟨prC x, 58, true⟩) M0.next ⟨prC x, 58, true⟩ := Has.put (M := (M0.bump 1).put M0.next ⟨[.slice none 0 0, .slice none 0 0], 58, true⟩) hlt2 _
      generalize ((M0.bump 1).put M0.next ⟨[.slice none 0 0, .slice none 0 0], 58, true⟩).put M0.next ⟨prC x, 58, true⟩ = M4 at hg4 hh4
      have hk := hk.grew hg4
      have hgg := hg1.trans (hgl.trans hg4)
      refine AWP.stepX [1, 27, 28, 29, 42] [(1, .pointer (some ⟨M.next, 0, none⟩)), (27, vp), (28, .int .i64 n.pairs.length), (29, .int .i64 ((n.pairs.length - c : Nat) : Int)), (42, .bool (!prOk x))] M4 (fun K hK => ?_) ?_
      · cases h64 : decide ((x.key.length : Int) > 64) <;> simp only [go_sem, Nat.reduceEqDiff, Nat.reduceLT, Nat.reduceAdd, Nat.reduceMul, Nat.reduceSub, Nat.add_zero, Nat.zero_add, Int.reduceEq, Int.reduceLT, ld_23, hh4.ld, prC, hk.1.len es_23, hk.2.len es_23, h64] <;> refine hK _ ?_ <;> simp only [go_sem, Nat.reduceEqDiff, Nat.reduceLT, Nat.reduceAdd, Nat.reduceMul, Nat.reduceSub, Nat.add_zero, Nat.zero_add, Int.reduceEq, Int.reduceLT, prOk, h64, Bool.or_false, Bool.or_true, Bool.false_or, Bool.true_or, Bool.not_not] <;> rfl
      refine AWP.cond_split rfl (fun h42 => ?_) fun h42 => ?_
      · refine AWP.stepR [2] fun K hK => ?_
        simp only [go_sem, Nat.reduceEqDiff, Nat.reduceLT, Nat.reduceAdd, Nat.reduceMul, Nat.reduceSub, Nat.add_zero, Nat.zero_add, Int.reduceEq, Int.reduceLT]
        refine hK _ _ _ (by simp only [go_sem, Nat.reduceEqDiff, Nat.reduceLT, Nat.reduceAdd, Nat.reduceMul, Nat.reduceSub, Nat.add_zero, Nat.zero_add, Int.reduceEq, Int.reduceLT]; rfl) ?_; clear hK
        refine AWP.ret (InBlock.ret (Then.ret (Then.ret (InBlock.ret (Then.ret (?_))))))
        refine Fin.plain (.inr rfl) rfl rfl hok hgg ⟨?_, rfl⟩
        have hp17 : partsF n = 17 := by
          rw [partsF, if_neg]
          simp only [List.all_eq_true]
          intro hh
          rw [hh x hmem] at h42
          cases h42
        rw [hchk, hp17, if_neg (by decide)]
      · refine AWP.skip ?_
        refine AWP.lastR fun K hK => ?_
        simp only [go_sem, Nat.reduceEqDiff, Nat.reduceLT, Nat.reduceAdd, Nat.reduceMul, Nat.reduceSub, Nat.add_zero, Nat.zero_add, Int.reduceEq, Int.reduceLT]
        refine hK _ _ ?_; clear hK
        refine ⟨c - 1, by omega, hgl.trans hg4, by omega, ?_, ?_⟩ -- ROUND
        · simp only [go_sem, Nat.reduceEqDiff, Nat.reduceLT, Nat.reduceAdd, Nat.reduceMul, Nat.reduceSub, Nat.add_zero, Nat.zero_add, Int.reduceEq, Int.reduceLT]
          rw [i64w (by omega) (by omega), show ((n.pairs.length - c : Nat) : Int) + 1 = ((n.pairs.length - (c - 1) : Nat) : Int) by omega]
        · rw [show n.pairs.length - (c - 1) = n.pairs.length - c + 1 by omega, hst, List.all_append, hall]
          simpa using h42
    · refine AWP.exit (Then.exit (Then.exit (InBlock.same ?_)))
      have hn0 : c = 0 := by simp at h30; omega
      subst hn0
      rw [Nat.sub_zero, List.take_length] at hall
      have hh1 := hh1.grew hgl
      have hr := hr.grew hgl
      have hg1 := hg1.trans hgl
      clear hgl
      rw [partsF, if_pos hall] at hchk
      refine AWP.seq ?_
      refine AWP.stepR [1, 45, 46, 47] fun K hK => ?_
      simp only [go_sem, Nat.reduceEqDiff, Nat.reduceLT, Nat.reduceAdd, Nat.reduceMul, Nat.reduceSub, Nat.add_zero, Nat.zero_add, Int.reduceEq, Int.reduceLT, ld_42, hh1.ld, nodeC, hr.kids.len es_42]
      refine hK _ _ _ (by simp only [go_sem, Nat.reduceEqDiff, Nat.reduceLT, Nat.reduceAdd, Nat.reduceMul, Nat.reduceSub, Nat.add_zero, Nat.zero_add, Int.reduceEq, Int.reduceLT]; rfl) ?_; clear hK
      refine AWP.block ?_ -- b2
      refine AWP.loopK [1, 45, 46, 47] (fun c e M2 => Grew M0 M2 ∧ c ≤ n.kids.length ∧ e = [(1, .pointer (some ⟨M.next, 0, none⟩)), (45, vk), (46, .int .i64 n.kids.length), (47, .int .i64 ((n.kids.length - c : Nat) : Int))] ∧ firstF n.kids = firstF (n.kids.drop (n.kids.length - c))) n.kids.length ?_ fun c e M2 hI => ?_ -- LOOP
      · simp only [go_sem, Nat.reduceEqDiff, Nat.reduceLT, Nat.reduceAdd, Nat.reduceMul, Nat.reduceSub, Nat.add_zero, Nat.zero_add, Int.reduceEq, Int.reduceLT, Nat.le_refl]
        exact ⟨Grew.refl _, by simp⟩
      obtain ⟨hgl, hn, rfl, hf⟩ := hI
      refine AWP.stepR [1, 45, 46, 47, 48] fun K hK => ?_
      simp only [go_sem, Nat.reduceEqDiff, Nat.reduceLT, Nat.reduceAdd, Nat.reduceMul, Nat.reduceSub, Nat.add_zero, Nat.zero_add, Int.reduceEq, Int.reduceLT]
      refine hK _ _ _ (by simp only [go_sem, Nat.reduceEqDiff, Nat.reduceLT, Nat.reduceAdd, Nat.reduceMul, Nat.reduceSub, Nat.add_zero, Nat.zero_add, Int.reduceEq, Int.reduceLT]; rfl) ?_; clear hK
      refine AWP.condS rfl (fun h48 => ?_) fun h48 => ?_
      · have hlt : n.kids.length - c < n.kids.length := by simpa using h48
        have hrl := hr.grew hgl
        obtain ⟨b, q, ha, hd⟩ := kd_at hrl.kids hlt
        have hd := (hd M2 (Grew.refl _)).2.2.2
        have hk : KdOk M2 n.kids[n.kids.length - c] := hrl.kk _ (List.getElem_mem hlt)
        rw [List.drop_eq_getElem_cons hlt] at hf
        generalize n.kids[n.kids.length - c] = x at hd hk hf
        refine AWP.skip ?_
        refine AWP.seq ?_
        refine AWP.block ?_ -- b3
        have hlt2 : M2.next < (M2.bump 1).next := Nat.lt_succ_self _
        refine AWP.stepR [1, 6, 45, 46, 47] fun K hK => ?_
        simp only [go_sem, Nat.reduceEqDiff, Nat.reduceLT, Nat.reduceAdd, Nat.reduceMul, Nat.reduceSub, Nat.add_zero, Nat.zero_add, Int.reduceEq, Int.reduceLT, ha, ld_60, hd, st_fresh (M := M2.bump 1) (i := M2.next) (n := 3) (old := [.slice none 0 0, .int .i64 0, .int .i64 0]) (vs := kdC x) (e := 60) rfl rfl hk.one]
        refine hK _ _ _ (by simp only [go_sem, Nat.reduceEqDiff, Nat.reduceLT, Nat.reduceAdd, Nat.reduceMul, Nat.reduceSub, Nat.add_zero, Nat.zero_add, Int.reduceEq, Int.reduceLT]; rfl) ?_; clear hK
        have hg4 := (((Grew.refl M2).bump 1).put (Nat.le_refl _) hlt2 ⟨[.slice none 0 0, .int .i64 0, .int .i64 0], 60, true⟩).put (Nat.le_refl _) hlt2 ⟨kdC x, 60, true⟩
        have hh4 : Has (((M2.bump 1).put M2.next ⟨[.slice none 0 0, .int .i64 0, .int .i64 0], 60, true⟩).put M2.next ⟨kdC x, 60, true⟩) M2.next ⟨kdC x, 60, true⟩ := Has.put (M := (M2.bump 1).put M2.next ⟨[.slice none 0 0, .int .i64 0, .int .i64 0], 60, true⟩) hlt2 _
        generalize ((M2.bump 1).put M2.next ⟨[.slice none 0 0, .int .i64 0, .int .i64 0], 60, true⟩).put M2.next ⟨kdC x, 60, true⟩ = M4 at hg4 hh4
        have hk := hk.grew hg4
        have hgg := hg1.trans (hgl.trans hg4)
        refine AWP.block ?_ -- b4
        refine AWP.stepR [1, 6, 45, 46, 47, 51] fun K hK => ?_
        simp only [go_sem, Nat.reduceEqDiff, Nat.reduceLT, Nat.reduceAdd, Nat.reduceMul, Nat.reduceSub, Nat.add_zero, Nat.zero_add, Int.reduceEq, Int.reduceLT, ld_23, hh4.ld, kdC, Row_.len hk es_23]
        refine hK _ _ _ (by simp only [go_sem, Nat.reduceEqDiff, Nat.reduceLT, Nat.reduceAdd, Nat.reduceMul, Nat.reduceSub, Nat.add_zero, Nat.zero_add, Int.reduceEq, Int.reduceLT]; rfl) ?_; clear hK
        refine AWP.cond_split rfl (fun h51 => ?_) fun h51 => ?_
        · refine AWP.stepR [2] fun K hK => ?_
          simp only [go_sem, Nat.reduceEqDiff, Nat.reduceLT, Nat.reduceAdd, Nat.reduceMul, Nat.reduceSub, Nat.add_zero, Nat.zero_add, Int.reduceEq, Int.reduceLT]
          refine hK _ _ _ (by simp only [go_sem, Nat.reduceEqDiff, Nat.reduceLT, Nat.reduceAdd, Nat.reduceMul, Nat.reduceSub, Nat.add_zero, Nat.zero_add, Int.reduceEq, Int.reduceLT]; rfl) ?_; clear hK
          refine AWP.ret (InBlock.ret (InBlock.ret (Then.ret (Then.ret (InBlock.ret (Then.ret (?_)))))))
          refine Fin.plain (.inr rfl) rfl rfl hok hgg ⟨?_, rfl⟩
          have hc : kdCode x = 17 := by rw [kdCode, if_pos (by simpa using h51)]
          rw [hchk, hf, firstF, hc]; simp
        · have h51' : ¬ (x.key.length : Int) > 64 := by simpa using h51
          refine AWP.stepX [1, 45, 46, 47, 56] [(1, .pointer (some ⟨M.next, 0, none⟩)), (45, vk), (46, .int .i64 n.kids.length), (47, .int .i64 ((n.kids.length - c : Nat) : Int)), (56, .bool (kdRange x))] M4 (fun K hK => ?_) ?_
          · cases a1 : decide (x.page < 0) <;> cases a2 : decide (x.page ≥ 4096) <;> cases a3 : decide (x.epoch < 0) <;> simp only [go_sem, Nat.reduceEqDiff, Nat.reduceLT, Nat.reduceAdd, Nat.reduceMul, Nat.reduceSub, Nat.add_zero, Nat.zero_add, Int.reduceEq, Int.reduceLT, ld_3, hh4.ld, kdC, a1, a2, a3] <;> refine hK _ ?_ <;> simp only [go_sem, Nat.reduceEqDiff, Nat.reduceLT, Nat.reduceAdd, Nat.reduceMul, Nat.reduceSub, Nat.add_zero, Nat.zero_add, Int.reduceEq, Int.reduceLT, kdRange, a1, a2, a3, Bool.or_false, Bool.or_true, Bool.false_or, Bool.true_or] <;> rfl
          refine AWP.cond_split rfl (fun h56 => ?_) fun h56 => ?_
          · refine AWP.stepR [2] fun K hK => ?_
            simp only [go_sem, Nat.reduceEqDiff, Nat.reduceLT, Nat.reduceAdd, Nat.reduceMul, Nat.reduceSub, Nat.add_zero, Nat.zero_add, Int.reduceEq, Int.reduceLT]
            refine hK _ _ _ (by simp only [go_sem, Nat.reduceEqDiff, Nat.reduceLT, Nat.reduceAdd, Nat.reduceMul, Nat.reduceSub, Nat.add_zero, Nat.zero_add, Int.reduceEq, Int.reduceLT]; rfl) ?_; clear hK
            refine AWP.ret (InBlock.ret (InBlock.ret (Then.ret (Then.ret (InBlock.ret (Then.ret (?_)))))))
            refine Fin.plain (.inr rfl) rfl rfl hok hgg ⟨?_, rfl⟩
            have hc : kdCode x = 2 := by rw [kdCode, if_neg h51', if_pos h56]
            rw [hchk, hf, firstF, hc]; simp
          · refine AWP.skip ?_
            refine AWP.lastR fun K hK => ?_
            simp only [go_sem, Nat.reduceEqDiff, Nat.reduceLT, Nat.reduceAdd, Nat.reduceMul, Nat.reduceSub, Nat.add_zero, Nat.zero_add, Int.reduceEq, Int.reduceLT]
            refine hK _ _ ?_; clear hK
            refine ⟨c - 1, by omega, hgl.trans hg4, by omega, ?_, ?_⟩ -- ROUND
            · simp only [go_sem, Nat.reduceEqDiff, Nat.reduceLT, Nat.reduceAdd, Nat.reduceMul, Nat.reduceSub, Nat.add_zero, Nat.zero_add, Int.reduceEq, Int.reduceLT]
              rw [i64w (by omega) (by omega), show ((n.kids.length - c : Nat) : Int) + 1 = ((n.kids.length - (c - 1) : Nat) : Int) by omega]
            · have hc : kdCode x = 0 := by rw [kdCode, if_neg h51', h56]; rfl
              rw [hf, firstF, if_pos hc, show n.kids.length - (c - 1) = n.kids.length - c + 1 by omega]
      · refine AWP.exit (Then.exit (Then.exit (InBlock.same ?_)))
        have hn0 : c = 0 := by simp at h48; omega
        rw [hn0, Nat.sub_zero, List.drop_length] at hf
        rw [hf, show firstF [] = 0 from rfl, if_pos rfl] at hchk
        have hh1 := hh1.grew hgl
        have hr := hr.grew hgl
        have hg1 := hg1.trans hgl
        clear hgl
        obtain ⟨r5, M5, hc5, hr5, hM5⟩ := rising72_spec vp n.pairs M2 (hg1.ok hok) hr.pairs hr.pk hB.pk hlp
        rw [hr5, hM5] at hc5
        obtain ⟨r6, M6, hc6, hr6, hM6⟩ := rising74_spec vk n.kids M2 (hg1.ok hok) hr.kids hr.kk hB.kk hlk
        rw [hr6, hM6] at hc6
        obtain ⟨r7, M7, hc7, hr7, hM7⟩ := size28_spec n vp vk M2 (hg1.ok hok) hr hL
        rw [hr7, hM7] at hc7
        refine AWP.seq ?_
        refine AWP.block ?_ -- b5
        generalize risingB (n.pairs.map Pr.key) = rp at hc5 hchk
        generalize risingB (n.kids.map Kd.key) = rk at hc6 hchk
        refine AWP.stepX [1, 76] [(1, .pointer (some ⟨M.next, 0, none⟩)), (76, .bool (!(rp && rk)))] M2 (fun K hK => ?_) ?_
        · cases rp
          · simp only [go_sem, Nat.reduceEqDiff, Nat.reduceLT, Nat.reduceAdd, Nat.reduceMul, Nat.reduceSub, Nat.add_zero, Nat.zero_add, Int.reduceEq, Int.reduceLT, ld_41, hh1.ld, nodeC]
            refine ⟨_, _, hc5, ?_⟩
            simp only [go_sem, Nat.reduceEqDiff, Nat.reduceLT, Nat.reduceAdd, Nat.reduceMul, Nat.reduceSub, Nat.add_zero, Nat.zero_add, Int.reduceEq, Int.reduceLT, Bool.not_false]
            refine hK _ ?_
            simp only [go_sem, Nat.reduceEqDiff, Nat.reduceLT, Nat.reduceAdd, Nat.reduceMul, Nat.reduceSub, Nat.add_zero, Nat.zero_add, Int.reduceEq, Int.reduceLT, Bool.false_and, Bool.not_false]
          · simp only [go_sem, Nat.reduceEqDiff, Nat.reduceLT, Nat.reduceAdd, Nat.reduceMul, Nat.reduceSub, Nat.add_zero, Nat.zero_add, Int.reduceEq, Int.reduceLT, ld_41, hh1.ld, nodeC]
            refine ⟨_, _, hc5, ?_⟩
            simp only [go_sem, Nat.reduceEqDiff, Nat.reduceLT, Nat.reduceAdd, Nat.reduceMul, Nat.reduceSub, Nat.add_zero, Nat.zero_add, Int.reduceEq, Int.reduceLT, Bool.not_true, ld_42, hh1.ld, nodeC]
            refine ⟨_, _, hc6, ?_⟩
            try simp only [go_sem, Nat.reduceEqDiff, Nat.reduceLT, Nat.reduceAdd, Nat.reduceMul, Nat.reduceSub, Nat.add_zero, Nat.zero_add, Int.reduceEq, Int.reduceLT]
            refine hK _ ?_
            simp only [go_sem, Nat.reduceEqDiff, Nat.reduceLT, Nat.reduceAdd, Nat.reduceMul, Nat.reduceSub, Nat.add_zero, Nat.zero_add, Int.reduceEq, Int.reduceLT, Bool.true_and]
        refine AWP.cond_split rfl (fun h76 => ?_) fun h76 => ?_
        · refine AWP.stepR [2] fun K hK => ?_
          simp only [go_sem, Nat.reduceEqDiff, Nat.reduceLT, Nat.reduceAdd, Nat.reduceMul, Nat.reduceSub, Nat.add_zero, Nat.zero_add, Int.reduceEq, Int.reduceLT]
          refine hK _ _ _ (by simp only [go_sem, Nat.reduceEqDiff, Nat.reduceLT, Nat.reduceAdd, Nat.reduceMul, Nat.reduceSub, Nat.add_zero, Nat.zero_add, Int.reduceEq, Int.reduceLT]; rfl) ?_; clear hK
          refine AWP.ret (InBlock.ret (Then.ret (?_)))
          exact Fin.plain (.inr rfl) rfl rfl hok hg1 ⟨by rw [hchk, if_neg (by intro hh; rw [hh] at h76; cases h76)], rfl⟩
        · rw [if_pos (by simpa using h76)] at hchk
          refine AWP.stepR [87] fun K hK => ?_
          simp only [go_sem, Nat.reduceEqDiff, Nat.reduceLT, Nat.reduceAdd, Nat.reduceMul, Nat.reduceSub, Nat.add_zero, Nat.zero_add, Int.reduceEq, Int.reduceLT, ld_44, hh1.lda (nodeC_len ..)]
          refine ⟨_, _, hc7, ?_⟩
          refine hK _ _ _ (by simp only [go_sem, Nat.reduceEqDiff, Nat.reduceLT, Nat.reduceAdd, Nat.reduceMul, Nat.reduceSub, Nat.add_zero, Nat.zero_add, Int.reduceEq, Int.reduceLT]; rfl) ?_; clear hK
          refine AWP.cond_split rfl (fun h87 => ?_) fun h87 => ?_
          · refine AWP.stepR [2] fun K hK => ?_
            simp only [go_sem, Nat.reduceEqDiff, Nat.reduceLT, Nat.reduceAdd, Nat.reduceMul, Nat.reduceSub, Nat.add_zero, Nat.zero_add, Int.reduceEq, Int.reduceLT]
            refine hK _ _ _ (by simp only [go_sem, Nat.reduceEqDiff, Nat.reduceLT, Nat.reduceAdd, Nat.reduceMul, Nat.reduceSub, Nat.add_zero, Nat.zero_add, Int.reduceEq, Int.reduceLT]; rfl) ?_; clear hK
            refine AWP.ret (InBlock.ret (Then.ret (?_)))
            exact Fin.plain (.inr rfl) rfl rfl hok hg1 ⟨by rw [hchk, if_pos (by simpa using h87)], rfl⟩
          · refine AWP.skip ?_
            refine AWP.stepR [2] fun K hK => ?_
            simp only [go_sem, Nat.reduceEqDiff, Nat.reduceLT, Nat.reduceAdd, Nat.reduceMul, Nat.reduceSub, Nat.add_zero, Nat.zero_add, Int.reduceEq, Int.reduceLT]
            refine hK _ _ _ (by simp only [go_sem, Nat.reduceEqDiff, Nat.reduceLT, Nat.reduceAdd, Nat.reduceMul, Nat.reduceSub, Nat.add_zero, Nat.zero_add, Int.reduceEq, Int.reduceLT]; rfl) ?_; clear hK
            refine AWP.ret (?_)
            exact Fin.plain (.inr rfl) rfl rfl hok hg1 ⟨by rw [hchk, if_neg (by simpa using h87)], rfl⟩
end Go.Proofs.Ythheaehpnleiaaa.AX
