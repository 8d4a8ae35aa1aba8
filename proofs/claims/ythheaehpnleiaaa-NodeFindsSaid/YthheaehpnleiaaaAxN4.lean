/- What is wrong with a node, by the document. -/
import Derived.Test.YthheaehpnleiaaaAxN3
namespace Go.Proofs.Ythheaehpnleiaaa.AX
open Go Go.Proofs
set_option maxRecDepth 100000
set_option linter.unusedVariables false
set_option linter.unusedSimpArgs false

/-- rows of bytes that rise -/
def risingB : List (List Int) → Bool
  | [] => true
  | x :: l => (match l with | [] => true | y :: _ => lessB x y) && risingB l
theorem risingB_short {l : List (List Int)} (h : l.length ≤ 1) : risingB l = true := by
  match l, h with
  | [], _ => rfl
  | [x], _ => rfl
theorem risingB_two (x y : List Int) (l : List (List Int)) : risingB (x :: y :: l) = (lessB x y && risingB (y :: l)) := rfl
theorem risingB_at {l : List (List Int)} {i : Nat} (h1 : 1 ≤ i) (h : i < l.length) : risingB (l.drop (i - 1)) = (lessB (l[i - 1]'(by omega)) l[i] && risingB (l.drop i)) := by
  rw [List.drop_eq_getElem_cons (show i - 1 < l.length by omega), show i - 1 + 1 = i by omega, List.drop_eq_getElem_cons h, risingB_two]
def formOk (n : Node) : Bool := (n.leaf && decide ((n.kids.length : Int) > 0)) || (!n.leaf && decide ((n.pairs.length : Int) > 0))
def checkN (n : Node) : Int := if formOk n = true then 4 else if partsF n = 0 then (if risingB (n.pairs.map Pr.key) && risingB (n.kids.map Kd.key) then (if sizeF n > 496 then 16 else 0) else 4) else partsF n

theorem check27_spec (n : Node) (vp vk : Value) (M : Mem) (hok : Ok M) (hr : NodeR M n vp vk) (hL : Lt18 n) : ∃ r M', ACall Try.prog 27 #[.agg (nodeC n.leaf vp vk).toArray] M r M' ∧ r = .int .i64 (checkN n) ∧ M' = M := by
  refine ACall.fin (args := [.agg (nodeC n.leaf vp vk).toArray]) (k := 77) Try.func27 rfl rfl rfl (Nat.le_of_ble_eq_true rfl) ?_
  refine AWP.stepR [1] fun K hK => ?_
  simp only [go_sem, Nat.reduceEqDiff, Nat.reduceLT, Nat.reduceAdd, Nat.reduceMul, Nat.reduceSub, Nat.add_zero, Nat.zero_add, Int.reduceEq, Int.reduceLT]
  refine hK _ _ _ (by simp only [go_sem, Nat.reduceEqDiff, Nat.reduceLT, Nat.reduceAdd, Nat.reduceMul, Nat.reduceSub, Nat.add_zero, Nat.zero_add, Int.reduceEq, Int.reduceLT]; rfl) ?_; clear hK
  have hlt1 : M.next < (M.bump 1).next := Nat.lt_succ_self _
  obtain ⟨hg1, hh1⟩ := mk_put ((Grew.refl M).bump 1) (Nat.le_refl _) hlt1 ⟨nodeC n.leaf vp vk, 44, true⟩
  change AWP _ _ _ ⟨_, (M.bump 1).put M.next ⟨nodeC n.leaf vp vk, 44, true⟩⟩ _
  generalize hM1 : (M.bump 1).put M.next ⟨nodeC n.leaf vp vk, 44, true⟩ = M1 at hg1 hh1
  have hr := hr.grew hg1
  have hlp := hL.pairs; have hlk := hL.kids
  refine AWP.seq ?_
  refine AWP.stepX [1, 24] [(1, .pointer (some ⟨M.next, 0, none⟩)), (24, .bool (formOk n))] M1 (fun K hK => ?_) ?_
  · cases hlf : n.leaf <;> cases hk0 : decide ((n.kids.length : Int) > 0) <;> simp only [go_sem, Nat.reduceEqDiff, Nat.reduceLT, Nat.reduceAdd, Nat.reduceMul, Nat.reduceSub, Nat.add_zero, Nat.zero_add, Int.reduceEq, Int.reduceLT, ld_4, ld_41, ld_42, hh1.ld, nodeC, hr.pairs.len es_41, hr.kids.len es_42, hlf, hk0] <;> refine hK _ ?_ <;> simp only [go_sem, Nat.reduceEqDiff, Nat.reduceLT, Nat.reduceAdd, Nat.reduceMul, Nat.reduceSub, Nat.add_zero, Nat.zero_add, Int.reduceEq, Int.reduceLT, formOk, hlf, hk0, Bool.or_false, Bool.or_true, Bool.false_or, Bool.true_or, Bool.not_false, Bool.not_true, Bool.true_and, Bool.false_and] <;> rfl
  refine AWP.cond_split rfl (fun h24 => ?_) fun h24 => ?_
  · refine AWP.stepR [2] fun K hK => ?_
    simp only [go_sem, Nat.reduceEqDiff, Nat.reduceLT, Nat.reduceAdd, Nat.reduceMul, Nat.reduceSub, Nat.add_zero, Nat.zero_add, Int.reduceEq, Int.reduceLT]
    refine hK _ _ _ (by simp only [go_sem, Nat.reduceEqDiff, Nat.reduceLT, Nat.reduceAdd, Nat.reduceMul, Nat.reduceSub, Nat.add_zero, Nat.zero_add, Int.reduceEq, Int.reduceLT]; rfl) ?_; clear hK
    refine AWP.ret (Then.ret (?_))
    exact Fin.plain (.inr rfl) rfl rfl hok hg1 ⟨by rw [checkN, if_pos h24], rfl⟩
  · refine AWP.skip ?_
    refine AWP.seq ?_
    obtain ⟨r3, M3, hc3, hr3, hM3⟩ := parts76_spec n vp vk M1 (hg1.ok hok) hr (by omega) (by omega)
    rw [hr3, hM3] at hc3
    refine AWP.stepR [1, 3] fun K hK => ?_
    simp only [go_sem, Nat.reduceEqDiff, Nat.reduceLT, Nat.reduceAdd, Nat.reduceMul, Nat.reduceSub, Nat.add_zero, Nat.zero_add, Int.reduceEq, Int.reduceLT, ld_44, hh1.lda (nodeC_len ..)]
    refine ⟨_, _, hc3, ?_⟩
    refine hK _ _ _ (by simp only [go_sem, Nat.reduceEqDiff, Nat.reduceLT, Nat.reduceAdd, Nat.reduceMul, Nat.reduceSub, Nat.add_zero, Nat.zero_add, Int.reduceEq, Int.reduceLT]; rfl) ?_; clear hK
    refine AWP.stepR [1, 3, 28] fun K hK => ?_
    simp only [go_sem, Nat.reduceEqDiff, Nat.reduceLT, Nat.reduceAdd, Nat.reduceMul, Nat.reduceSub, Nat.add_zero, Nat.zero_add, Int.reduceEq, Int.reduceLT]
    refine hK _ _ _ (by simp only [go_sem, Nat.reduceEqDiff, Nat.reduceLT, Nat.reduceAdd, Nat.reduceMul, Nat.reduceSub, Nat.add_zero, Nat.zero_add, Int.reduceEq, Int.reduceLT]; rfl) ?_; clear hK
    refine AWP.cond_split rfl (fun h28 => ?_) fun h28 => ?_
    · refine AWP.stepR [2] fun K hK => ?_
      simp only [go_sem, Nat.reduceEqDiff, Nat.reduceLT, Nat.reduceAdd, Nat.reduceMul, Nat.reduceSub, Nat.add_zero, Nat.zero_add, Int.reduceEq, Int.reduceLT]
      refine hK _ _ _ (by simp only [go_sem, Nat.reduceEqDiff, Nat.reduceLT, Nat.reduceAdd, Nat.reduceMul, Nat.reduceSub, Nat.add_zero, Nat.zero_add, Int.reduceEq, Int.reduceLT]; rfl) ?_; clear hK
      refine AWP.ret (Then.ret (?_))
      exact Fin.plain (.inr rfl) rfl rfl hok hg1 ⟨by rw [checkN, if_neg (by simpa using h24), if_neg (by simpa using h28)], rfl⟩
    · have hchk : checkN n = if risingB (n.pairs.map Pr.key) && risingB (n.kids.map Kd.key) then (if sizeF n > 496 then 16 else 0) else 4 := by
        rw [checkN, if_neg (by simpa using h24), if_pos (by simpa using h28)]
      refine AWP.skip ?_
      refine AWP.seq ?_
      refine AWP.stepR [1, 4] fun K hK => ?_
      simp only [go_sem, Nat.reduceEqDiff, Nat.reduceLT, Nat.reduceAdd, Nat.reduceMul, Nat.reduceSub, Nat.add_zero, Nat.zero_add, Int.reduceEq, Int.reduceLT]
      refine hK _ _ _ (by simp only [go_sem, Nat.reduceEqDiff, Nat.reduceLT, Nat.reduceAdd, Nat.reduceMul, Nat.reduceSub, Nat.add_zero, Nat.zero_add, Int.reduceEq, Int.reduceLT]; rfl) ?_; clear hK
      refine AWP.block ?_ -- b0
      refine AWP.loopK [1, 4] (fun c e M0 => M0 = M1 ∧ ∃ i, 1 ≤ i ∧ i ≤ n.pairs.length + 1 ∧ c = n.pairs.length + 1 - i ∧ e = [(1, .pointer (some ⟨M.next, 0, none⟩)), (4, .int .i64 (i : Nat))] ∧ risingB (n.pairs.map Pr.key) = risingB ((n.pairs.map Pr.key).drop (i - 1))) n.pairs.length ?_ fun c e M0 hI => ?_ -- LOOP
      · simp only [go_sem, Nat.reduceEqDiff, Nat.reduceLT, Nat.reduceAdd, Nat.reduceMul, Nat.reduceSub, Nat.add_zero, Nat.zero_add, Int.reduceEq, Int.reduceLT, true_and]
        exact ⟨1, by omega, by omega, by omega, rfl, by simp⟩
      obtain ⟨rfl, i, hi1, hi2, hc, rfl, hrise⟩ := hI
      refine AWP.seq ?_
      refine AWP.stepR [1, 4, 34] fun K hK => ?_
      simp only [go_sem, Nat.reduceEqDiff, Nat.reduceLT, Nat.reduceAdd, Nat.reduceMul, Nat.reduceSub, Nat.add_zero, Nat.zero_add, Int.reduceEq, Int.reduceLT, ld_41, hh1.ld, nodeC, hr.pairs.len es_41]
      refine hK _ _ _ (by simp only [go_sem, Nat.reduceEqDiff, Nat.reduceLT, Nat.reduceAdd, Nat.reduceMul, Nat.reduceSub, Nat.add_zero, Nat.zero_add, Int.reduceEq, Int.reduceLT]; rfl) ?_; clear hK
      refine AWP.cond_split rfl (fun h34 => ?_) fun h34 => ?_
      · have hlt : i < n.pairs.length := by simpa using h34
        obtain ⟨b, q, ha, hd⟩ := pr_at hr.pairs hlt
        obtain ⟨hd1, _, _⟩ := hd M0 (Grew.refl _)
        obtain ⟨b', q', ha', hd'⟩ := pr_at hr.pairs (show i - 1 < n.pairs.length by omega)
        obtain ⟨hd1', _, _⟩ := hd' M0 (Grew.refl _)
        have hk := hr.pk _ (List.getElem_mem hlt)
        have hk' := hr.pk _ (List.getElem_mem (show i - 1 < n.pairs.length by omega))
        have hb' := hL.pk _ (List.getElem_mem (show i - 1 < n.pairs.length by omega))
        have hat := risingB_at (l := n.pairs.map Pr.key) hi1 (by simpa using hlt)
        simp only [List.getElem_map] at hat
        generalize n.pairs[i] = x at hd1 hk hat
        generalize n.pairs[i - 1] = y at hd1' hk' hat hb'
        obtain ⟨r5, M5, hc5, hr5, hM5⟩ := less77_spec y.kv x.kv y.key x.key M0 (hg1.ok hok) hk' hk (by omega)
        rw [hr5, hM5] at hc5
        refine AWP.skip ?_
        refine AWP.seq ?_
        refine AWP.block ?_ -- b1
        refine AWP.stepD hmo [0, 1, 2, 3, 4, 5, 6, 7, 8, 9, 10, 11, 12, 13, 14] [0, 1, 0, 4, 15, 31, 63, 0, 128, 0, 896, 1920, 3968, 8191, 16383] [] [] (by kernel_rfl) [1, 4, 51] fun K hK => ?_
        simp only [go_sem, Nat.reduceEqDiff, Nat.reduceLT, Nat.reduceAdd, Nat.reduceMul, Nat.reduceSub, Nat.add_zero, Nat.zero_add, Int.reduceEq, Int.reduceLT, ld_41, hh1.ld, nodeC, i64w (n := ((i - 1 : Nat) : Int)) (by omega) (by omega), show (i : Int) - 1 = ((i - 1 : Nat) : Int) by omega, ha, ha', hd1, hd1', ld_23]
        refine ⟨_, _, hc5, ?_⟩
        refine hK _ _ _ (by simp only [go_sem, Nat.reduceEqDiff, Nat.reduceLT, Nat.reduceAdd, Nat.reduceMul, Nat.reduceSub, Nat.add_zero, Nat.zero_add, Int.reduceEq, Int.reduceLT]; rfl) ?_; clear hK
        refine AWP.cond_split rfl (fun h51 => ?_) fun h51 => ?_
        · refine AWP.stepR [2] fun K hK => ?_
          simp only [go_sem, Nat.reduceEqDiff, Nat.reduceLT, Nat.reduceAdd, Nat.reduceMul, Nat.reduceSub, Nat.add_zero, Nat.zero_add, Int.reduceEq, Int.reduceLT]
          refine hK _ _ _ (by simp only [go_sem, Nat.reduceEqDiff, Nat.reduceLT, Nat.reduceAdd, Nat.reduceMul, Nat.reduceSub, Nat.add_zero, Nat.zero_add, Int.reduceEq, Int.reduceLT]; rfl) ?_; clear hK
          refine AWP.ret (InBlock.ret (Then.ret (Then.ret (InBlock.ret (Then.ret (?_))))))
          refine Fin.plain (.inr rfl) rfl rfl hok hg1 ⟨?_, rfl⟩
          rw [hchk, hrise, hat, show lessB y.key x.key = false by simpa using h51]; simp
        · refine AWP.skip ?_
          refine AWP.lastR fun K hK => ?_
          simp only [go_sem, Nat.reduceEqDiff, Nat.reduceLT, Nat.reduceAdd, Nat.reduceMul, Nat.reduceSub, Nat.add_zero, Nat.zero_add, Int.reduceEq, Int.reduceLT]
          refine hK _ _ ?_; clear hK
          refine ⟨c - 1, by omega, rfl, i + 1, by omega, by omega, by omega, ?_, ?_⟩ -- ROUND
          · simp only [go_sem, Nat.reduceEqDiff, Nat.reduceLT, Nat.reduceAdd, Nat.reduceMul, Nat.reduceSub, Nat.add_zero, Nat.zero_add, Int.reduceEq, Int.reduceLT]
            rw [i64w (by omega) (by omega)]; rfl
          · rw [hrise, hat, show lessB y.key x.key = true by simpa using h51, Bool.true_and, Nat.add_sub_cancel]
      · refine AWP.exit (Then.exit (Then.exit (InBlock.same ?_)))
        have hge : n.pairs.length ≤ i := by simpa using h34
        rw [risingB_short (l := (n.pairs.map Pr.key).drop (i - 1)) (by simp; omega)] at hrise
        rw [hrise, Bool.true_and] at hchk
        refine AWP.seq ?_
        refine AWP.stepR [1, 5] fun K hK => ?_
        simp only [go_sem, Nat.reduceEqDiff, Nat.reduceLT, Nat.reduceAdd, Nat.reduceMul, Nat.reduceSub, Nat.add_zero, Nat.zero_add, Int.reduceEq, Int.reduceLT]
        refine hK _ _ _ (by simp only [go_sem, Nat.reduceEqDiff, Nat.reduceLT, Nat.reduceAdd, Nat.reduceMul, Nat.reduceSub, Nat.add_zero, Nat.zero_add, Int.reduceEq, Int.reduceLT]; rfl) ?_; clear hK
        refine AWP.block ?_ -- b2
        refine AWP.loopK [1, 5] (fun c e M2 => M2 = M0 ∧ ∃ i, 1 ≤ i ∧ i ≤ n.kids.length + 1 ∧ c = n.kids.length + 1 - i ∧ e = [(1, .pointer (some ⟨M.next, 0, none⟩)), (5, .int .i64 (i : Nat))] ∧ risingB (n.kids.map Kd.key) = risingB ((n.kids.map Kd.key).drop (i - 1))) n.kids.length ?_ fun c e M2 hI => ?_ -- LOOP
        · simp only [go_sem, Nat.reduceEqDiff, Nat.reduceLT, Nat.reduceAdd, Nat.reduceMul, Nat.reduceSub, Nat.add_zero, Nat.zero_add, Int.reduceEq, Int.reduceLT, true_and]
          exact ⟨1, by omega, by omega, by omega, rfl, by simp⟩
        obtain ⟨rfl, j, hj1, hj2, hc, rfl, hrise2⟩ := hI
        refine AWP.seq ?_
        refine AWP.stepR [1, 5, 56] fun K hK => ?_
        simp only [go_sem, Nat.reduceEqDiff, Nat.reduceLT, Nat.reduceAdd, Nat.reduceMul, Nat.reduceSub, Nat.add_zero, Nat.zero_add, Int.reduceEq, Int.reduceLT, ld_42, hh1.ld, nodeC, hr.kids.len es_42]
        refine hK _ _ _ (by simp only [go_sem, Nat.reduceEqDiff, Nat.reduceLT, Nat.reduceAdd, Nat.reduceMul, Nat.reduceSub, Nat.add_zero, Nat.zero_add, Int.reduceEq, Int.reduceLT]; rfl) ?_; clear hK
        refine AWP.cond_split rfl (fun h56 => ?_) fun h56 => ?_
        · have hlt : j < n.kids.length := by simpa using h56
          obtain ⟨b, q, ha, hd⟩ := kd_at hr.kids hlt
          obtain ⟨hd1, _, _⟩ := hd M2 (Grew.refl _)
          obtain ⟨b', q', ha', hd'⟩ := kd_at hr.kids (show j - 1 < n.kids.length by omega)
          obtain ⟨hd1', _, _⟩ := hd' M2 (Grew.refl _)
          have hk := hr.kk _ (List.getElem_mem hlt)
          have hk' := hr.kk _ (List.getElem_mem (show j - 1 < n.kids.length by omega))
          have hb' := hL.kk _ (List.getElem_mem (show j - 1 < n.kids.length by omega))
          have hat := risingB_at (l := n.kids.map Kd.key) hj1 (by simpa using hlt)
          simp only [List.getElem_map] at hat
          generalize n.kids[j] = x at hd1 hk hat
          generalize n.kids[j - 1] = y at hd1' hk' hat hb'
          obtain ⟨r5, M5, hc5, hr5, hM5⟩ := less77_spec y.kv x.kv y.key x.key M2 (hg1.ok hok) hk' hk (by omega)
          rw [hr5, hM5] at hc5
          refine AWP.skip ?_
          refine AWP.seq ?_
          refine AWP.block ?_ -- b3
          refine AWP.stepD hmo [0, 1, 2, 3, 4, 5, 6, 7, 8, 9, 10, 11, 12, 13, 14] [0, 1, 0, 4, 15, 31, 63, 0, 128, 0, 896, 1920, 3968, 8191, 16383] [] [] (by kernel_rfl) [1, 5, 73] fun K hK => ?_
          simp only [go_sem, Nat.reduceEqDiff, Nat.reduceLT, Nat.reduceAdd, Nat.reduceMul, Nat.reduceSub, Nat.add_zero, Nat.zero_add, Int.reduceEq, Int.reduceLT, ld_42, hh1.ld, nodeC, i64w (n := ((j - 1 : Nat) : Int)) (by omega) (by omega), show (j : Int) - 1 = ((j - 1 : Nat) : Int) by omega, ha, ha', hd1, hd1', ld_23]
          refine ⟨_, _, hc5, ?_⟩
          refine hK _ _ _ (by simp only [go_sem, Nat.reduceEqDiff, Nat.reduceLT, Nat.reduceAdd, Nat.reduceMul, Nat.reduceSub, Nat.add_zero, Nat.zero_add, Int.reduceEq, Int.reduceLT]; rfl) ?_; clear hK
          refine AWP.cond_split rfl (fun h73 => ?_) fun h73 => ?_
          · refine AWP.stepR [2] fun K hK => ?_
            simp only [go_sem, Nat.reduceEqDiff, Nat.reduceLT, Nat.reduceAdd, Nat.reduceMul, Nat.reduceSub, Nat.add_zero, Nat.zero_add, Int.reduceEq, Int.reduceLT]
            refine hK _ _ _ (by simp only [go_sem, Nat.reduceEqDiff, Nat.reduceLT, Nat.reduceAdd, Nat.reduceMul, Nat.reduceSub, Nat.add_zero, Nat.zero_add, Int.reduceEq, Int.reduceLT]; rfl) ?_; clear hK
            refine AWP.ret (InBlock.ret (Then.ret (Then.ret (InBlock.ret (Then.ret (?_))))))
            refine Fin.plain (.inr rfl) rfl rfl hok hg1 ⟨?_, rfl⟩
            rw [hchk, hrise2, hat, show lessB y.key x.key = false by simpa using h73]; simp
          · refine AWP.skip ?_
            refine AWP.lastR fun K hK => ?_
            simp only [go_sem, Nat.reduceEqDiff, Nat.reduceLT, Nat.reduceAdd, Nat.reduceMul, Nat.reduceSub, Nat.add_zero, Nat.zero_add, Int.reduceEq, Int.reduceLT]
            refine hK _ _ ?_; clear hK
            refine ⟨c - 1, by omega, rfl, j + 1, by omega, by omega, by omega, ?_, ?_⟩ -- ROUND
            · simp only [go_sem, Nat.reduceEqDiff, Nat.reduceLT, Nat.reduceAdd, Nat.reduceMul, Nat.reduceSub, Nat.add_zero, Nat.zero_add, Int.reduceEq, Int.reduceLT]
              rw [i64w (by omega) (by omega)]; rfl
            · rw [hrise2, hat, show lessB y.key x.key = true by simpa using h73, Bool.true_and, Nat.add_sub_cancel]
        · refine AWP.exit (Then.exit (Then.exit (InBlock.same ?_)))
          have hge2 : n.kids.length ≤ j := by simpa using h56
          rw [risingB_short (l := (n.kids.map Kd.key).drop (j - 1)) (by simp; omega)] at hrise2
          rw [hrise2, if_pos rfl] at hchk
          obtain ⟨r6, M6, hc6, hr6, hM6⟩ := size29_spec n vp vk M2 (hg1.ok hok) hr hL
          rw [hr6, hM6] at hc6
          refine AWP.seq ?_
          refine AWP.stepR [76] fun K hK => ?_
          simp only [go_sem, Nat.reduceEqDiff, Nat.reduceLT, Nat.reduceAdd, Nat.reduceMul, Nat.reduceSub, Nat.add_zero, Nat.zero_add, Int.reduceEq, Int.reduceLT, ld_44, hh1.lda (nodeC_len ..)]
          refine ⟨_, _, hc6, ?_⟩
          refine hK _ _ _ (by simp only [go_sem, Nat.reduceEqDiff, Nat.reduceLT, Nat.reduceAdd, Nat.reduceMul, Nat.reduceSub, Nat.add_zero, Nat.zero_add, Int.reduceEq, Int.reduceLT]; rfl) ?_; clear hK
          refine AWP.cond_split rfl (fun h76 => ?_) fun h76 => ?_
          · refine AWP.stepR [2] fun K hK => ?_
            simp only [go_sem, Nat.reduceEqDiff, Nat.reduceLT, Nat.reduceAdd, Nat.reduceMul, Nat.reduceSub, Nat.add_zero, Nat.zero_add, Int.reduceEq, Int.reduceLT]
            refine hK _ _ _ (by simp only [go_sem, Nat.reduceEqDiff, Nat.reduceLT, Nat.reduceAdd, Nat.reduceMul, Nat.reduceSub, Nat.add_zero, Nat.zero_add, Int.reduceEq, Int.reduceLT]; rfl) ?_; clear hK
            refine AWP.ret (Then.ret (?_))
            exact Fin.plain (.inr rfl) rfl rfl hok hg1 ⟨by rw [hchk, if_pos (by simpa using h76)], rfl⟩
          · refine AWP.skip ?_
            refine AWP.stepR [2] fun K hK => ?_
            simp only [go_sem, Nat.reduceEqDiff, Nat.reduceLT, Nat.reduceAdd, Nat.reduceMul, Nat.reduceSub, Nat.add_zero, Nat.zero_add, Int.reduceEq, Int.reduceLT]
            refine hK _ _ _ (by simp only [go_sem, Nat.reduceEqDiff, Nat.reduceLT, Nat.reduceAdd, Nat.reduceMul, Nat.reduceSub, Nat.add_zero, Nat.zero_add, Int.reduceEq, Int.reduceLT]; rfl) ?_; clear hK
            refine AWP.ret (?_)
            exact Fin.plain (.inr rfl) rfl rfl hok hg1 ⟨by rw [hchk, if_neg (by simpa using h76)], rfl⟩
end Go.Proofs.Ythheaehpnleiaaa.AX
