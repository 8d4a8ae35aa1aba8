/- The law's function 'NodeFinds': it answers 'true'. -/
import Derived.Test.YthheaehpnleiaaaAxN7
import Derived.Test.YthheaehpnleiaaaAxG21
namespace Go.Proofs.Ythheaehpnleiaaa.AX
open Go Go.Proofs
set_option maxRecDepth 100000
set_option linter.unusedVariables false
set_option linter.unusedSimpArgs false

theorem bq_4 (a b : Bool) : binV Try.prog .eql 4 (.bool a) (.bool b) = some (.bool (a == b)) := by
  simp only [binV, eqV, eq0, un_4, Option.map_some]
theorem bnq_4 (a b : Bool) : binV Try.prog .neq 4 (.bool a) (.bool b) = some (.bool (!(a == b))) := by
  simp only [binV, eqV, eq0, un_4, Option.map_some]

theorem law8_spec (n : Node) (vp vk kv : Value) (k : List Int) (M : Mem) (hok : Ok M) (hr : NodeR M n vp vk) (hb : NodeB n) (hk : RowB M kv k) (hbk : Byt k) :
    ∃ r M', ACall Try.prog 8 #[.agg (nodeC n.leaf vp vk).toArray, kv] M r M' ∧ r = .bool true ∧ M' = M := by
  refine ACall.fin (args := [.agg (nodeC n.leaf vp vk).toArray, kv]) (k := 60) Try.func8 rfl rfl rfl (Nat.le_of_ble_eq_true rfl) ?_
  refine AWP.stepR [1, 2] fun K hK => ?_
  simp only [go_sem, Nat.reduceEqDiff, Nat.reduceLT, Nat.reduceAdd, Nat.reduceMul, Nat.reduceSub, Nat.add_zero, Nat.zero_add, Int.reduceEq, Int.reduceLT]
  refine hK _ _ _ (by simp only [go_sem, Nat.reduceEqDiff, Nat.reduceLT, Nat.reduceAdd, Nat.reduceMul, Nat.reduceSub, Nat.add_zero, Nat.zero_add, Int.reduceEq, Int.reduceLT]; rfl) ?_; clear hK
  have hlt1 : M.next < (M.bump 1).next := Nat.lt_succ_self _
  obtain ⟨hg1, hh1⟩ := mk_put ((Grew.refl M).bump 1) (Nat.le_refl _) hlt1 ⟨nodeC n.leaf vp vk, 44, true⟩
  change AWP _ _ _ ⟨_, (M.bump 1).put M.next ⟨nodeC n.leaf vp vk, 44, true⟩⟩ _
  generalize hM1 : (M.bump 1).put M.next ⟨nodeC n.leaf vp vk, 44, true⟩ = M1 at hg1 hh1
  have hr := hr.grew hg1
  have hk := hk.grew hg1
  obtain ⟨r2, M2, hc2, hr2, hM2⟩ := light20_spec n vp vk M1 (hg1.ok hok) hr
  rw [hr2, hM2, lightV] at hc2
  refine AWP.seq ?_
  refine AWP.stepX [1, 2, 17] [(1, kv), (2, .pointer (some ⟨M.next, 0, none⟩)), (17, .bool (!(lightN n && !decide ((k.length : Int) > 300))))] M1 (fun K hK => ?_) ?_
  · cases hl : lightN n
    · rw [hl, if_neg (by decide)] at hc2
      simp only [go_sem, Nat.reduceEqDiff, Nat.reduceLT, Nat.reduceAdd, Nat.reduceMul, Nat.reduceSub, Nat.add_zero, Nat.zero_add, Int.reduceEq, Int.reduceLT, ld_44, hh1.lda (nodeC_len ..)]
      refine ⟨_, _, hc2, ?_⟩
      simp only [go_sem, Nat.reduceEqDiff, Nat.reduceLT, Nat.reduceAdd, Nat.reduceMul, Nat.reduceSub, Nat.add_zero, Nat.zero_add, Int.reduceEq, Int.reduceLT, show decide ((1 : Int) > 0) = true from rfl]
      refine hK _ ?_
      simp only [go_sem, Nat.reduceEqDiff, Nat.reduceLT, Nat.reduceAdd, Nat.reduceMul, Nat.reduceSub, Nat.add_zero, Nat.zero_add, Int.reduceEq, Int.reduceLT, hl, Bool.false_and, Bool.not_false]
    · rw [hl, if_pos rfl] at hc2
      simp only [go_sem, Nat.reduceEqDiff, Nat.reduceLT, Nat.reduceAdd, Nat.reduceMul, Nat.reduceSub, Nat.add_zero, Nat.zero_add, Int.reduceEq, Int.reduceLT, ld_44, hh1.lda (nodeC_len ..)]
      refine ⟨_, _, hc2, ?_⟩
      simp only [go_sem, Nat.reduceEqDiff, Nat.reduceLT, Nat.reduceAdd, Nat.reduceMul, Nat.reduceSub, Nat.add_zero, Nat.zero_add, Int.reduceEq, Int.reduceLT, show decide ((0 : Int) > 0) = false from rfl, hk.len es_23]
      refine hK _ ?_
      simp only [go_sem, Nat.reduceEqDiff, Nat.reduceLT, Nat.reduceAdd, Nat.reduceMul, Nat.reduceSub, Nat.add_zero, Nat.zero_add, Int.reduceEq, Int.reduceLT, hl, Bool.true_and, Bool.not_not]
  refine AWP.cond_split rfl (fun h17 => ?_) fun h17 => ?_
  · refine AWP.stepR [4] fun K hK => ?_
    simp only [go_sem, Nat.reduceEqDiff, Nat.reduceLT, Nat.reduceAdd, Nat.reduceMul, Nat.reduceSub, Nat.add_zero, Nat.zero_add, Int.reduceEq, Int.reduceLT]
    refine ⟨_, _, works21_spec _, ?_⟩
    refine hK _ _ _ (by simp only [go_sem, Nat.reduceEqDiff, Nat.reduceLT, Nat.reduceAdd, Nat.reduceMul, Nat.reduceSub, Nat.add_zero, Nat.zero_add, Int.reduceEq, Int.reduceLT]; rfl) ?_; clear hK
    refine AWP.ret (Then.ret (?_))
    exact Fin.plain (.inr rfl) rfl rfl hok hg1 ⟨rfl, rfl⟩
  · have hlight : lightN n = true ∧ k.length ≤ 300 := by
      simp only [Bool.not_eq_false', Bool.and_eq_true, Bool.not_eq_true', decide_eq_false_iff_not] at h17
      exact ⟨h17.1, by omega⟩
    have hL := Lt18.of hlight.1
    have hkl := hlight.2
    have hlp := hL.pairs; have hlk := hL.kids
    obtain ⟨r3, M3, hc3, hr3, hM3⟩ := check27_spec n vp vk M1 (hg1.ok hok) hr hL
    rw [hr3, hM3] at hc3
    refine AWP.skip ?_
    refine AWP.stepR [1, 2, 5] fun K hK => ?_
    simp only [go_sem, Nat.reduceEqDiff, Nat.reduceLT, Nat.reduceAdd, Nat.reduceMul, Nat.reduceSub, Nat.add_zero, Nat.zero_add, Int.reduceEq, Int.reduceLT, ld_44, hh1.lda (nodeC_len ..)]
    refine ⟨_, _, hc3, ?_⟩
    refine hK _ _ _ (by simp only [go_sem, Nat.reduceEqDiff, Nat.reduceLT, Nat.reduceAdd, Nat.reduceMul, Nat.reduceSub, Nat.add_zero, Nat.zero_add, Int.reduceEq, Int.reduceLT]; rfl) ?_; clear hK
    refine AWP.seq ?_
    refine AWP.stepX [1, 2, 26] [(1, kv), (2, .pointer (some ⟨M.next, 0, none⟩)), (26, .bool (!(checkN n == 0) && !(checkN n == 16)))] M1 (fun K hK => ?_) ?_
    · cases h0 : (checkN n == 0) <;> simp only [go_sem, Nat.reduceEqDiff, Nat.reduceLT, Nat.reduceAdd, Nat.reduceMul, Nat.reduceSub, Nat.add_zero, Nat.zero_add, Int.reduceEq, Int.reduceLT, bne, h0, Bool.not_true, Bool.not_false] <;> refine hK _ ?_ <;> simp only [go_sem, Nat.reduceEqDiff, Nat.reduceLT, Nat.reduceAdd, Nat.reduceMul, Nat.reduceSub, Nat.add_zero, Nat.zero_add, Int.reduceEq, Int.reduceLT, h0, Bool.not_true, Bool.not_false, Bool.false_and, Bool.true_and]
    refine AWP.cond_split rfl (fun h26 => ?_) fun h26 => ?_
    · refine AWP.stepR [4] fun K hK => ?_
      simp only [go_sem, Nat.reduceEqDiff, Nat.reduceLT, Nat.reduceAdd, Nat.reduceMul, Nat.reduceSub, Nat.add_zero, Nat.zero_add, Int.reduceEq, Int.reduceLT]
      refine ⟨_, _, works21_spec _, ?_⟩
      refine hK _ _ _ (by simp only [go_sem, Nat.reduceEqDiff, Nat.reduceLT, Nat.reduceAdd, Nat.reduceMul, Nat.reduceSub, Nat.add_zero, Nat.zero_add, Int.reduceEq, Int.reduceLT]; rfl) ?_; clear hK
      refine AWP.ret (Then.ret (?_))
      exact Fin.plain (.inr rfl) rfl rfl hok hg1 ⟨rfl, rfl⟩
    · have hrise : risingB (n.pairs.map Pr.key) = true ∧ risingB (n.kids.map Kd.key) = true := by
        rw [← Bool.and_eq_true]
        cases hri : risingB (n.pairs.map Pr.key) && risingB (n.kids.map Kd.key) with
        | true => rfl
        | false =>
          exfalso
          have hc : checkN n ≠ 0 ∧ checkN n ≠ 16 := by
            unfold checkN
            rw [hri]
            split
            · decide
            · split
              · exact ⟨by simp, by simp⟩
              · rename_i h1 h2
                refine ⟨h2, ?_⟩
                unfold partsF
                split
                · have : ∀ l : List Kd, firstF l ≠ 16 := by
                    intro l
                    induction l with
                    | nil => decide
                    | cons a l ih =>
                      rw [firstF]
                      split
                      · exact ih
                      · unfold kdCode; split
                        · decide
                        · split <;> decide
                  exact this _
                · decide
          simp [hc.1, hc.2] at h26
      obtain ⟨hrp, hrk⟩ := hrise
      obtain ⟨r4, M4, hc4, hr4, hM4⟩ := find31_spec n vp vk kv k M1 (hg1.ok hok) hr hb hk hbk hrp (by omega)
      rw [hr4, hM4] at hc4
      obtain ⟨r5, M5, hc5, hr5, hM5⟩ := find32_spec n vp vk kv k M1 (hg1.ok hok) hr hk hL (by omega)
      rw [hr5, hM5] at hc5
      obtain ⟨r6, M6, hc6, hr6, hM6⟩ := way33_spec n vp vk kv k M1 (hg1.ok hok) hr hb hk hbk hrk (by omega)
      rw [hr6, hM6] at hc6
      obtain ⟨r7, M7, hc7, hr7, hM7⟩ := way34_spec n vp vk kv k M1 (hg1.ok hok) hr hk hL (by omega) hrk
      rw [hr7, hM7] at hc7
      generalize foundF (n.pairs.map Pr.key) k = fb at hc4 hc5
      generalize (posF (n.pairs.map Pr.key) k : Int) = pb at hc4 hc5
      generalize (wayF (n.kids.map Kd.key) k : Int) = wb at hc6 hc7
      have hbb : (fb == fb) = true := by cases fb <;> rfl
      refine AWP.skip ?_
      refine AWP.stepR [1, 2, 6, 7] fun K hK => ?_
      simp only [go_sem, Nat.reduceEqDiff, Nat.reduceLT, Nat.reduceAdd, Nat.reduceMul, Nat.reduceSub, Nat.add_zero, Nat.zero_add, Int.reduceEq, Int.reduceLT, ld_44, hh1.lda (nodeC_len ..)]
      refine ⟨_, _, hc4, ?_⟩
      simp only [go_sem, Nat.reduceEqDiff, Nat.reduceLT, Nat.reduceAdd, Nat.reduceMul, Nat.reduceSub, Nat.add_zero, Nat.zero_add, Int.reduceEq, Int.reduceLT, extractV]
      refine hK _ _ _ (by simp only [go_sem, Nat.reduceEqDiff, Nat.reduceLT, Nat.reduceAdd, Nat.reduceMul, Nat.reduceSub, Nat.add_zero, Nat.zero_add, Int.reduceEq, Int.reduceLT]; rfl) ?_; clear hK
      refine AWP.stepR [1, 2, 6, 7, 8, 9] fun K hK => ?_
      simp only [go_sem, Nat.reduceEqDiff, Nat.reduceLT, Nat.reduceAdd, Nat.reduceMul, Nat.reduceSub, Nat.add_zero, Nat.zero_add, Int.reduceEq, Int.reduceLT, ld_44, hh1.lda (nodeC_len ..)]
      refine ⟨_, _, hc5, ?_⟩
      simp only [go_sem, Nat.reduceEqDiff, Nat.reduceLT, Nat.reduceAdd, Nat.reduceMul, Nat.reduceSub, Nat.add_zero, Nat.zero_add, Int.reduceEq, Int.reduceLT, extractV]
      refine hK _ _ _ (by simp only [go_sem, Nat.reduceEqDiff, Nat.reduceLT, Nat.reduceAdd, Nat.reduceMul, Nat.reduceSub, Nat.add_zero, Nat.zero_add, Int.reduceEq, Int.reduceLT]; rfl) ?_; clear hK
      refine AWP.stepD hmo [0, 1, 2, 3, 4, 5, 6, 7, 8, 9, 10, 11, 12, 13, 14, 15, 16, 17, 18, 19, 20] [0, 0, 3, 7, 15, 15, 63, 127, 255, 511, 511, 2047, 511, 511, 16383, 32767, 65535, 131071, 262143, 524287, 1048575] [] [(12, 11)] (by kernel_rfl) [4] fun K hK => ?_
      simp -implicitDefEqProofs only [go_sem, Nat.reduceEqDiff, Nat.reduceLT, Nat.reduceAdd, Nat.reduceMul, Nat.reduceSub, Nat.add_zero, Nat.zero_add, Int.reduceEq, Int.reduceLT, ld_44, hh1.lda (nodeC_len ..), beq_self_eq_true, hbb, bq_4]
      refine ⟨_, _, hc6, ?_⟩
      simp -implicitDefEqProofs only [go_sem, Nat.reduceEqDiff, Nat.reduceLT, Nat.reduceAdd, Nat.reduceMul, Nat.reduceSub, Nat.add_zero, Nat.zero_add, Int.reduceEq, Int.reduceLT, ld_44, hh1.lda (nodeC_len ..), beq_self_eq_true, hbb, bq_4]
      refine ⟨_, _, hc7, ?_⟩
      simp -implicitDefEqProofs only [go_sem, Nat.reduceEqDiff, Nat.reduceLT, Nat.reduceAdd, Nat.reduceMul, Nat.reduceSub, Nat.add_zero, Nat.zero_add, Int.reduceEq, Int.reduceLT, beq_self_eq_true]
      refine ⟨_, _, works21_spec _, ?_⟩
      try simp -implicitDefEqProofs only [go_sem, Nat.reduceEqDiff, Nat.reduceLT, Nat.reduceAdd, Nat.reduceMul, Nat.reduceSub, Nat.add_zero, Nat.zero_add, Int.reduceEq, Int.reduceLT]
      refine hK _ _ _ (by simp only [go_sem, Nat.reduceEqDiff, Nat.reduceLT, Nat.reduceAdd, Nat.reduceMul, Nat.reduceSub, Nat.add_zero, Nat.zero_add, Int.reduceEq, Int.reduceLT]; rfl) ?_; clear hK
      refine AWP.ret (?_)
      exact Fin.plain (.inr rfl) rfl rfl hok hg1 ⟨rfl, rfl⟩
end Go.Proofs.Ythheaehpnleiaaa.AX
