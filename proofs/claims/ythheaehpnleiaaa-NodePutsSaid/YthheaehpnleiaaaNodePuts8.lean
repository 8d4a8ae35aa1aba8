/- Small functions: a bit, a number's range, like bytes. -/
import Derived.Test.YthheaehpnleiaaaNodePuts7
import Derived.Test.YthheaehpnleiaaaNodePuts5
namespace Go.Proofs.Ythheaehpnleiaaa.AX
open Go Go.Proofs
set_option maxRecDepth 100000
set_option linter.unusedVariables false
set_option linter.unusedSimpArgs false

theorem hmo : Try.prog.follows .mixedOrders = true := by kernel_rfl
theorem bit_spec (is : Bool) (n : Int) (M : Mem) (hok : Ok M) : ∃ r M', ACall Try.prog 42 #[.bool is, .int .u8 n] M r M' ∧ r = .int .u8 (if is then n else 0) ∧ M' = M := by
  refine ACall.fin (args := [.bool is, .int .u8 n]) (k := 7) Try.func42 rfl rfl rfl (Nat.le_of_ble_eq_true rfl) ?_
  refine AWP.stepR [0, 1] fun K hK => ?_
  simp only [go_sem, Nat.reduceEqDiff, Nat.reduceLT, Nat.reduceAdd, Nat.reduceMul, Nat.reduceSub, Nat.add_zero, Nat.zero_add, Int.reduceEq, Int.reduceLT]
  refine hK _ _ _ (by simp only [go_sem, Nat.reduceEqDiff, Nat.reduceLT, Nat.reduceAdd, Nat.reduceMul, Nat.reduceSub, Nat.add_zero, Nat.zero_add, Int.reduceEq, Int.reduceLT]; rfl) ?_; clear hK
  refine AWP.seq (AWP.stepR [0, 1, 5] fun K hK => ?_)
  simp only [go_sem, Nat.reduceEqDiff, Nat.reduceLT, Nat.reduceAdd, Nat.reduceMul, Nat.reduceSub, Nat.add_zero, Nat.zero_add, Int.reduceEq, Int.reduceLT]
  refine hK _ _ _ (by simp only [go_sem, Nat.reduceEqDiff, Nat.reduceLT, Nat.reduceAdd, Nat.reduceMul, Nat.reduceSub, Nat.add_zero, Nat.zero_add, Int.reduceEq, Int.reduceLT]; rfl) ?_; clear hK
  refine AWP.cond_split rfl (fun h => ?_) fun h => AWP.skip ?_
  · refine AWP.stepR [4] fun K hK => ?_
    simp only [go_sem, Nat.reduceEqDiff, Nat.reduceLT, Nat.reduceAdd, Nat.reduceMul, Nat.reduceSub, Nat.add_zero, Nat.zero_add, Int.reduceEq, Int.reduceLT]
    refine hK _ _ _ (by simp only [go_sem, Nat.reduceEqDiff, Nat.reduceLT, Nat.reduceAdd, Nat.reduceMul, Nat.reduceSub, Nat.add_zero, Nat.zero_add, Int.reduceEq, Int.reduceLT]; rfl) ?_; clear hK
    exact AWP.ret (Fin.plain (.inr rfl) rfl rfl hok (Grew.refl _) ⟨by rw [h]; rfl, rfl⟩)
  · refine AWP.stepR [4] fun K hK => ?_
    simp only [go_sem, Nat.reduceEqDiff, Nat.reduceLT, Nat.reduceAdd, Nat.reduceMul, Nat.reduceSub, Nat.add_zero, Nat.zero_add, Int.reduceEq, Int.reduceLT]
    refine hK _ _ _ (by simp only [go_sem, Nat.reduceEqDiff, Nat.reduceLT, Nat.reduceAdd, Nat.reduceMul, Nat.reduceSub, Nat.add_zero, Nat.zero_add, Int.reduceEq, Int.reduceLT]; rfl) ?_; clear hK
    exact AWP.ret (Fin.plain (.inr rfl) rfl rfl hok (Grew.refl _) ⟨by rw [h]; rfl, rfl⟩)

def numOk (x : Int) : Bool := decide (0 ≤ x) && decide (x ≤ 1099511627776)
theorem small47_spec (x : Int) (M : Mem) (hok : Ok M) : ∃ r M', ACall Try.prog 47 #[.int .i64 x] M r M' ∧ r = .bool (numOk x) ∧ M' = M := by
  refine ACall.fin (args := [.int .i64 x]) (k := 9) Try.func47 rfl rfl rfl (Nat.le_of_ble_eq_true rfl) ?_
  refine AWP.stepR [0] fun K hK => ?_
  simp only [go_sem, Nat.reduceEqDiff, Nat.reduceLT, Nat.reduceAdd, Nat.reduceMul, Nat.reduceSub, Nat.add_zero, Nat.zero_add, Int.reduceEq, Int.reduceLT]
  refine hK _ _ _ (by simp only [go_sem, Nat.reduceEqDiff, Nat.reduceLT, Nat.reduceAdd, Nat.reduceMul, Nat.reduceSub, Nat.add_zero, Nat.zero_add, Int.reduceEq, Int.reduceLT]; rfl) ?_; clear hK
  refine AWP.stepX [2] [(2, .bool (numOk x))] M (fun K hK => ?_) ?_
  · cases h0 : decide (x ≥ 0) <;> simp only [go_sem, Nat.reduceEqDiff, Nat.reduceLT, Nat.reduceAdd, Nat.reduceMul, Nat.reduceSub, Nat.add_zero, Nat.zero_add, Int.reduceEq, Int.reduceLT, h0] <;> refine hK _ ?_ <;> simp only [go_sem, Nat.reduceEqDiff, Nat.reduceLT, Nat.reduceAdd, Nat.reduceMul, Nat.reduceSub, Nat.add_zero, Nat.zero_add, Int.reduceEq, Int.reduceLT, numOk, ge_iff_le] at h0 ⊢ <;> simp only [h0, Bool.true_and, Bool.false_and]
  · exact AWP.ret (Fin.plain (.inr rfl) rfl rfl hok (Grew.refl _) ⟨rfl, rfl⟩)

theorem small46_spec (v : Value) (l : List Int) (M : Mem) (hok : Ok M) (hv : Row_ M v l.length (l.map (.int .i64))) (hl : l.length ≤ 1000000) : ∃ r M', ACall Try.prog 46 #[v] M r M' ∧ r = .bool (l.all numOk) ∧ M' = M := by
  refine ACall.fin (args := [v]) (k := 18) Try.func46 rfl rfl rfl (Nat.le_of_ble_eq_true rfl) ?_
  refine AWP.stepR [0] fun K hK => ?_ -- r0
  simp only [go_sem, Nat.reduceEqDiff, Nat.reduceLT, Nat.reduceAdd, Nat.reduceMul, Nat.reduceSub, Nat.add_zero, Nat.zero_add, Int.reduceEq, Int.reduceLT]
  refine hK _ _ _ (by simp only [go_sem, Nat.reduceEqDiff, Nat.reduceLT, Nat.reduceAdd, Nat.reduceMul, Nat.reduceSub, Nat.add_zero, Nat.zero_add, Int.reduceEq, Int.reduceLT]; rfl) ?_; clear hK
  refine AWP.seq ?_
  refine AWP.stepR [5, 6, 7] fun K hK => ?_ -- r1
  simp only [go_sem, Nat.reduceEqDiff, Nat.reduceLT, Nat.reduceAdd, Nat.reduceMul, Nat.reduceSub, Nat.add_zero, Nat.zero_add, Int.reduceEq, Int.reduceLT, hv.len (P := Try.prog) (t := 66) (sz := 1) (by kernel_rfl)]
  refine hK _ _ _ (by simp only [go_sem, Nat.reduceEqDiff, Nat.reduceLT, Nat.reduceAdd, Nat.reduceMul, Nat.reduceSub, Nat.add_zero, Nat.zero_add, Int.reduceEq, Int.reduceLT]; rfl) ?_; clear hK
  refine AWP.block ?_ -- b0
  refine AWP.loopK [5, 6, 7] (fun n e M0 => M0 = M ∧ n ≤ l.length ∧ e = [(5, v), (6, .int .i64 l.length), (7, .int .i64 ((l.length - n : Nat) : Int))] ∧ (l.take (l.length - n)).all numOk = true) l.length ?_ fun n e M0 hI => ?_ -- LOOP
  · simp only [go_sem, Nat.reduceEqDiff, Nat.reduceLT, Nat.reduceAdd, Nat.reduceMul, Nat.reduceSub, Nat.add_zero, Nat.zero_add, Int.reduceEq, Int.reduceLT, true_and, Nat.le_refl]
    exact ⟨by simp, by simp⟩
  obtain ⟨rfl, hn, rfl, hall⟩ := hI
  refine AWP.stepR [5, 6, 7, 8] fun K hK => ?_ -- r2
  simp only [go_sem, Nat.reduceEqDiff, Nat.reduceLT, Nat.reduceAdd, Nat.reduceMul, Nat.reduceSub, Nat.add_zero, Nat.zero_add, Int.reduceEq, Int.reduceLT]
  refine hK _ _ _ (by simp only [go_sem, Nat.reduceEqDiff, Nat.reduceLT, Nat.reduceAdd, Nat.reduceMul, Nat.reduceSub, Nat.add_zero, Nat.zero_add, Int.reduceEq, Int.reduceLT]; rfl) ?_; clear hK
  refine AWP.condS rfl (fun h => ?_) fun h => ?_ -- if (tmp 8)
  · refine AWP.skip ?_
    have hlt : l.length - n < l.length := by simpa using h
    obtain ⟨b, q, ha, hd⟩ := hv.at1 (by simp) (P := Try.prog) (t := 66) (by kernel_rfl) hlt
    have hd := hd M0 (Grew.refl _)
    rw [show (l.map (Value.int .i64))[l.length - n]? = some (.int .i64 l[l.length - n]) by simp [hlt]] at hd
    generalize hxx : l[l.length - n] = x at hd
    refine AWP.seq ?_
    refine AWP.block ?_ -- b1
    refine AWP.stepR [4, 5, 6, 7] fun K hK => ?_ -- r3
    simp only [go_sem, Nat.reduceEqDiff, Nat.reduceLT, Nat.reduceAdd, Nat.reduceMul, Nat.reduceSub, Nat.add_zero, Nat.zero_add, Int.reduceEq, Int.reduceLT, ha, ld_3, hd]
    refine hK _ _ _ (by simp only [go_sem, Nat.reduceEqDiff, Nat.reduceLT, Nat.reduceAdd, Nat.reduceMul, Nat.reduceSub, Nat.add_zero, Nat.zero_add, Int.reduceEq, Int.reduceLT]; rfl) ?_; clear hK
    refine AWP.stepX [5, 6, 7, 16] [(5, v), (6, .int .i64 l.length), (7, .int .i64 ((l.length - n : Nat) : Int)), (16, .bool (!numOk x))] M0 (fun K hK => ?_) ?_ -- r4
    · cases h0 : decide (x < 0) <;> simp only [go_sem, Nat.reduceEqDiff, Nat.reduceLT, Nat.reduceAdd, Nat.reduceMul, Nat.reduceSub, Nat.add_zero, Nat.zero_add, Int.reduceEq, Int.reduceLT, h0] <;> refine hK _ ?_ <;> simp only [go_sem, Nat.reduceEqDiff, Nat.reduceLT, Nat.reduceAdd, Nat.reduceMul, Nat.reduceSub, Nat.add_zero, Nat.zero_add, Int.reduceEq, Int.reduceLT]
      · rw [show decide (x > 1099511627776) = !numOk x by rw [Bool.eq_iff_iff]; simp [numOk] at h0 ⊢; omega]
      · rw [show true = !numOk x by rw [Bool.eq_iff_iff]; simp [numOk] at h0 ⊢; omega]
    refine AWP.cond_split rfl (fun h => ?_) fun h => ?_ -- if (tmp 16)
    · refine AWP.stepR [2] fun K hK => ?_ -- r5
      simp only [go_sem, Nat.reduceEqDiff, Nat.reduceLT, Nat.reduceAdd, Nat.reduceMul, Nat.reduceSub, Nat.add_zero, Nat.zero_add, Int.reduceEq, Int.reduceLT]
      refine hK _ _ _ (by simp only [go_sem, Nat.reduceEqDiff, Nat.reduceLT, Nat.reduceAdd, Nat.reduceMul, Nat.reduceSub, Nat.add_zero, Nat.zero_add, Int.reduceEq, Int.reduceLT]; rfl) ?_; clear hK
      refine AWP.ret (InBlock.ret (Then.ret (Then.ret (InBlock.ret (Then.ret (?_))))))
      refine Fin.plain (.inr rfl) rfl rfl hok (Grew.refl _) ⟨?_, rfl⟩
      rw [show l.all numOk = false from List.all_eq_false.2 ⟨x, hxx ▸ List.getElem_mem hlt, by simpa using h⟩]
    · refine AWP.skip ?_
      refine AWP.lastR fun K hK => ?_ -- r6
      simp only [go_sem, Nat.reduceEqDiff, Nat.reduceLT, Nat.reduceAdd, Nat.reduceMul, Nat.reduceSub, Nat.add_zero, Nat.zero_add, Int.reduceEq, Int.reduceLT]
      refine hK _ _ ?_; clear hK
      refine ⟨n - 1, by omega, rfl, by omega, ?_, ?_⟩ -- ROUND
      · simp only [go_sem, Nat.reduceEqDiff, Nat.reduceLT, Nat.reduceAdd, Nat.reduceMul, Nat.reduceSub, Nat.add_zero, Nat.zero_add, Int.reduceEq, Int.reduceLT]
        rw [i64w (by omega) (by omega), show ((l.length - n : Nat) : Int) + 1 = ((l.length - (n - 1) : Nat) : Int) by omega]
      · rw [show l.length - (n - 1) = l.length - n + 1 by omega, List.take_succ_eq_append_getElem hlt, List.all_append, hall, hxx]
        simpa using h
  · refine AWP.exit (Then.exit (Then.exit (InBlock.same ?_))) -- x0
    refine AWP.stepR [2] fun K hK => ?_ -- r7
    simp only [go_sem, Nat.reduceEqDiff, Nat.reduceLT, Nat.reduceAdd, Nat.reduceMul, Nat.reduceSub, Nat.add_zero, Nat.zero_add, Int.reduceEq, Int.reduceLT]
    refine hK _ _ _ (by simp only [go_sem, Nat.reduceEqDiff, Nat.reduceLT, Nat.reduceAdd, Nat.reduceMul, Nat.reduceSub, Nat.add_zero, Nat.zero_add, Int.reduceEq, Int.reduceLT]; rfl) ?_; clear hK
    refine AWP.ret (?_)
    refine Fin.plain (.inr rfl) rfl rfl hok (Grew.refl _) ⟨?_, rfl⟩
    have hn0 : n = 0 := by simp at h; omega
    rw [hn0, Nat.sub_zero, List.take_length] at hall
    rw [hall]

theorem same14_spec (v w : Value) (l m : List Int) (M : Mem) (hok : Ok M) (hv : RowB M v l) (hw : RowB M w m) (hl : l.length ≤ 4611686018427387904) : ∃ r M', ACall Try.prog 14 #[v, w] M r M' ∧ r = .bool (l == m) ∧ M' = M := by
  refine ACall.fin (args := [v, w]) (k := 26) Try.func14 rfl rfl rfl (Nat.le_of_ble_eq_true rfl) ?_
  refine AWP.stepR [0, 1] fun K hK => ?_ -- r0
  simp only [go_sem, Nat.reduceEqDiff, Nat.reduceLT, Nat.reduceAdd, Nat.reduceMul, Nat.reduceSub, Nat.add_zero, Nat.zero_add, Int.reduceEq, Int.reduceLT]
  refine hK _ _ _ (by simp only [go_sem, Nat.reduceEqDiff, Nat.reduceLT, Nat.reduceAdd, Nat.reduceMul, Nat.reduceSub, Nat.add_zero, Nat.zero_add, Int.reduceEq, Int.reduceLT]; rfl) ?_; clear hK
  refine AWP.seq ?_
  refine AWP.stepR [0, 1, 10] fun K hK => ?_ -- r1
  simp only [go_sem, Nat.reduceEqDiff, Nat.reduceLT, Nat.reduceAdd, Nat.reduceMul, Nat.reduceSub, Nat.add_zero, Nat.zero_add, Int.reduceEq, Int.reduceLT, hv.len (P := Try.prog) (t := 23) (sz := 1) (by kernel_rfl), hw.len (P := Try.prog) (t := 23) (sz := 1) (by kernel_rfl)]
  refine hK _ _ _ (by simp only [go_sem, Nat.reduceEqDiff, Nat.reduceLT, Nat.reduceAdd, Nat.reduceMul, Nat.reduceSub, Nat.add_zero, Nat.zero_add, Int.reduceEq, Int.reduceLT]; rfl) ?_; clear hK
  refine AWP.cond_split rfl (fun h => ?_) fun h => ?_ -- if (tmp 10)
  · refine AWP.stepR [4] fun K hK => ?_ -- r2
    simp only [go_sem, Nat.reduceEqDiff, Nat.reduceLT, Nat.reduceAdd, Nat.reduceMul, Nat.reduceSub, Nat.add_zero, Nat.zero_add, Int.reduceEq, Int.reduceLT]
    refine hK _ _ _ (by simp only [go_sem, Nat.reduceEqDiff, Nat.reduceLT, Nat.reduceAdd, Nat.reduceMul, Nat.reduceSub, Nat.add_zero, Nat.zero_add, Int.reduceEq, Int.reduceLT]; rfl) ?_; clear hK
    refine AWP.ret (Then.ret (?_))
    refine Fin.plain (.inr rfl) rfl rfl hok (Grew.refl _) ⟨?_, rfl⟩
    rw [beq_eq_false_iff_ne.2]
    rintro rfl
    simp at h
  · have hlen : l.length = m.length := by simp at h; omega
    refine AWP.skip ?_
    refine AWP.seq ?_
    refine AWP.stepR [0, 1, 5] fun K hK => ?_ -- r3
    simp only [go_sem, Nat.reduceEqDiff, Nat.reduceLT, Nat.reduceAdd, Nat.reduceMul, Nat.reduceSub, Nat.add_zero, Nat.zero_add, Int.reduceEq, Int.reduceLT]
    refine hK _ _ _ (by simp only [go_sem, Nat.reduceEqDiff, Nat.reduceLT, Nat.reduceAdd, Nat.reduceMul, Nat.reduceSub, Nat.add_zero, Nat.zero_add, Int.reduceEq, Int.reduceLT]; rfl) ?_; clear hK
    refine AWP.block ?_ -- b0
    refine AWP.loopK [0, 1, 5] (fun n e M0 => M0 = M ∧ n ≤ l.length ∧ e = [(0, v), (1, w), (5, .int .i64 ((l.length - n : Nat) : Int))] ∧ l.take (l.length - n) = m.take (l.length - n)) l.length ?_ fun n e M0 hI => ?_ -- LOOP
    · simp only [go_sem, Nat.reduceEqDiff, Nat.reduceLT, Nat.reduceAdd, Nat.reduceMul, Nat.reduceSub, Nat.add_zero, Nat.zero_add, Int.reduceEq, Int.reduceLT, true_and, Nat.le_refl]
      exact ⟨by simp, by simp⟩
    obtain ⟨rfl, hn, rfl, hall⟩ := hI
    refine AWP.seq ?_
    refine AWP.stepR [0, 1, 5, 14] fun K hK => ?_ -- r4
    simp only [go_sem, Nat.reduceEqDiff, Nat.reduceLT, Nat.reduceAdd, Nat.reduceMul, Nat.reduceSub, Nat.add_zero, Nat.zero_add, Int.reduceEq, Int.reduceLT, hv.len (P := Try.prog) (t := 23) (sz := 1) (by kernel_rfl)]
    refine hK _ _ _ (by simp only [go_sem, Nat.reduceEqDiff, Nat.reduceLT, Nat.reduceAdd, Nat.reduceMul, Nat.reduceSub, Nat.add_zero, Nat.zero_add, Int.reduceEq, Int.reduceLT]; rfl) ?_; clear hK
    refine AWP.cond_split rfl (fun h => ?_) fun h => ?_ -- if (tmp 14)
    · have hlt : l.length - n < l.length := by simpa using h
      have hlt' : l.length - n < m.length := by omega
      obtain ⟨b, q, ha, hd⟩ := hv.at1 (by simp [cB]) (P := Try.prog) (t := 23) (by kernel_rfl) hlt
      have hd := hd M0 (Grew.refl _)
      rw [show (cB l)[l.length - n]? = some (.int .u8 l[l.length - n]) by simp [cB, hlt]] at hd
      obtain ⟨b', q', ha', hd'⟩ := hw.at1 (by simp [cB]) (P := Try.prog) (t := 23) (by kernel_rfl) hlt'
      have hd' := hd' M0 (Grew.refl _)
      rw [show (cB m)[l.length - n]? = some (.int .u8 m[l.length - n]) by simp [cB, hlt']] at hd'
      generalize hxx : l[l.length - n] = x at hd
      generalize hyy : m[l.length - n] = y at hd'
      refine AWP.skip ?_
      refine AWP.seq ?_
      refine AWP.block ?_ -- b1
      refine AWP.stepD hmo [0, 1, 2, 3, 4, 5, 6, 7, 8] [0, 0, 3, 7, 0, 0, 48, 112, 255] [] [] (by kernel_rfl) [0, 1, 5, 25] fun K hK => ?_ -- r6
      simp only [go_sem, Nat.reduceEqDiff, Nat.reduceLT, Nat.reduceAdd, Nat.reduceMul, Nat.reduceSub, Nat.add_zero, Nat.zero_add, Int.reduceEq, Int.reduceLT, ha, hd, ha', hd', ld_5]
      refine hK _ _ _ (by simp only [go_sem, Nat.reduceEqDiff, Nat.reduceLT, Nat.reduceAdd, Nat.reduceMul, Nat.reduceSub, Nat.add_zero, Nat.zero_add, Int.reduceEq, Int.reduceLT]; rfl) ?_; clear hK
      refine AWP.cond_split rfl (fun h25 => ?_) fun h25 => ?_
      · refine AWP.stepR [4] fun K hK => ?_ -- r7
        simp only [go_sem, Nat.reduceEqDiff, Nat.reduceLT, Nat.reduceAdd, Nat.reduceMul, Nat.reduceSub, Nat.add_zero, Nat.zero_add, Int.reduceEq, Int.reduceLT]
        refine hK _ _ _ (by simp only [go_sem, Nat.reduceEqDiff, Nat.reduceLT, Nat.reduceAdd, Nat.reduceMul, Nat.reduceSub, Nat.add_zero, Nat.zero_add, Int.reduceEq, Int.reduceLT]; rfl) ?_; clear hK
        refine AWP.ret (InBlock.ret (Then.ret (Then.ret (InBlock.ret (Then.ret ?_)))))
        refine Fin.plain (.inr rfl) rfl rfl hok (Grew.refl _) ⟨?_, rfl⟩
        rw [beq_eq_false_iff_ne.2]
        rintro rfl
        simp [← hxx, ← hyy] at h25
      · refine AWP.skip ?_
        refine AWP.lastR fun K hK => ?_ -- r5
        simp only [go_sem, Nat.reduceEqDiff, Nat.reduceLT, Nat.reduceAdd, Nat.reduceMul, Nat.reduceSub, Nat.add_zero, Nat.zero_add, Int.reduceEq, Int.reduceLT]
        refine hK _ _ ?_; clear hK
        refine ⟨n - 1, by omega, rfl, by omega, ?_, ?_⟩ -- ROUND
        · simp only [go_sem, Nat.reduceEqDiff, Nat.reduceLT, Nat.reduceAdd, Nat.reduceMul, Nat.reduceSub, Nat.add_zero, Nat.zero_add, Int.reduceEq, Int.reduceLT]
          rw [i64w (by omega) (by omega), show ((l.length - n : Nat) : Int) + 1 = ((l.length - (n - 1) : Nat) : Int) by omega]
        · rw [show l.length - (n - 1) = l.length - n + 1 by omega, List.take_succ_eq_append_getElem hlt, List.take_succ_eq_append_getElem hlt', hall, hxx, hyy]
          simp at h25
          rw [h25]
    · refine AWP.exit (Then.exit (Then.exit (InBlock.same ?_))) -- x0
      refine AWP.stepR [4] fun K hK => ?_ -- r8
      simp only [go_sem, Nat.reduceEqDiff, Nat.reduceLT, Nat.reduceAdd, Nat.reduceMul, Nat.reduceSub, Nat.add_zero, Nat.zero_add, Int.reduceEq, Int.reduceLT]
      refine hK _ _ _ (by simp only [go_sem, Nat.reduceEqDiff, Nat.reduceLT, Nat.reduceAdd, Nat.reduceMul, Nat.reduceSub, Nat.add_zero, Nat.zero_add, Int.reduceEq, Int.reduceLT]; rfl) ?_; clear hK
      refine AWP.ret (?_)
      refine Fin.plain (.inr rfl) rfl rfl hok (Grew.refl _) ⟨?_, rfl⟩
      have hn0 : n = 0 := by simp at h; omega
      rw [hn0, Nat.sub_zero, List.take_length, hlen, List.take_length] at hall
      rw [hall, beq_self_eq_true]
end Go.Proofs.Ythheaehpnleiaaa.AX

/- Numbers as bytes; bytes with their length ahead. -/
namespace Go.Proofs.Ythheaehpnleiaaa.AX
open Go Go.Proofs
set_option maxRecDepth 100000
set_option linter.unusedVariables false
set_option linter.unusedSimpArgs false

/-- a number in so many bytes, the highest first -/
def putB (n : Int) : Nat → List Int
  | 0 => []
  | s + 1 => putB (n / 256) s ++ [n % 256]
theorem putB_length (n : Int) (s : Nat) : (putB n s).length = s := by
  induction s generalizing n with
  | zero => rfl
  | succ s ih => simp [putB, ih]

theorem put43_spec (s : Nat) : ∀ (n : Int) (M : Mem) (hok : Ok M) (hn : 0 ≤ n ∧ n ≤ 18446744073709551615) (hs : s ≤ 1000), ∃ r M', ACall Try.prog 43 #[.int .u64 n, .int .i64 s] M r M' ∧ Grew M M' ∧ OwnB M M' r (putB n s) 5 := by
  induction s with
  | zero =>
    intro n M hok hn hs
    refine ACall.fin (args := [.int .u64 n, .int .i64 ((0 : Nat) : Int)]) (k := 17) Try.func43 rfl rfl rfl (Nat.le_of_ble_eq_true rfl) ?_
    refine AWP.stepR [0, 1] fun K hK => ?_ -- r0
    simp only [go_sem, Nat.reduceEqDiff, Nat.reduceLT, Nat.reduceAdd, Nat.reduceMul, Nat.reduceSub, Nat.add_zero, Nat.zero_add, Int.reduceEq, Int.reduceLT]
    refine hK _ _ _ (by simp only [go_sem, Nat.reduceEqDiff, Nat.reduceLT, Nat.reduceAdd, Nat.reduceMul, Nat.reduceSub, Nat.add_zero, Nat.zero_add, Int.reduceEq, Int.reduceLT]; rfl) ?_; clear hK
    refine AWP.seq ?_
    refine AWP.stepR [0, 1, 6] fun K hK => ?_ -- r1
    simp only [go_sem, Nat.reduceEqDiff, Nat.reduceLT, Nat.reduceAdd, Nat.reduceMul, Nat.reduceSub, Nat.add_zero, Nat.zero_add, Int.reduceEq, Int.reduceLT]
    refine hK _ _ _ (by simp only [go_sem, Nat.reduceEqDiff, Nat.reduceLT, Nat.reduceAdd, Nat.reduceMul, Nat.reduceSub, Nat.add_zero, Nat.zero_add, Int.reduceEq, Int.reduceLT]; rfl) ?_; clear hK
    refine AWP.cond_split rfl (fun h6 => ?_) fun h6 => ?_
    · refine AWP.stepR [4] fun K hK => ?_ -- r2
      simp only [go_sem, Nat.reduceEqDiff, Nat.reduceLT, Nat.reduceAdd, Nat.reduceMul, Nat.reduceSub, Nat.add_zero, Nat.zero_add, Int.reduceEq, Int.reduceLT]
      refine hK _ _ _ (by simp only [go_sem, Nat.reduceEqDiff, Nat.reduceLT, Nat.reduceAdd, Nat.reduceMul, Nat.reduceSub, Nat.add_zero, Nat.zero_add, Int.reduceEq, Int.reduceLT]; rfl) ?_; clear hK
      refine AWP.ret (Then.ret (?_))
      exact Fin.plain (.inr rfl) rfl rfl hok (Grew.refl _) ⟨Grew.refl _, Own.nil _ _ _⟩
    · simp at h6
  | succ s ih =>
    intro n M hok hn hs
    refine ACall.fin (args := [.int .u64 n, .int .i64 ((s + 1 : Nat) : Int)]) (k := 17) Try.func43 rfl rfl rfl (Nat.le_of_ble_eq_true rfl) ?_
    refine AWP.stepR [0, 1] fun K hK => ?_ -- r0
    simp only [go_sem, Nat.reduceEqDiff, Nat.reduceLT, Nat.reduceAdd, Nat.reduceMul, Nat.reduceSub, Nat.add_zero, Nat.zero_add, Int.reduceEq, Int.reduceLT]
    refine hK _ _ _ (by simp only [go_sem, Nat.reduceEqDiff, Nat.reduceLT, Nat.reduceAdd, Nat.reduceMul, Nat.reduceSub, Nat.add_zero, Nat.zero_add, Int.reduceEq, Int.reduceLT]; rfl) ?_; clear hK
    refine AWP.seq ?_
    refine AWP.stepR [0, 1, 6] fun K hK => ?_ -- r1
    simp only [go_sem, Nat.reduceEqDiff, Nat.reduceLT, Nat.reduceAdd, Nat.reduceMul, Nat.reduceSub, Nat.add_zero, Nat.zero_add, Int.reduceEq, Int.reduceLT]
    refine hK _ _ _ (by simp only [go_sem, Nat.reduceEqDiff, Nat.reduceLT, Nat.reduceAdd, Nat.reduceMul, Nat.reduceSub, Nat.add_zero, Nat.zero_add, Int.reduceEq, Int.reduceLT]; rfl) ?_; clear hK
    refine AWP.cond_split rfl (fun h6 => ?_) fun h6 => ?_
    · simp at h6; omega
    · refine AWP.skip ?_
      refine AWP.stepR [4] fun K hK => ?_ -- r3
      have hq : 0 ≤ n / 256 ∧ n / 256 ≤ 18446744073709551615 := by omega
      obtain ⟨r1, M1, hc, hg, hown⟩ := ih (n / 256) (M.bump 1) (((Grew.refl M).bump 1).ok hok) hq (by omega)
      simp only [go_sem, Nat.reduceEqDiff, Nat.reduceLT, Nat.reduceAdd, Nat.reduceMul, Nat.reduceSub, Nat.add_zero, Nat.zero_add, Int.reduceEq, Int.reduceLT]
      rw [IntWalk.u64_quo n 256 ⟨hn.1, hn.2, by omega⟩, i64w (by omega) (by omega), show ((s + 1 : Nat) : Int) - 1 = s by omega]
      refine ⟨r1, M1, hc, ?_⟩
      have hw : IntKind.u8.wrap (n.tmod 256) = n % 256 := by rw [Int.tmod_eq_emod_of_nonneg hn.1]; exact IntWalk.u8_in _ (by omega)
      rw [hw]
      have hlt : M.next < M1.next := by have := hg.next; simp only [Mem.next_bump] at this; omega
      have hg1 : Grew M (M1.put M.next ⟨[.int .u8 (n % 256)], 5, true⟩) := (((Grew.refl M).bump 1).trans hg).put (Nat.le_refl _) hlt _
      have hx := (Has.put hlt ⟨[.int .u8 (n % 256)], 5, true⟩).content 1 1 1 rfl
      have ho1 : OwnB M (M1.put M.next ⟨[.int .u8 (n % 256)], 5, true⟩) r1 (putB (n / 256) s) 5 := (hown.put (by rw [Mem.next_bump]; omega) _).base (by rw [Mem.next_bump]; omega)
      obtain ⟨v2, M2, happ, hown2, hg2, hnx, hfr⟩ := Own.append ap_23_23 hg1 ho1 (by simp [cB]) hx rfl (by rw [putB_length]; omega)
      simp only [happ, go_sem, Nat.reduceEqDiff, Nat.reduceLT, Nat.reduceAdd, Nat.reduceMul, Nat.reduceSub, Nat.add_zero, Nat.zero_add, Int.reduceEq, Int.reduceLT]
      refine hK _ _ _ (by simp only [go_sem, Nat.reduceEqDiff, Nat.reduceLT, Nat.reduceAdd, Nat.reduceMul, Nat.reduceSub, Nat.add_zero, Nat.zero_add, Int.reduceEq, Int.reduceLT]; rfl) ?_; clear hK
      refine AWP.ret (?_)
      have he : cB (putB (n / 256) s) ++ [.int .u8 (n % 256)] = cB (putB n (s + 1)) := by simp [cB, putB]
      rw [he, show (putB (n / 256) s).length + 1 = (putB n (s + 1)).length by simp [putB]] at hown2
      refine Fin.own (fun v => v) (.inr rfl) rfl hok hg2 hown2 (cB_plain _) (fun _ _ _ _ h => h) fun r M' hg' hr' ho' => ⟨hg', ho' (by rw [putB_length]; omega)⟩

theorem shr_at (n : Int) (j : Nat) (hn : 0 ≤ n) (hj : j ≤ 7) : IntKind.u8.wrap (n.fdiv (2 ^ (min (((8 : Int) * (j : Int)).toNat) 64))) = n / 256 ^ j % 256 := by
  have h1 : ((8 : Int) * (j : Int)).toNat = 8 * j := by omega
  have h2 : min (8 * j) 64 = 8 * j := Nat.min_eq_left (by omega)
  rw [h1, h2, Int.fdiv_eq_ediv_of_nonneg _ (Int.pow_nonneg (by decide)), show (2 : Int) ^ (8 * j) = 256 ^ j by rw [Int.pow_mul]; rfl]
  rw [IntKind.wrap_u8]
theorem put39_spec (s : Nat) (n : Int) (M : Mem) (hok : Ok M) (hn : 0 ≤ n ∧ n ≤ 18446744073709551615) (hs : s ≤ 8) (h0 : s ≠ 0) : ∃ r M', ACall Try.prog 39 #[.int .u64 n, .int .i64 s] M r M' ∧ Grew M M' ∧ OwnB M M' r (putB n s) 5 := by
  refine ACall.fin (args := [.int .u64 n, .int .i64 s]) (k := 27) Try.func39 rfl rfl rfl (Nat.le_of_ble_eq_true rfl) ?_
  refine AWP.stepR [0, 1] fun K hK => ?_ -- r0
  simp only [go_sem, Nat.reduceEqDiff, Nat.reduceLT, Nat.reduceAdd, Nat.reduceMul, Nat.reduceSub, Nat.add_zero, Nat.zero_add, Int.reduceEq, Int.reduceLT]
  refine hK _ _ _ (by simp only [go_sem, Nat.reduceEqDiff, Nat.reduceLT, Nat.reduceAdd, Nat.reduceMul, Nat.reduceSub, Nat.add_zero, Nat.zero_add, Int.reduceEq, Int.reduceLT]; rfl) ?_; clear hK
  refine AWP.stepR [0, 1, 5] fun K hK => ?_ -- r1
  simp only [go_sem, Nat.reduceEqDiff, Nat.reduceLT, Nat.reduceAdd, Nat.reduceMul, Nat.reduceSub, Nat.add_zero, Nat.zero_add, Int.reduceEq, Int.reduceLT]
  refine hK _ _ _ (by simp only [go_sem, Nat.reduceEqDiff, Nat.reduceLT, Nat.reduceAdd, Nat.reduceMul, Nat.reduceSub, Nat.add_zero, Nat.zero_add, Int.reduceEq, Int.reduceLT]; rfl) ?_; clear hK
  refine AWP.seq ?_
  refine AWP.stepR [0, 5, 6] fun K hK => ?_ -- r2
  simp only [go_sem, Nat.reduceEqDiff, Nat.reduceLT, Nat.reduceAdd, Nat.reduceMul, Nat.reduceSub, Nat.add_zero, Nat.zero_add, Int.reduceEq, Int.reduceLT]
  rw [i64w (by omega) (by omega)]
  refine hK _ _ _ (by simp only [go_sem, Nat.reduceEqDiff, Nat.reduceLT, Nat.reduceAdd, Nat.reduceMul, Nat.reduceSub, Nat.add_zero, Nat.zero_add, Int.reduceEq, Int.reduceLT]; rfl) ?_; clear hK
  refine AWP.block ?_ -- b0
  refine AWP.loopK [0, 5, 6] (fun j e M0 => j ≤ s ∧ Grew M M0 ∧ ∃ bv, e = [(0, .int .u64 n), (5, bv), (6, .int .i64 ((j : Int) - 1))] ∧ OwnB M M0 bv (putB (n / 256 ^ j) (s - j)) 5) s ?_ fun j e M0 hI => ?_ -- LOOP
  · simp only [go_sem, Nat.reduceEqDiff, Nat.reduceLT, Nat.reduceAdd, Nat.reduceMul, Nat.reduceSub, Nat.add_zero, Nat.zero_add, Int.reduceEq, Int.reduceLT]
    exact ⟨Nat.le_refl _, Grew.refl _, _, rfl, by rw [Nat.sub_self]; exact Own.nil _ _ _⟩
  obtain ⟨hj, hg, bv, rfl, hown⟩ := hI
  refine AWP.seq ?_
  refine AWP.stepR [0, 5, 6, 10] fun K hK => ?_ -- r3
  simp only [go_sem, Nat.reduceEqDiff, Nat.reduceLT, Nat.reduceAdd, Nat.reduceMul, Nat.reduceSub, Nat.add_zero, Nat.zero_add, Int.reduceEq, Int.reduceLT]
  refine hK _ _ _ (by simp only [go_sem, Nat.reduceEqDiff, Nat.reduceLT, Nat.reduceAdd, Nat.reduceMul, Nat.reduceSub, Nat.add_zero, Nat.zero_add, Int.reduceEq, Int.reduceLT]; rfl) ?_; clear hK
  refine AWP.cond_split rfl (fun h10 => ?_) fun h10 => ?_
  · obtain ⟨i, rfl⟩ : ∃ i, j = i + 1 := ⟨j - 1, by simp at h10; omega⟩
    rw [show ((i + 1 : Nat) : Int) - 1 = i by omega] at *
    refine AWP.skip ?_
    refine AWP.seq ?_
    refine AWP.block ?_ -- b1
    refine AWP.seq ?_
    refine AWP.stepR [0, 5, 6, 14] fun K hK => ?_ -- r5
    simp only [go_sem, Nat.reduceEqDiff, Nat.reduceLT, Nat.reduceAdd, Nat.reduceMul, Nat.reduceSub, Nat.add_zero, Nat.zero_add, Int.reduceEq, Int.reduceLT]
    refine hK _ _ _ (by simp only [go_sem, Nat.reduceEqDiff, Nat.reduceLT, Nat.reduceAdd, Nat.reduceMul, Nat.reduceSub, Nat.add_zero, Nat.zero_add, Int.reduceEq, Int.reduceLT]; rfl) ?_; clear hK
    refine AWP.cond_split rfl (fun h14 => ?_) fun h14 => ?_
    · simp at h14; omega
    · refine AWP.skip ?_
      refine AWP.lastR fun K hK => ?_ -- r7
      have hw8 : IntKind.i64.wrap (8 * (i : Int)) = 8 * (i : Int) := i64w (by omega) (by omega)
      have h8 : ((8 * (i : Int)) < 0) = False := by simp; omega
      simp only [go_sem, Nat.reduceEqDiff, Nat.reduceLT, Nat.reduceAdd, Nat.reduceMul, Nat.reduceSub, Nat.add_zero, Nat.zero_add, Int.reduceEq, Int.reduceLT, hw8, h8, shr_at n i hn.1 (by omega)]
      have hlt : M0.next < (M0.bump 1).next := Nat.lt_succ_self _
      have hg1 : Grew M ((M0.bump 1).put M0.next ⟨[.int .u8 (n / 256 ^ i % 256)], 5, true⟩) := (hg.bump 1).put hg.next hlt _
      have ho1 : OwnB M ((M0.bump 1).put M0.next ⟨[.int .u8 (n / 256 ^ i % 256)], 5, true⟩) bv (putB (n / 256 ^ (i + 1)) (s - (i + 1))) 5 := hown.grew (((Grew.refl M0).bump 1).put (Nat.le_refl _) hlt _)
      obtain ⟨v2, M2, happ, hown2, hg2, hnx, hfr⟩ := Own.append ap_23_23 hg1 ho1 (by simp [cB]) ((Has.put hlt ⟨[.int .u8 (n / 256 ^ i % 256)], 5, true⟩).content 1 1 1 rfl) rfl (by rw [putB_length]; omega)
      simp only [happ, go_sem, Nat.reduceEqDiff, Nat.reduceLT, Nat.reduceAdd, Nat.reduceMul, Nat.reduceSub, Nat.add_zero, Nat.zero_add, Int.reduceEq, Int.reduceLT]
      refine hK _ _ ?_; clear hK
      have he : cB (putB (n / 256 ^ (i + 1)) (s - (i + 1))) ++ [.int .u8 (n / 256 ^ i % 256)] = cB (putB (n / 256 ^ i) (s - i)) := by
        rw [show s - i = s - (i + 1) + 1 by omega, putB, Int.pow_succ, ← Int.ediv_ediv_of_nonneg (Int.pow_nonneg (by decide)), cB_append]; rfl
      rw [he, show (putB (n / 256 ^ (i + 1)) (s - (i + 1))).length + 1 = (putB (n / 256 ^ i) (s - i)).length by rw [putB_length, putB_length]; omega] at hown2
      refine AWP.lastR fun K hK => ?_ -- r4
      simp only [go_sem, Nat.reduceEqDiff, Nat.reduceLT, Nat.reduceAdd, Nat.reduceMul, Nat.reduceSub, Nat.add_zero, Nat.zero_add, Int.reduceEq, Int.reduceLT]
      rw [i64w (by omega) (by omega)]
      refine hK _ _ ?_; clear hK
      exact ⟨i, Nat.lt_succ_self _, by omega, hg2, v2, by simp only [go_sem, Nat.reduceEqDiff, Nat.reduceLT, Nat.reduceAdd, Nat.reduceMul, Nat.reduceSub, Nat.add_zero, Nat.zero_add, Int.reduceEq, Int.reduceLT], hown2⟩
  · refine AWP.exit (Then.exit (Then.exit (InBlock.same ?_))) -- x0
    refine AWP.stepR [4] fun K hK => ?_ -- r8
    simp only [go_sem, Nat.reduceEqDiff, Nat.reduceLT, Nat.reduceAdd, Nat.reduceMul, Nat.reduceSub, Nat.add_zero, Nat.zero_add, Int.reduceEq, Int.reduceLT]
    refine hK _ _ _ (by simp only [go_sem, Nat.reduceEqDiff, Nat.reduceLT, Nat.reduceAdd, Nat.reduceMul, Nat.reduceSub, Nat.add_zero, Nat.zero_add, Int.reduceEq, Int.reduceLT]; rfl) ?_; clear hK
    refine AWP.ret (?_)
    have hj0 : j = 0 := by simp at h10; omega
    subst hj0
    rw [Int.pow_zero, Int.ediv_one, Nat.sub_zero] at hown
    exact Fin.own (fun v => v) (.inr rfl) rfl hok hg hown (cB_plain _) (fun _ _ _ _ h => h) fun r M' hg' hr' ho' => ⟨hg', ho' (by rw [putB_length]; exact h0)⟩
end Go.Proofs.Ythheaehpnleiaaa.AX

/- Rows of bytes, one behind the other; a byte of yes and no. -/
namespace Go.Proofs.Ythheaehpnleiaaa.AX
open Go Go.Proofs
set_option maxRecDepth 100000
set_option linter.unusedVariables false
set_option linter.unusedSimpArgs false

def Parts (M : Mem) (vs : List Value) (ls : List (List Int)) : Prop := vs.length = ls.length ∧ ∀ (i : Nat) (v : Value) (l : List Int), vs[i]? = some v → ls[i]? = some l → RowB M v l
theorem Parts.grew {M M1 : Mem} {vs : List Value} {ls : List (List Int)} (h : Parts M vs ls) (hg : Grew M M1) : Parts M1 vs ls := ⟨h.1, fun i v l h1 h2 => (h.2 i v l h1 h2).grew hg⟩
theorem Parts.nil (M : Mem) : Parts M [] [] := ⟨rfl, fun i v l h => by simp at h⟩
theorem Parts.cons {M : Mem} {v : Value} {l : List Int} {vs : List Value} {ls : List (List Int)} (h : RowB M v l) (h' : Parts M vs ls) : Parts M (v :: vs) (l :: ls) := by
  refine ⟨by simp [h'.1], fun i v' l' h1 h2 => ?_⟩
  cases i with
  | zero => simp at h1 h2; subst h1 h2; exact h
  | succ i => simp at h1 h2; exact h'.2 i v' l' h1 h2
theorem take_flat (ls : List (List Int)) {i : Nat} (h : i < ls.length) : (ls.take (i + 1)).flatten = (ls.take i).flatten ++ ls[i] := by
  rw [List.take_succ_eq_append_getElem h, List.flatten_append]; simp
theorem flat_le (ls : List (List Int)) (i : Nat) : (ls.take i).flatten.length ≤ ls.flatten.length := by
  have := congrArg (fun l => l.flatten.length) (List.take_append_drop i ls)
  simp only [List.flatten_append, List.length_append] at this
  omega

theorem join37_spec (v : Value) (vs : List Value) (ls : List (List Int)) (M : Mem) (hok : Ok M) (hv : Row_ M v vs.length vs) (hp : Parts M vs ls) (hl : ls.flatten.length ≤ 1099511627776) (hn : vs.length ≤ 1099511627776) (hne : ls.flatten ≠ []) :
    ∃ r M', ACall Try.prog 37 #[v] M r M' ∧ Grew M M' ∧ OwnB M M' r ls.flatten 5 := by
  refine ACall.fin (args := [v]) (k := 33) Try.func37 rfl rfl rfl (Nat.le_of_ble_eq_true rfl) ?_
  refine AWP.stepR [0] fun K hK => ?_ -- r0
  simp only [go_sem, Nat.reduceEqDiff, Nat.reduceLT, Nat.reduceAdd, Nat.reduceMul, Nat.reduceSub, Nat.add_zero, Nat.zero_add, Int.reduceEq, Int.reduceLT]
  refine hK _ _ _ (by simp only [go_sem, Nat.reduceEqDiff, Nat.reduceLT, Nat.reduceAdd, Nat.reduceMul, Nat.reduceSub, Nat.add_zero, Nat.zero_add, Int.reduceEq, Int.reduceLT]; rfl) ?_; clear hK
  refine AWP.stepR [0, 3] fun K hK => ?_ -- r1
  simp only [go_sem, Nat.reduceEqDiff, Nat.reduceLT, Nat.reduceAdd, Nat.reduceMul, Nat.reduceSub, Nat.add_zero, Nat.zero_add, Int.reduceEq, Int.reduceLT]
  refine hK _ _ _ (by simp only [go_sem, Nat.reduceEqDiff, Nat.reduceLT, Nat.reduceAdd, Nat.reduceMul, Nat.reduceSub, Nat.add_zero, Nat.zero_add, Int.reduceEq, Int.reduceLT]; rfl) ?_; clear hK
  refine AWP.seq ?_
  refine AWP.stepR [0, 3, 9, 10, 11] fun K hK => ?_ -- r2
  simp only [go_sem, Nat.reduceEqDiff, Nat.reduceLT, Nat.reduceAdd, Nat.reduceMul, Nat.reduceSub, Nat.add_zero, Nat.zero_add, Int.reduceEq, Int.reduceLT, hv.len es_121]
  refine hK _ _ _ (by simp only [go_sem, Nat.reduceEqDiff, Nat.reduceLT, Nat.reduceAdd, Nat.reduceMul, Nat.reduceSub, Nat.add_zero, Nat.zero_add, Int.reduceEq, Int.reduceLT]; rfl) ?_; clear hK
  refine AWP.block ?_ -- b0
  refine AWP.loopK [0, 3, 9, 10, 11] (fun n e M0 => M0 = M ∧ n ≤ vs.length ∧ e = [(0, v), (3, .int .i64 ((ls.take (vs.length - n)).flatten.length : Nat)), (9, v), (10, .int .i64 vs.length), (11, .int .i64 ((vs.length - n : Nat) : Int))]) vs.length ?_ fun n e M0 hI => ?_ -- LOOP
  · simp only [go_sem, Nat.reduceEqDiff, Nat.reduceLT, Nat.reduceAdd, Nat.reduceMul, Nat.reduceSub, Nat.add_zero, Nat.zero_add, Int.reduceEq, Int.reduceLT, Nat.le_refl]
    simp
  obtain ⟨rfl, hn', rfl⟩ := hI
  refine AWP.stepR [0, 3, 9, 10, 11, 12] fun K hK => ?_ -- r3
  simp only [go_sem, Nat.reduceEqDiff, Nat.reduceLT, Nat.reduceAdd, Nat.reduceMul, Nat.reduceSub, Nat.add_zero, Nat.zero_add, Int.reduceEq, Int.reduceLT]
  refine hK _ _ _ (by simp only [go_sem, Nat.reduceEqDiff, Nat.reduceLT, Nat.reduceAdd, Nat.reduceMul, Nat.reduceSub, Nat.add_zero, Nat.zero_add, Int.reduceEq, Int.reduceLT]; rfl) ?_; clear hK
  refine AWP.condS rfl (fun h12 => ?_) fun h12 => ?_
  · have hlt : vs.length - n < vs.length := by simpa using h12
    have hlt' : vs.length - n < ls.length := by rw [← hp.1]; exact hlt
    obtain ⟨b, q, ha, hd⟩ := hv.at1 rfl es_121 hlt
    have hd := hd M0 (Grew.refl _)
    rw [List.getElem?_eq_getElem hlt] at hd
    have hx := hp.2 _ _ _ (List.getElem?_eq_getElem hlt) (List.getElem?_eq_getElem hlt')
    generalize vs[vs.length - n] = x at hd hx
    refine AWP.skip ?_
    refine AWP.seq ?_
    refine AWP.block ?_ -- b1
    refine AWP.stepR [0, 3, 5, 9, 10, 11] fun K hK => ?_ -- r4
    simp only [go_sem, Nat.reduceEqDiff, Nat.reduceLT, Nat.reduceAdd, Nat.reduceMul, Nat.reduceSub, Nat.add_zero, Nat.zero_add, Int.reduceEq, Int.reduceLT, ha, ld_23, hd]
    refine hK _ _ _ (by simp only [go_sem, Nat.reduceEqDiff, Nat.reduceLT, Nat.reduceAdd, Nat.reduceMul, Nat.reduceSub, Nat.add_zero, Nat.zero_add, Int.reduceEq, Int.reduceLT]; rfl) ?_; clear hK
    refine AWP.lastR fun K hK => ?_ -- r5
    simp only [go_sem, Nat.reduceEqDiff, Nat.reduceLT, Nat.reduceAdd, Nat.reduceMul, Nat.reduceSub, Nat.add_zero, Nat.zero_add, Int.reduceEq, Int.reduceLT, hx.len es_23]
    refine hK _ _ ?_; clear hK
    refine AWP.lastR fun K hK => ?_ -- r6
    simp only [go_sem, Nat.reduceEqDiff, Nat.reduceLT, Nat.reduceAdd, Nat.reduceMul, Nat.reduceSub, Nat.add_zero, Nat.zero_add, Int.reduceEq, Int.reduceLT]
    refine hK _ _ ?_; clear hK
    have hfl := take_flat ls hlt'
    have hfe : (ls.take (vs.length - n)).flatten.length + ls[vs.length - n].length = (ls.take (vs.length - n + 1)).flatten.length := by rw [hfl, List.length_append]
    have hfle := flat_le ls (vs.length - n + 1)
    refine ⟨n - 1, by omega, rfl, by omega, ?_⟩ -- ROUND
    simp only [go_sem, Nat.reduceEqDiff, Nat.reduceLT, Nat.reduceAdd, Nat.reduceMul, Nat.reduceSub, Nat.add_zero, Nat.zero_add, Int.reduceEq, Int.reduceLT]
    rw [i64w (by omega) (by omega), i64w (by omega) (by omega), show ((vs.length - n : Nat) : Int) + 1 = ((vs.length - (n - 1) : Nat) : Int) by omega,
      show (((ls.take (vs.length - n)).flatten.length : Nat) : Int) + ((ls[vs.length - n].length : Nat) : Int) = (((ls.take (vs.length - (n - 1))).flatten.length : Nat) : Int) by rw [show vs.length - (n - 1) = vs.length - n + 1 by omega]; omega]
  · refine AWP.exit (Then.exit (Then.exit (InBlock.same ?_))) -- x0
    have hn0 : n = 0 := by simp at h12; omega
    subst hn0
    rw [Nat.sub_zero, hp.1, List.take_length]
    have hms : (0 ≤ (0 : Int) ∧ (0 : Int) ≤ (ls.flatten.length : Int) ∧ (ls.flatten.length : Int) ≤ 281474976710656 ∧ ((1 : Nat) : Int) * (ls.flatten.length : Int) ≤ 281474976710656) = True := eq_true ⟨by omega, by omega, by omega, by omega⟩
    refine AWP.stepR [0, 6] fun K hK => ?_ -- r7
    simp only [go_sem, Nat.reduceEqDiff, Nat.reduceLT, Nat.reduceAdd, Nat.reduceMul, Nat.reduceSub, Nat.add_zero, Nat.zero_add, Int.reduceEq, Int.reduceLT, hms, Int.toNat_natCast, Int.toNat_zero]
    refine hK _ _ _ (by simp only [go_sem, Nat.reduceEqDiff, Nat.reduceLT, Nat.reduceAdd, Nat.reduceMul, Nat.reduceSub, Nat.add_zero, Nat.zero_add, Int.reduceEq, Int.reduceLT]; rfl) ?_; clear hK
    have hlt0 : M0.next < (M0.bump 1).next := Nat.lt_succ_self _
    generalize hM1 : (M0.bump 1).put M0.next ⟨zrow Try.prog 5 ls.flatten.length, 5, true⟩ = M1
    have hg1 : Grew M0 M1 := by rw [← hM1]; exact ((Grew.refl M0).bump 1).put (Nat.le_refl _) hlt0 _
    have ho1 : Own M0 M1 (.slice (some ⟨M0.next, 0, none⟩) 0 ls.flatten.length) 0 [] 5 := .inr ⟨M0.next, _, _, Nat.le_refl _, by rw [← hM1]; exact hlt0, rfl, by rw [← hM1, Mem.get_put, if_pos rfl], rfl, rfl, .inl ⟨rfl, rfl⟩⟩
    generalize Value.slice (some ⟨M0.next, 0, none⟩) 0 ls.flatten.length = b0 at ho1
    refine AWP.seq ?_
    refine AWP.stepR [6, 22, 23, 24] fun K hK => ?_ -- r8
    simp only [go_sem, Nat.reduceEqDiff, Nat.reduceLT, Nat.reduceAdd, Nat.reduceMul, Nat.reduceSub, Nat.add_zero, Nat.zero_add, Int.reduceEq, Int.reduceLT, hv.len es_121]
    refine hK _ _ _ (by simp only [go_sem, Nat.reduceEqDiff, Nat.reduceLT, Nat.reduceAdd, Nat.reduceMul, Nat.reduceSub, Nat.add_zero, Nat.zero_add, Int.reduceEq, Int.reduceLT]; rfl) ?_; clear hK
    refine AWP.block ?_ -- b2
    refine AWP.loopK [6, 22, 23, 24] (fun n e M2 => n ≤ vs.length ∧ Grew M0 M2 ∧ ∃ bv, e = [(6, bv), (22, v), (23, .int .i64 vs.length), (24, .int .i64 ((vs.length - n : Nat) : Int))] ∧ OwnB M0 M2 bv (ls.take (vs.length - n)).flatten 5) vs.length ?_ fun n e M2 hI => ?_ -- LOOP
    · simp only [go_sem, Nat.reduceEqDiff, Nat.reduceLT, Nat.reduceAdd, Nat.reduceMul, Nat.reduceSub, Nat.add_zero, Nat.zero_add, Int.reduceEq, Int.reduceLT, Nat.le_refl]
      exact ⟨hg1, b0, by simp, by rw [Nat.sub_self]; exact ho1⟩
    obtain ⟨hn', hg2, bv, rfl, ho2⟩ := hI
    refine AWP.stepR [6, 22, 23, 24, 25] fun K hK => ?_ -- r9
    simp only [go_sem, Nat.reduceEqDiff, Nat.reduceLT, Nat.reduceAdd, Nat.reduceMul, Nat.reduceSub, Nat.add_zero, Nat.zero_add, Int.reduceEq, Int.reduceLT]
    refine hK _ _ _ (by simp only [go_sem, Nat.reduceEqDiff, Nat.reduceLT, Nat.reduceAdd, Nat.reduceMul, Nat.reduceSub, Nat.add_zero, Nat.zero_add, Int.reduceEq, Int.reduceLT]; rfl) ?_; clear hK
    refine AWP.condS rfl (fun h25 => ?_) fun h25 => ?_
    · have hlt : vs.length - n < vs.length := by simpa using h25
      have hlt' : vs.length - n < ls.length := by rw [← hp.1]; exact hlt
      obtain ⟨b, q, ha, hd⟩ := hv.at1 rfl es_121 hlt
      have hd := hd M2 hg2
      rw [List.getElem?_eq_getElem hlt] at hd
      have hx := (hp.2 _ _ _ (List.getElem?_eq_getElem hlt) (List.getElem?_eq_getElem hlt')).grew hg2
      generalize vs[vs.length - n] = x at hd hx
      have hfl := take_flat ls hlt'
      have hfe : (ls.take (vs.length - n)).flatten.length + ls[vs.length - n].length = (ls.take (vs.length - n + 1)).flatten.length := by rw [hfl, List.length_append]
      have hfle := flat_le ls (vs.length - n + 1)
      refine AWP.skip ?_
      refine AWP.seq ?_
      refine AWP.block ?_ -- b3
      refine AWP.stepR [6, 8, 22, 23, 24] fun K hK => ?_ -- r10
      simp only [go_sem, Nat.reduceEqDiff, Nat.reduceLT, Nat.reduceAdd, Nat.reduceMul, Nat.reduceSub, Nat.add_zero, Nat.zero_add, Int.reduceEq, Int.reduceLT, ha, ld_23, hd]
      refine hK _ _ _ (by simp only [go_sem, Nat.reduceEqDiff, Nat.reduceLT, Nat.reduceAdd, Nat.reduceMul, Nat.reduceSub, Nat.add_zero, Nat.zero_add, Int.reduceEq, Int.reduceLT]; rfl) ?_; clear hK
      obtain ⟨v2, M3, happ, ho3, hg3, hnx, hfr⟩ := Own.append ap_23_23 hg2 ho2 (by rw [cB_length, Nat.mul_one]) (hx.content (by rw [cB_length, Nat.mul_one])) (cB_one _) (by omega)
      refine AWP.lastR fun K hK => ?_ -- r11
      simp only [go_sem, Nat.reduceEqDiff, Nat.reduceLT, Nat.reduceAdd, Nat.reduceMul, Nat.reduceSub, Nat.add_zero, Nat.zero_add, Int.reduceEq, Int.reduceLT, happ]
      refine hK _ _ ?_; clear hK
      refine AWP.lastR fun K hK => ?_ -- r12
      simp only [go_sem, Nat.reduceEqDiff, Nat.reduceLT, Nat.reduceAdd, Nat.reduceMul, Nat.reduceSub, Nat.add_zero, Nat.zero_add, Int.reduceEq, Int.reduceLT]
      refine hK _ _ ?_; clear hK
      refine ⟨n - 1, by omega, by omega, hg3, v2, ?_, ?_⟩ -- ROUND
      · simp only [go_sem, Nat.reduceEqDiff, Nat.reduceLT, Nat.reduceAdd, Nat.reduceMul, Nat.reduceSub, Nat.add_zero, Nat.zero_add, Int.reduceEq, Int.reduceLT]
        rw [i64w (by omega) (by omega), show ((vs.length - n : Nat) : Int) + 1 = ((vs.length - (n - 1) : Nat) : Int) by omega]
      · rw [hfe, ← cB_append, ← hfl] at ho3
        rw [show vs.length - (n - 1) = vs.length - n + 1 by omega]
        exact ho3
    · refine AWP.exit (Then.exit (Then.exit (InBlock.same ?_))) -- x2
      have hn0 : n = 0 := by simp at h25; omega
      subst hn0
      rw [Nat.sub_zero, hp.1, List.take_length] at ho2
      refine AWP.stepR [2] fun K hK => ?_ -- r13
      simp only [go_sem, Nat.reduceEqDiff, Nat.reduceLT, Nat.reduceAdd, Nat.reduceMul, Nat.reduceSub, Nat.add_zero, Nat.zero_add, Int.reduceEq, Int.reduceLT]
      refine hK _ _ _ (by simp only [go_sem, Nat.reduceEqDiff, Nat.reduceLT, Nat.reduceAdd, Nat.reduceMul, Nat.reduceSub, Nat.add_zero, Nat.zero_add, Int.reduceEq, Int.reduceLT]; rfl) ?_; clear hK
      refine AWP.ret (?_)
      exact Fin.own (fun v => v) (.inr rfl) rfl hok hg2 ho2 (cB_plain _) (fun _ _ _ _ h => h) fun r M' hg' hr' ho' => ⟨hg', ho' (by intro h; exact hne (List.eq_nil_of_length_eq_zero h))⟩
end Go.Proofs.Ythheaehpnleiaaa.AX

/- A byte of yes and no; bytes with their length ahead. -/
namespace Go.Proofs.Ythheaehpnleiaaa.AX
open Go Go.Proofs
set_option maxRecDepth 100000
set_option linter.unusedVariables false
set_option linter.unusedSimpArgs false

/-- yes and no as the bits of a byte -/
def flagF (bs : List Bool) : Nat → Int
  | 0 => 0
  | k + 1 => if bs[k]? = some true then IntKind.u8.wrap (BitVec.ofInt 8 (flagF bs k) ||| BitVec.ofInt 8 (IntKind.u8.wrap (1 * 2 ^ (min k 8)))).toNat else flagF bs k

theorem flag38_spec (v : Value) (bs : List Bool) (M : Mem) (hok : Ok M) (hv : Row_ M v bs.length (bs.map .bool)) (hn : bs.length ≤ 8) : ∃ r M', ACall Try.prog 38 #[v] M r M' ∧ Grew M M' ∧ OwnB M M' r [flagF bs bs.length] 5 := by
  refine ACall.fin (args := [v]) (k := 21) Try.func38 rfl rfl rfl (Nat.le_of_ble_eq_true rfl) ?_
  refine AWP.stepR [0] fun K hK => ?_ -- r0
  simp only [go_sem, Nat.reduceEqDiff, Nat.reduceLT, Nat.reduceAdd, Nat.reduceMul, Nat.reduceSub, Nat.add_zero, Nat.zero_add, Int.reduceEq, Int.reduceLT]
  refine hK _ _ _ (by simp only [go_sem, Nat.reduceEqDiff, Nat.reduceLT, Nat.reduceAdd, Nat.reduceMul, Nat.reduceSub, Nat.add_zero, Nat.zero_add, Int.reduceEq, Int.reduceLT]; rfl) ?_; clear hK
  refine AWP.stepR [0, 3] fun K hK => ?_ -- r1
  simp only [go_sem, Nat.reduceEqDiff, Nat.reduceLT, Nat.reduceAdd, Nat.reduceMul, Nat.reduceSub, Nat.add_zero, Nat.zero_add, Int.reduceEq, Int.reduceLT]
  refine hK _ _ _ (by simp only [go_sem, Nat.reduceEqDiff, Nat.reduceLT, Nat.reduceAdd, Nat.reduceMul, Nat.reduceSub, Nat.add_zero, Nat.zero_add, Int.reduceEq, Int.reduceLT]; rfl) ?_; clear hK
  refine AWP.seq ?_
  refine AWP.stepR [3, 6, 7, 8] fun K hK => ?_ -- r2
  simp only [go_sem, Nat.reduceEqDiff, Nat.reduceLT, Nat.reduceAdd, Nat.reduceMul, Nat.reduceSub, Nat.add_zero, Nat.zero_add, Int.reduceEq, Int.reduceLT, hv.len es_79]
  refine hK _ _ _ (by simp only [go_sem, Nat.reduceEqDiff, Nat.reduceLT, Nat.reduceAdd, Nat.reduceMul, Nat.reduceSub, Nat.add_zero, Nat.zero_add, Int.reduceEq, Int.reduceLT]; rfl) ?_; clear hK
  refine AWP.block ?_ -- b0
  refine AWP.loopK [3, 6, 7, 8] (fun n e M0 => M0 = M ∧ n ≤ bs.length ∧ e = [(3, .int .u8 (flagF bs (bs.length - n))), (6, v), (7, .int .i64 bs.length), (8, .int .i64 ((bs.length - n : Nat) : Int))]) bs.length ?_ fun n e M0 hI => ?_ -- LOOP
  · simp only [go_sem, Nat.reduceEqDiff, Nat.reduceLT, Nat.reduceAdd, Nat.reduceMul, Nat.reduceSub, Nat.add_zero, Nat.zero_add, Int.reduceEq, Int.reduceLT, Nat.le_refl, Nat.sub_self]
    exact rfl
  obtain ⟨rfl, hn', rfl⟩ := hI
  refine AWP.stepR [3, 6, 7, 8, 9] fun K hK => ?_ -- r3
  simp only [go_sem, Nat.reduceEqDiff, Nat.reduceLT, Nat.reduceAdd, Nat.reduceMul, Nat.reduceSub, Nat.add_zero, Nat.zero_add, Int.reduceEq, Int.reduceLT]
  refine hK _ _ _ (by simp only [go_sem, Nat.reduceEqDiff, Nat.reduceLT, Nat.reduceAdd, Nat.reduceMul, Nat.reduceSub, Nat.add_zero, Nat.zero_add, Int.reduceEq, Int.reduceLT]; rfl) ?_; clear hK
  refine AWP.condS rfl (fun h9 => ?_) fun h9 => ?_
  · have hlt : bs.length - n < bs.length := by simpa using h9
    obtain ⟨b, q, ha, hd⟩ := hv.at1 (by simp) es_79 hlt
    have hd := hd M0 (Grew.refl _)
    rw [show (bs.map Value.bool)[bs.length - n]? = some (.bool bs[bs.length - n]) by simp [hlt]] at hd
    have hs1 : bs.length - (n - 1) = bs.length - n + 1 := by omega
    refine AWP.skip ?_
    refine AWP.seq ?_
    refine AWP.block ?_ -- b1
    refine AWP.stepR [3, 4, 5, 6, 7, 8] fun K hK => ?_ -- r4
    simp only [go_sem, Nat.reduceEqDiff, Nat.reduceLT, Nat.reduceAdd, Nat.reduceMul, Nat.reduceSub, Nat.add_zero, Nat.zero_add, Int.reduceEq, Int.reduceLT, ha, ld_4, hd]
    refine hK _ _ _ (by simp only [go_sem, Nat.reduceEqDiff, Nat.reduceLT, Nat.reduceAdd, Nat.reduceMul, Nat.reduceSub, Nat.add_zero, Nat.zero_add, Int.reduceEq, Int.reduceLT]; rfl) ?_; clear hK
    refine AWP.stepR [3, 4, 6, 7, 8, 13] fun K hK => ?_ -- r5
    simp only [go_sem, Nat.reduceEqDiff, Nat.reduceLT, Nat.reduceAdd, Nat.reduceMul, Nat.reduceSub, Nat.add_zero, Nat.zero_add, Int.reduceEq, Int.reduceLT]
    refine hK _ _ _ (by simp only [go_sem, Nat.reduceEqDiff, Nat.reduceLT, Nat.reduceAdd, Nat.reduceMul, Nat.reduceSub, Nat.add_zero, Nat.zero_add, Int.reduceEq, Int.reduceLT]; rfl) ?_; clear hK
    refine AWP.cond_split rfl (fun h13 => ?_) fun h13 => ?_
    · have hneg : (((bs.length - n : Nat) : Int) < 0) = False := eq_false (by omega)
      refine AWP.lastR fun K hK => ?_ -- r6
      simp only [go_sem, Nat.reduceEqDiff, Nat.reduceLT, Nat.reduceAdd, Nat.reduceMul, Nat.reduceSub, Nat.add_zero, Nat.zero_add, Int.reduceEq, Int.reduceLT, hneg]
      refine hK _ _ ?_; clear hK
      refine AWP.lastR fun K hK => ?_ -- r7
      simp only [go_sem, Nat.reduceEqDiff, Nat.reduceLT, Nat.reduceAdd, Nat.reduceMul, Nat.reduceSub, Nat.add_zero, Nat.zero_add, Int.reduceEq, Int.reduceLT]
      refine hK _ _ ?_; clear hK
      refine ⟨n - 1, by omega, rfl, by omega, ?_⟩ -- ROUND
      simp only [go_sem, Nat.reduceEqDiff, Nat.reduceLT, Nat.reduceAdd, Nat.reduceMul, Nat.reduceSub, Nat.add_zero, Nat.zero_add, Int.reduceEq, Int.reduceLT]
      rw [i64w (by omega) (by omega), hs1, flagF, if_pos (by rw [List.getElem?_eq_getElem hlt, h13])]
      simp only [Int.toNat_natCast, Int.natCast_add, Int.cast_ofNat_Int]
      rfl
    · refine AWP.skip ?_
      refine AWP.lastR fun K hK => ?_ -- r7
      simp only [go_sem, Nat.reduceEqDiff, Nat.reduceLT, Nat.reduceAdd, Nat.reduceMul, Nat.reduceSub, Nat.add_zero, Nat.zero_add, Int.reduceEq, Int.reduceLT]
      refine hK _ _ ?_; clear hK
      refine ⟨n - 1, by omega, rfl, by omega, ?_⟩ -- ROUND
      simp only [go_sem, Nat.reduceEqDiff, Nat.reduceLT, Nat.reduceAdd, Nat.reduceMul, Nat.reduceSub, Nat.add_zero, Nat.zero_add, Int.reduceEq, Int.reduceLT]
      rw [i64w (by omega) (by omega), hs1, flagF, if_neg (by rw [List.getElem?_eq_getElem hlt, h13]; simp)]
      simp only [Int.natCast_add, Int.cast_ofNat_Int]
  · refine AWP.exit (Then.exit (Then.exit (InBlock.same ?_))) -- x0
    have hn0 : n = 0 := by simp at h9; omega
    subst hn0
    refine AWP.stepR [2] fun K hK => ?_ -- r8
    simp only [go_sem, Nat.reduceEqDiff, Nat.reduceLT, Nat.reduceAdd, Nat.reduceMul, Nat.reduceSub, Nat.add_zero, Nat.zero_add, Int.reduceEq, Int.reduceLT]
    refine hK _ _ _ (by simp only [go_sem, Nat.reduceEqDiff, Nat.reduceLT, Nat.reduceAdd, Nat.reduceMul, Nat.reduceSub, Nat.add_zero, Nat.zero_add, Int.reduceEq, Int.reduceLT]; rfl) ?_; clear hK
    refine AWP.ret (?_)
    have hlt0 : M0.next < (M0.bump 1).next := Nat.lt_succ_self _
    refine Fin.own (n := 1) (cells := cB [flagF bs bs.length]) (e := 5) (fun v => v) (.inr rfl) rfl hok (((Grew.refl M0).bump 1).put (Nat.le_refl _) hlt0 _) (.inr ⟨M0.next, _, ⟨cB [flagF bs bs.length], 5, true⟩, Nat.le_refl _, hlt0, rfl, ?_, rfl, rfl, .inr rfl⟩) (cB_plain _) (fun _ _ _ _ h => h) fun r M' hg' hr' ho' => ⟨hg', ho' (by decide)⟩
    rw [Mem.get_put, if_pos rfl]; rfl

def longB (l : List Int) : List Int := putB l.length 4 ++ l
theorem longB_length (l : List Int) : (longB l).length = 4 + l.length := by simp [longB, putB_length]
theorem longB_ne (l : List Int) : longB l ≠ [] := by intro h; have := congrArg List.length h; rw [longB_length] at this; simp at this

theorem long44_spec (v : Value) (l : List Int) (M : Mem) (hok : Ok M) (hv : RowB M v l) (hl : l.length ≤ 1099511627776) : ∃ r M', ACall Try.prog 44 #[v] M r M' ∧ Grew M M' ∧ OwnB M M' r (longB l) 5 := by
  refine ACall.fin (args := [v]) (k := 9) Try.func44 rfl rfl rfl (Nat.le_of_ble_eq_true rfl) ?_
  refine AWP.stepR [0] fun K hK => ?_ -- r0
  simp only [go_sem, Nat.reduceEqDiff, Nat.reduceLT, Nat.reduceAdd, Nat.reduceMul, Nat.reduceSub, Nat.add_zero, Nat.zero_add, Int.reduceEq, Int.reduceLT]
  refine hK _ _ _ (by simp only [go_sem, Nat.reduceEqDiff, Nat.reduceLT, Nat.reduceAdd, Nat.reduceMul, Nat.reduceSub, Nat.add_zero, Nat.zero_add, Int.reduceEq, Int.reduceLT]; rfl) ?_; clear hK
  obtain ⟨r1, M1, hc, hg, hown⟩ := put43_spec 4 l.length M hok (by omega) (by omega)
  refine AWP.stepR [2] fun K hK => ?_ -- r1
  simp only [go_sem, Nat.reduceEqDiff, Nat.reduceLT, Nat.reduceAdd, Nat.reduceMul, Nat.reduceSub, Nat.add_zero, Nat.zero_add, Int.reduceEq, Int.reduceLT, hv.len es_23]
  rw [IntWalk.u64_in _ (by omega)]
  refine ⟨r1, M1, hc, ?_⟩
  obtain ⟨v2, M2, happ, hown2, hg2, hnx, hfr⟩ := Own.append ap_23_23 hg hown (by rw [cB_length, Nat.mul_one]) ((hv.grew hg).content (by rw [cB_length, Nat.mul_one])) (cB_one _) (by rw [putB_length]; omega)
  simp only [happ, go_sem, Nat.reduceEqDiff, Nat.reduceLT, Nat.reduceAdd, Nat.reduceMul, Nat.reduceSub, Nat.add_zero, Nat.zero_add, Int.reduceEq, Int.reduceLT]
  refine hK _ _ _ (by simp only [go_sem, Nat.reduceEqDiff, Nat.reduceLT, Nat.reduceAdd, Nat.reduceMul, Nat.reduceSub, Nat.add_zero, Nat.zero_add, Int.reduceEq, Int.reduceLT]; rfl) ?_; clear hK
  refine AWP.ret (?_)
  rw [← cB_append, show (putB (l.length : Int) 4).length + l.length = (longB l).length by simp [longB]] at hown2
  exact Fin.own (fun v => v) (.inr rfl) rfl hok hg2 hown2 (cB_plain _) (fun _ _ _ _ h => h) fun r M' hg' hr' ho' => ⟨hg', ho' (by rw [longB_length]; omega)⟩

theorem long40_spec (v : Value) (l : List Int) (M : Mem) (hok : Ok M) (hv : RowB M v l) (hl : l.length ≤ 1000000000) : ∃ r M', ACall Try.prog 40 #[v] M r M' ∧ Grew M M' ∧ OwnB M M' r (longB l) 5 := by
  refine ACall.fin (args := [v]) (k := 10) Try.func40 rfl rfl rfl (Nat.le_of_ble_eq_true rfl) ?_
  refine AWP.stepR [0] fun K hK => ?_ -- r0
  simp only [go_sem, Nat.reduceEqDiff, Nat.reduceLT, Nat.reduceAdd, Nat.reduceMul, Nat.reduceSub, Nat.add_zero, Nat.zero_add, Int.reduceEq, Int.reduceLT]
  refine hK _ _ _ (by simp only [go_sem, Nat.reduceEqDiff, Nat.reduceLT, Nat.reduceAdd, Nat.reduceMul, Nat.reduceSub, Nat.add_zero, Nat.zero_add, Int.reduceEq, Int.reduceLT]; rfl) ?_; clear hK
  obtain ⟨r1, M1, hc, hg, hown⟩ := put39_spec 4 l.length (M.bump 1) (((Grew.refl M).bump 1).ok hok) (by omega) (by omega) (by decide)
  refine AWP.stepR [2] fun K hK => ?_ -- r1
  simp only [go_sem, Nat.reduceEqDiff, Nat.reduceLT, Nat.reduceAdd, Nat.reduceMul, Nat.reduceSub, Nat.add_zero, Nat.zero_add, Int.reduceEq, Int.reduceLT, hv.len es_23]
  rw [IntWalk.u64_in _ (by omega)]
  refine ⟨r1, M1, hc, ?_⟩
  have hlt : M.next < M1.next := by have := hg.next; rw [Mem.next_bump] at this; omega
  have hgb : Grew M M1 := ((Grew.refl M).bump 1).trans hg
  simp only [go_sem, Nat.reduceEqDiff, Nat.reduceLT, Nat.reduceAdd, Nat.reduceMul, Nat.reduceSub, Nat.add_zero, Nat.zero_add, Int.reduceEq, Int.reduceLT, hown.row.one, (hv.grew hgb).one]
  generalize hM2 : M1.put M.next ⟨[r1, v], 23, true⟩ = M2
  have hg2 : Grew M M2 := by rw [← hM2]; exact hgb.put (Nat.le_refl _) hlt _
  have hh : Has M2 M.next ⟨[r1, v], 23, true⟩ := by rw [← hM2]; exact Has.put hlt _
  have ho2 : OwnB (M.bump 1) M2 r1 (putB l.length 4) 5 := by rw [← hM2]; exact hown.put (by rw [Mem.next_bump]; omega) _
  obtain ⟨r3, M3, hc3, hg3, hown3⟩ := join37_spec (.slice (some ⟨M.next, 0, none⟩) 2 2) [r1, v] [putB l.length 4, l] M2 (hg2.ok hok) (Row_.of hh) (.cons ho2.row (.cons (hv.grew hg2) (.nil _))) (by simp [putB_length]; omega) (by simp) (by have := longB_ne l; simpa [longB] using this)
  refine ⟨r3, M3, hc3, ?_⟩
  refine hK _ _ _ (by simp only [go_sem, Nat.reduceEqDiff, Nat.reduceLT, Nat.reduceAdd, Nat.reduceMul, Nat.reduceSub, Nat.add_zero, Nat.zero_add, Int.reduceEq, Int.reduceLT]; rfl) ?_; clear hK
  refine AWP.ret (?_)
  rw [show [putB (l.length : Int) 4, l].flatten = longB l by simp [longB]] at hown3
  exact Fin.own (fun v => v) (.inr rfl) rfl hok (hg2.trans hg3) (hown3.base hg2.next) (cB_plain _) (fun _ _ _ _ h => h) fun r M' hg' hr' ho' => ⟨hg', ho' (by rw [longB_length]; omega)⟩
end Go.Proofs.Ythheaehpnleiaaa.AX

/- Texts with how many they are ahead. -/
namespace Go.Proofs.Ythheaehpnleiaaa.AX
open Go Go.Proofs
set_option maxRecDepth 100000
set_option linter.unusedVariables false
set_option linter.unusedSimpArgs false

/-- a text's bytes -/
def sB (s : ByteArray) : List Int := s.data.toList.map fun b => (b.toNat : Int)
theorem sB_length (s : ByteArray) : (sB s).length = s.size := by rw [sB, List.length_map]; rfl
theorem sB_cells (s : ByteArray) : (s.data.toList.map fun b => Value.int .u8 b.toNat) = cB (sB s) := by rw [cB, sB, List.map_map]; rfl
def textsF (l : List ByteArray) (k : Nat) : List Int := putB l.length 4 ++ ((l.take k).map fun s => longB (sB s)).flatten
theorem textsF_zero (l : List ByteArray) : textsF l 0 = putB l.length 4 := by simp [textsF]
theorem textsF_succ (l : List ByteArray) {k : Nat} (h : k < l.length) : textsF l (k + 1) = textsF l k ++ longB (sB l[k]) := by
  rw [textsF, textsF, List.take_succ_eq_append_getElem h, List.map_append, List.flatten_append, ← List.append_assoc]
  show _ ++ [longB (sB l[k])].flatten = _
  rw [List.flatten_cons, List.flatten_nil, List.append_nil]
theorem textsF_le (l : List ByteArray) (hs : ∀ s, s ∈ l → s.size ≤ 1000) : ∀ k, k ≤ l.length → (textsF l k).length ≤ 4 + k * 1004 := by
  intro k
  induction k with
  | zero => intro _; rw [textsF_zero, putB_length]; omega
  | succ k ih =>
    intro h
    have h1 := ih (by omega)
    have h2 := hs _ (List.getElem_mem (show k < l.length by omega))
    rw [textsF_succ l (by omega), List.length_append, longB_length, sB_length]
    omega
theorem textsF_ne (l : List ByteArray) (k : Nat) : textsF l k ≠ [] := by intro h; have := congrArg List.length h; simp [textsF, putB_length] at this
theorem textsF_pos (l : List ByteArray) (k : Nat) : (textsF l k).length ≠ 0 := fun h => textsF_ne l k (List.eq_nil_of_length_eq_zero h)

theorem texts45_spec (v : Value) (l : List ByteArray) (M : Mem) (hok : Ok M) (hv : Row_ M v l.length (l.map .string)) (hn : l.length ≤ 1000) (hs : ∀ s, s ∈ l → s.size ≤ 1000) : ∃ r M', ACall Try.prog 45 #[v] M r M' ∧ Grew M M' ∧ OwnB M M' r (textsF l l.length) 5 := by
  refine ACall.fin (args := [v]) (k := 24) Try.func45 rfl rfl rfl (Nat.le_of_ble_eq_true rfl) ?_
  refine AWP.stepR [0] fun K hK => ?_ -- r0
  simp only [go_sem, Nat.reduceEqDiff, Nat.reduceLT, Nat.reduceAdd, Nat.reduceMul, Nat.reduceSub, Nat.add_zero, Nat.zero_add, Int.reduceEq, Int.reduceLT]
  refine hK _ _ _ (by simp only [go_sem, Nat.reduceEqDiff, Nat.reduceLT, Nat.reduceAdd, Nat.reduceMul, Nat.reduceSub, Nat.add_zero, Nat.zero_add, Int.reduceEq, Int.reduceLT]; rfl) ?_; clear hK
  obtain ⟨r1, M1, hc, hg1, ho1⟩ := put43_spec 4 l.length M hok (by omega) (by omega)
  refine AWP.stepR [0, 3] fun K hK => ?_ -- r1
  simp only [go_sem, Nat.reduceEqDiff, Nat.reduceLT, Nat.reduceAdd, Nat.reduceMul, Nat.reduceSub, Nat.add_zero, Nat.zero_add, Int.reduceEq, Int.reduceLT, hv.len es_24]
  rw [IntWalk.u64_in _ (by omega)]
  refine ⟨r1, M1, hc, ?_⟩
  refine hK _ _ _ (by simp only [go_sem, Nat.reduceEqDiff, Nat.reduceLT, Nat.reduceAdd, Nat.reduceMul, Nat.reduceSub, Nat.add_zero, Nat.zero_add, Int.reduceEq, Int.reduceLT]; rfl) ?_; clear hK
  refine AWP.seq ?_
  refine AWP.stepR [0, 3, 4] fun K hK => ?_ -- r2
  simp only [go_sem, Nat.reduceEqDiff, Nat.reduceLT, Nat.reduceAdd, Nat.reduceMul, Nat.reduceSub, Nat.add_zero, Nat.zero_add, Int.reduceEq, Int.reduceLT]
  refine hK _ _ _ (by simp only [go_sem, Nat.reduceEqDiff, Nat.reduceLT, Nat.reduceAdd, Nat.reduceMul, Nat.reduceSub, Nat.add_zero, Nat.zero_add, Int.reduceEq, Int.reduceLT]; rfl) ?_; clear hK
  refine AWP.block ?_ -- b0
  refine AWP.loopK [0, 3, 4] (fun n e M0 => n ≤ l.length ∧ Grew M M0 ∧ ∃ bv, e = [(0, v), (3, bv), (4, .int .i64 ((l.length - n : Nat) : Int))] ∧ OwnB M M0 bv (textsF l (l.length - n)) 5) l.length ?_ fun n e M0 hI => ?_ -- LOOP
  · simp only [go_sem, Nat.reduceEqDiff, Nat.reduceLT, Nat.reduceAdd, Nat.reduceMul, Nat.reduceSub, Nat.add_zero, Nat.zero_add, Int.reduceEq, Int.reduceLT, Nat.le_refl]
    exact ⟨hg1, r1, by simp, by rw [Nat.sub_self, textsF_zero]; exact ho1⟩
  obtain ⟨hn', hg, bv, rfl, hown⟩ := hI
  refine AWP.seq ?_
  refine AWP.stepR [0, 3, 4, 12] fun K hK => ?_ -- r3
  simp only [go_sem, Nat.reduceEqDiff, Nat.reduceLT, Nat.reduceAdd, Nat.reduceMul, Nat.reduceSub, Nat.add_zero, Nat.zero_add, Int.reduceEq, Int.reduceLT, hv.len es_24]
  refine hK _ _ _ (by simp only [go_sem, Nat.reduceEqDiff, Nat.reduceLT, Nat.reduceAdd, Nat.reduceMul, Nat.reduceSub, Nat.add_zero, Nat.zero_add, Int.reduceEq, Int.reduceLT]; rfl) ?_; clear hK
  refine AWP.cond_split rfl (fun h12 => ?_) fun h12 => ?_
  · have hlt : l.length - n < l.length := by simpa using h12
    obtain ⟨b, q, ha, hd⟩ := hv.at1 (by simp) es_24 hlt
    have hs1 := hs _ (List.getElem_mem hlt)
    have hst := textsF_succ l hlt
    have hle := textsF_le l hs (l.length - n + 1) (by omega)
    generalize hx : l[l.length - n] = x at hs1 hst
    rw [hst, List.length_append] at hle
    refine AWP.skip ?_
    refine AWP.seq ?_
    refine AWP.block ?_ -- b1
    have hlt0 : M0.next < (M0.bump 1).next := Nat.lt_succ_self _
    have hg2 := ((Grew.refl M0).bump 1).put (Nat.le_refl _) hlt0 ⟨cB (sB x), 5, true⟩
    have hh := Has.put hlt0 ⟨cB (sB x), 5, true⟩
    generalize hM2 : (M0.bump 1).put M0.next ⟨cB (sB x), 5, true⟩ = M2 at hg2 hh
    have hrow : RowB M2 (.slice (some ⟨M0.next, 0, none⟩) x.size unk) (sB x) := by rw [RowB, sB_length]; exact Row_.of hh
    obtain ⟨r3, M3, hc3, hg3, ho3⟩ := long44_spec _ _ M2 ((hg.trans hg2).ok hok) hrow (by rw [sB_length]; omega)
    obtain ⟨v4, M4, happ, ho4, hg4, hnx, hfr⟩ := Own.append ap_23_23 (hg.trans (hg2.trans hg3)) (hown.grew (hg2.trans hg3)) (by rw [cB_length, Nat.mul_one]) (ho3.row.content (by rw [cB_length, Nat.mul_one])) (cB_one _) (by omega)
    refine AWP.lastR fun K hK => ?_ -- r5
    have hd := hd M0 hg
    rw [show (l.map Value.string)[l.length - n]? = some (.string x) by simp [hlt, hx]] at hd
    simp only [go_sem, Nat.reduceEqDiff, Nat.reduceLT, Nat.reduceAdd, Nat.reduceMul, Nat.reduceSub, Nat.add_zero, Nat.zero_add, Int.reduceEq, Int.reduceLT, ha, ld_9, hd, sB_cells, hM2]
    refine ⟨r3, M3, hc3, ?_⟩
    simp only [go_sem, Nat.reduceEqDiff, Nat.reduceLT, Nat.reduceAdd, Nat.reduceMul, Nat.reduceSub, Nat.add_zero, Nat.zero_add, Int.reduceEq, Int.reduceLT, happ]
    refine hK _ _ ?_; clear hK
    refine AWP.lastR fun K hK => ?_ -- r4
    simp only [go_sem, Nat.reduceEqDiff, Nat.reduceLT, Nat.reduceAdd, Nat.reduceMul, Nat.reduceSub, Nat.add_zero, Nat.zero_add, Int.reduceEq, Int.reduceLT]
    refine hK _ _ ?_; clear hK
    refine ⟨n - 1, by omega, by omega, hg4, v4, ?_, ?_⟩ -- ROUND
    · simp only [go_sem, Nat.reduceEqDiff, Nat.reduceLT, Nat.reduceAdd, Nat.reduceMul, Nat.reduceSub, Nat.add_zero, Nat.zero_add, Int.reduceEq, Int.reduceLT]
      rw [i64w (by omega) (by omega), show ((l.length - n : Nat) : Int) + 1 = ((l.length - (n - 1) : Nat) : Int) by omega]
    · rw [show l.length - (n - 1) = l.length - n + 1 by omega, hst, OwnB, List.length_append, cB_append]
      exact ho4
  · refine AWP.exit (Then.exit (Then.exit (InBlock.same ?_))) -- x0
    have hn0 : n = 0 := by simp at h12; omega
    subst hn0
    refine AWP.stepR [2] fun K hK => ?_ -- r6
    simp only [go_sem, Nat.reduceEqDiff, Nat.reduceLT, Nat.reduceAdd, Nat.reduceMul, Nat.reduceSub, Nat.add_zero, Nat.zero_add, Int.reduceEq, Int.reduceLT]
    refine hK _ _ _ (by simp only [go_sem, Nat.reduceEqDiff, Nat.reduceLT, Nat.reduceAdd, Nat.reduceMul, Nat.reduceSub, Nat.add_zero, Nat.zero_add, Int.reduceEq, Int.reduceLT]; rfl) ?_; clear hK
    refine AWP.ret (?_)
    exact Fin.own (fun v => v) (.inr rfl) rfl hok hg hown (cB_plain _) (fun _ _ _ _ h => h) fun r M' hg' hr' ho' => ⟨hg', ho' (textsF_pos _ _)⟩

theorem texts41_spec (v : Value) (l : List ByteArray) (M : Mem) (hok : Ok M) (hv : Row_ M v l.length (l.map .string)) (hn : l.length ≤ 1000) (hs : ∀ s, s ∈ l → s.size ≤ 1000) : ∃ r M', ACall Try.prog 41 #[v] M r M' ∧ Grew M M' ∧ OwnB M M' r (textsF l l.length) 5 := by
  refine ACall.fin (args := [v]) (k := 24) Try.func41 rfl rfl rfl (Nat.le_of_ble_eq_true rfl) ?_
  refine AWP.stepR [0] fun K hK => ?_ -- r0
  simp only [go_sem, Nat.reduceEqDiff, Nat.reduceLT, Nat.reduceAdd, Nat.reduceMul, Nat.reduceSub, Nat.add_zero, Nat.zero_add, Int.reduceEq, Int.reduceLT]
  refine hK _ _ _ (by simp only [go_sem, Nat.reduceEqDiff, Nat.reduceLT, Nat.reduceAdd, Nat.reduceMul, Nat.reduceSub, Nat.add_zero, Nat.zero_add, Int.reduceEq, Int.reduceLT]; rfl) ?_; clear hK
  obtain ⟨r1, M1, hc, hg1, ho1⟩ := put39_spec 4 l.length M hok (by omega) (by omega) (by decide)
  refine AWP.stepR [0, 3] fun K hK => ?_ -- r1
  simp only [go_sem, Nat.reduceEqDiff, Nat.reduceLT, Nat.reduceAdd, Nat.reduceMul, Nat.reduceSub, Nat.add_zero, Nat.zero_add, Int.reduceEq, Int.reduceLT, hv.len es_24]
  rw [IntWalk.u64_in _ (by omega)]
  refine ⟨r1, M1, hc, ?_⟩
  refine hK _ _ _ (by simp only [go_sem, Nat.reduceEqDiff, Nat.reduceLT, Nat.reduceAdd, Nat.reduceMul, Nat.reduceSub, Nat.add_zero, Nat.zero_add, Int.reduceEq, Int.reduceLT]; rfl) ?_; clear hK
  refine AWP.seq ?_
  refine AWP.stepR [3, 10, 11, 12] fun K hK => ?_ -- r2
  simp only [go_sem, Nat.reduceEqDiff, Nat.reduceLT, Nat.reduceAdd, Nat.reduceMul, Nat.reduceSub, Nat.add_zero, Nat.zero_add, Int.reduceEq, Int.reduceLT, hv.len es_24]
  refine hK _ _ _ (by simp only [go_sem, Nat.reduceEqDiff, Nat.reduceLT, Nat.reduceAdd, Nat.reduceMul, Nat.reduceSub, Nat.add_zero, Nat.zero_add, Int.reduceEq, Int.reduceLT]; rfl) ?_; clear hK
  refine AWP.block ?_ -- b0
  refine AWP.loopK [3, 10, 11, 12] (fun n e M0 => n ≤ l.length ∧ Grew M M0 ∧ ∃ bv, e = [(3, bv), (10, v), (11, .int .i64 l.length), (12, .int .i64 ((l.length - n : Nat) : Int))] ∧ OwnB M M0 bv (textsF l (l.length - n)) 5) l.length ?_ fun n e M0 hI => ?_ -- LOOP
  · simp only [go_sem, Nat.reduceEqDiff, Nat.reduceLT, Nat.reduceAdd, Nat.reduceMul, Nat.reduceSub, Nat.add_zero, Nat.zero_add, Int.reduceEq, Int.reduceLT, Nat.le_refl]
    exact ⟨hg1, r1, by simp, by rw [Nat.sub_self, textsF_zero]; exact ho1⟩
  obtain ⟨hn', hg, bv, rfl, hown⟩ := hI
  refine AWP.stepR [3, 10, 11, 12, 13] fun K hK => ?_ -- r3
  simp only [go_sem, Nat.reduceEqDiff, Nat.reduceLT, Nat.reduceAdd, Nat.reduceMul, Nat.reduceSub, Nat.add_zero, Nat.zero_add, Int.reduceEq, Int.reduceLT]
  refine hK _ _ _ (by simp only [go_sem, Nat.reduceEqDiff, Nat.reduceLT, Nat.reduceAdd, Nat.reduceMul, Nat.reduceSub, Nat.add_zero, Nat.zero_add, Int.reduceEq, Int.reduceLT]; rfl) ?_; clear hK
  refine AWP.condS rfl (fun h13 => ?_) fun h13 => ?_
  · have hlt : l.length - n < l.length := by simpa using h13
    obtain ⟨b, q, ha, hd⟩ := hv.at1 (by simp) es_24 hlt
    have hs1 := hs _ (List.getElem_mem hlt)
    have hst := textsF_succ l hlt
    have hle := textsF_le l hs (l.length - n + 1) (by omega)
    generalize hx : l[l.length - n] = x at hs1 hst
    rw [hst, List.length_append] at hle
    refine AWP.skip ?_
    refine AWP.seq ?_
    refine AWP.block ?_ -- b1
    refine AWP.stepR [3, 5, 10, 11, 12] fun K hK => ?_ -- r4
    have hd := hd M0 hg
    rw [show (l.map Value.string)[l.length - n]? = some (.string x) by simp [hlt, hx]] at hd
    simp only [go_sem, Nat.reduceEqDiff, Nat.reduceLT, Nat.reduceAdd, Nat.reduceMul, Nat.reduceSub, Nat.add_zero, Nat.zero_add, Int.reduceEq, Int.reduceLT, ha, ld_9, hd]
    refine hK _ _ _ (by simp only [go_sem, Nat.reduceEqDiff, Nat.reduceLT, Nat.reduceAdd, Nat.reduceMul, Nat.reduceSub, Nat.add_zero, Nat.zero_add, Int.reduceEq, Int.reduceLT]; rfl) ?_; clear hK
    have hlt0 : M0.next < (M0.bump 2).next := by rw [Mem.next_bump]; omega
    have hg2 := ((Grew.refl M0).bump 2).put (Nat.le_refl _) hlt0 ⟨cB (sB x), 5, true⟩
    have hh := Has.put hlt0 ⟨cB (sB x), 5, true⟩
    have hnx : M0.next + 2 = ((M0.bump 2).put M0.next ⟨cB (sB x), 5, true⟩).next := rfl
    generalize hM2 : (M0.bump 2).put M0.next ⟨cB (sB x), 5, true⟩ = M2 at hg2 hh hnx
    have hrow : RowB M2 (.slice (some ⟨M0.next, 0, none⟩) x.size unk) (sB x) := by rw [RowB, sB_length]; exact Row_.of hh
    obtain ⟨r3, M3, hc3, hg3, ho3⟩ := long40_spec _ _ M2 ((hg.trans hg2).ok hok) hrow (by rw [sB_length]; omega)
    have hlt1 : M0.next + 1 < M3.next := by have := hg3.next; omega
    have hg4 := (hg2.trans hg3).put (Nat.le_succ _) hlt1 ⟨[bv, r3], 23, true⟩
    have hh4 := Has.put hlt1 ⟨[bv, r3], 23, true⟩
    have ho4 : OwnB M2 (M3.put (M0.next + 1) ⟨[bv, r3], 23, true⟩) r3 (longB (sB x)) 5 := ho3.put (by omega) _
    generalize hM4 : M3.put (M0.next + 1) ⟨[bv, r3], 23, true⟩ = M4 at hg4 hh4 ho4
    obtain ⟨r5, M5, hc5, hg5, ho5⟩ := join37_spec (.slice (some ⟨M0.next + 1, 0, none⟩) 2 2) [bv, r3] [textsF l (l.length - n), longB (sB x)] M4 ((hg.trans hg4).ok hok) (Row_.of hh4) (.cons (hown.row.grew hg4) (.cons ho4.row (.nil _))) (by simp only [List.flatten_cons, List.flatten_nil, List.append_nil, List.length_append]; omega) (by simp) (by simp [textsF_ne])
    refine AWP.lastR fun K hK => ?_ -- r5
    simp only [go_sem, Nat.reduceEqDiff, Nat.reduceLT, Nat.reduceAdd, Nat.reduceMul, Nat.reduceSub, Nat.add_zero, Nat.zero_add, Int.reduceEq, Int.reduceLT, sB_cells, hM2]
    refine ⟨r3, M3, hc3, ?_⟩
    simp only [go_sem, Nat.reduceEqDiff, Nat.reduceLT, Nat.reduceAdd, Nat.reduceMul, Nat.reduceSub, Nat.add_zero, Nat.zero_add, Int.reduceEq, Int.reduceLT, hown.row.one, ho3.row.one, hM4]
    refine ⟨r5, M5, hc5, ?_⟩
    refine hK _ _ ?_; clear hK
    refine AWP.lastR fun K hK => ?_ -- r6
    simp only [go_sem, Nat.reduceEqDiff, Nat.reduceLT, Nat.reduceAdd, Nat.reduceMul, Nat.reduceSub, Nat.add_zero, Nat.zero_add, Int.reduceEq, Int.reduceLT]
    refine hK _ _ ?_; clear hK
    refine ⟨n - 1, by omega, by omega, hg.trans (hg4.trans hg5), r5, ?_, ?_⟩ -- ROUND
    · simp only [go_sem, Nat.reduceEqDiff, Nat.reduceLT, Nat.reduceAdd, Nat.reduceMul, Nat.reduceSub, Nat.add_zero, Nat.zero_add, Int.reduceEq, Int.reduceLT]
      rw [i64w (by omega) (by omega), show ((l.length - n : Nat) : Int) + 1 = ((l.length - (n - 1) : Nat) : Int) by omega]
    · rw [show l.length - (n - 1) = l.length - n + 1 by omega, hst]
      rw [show [textsF l (l.length - n), longB (sB x)].flatten = textsF l (l.length - n) ++ longB (sB x) by simp] at ho5
      exact ho5.base (hg.trans hg4).next
  · refine AWP.exit (Then.exit (Then.exit (InBlock.same ?_))) -- x0
    have hn0 : n = 0 := by simp at h13; omega
    subst hn0
    refine AWP.stepR [2] fun K hK => ?_ -- r7
    simp only [go_sem, Nat.reduceEqDiff, Nat.reduceLT, Nat.reduceAdd, Nat.reduceMul, Nat.reduceSub, Nat.add_zero, Nat.zero_add, Int.reduceEq, Int.reduceLT]
    refine hK _ _ _ (by simp only [go_sem, Nat.reduceEqDiff, Nat.reduceLT, Nat.reduceAdd, Nat.reduceMul, Nat.reduceSub, Nat.add_zero, Nat.zero_add, Int.reduceEq, Int.reduceLT]; rfl) ?_; clear hK
    refine AWP.ret (?_)
    exact Fin.own (fun v => v) (.inr rfl) rfl hok hg hown (cB_plain _) (fun _ _ _ _ h => h) fun r M' hg' hr' ho' => ⟨hg', ho' (textsF_pos _ _)⟩
end Go.Proofs.Ythheaehpnleiaaa.AX
