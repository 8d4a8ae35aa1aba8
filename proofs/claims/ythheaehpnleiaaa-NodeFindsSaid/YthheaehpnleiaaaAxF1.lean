/- Small functions: a bit, a number's range, like bytes. -/
import Derived.Test.YthheaehpnleiaaaAxT0
import Derived.Test.YthheaehpnleiaaaAxZ
namespace Go.Proofs.Ythheaehpnleiaaa.AX
open Go Go.Proofs
set_option maxRecDepth 100000
set_option linter.unusedVariables false
set_option linter.unusedSimpArgs false

theorem hmo : Try.prog.follows .mixedOrders = true := by kernel_rfl
theorem bit_spec (is : Bool) (n : Int) (M : Mem) (hok : Ok M) : ∃ r M', ACall Try.prog 42 #[.bool is, .int .u8 n] M r M' ∧ r = .int .u8 (if is then n else 0) ∧ M' = M := by
  refine ACall.fin (args := [.bool is, .int .u8 n]) (k := 7) Try.func42 rfl rfl rfl (Nat.le_of_ble_eq_true rfl) ?_
  refine AWP.stepR [0, 1] fun K hK => ?_
  simp only [go_sem, Nat.reduceEqDiff, Nat.reduceLT, Nat.reduceAdd, Nat.reduceMul, Nat.reduceSub, Nat.add_zero, Nat.zero_add, Int.reduceEq, Int.reduceLT]
  refine hK _ _ _ (by simp only [go_sem, Nat.reduceEqDiff, Nat.reduceLT, Nat.reduceAdd, Nat.reduceMul, Nat.reduceSub, Nat.add_zero, Nat.zero_add, Int.reduceEq, Int.reduceLT]; rfl) ?_; clear hK
  refine AWP.seq (AWP.stepR [0, 1, 5] fun K hK => ?_)
  simp only [go_sem, Nat.reduceEqDiff, Nat.reduceLT, Nat.reduceAdd, Nat.reduceMul, Nat.reduceSub, Nat.add_zero, Nat.zero_add, Int.reduceEq, Int.reduceLT]
  refine hK _ _ _ (by simp only [go_sem, Nat.reduceEqDiff, Nat.reduceLT, Nat.reduceAdd, Nat.reduceMul, Nat.reduceSub, Nat.add_zero, Nat.zero_add, Int.reduceEq, Int.reduceLT]; rfl) ?_; clear hK
  refine AWP.cond_split rfl (fun h => ?_) fun h => AWP.skip ?_
  · refine AWP.stepR [4] fun K hK => ?_
    simp only [go_sem, Nat.reduceEqDiff, Nat.reduceLT, Nat.reduceAdd, Nat.reduceMul, Nat.reduceSub, Nat.add_zero, Nat.zero_add, Int.reduceEq, Int.reduceLT]
    refine hK _ _ _ (by simp only [go_sem, Nat.reduceEqDiff, Nat.reduceLT, Nat.reduceAdd, Nat.reduceMul, Nat.reduceSub, Nat.add_zero, Nat.zero_add, Int.reduceEq, Int.reduceLT]; rfl) ?_; clear hK
    exact AWP.ret (Fin.plain (.inr rfl) rfl rfl hok (Grew.refl _) ⟨by rw [h]; rfl, rfl⟩)
  · refine AWP.stepR [4] fun K hK => ?_
    simp only [go_sem, Nat.reduceEqDiff, Nat.reduceLT, Nat.reduceAdd, Nat.reduceMul, Nat.reduceSub, Nat.add_zero, Nat.zero_add, Int.reduceEq, Int.reduceLT]
    refine hK _ _ _ (by simp only [go_sem, Nat.reduceEqDiff, Nat.reduceLT, Nat.reduceAdd, Nat.reduceMul, Nat.reduceSub, Nat.add_zero, Nat.zero_add, Int.reduceEq, Int.reduceLT]; rfl) ?_; clear hK
    exact AWP.ret (Fin.plain (.inr rfl) rfl rfl hok (Grew.refl _) ⟨by rw [h]; rfl, rfl⟩)

def numOk (x : Int) : Bool := decide (0 ≤ x) && decide (x ≤ 1099511627776)
theorem small47_spec (x : Int) (M : Mem) (hok : Ok M) : ∃ r M', ACall Try.prog 47 #[.int .i64 x] M r M' ∧ r = .bool (numOk x) ∧ M' = M := by
  refine ACall.fin (args := [.int .i64 x]) (k := 9) Try.func47 rfl rfl rfl (Nat.le_of_ble_eq_true rfl) ?_
  refine AWP.stepR [0] fun K hK => ?_
  simp only [go_sem, Nat.reduceEqDiff, Nat.reduceLT, Nat.reduceAdd, Nat.reduceMul, Nat.reduceSub, Nat.add_zero, Nat.zero_add, Int.reduceEq, Int.reduceLT]
  refine hK _ _ _ (by simp only [go_sem, Nat.reduceEqDiff, Nat.reduceLT, Nat.reduceAdd, Nat.reduceMul, Nat.reduceSub, Nat.add_zero, Nat.zero_add, Int.reduceEq, Int.reduceLT]; rfl) ?_; clear hK
  refine AWP.stepX [2] [(2, .bool (numOk x))] M (fun K hK => ?_) ?_
  · cases h0 : decide (x ≥ 0) <;> simp only [go_sem, Nat.reduceEqDiff, Nat.reduceLT, Nat.reduceAdd, Nat.reduceMul, Nat.reduceSub, Nat.add_zero, Nat.zero_add, Int.reduceEq, Int.reduceLT, h0] <;> refine hK _ ?_ <;> simp only [go_sem, Nat.reduceEqDiff, Nat.reduceLT, Nat.reduceAdd, Nat.reduceMul, Nat.reduceSub, Nat.add_zero, Nat.zero_add, Int.reduceEq, Int.reduceLT, numOk, ge_iff_le] at h0 ⊢ <;> simp only [h0, Bool.true_and, Bool.false_and]
  · exact AWP.ret (Fin.plain (.inr rfl) rfl rfl hok (Grew.refl _) ⟨rfl, rfl⟩)

theorem small46_spec (v : Value) (l : List Int) (M : Mem) (hok : Ok M) (hv : Row_ M v l.length (l.map (.int .i64))) (hl : l.length ≤ 1000000) : ∃ r M', ACall Try.prog 46 #[v] M r M' ∧ r = .bool (l.all numOk) ∧ M' = M := by
  refine ACall.fin (args := [v]) (k := 18) Try.func46 rfl rfl rfl (Nat.le_of_ble_eq_true rfl) ?_
  refine AWP.stepR [0] fun K hK => ?_ -- r0
  simp only [go_sem, Nat.reduceEqDiff, Nat.reduceLT, Nat.reduceAdd, Nat.reduceMul, Nat.reduceSub, Nat.add_zero, Nat.zero_add, Int.reduceEq, Int.reduceLT]
  refine hK _ _ _ (by simp only [go_sem, Nat.reduceEqDiff, Nat.reduceLT, Nat.reduceAdd, Nat.reduceMul, Nat.reduceSub, Nat.add_zero, Nat.zero_add, Int.reduceEq, Int.reduceLT]; rfl) ?_; clear hK
  refine AWP.seq ?_
  refine AWP.stepR [5, 6, 7] fun K hK => ?_ -- r1
  simp only [go_sem, Nat.reduceEqDiff, Nat.reduceLT, Nat.reduceAdd, Nat.reduceMul, Nat.reduceSub, Nat.add_zero, Nat.zero_add, Int.reduceEq, Int.reduceLT, hv.len (P := Try.prog) (t := 66) (sz := 1) (by kernel_rfl)]
  refine hK _ _ _ (by simp only [go_sem, Nat.reduceEqDiff, Nat.reduceLT, Nat.reduceAdd, Nat.reduceMul, Nat.reduceSub, Nat.add_zero, Nat.zero_add, Int.reduceEq, Int.reduceLT]; rfl) ?_; clear hK
  refine AWP.block ?_ -- b0
  refine AWP.loopK [5, 6, 7] (fun n e M0 => M0 = M ∧ n ≤ l.length ∧ e = [(5, v), (6, .int .i64 l.length), (7, .int .i64 ((l.length - n : Nat) : Int))] ∧ (l.take (l.length - n)).all numOk = true) l.length ?_ fun n e M0 hI => ?_ -- LOOP
  · simp only [go_sem, Nat.reduceEqDiff, Nat.reduceLT, Nat.reduceAdd, Nat.reduceMul, Nat.reduceSub, Nat.add_zero, Nat.zero_add, Int.reduceEq, Int.reduceLT, true_and, Nat.le_refl]
    exact ⟨by simp, by simp⟩
  obtain ⟨rfl, hn, rfl, hall⟩ := hI
  refine AWP.stepR [5, 6, 7, 8] fun K hK => ?_ -- r2
  simp only [go_sem, Nat.reduceEqDiff, Nat.reduceLT, Nat.reduceAdd, Nat.reduceMul, Nat.reduceSub, Nat.add_zero, Nat.zero_add, Int.reduceEq, Int.reduceLT]
  refine hK _ _ _ (by simp only [go_sem, Nat.reduceEqDiff, Nat.reduceLT, Nat.reduceAdd, Nat.reduceMul, Nat.reduceSub, Nat.add_zero, Nat.zero_add, Int.reduceEq, Int.reduceLT]; rfl) ?_; clear hK
  refine AWP.condS rfl (fun h => ?_) fun h => ?_ -- if (tmp 8)
  · refine AWP.skip ?_
    have hlt : l.length - n < l.length := by simpa using h
    obtain ⟨b, q, ha, hd⟩ := hv.at1 (by simp) (P := Try.prog) (t := 66) (by kernel_rfl) hlt
    have hd := hd M0 (Grew.refl _)
    rw [show (l.map (Value.int .i64))[l.length - n]? = some (.int .i64 l[l.length - n]) by simp [hlt]] at hd
    generalize hxx : l[l.length - n] = x at hd
    refine AWP.seq ?_
    refine AWP.block ?_ -- b1
    refine AWP.stepR [4, 5, 6, 7] fun K hK => ?_ -- r3
    simp only [go_sem, Nat.reduceEqDiff, Nat.reduceLT, Nat.reduceAdd, Nat.reduceMul, Nat.reduceSub, Nat.add_zero, Nat.zero_add, Int.reduceEq, Int.reduceLT, ha, ld_3, hd]
    refine hK _ _ _ (by simp only [go_sem, Nat.reduceEqDiff, Nat.reduceLT, Nat.reduceAdd, Nat.reduceMul, Nat.reduceSub, Nat.add_zero, Nat.zero_add, Int.reduceEq, Int.reduceLT]; rfl) ?_; clear hK
    refine AWP.stepX [5, 6, 7, 16] [(5, v), (6, .int .i64 l.length), (7, .int .i64 ((l.length - n : Nat) : Int)), (16, .bool (!numOk x))] M0 (fun K hK => ?_) ?_ -- r4
    · cases h0 : decide (x < 0) <;> simp only [go_sem, Nat.reduceEqDiff, Nat.reduceLT, Nat.reduceAdd, Nat.reduceMul, Nat.reduceSub, Nat.add_zero, Nat.zero_add, Int.reduceEq, Int.reduceLT, h0] <;> refine hK _ ?_ <;> simp only [go_sem, Nat.reduceEqDiff, Nat.reduceLT, Nat.reduceAdd, Nat.reduceMul, Nat.reduceSub, Nat.add_zero, Nat.zero_add, Int.reduceEq, Int.reduceLT]
      · rw [show decide (x > 1099511627776) = !numOk x by rw [Bool.eq_iff_iff]; simp [numOk] at h0 ⊢; omega]
      · rw [show true = !numOk x by rw [Bool.eq_iff_iff]; simp [numOk] at h0 ⊢; omega]
    refine AWP.cond_split rfl (fun h => ?_) fun h => ?_ -- if (tmp 16)
    · refine AWP.stepR [2] fun K hK => ?_ -- r5
      simp only [go_sem, Nat.reduceEqDiff, Nat.reduceLT, Nat.reduceAdd, Nat.reduceMul, Nat.reduceSub, Nat.add_zero, Nat.zero_add, Int.reduceEq, Int.reduceLT]
      refine hK _ _ _ (by simp only [go_sem, Nat.reduceEqDiff, Nat.reduceLT, Nat.reduceAdd, Nat.reduceMul, Nat.reduceSub, Nat.add_zero, Nat.zero_add, Int.reduceEq, Int.reduceLT]; rfl) ?_; clear hK
      refine AWP.ret (InBlock.ret (Then.ret (Then.ret (InBlock.ret (Then.ret (?_))))))
      refine Fin.plain (.inr rfl) rfl rfl hok (Grew.refl _) ⟨?_, rfl⟩
      rw [show l.all numOk = false from List.all_eq_false.2 ⟨x, hxx ▸ List.getElem_mem hlt, by simpa using h⟩]
    · refine AWP.skip ?_
      refine AWP.lastR fun K hK => ?_ -- r6
      simp only [go_sem, Nat.reduceEqDiff, Nat.reduceLT, Nat.reduceAdd, Nat.reduceMul, Nat.reduceSub, Nat.add_zero, Nat.zero_add, Int.reduceEq, Int.reduceLT]
      refine hK _ _ ?_; clear hK
      refine ⟨n - 1, by omega, rfl, by omega, ?_, ?_⟩ -- ROUND
      · simp only [go_sem, Nat.reduceEqDiff, Nat.reduceLT, Nat.reduceAdd, Nat.reduceMul, Nat.reduceSub, Nat.add_zero, Nat.zero_add, Int.reduceEq, Int.reduceLT]
        rw [i64w (by omega) (by omega), show ((l.length - n : Nat) : Int) + 1 = ((l.length - (n - 1) : Nat) : Int) by omega]
      · rw [show l.length - (n - 1) = l.length - n + 1 by omega, List.take_succ_eq_append_getElem hlt, List.all_append, hall, hxx]
        simpa using h
  · refine AWP.exit (Then.exit (Then.exit (InBlock.same ?_))) -- x0
    refine AWP.stepR [2] fun K hK => ?_ -- r7
    simp only [go_sem, Nat.reduceEqDiff, Nat.reduceLT, Nat.reduceAdd, Nat.reduceMul, Nat.reduceSub, Nat.add_zero, Nat.zero_add, Int.reduceEq, Int.reduceLT]
    refine hK _ _ _ (by simp only [go_sem, Nat.reduceEqDiff, Nat.reduceLT, Nat.reduceAdd, Nat.reduceMul, Nat.reduceSub, Nat.add_zero, Nat.zero_add, Int.reduceEq, Int.reduceLT]; rfl) ?_; clear hK
    refine AWP.ret (?_)
    refine Fin.plain (.inr rfl) rfl rfl hok (Grew.refl _) ⟨?_, rfl⟩
    have hn0 : n = 0 := by simp at h; omega
    rw [hn0, Nat.sub_zero, List.take_length] at hall
    rw [hall]

theorem same14_spec (v w : Value) (l m : List Int) (M : Mem) (hok : Ok M) (hv : RowB M v l) (hw : RowB M w m) (hl : l.length ≤ 4611686018427387904) : ∃ r M', ACall Try.prog 14 #[v, w] M r M' ∧ r = .bool (l == m) ∧ M' = M := by
  refine ACall.fin (args := [v, w]) (k := 26) Try.func14 rfl rfl rfl (Nat.le_of_ble_eq_true rfl) ?_
  refine AWP.stepR [0, 1] fun K hK => ?_ -- r0
  simp only [go_sem, Nat.reduceEqDiff, Nat.reduceLT, Nat.reduceAdd, Nat.reduceMul, Nat.reduceSub, Nat.add_zero, Nat.zero_add, Int.reduceEq, Int.reduceLT]
  refine hK _ _ _ (by simp only [go_sem, Nat.reduceEqDiff, Nat.reduceLT, Nat.reduceAdd, Nat.reduceMul, Nat.reduceSub, Nat.add_zero, Nat.zero_add, Int.reduceEq, Int.reduceLT]; rfl) ?_; clear hK
  refine AWP.seq ?_
  refine AWP.stepR [0, 1, 10] fun K hK => ?_ -- r1
  simp only [go_sem, Nat.reduceEqDiff, Nat.reduceLT, Nat.reduceAdd, Nat.reduceMul, Nat.reduceSub, Nat.add_zero, Nat.zero_add, Int.reduceEq, Int.reduceLT, hv.len (P := Try.prog) (t := 23) (sz := 1) (by kernel_rfl), hw.len (P := Try.prog) (t := 23) (sz := 1) (by kernel_rfl)]
  refine hK _ _ _ (by simp only [go_sem, Nat.reduceEqDiff, Nat.reduceLT, Nat.reduceAdd, Nat.reduceMul, Nat.reduceSub, Nat.add_zero, Nat.zero_add, Int.reduceEq, Int.reduceLT]; rfl) ?_; clear hK
  refine AWP.cond_split rfl (fun h => ?_) fun h => ?_ -- if (tmp 10)
  · refine AWP.stepR [4] fun K hK => ?_ -- r2
    simp only [go_sem, Nat.reduceEqDiff, Nat.reduceLT, Nat.reduceAdd, Nat.reduceMul, Nat.reduceSub, Nat.add_zero, Nat.zero_add, Int.reduceEq, Int.reduceLT]
    refine hK _ _ _ (by simp only [go_sem, Nat.reduceEqDiff, Nat.reduceLT, Nat.reduceAdd, Nat.reduceMul, Nat.reduceSub, Nat.add_zero, Nat.zero_add, Int.reduceEq, Int.reduceLT]; rfl) ?_; clear hK
    refine AWP.ret (Then.ret (?_))
    refine Fin.plain (.inr rfl) rfl rfl hok (Grew.refl _) ⟨?_, rfl⟩
    rw [beq_eq_false_iff_ne.2]
    rintro rfl
    simp at h
  · have hlen : l.length = m.length := by simp at h; omega
    refine AWP.skip ?_
    refine AWP.seq ?_
    refine AWP.stepR [0, 1, 5] fun K hK => ?_ -- r3
    simp only [go_sem, Nat.reduceEqDiff, Nat.reduceLT, Nat.reduceAdd, Nat.reduceMul, Nat.reduceSub, Nat.add_zero, Nat.zero_add, Int.reduceEq, Int.reduceLT]
    refine hK _ _ _ (by simp only [go_sem, Nat.reduceEqDiff, Nat.reduceLT, Nat.reduceAdd, Nat.reduceMul, Nat.reduceSub, Nat.add_zero, Nat.zero_add, Int.reduceEq, Int.reduceLT]; rfl) ?_; clear hK
    refine AWP.block ?_ -- b0
    refine AWP.loopK [0, 1, 5] (fun n e M0 => M0 = M ∧ n ≤ l.length ∧ e = [(0, v), (1, w), (5, .int .i64 ((l.length - n : Nat) : Int))] ∧ l.take (l.length - n) = m.take (l.length - n)) l.length ?_ fun n e M0 hI => ?_ -- LOOP
    · simp only [go_sem, Nat.reduceEqDiff, Nat.reduceLT, Nat.reduceAdd, Nat.reduceMul, Nat.reduceSub, Nat.add_zero, Nat.zero_add, Int.reduceEq, Int.reduceLT, true_and, Nat.le_refl]
      exact ⟨by simp, by simp⟩
    obtain ⟨rfl, hn, rfl, hall⟩ := hI
    refine AWP.seq ?_
    refine AWP.stepR [0, 1, 5, 14] fun K hK => ?_ -- r4
    simp only [go_sem, Nat.reduceEqDiff, Nat.reduceLT, Nat.reduceAdd, Nat.reduceMul, Nat.reduceSub, Nat.add_zero, Nat.zero_add, Int.reduceEq, Int.reduceLT, hv.len (P := Try.prog) (t := 23) (sz := 1) (by kernel_rfl)]
    refine hK _ _ _ (by simp only [go_sem, Nat.reduceEqDiff, Nat.reduceLT, Nat.reduceAdd, Nat.reduceMul, Nat.reduceSub, Nat.add_zero, Nat.zero_add, Int.reduceEq, Int.reduceLT]; rfl) ?_; clear hK
    refine AWP.cond_split rfl (fun h => ?_) fun h => ?_ -- if (tmp 14)
    · have hlt : l.length - n < l.length := by simpa using h
      have hlt' : l.length - n < m.length := by omega
      obtain ⟨b, q, ha, hd⟩ := hv.at1 (by simp [cB]) (P := Try.prog) (t := 23) (by kernel_rfl) hlt
      have hd := hd M0 (Grew.refl _)
      rw [show (cB l)[l.length - n]? = some (.int .u8 l[l.length - n]) by simp [cB, hlt]] at hd
      obtain ⟨b', q', ha', hd'⟩ := hw.at1 (by simp [cB]) (P := Try.prog) (t := 23) (by kernel_rfl) hlt'
      have hd' := hd' M0 (Grew.refl _)
      rw [show (cB m)[l.length - n]? = some (.int .u8 m[l.length - n]) by simp [cB, hlt']] at hd'
      generalize hxx : l[l.length - n] = x at hd
      generalize hyy : m[l.length - n] = y at hd'
      refine AWP.skip ?_
      refine AWP.seq ?_
      refine AWP.block ?_ -- b1
      refine AWP.stepD hmo [0, 1, 2, 3, 4, 5, 6, 7, 8] [0, 0, 3, 7, 0, 0, 48, 112, 255] [] [] (by kernel_rfl) [0, 1, 5, 25] fun K hK => ?_ -- r6
      simp only [go_sem, Nat.reduceEqDiff, Nat.reduceLT, Nat.reduceAdd, Nat.reduceMul, Nat.reduceSub, Nat.add_zero, Nat.zero_add, Int.reduceEq, Int.reduceLT, ha, hd, ha', hd', ld_5]
      refine hK _ _ _ (by simp only [go_sem, Nat.reduceEqDiff, Nat.reduceLT, Nat.reduceAdd, Nat.reduceMul, Nat.reduceSub, Nat.add_zero, Nat.zero_add, Int.reduceEq, Int.reduceLT]; rfl) ?_; clear hK
      refine AWP.cond_split rfl (fun h25 => ?_) fun h25 => ?_
      · refine AWP.stepR [4] fun K hK => ?_ -- r7
        simp only [go_sem, Nat.reduceEqDiff, Nat.reduceLT, Nat.reduceAdd, Nat.reduceMul, Nat.reduceSub, Nat.add_zero, Nat.zero_add, Int.reduceEq, Int.reduceLT]
        refine hK _ _ _ (by simp only [go_sem, Nat.reduceEqDiff, Nat.reduceLT, Nat.reduceAdd, Nat.reduceMul, Nat.reduceSub, Nat.add_zero, Nat.zero_add, Int.reduceEq, Int.reduceLT]; rfl) ?_; clear hK
        refine AWP.ret (InBlock.ret (Then.ret (Then.ret (InBlock.ret (Then.ret ?_)))))
        refine Fin.plain (.inr rfl) rfl rfl hok (Grew.refl _) ⟨?_, rfl⟩
        rw [beq_eq_false_iff_ne.2]
        rintro rfl
        simp [← hxx, ← hyy] at h25
      · refine AWP.skip ?_
        refine AWP.lastR fun K hK => ?_ -- r5
        simp only [go_sem, Nat.reduceEqDiff, Nat.reduceLT, Nat.reduceAdd, Nat.reduceMul, Nat.reduceSub, Nat.add_zero, Nat.zero_add, Int.reduceEq, Int.reduceLT]
        refine hK _ _ ?_; clear hK
        refine ⟨n - 1, by omega, rfl, by omega, ?_, ?_⟩ -- ROUND
        · simp only [go_sem, Nat.reduceEqDiff, Nat.reduceLT, Nat.reduceAdd, Nat.reduceMul, Nat.reduceSub, Nat.add_zero, Nat.zero_add, Int.reduceEq, Int.reduceLT]
          rw [i64w (by omega) (by omega), show ((l.length - n : Nat) : Int) + 1 = ((l.length - (n - 1) : Nat) : Int) by omega]
        · rw [show l.length - (n - 1) = l.length - n + 1 by omega, List.take_succ_eq_append_getElem hlt, List.take_succ_eq_append_getElem hlt', hall, hxx, hyy]
          simp at h25
          rw [h25]
    · refine AWP.exit (Then.exit (Then.exit (InBlock.same ?_))) -- x0
      refine AWP.stepR [4] fun K hK => ?_ -- r8
      simp only [go_sem, Nat.reduceEqDiff, Nat.reduceLT, Nat.reduceAdd, Nat.reduceMul, Nat.reduceSub, Nat.add_zero, Nat.zero_add, Int.reduceEq, Int.reduceLT]
      refine hK _ _ _ (by simp only [go_sem, Nat.reduceEqDiff, Nat.reduceLT, Nat.reduceAdd, Nat.reduceMul, Nat.reduceSub, Nat.add_zero, Nat.zero_add, Int.reduceEq, Int.reduceLT]; rfl) ?_; clear hK
      refine AWP.ret (?_)
      refine Fin.plain (.inr rfl) rfl rfl hok (Grew.refl _) ⟨?_, rfl⟩
      have hn0 : n = 0 := by simp at h; omega
      rw [hn0, Nat.sub_zero, List.take_length, hlen, List.take_length] at hall
      rw [hall, beq_self_eq_true]
end Go.Proofs.Ythheaehpnleiaaa.AX
