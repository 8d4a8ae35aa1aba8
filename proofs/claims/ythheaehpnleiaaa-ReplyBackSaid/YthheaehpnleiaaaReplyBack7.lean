/- Small functions: a bit, a number's range, like bytes. -/
import Derived.Test.YthheaehpnleiaaaReplyBack6
import Derived.Test.YthheaehpnleiaaaReplyBack5
namespace Go.Proofs.Ythheaehpnleiaaa.AX
open Go Go.Proofs
set_option maxRecDepth 100000
set_option linter.unusedVariables false
set_option linter.unusedSimpArgs false

theorem hmo : Try.prog.follows .mixedOrders = true := by kernel_rfl
def numOk (x : Int) : Bool := decide (0 ≤ x) && decide (x ≤ 1099511627776)
theorem small46_spec (v : Value) (l : List Int) (M : Mem) (hok : Ok M) (hv : Row_ M v l.length (l.map (.int .i64))) (hl : l.length ≤ 1000000) : ∃ r M', ACall Try.prog 46 #[v] M r M' ∧ r = .bool (l.all numOk) ∧ M' = M := by
  refine ACall.fin (args := [v]) (k := 18) Try.func46 rfl rfl rfl (Nat.le_of_ble_eq_true rfl) ?_
  refine AWP.stepR [0] fun K hK => ?_ -- r0
  simp only [go_sem, Nat.reduceEqDiff, Nat.reduceLT, Nat.reduceAdd, Nat.reduceMul, Nat.reduceSub, Nat.add_zero, Nat.zero_add, Int.reduceEq, Int.reduceLT]
  refine hK _ _ _ (by simp only [go_sem, Nat.reduceEqDiff, Nat.reduceLT, Nat.reduceAdd, Nat.reduceMul, Nat.reduceSub, Nat.add_zero, Nat.zero_add, Int.reduceEq, Int.reduceLT]; rfl) ?_; clear hK
  refine AWP.seq ?_
  refine AWP.stepR [5, 6, 7] fun K hK => ?_ -- r1
  simp only [go_sem, Nat.reduceEqDiff, Nat.reduceLT, Nat.reduceAdd, Nat.reduceMul, Nat.reduceSub, Nat.add_zero, Nat.zero_add, Int.reduceEq, Int.reduceLT, hv.len (P := Try.prog) (t := 66) (sz := 1) (by kernel_rfl)]
  refine hK _ _ _ (by simp only [go_sem, Nat.reduceEqDiff, Nat.reduceLT, Nat.reduceAdd, Nat.reduceMul, Nat.reduceSub, Nat.add_zero, Nat.zero_add, Int.reduceEq, Int.reduceLT]; rfl) ?_; clear hK
  refine AWP.block ?_ -- b0
  refine AWP.loopK [5, 6, 7] (fun n e M0 => M0 = M ∧ n ≤ l.length ∧ e = [(5, v), (6, .int .i64 l.length), (7, .int .i64 ((l.length - n : Nat) : Int))] ∧ (l.take (l.length - n)).all numOk = true) l.length ?_ fun n e M0 hI => ?_ -- LOOP
  · simp only [go_sem, Nat.reduceEqDiff, Nat.reduceLT, Nat.reduceAdd, Nat.reduceMul, Nat.reduceSub, Nat.add_zero, Nat.zero_add, Int.reduceEq, Int.reduceLT, true_and, Nat.le_refl]
    exact ⟨by simp, by simp⟩
  obtain ⟨rfl, hn, rfl, hall⟩ := hI
  refine AWP.stepR [5, 6, 7, 8] fun K hK => ?_ -- r2
  simp only [go_sem, Nat.reduceEqDiff, Nat.reduceLT, Nat.reduceAdd, Nat.reduceMul, Nat.reduceSub, Nat.add_zero, Nat.zero_add, Int.reduceEq, Int.reduceLT]
  refine hK _ _ _ (by simp only [go_sem, Nat.reduceEqDiff, Nat.reduceLT, Nat.reduceAdd, Nat.reduceMul, Nat.reduceSub, Nat.add_zero, Nat.zero_add, Int.reduceEq, Int.reduceLT]; rfl) ?_; clear hK
  refine AWP.condS rfl (fun h => ?_) fun h => ?_ -- if (tmp 8)
  · refine AWP.skip ?_
    have hlt : l.length - n < l.length := by simpa using h
    obtain ⟨b, q, ha, hd⟩ := hv.at1 (by simp) (P := Try.prog) (t := 66) (by kernel_rfl) hlt
    have hd := hd M0 (Grew.refl _)
    rw [show (l.map (Value.int .i64))[l.length - n]? = some (.int .i64 l[l.length - n]) by simp [hlt]] at hd
    generalize hxx : l[l.length - n] = x at hd
    refine AWP.seq ?_
    refine AWP.block ?_ -- b1
    refine AWP.stepR [4, 5, 6, 7] fun K hK => ?_ -- r3
    simp only [go_sem, Nat.reduceEqDiff, Nat.reduceLT, Nat.reduceAdd, Nat.reduceMul, Nat.reduceSub, Nat.add_zero, Nat.zero_add, Int.reduceEq, Int.reduceLT, ha, ld_3, hd]
    refine hK _ _ _ (by simp only [go_sem, Nat.reduceEqDiff, Nat.reduceLT, Nat.reduceAdd, Nat.reduceMul, Nat.reduceSub, Nat.add_zero, Nat.zero_add, Int.reduceEq, Int.reduceLT]; rfl) ?_; clear hK
    refine AWP.stepX [5, 6, 7, 16] [(5, v), (6, .int .i64 l.length), (7, .int .i64 ((l.length - n : Nat) : Int)), (16, .bool (!numOk x))] M0 (fun K hK => ?_) ?_ -- r4
    · cases h0 : decide (x < 0) <;> simp only [go_sem, Nat.reduceEqDiff, Nat.reduceLT, Nat.reduceAdd, Nat.reduceMul, Nat.reduceSub, Nat.add_zero, Nat.zero_add, Int.reduceEq, Int.reduceLT, h0] <;> refine hK _ ?_ <;> simp only [go_sem, Nat.reduceEqDiff, Nat.reduceLT, Nat.reduceAdd, Nat.reduceMul, Nat.reduceSub, Nat.add_zero, Nat.zero_add, Int.reduceEq, Int.reduceLT]
      · rw [show decide (x > 1099511627776) = !numOk x by rw [Bool.eq_iff_iff]; simp [numOk] at h0 ⊢; omega]
      · rw [show true = !numOk x by rw [Bool.eq_iff_iff]; simp [numOk] at h0 ⊢; omega]
    refine AWP.cond_split rfl (fun h => ?_) fun h => ?_ -- if (tmp 16)
    · refine AWP.stepR [2] fun K hK => ?_ -- r5
      simp only [go_sem, Nat.reduceEqDiff, Nat.reduceLT, Nat.reduceAdd, Nat.reduceMul, Nat.reduceSub, Nat.add_zero, Nat.zero_add, Int.reduceEq, Int.reduceLT]
      refine hK _ _ _ (by simp only [go_sem, Nat.reduceEqDiff, Nat.reduceLT, Nat.reduceAdd, Nat.reduceMul, Nat.reduceSub, Nat.add_zero, Nat.zero_add, Int.reduceEq, Int.reduceLT]; rfl) ?_; clear hK
      refine AWP.ret (InBlock.ret (Then.ret (Then.ret (InBlock.ret (Then.ret (?_))))))
      refine Fin.plain (.inr rfl) rfl rfl hok (Grew.refl _) ⟨?_, rfl⟩
      rw [show l.all numOk = false from List.all_eq_false.2 ⟨x, hxx ▸ List.getElem_mem hlt, by simpa using h⟩]
    · refine AWP.skip ?_
      refine AWP.lastR fun K hK => ?_ -- r6
      simp only [go_sem, Nat.reduceEqDiff, Nat.reduceLT, Nat.reduceAdd, Nat.reduceMul, Nat.reduceSub, Nat.add_zero, Nat.zero_add, Int.reduceEq, Int.reduceLT]
      refine hK _ _ ?_; clear hK
      refine ⟨n - 1, by omega, rfl, by omega, ?_, ?_⟩ -- ROUND
      · simp only [go_sem, Nat.reduceEqDiff, Nat.reduceLT, Nat.reduceAdd, Nat.reduceMul, Nat.reduceSub, Nat.add_zero, Nat.zero_add, Int.reduceEq, Int.reduceLT]
        rw [i64w (by omega) (by omega), show ((l.length - n : Nat) : Int) + 1 = ((l.length - (n - 1) : Nat) : Int) by omega]
      · rw [show l.length - (n - 1) = l.length - n + 1 by omega, List.take_succ_eq_append_getElem hlt, List.all_append, hall, hxx]
        simpa using h
  · refine AWP.exit (Then.exit (Then.exit (InBlock.same ?_))) -- x0
    refine AWP.stepR [2] fun K hK => ?_ -- r7
    simp only [go_sem, Nat.reduceEqDiff, Nat.reduceLT, Nat.reduceAdd, Nat.reduceMul, Nat.reduceSub, Nat.add_zero, Nat.zero_add, Int.reduceEq, Int.reduceLT]
    refine hK _ _ _ (by simp only [go_sem, Nat.reduceEqDiff, Nat.reduceLT, Nat.reduceAdd, Nat.reduceMul, Nat.reduceSub, Nat.add_zero, Nat.zero_add, Int.reduceEq, Int.reduceLT]; rfl) ?_; clear hK
    refine AWP.ret (?_)
    refine Fin.plain (.inr rfl) rfl rfl hok (Grew.refl _) ⟨?_, rfl⟩
    have hn0 : n = 0 := by simp at h; omega
    rw [hn0, Nat.sub_zero, List.take_length] at hall
    rw [hall]

theorem same14_spec (v w : Value) (l m : List Int) (M : Mem) (hok : Ok M) (hv : RowB M v l) (hw : RowB M w m) (hl : l.length ≤ 4611686018427387904) : ∃ r M', ACall Try.prog 14 #[v, w] M r M' ∧ r = .bool (l == m) ∧ M' = M := by
  refine ACall.fin (args := [v, w]) (k := 26) Try.func14 rfl rfl rfl (Nat.le_of_ble_eq_true rfl) ?_
  refine AWP.stepR [0, 1] fun K hK => ?_ -- r0
  simp only [go_sem, Nat.reduceEqDiff, Nat.reduceLT, Nat.reduceAdd, Nat.reduceMul, Nat.reduceSub, Nat.add_zero, Nat.zero_add, Int.reduceEq, Int.reduceLT]
  refine hK _ _ _ (by simp only [go_sem, Nat.reduceEqDiff, Nat.reduceLT, Nat.reduceAdd, Nat.reduceMul, Nat.reduceSub, Nat.add_zero, Nat.zero_add, Int.reduceEq, Int.reduceLT]; rfl) ?_; clear hK
  refine AWP.seq ?_
  refine AWP.stepR [0, 1, 10] fun K hK => ?_ -- r1
  simp only [go_sem, Nat.reduceEqDiff, Nat.reduceLT, Nat.reduceAdd, Nat.reduceMul, Nat.reduceSub, Nat.add_zero, Nat.zero_add, Int.reduceEq, Int.reduceLT, hv.len (P := Try.prog) (t := 23) (sz := 1) (by kernel_rfl), hw.len (P := Try.prog) (t := 23) (sz := 1) (by kernel_rfl)]
  refine hK _ _ _ (by simp only [go_sem, Nat.reduceEqDiff, Nat.reduceLT, Nat.reduceAdd, Nat.reduceMul, Nat.reduceSub, Nat.add_zero, Nat.zero_add, Int.reduceEq, Int.reduceLT]; rfl) ?_; clear hK
  refine AWP.cond_split rfl (fun h => ?_) fun h => ?_ -- if (tmp 10)
  · refine AWP.stepR [4] fun K hK => ?_ -- r2
    simp only [go_sem, Nat.reduceEqDiff, Nat.reduceLT, Nat.reduceAdd, Nat.reduceMul, Nat.reduceSub, Nat.add_zero, Nat.zero_add, Int.reduceEq, Int.reduceLT]
    refine hK _ _ _ (by simp only [go_sem, Nat.reduceEqDiff, Nat.reduceLT, Nat.reduceAdd, Nat.reduceMul, Nat.reduceSub, Nat.add_zero, Nat.zero_add, Int.reduceEq, Int.reduceLT]; rfl) ?_; clear hK
    refine AWP.ret (Then.ret (?_))
    refine Fin.plain (.inr rfl) rfl rfl hok (Grew.refl _) ⟨?_, rfl⟩
    rw [beq_eq_false_iff_ne.2]
    rintro rfl
    simp at h
  · have hlen : l.length = m.length := by simp at h; omega
    refine AWP.skip ?_
    refine AWP.seq ?_
    refine AWP.stepR [0, 1, 5] fun K hK => ?_ -- r3
    simp only [go_sem, Nat.reduceEqDiff, Nat.reduceLT, Nat.reduceAdd, Nat.reduceMul, Nat.reduceSub, Nat.add_zero, Nat.zero_add, Int.reduceEq, Int.reduceLT]
    refine hK _ _ _ (by simp only [go_sem, Nat.reduceEqDiff, Nat.reduceLT, Nat.reduceAdd, Nat.reduceMul, Nat.reduceSub, Nat.add_zero, Nat.zero_add, Int.reduceEq, Int.reduceLT]; rfl) ?_; clear hK
    refine AWP.block ?_ -- b0
    refine AWP.loopK [0, 1, 5] (fun n e M0 => M0 = M ∧ n ≤ l.length ∧ e = [(0, v), (1, w), (5, .int .i64 ((l.length - n : Nat) : Int))] ∧ l.take (l.length - n) = m.take (l.length - n)) l.length ?_ fun n e M0 hI => ?_ -- LOOP
    · simp only [go_sem, Nat.reduceEqDiff, Nat.reduceLT, Nat.reduceAdd, Nat.reduceMul, Nat.reduceSub, Nat.add_zero, Nat.zero_add, Int.reduceEq, Int.reduceLT, true_and, Nat.le_refl]
      exact ⟨by simp, by simp⟩
    obtain ⟨rfl, hn, rfl, hall⟩ := hI
    refine AWP.seq ?_
    refine AWP.stepR [0, 1, 5, 14] fun K hK => ?_ -- r4
    simp only [go_sem, Nat.reduceEqDiff, Nat.reduceLT, Nat.reduceAdd, Nat.reduceMul, Nat.reduceSub, Nat.add_zero, Nat.zero_add, Int.reduceEq, Int.reduceLT, hv.len (P := Try.prog) (t := 23) (sz := 1) (by kernel_rfl)]
    refine hK _ _ _ (by simp only [go_sem, Nat.reduceEqDiff, Nat.reduceLT, Nat.reduceAdd, Nat.reduceMul, Nat.reduceSub, Nat.add_zero, Nat.zero_add, Int.reduceEq, Int.reduceLT]; rfl) ?_; clear hK
    refine AWP.cond_split rfl (fun h => ?_) fun h => ?_ -- if (tmp 14)
    · have hlt : l.length - n < l.length := by simpa using h
      have hlt' : l.length - n < m.length := by omega
      obtain ⟨b, q, ha, hd⟩ := hv.at1 (by simp [cB]) (P := Try.prog) (t := 23) (by kernel_rfl) hlt
      have hd := hd M0 (Grew.refl _)
      rw [show (cB l)[l.length - n]? = some (.int .u8 l[l.length - n]) by simp [cB, hlt]] at hd
      obtain ⟨b', q', ha', hd'⟩ := hw.at1 (by simp [cB]) (P := Try.prog) (t := 23) (by kernel_rfl) hlt'
      have hd' := hd' M0 (Grew.refl _)
      rw [show (cB m)[l.length - n]? = some (.int .u8 m[l.length - n]) by simp [cB, hlt']] at hd'
      generalize hxx : l[l.length - n] = x at hd
      generalize hyy : m[l.length - n] = y at hd'
      refine AWP.skip ?_
      refine AWP.seq ?_
      refine AWP.block ?_ -- b1
      refine AWP.stepD hmo [0, 1, 2, 3, 4, 5, 6, 7, 8] [0, 0, 3, 7, 0, 0, 48, 112, 255] [] [] (by kernel_rfl) [0, 1, 5, 25] fun K hK => ?_ -- r6
      simp only [go_sem, Nat.reduceEqDiff, Nat.reduceLT, Nat.reduceAdd, Nat.reduceMul, Nat.reduceSub, Nat.add_zero, Nat.zero_add, Int.reduceEq, Int.reduceLT, ha, hd, ha', hd', ld_5]
      refine hK _ _ _ (by simp only [go_sem, Nat.reduceEqDiff, Nat.reduceLT, Nat.reduceAdd, Nat.reduceMul, Nat.reduceSub, Nat.add_zero, Nat.zero_add, Int.reduceEq, Int.reduceLT]; rfl) ?_; clear hK
      refine AWP.cond_split rfl (fun h25 => ?_) fun h25 => ?_
      · refine AWP.stepR [4] fun K hK => ?_ -- r7
        simp only [go_sem, Nat.reduceEqDiff, Nat.reduceLT, Nat.reduceAdd, Nat.reduceMul, Nat.reduceSub, Nat.add_zero, Nat.zero_add, Int.reduceEq, Int.reduceLT]
        refine hK _ _ _ (by simp only [go_sem, Nat.reduceEqDiff, Nat.reduceLT, Nat.reduceAdd, Nat.reduceMul, Nat.reduceSub, Nat.add_zero, Nat.zero_add, Int.reduceEq, Int.reduceLT]; rfl) ?_; clear hK
        refine AWP.ret (InBlock.ret (Then.ret (Then.ret (InBlock.ret (Then.ret ?_)))))
        refine Fin.plain (.inr rfl) rfl rfl hok (Grew.refl _) ⟨?_, rfl⟩
        rw [beq_eq_false_iff_ne.2]
        rintro rfl
        simp [← hxx, ← hyy] at h25
      · refine AWP.skip ?_
        refine AWP.lastR fun K hK => ?_ -- r5
        simp only [go_sem, Nat.reduceEqDiff, Nat.reduceLT, Nat.reduceAdd, Nat.reduceMul, Nat.reduceSub, Nat.add_zero, Nat.zero_add, Int.reduceEq, Int.reduceLT]
        refine hK _ _ ?_; clear hK
        refine ⟨n - 1, by omega, rfl, by omega, ?_, ?_⟩ -- ROUND
        · simp only [go_sem, Nat.reduceEqDiff, Nat.reduceLT, Nat.reduceAdd, Nat.reduceMul, Nat.reduceSub, Nat.add_zero, Nat.zero_add, Int.reduceEq, Int.reduceLT]
          rw [i64w (by omega) (by omega), show ((l.length - n : Nat) : Int) + 1 = ((l.length - (n - 1) : Nat) : Int) by omega]
        · rw [show l.length - (n - 1) = l.length - n + 1 by omega, List.take_succ_eq_append_getElem hlt, List.take_succ_eq_append_getElem hlt', hall, hxx, hyy]
          simp at h25
          rw [h25]
    · refine AWP.exit (Then.exit (Then.exit (InBlock.same ?_))) -- x0
      refine AWP.stepR [4] fun K hK => ?_ -- r8
      simp only [go_sem, Nat.reduceEqDiff, Nat.reduceLT, Nat.reduceAdd, Nat.reduceMul, Nat.reduceSub, Nat.add_zero, Nat.zero_add, Int.reduceEq, Int.reduceLT]
      refine hK _ _ _ (by simp only [go_sem, Nat.reduceEqDiff, Nat.reduceLT, Nat.reduceAdd, Nat.reduceMul, Nat.reduceSub, Nat.add_zero, Nat.zero_add, Int.reduceEq, Int.reduceLT]; rfl) ?_; clear hK
      refine AWP.ret (?_)
      refine Fin.plain (.inr rfl) rfl rfl hok (Grew.refl _) ⟨?_, rfl⟩
      have hn0 : n = 0 := by simp at h; omega
      rw [hn0, Nat.sub_zero, List.take_length, hlen, List.take_length] at hall
      rw [hall, beq_self_eq_true]
end Go.Proofs.Ythheaehpnleiaaa.AX

/- Numbers as bytes; bytes with their length ahead. -/
namespace Go.Proofs.Ythheaehpnleiaaa.AX
open Go Go.Proofs
set_option maxRecDepth 100000
set_option linter.unusedVariables false
set_option linter.unusedSimpArgs false

/-- a number in so many bytes, the highest first -/
def putB (n : Int) : Nat → List Int
  | 0 => []
  | s + 1 => putB (n / 256) s ++ [n % 256]
theorem putB_length (n : Int) (s : Nat) : (putB n s).length = s := by
  induction s generalizing n with
  | zero => rfl
  | succ s ih => simp [putB, ih]

theorem shr_at (n : Int) (j : Nat) (hn : 0 ≤ n) (hj : j ≤ 7) : IntKind.u8.wrap (n.fdiv (2 ^ (min (((8 : Int) * (j : Int)).toNat) 64))) = n / 256 ^ j % 256 := by
  have h1 : ((8 : Int) * (j : Int)).toNat = 8 * j := by omega
  have h2 : min (8 * j) 64 = 8 * j := Nat.min_eq_left (by omega)
  rw [h1, h2, Int.fdiv_eq_ediv_of_nonneg _ (Int.pow_nonneg (by decide)), show (2 : Int) ^ (8 * j) = 256 ^ j by rw [Int.pow_mul]; rfl]
  rw [IntKind.wrap_u8]
theorem put39_spec (s : Nat) (n : Int) (M : Mem) (hok : Ok M) (hn : 0 ≤ n ∧ n ≤ 18446744073709551615) (hs : s ≤ 8) (h0 : s ≠ 0) : ∃ r M', ACall Try.prog 39 #[.int .u64 n, .int .i64 s] M r M' ∧ Grew M M' ∧ OwnB M M' r (putB n s) 5 := by
  refine ACall.fin (args := [.int .u64 n, .int .i64 s]) (k := 27) Try.func39 rfl rfl rfl (Nat.le_of_ble_eq_true rfl) ?_
  refine AWP.stepR [0, 1] fun K hK => ?_ -- r0
  simp only [go_sem, Nat.reduceEqDiff, Nat.reduceLT, Nat.reduceAdd, Nat.reduceMul, Nat.reduceSub, Nat.add_zero, Nat.zero_add, Int.reduceEq, Int.reduceLT]
  refine hK _ _ _ (by simp only [go_sem, Nat.reduceEqDiff, Nat.reduceLT, Nat.reduceAdd, Nat.reduceMul, Nat.reduceSub, Nat.add_zero, Nat.zero_add, Int.reduceEq, Int.reduceLT]; rfl) ?_; clear hK
  refine AWP.stepR [0, 1, 5] fun K hK => ?_ -- r1
  simp only [go_sem, Nat.reduceEqDiff, Nat.reduceLT, Nat.reduceAdd, Nat.reduceMul, Nat.reduceSub, Nat.add_zero, Nat.zero_add, Int.reduceEq, Int.reduceLT]
  refine hK _ _ _ (by simp only [go_sem, Nat.reduceEqDiff, Nat.reduceLT, Nat.reduceAdd, Nat.reduceMul, Nat.reduceSub, Nat.add_zero, Nat.zero_add, Int.reduceEq, Int.reduceLT]; rfl) ?_; clear hK
  refine AWP.seq ?_
  refine AWP.stepR [0, 5, 6] fun K hK => ?_ -- r2
  simp only [go_sem, Nat.reduceEqDiff, Nat.reduceLT, Nat.reduceAdd, Nat.reduceMul, Nat.reduceSub, Nat.add_zero, Nat.zero_add, Int.reduceEq, Int.reduceLT]
  rw [i64w (by omega) (by omega)]
  refine hK _ _ _ (by simp only [go_sem, Nat.reduceEqDiff, Nat.reduceLT, Nat.reduceAdd, Nat.reduceMul, Nat.reduceSub, Nat.add_zero, Nat.zero_add, Int.reduceEq, Int.reduceLT]; rfl) ?_; clear hK
  refine AWP.block ?_ -- b0
  refine AWP.loopK [0, 5, 6] (fun j e M0 => j ≤ s ∧ Grew M M0 ∧ ∃ bv, e = [(0, .int .u64 n), (5, bv), (6, .int .i64 ((j : Int) - 1))] ∧ OwnB M M0 bv (putB (n / 256 ^ j) (s - j)) 5) s ?_ fun j e M0 hI => ?_ -- LOOP
  · simp only [go_sem, Nat.reduceEqDiff, Nat.reduceLT, Nat.reduceAdd, Nat.reduceMul, Nat.reduceSub, Nat.add_zero, Nat.zero_add, Int.reduceEq, Int.reduceLT]
    exact ⟨Nat.le_refl _, Grew.refl _, _, rfl, by rw [Nat.sub_self]; exact Own.nil _ _ _⟩
  obtain ⟨hj, hg, bv, rfl, hown⟩ := hI
  refine AWP.seq ?_
  refine AWP.stepR [0, 5, 6, 10] fun K hK => ?_ -- r3
  simp only [go_sem, Nat.reduceEqDiff, Nat.reduceLT, Nat.reduceAdd, Nat.reduceMul, Nat.reduceSub, Nat.add_zero, Nat.zero_add, Int.reduceEq, Int.reduceLT]
  refine hK _ _ _ (by simp only [go_sem, Nat.reduceEqDiff, Nat.reduceLT, Nat.reduceAdd, Nat.reduceMul, Nat.reduceSub, Nat.add_zero, Nat.zero_add, Int.reduceEq, Int.reduceLT]; rfl) ?_; clear hK
  refine AWP.cond_split rfl (fun h10 => ?_) fun h10 => ?_
  · obtain ⟨i, rfl⟩ : ∃ i, j = i + 1 := ⟨j - 1, by simp at h10; omega⟩
    rw [show ((i + 1 : Nat) : Int) - 1 = i by omega] at *
    refine AWP.skip ?_
    refine AWP.seq ?_
    refine AWP.block ?_ -- b1
    refine AWP.seq ?_
    refine AWP.stepR [0, 5, 6, 14] fun K hK => ?_ -- r5
    simp only [go_sem, Nat.reduceEqDiff, Nat.reduceLT, Nat.reduceAdd, Nat.reduceMul, Nat.reduceSub, Nat.add_zero, Nat.zero_add, Int.reduceEq, Int.reduceLT]
    refine hK _ _ _ (by simp only [go_sem, Nat.reduceEqDiff, Nat.reduceLT, Nat.reduceAdd, Nat.reduceMul, Nat.reduceSub, Nat.add_zero, Nat.zero_add, Int.reduceEq, Int.reduceLT]; rfl) ?_; clear hK
    refine AWP.cond_split rfl (fun h14 => ?_) fun h14 => ?_
    · simp at h14; omega
    · refine AWP.skip ?_
      refine AWP.lastR fun K hK => ?_ -- r7
      have hw8 : IntKind.i64.wrap (8 * (i : Int)) = 8 * (i : Int) := i64w (by omega) (by omega)
      have h8 : ((8 * (i : Int)) < 0) = False := by simp; omega
      simp only [go_sem, Nat.reduceEqDiff, Nat.reduceLT, Nat.reduceAdd, Nat.reduceMul, Nat.reduceSub, Nat.add_zero, Nat.zero_add, Int.reduceEq, Int.reduceLT, hw8, h8, shr_at n i hn.1 (by omega)]
      have hlt : M0.next < (M0.bump 1).next := Nat.lt_succ_self _
      have hg1 : Grew M ((M0.bump 1).put M0.next ⟨[.int .u8 (n / 256 ^ i % 256)], 5, true⟩) := (hg.bump 1).put hg.next hlt _
      have ho1 : OwnB M ((M0.bump 1).put M0.next ⟨[.int .u8 (n / 256 ^ i % 256)], 5, true⟩) bv (putB (n / 256 ^ (i + 1)) (s - (i + 1))) 5 := hown.grew (((Grew.refl M0).bump 1).put (Nat.le_refl _) hlt _)
      obtain ⟨v2, M2, happ, hown2, hg2, hnx, hfr⟩ := Own.append ap_23_23 hg1 ho1 (by simp [cB]) ((Has.put hlt ⟨[.int .u8 (n / 256 ^ i % 256)], 5, true⟩).content 1 1 1 rfl) rfl (by rw [putB_length]; omega)
      simp only [happ, go_sem, Nat.reduceEqDiff, Nat.reduceLT, Nat.reduceAdd, Nat.reduceMul, Nat.reduceSub, Nat.add_zero, Nat.zero_add, Int.reduceEq, Int.reduceLT]
      refine hK _ _ ?_; clear hK
      have he : cB (putB (n / 256 ^ (i + 1)) (s - (i + 1))) ++ [.int .u8 (n / 256 ^ i % 256)] = cB (putB (n / 256 ^ i) (s - i)) := by
        rw [show s - i = s - (i + 1) + 1 by omega, putB, Int.pow_succ, ← Int.ediv_ediv_of_nonneg (Int.pow_nonneg (by decide)), cB_append]; rfl
      rw [he, show (putB (n / 256 ^ (i + 1)) (s - (i + 1))).length + 1 = (putB (n / 256 ^ i) (s - i)).length by rw [putB_length, putB_length]; omega] at hown2
      refine AWP.lastR fun K hK => ?_ -- r4
      simp only [go_sem, Nat.reduceEqDiff, Nat.reduceLT, Nat.reduceAdd, Nat.reduceMul, Nat.reduceSub, Nat.add_zero, Nat.zero_add, Int.reduceEq, Int.reduceLT]
      rw [i64w (by omega) (by omega)]
      refine hK _ _ ?_; clear hK
      exact ⟨i, Nat.lt_succ_self _, by omega, hg2, v2, by simp only [go_sem, Nat.reduceEqDiff, Nat.reduceLT, Nat.reduceAdd, Nat.reduceMul, Nat.reduceSub, Nat.add_zero, Nat.zero_add, Int.reduceEq, Int.reduceLT], hown2⟩
  · refine AWP.exit (Then.exit (Then.exit (InBlock.same ?_))) -- x0
    refine AWP.stepR [4] fun K hK => ?_ -- r8
    simp only [go_sem, Nat.reduceEqDiff, Nat.reduceLT, Nat.reduceAdd, Nat.reduceMul, Nat.reduceSub, Nat.add_zero, Nat.zero_add, Int.reduceEq, Int.reduceLT]
    refine hK _ _ _ (by simp only [go_sem, Nat.reduceEqDiff, Nat.reduceLT, Nat.reduceAdd, Nat.reduceMul, Nat.reduceSub, Nat.add_zero, Nat.zero_add, Int.reduceEq, Int.reduceLT]; rfl) ?_; clear hK
    refine AWP.ret (?_)
    have hj0 : j = 0 := by simp at h10; omega
    subst hj0
    rw [Int.pow_zero, Int.ediv_one, Nat.sub_zero] at hown
    exact Fin.own (fun v => v) (.inr rfl) rfl hok hg hown (cB_plain _) (fun _ _ _ _ h => h) fun r M' hg' hr' ho' => ⟨hg', ho' (by rw [putB_length]; exact h0)⟩
end Go.Proofs.Ythheaehpnleiaaa.AX

/- Rows of bytes, one behind the other; a byte of yes and no. -/
namespace Go.Proofs.Ythheaehpnleiaaa.AX
open Go Go.Proofs
set_option maxRecDepth 100000
set_option linter.unusedVariables false
set_option linter.unusedSimpArgs false

def Parts (M : Mem) (vs : List Value) (ls : List (List Int)) : Prop := vs.length = ls.length ∧ ∀ (i : Nat) (v : Value) (l : List Int), vs[i]? = some v → ls[i]? = some l → RowB M v l
theorem Parts.grew {M M1 : Mem} {vs : List Value} {ls : List (List Int)} (h : Parts M vs ls) (hg : Grew M M1) : Parts M1 vs ls := ⟨h.1, fun i v l h1 h2 => (h.2 i v l h1 h2).grew hg⟩
theorem Parts.nil (M : Mem) : Parts M [] [] := ⟨rfl, fun i v l h => by simp at h⟩
theorem Parts.cons {M : Mem} {v : Value} {l : List Int} {vs : List Value} {ls : List (List Int)} (h : RowB M v l) (h' : Parts M vs ls) : Parts M (v :: vs) (l :: ls) := by
  refine ⟨by simp [h'.1], fun i v' l' h1 h2 => ?_⟩
  cases i with
  | zero => simp at h1 h2; subst h1 h2; exact h
  | succ i => simp at h1 h2; exact h'.2 i v' l' h1 h2
theorem take_flat (ls : List (List Int)) {i : Nat} (h : i < ls.length) : (ls.take (i + 1)).flatten = (ls.take i).flatten ++ ls[i] := by
  rw [List.take_succ_eq_append_getElem h, List.flatten_append]; simp
theorem flat_le (ls : List (List Int)) (i : Nat) : (ls.take i).flatten.length ≤ ls.flatten.length := by
  have := congrArg (fun l => l.flatten.length) (List.take_append_drop i ls)
  simp only [List.flatten_append, List.length_append] at this
  omega

theorem join37_spec (v : Value) (vs : List Value) (ls : List (List Int)) (M : Mem) (hok : Ok M) (hv : Row_ M v vs.length vs) (hp : Parts M vs ls) (hl : ls.flatten.length ≤ 1099511627776) (hn : vs.length ≤ 1099511627776) (hne : ls.flatten ≠ []) :
    ∃ r M', ACall Try.prog 37 #[v] M r M' ∧ Grew M M' ∧ OwnB M M' r ls.flatten 5 := by
  refine ACall.fin (args := [v]) (k := 33) Try.func37 rfl rfl rfl (Nat.le_of_ble_eq_true rfl) ?_
  refine AWP.stepR [0] fun K hK => ?_ -- r0
  simp only [go_sem, Nat.reduceEqDiff, Nat.reduceLT, Nat.reduceAdd, Nat.reduceMul, Nat.reduceSub, Nat.add_zero, Nat.zero_add, Int.reduceEq, Int.reduceLT]
  refine hK _ _ _ (by simp only [go_sem, Nat.reduceEqDiff, Nat.reduceLT, Nat.reduceAdd, Nat.reduceMul, Nat.reduceSub, Nat.add_zero, Nat.zero_add, Int.reduceEq, Int.reduceLT]; rfl) ?_; clear hK
  refine AWP.stepR [0, 3] fun K hK => ?_ -- r1
  simp only [go_sem, Nat.reduceEqDiff, Nat.reduceLT, Nat.reduceAdd, Nat.reduceMul, Nat.reduceSub, Nat.add_zero, Nat.zero_add, Int.reduceEq, Int.reduceLT]
  refine hK _ _ _ (by simp only [go_sem, Nat.reduceEqDiff, Nat.reduceLT, Nat.reduceAdd, Nat.reduceMul, Nat.reduceSub, Nat.add_zero, Nat.zero_add, Int.reduceEq, Int.reduceLT]; rfl) ?_; clear hK
  refine AWP.seq ?_
  refine AWP.stepR [0, 3, 9, 10, 11] fun K hK => ?_ -- r2
  simp only [go_sem, Nat.reduceEqDiff, Nat.reduceLT, Nat.reduceAdd, Nat.reduceMul, Nat.reduceSub, Nat.add_zero, Nat.zero_add, Int.reduceEq, Int.reduceLT, hv.len es_121]
  refine hK _ _ _ (by simp only [go_sem, Nat.reduceEqDiff, Nat.reduceLT, Nat.reduceAdd, Nat.reduceMul, Nat.reduceSub, Nat.add_zero, Nat.zero_add, Int.reduceEq, Int.reduceLT]; rfl) ?_; clear hK
  refine AWP.block ?_ -- b0
  refine AWP.loopK [0, 3, 9, 10, 11] (fun n e M0 => M0 = M ∧ n ≤ vs.length ∧ e = [(0, v), (3, .int .i64 ((ls.take (vs.length - n)).flatten.length : Nat)), (9, v), (10, .int .i64 vs.length), (11, .int .i64 ((vs.length - n : Nat) : Int))]) vs.length ?_ fun n e M0 hI => ?_ -- LOOP
  · simp only [go_sem, Nat.reduceEqDiff, Nat.reduceLT, Nat.reduceAdd, Nat.reduceMul, Nat.reduceSub, Nat.add_zero, Nat.zero_add, Int.reduceEq, Int.reduceLT, Nat.le_refl]
    simp
  obtain ⟨rfl, hn', rfl⟩ := hI
  refine AWP.stepR [0, 3, 9, 10, 11, 12] fun K hK => ?_ -- r3
  simp only [go_sem, Nat.reduceEqDiff, Nat.reduceLT, Nat.reduceAdd, Nat.reduceMul, Nat.reduceSub, Nat.add_zero, Nat.zero_add, Int.reduceEq, Int.reduceLT]
  refine hK _ _ _ (by simp only [go_sem, Nat.reduceEqDiff, Nat.reduceLT, Nat.reduceAdd, Nat.reduceMul, Nat.reduceSub, Nat.add_zero, Nat.zero_add, Int.reduceEq, Int.reduceLT]; rfl) ?_; clear hK
  refine AWP.condS rfl (fun h12 => ?_) fun h12 => ?_
  · have hlt : vs.length - n < vs.length := by simpa using h12
    have hlt' : vs.length - n < ls.length := by rw [← hp.1]; exact hlt
    obtain ⟨b, q, ha, hd⟩ := hv.at1 rfl es_121 hlt
    have hd := hd M0 (Grew.refl _)
    rw [List.getElem?_eq_getElem hlt] at hd
    have hx := hp.2 _ _ _ (List.getElem?_eq_getElem hlt) (List.getElem?_eq_getElem hlt')
    generalize vs[vs.length - n] = x at hd hx
    refine AWP.skip ?_
    refine AWP.seq ?_
    refine AWP.block ?_ -- b1
    refine AWP.stepR [0, 3, 5, 9, 10, 11] fun K hK => ?_ -- r4
    simp only [go_sem, Nat.reduceEqDiff, Nat.reduceLT, Nat.reduceAdd, Nat.reduceMul, Nat.reduceSub, Nat.add_zero, Nat.zero_add, Int.reduceEq, Int.reduceLT, ha, ld_23, hd]
    refine hK _ _ _ (by simp only [go_sem, Nat.reduceEqDiff, Nat.reduceLT, Nat.reduceAdd, Nat.reduceMul, Nat.reduceSub, Nat.add_zero, Nat.zero_add, Int.reduceEq, Int.reduceLT]; rfl) ?_; clear hK
    refine AWP.lastR fun K hK => ?_ -- r5
    simp only [go_sem, Nat.reduceEqDiff, Nat.reduceLT, Nat.reduceAdd, Nat.reduceMul, Nat.reduceSub, Nat.add_zero, Nat.zero_add, Int.reduceEq, Int.reduceLT, hx.len es_23]
    refine hK _ _ ?_; clear hK
    refine AWP.lastR fun K hK => ?_ -- r6
    simp only [go_sem, Nat.reduceEqDiff, Nat.reduceLT, Nat.reduceAdd, Nat.reduceMul, Nat.reduceSub, Nat.add_zero, Nat.zero_add, Int.reduceEq, Int.reduceLT]
    refine hK _ _ ?_; clear hK
    have hfl := take_flat ls hlt'
    have hfe : (ls.take (vs.length - n)).flatten.length + ls[vs.length - n].length = (ls.take (vs.length - n + 1)).flatten.length := by rw [hfl, List.length_append]
    have hfle := flat_le ls (vs.length - n + 1)
    refine ⟨n - 1, by omega, rfl, by omega, ?_⟩ -- ROUND
    simp only [go_sem, Nat.reduceEqDiff, Nat.reduceLT, Nat.reduceAdd, Nat.reduceMul, Nat.reduceSub, Nat.add_zero, Nat.zero_add, Int.reduceEq, Int.reduceLT]
    rw [i64w (by omega) (by omega), i64w (by omega) (by omega), show ((vs.length - n : Nat) : Int) + 1 = ((vs.length - (n - 1) : Nat) : Int) by omega,
      show (((ls.take (vs.length - n)).flatten.length : Nat) : Int) + ((ls[vs.length - n].length : Nat) : Int) = (((ls.take (vs.length - (n - 1))).flatten.length : Nat) : Int) by rw [show vs.length - (n - 1) = vs.length - n + 1 by omega]; omega]
  · refine AWP.exit (Then.exit (Then.exit (InBlock.same ?_))) -- x0
    have hn0 : n = 0 := by simp at h12; omega
    subst hn0
    rw [Nat.sub_zero, hp.1, List.take_length]
    have hms : (0 ≤ (0 : Int) ∧ (0 : Int) ≤ (ls.flatten.length : Int) ∧ (ls.flatten.length : Int) ≤ 281474976710656 ∧ ((1 : Nat) : Int) * (ls.flatten.length : Int) ≤ 281474976710656) = True := eq_true ⟨by omega, by omega, by omega, by omega⟩
    refine AWP.stepR [0, 6] fun K hK => ?_ -- r7
    simp only [go_sem, Nat.reduceEqDiff, Nat.reduceLT, Nat.reduceAdd, Nat.reduceMul, Nat.reduceSub, Nat.add_zero, Nat.zero_add, Int.reduceEq, Int.reduceLT, hms, Int.toNat_natCast, Int.toNat_zero]
    refine hK _ _ _ (by simp only [go_sem, Nat.reduceEqDiff, Nat.reduceLT, Nat.reduceAdd, Nat.reduceMul, Nat.reduceSub, Nat.add_zero, Nat.zero_add, Int.reduceEq, Int.reduceLT]; rfl) ?_; clear hK
    have hlt0 : M0.next < (M0.bump 1).next := Nat.lt_succ_self _
    generalize hM1 : (M0.bump 1).put M0.next ⟨zrow Try.prog 5 ls.flatten.length, 5, true⟩ = M1
    have hg1 : Grew M0 M1 := by rw [← hM1]; exact ((Grew.refl M0).bump 1).put (Nat.le_refl _) hlt0 _
    have ho1 : Own M0 M1 (.slice (some ⟨M0.next, 0, none⟩) 0 ls.flatten.length) 0 [] 5 := .inr ⟨M0.next, _, _, Nat.le_refl _, by rw [← hM1]; exact hlt0, rfl, by rw [← hM1, Mem.get_put, if_pos rfl], rfl, rfl, .inl ⟨rfl, rfl⟩⟩
    generalize Value.slice (some ⟨M0.next, 0, none⟩) 0 ls.flatten.length = b0 at ho1
    refine AWP.seq ?_
    refine AWP.stepR [6, 22, 23, 24] fun K hK => ?_ -- r8
    simp only [go_sem, Nat.reduceEqDiff, Nat.reduceLT, Nat.reduceAdd, Nat.reduceMul, Nat.reduceSub, Nat.add_zero, Nat.zero_add, Int.reduceEq, Int.reduceLT, hv.len es_121]
    refine hK _ _ _ (by simp only [go_sem, Nat.reduceEqDiff, Nat.reduceLT, Nat.reduceAdd, Nat.reduceMul, Nat.reduceSub, Nat.add_zero, Nat.zero_add, Int.reduceEq, Int.reduceLT]; rfl) ?_; clear hK
    refine AWP.block ?_ -- b2
    refine AWP.loopK [6, 22, 23, 24] (fun n e M2 => n ≤ vs.length ∧ Grew M0 M2 ∧ ∃ bv, e = [(6, bv), (22, v), (23, .int .i64 vs.length), (24, .int .i64 ((vs.length - n : Nat) : Int))] ∧ OwnB M0 M2 bv (ls.take (vs.length - n)).flatten 5) vs.length ?_ fun n e M2 hI => ?_ -- LOOP
    · simp only [go_sem, Nat.reduceEqDiff, Nat.reduceLT, Nat.reduceAdd, Nat.reduceMul, Nat.reduceSub, Nat.add_zero, Nat.zero_add, Int.reduceEq, Int.reduceLT, Nat.le_refl]
      exact ⟨hg1, b0, by simp, by rw [Nat.sub_self]; exact ho1⟩
    obtain ⟨hn', hg2, bv, rfl, ho2⟩ := hI
    refine AWP.stepR [6, 22, 23, 24, 25] fun K hK => ?_ -- r9
    simp only [go_sem, Nat.reduceEqDiff, Nat.reduceLT, Nat.reduceAdd, Nat.reduceMul, Nat.reduceSub, Nat.add_zero, Nat.zero_add, Int.reduceEq, Int.reduceLT]
    refine hK _ _ _ (by simp only [go_sem, Nat.reduceEqDiff, Nat.reduceLT, Nat.reduceAdd, Nat.reduceMul, Nat.reduceSub, Nat.add_zero, Nat.zero_add, Int.reduceEq, Int.reduceLT]; rfl) ?_; clear hK
    refine AWP.condS rfl (fun h25 => ?_) fun h25 => ?_
    · have hlt : vs.length - n < vs.length := by simpa using h25
      have hlt' : vs.length - n < ls.length := by rw [← hp.1]; exact hlt
      obtain ⟨b, q, ha, hd⟩ := hv.at1 rfl es_121 hlt
      have hd := hd M2 hg2
      rw [List.getElem?_eq_getElem hlt] at hd
      have hx := (hp.2 _ _ _ (List.getElem?_eq_getElem hlt) (List.getElem?_eq_getElem hlt')).grew hg2
      generalize vs[vs.length - n] = x at hd hx
      have hfl := take_flat ls hlt'
      have hfe : (ls.take (vs.length - n)).flatten.length + ls[vs.length - n].length = (ls.take (vs.length - n + 1)).flatten.length := by rw [hfl, List.length_append]
      have hfle := flat_le ls (vs.length - n + 1)
      refine AWP.skip ?_
      refine AWP.seq ?_
      refine AWP.block ?_ -- b3
      refine AWP.stepR [6, 8, 22, 23, 24] fun K hK => ?_ -- r10
      simp only [go_sem, Nat.reduceEqDiff, Nat.reduceLT, Nat.reduceAdd, Nat.reduceMul, Nat.reduceSub, Nat.add_zero, Nat.zero_add, Int.reduceEq, Int.reduceLT, ha, ld_23, hd]
      refine hK _ _ _ (by simp only [go_sem, Nat.reduceEqDiff, Nat.reduceLT, Nat.reduceAdd, Nat.reduceMul, Nat.reduceSub, Nat.add_zero, Nat.zero_add, Int.reduceEq, Int.reduceLT]; rfl) ?_; clear hK
      obtain ⟨v2, M3, happ, ho3, hg3, hnx, hfr⟩ := Own.append ap_23_23 hg2 ho2 (by rw [cB_length, Nat.mul_one]) (hx.content (by rw [cB_length, Nat.mul_one])) (cB_one _) (by omega)
      refine AWP.lastR fun K hK => ?_ -- r11
      simp only [go_sem, Nat.reduceEqDiff, Nat.reduceLT, Nat.reduceAdd, Nat.reduceMul, Nat.reduceSub, Nat.add_zero, Nat.zero_add, Int.reduceEq, Int.reduceLT, happ]
      refine hK _ _ ?_; clear hK
      refine AWP.lastR fun K hK => ?_ -- r12
      simp only [go_sem, Nat.reduceEqDiff, Nat.reduceLT, Nat.reduceAdd, Nat.reduceMul, Nat.reduceSub, Nat.add_zero, Nat.zero_add, Int.reduceEq, Int.reduceLT]
      refine hK _ _ ?_; clear hK
      refine ⟨n - 1, by omega, by omega, hg3, v2, ?_, ?_⟩ -- ROUND
      · simp only [go_sem, Nat.reduceEqDiff, Nat.reduceLT, Nat.reduceAdd, Nat.reduceMul, Nat.reduceSub, Nat.add_zero, Nat.zero_add, Int.reduceEq, Int.reduceLT]
        rw [i64w (by omega) (by omega), show ((vs.length - n : Nat) : Int) + 1 = ((vs.length - (n - 1) : Nat) : Int) by omega]
      · rw [hfe, ← cB_append, ← hfl] at ho3
        rw [show vs.length - (n - 1) = vs.length - n + 1 by omega]
        exact ho3
    · refine AWP.exit (Then.exit (Then.exit (InBlock.same ?_))) -- x2
      have hn0 : n = 0 := by simp at h25; omega
      subst hn0
      rw [Nat.sub_zero, hp.1, List.take_length] at ho2
      refine AWP.stepR [2] fun K hK => ?_ -- r13
      simp only [go_sem, Nat.reduceEqDiff, Nat.reduceLT, Nat.reduceAdd, Nat.reduceMul, Nat.reduceSub, Nat.add_zero, Nat.zero_add, Int.reduceEq, Int.reduceLT]
      refine hK _ _ _ (by simp only [go_sem, Nat.reduceEqDiff, Nat.reduceLT, Nat.reduceAdd, Nat.reduceMul, Nat.reduceSub, Nat.add_zero, Nat.zero_add, Int.reduceEq, Int.reduceLT]; rfl) ?_; clear hK
      refine AWP.ret (?_)
      exact Fin.own (fun v => v) (.inr rfl) rfl hok hg2 ho2 (cB_plain _) (fun _ _ _ _ h => h) fun r M' hg' hr' ho' => ⟨hg', ho' (by intro h; exact hne (List.eq_nil_of_length_eq_zero h))⟩
end Go.Proofs.Ythheaehpnleiaaa.AX

/- A byte of yes and no; bytes with their length ahead. -/
namespace Go.Proofs.Ythheaehpnleiaaa.AX
open Go Go.Proofs
set_option maxRecDepth 100000
set_option linter.unusedVariables false
set_option linter.unusedSimpArgs false

/-- yes and no as the bits of a byte -/
def flagF (bs : List Bool) : Nat → Int
  | 0 => 0
  | k + 1 => if bs[k]? = some true then IntKind.u8.wrap (BitVec.ofInt 8 (flagF bs k) ||| BitVec.ofInt 8 (IntKind.u8.wrap (1 * 2 ^ (min k 8)))).toNat else flagF bs k

theorem flag38_spec (v : Value) (bs : List Bool) (M : Mem) (hok : Ok M) (hv : Row_ M v bs.length (bs.map .bool)) (hn : bs.length ≤ 8) : ∃ r M', ACall Try.prog 38 #[v] M r M' ∧ Grew M M' ∧ OwnB M M' r [flagF bs bs.length] 5 := by
  refine ACall.fin (args := [v]) (k := 21) Try.func38 rfl rfl rfl (Nat.le_of_ble_eq_true rfl) ?_
  refine AWP.stepR [0] fun K hK => ?_ -- r0
  simp only [go_sem, Nat.reduceEqDiff, Nat.reduceLT, Nat.reduceAdd, Nat.reduceMul, Nat.reduceSub, Nat.add_zero, Nat.zero_add, Int.reduceEq, Int.reduceLT]
  refine hK _ _ _ (by simp only [go_sem, Nat.reduceEqDiff, Nat.reduceLT, Nat.reduceAdd, Nat.reduceMul, Nat.reduceSub, Nat.add_zero, Nat.zero_add, Int.reduceEq, Int.reduceLT]; rfl) ?_; clear hK
  refine AWP.stepR [0, 3] fun K hK => ?_ -- r1
  simp only [go_sem, Nat.reduceEqDiff, Nat.reduceLT, Nat.reduceAdd, Nat.reduceMul, Nat.reduceSub, Nat.add_zero, Nat.zero_add, Int.reduceEq, Int.reduceLT]
  refine hK _ _ _ (by simp only [go_sem, Nat.reduceEqDiff, Nat.reduceLT, Nat.reduceAdd, Nat.reduceMul, Nat.reduceSub, Nat.add_zero, Nat.zero_add, Int.reduceEq, Int.reduceLT]; rfl) ?_; clear hK
  refine AWP.seq ?_
  refine AWP.stepR [3, 6, 7, 8] fun K hK => ?_ -- r2
  simp only [go_sem, Nat.reduceEqDiff, Nat.reduceLT, Nat.reduceAdd, Nat.reduceMul, Nat.reduceSub, Nat.add_zero, Nat.zero_add, Int.reduceEq, Int.reduceLT, hv.len es_79]
  refine hK _ _ _ (by simp only [go_sem, Nat.reduceEqDiff, Nat.reduceLT, Nat.reduceAdd, Nat.reduceMul, Nat.reduceSub, Nat.add_zero, Nat.zero_add, Int.reduceEq, Int.reduceLT]; rfl) ?_; clear hK
  refine AWP.block ?_ -- b0
  refine AWP.loopK [3, 6, 7, 8] (fun n e M0 => M0 = M ∧ n ≤ bs.length ∧ e = [(3, .int .u8 (flagF bs (bs.length - n))), (6, v), (7, .int .i64 bs.length), (8, .int .i64 ((bs.length - n : Nat) : Int))]) bs.length ?_ fun n e M0 hI => ?_ -- LOOP
  · simp only [go_sem, Nat.reduceEqDiff, Nat.reduceLT, Nat.reduceAdd, Nat.reduceMul, Nat.reduceSub, Nat.add_zero, Nat.zero_add, Int.reduceEq, Int.reduceLT, Nat.le_refl, Nat.sub_self]
    exact rfl
  obtain ⟨rfl, hn', rfl⟩ := hI
  refine AWP.stepR [3, 6, 7, 8, 9] fun K hK => ?_ -- r3
  simp only [go_sem, Nat.reduceEqDiff, Nat.reduceLT, Nat.reduceAdd, Nat.reduceMul, Nat.reduceSub, Nat.add_zero, Nat.zero_add, Int.reduceEq, Int.reduceLT]
  refine hK _ _ _ (by simp only [go_sem, Nat.reduceEqDiff, Nat.reduceLT, Nat.reduceAdd, Nat.reduceMul, Nat.reduceSub, Nat.add_zero, Nat.zero_add, Int.reduceEq, Int.reduceLT]; rfl) ?_; clear hK
  refine AWP.condS rfl (fun h9 => ?_) fun h9 => ?_
  · have hlt : bs.length - n < bs.length := by simpa using h9
    obtain ⟨b, q, ha, hd⟩ := hv.at1 (by simp) es_79 hlt
    have hd := hd M0 (Grew.refl _)
    rw [show (bs.map Value.bool)[bs.length - n]? = some (.bool bs[bs.length - n]) by simp [hlt]] at hd
    have hs1 : bs.length - (n - 1) = bs.length - n + 1 := by omega
    refine AWP.skip ?_
    refine AWP.seq ?_
    refine AWP.block ?_ -- b1
    refine AWP.stepR [3, 4, 5, 6, 7, 8] fun K hK => ?_ -- r4
    simp only [go_sem, Nat.reduceEqDiff, Nat.reduceLT, Nat.reduceAdd, Nat.reduceMul, Nat.reduceSub, Nat.add_zero, Nat.zero_add, Int.reduceEq, Int.reduceLT, ha, ld_4, hd]
    refine hK _ _ _ (by simp only [go_sem, Nat.reduceEqDiff, Nat.reduceLT, Nat.reduceAdd, Nat.reduceMul, Nat.reduceSub, Nat.add_zero, Nat.zero_add, Int.reduceEq, Int.reduceLT]; rfl) ?_; clear hK
    refine AWP.stepR [3, 4, 6, 7, 8, 13] fun K hK => ?_ -- r5
    simp only [go_sem, Nat.reduceEqDiff, Nat.reduceLT, Nat.reduceAdd, Nat.reduceMul, Nat.reduceSub, Nat.add_zero, Nat.zero_add, Int.reduceEq, Int.reduceLT]
    refine hK _ _ _ (by simp only [go_sem, Nat.reduceEqDiff, Nat.reduceLT, Nat.reduceAdd, Nat.reduceMul, Nat.reduceSub, Nat.add_zero, Nat.zero_add, Int.reduceEq, Int.reduceLT]; rfl) ?_; clear hK
    refine AWP.cond_split rfl (fun h13 => ?_) fun h13 => ?_
    · have hneg : (((bs.length - n : Nat) : Int) < 0) = False := eq_false (by omega)
      refine AWP.lastR fun K hK => ?_ -- r6
      simp only [go_sem, Nat.reduceEqDiff, Nat.reduceLT, Nat.reduceAdd, Nat.reduceMul, Nat.reduceSub, Nat.add_zero, Nat.zero_add, Int.reduceEq, Int.reduceLT, hneg]
      refine hK _ _ ?_; clear hK
      refine AWP.lastR fun K hK => ?_ -- r7
      simp only [go_sem, Nat.reduceEqDiff, Nat.reduceLT, Nat.reduceAdd, Nat.reduceMul, Nat.reduceSub, Nat.add_zero, Nat.zero_add, Int.reduceEq, Int.reduceLT]
      refine hK _ _ ?_; clear hK
      refine ⟨n - 1, by omega, rfl, by omega, ?_⟩ -- ROUND
      simp only [go_sem, Nat.reduceEqDiff, Nat.reduceLT, Nat.reduceAdd, Nat.reduceMul, Nat.reduceSub, Nat.add_zero, Nat.zero_add, Int.reduceEq, Int.reduceLT]
      rw [i64w (by omega) (by omega), hs1, flagF, if_pos (by rw [List.getElem?_eq_getElem hlt, h13])]
      simp only [Int.toNat_natCast, Int.natCast_add, Int.cast_ofNat_Int]
      rfl
    · refine AWP.skip ?_
      refine AWP.lastR fun K hK => ?_ -- r7
      simp only [go_sem, Nat.reduceEqDiff, Nat.reduceLT, Nat.reduceAdd, Nat.reduceMul, Nat.reduceSub, Nat.add_zero, Nat.zero_add, Int.reduceEq, Int.reduceLT]
      refine hK _ _ ?_; clear hK
      refine ⟨n - 1, by omega, rfl, by omega, ?_⟩ -- ROUND
      simp only [go_sem, Nat.reduceEqDiff, Nat.reduceLT, Nat.reduceAdd, Nat.reduceMul, Nat.reduceSub, Nat.add_zero, Nat.zero_add, Int.reduceEq, Int.reduceLT]
      rw [i64w (by omega) (by omega), hs1, flagF, if_neg (by rw [List.getElem?_eq_getElem hlt, h13]; simp)]
      simp only [Int.natCast_add, Int.cast_ofNat_Int]
  · refine AWP.exit (Then.exit (Then.exit (InBlock.same ?_))) -- x0
    have hn0 : n = 0 := by simp at h9; omega
    subst hn0
    refine AWP.stepR [2] fun K hK => ?_ -- r8
    simp only [go_sem, Nat.reduceEqDiff, Nat.reduceLT, Nat.reduceAdd, Nat.reduceMul, Nat.reduceSub, Nat.add_zero, Nat.zero_add, Int.reduceEq, Int.reduceLT]
    refine hK _ _ _ (by simp only [go_sem, Nat.reduceEqDiff, Nat.reduceLT, Nat.reduceAdd, Nat.reduceMul, Nat.reduceSub, Nat.add_zero, Nat.zero_add, Int.reduceEq, Int.reduceLT]; rfl) ?_; clear hK
    refine AWP.ret (?_)
    have hlt0 : M0.next < (M0.bump 1).next := Nat.lt_succ_self _
    refine Fin.own (n := 1) (cells := cB [flagF bs bs.length]) (e := 5) (fun v => v) (.inr rfl) rfl hok (((Grew.refl M0).bump 1).put (Nat.le_refl _) hlt0 _) (.inr ⟨M0.next, _, ⟨cB [flagF bs bs.length], 5, true⟩, Nat.le_refl _, hlt0, rfl, ?_, rfl, rfl, .inr rfl⟩) (cB_plain _) (fun _ _ _ _ h => h) fun r M' hg' hr' ho' => ⟨hg', ho' (by decide)⟩
    rw [Mem.get_put, if_pos rfl]; rfl

def longB (l : List Int) : List Int := putB l.length 4 ++ l
theorem longB_length (l : List Int) : (longB l).length = 4 + l.length := by simp [longB, putB_length]
theorem longB_ne (l : List Int) : longB l ≠ [] := by intro h; have := congrArg List.length h; rw [longB_length] at this; simp at this

theorem long40_spec (v : Value) (l : List Int) (M : Mem) (hok : Ok M) (hv : RowB M v l) (hl : l.length ≤ 1000000000) : ∃ r M', ACall Try.prog 40 #[v] M r M' ∧ Grew M M' ∧ OwnB M M' r (longB l) 5 := by
  refine ACall.fin (args := [v]) (k := 10) Try.func40 rfl rfl rfl (Nat.le_of_ble_eq_true rfl) ?_
  refine AWP.stepR [0] fun K hK => ?_ -- r0
  simp only [go_sem, Nat.reduceEqDiff, Nat.reduceLT, Nat.reduceAdd, Nat.reduceMul, Nat.reduceSub, Nat.add_zero, Nat.zero_add, Int.reduceEq, Int.reduceLT]
  refine hK _ _ _ (by simp only [go_sem, Nat.reduceEqDiff, Nat.reduceLT, Nat.reduceAdd, Nat.reduceMul, Nat.reduceSub, Nat.add_zero, Nat.zero_add, Int.reduceEq, Int.reduceLT]; rfl) ?_; clear hK
  obtain ⟨r1, M1, hc, hg, hown⟩ := put39_spec 4 l.length (M.bump 1) (((Grew.refl M).bump 1).ok hok) (by omega) (by omega) (by decide)
  refine AWP.stepR [2] fun K hK => ?_ -- r1
  simp only [go_sem, Nat.reduceEqDiff, Nat.reduceLT, Nat.reduceAdd, Nat.reduceMul, Nat.reduceSub, Nat.add_zero, Nat.zero_add, Int.reduceEq, Int.reduceLT, hv.len es_23]
  rw [IntWalk.u64_in _ (by omega)]
  refine ⟨r1, M1, hc, ?_⟩
  have hlt : M.next < M1.next := by have := hg.next; rw [Mem.next_bump] at this; omega
  have hgb : Grew M M1 := ((Grew.refl M).bump 1).trans hg
  simp only [go_sem, Nat.reduceEqDiff, Nat.reduceLT, Nat.reduceAdd, Nat.reduceMul, Nat.reduceSub, Nat.add_zero, Nat.zero_add, Int.reduceEq, Int.reduceLT, hown.row.one, (hv.grew hgb).one]
  generalize hM2 : M1.put M.next ⟨[r1, v], 23, true⟩ = M2
  have hg2 : Grew M M2 := by rw [← hM2]; exact hgb.put (Nat.le_refl _) hlt _
  have hh : Has M2 M.next ⟨[r1, v], 23, true⟩ := by rw [← hM2]; exact Has.put hlt _
  have ho2 : OwnB (M.bump 1) M2 r1 (putB l.length 4) 5 := by rw [← hM2]; exact hown.put (by rw [Mem.next_bump]; omega) _
  obtain ⟨r3, M3, hc3, hg3, hown3⟩ := join37_spec (.slice (some ⟨M.next, 0, none⟩) 2 2) [r1, v] [putB l.length 4, l] M2 (hg2.ok hok) (Row_.of hh) (.cons ho2.row (.cons (hv.grew hg2) (.nil _))) (by simp [putB_length]; omega) (by simp) (by have := longB_ne l; simpa [longB] using this)
  refine ⟨r3, M3, hc3, ?_⟩
  refine hK _ _ _ (by simp only [go_sem, Nat.reduceEqDiff, Nat.reduceLT, Nat.reduceAdd, Nat.reduceMul, Nat.reduceSub, Nat.add_zero, Nat.zero_add, Int.reduceEq, Int.reduceLT]; rfl) ?_; clear hK
  refine AWP.ret (?_)
  rw [show [putB (l.length : Int) 4, l].flatten = longB l by simp [longB]] at hown3
  exact Fin.own (fun v => v) (.inr rfl) rfl hok (hg2.trans hg3) (hown3.base hg2.next) (cB_plain _) (fun _ _ _ _ h => h) fun r M' hg' hr' ho' => ⟨hg', ho' (by rw [longB_length]; omega)⟩
end Go.Proofs.Ythheaehpnleiaaa.AX

/- Texts with how many they are ahead. -/
namespace Go.Proofs.Ythheaehpnleiaaa.AX
open Go Go.Proofs
set_option maxRecDepth 100000
set_option linter.unusedVariables false
set_option linter.unusedSimpArgs false

/-- a text's bytes -/
def sB (s : ByteArray) : List Int := s.data.toList.map fun b => (b.toNat : Int)
theorem sB_length (s : ByteArray) : (sB s).length = s.size := by rw [sB, List.length_map]; rfl
theorem sB_cells (s : ByteArray) : (s.data.toList.map fun b => Value.int .u8 b.toNat) = cB (sB s) := by rw [cB, sB, List.map_map]; rfl
def textsF (l : List ByteArray) (k : Nat) : List Int := putB l.length 4 ++ ((l.take k).map fun s => longB (sB s)).flatten
theorem textsF_zero (l : List ByteArray) : textsF l 0 = putB l.length 4 := by simp [textsF]
theorem textsF_succ (l : List ByteArray) {k : Nat} (h : k < l.length) : textsF l (k + 1) = textsF l k ++ longB (sB l[k]) := by
  rw [textsF, textsF, List.take_succ_eq_append_getElem h, List.map_append, List.flatten_append, ← List.append_assoc]
  show _ ++ [longB (sB l[k])].flatten = _
  rw [List.flatten_cons, List.flatten_nil, List.append_nil]
theorem textsF_le (l : List ByteArray) (hs : ∀ s, s ∈ l → s.size ≤ 10000) : ∀ k, k ≤ l.length → (textsF l k).length ≤ 4 + k * 10004 := by
  intro k
  induction k with
  | zero => intro _; rw [textsF_zero, putB_length]; omega
  | succ k ih =>
    intro h
    have h1 := ih (by omega)
    have h2 := hs _ (List.getElem_mem (show k < l.length by omega))
    rw [textsF_succ l (by omega), List.length_append, longB_length, sB_length]
    omega
theorem textsF_ne (l : List ByteArray) (k : Nat) : textsF l k ≠ [] := by intro h; have := congrArg List.length h; simp [textsF, putB_length] at this
theorem textsF_pos (l : List ByteArray) (k : Nat) : (textsF l k).length ≠ 0 := fun h => textsF_ne l k (List.eq_nil_of_length_eq_zero h)

theorem texts41_spec (v : Value) (l : List ByteArray) (M : Mem) (hok : Ok M) (hv : Row_ M v l.length (l.map .string)) (hn : l.length ≤ 1000) (hs : ∀ s, s ∈ l → s.size ≤ 10000) : ∃ r M', ACall Try.prog 41 #[v] M r M' ∧ Grew M M' ∧ OwnB M M' r (textsF l l.length) 5 := by
  refine ACall.fin (args := [v]) (k := 24) Try.func41 rfl rfl rfl (Nat.le_of_ble_eq_true rfl) ?_
  refine AWP.stepR [0] fun K hK => ?_ -- r0
  simp only [go_sem, Nat.reduceEqDiff, Nat.reduceLT, Nat.reduceAdd, Nat.reduceMul, Nat.reduceSub, Nat.add_zero, Nat.zero_add, Int.reduceEq, Int.reduceLT]
  refine hK _ _ _ (by simp only [go_sem, Nat.reduceEqDiff, Nat.reduceLT, Nat.reduceAdd, Nat.reduceMul, Nat.reduceSub, Nat.add_zero, Nat.zero_add, Int.reduceEq, Int.reduceLT]; rfl) ?_; clear hK
  obtain ⟨r1, M1, hc, hg1, ho1⟩ := put39_spec 4 l.length M hok (by omega) (by omega) (by decide)
  refine AWP.stepR [0, 3] fun K hK => ?_ -- r1
  simp only [go_sem, Nat.reduceEqDiff, Nat.reduceLT, Nat.reduceAdd, Nat.reduceMul, Nat.reduceSub, Nat.add_zero, Nat.zero_add, Int.reduceEq, Int.reduceLT, hv.len es_24]
  rw [IntWalk.u64_in _ (by omega)]
  refine ⟨r1, M1, hc, ?_⟩
  refine hK _ _ _ (by simp only [go_sem, Nat.reduceEqDiff, Nat.reduceLT, Nat.reduceAdd, Nat.reduceMul, Nat.reduceSub, Nat.add_zero, Nat.zero_add, Int.reduceEq, Int.reduceLT]; rfl) ?_; clear hK
  refine AWP.seq ?_
  refine AWP.stepR [3, 10, 11, 12] fun K hK => ?_ -- r2
  simp only [go_sem, Nat.reduceEqDiff, Nat.reduceLT, Nat.reduceAdd, Nat.reduceMul, Nat.reduceSub, Nat.add_zero, Nat.zero_add, Int.reduceEq, Int.reduceLT, hv.len es_24]
  refine hK _ _ _ (by simp only [go_sem, Nat.reduceEqDiff, Nat.reduceLT, Nat.reduceAdd, Nat.reduceMul, Nat.reduceSub, Nat.add_zero, Nat.zero_add, Int.reduceEq, Int.reduceLT]; rfl) ?_; clear hK
  refine AWP.block ?_ -- b0
  refine AWP.loopK [3, 10, 11, 12] (fun n e M0 => n ≤ l.length ∧ Grew M M0 ∧ ∃ bv, e = [(3, bv), (10, v), (11, .int .i64 l.length), (12, .int .i64 ((l.length - n : Nat) : Int))] ∧ OwnB M M0 bv (textsF l (l.length - n)) 5) l.length ?_ fun n e M0 hI => ?_ -- LOOP
  · simp only [go_sem, Nat.reduceEqDiff, Nat.reduceLT, Nat.reduceAdd, Nat.reduceMul, Nat.reduceSub, Nat.add_zero, Nat.zero_add, Int.reduceEq, Int.reduceLT, Nat.le_refl]
    exact ⟨hg1, r1, by simp, by rw [Nat.sub_self, textsF_zero]; exact ho1⟩
  obtain ⟨hn', hg, bv, rfl, hown⟩ := hI
  refine AWP.stepR [3, 10, 11, 12, 13] fun K hK => ?_ -- r3
  simp only [go_sem, Nat.reduceEqDiff, Nat.reduceLT, Nat.reduceAdd, Nat.reduceMul, Nat.reduceSub, Nat.add_zero, Nat.zero_add, Int.reduceEq, Int.reduceLT]
  refine hK _ _ _ (by simp only [go_sem, Nat.reduceEqDiff, Nat.reduceLT, Nat.reduceAdd, Nat.reduceMul, Nat.reduceSub, Nat.add_zero, Nat.zero_add, Int.reduceEq, Int.reduceLT]; rfl) ?_; clear hK
  refine AWP.condS rfl (fun h13 => ?_) fun h13 => ?_
  · have hlt : l.length - n < l.length := by simpa using h13
    obtain ⟨b, q, ha, hd⟩ := hv.at1 (by simp) es_24 hlt
    have hs1 := hs _ (List.getElem_mem hlt)
    have hst := textsF_succ l hlt
    have hle := textsF_le l hs (l.length - n + 1) (by omega)
    generalize hx : l[l.length - n] = x at hs1 hst
    rw [hst, List.length_append] at hle
    refine AWP.skip ?_
    refine AWP.seq ?_
    refine AWP.block ?_ -- b1
    refine AWP.stepR [3, 5, 10, 11, 12] fun K hK => ?_ -- r4
    have hd := hd M0 hg
    rw [show (l.map Value.string)[l.length - n]? = some (.string x) by simp [hlt, hx]] at hd
    simp only [go_sem, Nat.reduceEqDiff, Nat.reduceLT, Nat.reduceAdd, Nat.reduceMul, Nat.reduceSub, Nat.add_zero, Nat.zero_add, Int.reduceEq, Int.reduceLT, ha, ld_9, hd]
    refine hK _ _ _ (by simp only [go_sem, Nat.reduceEqDiff, Nat.reduceLT, Nat.reduceAdd, Nat.reduceMul, Nat.reduceSub, Nat.add_zero, Nat.zero_add, Int.reduceEq, Int.reduceLT]; rfl) ?_; clear hK
    have hlt0 : M0.next < (M0.bump 2).next := by rw [Mem.next_bump]; omega
    have hg2 := ((Grew.refl M0).bump 2).put (Nat.le_refl _) hlt0 ⟨cB (sB x), 5, true⟩
    have hh := Has.put hlt0 ⟨cB (sB x), 5, true⟩
    have hnx : M0.next + 2 = ((M0.bump 2).put M0.next ⟨cB (sB x), 5, true⟩).next := rfl
    generalize hM2 : (M0.bump 2).put M0.next ⟨cB (sB x), 5, true⟩ = M2 at hg2 hh hnx
    have hrow : RowB M2 (.slice (some ⟨M0.next, 0, none⟩) x.size unk) (sB x) := by rw [RowB, sB_length]; exact Row_.of hh
    obtain ⟨r3, M3, hc3, hg3, ho3⟩ := long40_spec _ _ M2 ((hg.trans hg2).ok hok) hrow (by rw [sB_length]; omega)
    have hlt1 : M0.next + 1 < M3.next := by have := hg3.next; omega
    have hg4 := (hg2.trans hg3).put (Nat.le_succ _) hlt1 ⟨[bv, r3], 23, true⟩
    have hh4 := Has.put hlt1 ⟨[bv, r3], 23, true⟩
    have ho4 : OwnB M2 (M3.put (M0.next + 1) ⟨[bv, r3], 23, true⟩) r3 (longB (sB x)) 5 := ho3.put (by omega) _
    generalize hM4 : M3.put (M0.next + 1) ⟨[bv, r3], 23, true⟩ = M4 at hg4 hh4 ho4
    obtain ⟨r5, M5, hc5, hg5, ho5⟩ := join37_spec (.slice (some ⟨M0.next + 1, 0, none⟩) 2 2) [bv, r3] [textsF l (l.length - n), longB (sB x)] M4 ((hg.trans hg4).ok hok) (Row_.of hh4) (.cons (hown.row.grew hg4) (.cons ho4.row (.nil _))) (by simp only [List.flatten_cons, List.flatten_nil, List.append_nil, List.length_append]; omega) (by simp) (by simp [textsF_ne])
    refine AWP.lastR fun K hK => ?_ -- r5
    simp only [go_sem, Nat.reduceEqDiff, Nat.reduceLT, Nat.reduceAdd, Nat.reduceMul, Nat.reduceSub, Nat.add_zero, Nat.zero_add, Int.reduceEq, Int.reduceLT, sB_cells, hM2]
    refine ⟨r3, M3, hc3, ?_⟩
    simp only [go_sem, Nat.reduceEqDiff, Nat.reduceLT, Nat.reduceAdd, Nat.reduceMul, Nat.reduceSub, Nat.add_zero, Nat.zero_add, Int.reduceEq, Int.reduceLT, hown.row.one, ho3.row.one, hM4]
    refine ⟨r5, M5, hc5, ?_⟩
    refine hK _ _ ?_; clear hK
    refine AWP.lastR fun K hK => ?_ -- r6
    simp only [go_sem, Nat.reduceEqDiff, Nat.reduceLT, Nat.reduceAdd, Nat.reduceMul, Nat.reduceSub, Nat.add_zero, Nat.zero_add, Int.reduceEq, Int.reduceLT]
    refine hK _ _ ?_; clear hK
    refine ⟨n - 1, by omega, by omega, hg.trans (hg4.trans hg5), r5, ?_, ?_⟩ -- ROUND
    · simp only [go_sem, Nat.reduceEqDiff, Nat.reduceLT, Nat.reduceAdd, Nat.reduceMul, Nat.reduceSub, Nat.add_zero, Nat.zero_add, Int.reduceEq, Int.reduceLT]
      rw [i64w (by omega) (by omega), show ((l.length - n : Nat) : Int) + 1 = ((l.length - (n - 1) : Nat) : Int) by omega]
    · rw [show l.length - (n - 1) = l.length - n + 1 by omega, hst]
      rw [show [textsF l (l.length - n), longB (sB x)].flatten = textsF l (l.length - n) ++ longB (sB x) by simp] at ho5
      exact ho5.base (hg.trans hg4).next
  · refine AWP.exit (Then.exit (Then.exit (InBlock.same ?_))) -- x0
    have hn0 : n = 0 := by simp at h13; omega
    subst hn0
    refine AWP.stepR [2] fun K hK => ?_ -- r7
    simp only [go_sem, Nat.reduceEqDiff, Nat.reduceLT, Nat.reduceAdd, Nat.reduceMul, Nat.reduceSub, Nat.add_zero, Nat.zero_add, Int.reduceEq, Int.reduceLT]
    refine hK _ _ _ (by simp only [go_sem, Nat.reduceEqDiff, Nat.reduceLT, Nat.reduceAdd, Nat.reduceMul, Nat.reduceSub, Nat.add_zero, Nat.zero_add, Int.reduceEq, Int.reduceLT]; rfl) ?_; clear hK
    refine AWP.ret (?_)
    exact Fin.own (fun v => v) (.inr rfl) rfl hok hg hown (cB_plain _) (fun _ _ _ _ h => h) fun r M' hg' hr' ho' => ⟨hg', ho' (textsF_pos _ _)⟩
end Go.Proofs.Ythheaehpnleiaaa.AX

/- Answers as values; what is wrong with an answer. -/
namespace Go.Proofs.Ythheaehpnleiaaa.AX
open Go Go.Proofs
set_option maxRecDepth 100000
set_option linter.unusedVariables false
set_option linter.unusedSimpArgs false

structure Shw where
  name : ByteArray
  id : Int
  size : Int
  marker : Bool
  latest : Bool
def shwC (s : Shw) : List Value := [.string s.name, .int .i64 s.id, .int .i64 s.size, .bool s.marker, .bool s.latest]
structure Rep where
  code : Int
  id : Int
  seq : Int
  size : Int
  until_ : Int
  upload : Int
  count : Int
  body : List Int
  meta_ : List Int
  tags : List Int
  marker : Bool
  done : Bool
  more : Bool
  names : List ByteArray
  prefixes : List ByteArray
  next : ByteArray
  shown : List Shw
/-- an answer's cells, with its rows' values -/
def repC (r : Rep) (vb vm vt vn vp vs : Value) : List Value :=
  [.int .i64 r.code, .int .i64 r.id, .int .i64 r.seq, .int .i64 r.size, vb, vm, vt, .int .i64 r.until_, .bool r.marker, vn, vp, .string r.next, .bool r.more, vs, .int .i64 r.upload, .int .i64 r.count, .bool r.done]
structure RepR (M : Mem) (r : Rep) (vb vm vt vn vp vs : Value) : Prop where
  body : RowB M vb r.body
  meta_ : RowB M vm r.meta_
  tags : RowB M vt r.tags
  names : Row_ M vn r.names.length (r.names.map .string)
  prefixes : Row_ M vp r.prefixes.length (r.prefixes.map .string)
  shown : Row_ M vs r.shown.length (r.shown.flatMap shwC)
theorem RepR.grew {M M1 : Mem} {r : Rep} {vb vm vt vn vp vs : Value} (h : RepR M r vb vm vt vn vp vs) (hg : Grew M M1) : RepR M1 r vb vm vt vn vp vs :=
  ⟨h.body.grew hg, h.meta_.grew hg, h.tags.grew hg, h.names.grew hg, h.prefixes.grew hg, h.shown.grew hg⟩

theorem flatMap_len {α : Type} {f : α → List Value} {sz : Nat} (hf : ∀ a, (f a).length = sz) (l : List α) : (l.flatMap f).length = l.length * sz := by
  induction l with
  | nil => simp
  | cons a l ih => rw [List.flatMap_cons, List.length_append, ih, hf, List.length_cons, Nat.succ_mul]; omega
theorem flatMap_at {α : Type} {f : α → List Value} {sz : Nat} (hf : ∀ a, (f a).length = sz) : ∀ (l : List α) (i : Nat) (h : i < l.length), ((l.flatMap f).drop (i * sz)).take sz = f l[i] := by
  intro l
  induction l with
  | nil => intro i h; simp at h
  | cons a l ih =>
    intro i h
    rw [List.flatMap_cons]
    cases i with
    | zero => rw [Nat.zero_mul, List.drop_zero, List.take_append_of_le_length (by rw [hf]; exact Nat.le_refl _), List.take_of_length_le (by rw [hf]; exact Nat.le_refl _)]; rfl
    | succ i =>
      rw [show (i + 1) * sz = (f a).length + i * sz by rw [hf, Nat.succ_mul]; omega, ← List.drop_drop, List.drop_left]
      exact ih i (by simpa using h)
theorem flatMap_cell {α : Type} {f : α → List Value} {sz : Nat} (hf : ∀ a, (f a).length = sz) (l : List α) (i : Nat) (h : i < l.length) {j : Nat} (hj : j < sz) : (l.flatMap f)[i * sz + j]? = (f l[i])[j]? := by
  have := congrArg (fun l => l[j]?) (flatMap_at hf l i h)
  simp only [List.getElem?_take, List.getElem?_drop] at this
  rw [if_pos hj] at this
  exact this
theorem shwC_len (s : Shw) : (shwC s).length = 5 := rfl
theorem Has.ld {M : Mem} {i : Nat} {b : Blk} (h : Has M i b) (o : Nat) : ldS M.get i o = b.cells[o]? := ldS_at h.1 o
theorem st_fresh {M : Mem} {i n : Nat} {old vs : List Value} {e : TypeId} (h1 : old.length = n) (h2 : vs.length = n) (h3 : oneCells vs = true) :
    stV (M.put i ⟨old, e, true⟩) i 0 n (.agg vs.toArray) = some ((M.put i ⟨old, e, true⟩).put i ⟨vs, e, true⟩) := by
  rw [stV_at (by rw [Mem.get_put, if_pos rfl])]
  rw [if_pos ⟨rfl, by simpa [Value.cells] using h2, by simpa [Value.cells] using h3, by simp [h1]⟩]
  have : splice old 0 vs = vs := by simp [splice, h1, h2]
  simp only [Value.cells, this]

/-- the numbers of an answer -/
def repN (r : Rep) : List Int := [r.code, r.id, r.seq, r.size, r.until_, r.upload, r.count]
def shwOk (s : Shw) : Bool := numOk s.id && numOk s.size
def checkF (r : Rep) : Int := if (repN r).all numOk then (if r.shown.all shwOk then 0 else 2) else 2

theorem check15_spec (r : Rep) (vb vm vt vn vp vs : Value) (M : Mem) (hok : Ok M) (hr : RepR M r vb vm vt vn vp vs) (h1 : r.names.length ≤ 1000) (h2 : r.prefixes.length ≤ 1000) (h3 : r.shown.length ≤ 1000) :
    ∃ v M', ACall Try.prog 15 #[.agg (repC r vb vm vt vn vp vs).toArray] M v M' ∧ v = .int .i64 (checkF r) ∧ M' = M := by
  refine ACall.fin (args := [.agg (repC r vb vm vt vn vp vs).toArray]) (k := 55) Try.func15 rfl rfl rfl (Nat.le_of_ble_eq_true rfl) ?_
  refine AWP.stepR [1] fun K hK => ?_ -- r0
  simp only [go_sem, Nat.reduceEqDiff, Nat.reduceLT, Nat.reduceAdd, Nat.reduceMul, Nat.reduceSub, Nat.add_zero, Nat.zero_add, Int.reduceEq, Int.reduceLT]
  refine hK _ _ _ (by simp only [go_sem, Nat.reduceEqDiff, Nat.reduceLT, Nat.reduceAdd, Nat.reduceMul, Nat.reduceSub, Nat.add_zero, Nat.zero_add, Int.reduceEq, Int.reduceLT]; rfl) ?_; clear hK
  have hlt0 : M.next < (M.bump 1).next := Nat.lt_succ_self _
  have hg1 := ((Grew.refl M).bump 1).put (Nat.le_refl _) hlt0 ⟨repC r vb vm vt vn vp vs, 29, true⟩
  have hh1 := Has.put hlt0 ⟨repC r vb vm vt vn vp vs, 29, true⟩
  change AWP _ _ _ ⟨_, (M.bump 1).put M.next ⟨repC r vb vm vt vn vp vs, 29, true⟩⟩ _
  generalize hM1 : (M.bump 1).put M.next ⟨repC r vb vm vt vn vp vs, 29, true⟩ = M1 at hg1 hh1
  have hr := hr.grew hg1
  have hlt1 : M1.next < (M1.bump 1).next := Nat.lt_succ_self _
  have hg2 := ((Grew.refl M1).bump 1).put (Nat.le_refl _) hlt1 ⟨(repN r).map (Value.int .i64), 3, true⟩
  have hh2 := Has.put hlt1 ⟨(repN r).map (Value.int .i64), 3, true⟩
  generalize hM2 : (M1.bump 1).put M1.next ⟨(repN r).map (Value.int .i64), 3, true⟩ = M2 at hg2 hh2
  have hM2' : (M1.bump 1).put M1.next ⟨[.int .i64 r.code, .int .i64 r.id, .int .i64 r.seq, .int .i64 r.size, .int .i64 r.until_, .int .i64 r.upload, .int .i64 r.count], 3, true⟩ = M2 := hM2
  obtain ⟨r3, M3, hc3, hr3, hM3⟩ := small46_spec (.slice (some ⟨M1.next, 0, none⟩) 7 7) (repN r) M2 ((hg1.trans hg2).ok hok) (Row_.of hh2) (by simp [repN])
  rw [hr3, hM3] at hc3
  refine AWP.seq ?_
  refine AWP.stepR [1, 21] fun K hK => ?_ -- r1
  simp only [go_sem, Nat.reduceEqDiff, Nat.reduceLT, Nat.reduceAdd, Nat.reduceMul, Nat.reduceSub, Nat.add_zero, Nat.zero_add, Int.reduceEq, Int.reduceLT, ld_22, ld_3, hh1.ld, repC, hM2']
  refine ⟨_, _, hc3, ?_⟩
  refine hK _ _ _ (by simp only [go_sem, Nat.reduceEqDiff, Nat.reduceLT, Nat.reduceAdd, Nat.reduceMul, Nat.reduceSub, Nat.add_zero, Nat.zero_add, Int.reduceEq, Int.reduceLT]; rfl) ?_; clear hK
  have hh1 := hh1.grew hg2
  have hr := hr.grew hg2
  have hgm := hg1.trans hg2
  refine AWP.cond_split rfl (fun h21 => ?_) fun h21 => ?_
  · refine AWP.stepR [2] fun K hK => ?_ -- r2
    simp only [go_sem, Nat.reduceEqDiff, Nat.reduceLT, Nat.reduceAdd, Nat.reduceMul, Nat.reduceSub, Nat.add_zero, Nat.zero_add, Int.reduceEq, Int.reduceLT]
    refine hK _ _ _ (by simp only [go_sem, Nat.reduceEqDiff, Nat.reduceLT, Nat.reduceAdd, Nat.reduceMul, Nat.reduceSub, Nat.add_zero, Nat.zero_add, Int.reduceEq, Int.reduceLT]; rfl) ?_; clear hK
    refine AWP.ret (Then.ret (?_))
    exact Fin.plain (.inr rfl) rfl rfl hok hgm ⟨by rw [checkF, if_neg (by simpa using h21)], rfl⟩
  · refine AWP.skip ?_
    refine AWP.seq ?_
    have hn1 : decide ((r.names.length : Int) > 65536) = false := decide_eq_false (by omega)
    have hn2 : decide ((r.prefixes.length : Int) > 65536) = false := decide_eq_false (by omega)
    have hn3 : decide ((r.shown.length : Int) > 65536) = false := decide_eq_false (by omega)
    refine AWP.stepR [1, 39] fun K hK => ?_ -- r3
    simp only [go_sem, Nat.reduceEqDiff, Nat.reduceLT, Nat.reduceAdd, Nat.reduceMul, Nat.reduceSub, Nat.add_zero, Nat.zero_add, Int.reduceEq, Int.reduceLT, ld_24, ld_27, hh1.ld, repC, hr.names.len es_24, hr.prefixes.len es_24, hr.shown.len es_27, hn1, hn2, hn3]
    refine hK _ _ _ (by simp only [go_sem, Nat.reduceEqDiff, Nat.reduceLT, Nat.reduceAdd, Nat.reduceMul, Nat.reduceSub, Nat.add_zero, Nat.zero_add, Int.reduceEq, Int.reduceLT]; rfl) ?_; clear hK
    refine AWP.cond_split rfl (fun h39 => ?_) fun h39 => ?_
    · cases h39
    · refine AWP.skip ?_
      refine AWP.seq ?_
      refine AWP.stepR [41, 42, 43] fun K hK => ?_ -- r5
      simp only [go_sem, Nat.reduceEqDiff, Nat.reduceLT, Nat.reduceAdd, Nat.reduceMul, Nat.reduceSub, Nat.add_zero, Nat.zero_add, Int.reduceEq, Int.reduceLT, ld_27, hh1.ld, repC, hr.shown.len es_27]
      refine hK _ _ _ (by simp only [go_sem, Nat.reduceEqDiff, Nat.reduceLT, Nat.reduceAdd, Nat.reduceMul, Nat.reduceSub, Nat.add_zero, Nat.zero_add, Int.reduceEq, Int.reduceLT]; rfl) ?_; clear hK
      refine AWP.block ?_ -- b0
      refine AWP.loopK [41, 42, 43] (fun n e M0 => n ≤ r.shown.length ∧ Grew M2 M0 ∧ e = [(41, vs), (42, .int .i64 r.shown.length), (43, .int .i64 ((r.shown.length - n : Nat) : Int))] ∧ (r.shown.take (r.shown.length - n)).all shwOk = true) r.shown.length ?_ fun n e M0 hI => ?_ -- LOOP
      · simp only [go_sem, Nat.reduceEqDiff, Nat.reduceLT, Nat.reduceAdd, Nat.reduceMul, Nat.reduceSub, Nat.add_zero, Nat.zero_add, Int.reduceEq, Int.reduceLT, Nat.le_refl]
        exact ⟨Grew.refl _, by simp, by simp⟩
      obtain ⟨hn', hgl, rfl, hall⟩ := hI
      refine AWP.stepR [41, 42, 43, 44] fun K hK => ?_ -- r6
      simp only [go_sem, Nat.reduceEqDiff, Nat.reduceLT, Nat.reduceAdd, Nat.reduceMul, Nat.reduceSub, Nat.add_zero, Nat.zero_add, Int.reduceEq, Int.reduceLT]
      refine hK _ _ _ (by simp only [go_sem, Nat.reduceEqDiff, Nat.reduceLT, Nat.reduceAdd, Nat.reduceMul, Nat.reduceSub, Nat.add_zero, Nat.zero_add, Int.reduceEq, Int.reduceLT]; rfl) ?_; clear hK
      refine AWP.condS rfl (fun h44 => ?_) fun h44 => ?_
      · have hlt : r.shown.length - n < r.shown.length := by simpa using h44
        obtain ⟨b, q, ha, hd⟩ := hr.shown.at (flatMap_len shwC_len _) es_27 hlt
        have hd := (hd M0 hgl).2
        rw [flatMap_at shwC_len _ _ hlt] at hd
        generalize hx : r.shown[r.shown.length - n] = x at hd
        refine AWP.skip ?_
        refine AWP.seq ?_
        refine AWP.block ?_ -- b1
        refine AWP.stepR [4, 41, 42, 43] fun K hK => ?_ -- r7
        have hlt2 : M0.next < (M0.bump 1).next := Nat.lt_succ_self _
        simp only [go_sem, Nat.reduceEqDiff, Nat.reduceLT, Nat.reduceAdd, Nat.reduceMul, Nat.reduceSub, Nat.add_zero, Nat.zero_add, Int.reduceEq, Int.reduceLT, ha, ld_63, hd, st_fresh (M := M0.bump 1) (i := M0.next) (n := 5) (old := [.string ⟨#[]⟩, .int .i64 0, .int .i64 0, .bool false, .bool false]) (vs := shwC x) (e := 63) rfl rfl rfl]
        refine hK _ _ _ (by simp only [go_sem, Nat.reduceEqDiff, Nat.reduceLT, Nat.reduceAdd, Nat.reduceMul, Nat.reduceSub, Nat.add_zero, Nat.zero_add, Int.reduceEq, Int.reduceLT]; rfl) ?_; clear hK
        have hg4 := (((Grew.refl M0).bump 1).put (Nat.le_refl _) hlt2 ⟨[.string ⟨#[]⟩, .int .i64 0, .int .i64 0, .bool false, .bool false], 63, true⟩).put (Nat.le_refl _) hlt2 ⟨shwC x, 63, true⟩
        have hh4 : Has (((M0.bump 1).put M0.next ⟨[.string ⟨#[]⟩, .int .i64 0, .int .i64 0, .bool false, .bool false], 63, true⟩).put M0.next ⟨shwC x, 63, true⟩) M0.next ⟨shwC x, 63, true⟩ := Has.put (M := (M0.bump 1).put M0.next ⟨[.string ⟨#[]⟩, .int .i64 0, .int .i64 0, .bool false, .bool false], 63, true⟩) hlt2 _
        generalize ((M0.bump 1).put M0.next ⟨[.string ⟨#[]⟩, .int .i64 0, .int .i64 0, .bool false, .bool false], 63, true⟩).put M0.next ⟨shwC x, 63, true⟩ = M4 at hg4 hh4
        have hlt5 : M4.next < (M4.bump 1).next := Nat.lt_succ_self _
        have hg5 := ((Grew.refl M4).bump 1).put (Nat.le_refl _) hlt5 ⟨[x.id, x.size].map (Value.int .i64), 3, true⟩
        have hh5 := Has.put hlt5 ⟨[x.id, x.size].map (Value.int .i64), 3, true⟩
        generalize hM5 : (M4.bump 1).put M4.next ⟨[x.id, x.size].map (Value.int .i64), 3, true⟩ = M5 at hg5 hh5
        have hM5' : (M4.bump 1).put M4.next ⟨[.int .i64 x.id, .int .i64 x.size], 3, true⟩ = M5 := hM5
        have hgg := hgm.trans (hgl.trans (hg4.trans hg5))
        obtain ⟨r6, M6, hc6, hr6, hM6⟩ := small46_spec (.slice (some ⟨M4.next, 0, none⟩) 2 2) [x.id, x.size] M5 (hgg.ok hok) (Row_.of hh5) (by simp)
        rw [hr6, hM6] at hc6
        refine AWP.stepR [41, 42, 43, 53] fun K hK => ?_ -- r8
        simp only [go_sem, Nat.reduceEqDiff, Nat.reduceLT, Nat.reduceAdd, Nat.reduceMul, Nat.reduceSub, Nat.add_zero, Nat.zero_add, Int.reduceEq, Int.reduceLT, ld_3, hh4.ld, shwC, hM5']
        refine ⟨_, _, hc6, ?_⟩
        refine hK _ _ _ (by simp only [go_sem, Nat.reduceEqDiff, Nat.reduceLT, Nat.reduceAdd, Nat.reduceMul, Nat.reduceSub, Nat.add_zero, Nat.zero_add, Int.reduceEq, Int.reduceLT]; rfl) ?_; clear hK
        refine AWP.cond_split rfl (fun h53 => ?_) fun h53 => ?_
        · refine AWP.stepR [2] fun K hK => ?_ -- r9
          simp only [go_sem, Nat.reduceEqDiff, Nat.reduceLT, Nat.reduceAdd, Nat.reduceMul, Nat.reduceSub, Nat.add_zero, Nat.zero_add, Int.reduceEq, Int.reduceLT]
          refine hK _ _ _ (by simp only [go_sem, Nat.reduceEqDiff, Nat.reduceLT, Nat.reduceAdd, Nat.reduceMul, Nat.reduceSub, Nat.add_zero, Nat.zero_add, Int.reduceEq, Int.reduceLT]; rfl) ?_; clear hK
          refine AWP.ret (InBlock.ret (Then.ret (Then.ret (InBlock.ret (Then.ret (?_))))))
          refine Fin.plain (.inr rfl) rfl rfl hok hgg ⟨?_, rfl⟩
          have hf : r.shown.all shwOk = false := List.all_eq_false.2 ⟨x, hx ▸ List.getElem_mem hlt, by simp [shwOk] at h53 ⊢; rcases h53 with h | h <;> simp [h]⟩
          rw [checkF, hf]; simp
        · refine AWP.skip ?_
          refine AWP.lastR fun K hK => ?_ -- r10
          simp only [go_sem, Nat.reduceEqDiff, Nat.reduceLT, Nat.reduceAdd, Nat.reduceMul, Nat.reduceSub, Nat.add_zero, Nat.zero_add, Int.reduceEq, Int.reduceLT]
          refine hK _ _ ?_; clear hK
          refine ⟨n - 1, by omega, by omega, hgl.trans (hg4.trans hg5), ?_, ?_⟩ -- ROUND
          · simp only [go_sem, Nat.reduceEqDiff, Nat.reduceLT, Nat.reduceAdd, Nat.reduceMul, Nat.reduceSub, Nat.add_zero, Nat.zero_add, Int.reduceEq, Int.reduceLT]
            rw [i64w (by omega) (by omega), show ((r.shown.length - n : Nat) : Int) + 1 = ((r.shown.length - (n - 1) : Nat) : Int) by omega]
          · rw [show r.shown.length - (n - 1) = r.shown.length - n + 1 by omega, List.take_succ_eq_append_getElem hlt, List.all_append, hall, hx]
            simpa [shwOk] using h53
      · refine AWP.exit (Then.exit (Then.exit (InBlock.same ?_))) -- x0
        refine AWP.stepR [2] fun K hK => ?_ -- r11
        simp only [go_sem, Nat.reduceEqDiff, Nat.reduceLT, Nat.reduceAdd, Nat.reduceMul, Nat.reduceSub, Nat.add_zero, Nat.zero_add, Int.reduceEq, Int.reduceLT]
        refine hK _ _ _ (by simp only [go_sem, Nat.reduceEqDiff, Nat.reduceLT, Nat.reduceAdd, Nat.reduceMul, Nat.reduceSub, Nat.add_zero, Nat.zero_add, Int.reduceEq, Int.reduceLT]; rfl) ?_; clear hK
        refine AWP.ret (?_)
        refine Fin.plain (.inr rfl) rfl rfl hok (hgm.trans hgl) ⟨?_, rfl⟩
        have hn0 : n = 0 := by simp at h44; omega
        rw [hn0, Nat.sub_zero, List.take_length] at hall
        rw [checkF, if_pos (by simpa using h21), hall, if_pos rfl]
end Go.Proofs.Ythheaehpnleiaaa.AX

/- An answer that is no more than is waited for. -/
namespace Go.Proofs.Ythheaehpnleiaaa.AX
open Go Go.Proofs
set_option maxRecDepth 100000
set_option linter.unusedVariables false
set_option linter.unusedSimpArgs false

def lightA (r : Rep) : Bool := decide (r.body.length ≤ 2000 ∧ r.meta_.length ≤ 300 ∧ r.tags.length ≤ 300 ∧ r.names.length ≤ 40 ∧ r.prefixes.length ≤ 40 ∧ r.next.size ≤ 300 ∧ r.shown.length ≤ 40)
def short (s : ByteArray) : Bool := decide (s.size ≤ 300)
def shortS (s : Shw) : Bool := decide (s.name.size ≤ 300)
def lightF (r : Rep) : Bool := lightA r && r.names.all short && r.prefixes.all short && r.shown.all shortS

theorem light10_spec (r : Rep) (vb vm vt vn vp vs : Value) (M : Mem) (hok : Ok M) (hr : RepR M r vb vm vt vn vp vs) :
    ∃ v M', ACall Try.prog 10 #[.agg (repC r vb vm vt vn vp vs).toArray] M v M' ∧ v = .bool (lightF r) ∧ M' = M := by
  refine ACall.fin (args := [.agg (repC r vb vm vt vn vp vs).toArray]) (k := 96) Try.func10 rfl rfl rfl (Nat.le_of_ble_eq_true rfl) ?_
  refine AWP.stepR [1] fun K hK => ?_ -- r0
  simp only [go_sem, Nat.reduceEqDiff, Nat.reduceLT, Nat.reduceAdd, Nat.reduceMul, Nat.reduceSub, Nat.add_zero, Nat.zero_add, Int.reduceEq, Int.reduceLT]
  refine hK _ _ _ (by simp only [go_sem, Nat.reduceEqDiff, Nat.reduceLT, Nat.reduceAdd, Nat.reduceMul, Nat.reduceSub, Nat.add_zero, Nat.zero_add, Int.reduceEq, Int.reduceLT]; rfl) ?_; clear hK
  have hlt0 : M.next < (M.bump 1).next := Nat.lt_succ_self _
  have hg1 := ((Grew.refl M).bump 1).put (Nat.le_refl _) hlt0 ⟨repC r vb vm vt vn vp vs, 29, true⟩
  have hh1 := Has.put hlt0 ⟨repC r vb vm vt vn vp vs, 29, true⟩
  change AWP _ _ _ ⟨_, (M.bump 1).put M.next ⟨repC r vb vm vt vn vp vs, 29, true⟩⟩ _
  generalize hM1 : (M.bump 1).put M.next ⟨repC r vb vm vt vn vp vs, 29, true⟩ = M1 at hg1 hh1
  have hr := hr.grew hg1
  refine AWP.seq ?_
  refine AWP.stepX [1, 48] [(1, .pointer (some ⟨M.next, 0, none⟩)), (48, .bool (!lightA r))] M1 (fun K hK => ?_) ?_ -- r1
  · by_cases c0 : (r.body.length : Int) > 2000
    · have d0 : decide ((r.body.length : Int) > 2000) = true := decide_eq_true c0
      simp -implicitDefEqProofs only [go_sem, Nat.reduceEqDiff, Nat.reduceLT, Nat.reduceAdd, Nat.reduceMul, Nat.reduceSub, Nat.add_zero, Nat.zero_add, Int.reduceEq, Int.reduceLT, ld_23, ld_24, ld_27, ld_9, hh1.ld, repC, hr.body.len es_23, hr.meta_.len es_23, hr.tags.len es_23, hr.names.len es_24, hr.prefixes.len es_24, hr.shown.len es_27, d0]
      exact hK _ (by simp only [go_sem, Nat.reduceEqDiff, Nat.reduceLT, Nat.reduceAdd, Nat.reduceMul, Nat.reduceSub, Nat.add_zero, Nat.zero_add, Int.reduceEq, Int.reduceLT]; rw [show lightA r = false from decide_eq_false (by omega)]; rfl)
    have d0 : decide ((r.body.length : Int) > 2000) = false := decide_eq_false c0
    by_cases c1 : (r.meta_.length : Int) > 300
    · have d1 : decide ((r.meta_.length : Int) > 300) = true := decide_eq_true c1
      simp -implicitDefEqProofs only [go_sem, Nat.reduceEqDiff, Nat.reduceLT, Nat.reduceAdd, Nat.reduceMul, Nat.reduceSub, Nat.add_zero, Nat.zero_add, Int.reduceEq, Int.reduceLT, ld_23, ld_24, ld_27, ld_9, hh1.ld, repC, hr.body.len es_23, hr.meta_.len es_23, hr.tags.len es_23, hr.names.len es_24, hr.prefixes.len es_24, hr.shown.len es_27, d0, d1]
      exact hK _ (by simp only [go_sem, Nat.reduceEqDiff, Nat.reduceLT, Nat.reduceAdd, Nat.reduceMul, Nat.reduceSub, Nat.add_zero, Nat.zero_add, Int.reduceEq, Int.reduceLT]; rw [show lightA r = false from decide_eq_false (by omega)]; rfl)
    have d1 : decide ((r.meta_.length : Int) > 300) = false := decide_eq_false c1
    by_cases c2 : (r.tags.length : Int) > 300
    · have d2 : decide ((r.tags.length : Int) > 300) = true := decide_eq_true c2
      simp -implicitDefEqProofs only [go_sem, Nat.reduceEqDiff, Nat.reduceLT, Nat.reduceAdd, Nat.reduceMul, Nat.reduceSub, Nat.add_zero, Nat.zero_add, Int.reduceEq, Int.reduceLT, ld_23, ld_24, ld_27, ld_9, hh1.ld, repC, hr.body.len es_23, hr.meta_.len es_23, hr.tags.len es_23, hr.names.len es_24, hr.prefixes.len es_24, hr.shown.len es_27, d0, d1, d2]
      exact hK _ (by simp only [go_sem, Nat.reduceEqDiff, Nat.reduceLT, Nat.reduceAdd, Nat.reduceMul, Nat.reduceSub, Nat.add_zero, Nat.zero_add, Int.reduceEq, Int.reduceLT]; rw [show lightA r = false from decide_eq_false (by omega)]; rfl)
    have d2 : decide ((r.tags.length : Int) > 300) = false := decide_eq_false c2
    by_cases c3 : (r.names.length : Int) > 40
    · have d3 : decide ((r.names.length : Int) > 40) = true := decide_eq_true c3
      simp -implicitDefEqProofs only [go_sem, Nat.reduceEqDiff, Nat.reduceLT, Nat.reduceAdd, Nat.reduceMul, Nat.reduceSub, Nat.add_zero, Nat.zero_add, Int.reduceEq, Int.reduceLT, ld_23, ld_24, ld_27, ld_9, hh1.ld, repC, hr.body.len es_23, hr.meta_.len es_23, hr.tags.len es_23, hr.names.len es_24, hr.prefixes.len es_24, hr.shown.len es_27, d0, d1, d2, d3]
      exact hK _ (by simp only [go_sem, Nat.reduceEqDiff, Nat.reduceLT, Nat.reduceAdd, Nat.reduceMul, Nat.reduceSub, Nat.add_zero, Nat.zero_add, Int.reduceEq, Int.reduceLT]; rw [show lightA r = false from decide_eq_false (by omega)]; rfl)
    have d3 : decide ((r.names.length : Int) > 40) = false := decide_eq_false c3
    by_cases c4 : (r.prefixes.length : Int) > 40
    · have d4 : decide ((r.prefixes.length : Int) > 40) = true := decide_eq_true c4
      simp -implicitDefEqProofs only [go_sem, Nat.reduceEqDiff, Nat.reduceLT, Nat.reduceAdd, Nat.reduceMul, Nat.reduceSub, Nat.add_zero, Nat.zero_add, Int.reduceEq, Int.reduceLT, ld_23, ld_24, ld_27, ld_9, hh1.ld, repC, hr.body.len es_23, hr.meta_.len es_23, hr.tags.len es_23, hr.names.len es_24, hr.prefixes.len es_24, hr.shown.len es_27, d0, d1, d2, d3, d4]
      exact hK _ (by simp only [go_sem, Nat.reduceEqDiff, Nat.reduceLT, Nat.reduceAdd, Nat.reduceMul, Nat.reduceSub, Nat.add_zero, Nat.zero_add, Int.reduceEq, Int.reduceLT]; rw [show lightA r = false from decide_eq_false (by omega)]; rfl)
    have d4 : decide ((r.prefixes.length : Int) > 40) = false := decide_eq_false c4
    by_cases c5 : (r.next.size : Int) > 300
    · have d5 : decide ((r.next.size : Int) > 300) = true := decide_eq_true c5
      simp -implicitDefEqProofs only [go_sem, Nat.reduceEqDiff, Nat.reduceLT, Nat.reduceAdd, Nat.reduceMul, Nat.reduceSub, Nat.add_zero, Nat.zero_add, Int.reduceEq, Int.reduceLT, ld_23, ld_24, ld_27, ld_9, hh1.ld, repC, hr.body.len es_23, hr.meta_.len es_23, hr.tags.len es_23, hr.names.len es_24, hr.prefixes.len es_24, hr.shown.len es_27, d0, d1, d2, d3, d4, d5]
      exact hK _ (by simp only [go_sem, Nat.reduceEqDiff, Nat.reduceLT, Nat.reduceAdd, Nat.reduceMul, Nat.reduceSub, Nat.add_zero, Nat.zero_add, Int.reduceEq, Int.reduceLT]; rw [show lightA r = false from decide_eq_false (by omega)]; rfl)
    have d5 : decide ((r.next.size : Int) > 300) = false := decide_eq_false c5
    by_cases c6 : (r.shown.length : Int) > 40
    · have d6 : decide ((r.shown.length : Int) > 40) = true := decide_eq_true c6
      simp -implicitDefEqProofs only [go_sem, Nat.reduceEqDiff, Nat.reduceLT, Nat.reduceAdd, Nat.reduceMul, Nat.reduceSub, Nat.add_zero, Nat.zero_add, Int.reduceEq, Int.reduceLT, ld_23, ld_24, ld_27, ld_9, hh1.ld, repC, hr.body.len es_23, hr.meta_.len es_23, hr.tags.len es_23, hr.names.len es_24, hr.prefixes.len es_24, hr.shown.len es_27, d0, d1, d2, d3, d4, d5, d6]
      exact hK _ (by simp only [go_sem, Nat.reduceEqDiff, Nat.reduceLT, Nat.reduceAdd, Nat.reduceMul, Nat.reduceSub, Nat.add_zero, Nat.zero_add, Int.reduceEq, Int.reduceLT]; rw [show lightA r = false from decide_eq_false (by omega)]; rfl)
    have d6 : decide ((r.shown.length : Int) > 40) = false := decide_eq_false c6
    simp -implicitDefEqProofs only [go_sem, Nat.reduceEqDiff, Nat.reduceLT, Nat.reduceAdd, Nat.reduceMul, Nat.reduceSub, Nat.add_zero, Nat.zero_add, Int.reduceEq, Int.reduceLT, ld_23, ld_24, ld_27, ld_9, hh1.ld, repC, hr.body.len es_23, hr.meta_.len es_23, hr.tags.len es_23, hr.names.len es_24, hr.prefixes.len es_24, hr.shown.len es_27, d0, d1, d2, d3, d4, d5, d6]
    exact hK _ (by simp only [go_sem, Nat.reduceEqDiff, Nat.reduceLT, Nat.reduceAdd, Nat.reduceMul, Nat.reduceSub, Nat.add_zero, Nat.zero_add, Int.reduceEq, Int.reduceLT]; rw [show lightA r = true from decide_eq_true (by omega)]; rfl)
  refine AWP.cond_split rfl (fun h48 => ?_) fun h48 => ?_
  · refine AWP.stepR [2] fun K hK => ?_ -- r2
    simp only [go_sem, Nat.reduceEqDiff, Nat.reduceLT, Nat.reduceAdd, Nat.reduceMul, Nat.reduceSub, Nat.add_zero, Nat.zero_add, Int.reduceEq, Int.reduceLT]
    refine hK _ _ _ (by simp only [go_sem, Nat.reduceEqDiff, Nat.reduceLT, Nat.reduceAdd, Nat.reduceMul, Nat.reduceSub, Nat.add_zero, Nat.zero_add, Int.reduceEq, Int.reduceLT]; rfl) ?_; clear hK
    refine AWP.ret (Then.ret (?_))
    exact Fin.plain (.inr rfl) rfl rfl hok hg1 ⟨by rw [lightF, show lightA r = false by simpa using h48]; rfl, rfl⟩
  · have hA : lightA r = true := by simpa using h48
    have hA' := of_decide_eq_true hA
    refine AWP.skip ?_
    refine AWP.seq ?_
    refine AWP.stepR [1, 3] fun K hK => ?_
    simp only [go_sem, Nat.reduceEqDiff, Nat.reduceLT, Nat.reduceAdd, Nat.reduceMul, Nat.reduceSub, Nat.add_zero, Nat.zero_add, Int.reduceEq, Int.reduceLT]
    refine hK _ _ _ (by simp only [go_sem, Nat.reduceEqDiff, Nat.reduceLT, Nat.reduceAdd, Nat.reduceMul, Nat.reduceSub, Nat.add_zero, Nat.zero_add, Int.reduceEq, Int.reduceLT]; rfl) ?_; clear hK
    refine AWP.block ?_ -- b0
    refine AWP.loopK [1, 3] (fun n e M2 => n ≤ r.names.length ∧ M2 = M1 ∧ e = [(1, .pointer (some ⟨M.next, 0, none⟩)), (3, .int .i64 ((r.names.length - n : Nat) : Int))] ∧ (r.names.take (r.names.length - n)).all short = true) r.names.length ?_ fun n e M2 hI => ?_ -- LOOP
    · simp only [go_sem, Nat.reduceEqDiff, Nat.reduceLT, Nat.reduceAdd, Nat.reduceMul, Nat.reduceSub, Nat.add_zero, Nat.zero_add, Int.reduceEq, Int.reduceLT, Nat.le_refl]
      exact ⟨by simp, by simp⟩
    obtain ⟨hn', rfl, rfl, hall⟩ := hI
    refine AWP.seq ?_
    refine AWP.stepR [1, 3, 54] fun K hK => ?_
    simp only [go_sem, Nat.reduceEqDiff, Nat.reduceLT, Nat.reduceAdd, Nat.reduceMul, Nat.reduceSub, Nat.add_zero, Nat.zero_add, Int.reduceEq, Int.reduceLT, ld_24, ld_27, hh1.ld, repC, hr.names.len es_24]
    refine hK _ _ _ (by simp only [go_sem, Nat.reduceEqDiff, Nat.reduceLT, Nat.reduceAdd, Nat.reduceMul, Nat.reduceSub, Nat.add_zero, Nat.zero_add, Int.reduceEq, Int.reduceLT]; rfl) ?_; clear hK
    refine AWP.cond_split rfl (fun h54 => ?_) fun h54 => ?_
    · have hlt : r.names.length - n < r.names.length := by simpa using h54
      obtain ⟨b, q, ha, hd⟩ := hr.names.at1 (by simp) es_24 hlt
      have hd := hd M2 (Grew.refl _)
      rw [show (r.names.map Value.string)[r.names.length - n]? = some (.string r.names[r.names.length - n]) by simp [hlt]] at hd
      generalize hx : r.names[r.names.length - n] = x at hd
      refine AWP.skip ?_
      refine AWP.seq ?_
      refine AWP.block ?_ -- b1
      refine AWP.stepR [1, 3, 64] fun K hK => ?_
      simp only [go_sem, Nat.reduceEqDiff, Nat.reduceLT, Nat.reduceAdd, Nat.reduceMul, Nat.reduceSub, Nat.add_zero, Nat.zero_add, Int.reduceEq, Int.reduceLT, ld_24, ld_27, ld_9, hh1.ld, repC, ha, hd, shwC]
      refine hK _ _ _ (by simp only [go_sem, Nat.reduceEqDiff, Nat.reduceLT, Nat.reduceAdd, Nat.reduceMul, Nat.reduceSub, Nat.add_zero, Nat.zero_add, Int.reduceEq, Int.reduceLT]; rfl) ?_; clear hK
      refine AWP.cond_split rfl (fun h64 => ?_) fun h64 => ?_
      · refine AWP.stepR [2] fun K hK => ?_
        simp only [go_sem, Nat.reduceEqDiff, Nat.reduceLT, Nat.reduceAdd, Nat.reduceMul, Nat.reduceSub, Nat.add_zero, Nat.zero_add, Int.reduceEq, Int.reduceLT]
        refine hK _ _ _ (by simp only [go_sem, Nat.reduceEqDiff, Nat.reduceLT, Nat.reduceAdd, Nat.reduceMul, Nat.reduceSub, Nat.add_zero, Nat.zero_add, Int.reduceEq, Int.reduceLT]; rfl) ?_; clear hK
        refine AWP.ret (InBlock.ret (Then.ret (Then.ret (InBlock.ret (Then.ret (?_))))))
        refine Fin.plain (.inr rfl) rfl rfl hok hg1 ⟨?_, rfl⟩
        have hf : r.names.all short = false := List.all_eq_false.2 ⟨x, hx ▸ List.getElem_mem hlt, by simp [short] at h64 ⊢; omega⟩
        rw [lightF, hf]; simp
      · refine AWP.skip ?_
        refine AWP.lastR fun K hK => ?_
        simp only [go_sem, Nat.reduceEqDiff, Nat.reduceLT, Nat.reduceAdd, Nat.reduceMul, Nat.reduceSub, Nat.add_zero, Nat.zero_add, Int.reduceEq, Int.reduceLT]
        refine hK _ _ ?_; clear hK
        refine ⟨n - 1, by omega, by omega, rfl, ?_, ?_⟩ -- ROUND
        · simp only [go_sem, Nat.reduceEqDiff, Nat.reduceLT, Nat.reduceAdd, Nat.reduceMul, Nat.reduceSub, Nat.add_zero, Nat.zero_add, Int.reduceEq, Int.reduceLT]
          rw [i64w (by omega) (by omega), show ((r.names.length - n : Nat) : Int) + 1 = ((r.names.length - (n - 1) : Nat) : Int) by omega]
        · rw [show r.names.length - (n - 1) = r.names.length - n + 1 by omega, List.take_succ_eq_append_getElem hlt, List.all_append, hall, hx]
          simp [short] at h64 ⊢; omega
    · refine AWP.exit (Then.exit (Then.exit (InBlock.same ?_)))
      have hn0 : n = 0 := by simp at h54; omega
      rw [hn0, Nat.sub_zero, List.take_length] at hall
      have hall0 := hall
      clear hall
      refine AWP.seq ?_
      refine AWP.stepR [1, 4] fun K hK => ?_
      simp only [go_sem, Nat.reduceEqDiff, Nat.reduceLT, Nat.reduceAdd, Nat.reduceMul, Nat.reduceSub, Nat.add_zero, Nat.zero_add, Int.reduceEq, Int.reduceLT]
      refine hK _ _ _ (by simp only [go_sem, Nat.reduceEqDiff, Nat.reduceLT, Nat.reduceAdd, Nat.reduceMul, Nat.reduceSub, Nat.add_zero, Nat.zero_add, Int.reduceEq, Int.reduceLT]; rfl) ?_; clear hK
      refine AWP.block ?_ -- b2
      refine AWP.loopK [1, 4] (fun n e M3 => n ≤ r.prefixes.length ∧ M3 = M2 ∧ e = [(1, .pointer (some ⟨M.next, 0, none⟩)), (4, .int .i64 ((r.prefixes.length - n : Nat) : Int))] ∧ (r.prefixes.take (r.prefixes.length - n)).all short = true) r.prefixes.length ?_ fun n e M3 hI => ?_ -- LOOP
      · simp only [go_sem, Nat.reduceEqDiff, Nat.reduceLT, Nat.reduceAdd, Nat.reduceMul, Nat.reduceSub, Nat.add_zero, Nat.zero_add, Int.reduceEq, Int.reduceLT, Nat.le_refl]
        exact ⟨by simp, by simp⟩
      obtain ⟨hn', rfl, rfl, hall⟩ := hI
      refine AWP.seq ?_
      refine AWP.stepR [1, 4, 70] fun K hK => ?_
      simp only [go_sem, Nat.reduceEqDiff, Nat.reduceLT, Nat.reduceAdd, Nat.reduceMul, Nat.reduceSub, Nat.add_zero, Nat.zero_add, Int.reduceEq, Int.reduceLT, ld_24, ld_27, hh1.ld, repC, hr.prefixes.len es_24]
      refine hK _ _ _ (by simp only [go_sem, Nat.reduceEqDiff, Nat.reduceLT, Nat.reduceAdd, Nat.reduceMul, Nat.reduceSub, Nat.add_zero, Nat.zero_add, Int.reduceEq, Int.reduceLT]; rfl) ?_; clear hK
      refine AWP.cond_split rfl (fun h70 => ?_) fun h70 => ?_
      · have hlt : r.prefixes.length - n < r.prefixes.length := by simpa using h70
        obtain ⟨b, q, ha, hd⟩ := hr.prefixes.at1 (by simp) es_24 hlt
        have hd := hd M3 (Grew.refl _)
        rw [show (r.prefixes.map Value.string)[r.prefixes.length - n]? = some (.string r.prefixes[r.prefixes.length - n]) by simp [hlt]] at hd
        generalize hx : r.prefixes[r.prefixes.length - n] = x at hd
        refine AWP.skip ?_
        refine AWP.seq ?_
        refine AWP.block ?_ -- b3
        refine AWP.stepR [1, 4, 80] fun K hK => ?_
        simp only [go_sem, Nat.reduceEqDiff, Nat.reduceLT, Nat.reduceAdd, Nat.reduceMul, Nat.reduceSub, Nat.add_zero, Nat.zero_add, Int.reduceEq, Int.reduceLT, ld_24, ld_27, ld_9, hh1.ld, repC, ha, hd, shwC]
        refine hK _ _ _ (by simp only [go_sem, Nat.reduceEqDiff, Nat.reduceLT, Nat.reduceAdd, Nat.reduceMul, Nat.reduceSub, Nat.add_zero, Nat.zero_add, Int.reduceEq, Int.reduceLT]; rfl) ?_; clear hK
        refine AWP.cond_split rfl (fun h80 => ?_) fun h80 => ?_
        · refine AWP.stepR [2] fun K hK => ?_
          simp only [go_sem, Nat.reduceEqDiff, Nat.reduceLT, Nat.reduceAdd, Nat.reduceMul, Nat.reduceSub, Nat.add_zero, Nat.zero_add, Int.reduceEq, Int.reduceLT]
          refine hK _ _ _ (by simp only [go_sem, Nat.reduceEqDiff, Nat.reduceLT, Nat.reduceAdd, Nat.reduceMul, Nat.reduceSub, Nat.add_zero, Nat.zero_add, Int.reduceEq, Int.reduceLT]; rfl) ?_; clear hK
          refine AWP.ret (InBlock.ret (Then.ret (Then.ret (InBlock.ret (Then.ret (?_))))))
          refine Fin.plain (.inr rfl) rfl rfl hok hg1 ⟨?_, rfl⟩
          have hf : r.prefixes.all short = false := List.all_eq_false.2 ⟨x, hx ▸ List.getElem_mem hlt, by simp [short] at h80 ⊢; omega⟩
          rw [lightF, hf]; simp
        · refine AWP.skip ?_
          refine AWP.lastR fun K hK => ?_
          simp only [go_sem, Nat.reduceEqDiff, Nat.reduceLT, Nat.reduceAdd, Nat.reduceMul, Nat.reduceSub, Nat.add_zero, Nat.zero_add, Int.reduceEq, Int.reduceLT]
          refine hK _ _ ?_; clear hK
          refine ⟨n - 1, by omega, by omega, rfl, ?_, ?_⟩ -- ROUND
          · simp only [go_sem, Nat.reduceEqDiff, Nat.reduceLT, Nat.reduceAdd, Nat.reduceMul, Nat.reduceSub, Nat.add_zero, Nat.zero_add, Int.reduceEq, Int.reduceLT]
            rw [i64w (by omega) (by omega), show ((r.prefixes.length - n : Nat) : Int) + 1 = ((r.prefixes.length - (n - 1) : Nat) : Int) by omega]
          · rw [show r.prefixes.length - (n - 1) = r.prefixes.length - n + 1 by omega, List.take_succ_eq_append_getElem hlt, List.all_append, hall, hx]
            simp [short] at h80 ⊢; omega
      · refine AWP.exit (Then.exit (Then.exit (InBlock.same ?_)))
        have hn0 : n = 0 := by simp at h70; omega
        rw [hn0, Nat.sub_zero, List.take_length] at hall
        have hall1 := hall
        clear hall
        refine AWP.seq ?_
        refine AWP.stepR [1, 5] fun K hK => ?_
        simp only [go_sem, Nat.reduceEqDiff, Nat.reduceLT, Nat.reduceAdd, Nat.reduceMul, Nat.reduceSub, Nat.add_zero, Nat.zero_add, Int.reduceEq, Int.reduceLT]
        refine hK _ _ _ (by simp only [go_sem, Nat.reduceEqDiff, Nat.reduceLT, Nat.reduceAdd, Nat.reduceMul, Nat.reduceSub, Nat.add_zero, Nat.zero_add, Int.reduceEq, Int.reduceLT]; rfl) ?_; clear hK
        refine AWP.block ?_ -- b4
        refine AWP.loopK [1, 5] (fun n e M4 => n ≤ r.shown.length ∧ M4 = M3 ∧ e = [(1, .pointer (some ⟨M.next, 0, none⟩)), (5, .int .i64 ((r.shown.length - n : Nat) : Int))] ∧ (r.shown.take (r.shown.length - n)).all shortS = true) r.shown.length ?_ fun n e M4 hI => ?_ -- LOOP
        · simp only [go_sem, Nat.reduceEqDiff, Nat.reduceLT, Nat.reduceAdd, Nat.reduceMul, Nat.reduceSub, Nat.add_zero, Nat.zero_add, Int.reduceEq, Int.reduceLT, Nat.le_refl]
          exact ⟨by simp, by simp⟩
        obtain ⟨hn', rfl, rfl, hall⟩ := hI
        refine AWP.seq ?_
        refine AWP.stepR [1, 5, 85] fun K hK => ?_
        simp only [go_sem, Nat.reduceEqDiff, Nat.reduceLT, Nat.reduceAdd, Nat.reduceMul, Nat.reduceSub, Nat.add_zero, Nat.zero_add, Int.reduceEq, Int.reduceLT, ld_24, ld_27, hh1.ld, repC, hr.shown.len es_27]
        refine hK _ _ _ (by simp only [go_sem, Nat.reduceEqDiff, Nat.reduceLT, Nat.reduceAdd, Nat.reduceMul, Nat.reduceSub, Nat.add_zero, Nat.zero_add, Int.reduceEq, Int.reduceLT]; rfl) ?_; clear hK
        refine AWP.cond_split rfl (fun h85 => ?_) fun h85 => ?_
        · have hlt : r.shown.length - n < r.shown.length := by simpa using h85
          obtain ⟨b, q, ha, hd⟩ := hr.shown.at (flatMap_len shwC_len _) es_27 hlt
          have hd := (hd M4 (Grew.refl _)).1 0 (by decide)
          rw [flatMap_cell shwC_len _ _ hlt (by decide), Nat.add_zero] at hd
          generalize hx : r.shown[r.shown.length - n] = x at hd
          refine AWP.skip ?_
          refine AWP.seq ?_
          refine AWP.block ?_ -- b5
          refine AWP.stepR [1, 5, 95] fun K hK => ?_
          simp only [go_sem, Nat.reduceEqDiff, Nat.reduceLT, Nat.reduceAdd, Nat.reduceMul, Nat.reduceSub, Nat.add_zero, Nat.zero_add, Int.reduceEq, Int.reduceLT, ld_24, ld_27, ld_9, hh1.ld, repC, ha, hd, shwC]
          refine hK _ _ _ (by simp only [go_sem, Nat.reduceEqDiff, Nat.reduceLT, Nat.reduceAdd, Nat.reduceMul, Nat.reduceSub, Nat.add_zero, Nat.zero_add, Int.reduceEq, Int.reduceLT]; rfl) ?_; clear hK
          refine AWP.cond_split rfl (fun h95 => ?_) fun h95 => ?_
          · refine AWP.stepR [2] fun K hK => ?_
            simp only [go_sem, Nat.reduceEqDiff, Nat.reduceLT, Nat.reduceAdd, Nat.reduceMul, Nat.reduceSub, Nat.add_zero, Nat.zero_add, Int.reduceEq, Int.reduceLT]
            refine hK _ _ _ (by simp only [go_sem, Nat.reduceEqDiff, Nat.reduceLT, Nat.reduceAdd, Nat.reduceMul, Nat.reduceSub, Nat.add_zero, Nat.zero_add, Int.reduceEq, Int.reduceLT]; rfl) ?_; clear hK
            refine AWP.ret (InBlock.ret (Then.ret (Then.ret (InBlock.ret (Then.ret (?_))))))
            refine Fin.plain (.inr rfl) rfl rfl hok hg1 ⟨?_, rfl⟩
            have hf : r.shown.all shortS = false := List.all_eq_false.2 ⟨x, hx ▸ List.getElem_mem hlt, by simp [shortS] at h95 ⊢; omega⟩
            rw [lightF, hf]; simp
          · refine AWP.skip ?_
            refine AWP.lastR fun K hK => ?_
            simp only [go_sem, Nat.reduceEqDiff, Nat.reduceLT, Nat.reduceAdd, Nat.reduceMul, Nat.reduceSub, Nat.add_zero, Nat.zero_add, Int.reduceEq, Int.reduceLT]
            refine hK _ _ ?_; clear hK
            refine ⟨n - 1, by omega, by omega, rfl, ?_, ?_⟩ -- ROUND
            · simp only [go_sem, Nat.reduceEqDiff, Nat.reduceLT, Nat.reduceAdd, Nat.reduceMul, Nat.reduceSub, Nat.add_zero, Nat.zero_add, Int.reduceEq, Int.reduceLT]
              rw [i64w (by omega) (by omega), show ((r.shown.length - n : Nat) : Int) + 1 = ((r.shown.length - (n - 1) : Nat) : Int) by omega]
            · rw [show r.shown.length - (n - 1) = r.shown.length - n + 1 by omega, List.take_succ_eq_append_getElem hlt, List.all_append, hall, hx]
              simp [shortS] at h95 ⊢; omega
        · refine AWP.exit (Then.exit (Then.exit (InBlock.same ?_)))
          have hn0 : n = 0 := by simp at h85; omega
          rw [hn0, Nat.sub_zero, List.take_length] at hall
          have hall2 := hall
          clear hall
          refine AWP.stepR [2] fun K hK => ?_ -- r18
          simp only [go_sem, Nat.reduceEqDiff, Nat.reduceLT, Nat.reduceAdd, Nat.reduceMul, Nat.reduceSub, Nat.add_zero, Nat.zero_add, Int.reduceEq, Int.reduceLT]
          refine hK _ _ _ (by simp only [go_sem, Nat.reduceEqDiff, Nat.reduceLT, Nat.reduceAdd, Nat.reduceMul, Nat.reduceSub, Nat.add_zero, Nat.zero_add, Int.reduceEq, Int.reduceLT]; rfl) ?_; clear hK
          refine AWP.ret (?_)
          refine Fin.plain (.inr rfl) rfl rfl hok hg1 ⟨?_, rfl⟩
          rw [lightF, hA, hall0, hall1, hall2]; rfl
end Go.Proofs.Ythheaehpnleiaaa.AX
