/- Numbers as bytes; bytes with their length ahead. -/
import Derived.Test.YthheaehpnleiaaaAxF1
namespace Go.Proofs.Ythheaehpnleiaaa.AX
open Go Go.Proofs
set_option maxRecDepth 100000
set_option linter.unusedVariables false
set_option linter.unusedSimpArgs false

/-- a number in so many bytes, the highest first -/
def putB (n : Int) : Nat → List Int
  | 0 => []
  | s + 1 => putB (n / 256) s ++ [n % 256]
theorem putB_length (n : Int) (s : Nat) : (putB n s).length = s := by
  induction s generalizing n with
  | zero => rfl
  | succ s ih => simp [putB, ih]

theorem put43_spec (s : Nat) : ∀ (n : Int) (M : Mem) (hok : Ok M) (hn : 0 ≤ n ∧ n ≤ 18446744073709551615) (hs : s ≤ 1000), ∃ r M', ACall Try.prog 43 #[.int .u64 n, .int .i64 s] M r M' ∧ Grew M M' ∧ OwnB M M' r (putB n s) 5 := by
  induction s with
  | zero =>
    intro n M hok hn hs
    refine ACall.fin (args := [.int .u64 n, .int .i64 ((0 : Nat) : Int)]) (k := 17) Try.func43 rfl rfl rfl (Nat.le_of_ble_eq_true rfl) ?_
    refine AWP.stepR [0, 1] fun K hK => ?_ -- r0
    simp only [go_sem, Nat.reduceEqDiff, Nat.reduceLT, Nat.reduceAdd, Nat.reduceMul, Nat.reduceSub, Nat.add_zero, Nat.zero_add, Int.reduceEq, Int.reduceLT]
    refine hK _ _ _ (by simp only [go_sem, Nat.reduceEqDiff, Nat.reduceLT, Nat.reduceAdd, Nat.reduceMul, Nat.reduceSub, Nat.add_zero, Nat.zero_add, Int.reduceEq, Int.reduceLT]; rfl) ?_; clear hK
    refine AWP.seq ?_
    refine AWP.stepR [0, 1, 6] fun K hK => ?_ -- r1
    simp only [go_sem, Nat.reduceEqDiff, Nat.reduceLT, Nat.reduceAdd, Nat.reduceMul, Nat.reduceSub, Nat.add_zero, Nat.zero_add, Int.reduceEq, Int.reduceLT]
    refine hK _ _ _ (by simp only [go_sem, Nat.reduceEqDiff, Nat.reduceLT, Nat.reduceAdd, Nat.reduceMul, Nat.reduceSub, Nat.add_zero, Nat.zero_add, Int.reduceEq, Int.reduceLT]; rfl) ?_; clear hK
    refine AWP.cond_split rfl (fun h6 => ?_) fun h6 => ?_
    · refine AWP.stepR [4] fun K hK => ?_ -- r2
      simp only [go_sem, Nat.reduceEqDiff, Nat.reduceLT, Nat.reduceAdd, Nat.reduceMul, Nat.reduceSub, Nat.add_zero, Nat.zero_add, Int.reduceEq, Int.reduceLT]
      refine hK _ _ _ (by simp only [go_sem, Nat.reduceEqDiff, Nat.reduceLT, Nat.reduceAdd, Nat.reduceMul, Nat.reduceSub, Nat.add_zero, Nat.zero_add, Int.reduceEq, Int.reduceLT]; rfl) ?_; clear hK
      refine AWP.ret (Then.ret (?_))
      exact Fin.plain (.inr rfl) rfl rfl hok (Grew.refl _) ⟨Grew.refl _, Own.nil _ _ _⟩
    · simp at h6
  | succ s ih =>
    intro n M hok hn hs
    refine ACall.fin (args := [.int .u64 n, .int .i64 ((s + 1 : Nat) : Int)]) (k := 17) Try.func43 rfl rfl rfl (Nat.le_of_ble_eq_true rfl) ?_
    refine AWP.stepR [0, 1] fun K hK => ?_ -- r0
    simp only [go_sem, Nat.reduceEqDiff, Nat.reduceLT, Nat.reduceAdd, Nat.reduceMul, Nat.reduceSub, Nat.add_zero, Nat.zero_add, Int.reduceEq, Int.reduceLT]
    refine hK _ _ _ (by simp only [go_sem, Nat.reduceEqDiff, Nat.reduceLT, Nat.reduceAdd, Nat.reduceMul, Nat.reduceSub, Nat.add_zero, Nat.zero_add, Int.reduceEq, Int.reduceLT]; rfl) ?_; clear hK
    refine AWP.seq ?_
    refine AWP.stepR [0, 1, 6] fun K hK => ?_ -- r1
    simp only [go_sem, Nat.reduceEqDiff, Nat.reduceLT, Nat.reduceAdd, Nat.reduceMul, Nat.reduceSub, Nat.add_zero, Nat.zero_add, Int.reduceEq, Int.reduceLT]
    refine hK _ _ _ (by simp only [go_sem, Nat.reduceEqDiff, Nat.reduceLT, Nat.reduceAdd, Nat.reduceMul, Nat.reduceSub, Nat.add_zero, Nat.zero_add, Int.reduceEq, Int.reduceLT]; rfl) ?_; clear hK
    refine AWP.cond_split rfl (fun h6 => ?_) fun h6 => ?_
    · simp at h6; omega
    · refine AWP.skip ?_
      refine AWP.stepR [4] fun K hK => ?_ -- r3
      have hq : 0 ≤ n / 256 ∧ n / 256 ≤ 18446744073709551615 := by omega
      obtain ⟨r1, M1, hc, hg, hown⟩ := ih (n / 256) (M.bump 1) (((Grew.refl M).bump 1).ok hok) hq (by omega)
      simp only [go_sem, Nat.reduceEqDiff, Nat.reduceLT, Nat.reduceAdd, Nat.reduceMul, Nat.reduceSub, Nat.add_zero, Nat.zero_add, Int.reduceEq, Int.reduceLT]
      rw [IntWalk.u64_quo n 256 ⟨hn.1, hn.2, by omega⟩, i64w (by omega) (by omega), show ((s + 1 : Nat) : Int) - 1 = s by omega]
      refine ⟨r1, M1, hc, ?_⟩
      have hw : IntKind.u8.wrap (n.tmod 256) = n % 256 := by rw [Int.tmod_eq_emod_of_nonneg hn.1]; exact IntWalk.u8_in _ (by omega)
      rw [hw]
      have hlt : M.next < M1.next := by have := hg.next; simp only [Mem.next_bump] at this; omega
      have hg1 : Grew M (M1.put M.next ⟨[.int .u8 (n % 256)], 5, true⟩) := (((Grew.refl M).bump 1).trans hg).put (Nat.le_refl _) hlt _
      have hx := (Has.put hlt ⟨[.int .u8 (n % 256)], 5, true⟩).content 1 1 1 rfl
      have ho1 : OwnB M (M1.put M.next ⟨[.int .u8 (n % 256)], 5, true⟩) r1 (putB (n / 256) s) 5 := (hown.put (by rw [Mem.next_bump]; omega) _).base (by rw [Mem.next_bump]; omega)
      obtain ⟨v2, M2, happ, hown2, hg2, hnx, hfr⟩ := Own.append ap_23_23 hg1 ho1 (by simp [cB]) hx rfl (by rw [putB_length]; omega)
      simp only [happ, go_sem, Nat.reduceEqDiff, Nat.reduceLT, Nat.reduceAdd, Nat.reduceMul, Nat.reduceSub, Nat.add_zero, Nat.zero_add, Int.reduceEq, Int.reduceLT]
      refine hK _ _ _ (by simp only [go_sem, Nat.reduceEqDiff, Nat.reduceLT, Nat.reduceAdd, Nat.reduceMul, Nat.reduceSub, Nat.add_zero, Nat.zero_add, Int.reduceEq, Int.reduceLT]; rfl) ?_; clear hK
      refine AWP.ret (?_)
      have he : cB (putB (n / 256) s) ++ [.int .u8 (n % 256)] = cB (putB n (s + 1)) := by simp [cB, putB]
      rw [he, show (putB (n / 256) s).length + 1 = (putB n (s + 1)).length by simp [putB]] at hown2
      refine Fin.own (fun v => v) (.inr rfl) rfl hok hg2 hown2 (cB_plain _) (fun _ _ _ _ h => h) fun r M' hg' hr' ho' => ⟨hg', ho' (by rw [putB_length]; omega)⟩

theorem shr_at (n : Int) (j : Nat) (hn : 0 ≤ n) (hj : j ≤ 7) : IntKind.u8.wrap (n.fdiv (2 ^ (min (((8 : Int) * (j : Int)).toNat) 64))) = n / 256 ^ j % 256 := by
  have h1 : ((8 : Int) * (j : Int)).toNat = 8 * j := by omega
  have h2 : min (8 * j) 64 = 8 * j := Nat.min_eq_left (by omega)
  rw [h1, h2, Int.fdiv_eq_ediv_of_nonneg _ (Int.pow_nonneg (by decide)), show (2 : Int) ^ (8 * j) = 256 ^ j by rw [Int.pow_mul]; rfl]
  rw [IntKind.wrap_u8]
theorem put39_spec (s : Nat) (n : Int) (M : Mem) (hok : Ok M) (hn : 0 ≤ n ∧ n ≤ 18446744073709551615) (hs : s ≤ 8) (h0 : s ≠ 0) : ∃ r M', ACall Try.prog 39 #[.int .u64 n, .int .i64 s] M r M' ∧ Grew M M' ∧ OwnB M M' r (putB n s) 5 := by
  refine ACall.fin (args := [.int .u64 n, .int .i64 s]) (k := 27) Try.func39 rfl rfl rfl (Nat.le_of_ble_eq_true rfl) ?_
  refine AWP.stepR [0, 1] fun K hK => ?_ -- r0
  simp only [go_sem, Nat.reduceEqDiff, Nat.reduceLT, Nat.reduceAdd, Nat.reduceMul, Nat.reduceSub, Nat.add_zero, Nat.zero_add, Int.reduceEq, Int.reduceLT]
  refine hK _ _ _ (by simp only [go_sem, Nat.reduceEqDiff, Nat.reduceLT, Nat.reduceAdd, Nat.reduceMul, Nat.reduceSub, Nat.add_zero, Nat.zero_add, Int.reduceEq, Int.reduceLT]; rfl) ?_; clear hK
  refine AWP.stepR [0, 1, 5] fun K hK => ?_ -- r1
  simp only [go_sem, Nat.reduceEqDiff, Nat.reduceLT, Nat.reduceAdd, Nat.reduceMul, Nat.reduceSub, Nat.add_zero, Nat.zero_add, Int.reduceEq, Int.reduceLT]
  refine hK _ _ _ (by simp only [go_sem, Nat.reduceEqDiff, Nat.reduceLT, Nat.reduceAdd, Nat.reduceMul, Nat.reduceSub, Nat.add_zero, Nat.zero_add, Int.reduceEq, Int.reduceLT]; rfl) ?_; clear hK
  refine AWP.seq ?_
  refine AWP.stepR [0, 5, 6] fun K hK => ?_ -- r2
  simp only [go_sem, Nat.reduceEqDiff, Nat.reduceLT, Nat.reduceAdd, Nat.reduceMul, Nat.reduceSub, Nat.add_zero, Nat.zero_add, Int.reduceEq, Int.reduceLT]
  rw [i64w (by omega) (by omega)]
  refine hK _ _ _ (by simp only [go_sem, Nat.reduceEqDiff, Nat.reduceLT, Nat.reduceAdd, Nat.reduceMul, Nat.reduceSub, Nat.add_zero, Nat.zero_add, Int.reduceEq, Int.reduceLT]; rfl) ?_; clear hK
  refine AWP.block ?_ -- b0
  refine AWP.loopK [0, 5, 6] (fun j e M0 => j ≤ s ∧ Grew M M0 ∧ ∃ bv, e = [(0, .int .u64 n), (5, bv), (6, .int .i64 ((j : Int) - 1))] ∧ OwnB M M0 bv (putB (n / 256 ^ j) (s - j)) 5) s ?_ fun j e M0 hI => ?_ -- LOOP
  · simp only [go_sem, Nat.reduceEqDiff, Nat.reduceLT, Nat.reduceAdd, Nat.reduceMul, Nat.reduceSub, Nat.add_zero, Nat.zero_add, Int.reduceEq, Int.reduceLT]
    exact ⟨Nat.le_refl _, Grew.refl _, _, rfl, by rw [Nat.sub_self]; exact Own.nil _ _ _⟩
  obtain ⟨hj, hg, bv, rfl, hown⟩ := hI
  refine AWP.seq ?_
  refine AWP.stepR [0, 5, 6, 10] fun K hK => ?_ -- r3
  simp only [go_sem, Nat.reduceEqDiff, Nat.reduceLT, Nat.reduceAdd, Nat.reduceMul, Nat.reduceSub, Nat.add_zero, Nat.zero_add, Int.reduceEq, Int.reduceLT]
  refine hK _ _ _ (by simp only [go_sem, Nat.reduceEqDiff, Nat.reduceLT, Nat.reduceAdd, Nat.reduceMul, Nat.reduceSub, Nat.add_zero, Nat.zero_add, Int.reduceEq, Int.reduceLT]; rfl) ?_; clear hK
  refine AWP.cond_split rfl (fun h10 => ?_) fun h10 => ?_
  · obtain ⟨i, rfl⟩ : ∃ i, j = i + 1 := ⟨j - 1, by simp at h10; omega⟩
    rw [show ((i + 1 : Nat) : Int) - 1 = i by omega] at *
    refine AWP.skip ?_
    refine AWP.seq ?_
    refine AWP.block ?_ -- b1
    refine AWP.seq ?_
    refine AWP.stepR [0, 5, 6, 14] fun K hK => ?_ -- r5
    simp only [go_sem, Nat.reduceEqDiff, Nat.reduceLT, Nat.reduceAdd, Nat.reduceMul, Nat.reduceSub, Nat.add_zero, Nat.zero_add, Int.reduceEq, Int.reduceLT]
    refine hK _ _ _ (by simp only [go_sem, Nat.reduceEqDiff, Nat.reduceLT, Nat.reduceAdd, Nat.reduceMul, Nat.reduceSub, Nat.add_zero, Nat.zero_add, Int.reduceEq, Int.reduceLT]; rfl) ?_; clear hK
    refine AWP.cond_split rfl (fun h14 => ?_) fun h14 => ?_
    · simp at h14; omega
    · refine AWP.skip ?_
      refine AWP.lastR fun K hK => ?_ -- r7
      have hw8 : IntKind.i64.wrap (8 * (i : Int)) = 8 * (i : Int) := i64w (by omega) (by omega)
      have h8 : ((8 * (i : Int)) < 0) = False := by simp; omega
      simp only [go_sem, Nat.reduceEqDiff, Nat.reduceLT, Nat.reduceAdd, Nat.reduceMul, Nat.reduceSub, Nat.add_zero, Nat.zero_add, Int.reduceEq, Int.reduceLT, hw8, h8, shr_at n i hn.1 (by omega)]
      have hlt : M0.next < (M0.bump 1).next := Nat.lt_succ_self _
      have hg1 : Grew M ((M0.bump 1).put M0.next ⟨[.int .u8 (n / 256 ^ i % 256)], 5, true⟩) := (hg.bump 1).put hg.next hlt _
      have ho1 : OwnB M ((M0.bump 1).put M0.next ⟨[.int .u8 (n / 256 ^ i % 256)], 5, true⟩) bv (putB (n / 256 ^ (i + 1)) (s - (i + 1))) 5 := hown.grew (((Grew.refl M0).bump 1).put (Nat.le_refl _) hlt _)
      obtain ⟨v2, M2, happ, hown2, hg2, hnx, hfr⟩ := Own.append ap_23_23 hg1 ho1 (by simp [cB]) ((Has.put hlt ⟨[.int .u8 (n / 256 ^ i % 256)], 5, true⟩).content 1 1 1 rfl) rfl (by rw [putB_length]; omega)
      simp only [happ, go_sem, Nat.reduceEqDiff, Nat.reduceLT, Nat.reduceAdd, Nat.reduceMul, Nat.reduceSub, Nat.add_zero, Nat.zero_add, Int.reduceEq, Int.reduceLT]
      refine hK _ _ ?_; clear hK
      have he : cB (putB (n / 256 ^ (i + 1)) (s - (i + 1))) ++ [.int .u8 (n / 256 ^ i % 256)] = cB (putB (n / 256 ^ i) (s - i)) := by
        rw [show s - i = s - (i + 1) + 1 by omega, putB, Int.pow_succ, ← Int.ediv_ediv_of_nonneg (Int.pow_nonneg (by decide)), cB_append]; rfl
      rw [he, show (putB (n / 256 ^ (i + 1)) (s - (i + 1))).length + 1 = (putB (n / 256 ^ i) (s - i)).length by rw [putB_length, putB_length]; omega] at hown2
      refine AWP.lastR fun K hK => ?_ -- r4
      simp only [go_sem, Nat.reduceEqDiff, Nat.reduceLT, Nat.reduceAdd, Nat.reduceMul, Nat.reduceSub, Nat.add_zero, Nat.zero_add, Int.reduceEq, Int.reduceLT]
      rw [i64w (by omega) (by omega)]
      refine hK _ _ ?_; clear hK
      exact ⟨i, Nat.lt_succ_self _, by omega, hg2, v2, by simp only [go_sem, Nat.reduceEqDiff, Nat.reduceLT, Nat.reduceAdd, Nat.reduceMul, Nat.reduceSub, Nat.add_zero, Nat.zero_add, Int.reduceEq, Int.reduceLT], hown2⟩
  · refine AWP.exit (Then.exit (Then.exit (InBlock.same ?_))) -- x0
    refine AWP.stepR [4] fun K hK => ?_ -- r8
    simp only [go_sem, Nat.reduceEqDiff, Nat.reduceLT, Nat.reduceAdd, Nat.reduceMul, Nat.reduceSub, Nat.add_zero, Nat.zero_add, Int.reduceEq, Int.reduceLT]
    refine hK _ _ _ (by simp only [go_sem, Nat.reduceEqDiff, Nat.reduceLT, Nat.reduceAdd, Nat.reduceMul, Nat.reduceSub, Nat.add_zero, Nat.zero_add, Int.reduceEq, Int.reduceLT]; rfl) ?_; clear hK
    refine AWP.ret (?_)
    have hj0 : j = 0 := by simp at h10; omega
    subst hj0
    rw [Int.pow_zero, Int.ediv_one, Nat.sub_zero] at hown
    exact Fin.own (fun v => v) (.inr rfl) rfl hok hg hown (cB_plain _) (fun _ _ _ _ h => h) fun r M' hg' hr' ho' => ⟨hg', ho' (by rw [putB_length]; exact h0)⟩
end Go.Proofs.Ythheaehpnleiaaa.AX
