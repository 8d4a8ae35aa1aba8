/- Many rows of bytes: like ones; no more than are waited for. -/
import Derived.Test.YtopblipficpilaaGreatDoorBulkSplits6
import Derived.Test.YtopblipficpilaaGreatDoorBulkSplits5
namespace Go.Proofs.YtopblipficpilaaGreatDoor.AY
open Go Go.Proofs
set_option maxRecDepth 100000
set_option linter.unusedVariables false
set_option linter.unusedSimpArgs false

theorem hmo : Tryz.prog.follows .mixedOrders = true := by kernel_rfl
theorem same29_spec (v w : Value) (l m : List Int) (M : Mem) (hok : Ok M) (hv : RowB M v l) (hw : RowB M w m) (hl : l.length ≤ 9223372036854775807) : ∃ r M', ACall Tryz.prog 29 #[v, w] M r M' ∧ r = .bool (l == m) ∧ M' = M := by
  refine ACall.fin (args := [v, w]) (k := 26) Tryz.func29 rfl rfl rfl (Nat.le_of_ble_eq_true rfl) ?_
  refine AWP.stepR [0, 1] fun K hK => ?_ -- r0
  simp only [go_sem, Nat.reduceEqDiff, Nat.reduceLT, Nat.reduceAdd, Nat.reduceMul, Nat.reduceSub, Nat.add_zero, Nat.zero_add, Int.reduceEq, Int.reduceLT]
  refine hK _ _ _ (by simp only [go_sem, Nat.reduceEqDiff, Nat.reduceLT, Nat.reduceAdd, Nat.reduceMul, Nat.reduceSub, Nat.add_zero, Nat.zero_add, Int.reduceEq, Int.reduceLT]; rfl) ?_; clear hK
  refine AWP.seq ?_
  refine AWP.stepR [0, 1, 10] fun K hK => ?_ -- r1
  simp only [go_sem, Nat.reduceEqDiff, Nat.reduceLT, Nat.reduceAdd, Nat.reduceMul, Nat.reduceSub, Nat.add_zero, Nat.zero_add, Int.reduceEq, Int.reduceLT, hv.len es_42, hw.len es_42]
  refine hK _ _ _ (by simp only [go_sem, Nat.reduceEqDiff, Nat.reduceLT, Nat.reduceAdd, Nat.reduceMul, Nat.reduceSub, Nat.add_zero, Nat.zero_add, Int.reduceEq, Int.reduceLT]; rfl) ?_; clear hK
  refine AWP.cond_split rfl (fun h => ?_) fun h => ?_ -- if (tmp 10)
  · refine AWP.stepR [4] fun K hK => ?_ -- r2
    simp only [go_sem, Nat.reduceEqDiff, Nat.reduceLT, Nat.reduceAdd, Nat.reduceMul, Nat.reduceSub, Nat.add_zero, Nat.zero_add, Int.reduceEq, Int.reduceLT]
    refine hK _ _ _ (by simp only [go_sem, Nat.reduceEqDiff, Nat.reduceLT, Nat.reduceAdd, Nat.reduceMul, Nat.reduceSub, Nat.add_zero, Nat.zero_add, Int.reduceEq, Int.reduceLT]; rfl) ?_; clear hK
    refine AWP.ret (Then.ret (?_))
    refine Fin.plain ⟨.inr rfl, rfl⟩ rfl rfl hok (Grew.refl _) ⟨?_, rfl⟩
    rw [beq_eq_false_iff_ne.2]
    rintro rfl
    simp at h
  · have hlen : l.length = m.length := by simp at h; omega
    refine AWP.skip ?_
    refine AWP.seq ?_
    refine AWP.stepR [0, 1, 5] fun K hK => ?_ -- r3
    simp only [go_sem, Nat.reduceEqDiff, Nat.reduceLT, Nat.reduceAdd, Nat.reduceMul, Nat.reduceSub, Nat.add_zero, Nat.zero_add, Int.reduceEq, Int.reduceLT]
    refine hK _ _ _ (by simp only [go_sem, Nat.reduceEqDiff, Nat.reduceLT, Nat.reduceAdd, Nat.reduceMul, Nat.reduceSub, Nat.add_zero, Nat.zero_add, Int.reduceEq, Int.reduceLT]; rfl) ?_; clear hK
    refine AWP.block ?_ -- b0
    refine AWP.loopK [0, 1, 5] (fun n e M0 => M0 = M ∧ n ≤ l.length ∧ e = [(0, v), (1, w), (5, .int .i64 ((l.length - n : Nat) : Int))] ∧ l.take (l.length - n) = m.take (l.length - n)) l.length ?_ fun n e M0 hI => ?_ -- LOOP
    · simp only [go_sem, Nat.reduceEqDiff, Nat.reduceLT, Nat.reduceAdd, Nat.reduceMul, Nat.reduceSub, Nat.add_zero, Nat.zero_add, Int.reduceEq, Int.reduceLT, true_and, Nat.le_refl]
      exact ⟨by simp, by simp⟩
    obtain ⟨rfl, hn, rfl, hall⟩ := hI
    refine AWP.seq ?_
    refine AWP.stepR [0, 1, 5, 14] fun K hK => ?_ -- r4
    simp only [go_sem, Nat.reduceEqDiff, Nat.reduceLT, Nat.reduceAdd, Nat.reduceMul, Nat.reduceSub, Nat.add_zero, Nat.zero_add, Int.reduceEq, Int.reduceLT, hv.len es_42]
    refine hK _ _ _ (by simp only [go_sem, Nat.reduceEqDiff, Nat.reduceLT, Nat.reduceAdd, Nat.reduceMul, Nat.reduceSub, Nat.add_zero, Nat.zero_add, Int.reduceEq, Int.reduceLT]; rfl) ?_; clear hK
    refine AWP.cond_split rfl (fun h => ?_) fun h => ?_ -- if (tmp 14)
    · have hlt : l.length - n < l.length := by simpa using h
      have hlt' : l.length - n < m.length := by omega
      obtain ⟨b, q, ha, hd⟩ := hv.at1 (by simp [cB]) es_42 hlt
      have hd := hd M0 (Grew.refl _)
      rw [show (cB l)[l.length - n]? = some (.int .u8 l[l.length - n]) by simp [cB, hlt]] at hd
      obtain ⟨b', q', ha', hd'⟩ := hw.at1 (by simp [cB]) es_42 hlt'
      have hd' := hd' M0 (Grew.refl _)
      rw [show (cB m)[l.length - n]? = some (.int .u8 m[l.length - n]) by simp [cB, hlt']] at hd'
      generalize hxx : l[l.length - n] = x at hd
      generalize hyy : m[l.length - n] = y at hd'
      refine AWP.skip ?_
      refine AWP.seq ?_
      refine AWP.block ?_ -- b1
      refine AWP.stepD hmo [0, 1, 2, 3, 4, 5, 6, 7, 8] [0, 0, 3, 7, 0, 0, 48, 112, 255] [] [] (by kernel_rfl) [0, 1, 5, 25] fun K hK => ?_ -- r6
      simp only [go_sem, Nat.reduceEqDiff, Nat.reduceLT, Nat.reduceAdd, Nat.reduceMul, Nat.reduceSub, Nat.add_zero, Nat.zero_add, Int.reduceEq, Int.reduceLT, ha, hd, ha', hd', ld_5]
      refine hK _ _ _ (by simp only [go_sem, Nat.reduceEqDiff, Nat.reduceLT, Nat.reduceAdd, Nat.reduceMul, Nat.reduceSub, Nat.add_zero, Nat.zero_add, Int.reduceEq, Int.reduceLT]; rfl) ?_; clear hK
      refine AWP.cond_split rfl (fun h25 => ?_) fun h25 => ?_
      · refine AWP.stepR [4] fun K hK => ?_ -- r7
        simp only [go_sem, Nat.reduceEqDiff, Nat.reduceLT, Nat.reduceAdd, Nat.reduceMul, Nat.reduceSub, Nat.add_zero, Nat.zero_add, Int.reduceEq, Int.reduceLT]
        refine hK _ _ _ (by simp only [go_sem, Nat.reduceEqDiff, Nat.reduceLT, Nat.reduceAdd, Nat.reduceMul, Nat.reduceSub, Nat.add_zero, Nat.zero_add, Int.reduceEq, Int.reduceLT]; rfl) ?_; clear hK
        refine AWP.ret (InBlock.ret (Then.ret (Then.ret (InBlock.ret (Then.ret ?_)))))
        refine Fin.plain ⟨.inr rfl, rfl⟩ rfl rfl hok (Grew.refl _) ⟨?_, rfl⟩
        rw [beq_eq_false_iff_ne.2]
        rintro rfl
        simp [← hxx, ← hyy] at h25
      · refine AWP.skip ?_
        refine AWP.lastR fun K hK => ?_ -- r5
        simp only [go_sem, Nat.reduceEqDiff, Nat.reduceLT, Nat.reduceAdd, Nat.reduceMul, Nat.reduceSub, Nat.add_zero, Nat.zero_add, Int.reduceEq, Int.reduceLT]
        refine hK _ _ ?_; clear hK
        refine ⟨rfl, n - 1, by omega, rfl, by omega, ?_, ?_⟩ -- ROUND
        · simp only [go_sem, Nat.reduceEqDiff, Nat.reduceLT, Nat.reduceAdd, Nat.reduceMul, Nat.reduceSub, Nat.add_zero, Nat.zero_add, Int.reduceEq, Int.reduceLT]
          rw [i64w (by omega) (by omega), show ((l.length - n : Nat) : Int) + 1 = ((l.length - (n - 1) : Nat) : Int) by omega]
        · rw [show l.length - (n - 1) = l.length - n + 1 by omega, List.take_succ_eq_append_getElem hlt, List.take_succ_eq_append_getElem hlt', hall, hxx, hyy]
          simp at h25
          rw [h25]
    · refine AWP.exit (Then.exit (Then.exit (InBlock.same ?_))) -- x0
      refine AWP.stepR [4] fun K hK => ?_ -- r8
      simp only [go_sem, Nat.reduceEqDiff, Nat.reduceLT, Nat.reduceAdd, Nat.reduceMul, Nat.reduceSub, Nat.add_zero, Nat.zero_add, Int.reduceEq, Int.reduceLT]
      refine hK _ _ _ (by simp only [go_sem, Nat.reduceEqDiff, Nat.reduceLT, Nat.reduceAdd, Nat.reduceMul, Nat.reduceSub, Nat.add_zero, Nat.zero_add, Int.reduceEq, Int.reduceLT]; rfl) ?_; clear hK
      refine AWP.ret (?_)
      refine Fin.plain ⟨.inr rfl, rfl⟩ rfl rfl hok (Grew.refl _) ⟨?_, rfl⟩
      have hn0 : n = 0 := by simp at h; omega
      rw [hn0, Nat.sub_zero, List.take_length, hlen, List.take_length] at hall
      rw [hall]; simp

/-! ### rows of bytes, one by one -/
def Parts (M : Mem) (vs : List Value) (ls : List (List Int)) : Prop := vs.length = ls.length ∧ ∀ (i : Nat) (v : Value) (l : List Int), vs[i]? = some v → ls[i]? = some l → RowB M v l
theorem Parts.grew {M M1 : Mem} {vs : List Value} {ls : List (List Int)} (h : Parts M vs ls) (hg : Grew M M1) : Parts M1 vs ls := ⟨h.1, fun i v l h1 h2 => (h.2 i v l h1 h2).grew hg⟩
theorem Parts.at {M : Mem} {vs : List Value} {ls : List (List Int)} (h : Parts M vs ls) {i : Nat} (hi : i < vs.length) (hi' : i < ls.length) : RowB M vs[i] ls[i] := h.2 i _ _ (List.getElem?_eq_getElem hi) (List.getElem?_eq_getElem hi')

theorem sameAll30_spec (v w : Value) (vs ws : List Value) (ls ms : List (List Int)) (M : Mem) (hok : Ok M) (hv : Row_ M v vs.length vs) (hw : Row_ M w ws.length ws) (hp : Parts M vs ls) (hq : Parts M ws ms) (hn : vs.length ≤ 9223372036854775807) (hl : ∀ l, l ∈ ls → l.length ≤ 9223372036854775807) :
    ∃ r M', ACall Tryz.prog 30 #[v, w] M r M' ∧ r = .bool (ls == ms) ∧ M' = M := by
  refine ACall.fin (args := [v, w]) (k := 27) Tryz.func30 rfl rfl rfl (Nat.le_of_ble_eq_true rfl) ?_
  have hvl := hp.1
  have hwl := hq.1
  refine AWP.stepR [0, 1] fun K hK => ?_ -- r0
  simp only [go_sem, Nat.reduceEqDiff, Nat.reduceLT, Nat.reduceAdd, Nat.reduceMul, Nat.reduceSub, Nat.add_zero, Nat.zero_add, Int.reduceEq, Int.reduceLT]
  refine hK _ _ _ (by simp only [go_sem, Nat.reduceEqDiff, Nat.reduceLT, Nat.reduceAdd, Nat.reduceMul, Nat.reduceSub, Nat.add_zero, Nat.zero_add, Int.reduceEq, Int.reduceLT]; rfl) ?_; clear hK
  refine AWP.seq ?_
  refine AWP.stepR [0, 1, 10] fun K hK => ?_ -- r1
  simp only [go_sem, Nat.reduceEqDiff, Nat.reduceLT, Nat.reduceAdd, Nat.reduceMul, Nat.reduceSub, Nat.add_zero, Nat.zero_add, Int.reduceEq, Int.reduceLT, hv.len es_59, hw.len es_59]
  refine hK _ _ _ (by simp only [go_sem, Nat.reduceEqDiff, Nat.reduceLT, Nat.reduceAdd, Nat.reduceMul, Nat.reduceSub, Nat.add_zero, Nat.zero_add, Int.reduceEq, Int.reduceLT]; rfl) ?_; clear hK
  refine AWP.cond_split rfl (fun h => ?_) fun h => ?_ -- if (tmp 10)
  · refine AWP.stepR [4] fun K hK => ?_ -- r2
    simp only [go_sem, Nat.reduceEqDiff, Nat.reduceLT, Nat.reduceAdd, Nat.reduceMul, Nat.reduceSub, Nat.add_zero, Nat.zero_add, Int.reduceEq, Int.reduceLT]
    refine hK _ _ _ (by simp only [go_sem, Nat.reduceEqDiff, Nat.reduceLT, Nat.reduceAdd, Nat.reduceMul, Nat.reduceSub, Nat.add_zero, Nat.zero_add, Int.reduceEq, Int.reduceLT]; rfl) ?_; clear hK
    refine AWP.ret (Then.ret (?_))
    refine Fin.plain ⟨.inr rfl, rfl⟩ rfl rfl hok (Grew.refl _) ⟨?_, rfl⟩
    rw [beq_eq_false_iff_ne.2]
    rintro rfl
    simp at h
    omega
  · have hlen : vs.length = ws.length := by simp at h; omega
    refine AWP.skip ?_
    refine AWP.seq ?_
    refine AWP.stepR [0, 1, 5] fun K hK => ?_ -- r3
    simp only [go_sem, Nat.reduceEqDiff, Nat.reduceLT, Nat.reduceAdd, Nat.reduceMul, Nat.reduceSub, Nat.add_zero, Nat.zero_add, Int.reduceEq, Int.reduceLT]
    refine hK _ _ _ (by simp only [go_sem, Nat.reduceEqDiff, Nat.reduceLT, Nat.reduceAdd, Nat.reduceMul, Nat.reduceSub, Nat.add_zero, Nat.zero_add, Int.reduceEq, Int.reduceLT]; rfl) ?_; clear hK
    refine AWP.block ?_ -- b0
    refine AWP.loopK [0, 1, 5] (fun n e M0 => M0 = M ∧ n ≤ vs.length ∧ e = [(0, v), (1, w), (5, .int .i64 ((vs.length - n : Nat) : Int))] ∧ ls.take (vs.length - n) = ms.take (vs.length - n)) vs.length ?_ fun n e M0 hI => ?_ -- LOOP
    · simp only [go_sem, Nat.reduceEqDiff, Nat.reduceLT, Nat.reduceAdd, Nat.reduceMul, Nat.reduceSub, Nat.add_zero, Nat.zero_add, Int.reduceEq, Int.reduceLT, true_and, Nat.le_refl]
      exact ⟨by simp, by simp⟩
    obtain ⟨rfl, hn', rfl, hall⟩ := hI
    refine AWP.seq ?_
    refine AWP.stepR [0, 1, 5, 14] fun K hK => ?_ -- r4
    simp only [go_sem, Nat.reduceEqDiff, Nat.reduceLT, Nat.reduceAdd, Nat.reduceMul, Nat.reduceSub, Nat.add_zero, Nat.zero_add, Int.reduceEq, Int.reduceLT, hv.len es_59]
    refine hK _ _ _ (by simp only [go_sem, Nat.reduceEqDiff, Nat.reduceLT, Nat.reduceAdd, Nat.reduceMul, Nat.reduceSub, Nat.add_zero, Nat.zero_add, Int.reduceEq, Int.reduceLT]; rfl) ?_; clear hK
    refine AWP.cond_split rfl (fun h => ?_) fun h => ?_ -- if (tmp 14)
    · have hlt : vs.length - n < vs.length := by simpa using h
      have hlt' : vs.length - n < ws.length := by omega
      have hlt2 : vs.length - n < ls.length := by omega
      have hlt2' : vs.length - n < ms.length := by omega
      obtain ⟨b, q, ha, hd⟩ := hv.at1 rfl es_59 hlt
      have hd := hd M0 (Grew.refl _)
      rw [List.getElem?_eq_getElem hlt] at hd
      have hx := hp.at hlt hlt2
      obtain ⟨b', q', ha', hd'⟩ := hw.at1 rfl es_59 hlt'
      have hd' := hd' M0 (Grew.refl _)
      rw [List.getElem?_eq_getElem hlt'] at hd'
      have hy := hq.at hlt' hlt2'
      have hll := hl _ (List.getElem_mem hlt2)
      generalize vs[vs.length - n] = x at hd hx
      generalize ws[vs.length - n] = y at hd' hy
      generalize hxx : ls[vs.length - n] = lx at hx hll
      generalize hyy : ms[vs.length - n] = ly at hy
      obtain ⟨r2, M2, hc2, hr2, hM2⟩ := same29_spec x y lx ly M0 hok hx hy hll
      rw [hr2, hM2] at hc2
      refine AWP.skip ?_
      refine AWP.seq ?_
      refine AWP.block ?_ -- b1
      refine AWP.stepD hmo [0, 1, 2, 3, 4, 5, 6, 7, 8, 9] [0, 0, 3, 7, 0, 0, 48, 112, 255, 511] [] [] (by kernel_rfl) [0, 1, 5, 26] fun K hK => ?_ -- r6
      simp only [go_sem, Nat.reduceEqDiff, Nat.reduceLT, Nat.reduceAdd, Nat.reduceMul, Nat.reduceSub, Nat.add_zero, Nat.zero_add, Int.reduceEq, Int.reduceLT, ha, hd, ha', hd', ld_42]
      refine ⟨_, _, hc2, ?_⟩
      try simp only [go_sem, Nat.reduceEqDiff, Nat.reduceLT, Nat.reduceAdd, Nat.reduceMul, Nat.reduceSub, Nat.add_zero, Nat.zero_add, Int.reduceEq, Int.reduceLT, ha, hd, ha', hd', ld_42]
      refine ⟨by simp, ?_⟩
      refine hK _ _ _ (by simp only [go_sem, Nat.reduceEqDiff, Nat.reduceLT, Nat.reduceAdd, Nat.reduceMul, Nat.reduceSub, Nat.add_zero, Nat.zero_add, Int.reduceEq, Int.reduceLT]; rfl) ?_; clear hK
      refine AWP.cond_split rfl (fun h25 => ?_) fun h25 => ?_
      · refine AWP.stepR [4] fun K hK => ?_ -- r7
        simp only [go_sem, Nat.reduceEqDiff, Nat.reduceLT, Nat.reduceAdd, Nat.reduceMul, Nat.reduceSub, Nat.add_zero, Nat.zero_add, Int.reduceEq, Int.reduceLT]
        refine hK _ _ _ (by simp only [go_sem, Nat.reduceEqDiff, Nat.reduceLT, Nat.reduceAdd, Nat.reduceMul, Nat.reduceSub, Nat.add_zero, Nat.zero_add, Int.reduceEq, Int.reduceLT]; rfl) ?_; clear hK
        refine AWP.ret (InBlock.ret (Then.ret (Then.ret (InBlock.ret (Then.ret ?_)))))
        refine Fin.plain ⟨.inr rfl, rfl⟩ rfl rfl hok (Grew.refl _) ⟨?_, rfl⟩
        rw [beq_eq_false_iff_ne.2]
        rintro rfl
        simp [← hxx, ← hyy] at h25
      · refine AWP.skip ?_
        refine AWP.lastR fun K hK => ?_ -- r5
        simp only [go_sem, Nat.reduceEqDiff, Nat.reduceLT, Nat.reduceAdd, Nat.reduceMul, Nat.reduceSub, Nat.add_zero, Nat.zero_add, Int.reduceEq, Int.reduceLT]
        refine hK _ _ ?_; clear hK
        refine ⟨rfl, n - 1, by omega, rfl, by omega, ?_, ?_⟩ -- ROUND
        · simp only [go_sem, Nat.reduceEqDiff, Nat.reduceLT, Nat.reduceAdd, Nat.reduceMul, Nat.reduceSub, Nat.add_zero, Nat.zero_add, Int.reduceEq, Int.reduceLT]
          rw [i64w (by omega) (by omega), show ((vs.length - n : Nat) : Int) + 1 = ((vs.length - (n - 1) : Nat) : Int) by omega]
        · rw [show vs.length - (n - 1) = vs.length - n + 1 by omega, List.take_succ_eq_append_getElem hlt2, List.take_succ_eq_append_getElem hlt2', hall, hxx, hyy]
          simp at h25
          rw [h25]
    · refine AWP.exit (Then.exit (Then.exit (InBlock.same ?_))) -- x0
      refine AWP.stepR [4] fun K hK => ?_ -- r8
      simp only [go_sem, Nat.reduceEqDiff, Nat.reduceLT, Nat.reduceAdd, Nat.reduceMul, Nat.reduceSub, Nat.add_zero, Nat.zero_add, Int.reduceEq, Int.reduceLT]
      refine hK _ _ _ (by simp only [go_sem, Nat.reduceEqDiff, Nat.reduceLT, Nat.reduceAdd, Nat.reduceMul, Nat.reduceSub, Nat.add_zero, Nat.zero_add, Int.reduceEq, Int.reduceLT]; rfl) ?_; clear hK
      refine AWP.ret (?_)
      refine Fin.plain ⟨.inr rfl, rfl⟩ rfl rfl hok (Grew.refl _) ⟨?_, rfl⟩
      have hn0 : n = 0 := by simp at h; omega
      rw [hn0, Nat.sub_zero, hvl, List.take_length, show ls.length = ms.length by omega, List.take_length] at hall
      rw [hall]; simp

/-- either an answer above 0, or few -/
theorem short23_spec (v : Value) (vs : List Value) (ls : List (List Int)) (M : Mem) (hok : Ok M) (hv : Row_ M v vs.length vs) (hp : Parts M vs ls) (hl : ∀ l, l ∈ ls → l.length ≤ 9223372036854775807) :
    ∃ r M', ACall Tryz.prog 23 #[v] M r M' ∧ ((r = .int .i64 1) ∨ (r = .int .i64 0 ∧ vs.length ≤ 40 ∧ ∀ l, l ∈ ls → l.length ≤ 3000)) ∧ M' = M := by
  refine ACall.fin (args := [v]) (k := 29) Tryz.func23 rfl rfl rfl (Nat.le_of_ble_eq_true rfl) ?_
  have hvl := hp.1
  refine AWP.stepR [0] fun K hK => ?_ -- r0
  simp only [go_sem, Nat.reduceEqDiff, Nat.reduceLT, Nat.reduceAdd, Nat.reduceMul, Nat.reduceSub, Nat.add_zero, Nat.zero_add, Int.reduceEq, Int.reduceLT]
  refine hK _ _ _ (by simp only [go_sem, Nat.reduceEqDiff, Nat.reduceLT, Nat.reduceAdd, Nat.reduceMul, Nat.reduceSub, Nat.add_zero, Nat.zero_add, Int.reduceEq, Int.reduceLT]; rfl) ?_; clear hK
  refine AWP.seq ?_
  refine AWP.stepR [0, 7] fun K hK => ?_ -- r1
  simp only [go_sem, Nat.reduceEqDiff, Nat.reduceLT, Nat.reduceAdd, Nat.reduceMul, Nat.reduceSub, Nat.add_zero, Nat.zero_add, Int.reduceEq, Int.reduceLT, hv.len es_59]
  refine hK _ _ _ (by simp only [go_sem, Nat.reduceEqDiff, Nat.reduceLT, Nat.reduceAdd, Nat.reduceMul, Nat.reduceSub, Nat.add_zero, Nat.zero_add, Int.reduceEq, Int.reduceLT]; rfl) ?_; clear hK
  refine AWP.cond_split rfl (fun h => ?_) fun h => ?_
  · refine AWP.stepR [2] fun K hK => ?_ -- r2
    simp only [go_sem, Nat.reduceEqDiff, Nat.reduceLT, Nat.reduceAdd, Nat.reduceMul, Nat.reduceSub, Nat.add_zero, Nat.zero_add, Int.reduceEq, Int.reduceLT]
    refine hK _ _ _ (by simp only [go_sem, Nat.reduceEqDiff, Nat.reduceLT, Nat.reduceAdd, Nat.reduceMul, Nat.reduceSub, Nat.add_zero, Nat.zero_add, Int.reduceEq, Int.reduceLT]; rfl) ?_; clear hK
    refine AWP.ret (Then.ret (?_))
    exact Fin.plain ⟨.inr rfl, rfl⟩ rfl rfl hok (Grew.refl _) ⟨.inl rfl, rfl⟩
  · have hn40 : vs.length ≤ 40 := by simp at h; omega
    refine AWP.skip ?_
    refine AWP.stepR [0, 3] fun K hK => ?_ -- r3
    simp only [go_sem, Nat.reduceEqDiff, Nat.reduceLT, Nat.reduceAdd, Nat.reduceMul, Nat.reduceSub, Nat.add_zero, Nat.zero_add, Int.reduceEq, Int.reduceLT]
    refine hK _ _ _ (by simp only [go_sem, Nat.reduceEqDiff, Nat.reduceLT, Nat.reduceAdd, Nat.reduceMul, Nat.reduceSub, Nat.add_zero, Nat.zero_add, Int.reduceEq, Int.reduceLT]; rfl) ?_; clear hK
    refine AWP.seq ?_
    refine AWP.stepR [0, 3, 4] fun K hK => ?_ -- r4
    simp only [go_sem, Nat.reduceEqDiff, Nat.reduceLT, Nat.reduceAdd, Nat.reduceMul, Nat.reduceSub, Nat.add_zero, Nat.zero_add, Int.reduceEq, Int.reduceLT]
    refine hK _ _ _ (by simp only [go_sem, Nat.reduceEqDiff, Nat.reduceLT, Nat.reduceAdd, Nat.reduceMul, Nat.reduceSub, Nat.add_zero, Nat.zero_add, Int.reduceEq, Int.reduceLT]; rfl) ?_; clear hK
    refine AWP.block ?_ -- b0
    refine AWP.loopK [0, 3, 4] (fun n e M0 => M0 = M ∧ n ≤ vs.length ∧ ∃ s : Nat, s ≤ 6000 ∧ e = [(0, v), (3, .int .i64 (s : Int)), (4, .int .i64 ((vs.length - n : Nat) : Int))] ∧ ∀ l, l ∈ ls.take (vs.length - n) → l.length ≤ 3000) vs.length ?_ fun n e M0 hI => ?_ -- LOOP
    · simp only [go_sem, Nat.reduceEqDiff, Nat.reduceLT, Nat.reduceAdd, Nat.reduceMul, Nat.reduceSub, Nat.add_zero, Nat.zero_add, Int.reduceEq, Int.reduceLT, true_and, Nat.le_refl]
      exact ⟨0, by omega, by simp, by simp⟩
    obtain ⟨rfl, hn', s, hs, rfl, hall⟩ := hI
    refine AWP.seq ?_
    refine AWP.stepR [0, 3, 4, 11] fun K hK => ?_ -- r5
    simp only [go_sem, Nat.reduceEqDiff, Nat.reduceLT, Nat.reduceAdd, Nat.reduceMul, Nat.reduceSub, Nat.add_zero, Nat.zero_add, Int.reduceEq, Int.reduceLT, hv.len es_59]
    refine hK _ _ _ (by simp only [go_sem, Nat.reduceEqDiff, Nat.reduceLT, Nat.reduceAdd, Nat.reduceMul, Nat.reduceSub, Nat.add_zero, Nat.zero_add, Int.reduceEq, Int.reduceLT]; rfl) ?_; clear hK
    refine AWP.cond_split rfl (fun h => ?_) fun h => ?_
    · have hlt : vs.length - n < vs.length := by simpa using h
      have hlt2 : vs.length - n < ls.length := by omega
      obtain ⟨b, q, ha, hd⟩ := hv.at1 rfl es_59 hlt
      have hd := hd M0 (Grew.refl _)
      rw [List.getElem?_eq_getElem hlt] at hd
      have hx := hp.at hlt hlt2
      have hll := hl _ (List.getElem_mem hlt2)
      have htk := List.take_succ_eq_append_getElem hlt2
      generalize vs[vs.length - n] = x at hd hx
      generalize ls[vs.length - n] = lx at hx hll htk
      refine AWP.skip ?_
      refine AWP.seq ?_
      refine AWP.block ?_ -- b1
      refine AWP.seq ?_
      refine AWP.stepR [0, 3, 4, 19] fun K hK => ?_ -- r7
      simp only [go_sem, Nat.reduceEqDiff, Nat.reduceLT, Nat.reduceAdd, Nat.reduceMul, Nat.reduceSub, Nat.add_zero, Nat.zero_add, Int.reduceEq, Int.reduceLT, ha, hd, ld_42, hx.len es_42]
      refine hK _ _ _ (by simp only [go_sem, Nat.reduceEqDiff, Nat.reduceLT, Nat.reduceAdd, Nat.reduceMul, Nat.reduceSub, Nat.add_zero, Nat.zero_add, Int.reduceEq, Int.reduceLT]; rfl) ?_; clear hK
      refine AWP.cond_split rfl (fun h19 => ?_) fun h19 => ?_
      · refine AWP.stepR [2] fun K hK => ?_ -- r8
        simp only [go_sem, Nat.reduceEqDiff, Nat.reduceLT, Nat.reduceAdd, Nat.reduceMul, Nat.reduceSub, Nat.add_zero, Nat.zero_add, Int.reduceEq, Int.reduceLT]
        refine hK _ _ _ (by simp only [go_sem, Nat.reduceEqDiff, Nat.reduceLT, Nat.reduceAdd, Nat.reduceMul, Nat.reduceSub, Nat.add_zero, Nat.zero_add, Int.reduceEq, Int.reduceLT]; rfl) ?_; clear hK
        refine AWP.ret (Then.ret (InBlock.ret (Then.ret (Then.ret (InBlock.ret (Then.ret ?_))))))
        exact Fin.plain ⟨.inr rfl, rfl⟩ rfl rfl hok (Grew.refl _) ⟨.inl rfl, rfl⟩
      · have hx3 : lx.length ≤ 3000 := by simp at h19; omega
        refine AWP.skip ?_
        refine AWP.stepR [0, 3, 4] fun K hK => ?_ -- r9
        simp only [go_sem, Nat.reduceEqDiff, Nat.reduceLT, Nat.reduceAdd, Nat.reduceMul, Nat.reduceSub, Nat.add_zero, Nat.zero_add, Int.reduceEq, Int.reduceLT, ha, hd, ld_42, hx.len es_42]
        refine hK _ _ _ (by simp only [go_sem, Nat.reduceEqDiff, Nat.reduceLT, Nat.reduceAdd, Nat.reduceMul, Nat.reduceSub, Nat.add_zero, Nat.zero_add, Int.reduceEq, Int.reduceLT]; rfl) ?_; clear hK
        rw [i64w (n := (s : Int) + (lx.length : Int)) (by omega) (by omega), show (s : Int) + (lx.length : Int) = ((s + lx.length : Nat) : Int) by omega]
        refine AWP.stepR [0, 3, 4, 28] fun K hK => ?_ -- r10
        simp only [go_sem, Nat.reduceEqDiff, Nat.reduceLT, Nat.reduceAdd, Nat.reduceMul, Nat.reduceSub, Nat.add_zero, Nat.zero_add, Int.reduceEq, Int.reduceLT]
        refine hK _ _ _ (by simp only [go_sem, Nat.reduceEqDiff, Nat.reduceLT, Nat.reduceAdd, Nat.reduceMul, Nat.reduceSub, Nat.add_zero, Nat.zero_add, Int.reduceEq, Int.reduceLT]; rfl) ?_; clear hK
        refine AWP.cond_split rfl (fun h28 => ?_) fun h28 => ?_
        · refine AWP.stepR [2] fun K hK => ?_ -- r11
          simp only [go_sem, Nat.reduceEqDiff, Nat.reduceLT, Nat.reduceAdd, Nat.reduceMul, Nat.reduceSub, Nat.add_zero, Nat.zero_add, Int.reduceEq, Int.reduceLT]
          refine hK _ _ _ (by simp only [go_sem, Nat.reduceEqDiff, Nat.reduceLT, Nat.reduceAdd, Nat.reduceMul, Nat.reduceSub, Nat.add_zero, Nat.zero_add, Int.reduceEq, Int.reduceLT]; rfl) ?_; clear hK
          refine AWP.ret (InBlock.ret (Then.ret (Then.ret (InBlock.ret (Then.ret ?_)))))
          exact Fin.plain ⟨.inr rfl, rfl⟩ rfl rfl hok (Grew.refl _) ⟨.inl rfl, rfl⟩
        · refine AWP.skip ?_
          refine AWP.lastR fun K hK => ?_ -- r6
          simp only [go_sem, Nat.reduceEqDiff, Nat.reduceLT, Nat.reduceAdd, Nat.reduceMul, Nat.reduceSub, Nat.add_zero, Nat.zero_add, Int.reduceEq, Int.reduceLT]
          refine hK _ _ ?_; clear hK
          refine ⟨rfl, n - 1, by omega, rfl, by omega, s + lx.length, by simp at h28; omega, ?_, ?_⟩ -- ROUND
          · simp only [go_sem, Nat.reduceEqDiff, Nat.reduceLT, Nat.reduceAdd, Nat.reduceMul, Nat.reduceSub, Nat.add_zero, Nat.zero_add, Int.reduceEq, Int.reduceLT]
            rw [i64w (by omega) (by omega), show ((vs.length - n : Nat) : Int) + 1 = ((vs.length - (n - 1) : Nat) : Int) by omega]
          · rw [show vs.length - (n - 1) = vs.length - n + 1 by omega, htk]
            intro l hl'
            rcases List.mem_append.1 hl' with h1 | h1
            · exact hall l h1
            · rw [List.mem_singleton.1 h1]; exact hx3
    · refine AWP.exit (Then.exit (Then.exit (InBlock.same ?_))) -- x0
      refine AWP.stepR [2] fun K hK => ?_ -- r12
      simp only [go_sem, Nat.reduceEqDiff, Nat.reduceLT, Nat.reduceAdd, Nat.reduceMul, Nat.reduceSub, Nat.add_zero, Nat.zero_add, Int.reduceEq, Int.reduceLT]
      refine hK _ _ _ (by simp only [go_sem, Nat.reduceEqDiff, Nat.reduceLT, Nat.reduceAdd, Nat.reduceMul, Nat.reduceSub, Nat.add_zero, Nat.zero_add, Int.reduceEq, Int.reduceLT]; rfl) ?_; clear hK
      refine AWP.ret (?_)
      have hn0 : n = 0 := by simp at h; omega
      rw [hn0, Nat.sub_zero, hvl, List.take_length] at hall
      exact Fin.plain ⟨.inr rfl, rfl⟩ rfl rfl hok (Grew.refl _) ⟨.inr ⟨rfl, hn40, hall⟩, rfl⟩
end Go.Proofs.YtopblipficpilaaGreatDoor.AY

/- Rows that lie in blocks of their elements' type; parts of them. -/
namespace Go.Proofs.YtopblipficpilaaGreatDoor.AY
open Go Go.Proofs
set_option linter.unusedVariables false
set_option linter.unusedSimpArgs false

/-- a row that lies in a block of its elements' type -/
def RowE (M : Mem) (v : Value) (n : Nat) (cells : List Value) (e : TypeId) : Prop := ∃ b o c blk, v = .slice (some ⟨b, o, none⟩) n c ∧ (c = unk ∨ n ≤ c) ∧ Has M b blk ∧ blk.elem = e ∧ o + cells.length ≤ blk.cells.length ∧ (blk.cells.drop o).take cells.length = cells
theorem RowE.row {M : Mem} {v : Value} {n : Nat} {cells : List Value} {e : TypeId} (h : RowE M v n cells e) : Row_ M v n cells := by
  obtain ⟨b, o, c, blk, h1, _, h2, _, h4, h5⟩ := h
  exact .inr ⟨b, o, c, blk, h1, h2, h4, h5⟩
theorem RowE.grew {M M1 : Mem} {v : Value} {n : Nat} {cells : List Value} {e : TypeId} (h : RowE M v n cells e) (hg : Grew M M1) : RowE M1 v n cells e := by
  obtain ⟨b, o, c, blk, h1, h0, h2, h3⟩ := h
  exact ⟨b, o, c, blk, h1, h0, h2.grew hg, h3⟩
theorem RowE.slice {P : Program} {t e sz : Nat} {i : TypeInfo} (ht : P.underlying t = some (.slice e)) (hi : P.info? e = some i) (hs : i.size = sz) {M : Mem} {v : Value} {n : Nat} {cells : List Value} (h : RowE M v n cells e) (hl : cells.length = n * sz) {lo hi_ : Nat} (h1 : lo ≤ hi_) (h2 : hi_ ≤ n) :
    ∃ v', (∀ M1, Grew M M1 → sliceV P M1.get t v (some (.int .i64 lo)) (some (.int .i64 hi_)) none = some v' ∧ (lo = 0 → sliceV P M1.get t v none (some (.int .i64 hi_)) none = some v') ∧ (hi_ = n → sliceV P M1.get t v (some (.int .i64 lo)) none none = some v')) ∧ RowE M v' (hi_ - lo) ((cells.drop (lo * sz)).take ((hi_ - lo) * sz)) e := by
  obtain ⟨b, o, c, blk, rfl, hcn, hb, he, h4, h5⟩ := h
  subst hs
  have hcs : P.cellsOf blk.elem = i.size := by rw [he]; exact cellsOf_eq hi
  have hlo : lo * i.size ≤ hi_ * i.size := Nat.mul_le_mul_right _ h1
  have hhi : hi_ * i.size ≤ n * i.size := Nat.mul_le_mul_right _ h2
  have hsub : (hi_ - lo) * i.size = hi_ * i.size - lo * i.size := Nat.sub_mul _ _ _
  refine ⟨.slice (some ⟨b, o + lo * i.size, none⟩) (hi_ - lo) (if c = unk then unk else c - lo), fun M1 hg => ?_, b, o + lo * i.size, _, blk, rfl, by split <;> omega, hb, he, ?_, ?_⟩
  · have hget := (rowsOf_some (hb.grew hg).1).1
    have hb1 : boundV (some (.int .i64 hi_)) n (if c = unk then n else c) = some hi_ := by
      simp only [boundV]
      rw [if_pos ⟨by omega, by split <;> omega⟩]; simp
    have hb2 : ∀ y, lo ≤ y → boundV (some (.int .i64 lo)) 0 y = some lo := fun y hy => by
      simp only [boundV]
      rw [if_pos ⟨by omega, by omega⟩]; simp
    refine ⟨?_, fun h0 => ?_, fun h0 => ?_⟩
    · simp only [sliceV, ht, hget, hi, hcs, Option.isSome_none, Option.isNone_none, Bool.false_eq_true, false_and, not_false_eq_true, and_self, if_true, true_and]
      rw [show boundV none (if c = unk then n else c) (if c = unk then n else c) = some (if c = unk then n else c) from rfl]
      simp only [hb1, hb2 hi_ h1]
      congr 1
      split <;> simp_all
    · subst h0
      simp only [sliceV, ht, hget, hi, hcs, Option.isSome_none, Option.isNone_none, Bool.false_eq_true, false_and, not_false_eq_true, and_self, if_true, true_and]
      rw [show boundV none (if c = unk then n else c) (if c = unk then n else c) = some (if c = unk then n else c) from rfl]
      simp only [hb1, show boundV none 0 hi_ = some 0 from rfl]
      congr 1
      split <;> simp_all
    · subst h0
      simp only [sliceV, ht, hget, hi, hcs, Option.isSome_none, Option.isNone_none, Bool.false_eq_true, false_and, not_false_eq_true, and_self, if_true, true_and]
      rw [show boundV none (if c = unk then hi_ else c) (if c = unk then hi_ else c) = some (if c = unk then hi_ else c) from rfl]
      simp only [show ∀ y, boundV none hi_ y = some hi_ from fun _ => rfl, hb2 hi_ h1]
      congr 1
      split <;> simp_all
  · rw [List.length_take, List.length_drop]; omega
  · rw [List.length_take, List.length_drop, hl, hsub, Nat.min_eq_left (by omega)]
    conv => rhs; rw [← h5, hl]
    rw [List.drop_take, List.take_take, List.drop_drop, Nat.min_eq_left (by omega)]
/-- the first ones, with no room behind them -/
theorem RowE.first {P : Program} {t e sz : Nat} {i : TypeInfo} (ht : P.underlying t = some (.slice e)) (hi : P.info? e = some i) (hs : i.size = sz) {M : Mem} {v : Value} {n : Nat} {cells : List Value} (h : RowE M v n cells e) (hl : cells.length = n * sz) {k : Nat} (hk : k ≤ n) :
    ∃ v', (∀ M1, Grew M M1 → sliceV P M1.get t v none (some (.int .i64 k)) (some (.int .i64 k)) = some v') ∧ RowE M v' k (cells.take (k * sz)) e := by
  obtain ⟨b, o, c, blk, rfl, hcn, hb, he, h4, h5⟩ := h
  subst hs
  have hcs : P.cellsOf blk.elem = i.size := by rw [he]; exact cellsOf_eq hi
  have hki : k * i.size ≤ n * i.size := Nat.mul_le_mul_right _ hk
  refine ⟨.slice (some ⟨b, o, none⟩) k k, fun M1 hg => ?_, b, o, k, blk, rfl, .inr (Nat.le_refl _), hb, he, ?_, ?_⟩
  · have hget := (rowsOf_some (hb.grew hg).1).1
    have hb1 : boundV (some (.int .i64 k)) (if c = unk then n else c) (if c = unk then n else c) = some k := by
      simp only [boundV]
      rw [if_pos ⟨by omega, by split <;> omega⟩]; simp
    have hb2 : boundV (some (.int .i64 k)) n k = some k := by
      simp only [boundV]
      rw [if_pos ⟨by omega, by omega⟩]; simp
    simp only [sliceV, ht, hget, hi, hcs, Option.isSome_some, Option.isNone_some, Bool.false_eq_true, and_false, not_false_eq_true, and_self, if_true, hb1, hb2, show boundV none 0 k = some 0 from rfl]
    simp
  · rw [List.length_take]; omega
  · rw [List.length_take, hl, Nat.min_eq_left hki]
    conv => rhs; rw [← h5, hl]
    rw [List.take_take, Nat.min_eq_left hki]
end Go.Proofs.YtopblipficpilaaGreatDoor.AY

/- bulk.Split: many, in parts. -/
namespace Go.Proofs.YtopblipficpilaaGreatDoor.AY
open Go Go.Proofs
set_option maxRecDepth 100000
set_option linter.unusedVariables false
set_option linter.unusedSimpArgs false

/-- what is left of a row -/
def Rem (M : Mem) (v : Value) (vs : List Value) : Prop := (vs = [] ∧ Row_ M v 0 []) ∨ RowE M v vs.length vs 42
theorem Rem.row {M : Mem} {v : Value} {vs : List Value} (h : Rem M v vs) : Row_ M v vs.length vs := by
  rcases h with ⟨rfl, h⟩ | h
  · exact h
  · exact h.row
/-- parts of a row: each is read, none is empty or too long, none but the last one is shorter -/
def Cut (M : Mem) (most : Nat) (ps : List Value) (css : List (List Value)) : Prop := ps.length = css.length ∧ (∀ (i : Nat) (p : Value) (cs : List Value), ps[i]? = some p → css[i]? = some cs → RowE M p cs.length cs 42 ∧ 1 ≤ cs.length ∧ cs.length ≤ most)
theorem min_V (a b : Nat) : extremeV false [.int .i64 (a : Int), .int .i64 (b : Int)] = some (.int .i64 ((Nat.min a b : Nat) : Int)) := by
  simp only [extremeV, cond_false]
  congr 2
  split <;> (simp only [Nat.min_def]; split <;> omega)
theorem und59 : Tryz.prog.underlying 59 = some (.slice 42) := by kernel_rfl
theorem info42 : ∃ i, Tryz.prog.info? 42 = some i ∧ i.size = 1 := by
  have : (Tryz.prog.info? 42).map (·.size) = some 1 := by kernel_rfl
  cases hi : Tryz.prog.info? 42 with
  | none => rw [hi] at this; cases this
  | some i => rw [hi] at this; exact ⟨i, rfl, by simpa using this⟩

theorem split31_spec (v : Value) (vs : List Value) (most : Int) (M : Mem) (hok : Ok M) (hv : Rem M v vs) (hn : vs.length ≤ 40) (hm : -9223372036854775808 ≤ most ∧ most ≤ 9223372036854775807) :
    ∃ r M', ACall Tryz.prog 31 #[v, .int .i64 most] M r M' ∧ Grew M M' ∧ ((most < 1 ∧ r = .slice none 0 0) ∨ (1 ≤ most ∧ ∃ ps css, Row_ M' r ps.length ps ∧ Cut M most.toNat ps css ∧ css.flatten = vs ∧ ∀ i, i + 1 < css.length → ∀ cs, css[i]? = some cs → cs.length = most.toNat)) := by
  refine ACall.fin (args := [v, .int .i64 most]) (k := 27) Tryz.func31 rfl rfl rfl (Nat.le_of_ble_eq_true rfl) ?_
  refine AWP.stepR [0, 1] fun K hK => ?_ -- r0
  simp only [go_sem, Nat.reduceEqDiff, Nat.reduceLT, Nat.reduceAdd, Nat.reduceMul, Nat.reduceSub, Nat.add_zero, Nat.zero_add, Int.reduceEq, Int.reduceLT]
  refine hK _ _ _ (by simp only [go_sem, Nat.reduceEqDiff, Nat.reduceLT, Nat.reduceAdd, Nat.reduceMul, Nat.reduceSub, Nat.add_zero, Nat.zero_add, Int.reduceEq, Int.reduceLT]; rfl) ?_; clear hK
  refine AWP.seq ?_
  refine AWP.stepR [0, 1, 8] fun K hK => ?_ -- r1
  simp only [go_sem, Nat.reduceEqDiff, Nat.reduceLT, Nat.reduceAdd, Nat.reduceMul, Nat.reduceSub, Nat.add_zero, Nat.zero_add, Int.reduceEq, Int.reduceLT]
  refine hK _ _ _ (by simp only [go_sem, Nat.reduceEqDiff, Nat.reduceLT, Nat.reduceAdd, Nat.reduceMul, Nat.reduceSub, Nat.add_zero, Nat.zero_add, Int.reduceEq, Int.reduceLT]; rfl) ?_; clear hK
  refine AWP.cond_split rfl (fun h8 => ?_) fun h8 => ?_
  · refine AWP.stepR [4] fun K hK => ?_ -- r2
    simp only [go_sem, Nat.reduceEqDiff, Nat.reduceLT, Nat.reduceAdd, Nat.reduceMul, Nat.reduceSub, Nat.add_zero, Nat.zero_add, Int.reduceEq, Int.reduceLT]
    refine hK _ _ _ (by simp only [go_sem, Nat.reduceEqDiff, Nat.reduceLT, Nat.reduceAdd, Nat.reduceMul, Nat.reduceSub, Nat.add_zero, Nat.zero_add, Int.reduceEq, Int.reduceLT]; rfl) ?_; clear hK
    refine AWP.ret (Then.ret (?_))
    exact Fin.plain ⟨.inr rfl, rfl⟩ rfl rfl hok (Grew.refl _) ⟨Grew.refl _, .inl ⟨by simpa using h8, rfl⟩⟩
  · have hpos : 1 ≤ most := by simp at h8; omega
    obtain ⟨m, rfl⟩ : ∃ m : Nat, most = m := ⟨most.toNat, by omega⟩
    refine AWP.skip ?_
    refine AWP.stepR [0, 1, 5] fun K hK => ?_ -- r3
    simp only [go_sem, Nat.reduceEqDiff, Nat.reduceLT, Nat.reduceAdd, Nat.reduceMul, Nat.reduceSub, Nat.add_zero, Nat.zero_add, Int.reduceEq, Int.reduceLT]
    refine hK _ _ _ (by simp only [go_sem, Nat.reduceEqDiff, Nat.reduceLT, Nat.reduceAdd, Nat.reduceMul, Nat.reduceSub, Nat.add_zero, Nat.zero_add, Int.reduceEq, Int.reduceLT]; rfl) ?_; clear hK
    refine AWP.seq ?_
    refine AWP.block ?_ -- b0
    refine AWP.loopK [0, 1, 5] (fun n e M0 => ∃ v1 rest out ps css, e = [(0, v1), (1, .int .i64 (m : Int)), (5, out)] ∧ rest.length = n ∧ n ≤ 40 ∧ Rem M v1 rest ∧ Own M M0 out ps.length ps 59 ∧ Grew M M0 ∧ Cut M m ps css ∧ css.flatten ++ rest = vs ∧ ps.length + n ≤ 40 ∧ (rest ≠ [] → ∀ (i : Nat) cs, css[i]? = some cs → cs.length = m) ∧ (∀ i, i + 1 < css.length → ∀ cs, css[i]? = some cs → cs.length = m)) vs.length ?_ fun n e M0 hI => ?_ -- LOOP
    · refine ⟨v, vs, .slice none 0 0, [], [], by simp only [go_sem, Nat.reduceEqDiff, Nat.reduceLT, Nat.reduceAdd, Nat.reduceMul, Nat.reduceSub, Nat.add_zero, Nat.zero_add, Int.reduceEq, Int.reduceLT], rfl, hn, hv, Own.nil _ _ _, Grew.refl _, ⟨rfl, fun i p cs h => by simp at h⟩, rfl, by simpa using hn, fun _ i cs h => by simp at h, fun i h => by simp at h⟩
    obtain ⟨v1, rest, out, ps, css, rfl, hrl, hn40, hrem, hout, hgr, hcut, hfl, hps, hall, hall2⟩ := hI
    refine AWP.seq ?_
    refine AWP.stepR [0, 1, 5, 11] fun K hK => ?_ -- r4
    simp only [go_sem, Nat.reduceEqDiff, Nat.reduceLT, Nat.reduceAdd, Nat.reduceMul, Nat.reduceSub, Nat.add_zero, Nat.zero_add, Int.reduceEq, Int.reduceLT, hrem.row.len es_59]
    refine hK _ _ _ (by simp only [go_sem, Nat.reduceEqDiff, Nat.reduceLT, Nat.reduceAdd, Nat.reduceMul, Nat.reduceSub, Nat.add_zero, Nat.zero_add, Int.reduceEq, Int.reduceLT]; rfl) ?_; clear hK
    refine AWP.cond_split rfl (fun h11 => ?_) fun h11 => ?_
    · have hne : 0 < rest.length := by simpa using h11
      have hrow : RowE M v1 rest.length rest 42 := by
        rcases hrem with ⟨rfl, _⟩ | h
        · simp at hne
        · exact h
      refine AWP.skip ?_
      refine AWP.block ?_ -- b1
      refine AWP.stepR [0, 1, 5, 6] fun K hK => ?_ -- r5
      simp only [go_sem, Nat.reduceEqDiff, Nat.reduceLT, Nat.reduceAdd, Nat.reduceMul, Nat.reduceSub, Nat.add_zero, Nat.zero_add, Int.reduceEq, Int.reduceLT, hrem.row.len es_59, min_V]
      refine hK _ _ _ (by simp only [go_sem, Nat.reduceEqDiff, Nat.reduceLT, Nat.reduceAdd, Nat.reduceMul, Nat.reduceSub, Nat.add_zero, Nat.zero_add, Int.reduceEq, Int.reduceLT]; rfl) ?_; clear hK
      obtain ⟨i42, hi42, hs42⟩ := info42
      have hk1 : Nat.min m rest.length ≤ rest.length := Nat.min_le_right _ _
      have hk0 : 1 ≤ Nat.min m rest.length := by simp only [Nat.min_def]; split <;> omega
      have hkm : Nat.min m rest.length ≤ m := Nat.min_le_left _ _
      have hkd : Nat.min m rest.length = rest.length ∨ Nat.min m rest.length = m := by simp only [Nat.min_def]; split <;> omega
      generalize Nat.min m rest.length = k at *
      obtain ⟨p, hp1, hp2⟩ := hrow.first und59 hi42 hs42 (by simp) hk1
      obtain ⟨q, hq1, hq2⟩ := hrow.slice und59 hi42 hs42 (by simp) hk1 (Nat.le_refl _)
      have hpr := hp2.row.one
      refine AWP.stepR [0, 1, 5, 6] fun K hK => ?_ -- r6
      simp only [go_sem, Nat.reduceEqDiff, Nat.reduceLT, Nat.reduceAdd, Nat.reduceMul, Nat.reduceSub, Nat.add_zero, Nat.zero_add, Int.reduceEq, Int.reduceLT, Option.map_some, hp1 (M0.bump 1) (hgr.bump 1), hp1 M0 hgr, hpr]
      have hlt : M0.next < (M0.bump 1).next := Nat.lt_succ_self _
      have hg1 : Grew M ((M0.bump 1).put M0.next ⟨[p], 59, true⟩) := (hgr.bump 1).put hgr.next hlt _
      have hgm : Grew M0 ((M0.bump 1).put M0.next ⟨[p], 59, true⟩) := ((Grew.refl M0).bump 1).put (Nat.le_refl _) hlt _
      have ho1 : Own M ((M0.bump 1).put M0.next ⟨[p], 59, true⟩) out ps.length ps 59 := hout.grew hgm
      obtain ⟨v2, M2, happ, hown2, hg2, hnx, hfr⟩ := Own.append ap_68_68 hg1 ho1 (by simp) ((Has.put hlt ⟨[p], 59, true⟩).content 1 1 1 rfl) (by simp [oneCells, hpr]) (by omega)
      simp only [happ, go_sem, Nat.reduceEqDiff, Nat.reduceLT, Nat.reduceAdd, Nat.reduceMul, Nat.reduceSub, Nat.add_zero, Nat.zero_add, Int.reduceEq, Int.reduceLT]
      refine hK _ _ _ (by simp only [go_sem, Nat.reduceEqDiff, Nat.reduceLT, Nat.reduceAdd, Nat.reduceMul, Nat.reduceSub, Nat.add_zero, Nat.zero_add, Int.reduceEq, Int.reduceLT]; rfl) ?_; clear hK
      refine AWP.lastR fun K hK => ?_ -- r7
      simp only [go_sem, Nat.reduceEqDiff, Nat.reduceLT, Nat.reduceAdd, Nat.reduceMul, Nat.reduceSub, Nat.add_zero, Nat.zero_add, Int.reduceEq, Int.reduceLT, Option.map_some, (hq1 M2 hg2).2.2 rfl]
      refine hK _ _ ?_; clear hK
      refine ⟨rfl, rest.length - k, by omega, q, rest.drop k, v2, ps ++ [p], css ++ [rest.take k], ?_, ?_, by omega, ?_, ?_, hg2, ?_, ?_, ?_, ?_, ?_⟩ -- ROUND
      · simp only [go_sem, Nat.reduceEqDiff, Nat.reduceLT, Nat.reduceAdd, Nat.reduceMul, Nat.reduceSub, Nat.add_zero, Nat.zero_add, Int.reduceEq, Int.reduceLT]
      · simp
      · refine .inr ?_
        have := hq2
        simp only [Nat.mul_one] at this
        rw [List.take_of_length_le (by simp)] at this
        simpa using this
      · simpa using hown2
      · have hcl := hcut.1
        refine ⟨by simp [hcl], fun i pp cs h1 h2 => ?_⟩
        rw [List.getElem?_append] at h1 h2
        by_cases hi : i < ps.length
        · rw [if_pos hi] at h1
          rw [if_pos (by omega)] at h2
          exact hcut.2 i pp cs h1 h2
        · rw [if_neg hi] at h1
          rw [if_neg (by omega)] at h2
          have hi0 : i - ps.length = 0 := by
            have := (List.getElem?_eq_some_iff.1 h1).1
            simp at this; omega
          rw [hi0] at h1
          rw [show i - css.length = 0 by omega] at h2
          simp only [List.getElem?_cons_zero, Option.some.injEq] at h1 h2
          subst h1 h2
          have hlen : (rest.take k).length = k := by simp; omega
          refine ⟨?_, by omega, by omega⟩
          rw [hlen]
          simpa using hp2
      · rw [← hfl]; simp [List.flatten_append]
      · simp; omega
      · intro hne' i cs h
        have hlt' : k < rest.length := by
          rcases Nat.lt_or_ge k rest.length with h | h
          · exact h
          · exact absurd (List.drop_eq_nil_of_le h) hne'
        rw [List.getElem?_append] at h
        by_cases hi : i < css.length
        · rw [if_pos hi] at h; exact hall (by rintro rfl; simp at hne) i cs h
        · rw [if_neg hi] at h
          have hi0 : i - css.length = 0 := by
            have := (List.getElem?_eq_some_iff.1 h).1
            simp at this; omega
          rw [hi0] at h
          simp only [List.getElem?_cons_zero, Option.some.injEq] at h
          subst h
          simp; omega
      · intro i hi cs h
        have hi' : i < css.length := by simp at hi; omega
        rw [List.getElem?_append, if_pos hi'] at h
        exact hall (by rintro rfl; simp at hne) i cs h
    · refine AWP.exit (Then.exit (Then.exit (InBlock.same ?_))) -- x0
      have hr0 : rest = [] := by
        have : ¬ 0 < rest.length := by simpa using h11
        exact List.eq_nil_of_length_eq_zero (by omega)
      refine AWP.stepR [4] fun K hK => ?_ -- r8
      simp only [go_sem, Nat.reduceEqDiff, Nat.reduceLT, Nat.reduceAdd, Nat.reduceMul, Nat.reduceSub, Nat.add_zero, Nat.zero_add, Int.reduceEq, Int.reduceLT]
      refine hK _ _ _ (by simp only [go_sem, Nat.reduceEqDiff, Nat.reduceLT, Nat.reduceAdd, Nat.reduceMul, Nat.reduceSub, Nat.add_zero, Nat.zero_add, Int.reduceEq, Int.reduceLT]; rfl) ?_; clear hK
      refine AWP.ret (?_)
      subst hr0
      rw [List.append_nil] at hfl
      exact Fin.keep ⟨.inr rfl, rfl⟩ rfl ⟨hgr, .inr ⟨hpos, ps, css, hout.row, hcut, hfl, hall2⟩⟩
end Go.Proofs.YtopblipficpilaaGreatDoor.AY
