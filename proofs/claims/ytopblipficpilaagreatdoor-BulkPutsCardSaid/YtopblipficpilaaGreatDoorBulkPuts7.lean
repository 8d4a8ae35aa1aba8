/- Many rows of bytes: like ones; no more than are waited for. -/
import Derived.Test.YtopblipficpilaaGreatDoorBulkPuts6
import Derived.Test.YtopblipficpilaaGreatDoorBulkPuts5
namespace Go.Proofs.YtopblipficpilaaGreatDoor.AY
open Go Go.Proofs
set_option maxRecDepth 100000
set_option linter.unusedVariables false
set_option linter.unusedSimpArgs false

theorem hmo : Tryz.prog.follows .mixedOrders = true := by kernel_rfl
theorem same29_spec (v w : Value) (l m : List Int) (M : Mem) (hok : Ok M) (hv : RowB M v l) (hw : RowB M w m) (hl : l.length ≤ 9223372036854775807) : ∃ r M', ACall Tryz.prog 29 #[v, w] M r M' ∧ r = .bool (l == m) ∧ M' = M := by
  refine ACall.fin (args := [v, w]) (k := 26) Tryz.func29 rfl rfl rfl (Nat.le_of_ble_eq_true rfl) ?_
  refine AWP.stepR [0, 1] fun K hK => ?_ -- r0
  simp only [go_sem, Nat.reduceEqDiff, Nat.reduceLT, Nat.reduceAdd, Nat.reduceMul, Nat.reduceSub, Nat.add_zero, Nat.zero_add, Int.reduceEq, Int.reduceLT]
  refine hK _ _ _ (by simp only [go_sem, Nat.reduceEqDiff, Nat.reduceLT, Nat.reduceAdd, Nat.reduceMul, Nat.reduceSub, Nat.add_zero, Nat.zero_add, Int.reduceEq, Int.reduceLT]; rfl) ?_; clear hK
  refine AWP.seq ?_
  refine AWP.stepR [0, 1, 10] fun K hK => ?_ -- r1
  simp only [go_sem, Nat.reduceEqDiff, Nat.reduceLT, Nat.reduceAdd, Nat.reduceMul, Nat.reduceSub, Nat.add_zero, Nat.zero_add, Int.reduceEq, Int.reduceLT, hv.len es_42, hw.len es_42]
  refine hK _ _ _ (by simp only [go_sem, Nat.reduceEqDiff, Nat.reduceLT, Nat.reduceAdd, Nat.reduceMul, Nat.reduceSub, Nat.add_zero, Nat.zero_add, Int.reduceEq, Int.reduceLT]; rfl) ?_; clear hK
  refine AWP.cond_split rfl (fun h => ?_) fun h => ?_ -- if (tmp 10)
  · refine AWP.stepR [4] fun K hK => ?_ -- r2
    simp only [go_sem, Nat.reduceEqDiff, Nat.reduceLT, Nat.reduceAdd, Nat.reduceMul, Nat.reduceSub, Nat.add_zero, Nat.zero_add, Int.reduceEq, Int.reduceLT]
    refine hK _ _ _ (by simp only [go_sem, Nat.reduceEqDiff, Nat.reduceLT, Nat.reduceAdd, Nat.reduceMul, Nat.reduceSub, Nat.add_zero, Nat.zero_add, Int.reduceEq, Int.reduceLT]; rfl) ?_; clear hK
    refine AWP.ret (Then.ret (?_))
    refine Fin.plain ⟨.inr rfl, rfl⟩ rfl rfl hok (Grew.refl _) ⟨?_, rfl⟩
    rw [beq_eq_false_iff_ne.2]
    rintro rfl
    simp at h
  · have hlen : l.length = m.length := by simp at h; omega
    refine AWP.skip ?_
    refine AWP.seq ?_
    refine AWP.stepR [0, 1, 5] fun K hK => ?_ -- r3
    simp only [go_sem, Nat.reduceEqDiff, Nat.reduceLT, Nat.reduceAdd, Nat.reduceMul, Nat.reduceSub, Nat.add_zero, Nat.zero_add, Int.reduceEq, Int.reduceLT]
    refine hK _ _ _ (by simp only [go_sem, Nat.reduceEqDiff, Nat.reduceLT, Nat.reduceAdd, Nat.reduceMul, Nat.reduceSub, Nat.add_zero, Nat.zero_add, Int.reduceEq, Int.reduceLT]; rfl) ?_; clear hK
    refine AWP.block ?_ -- b0
    refine AWP.loopK [0, 1, 5] (fun n e M0 => M0 = M ∧ n ≤ l.length ∧ e = [(0, v), (1, w), (5, .int .i64 ((l.length - n : Nat) : Int))] ∧ l.take (l.length - n) = m.take (l.length - n)) l.length ?_ fun n e M0 hI => ?_ -- LOOP
    · simp only [go_sem, Nat.reduceEqDiff, Nat.reduceLT, Nat.reduceAdd, Nat.reduceMul, Nat.reduceSub, Nat.add_zero, Nat.zero_add, Int.reduceEq, Int.reduceLT, true_and, Nat.le_refl]
      exact ⟨by simp, by simp⟩
    obtain ⟨rfl, hn, rfl, hall⟩ := hI
    refine AWP.seq ?_
    refine AWP.stepR [0, 1, 5, 14] fun K hK => ?_ -- r4
    simp only [go_sem, Nat.reduceEqDiff, Nat.reduceLT, Nat.reduceAdd, Nat.reduceMul, Nat.reduceSub, Nat.add_zero, Nat.zero_add, Int.reduceEq, Int.reduceLT, hv.len es_42]
    refine hK _ _ _ (by simp only [go_sem, Nat.reduceEqDiff, Nat.reduceLT, Nat.reduceAdd, Nat.reduceMul, Nat.reduceSub, Nat.add_zero, Nat.zero_add, Int.reduceEq, Int.reduceLT]; rfl) ?_; clear hK
    refine AWP.cond_split rfl (fun h => ?_) fun h => ?_ -- if (tmp 14)
    · have hlt : l.length - n < l.length := by simpa using h
      have hlt' : l.length - n < m.length := by omega
      obtain ⟨b, q, ha, hd⟩ := hv.at1 (by simp [cB]) es_42 hlt
      have hd := hd M0 (Grew.refl _)
      rw [show (cB l)[l.length - n]? = some (.int .u8 l[l.length - n]) by simp [cB, hlt]] at hd
      obtain ⟨b', q', ha', hd'⟩ := hw.at1 (by simp [cB]) es_42 hlt'
      have hd' := hd' M0 (Grew.refl _)
      rw [show (cB m)[l.length - n]? = some (.int .u8 m[l.length - n]) by simp [cB, hlt']] at hd'
      generalize hxx : l[l.length - n] = x at hd
      generalize hyy : m[l.length - n] = y at hd'
      refine AWP.skip ?_
      refine AWP.seq ?_
      refine AWP.block ?_ -- b1
      refine AWP.stepD hmo [0, 1, 2, 3, 4, 5, 6, 7, 8] [0, 0, 3, 7, 0, 0, 48, 112, 255] [] [] (by kernel_rfl) [0, 1, 5, 25] fun K hK => ?_ -- r6
      simp only [go_sem, Nat.reduceEqDiff, Nat.reduceLT, Nat.reduceAdd, Nat.reduceMul, Nat.reduceSub, Nat.add_zero, Nat.zero_add, Int.reduceEq, Int.reduceLT, ha, hd, ha', hd', ld_5]
      refine hK _ _ _ (by simp only [go_sem, Nat.reduceEqDiff, Nat.reduceLT, Nat.reduceAdd, Nat.reduceMul, Nat.reduceSub, Nat.add_zero, Nat.zero_add, Int.reduceEq, Int.reduceLT]; rfl) ?_; clear hK
      refine AWP.cond_split rfl (fun h25 => ?_) fun h25 => ?_
      · refine AWP.stepR [4] fun K hK => ?_ -- r7
        simp only [go_sem, Nat.reduceEqDiff, Nat.reduceLT, Nat.reduceAdd, Nat.reduceMul, Nat.reduceSub, Nat.add_zero, Nat.zero_add, Int.reduceEq, Int.reduceLT]
        refine hK _ _ _ (by simp only [go_sem, Nat.reduceEqDiff, Nat.reduceLT, Nat.reduceAdd, Nat.reduceMul, Nat.reduceSub, Nat.add_zero, Nat.zero_add, Int.reduceEq, Int.reduceLT]; rfl) ?_; clear hK
        refine AWP.ret (InBlock.ret (Then.ret (Then.ret (InBlock.ret (Then.ret ?_)))))
        refine Fin.plain ⟨.inr rfl, rfl⟩ rfl rfl hok (Grew.refl _) ⟨?_, rfl⟩
        rw [beq_eq_false_iff_ne.2]
        rintro rfl
        simp [← hxx, ← hyy] at h25
      · refine AWP.skip ?_
        refine AWP.lastR fun K hK => ?_ -- r5
        simp only [go_sem, Nat.reduceEqDiff, Nat.reduceLT, Nat.reduceAdd, Nat.reduceMul, Nat.reduceSub, Nat.add_zero, Nat.zero_add, Int.reduceEq, Int.reduceLT]
        refine hK _ _ ?_; clear hK
        refine ⟨rfl, n - 1, by omega, rfl, by omega, ?_, ?_⟩ -- ROUND
        · simp only [go_sem, Nat.reduceEqDiff, Nat.reduceLT, Nat.reduceAdd, Nat.reduceMul, Nat.reduceSub, Nat.add_zero, Nat.zero_add, Int.reduceEq, Int.reduceLT]
          rw [i64w (by omega) (by omega), show ((l.length - n : Nat) : Int) + 1 = ((l.length - (n - 1) : Nat) : Int) by omega]
        · rw [show l.length - (n - 1) = l.length - n + 1 by omega, List.take_succ_eq_append_getElem hlt, List.take_succ_eq_append_getElem hlt', hall, hxx, hyy]
          simp at h25
          rw [h25]
    · refine AWP.exit (Then.exit (Then.exit (InBlock.same ?_))) -- x0
      refine AWP.stepR [4] fun K hK => ?_ -- r8
      simp only [go_sem, Nat.reduceEqDiff, Nat.reduceLT, Nat.reduceAdd, Nat.reduceMul, Nat.reduceSub, Nat.add_zero, Nat.zero_add, Int.reduceEq, Int.reduceLT]
      refine hK _ _ _ (by simp only [go_sem, Nat.reduceEqDiff, Nat.reduceLT, Nat.reduceAdd, Nat.reduceMul, Nat.reduceSub, Nat.add_zero, Nat.zero_add, Int.reduceEq, Int.reduceLT]; rfl) ?_; clear hK
      refine AWP.ret (?_)
      refine Fin.plain ⟨.inr rfl, rfl⟩ rfl rfl hok (Grew.refl _) ⟨?_, rfl⟩
      have hn0 : n = 0 := by simp at h; omega
      rw [hn0, Nat.sub_zero, List.take_length, hlen, List.take_length] at hall
      rw [hall]; simp

/-! ### rows of bytes, one by one -/
def Parts (M : Mem) (vs : List Value) (ls : List (List Int)) : Prop := vs.length = ls.length ∧ ∀ (i : Nat) (v : Value) (l : List Int), vs[i]? = some v → ls[i]? = some l → RowB M v l
theorem Parts.grew {M M1 : Mem} {vs : List Value} {ls : List (List Int)} (h : Parts M vs ls) (hg : Grew M M1) : Parts M1 vs ls := ⟨h.1, fun i v l h1 h2 => (h.2 i v l h1 h2).grew hg⟩
theorem Parts.at {M : Mem} {vs : List Value} {ls : List (List Int)} (h : Parts M vs ls) {i : Nat} (hi : i < vs.length) (hi' : i < ls.length) : RowB M vs[i] ls[i] := h.2 i _ _ (List.getElem?_eq_getElem hi) (List.getElem?_eq_getElem hi')

theorem sameAll30_spec (v w : Value) (vs ws : List Value) (ls ms : List (List Int)) (M : Mem) (hok : Ok M) (hv : Row_ M v vs.length vs) (hw : Row_ M w ws.length ws) (hp : Parts M vs ls) (hq : Parts M ws ms) (hn : vs.length ≤ 9223372036854775807) (hl : ∀ l, l ∈ ls → l.length ≤ 9223372036854775807) :
    ∃ r M', ACall Tryz.prog 30 #[v, w] M r M' ∧ r = .bool (ls == ms) ∧ M' = M := by
  refine ACall.fin (args := [v, w]) (k := 27) Tryz.func30 rfl rfl rfl (Nat.le_of_ble_eq_true rfl) ?_
  have hvl := hp.1
  have hwl := hq.1
  refine AWP.stepR [0, 1] fun K hK => ?_ -- r0
  simp only [go_sem, Nat.reduceEqDiff, Nat.reduceLT, Nat.reduceAdd, Nat.reduceMul, Nat.reduceSub, Nat.add_zero, Nat.zero_add, Int.reduceEq, Int.reduceLT]
  refine hK _ _ _ (by simp only [go_sem, Nat.reduceEqDiff, Nat.reduceLT, Nat.reduceAdd, Nat.reduceMul, Nat.reduceSub, Nat.add_zero, Nat.zero_add, Int.reduceEq, Int.reduceLT]; rfl) ?_; clear hK
  refine AWP.seq ?_
  refine AWP.stepR [0, 1, 10] fun K hK => ?_ -- r1
  simp only [go_sem, Nat.reduceEqDiff, Nat.reduceLT, Nat.reduceAdd, Nat.reduceMul, Nat.reduceSub, Nat.add_zero, Nat.zero_add, Int.reduceEq, Int.reduceLT, hv.len es_59, hw.len es_59]
  refine hK _ _ _ (by simp only [go_sem, Nat.reduceEqDiff, Nat.reduceLT, Nat.reduceAdd, Nat.reduceMul, Nat.reduceSub, Nat.add_zero, Nat.zero_add, Int.reduceEq, Int.reduceLT]; rfl) ?_; clear hK
  refine AWP.cond_split rfl (fun h => ?_) fun h => ?_ -- if (tmp 10)
  · refine AWP.stepR [4] fun K hK => ?_ -- r2
    simp only [go_sem, Nat.reduceEqDiff, Nat.reduceLT, Nat.reduceAdd, Nat.reduceMul, Nat.reduceSub, Nat.add_zero, Nat.zero_add, Int.reduceEq, Int.reduceLT]
    refine hK _ _ _ (by simp only [go_sem, Nat.reduceEqDiff, Nat.reduceLT, Nat.reduceAdd, Nat.reduceMul, Nat.reduceSub, Nat.add_zero, Nat.zero_add, Int.reduceEq, Int.reduceLT]; rfl) ?_; clear hK
    refine AWP.ret (Then.ret (?_))
    refine Fin.plain ⟨.inr rfl, rfl⟩ rfl rfl hok (Grew.refl _) ⟨?_, rfl⟩
    rw [beq_eq_false_iff_ne.2]
    rintro rfl
    simp at h
    omega
  · have hlen : vs.length = ws.length := by simp at h; omega
    refine AWP.skip ?_
    refine AWP.seq ?_
    refine AWP.stepR [0, 1, 5] fun K hK => ?_ -- r3
    simp only [go_sem, Nat.reduceEqDiff, Nat.reduceLT, Nat.reduceAdd, Nat.reduceMul, Nat.reduceSub, Nat.add_zero, Nat.zero_add, Int.reduceEq, Int.reduceLT]
    refine hK _ _ _ (by simp only [go_sem, Nat.reduceEqDiff, Nat.reduceLT, Nat.reduceAdd, Nat.reduceMul, Nat.reduceSub, Nat.add_zero, Nat.zero_add, Int.reduceEq, Int.reduceLT]; rfl) ?_; clear hK
    refine AWP.block ?_ -- b0
    refine AWP.loopK [0, 1, 5] (fun n e M0 => M0 = M ∧ n ≤ vs.length ∧ e = [(0, v), (1, w), (5, .int .i64 ((vs.length - n : Nat) : Int))] ∧ ls.take (vs.length - n) = ms.take (vs.length - n)) vs.length ?_ fun n e M0 hI => ?_ -- LOOP
    · simp only [go_sem, Nat.reduceEqDiff, Nat.reduceLT, Nat.reduceAdd, Nat.reduceMul, Nat.reduceSub, Nat.add_zero, Nat.zero_add, Int.reduceEq, Int.reduceLT, true_and, Nat.le_refl]
      exact ⟨by simp, by simp⟩
    obtain ⟨rfl, hn', rfl, hall⟩ := hI
    refine AWP.seq ?_
    refine AWP.stepR [0, 1, 5, 14] fun K hK => ?_ -- r4
    simp only [go_sem, Nat.reduceEqDiff, Nat.reduceLT, Nat.reduceAdd, Nat.reduceMul, Nat.reduceSub, Nat.add_zero, Nat.zero_add, Int.reduceEq, Int.reduceLT, hv.len es_59]
    refine hK _ _ _ (by simp only [go_sem, Nat.reduceEqDiff, Nat.reduceLT, Nat.reduceAdd, Nat.reduceMul, Nat.reduceSub, Nat.add_zero, Nat.zero_add, Int.reduceEq, Int.reduceLT]; rfl) ?_; clear hK
    refine AWP.cond_split rfl (fun h => ?_) fun h => ?_ -- if (tmp 14)
    · have hlt : vs.length - n < vs.length := by simpa using h
      have hlt' : vs.length - n < ws.length := by omega
      have hlt2 : vs.length - n < ls.length := by omega
      have hlt2' : vs.length - n < ms.length := by omega
      obtain ⟨b, q, ha, hd⟩ := hv.at1 rfl es_59 hlt
      have hd := hd M0 (Grew.refl _)
      rw [List.getElem?_eq_getElem hlt] at hd
      have hx := hp.at hlt hlt2
      obtain ⟨b', q', ha', hd'⟩ := hw.at1 rfl es_59 hlt'
      have hd' := hd' M0 (Grew.refl _)
      rw [List.getElem?_eq_getElem hlt'] at hd'
      have hy := hq.at hlt' hlt2'
      have hll := hl _ (List.getElem_mem hlt2)
      generalize vs[vs.length - n] = x at hd hx
      generalize ws[vs.length - n] = y at hd' hy
      generalize hxx : ls[vs.length - n] = lx at hx hll
      generalize hyy : ms[vs.length - n] = ly at hy
      obtain ⟨r2, M2, hc2, hr2, hM2⟩ := same29_spec x y lx ly M0 hok hx hy hll
      rw [hr2, hM2] at hc2
      refine AWP.skip ?_
      refine AWP.seq ?_
      refine AWP.block ?_ -- b1
      refine AWP.stepD hmo [0, 1, 2, 3, 4, 5, 6, 7, 8, 9] [0, 0, 3, 7, 0, 0, 48, 112, 255, 511] [] [] (by kernel_rfl) [0, 1, 5, 26] fun K hK => ?_ -- r6
      simp only [go_sem, Nat.reduceEqDiff, Nat.reduceLT, Nat.reduceAdd, Nat.reduceMul, Nat.reduceSub, Nat.add_zero, Nat.zero_add, Int.reduceEq, Int.reduceLT, ha, hd, ha', hd', ld_42]
      refine ⟨_, _, hc2, ?_⟩
      try simp only [go_sem, Nat.reduceEqDiff, Nat.reduceLT, Nat.reduceAdd, Nat.reduceMul, Nat.reduceSub, Nat.add_zero, Nat.zero_add, Int.reduceEq, Int.reduceLT, ha, hd, ha', hd', ld_42]
      refine ⟨by simp, ?_⟩
      refine hK _ _ _ (by simp only [go_sem, Nat.reduceEqDiff, Nat.reduceLT, Nat.reduceAdd, Nat.reduceMul, Nat.reduceSub, Nat.add_zero, Nat.zero_add, Int.reduceEq, Int.reduceLT]; rfl) ?_; clear hK
      refine AWP.cond_split rfl (fun h25 => ?_) fun h25 => ?_
      · refine AWP.stepR [4] fun K hK => ?_ -- r7
        simp only [go_sem, Nat.reduceEqDiff, Nat.reduceLT, Nat.reduceAdd, Nat.reduceMul, Nat.reduceSub, Nat.add_zero, Nat.zero_add, Int.reduceEq, Int.reduceLT]
        refine hK _ _ _ (by simp only [go_sem, Nat.reduceEqDiff, Nat.reduceLT, Nat.reduceAdd, Nat.reduceMul, Nat.reduceSub, Nat.add_zero, Nat.zero_add, Int.reduceEq, Int.reduceLT]; rfl) ?_; clear hK
        refine AWP.ret (InBlock.ret (Then.ret (Then.ret (InBlock.ret (Then.ret ?_)))))
        refine Fin.plain ⟨.inr rfl, rfl⟩ rfl rfl hok (Grew.refl _) ⟨?_, rfl⟩
        rw [beq_eq_false_iff_ne.2]
        rintro rfl
        simp [← hxx, ← hyy] at h25
      · refine AWP.skip ?_
        refine AWP.lastR fun K hK => ?_ -- r5
        simp only [go_sem, Nat.reduceEqDiff, Nat.reduceLT, Nat.reduceAdd, Nat.reduceMul, Nat.reduceSub, Nat.add_zero, Nat.zero_add, Int.reduceEq, Int.reduceLT]
        refine hK _ _ ?_; clear hK
        refine ⟨rfl, n - 1, by omega, rfl, by omega, ?_, ?_⟩ -- ROUND
        · simp only [go_sem, Nat.reduceEqDiff, Nat.reduceLT, Nat.reduceAdd, Nat.reduceMul, Nat.reduceSub, Nat.add_zero, Nat.zero_add, Int.reduceEq, Int.reduceLT]
          rw [i64w (by omega) (by omega), show ((vs.length - n : Nat) : Int) + 1 = ((vs.length - (n - 1) : Nat) : Int) by omega]
        · rw [show vs.length - (n - 1) = vs.length - n + 1 by omega, List.take_succ_eq_append_getElem hlt2, List.take_succ_eq_append_getElem hlt2', hall, hxx, hyy]
          simp at h25
          rw [h25]
    · refine AWP.exit (Then.exit (Then.exit (InBlock.same ?_))) -- x0
      refine AWP.stepR [4] fun K hK => ?_ -- r8
      simp only [go_sem, Nat.reduceEqDiff, Nat.reduceLT, Nat.reduceAdd, Nat.reduceMul, Nat.reduceSub, Nat.add_zero, Nat.zero_add, Int.reduceEq, Int.reduceLT]
      refine hK _ _ _ (by simp only [go_sem, Nat.reduceEqDiff, Nat.reduceLT, Nat.reduceAdd, Nat.reduceMul, Nat.reduceSub, Nat.add_zero, Nat.zero_add, Int.reduceEq, Int.reduceLT]; rfl) ?_; clear hK
      refine AWP.ret (?_)
      refine Fin.plain ⟨.inr rfl, rfl⟩ rfl rfl hok (Grew.refl _) ⟨?_, rfl⟩
      have hn0 : n = 0 := by simp at h; omega
      rw [hn0, Nat.sub_zero, hvl, List.take_length, show ls.length = ms.length by omega, List.take_length] at hall
      rw [hall]; simp

theorem take_flat (ls : List (List Int)) {i : Nat} (h : i < ls.length) : (ls.take (i + 1)).flatten = (ls.take i).flatten ++ ls[i] := by
  rw [List.take_succ_eq_append_getElem h, List.flatten_append]; simp

/-- either an answer above 0, or few -/
theorem short23_spec (v : Value) (vs : List Value) (ls : List (List Int)) (M : Mem) (hok : Ok M) (hv : Row_ M v vs.length vs) (hp : Parts M vs ls) (hl : ∀ l, l ∈ ls → l.length ≤ 9223372036854775807) :
    ∃ r M', ACall Tryz.prog 23 #[v] M r M' ∧ ((r = .int .i64 1) ∨ (r = .int .i64 0 ∧ vs.length ≤ 40 ∧ ∀ l, l ∈ ls → l.length ≤ 3000)) ∧ M' = M := by
  refine ACall.fin (args := [v]) (k := 29) Tryz.func23 rfl rfl rfl (Nat.le_of_ble_eq_true rfl) ?_
  have hvl := hp.1
  refine AWP.stepR [0] fun K hK => ?_ -- r0
  simp only [go_sem, Nat.reduceEqDiff, Nat.reduceLT, Nat.reduceAdd, Nat.reduceMul, Nat.reduceSub, Nat.add_zero, Nat.zero_add, Int.reduceEq, Int.reduceLT]
  refine hK _ _ _ (by simp only [go_sem, Nat.reduceEqDiff, Nat.reduceLT, Nat.reduceAdd, Nat.reduceMul, Nat.reduceSub, Nat.add_zero, Nat.zero_add, Int.reduceEq, Int.reduceLT]; rfl) ?_; clear hK
  refine AWP.seq ?_
  refine AWP.stepR [0, 7] fun K hK => ?_ -- r1
  simp only [go_sem, Nat.reduceEqDiff, Nat.reduceLT, Nat.reduceAdd, Nat.reduceMul, Nat.reduceSub, Nat.add_zero, Nat.zero_add, Int.reduceEq, Int.reduceLT, hv.len es_59]
  refine hK _ _ _ (by simp only [go_sem, Nat.reduceEqDiff, Nat.reduceLT, Nat.reduceAdd, Nat.reduceMul, Nat.reduceSub, Nat.add_zero, Nat.zero_add, Int.reduceEq, Int.reduceLT]; rfl) ?_; clear hK
  refine AWP.cond_split rfl (fun h => ?_) fun h => ?_
  · refine AWP.stepR [2] fun K hK => ?_ -- r2
    simp only [go_sem, Nat.reduceEqDiff, Nat.reduceLT, Nat.reduceAdd, Nat.reduceMul, Nat.reduceSub, Nat.add_zero, Nat.zero_add, Int.reduceEq, Int.reduceLT]
    refine hK _ _ _ (by simp only [go_sem, Nat.reduceEqDiff, Nat.reduceLT, Nat.reduceAdd, Nat.reduceMul, Nat.reduceSub, Nat.add_zero, Nat.zero_add, Int.reduceEq, Int.reduceLT]; rfl) ?_; clear hK
    refine AWP.ret (Then.ret (?_))
    exact Fin.plain ⟨.inr rfl, rfl⟩ rfl rfl hok (Grew.refl _) ⟨.inl rfl, rfl⟩
  · have hn40 : vs.length ≤ 40 := by simp at h; omega
    refine AWP.skip ?_
    refine AWP.stepR [0, 3] fun K hK => ?_ -- r3
    simp only [go_sem, Nat.reduceEqDiff, Nat.reduceLT, Nat.reduceAdd, Nat.reduceMul, Nat.reduceSub, Nat.add_zero, Nat.zero_add, Int.reduceEq, Int.reduceLT]
    refine hK _ _ _ (by simp only [go_sem, Nat.reduceEqDiff, Nat.reduceLT, Nat.reduceAdd, Nat.reduceMul, Nat.reduceSub, Nat.add_zero, Nat.zero_add, Int.reduceEq, Int.reduceLT]; rfl) ?_; clear hK
    refine AWP.seq ?_
    refine AWP.stepR [0, 3, 4] fun K hK => ?_ -- r4
    simp only [go_sem, Nat.reduceEqDiff, Nat.reduceLT, Nat.reduceAdd, Nat.reduceMul, Nat.reduceSub, Nat.add_zero, Nat.zero_add, Int.reduceEq, Int.reduceLT]
    refine hK _ _ _ (by simp only [go_sem, Nat.reduceEqDiff, Nat.reduceLT, Nat.reduceAdd, Nat.reduceMul, Nat.reduceSub, Nat.add_zero, Nat.zero_add, Int.reduceEq, Int.reduceLT]; rfl) ?_; clear hK
    refine AWP.block ?_ -- b0
    refine AWP.loopK [0, 3, 4] (fun n e M0 => M0 = M ∧ n ≤ vs.length ∧ ∃ s : Nat, s ≤ 6000 ∧ e = [(0, v), (3, .int .i64 (s : Int)), (4, .int .i64 ((vs.length - n : Nat) : Int))] ∧ ∀ l, l ∈ ls.take (vs.length - n) → l.length ≤ 3000) vs.length ?_ fun n e M0 hI => ?_ -- LOOP
    · simp only [go_sem, Nat.reduceEqDiff, Nat.reduceLT, Nat.reduceAdd, Nat.reduceMul, Nat.reduceSub, Nat.add_zero, Nat.zero_add, Int.reduceEq, Int.reduceLT, true_and, Nat.le_refl]
      exact ⟨0, by omega, by simp, by simp⟩
    obtain ⟨rfl, hn', s, hs, rfl, hall⟩ := hI
    refine AWP.seq ?_
    refine AWP.stepR [0, 3, 4, 11] fun K hK => ?_ -- r5
    simp only [go_sem, Nat.reduceEqDiff, Nat.reduceLT, Nat.reduceAdd, Nat.reduceMul, Nat.reduceSub, Nat.add_zero, Nat.zero_add, Int.reduceEq, Int.reduceLT, hv.len es_59]
    refine hK _ _ _ (by simp only [go_sem, Nat.reduceEqDiff, Nat.reduceLT, Nat.reduceAdd, Nat.reduceMul, Nat.reduceSub, Nat.add_zero, Nat.zero_add, Int.reduceEq, Int.reduceLT]; rfl) ?_; clear hK
    refine AWP.cond_split rfl (fun h => ?_) fun h => ?_
    · have hlt : vs.length - n < vs.length := by simpa using h
      have hlt2 : vs.length - n < ls.length := by omega
      obtain ⟨b, q, ha, hd⟩ := hv.at1 rfl es_59 hlt
      have hd := hd M0 (Grew.refl _)
      rw [List.getElem?_eq_getElem hlt] at hd
      have hx := hp.at hlt hlt2
      have hll := hl _ (List.getElem_mem hlt2)
      have htk := List.take_succ_eq_append_getElem hlt2
      generalize vs[vs.length - n] = x at hd hx
      generalize ls[vs.length - n] = lx at hx hll htk
      refine AWP.skip ?_
      refine AWP.seq ?_
      refine AWP.block ?_ -- b1
      refine AWP.seq ?_
      refine AWP.stepR [0, 3, 4, 19] fun K hK => ?_ -- r7
      simp only [go_sem, Nat.reduceEqDiff, Nat.reduceLT, Nat.reduceAdd, Nat.reduceMul, Nat.reduceSub, Nat.add_zero, Nat.zero_add, Int.reduceEq, Int.reduceLT, ha, hd, ld_42, hx.len es_42]
      refine hK _ _ _ (by simp only [go_sem, Nat.reduceEqDiff, Nat.reduceLT, Nat.reduceAdd, Nat.reduceMul, Nat.reduceSub, Nat.add_zero, Nat.zero_add, Int.reduceEq, Int.reduceLT]; rfl) ?_; clear hK
      refine AWP.cond_split rfl (fun h19 => ?_) fun h19 => ?_
      · refine AWP.stepR [2] fun K hK => ?_ -- r8
        simp only [go_sem, Nat.reduceEqDiff, Nat.reduceLT, Nat.reduceAdd, Nat.reduceMul, Nat.reduceSub, Nat.add_zero, Nat.zero_add, Int.reduceEq, Int.reduceLT]
        refine hK _ _ _ (by simp only [go_sem, Nat.reduceEqDiff, Nat.reduceLT, Nat.reduceAdd, Nat.reduceMul, Nat.reduceSub, Nat.add_zero, Nat.zero_add, Int.reduceEq, Int.reduceLT]; rfl) ?_; clear hK
        refine AWP.ret (Then.ret (InBlock.ret (Then.ret (Then.ret (InBlock.ret (Then.ret ?_))))))
        exact Fin.plain ⟨.inr rfl, rfl⟩ rfl rfl hok (Grew.refl _) ⟨.inl rfl, rfl⟩
      · have hx3 : lx.length ≤ 3000 := by simp at h19; omega
        refine AWP.skip ?_
        refine AWP.stepR [0, 3, 4] fun K hK => ?_ -- r9
        simp only [go_sem, Nat.reduceEqDiff, Nat.reduceLT, Nat.reduceAdd, Nat.reduceMul, Nat.reduceSub, Nat.add_zero, Nat.zero_add, Int.reduceEq, Int.reduceLT, ha, hd, ld_42, hx.len es_42]
        refine hK _ _ _ (by simp only [go_sem, Nat.reduceEqDiff, Nat.reduceLT, Nat.reduceAdd, Nat.reduceMul, Nat.reduceSub, Nat.add_zero, Nat.zero_add, Int.reduceEq, Int.reduceLT]; rfl) ?_; clear hK
        rw [i64w (n := (s : Int) + (lx.length : Int)) (by omega) (by omega), show (s : Int) + (lx.length : Int) = ((s + lx.length : Nat) : Int) by omega]
        refine AWP.stepR [0, 3, 4, 28] fun K hK => ?_ -- r10
        simp only [go_sem, Nat.reduceEqDiff, Nat.reduceLT, Nat.reduceAdd, Nat.reduceMul, Nat.reduceSub, Nat.add_zero, Nat.zero_add, Int.reduceEq, Int.reduceLT]
        refine hK _ _ _ (by simp only [go_sem, Nat.reduceEqDiff, Nat.reduceLT, Nat.reduceAdd, Nat.reduceMul, Nat.reduceSub, Nat.add_zero, Nat.zero_add, Int.reduceEq, Int.reduceLT]; rfl) ?_; clear hK
        refine AWP.cond_split rfl (fun h28 => ?_) fun h28 => ?_
        · refine AWP.stepR [2] fun K hK => ?_ -- r11
          simp only [go_sem, Nat.reduceEqDiff, Nat.reduceLT, Nat.reduceAdd, Nat.reduceMul, Nat.reduceSub, Nat.add_zero, Nat.zero_add, Int.reduceEq, Int.reduceLT]
          refine hK _ _ _ (by simp only [go_sem, Nat.reduceEqDiff, Nat.reduceLT, Nat.reduceAdd, Nat.reduceMul, Nat.reduceSub, Nat.add_zero, Nat.zero_add, Int.reduceEq, Int.reduceLT]; rfl) ?_; clear hK
          refine AWP.ret (InBlock.ret (Then.ret (Then.ret (InBlock.ret (Then.ret ?_)))))
          exact Fin.plain ⟨.inr rfl, rfl⟩ rfl rfl hok (Grew.refl _) ⟨.inl rfl, rfl⟩
        · refine AWP.skip ?_
          refine AWP.lastR fun K hK => ?_ -- r6
          simp only [go_sem, Nat.reduceEqDiff, Nat.reduceLT, Nat.reduceAdd, Nat.reduceMul, Nat.reduceSub, Nat.add_zero, Nat.zero_add, Int.reduceEq, Int.reduceLT]
          refine hK _ _ ?_; clear hK
          refine ⟨rfl, n - 1, by omega, rfl, by omega, s + lx.length, by simp at h28; omega, ?_, ?_⟩ -- ROUND
          · simp only [go_sem, Nat.reduceEqDiff, Nat.reduceLT, Nat.reduceAdd, Nat.reduceMul, Nat.reduceSub, Nat.add_zero, Nat.zero_add, Int.reduceEq, Int.reduceLT]
            rw [i64w (by omega) (by omega), show ((vs.length - n : Nat) : Int) + 1 = ((vs.length - (n - 1) : Nat) : Int) by omega]
          · rw [show vs.length - (n - 1) = vs.length - n + 1 by omega, htk]
            intro l hl'
            rcases List.mem_append.1 hl' with h1 | h1
            · exact hall l h1
            · rw [List.mem_singleton.1 h1]; exact hx3
    · refine AWP.exit (Then.exit (Then.exit (InBlock.same ?_))) -- x0
      refine AWP.stepR [2] fun K hK => ?_ -- r12
      simp only [go_sem, Nat.reduceEqDiff, Nat.reduceLT, Nat.reduceAdd, Nat.reduceMul, Nat.reduceSub, Nat.add_zero, Nat.zero_add, Int.reduceEq, Int.reduceLT]
      refine hK _ _ _ (by simp only [go_sem, Nat.reduceEqDiff, Nat.reduceLT, Nat.reduceAdd, Nat.reduceMul, Nat.reduceSub, Nat.add_zero, Nat.zero_add, Int.reduceEq, Int.reduceLT]; rfl) ?_; clear hK
      refine AWP.ret (?_)
      have hn0 : n = 0 := by simp at h; omega
      rw [hn0, Nat.sub_zero, hvl, List.take_length] at hall
      exact Fin.plain ⟨.inr rfl, rfl⟩ rfl rfl hok (Grew.refl _) ⟨.inr ⟨rfl, hn40, hall⟩, rfl⟩
end Go.Proofs.YtopblipficpilaaGreatDoor.AY

/- Rows that lie in blocks of their elements' type; parts of them. -/
namespace Go.Proofs.YtopblipficpilaaGreatDoor.AY
open Go Go.Proofs
set_option linter.unusedVariables false
set_option linter.unusedSimpArgs false

/-- a row that lies in a block of its elements' type -/
def RowE (M : Mem) (v : Value) (n : Nat) (cells : List Value) (e : TypeId) : Prop := ∃ b o c blk, v = .slice (some ⟨b, o, none⟩) n c ∧ (c = unk ∨ n ≤ c) ∧ Has M b blk ∧ blk.elem = e ∧ o + cells.length ≤ blk.cells.length ∧ (blk.cells.drop o).take cells.length = cells
theorem RowE.row {M : Mem} {v : Value} {n : Nat} {cells : List Value} {e : TypeId} (h : RowE M v n cells e) : Row_ M v n cells := by
  obtain ⟨b, o, c, blk, h1, _, h2, _, h4, h5⟩ := h
  exact .inr ⟨b, o, c, blk, h1, h2, h4, h5⟩
theorem RowE.grew {M M1 : Mem} {v : Value} {n : Nat} {cells : List Value} {e : TypeId} (h : RowE M v n cells e) (hg : Grew M M1) : RowE M1 v n cells e := by
  obtain ⟨b, o, c, blk, h1, h0, h2, h3⟩ := h
  exact ⟨b, o, c, blk, h1, h0, h2.grew hg, h3⟩
theorem RowE.slice {P : Program} {t e sz : Nat} {i : TypeInfo} (ht : P.underlying t = some (.slice e)) (hi : P.info? e = some i) (hs : i.size = sz) {M : Mem} {v : Value} {n : Nat} {cells : List Value} (h : RowE M v n cells e) (hl : cells.length = n * sz) {lo hi_ : Nat} (h1 : lo ≤ hi_) (h2 : hi_ ≤ n) :
    ∃ v', (∀ M1, Grew M M1 → sliceV P M1.get t v (some (.int .i64 lo)) (some (.int .i64 hi_)) none = some v' ∧ (lo = 0 → sliceV P M1.get t v none (some (.int .i64 hi_)) none = some v') ∧ (hi_ = n → sliceV P M1.get t v (some (.int .i64 lo)) none none = some v')) ∧ RowE M v' (hi_ - lo) ((cells.drop (lo * sz)).take ((hi_ - lo) * sz)) e := by
  obtain ⟨b, o, c, blk, rfl, hcn, hb, he, h4, h5⟩ := h
  subst hs
  have hcs : P.cellsOf blk.elem = i.size := by rw [he]; exact cellsOf_eq hi
  have hlo : lo * i.size ≤ hi_ * i.size := Nat.mul_le_mul_right _ h1
  have hhi : hi_ * i.size ≤ n * i.size := Nat.mul_le_mul_right _ h2
  have hsub : (hi_ - lo) * i.size = hi_ * i.size - lo * i.size := Nat.sub_mul _ _ _
  refine ⟨.slice (some ⟨b, o + lo * i.size, none⟩) (hi_ - lo) (if c = unk then unk else c - lo), fun M1 hg => ?_, b, o + lo * i.size, _, blk, rfl, by split <;> omega, hb, he, ?_, ?_⟩
  · have hget := (rowsOf_some (hb.grew hg).1).1
    have hb1 : boundV (some (.int .i64 hi_)) n (if c = unk then n else c) = some hi_ := by
      simp only [boundV]
      rw [if_pos ⟨by omega, by split <;> omega⟩]; simp
    have hb2 : ∀ y, lo ≤ y → boundV (some (.int .i64 lo)) 0 y = some lo := fun y hy => by
      simp only [boundV]
      rw [if_pos ⟨by omega, by omega⟩]; simp
    refine ⟨?_, fun h0 => ?_, fun h0 => ?_⟩
    · simp only [sliceV, ht, hget, hi, hcs, Option.isSome_none, Option.isNone_none, Bool.false_eq_true, false_and, not_false_eq_true, and_self, if_true, true_and]
      rw [show boundV none (if c = unk then n else c) (if c = unk then n else c) = some (if c = unk then n else c) from rfl]
      simp only [hb1, hb2 hi_ h1]
      congr 1
      split <;> simp_all
    · subst h0
      simp only [sliceV, ht, hget, hi, hcs, Option.isSome_none, Option.isNone_none, Bool.false_eq_true, false_and, not_false_eq_true, and_self, if_true, true_and]
      rw [show boundV none (if c = unk then n else c) (if c = unk then n else c) = some (if c = unk then n else c) from rfl]
      simp only [hb1, show boundV none 0 hi_ = some 0 from rfl]
      congr 1
      split <;> simp_all
    · subst h0
      simp only [sliceV, ht, hget, hi, hcs, Option.isSome_none, Option.isNone_none, Bool.false_eq_true, false_and, not_false_eq_true, and_self, if_true, true_and]
      rw [show boundV none (if c = unk then hi_ else c) (if c = unk then hi_ else c) = some (if c = unk then hi_ else c) from rfl]
      simp only [show ∀ y, boundV none hi_ y = some hi_ from fun _ => rfl, hb2 hi_ h1]
      congr 1
      split <;> simp_all
  · rw [List.length_take, List.length_drop]; omega
  · rw [List.length_take, List.length_drop, hl, hsub, Nat.min_eq_left (by omega)]
    conv => rhs; rw [← h5, hl]
    rw [List.drop_take, List.take_take, List.drop_drop, Nat.min_eq_left (by omega)]
/-- the first ones, with no room behind them -/
theorem RowE.first {P : Program} {t e sz : Nat} {i : TypeInfo} (ht : P.underlying t = some (.slice e)) (hi : P.info? e = some i) (hs : i.size = sz) {M : Mem} {v : Value} {n : Nat} {cells : List Value} (h : RowE M v n cells e) (hl : cells.length = n * sz) {k : Nat} (hk : k ≤ n) :
    ∃ v', (∀ M1, Grew M M1 → sliceV P M1.get t v none (some (.int .i64 k)) (some (.int .i64 k)) = some v') ∧ RowE M v' k (cells.take (k * sz)) e := by
  obtain ⟨b, o, c, blk, rfl, hcn, hb, he, h4, h5⟩ := h
  subst hs
  have hcs : P.cellsOf blk.elem = i.size := by rw [he]; exact cellsOf_eq hi
  have hki : k * i.size ≤ n * i.size := Nat.mul_le_mul_right _ hk
  refine ⟨.slice (some ⟨b, o, none⟩) k k, fun M1 hg => ?_, b, o, k, blk, rfl, .inr (Nat.le_refl _), hb, he, ?_, ?_⟩
  · have hget := (rowsOf_some (hb.grew hg).1).1
    have hb1 : boundV (some (.int .i64 k)) (if c = unk then n else c) (if c = unk then n else c) = some k := by
      simp only [boundV]
      rw [if_pos ⟨by omega, by split <;> omega⟩]; simp
    have hb2 : boundV (some (.int .i64 k)) n k = some k := by
      simp only [boundV]
      rw [if_pos ⟨by omega, by omega⟩]; simp
    simp only [sliceV, ht, hget, hi, hcs, Option.isSome_some, Option.isNone_some, Bool.false_eq_true, and_false, not_false_eq_true, and_self, if_true, hb1, hb2, show boundV none 0 k = some 0 from rfl]
    simp
  · rw [List.length_take]; omega
  · rw [List.length_take, hl, Nat.min_eq_left hki]
    conv => rhs; rw [← h5, hl]
    rw [List.take_take, Nat.min_eq_left hki]
end Go.Proofs.YtopblipficpilaaGreatDoor.AY

/- Numbers as bytes; bytes one behind the other. -/
namespace Go.Proofs.YtopblipficpilaaGreatDoor.AY
open Go Go.Proofs
set_option maxRecDepth 100000
set_option linter.unusedVariables false
set_option linter.unusedSimpArgs false


/-- a number in so many bytes, the highest first -/
def putB (n : Int) : Nat → List Int
  | 0 => []
  | s + 1 => putB (n / 256) s ++ [n % 256]
theorem putB_length (n : Int) (s : Nat) : (putB n s).length = s := by
  induction s generalizing n with
  | zero => rfl
  | succ s ih => simp [putB, ih]

theorem put57_spec (s : Nat) : ∀ (n : Int) (M : Mem) (hok : Ok M) (hn : 0 ≤ n ∧ n ≤ 18446744073709551615) (hs : s ≤ 1000), ∃ r M', ACall Tryz.prog 57 #[.int .u64 n, .int .i64 s] M r M' ∧ Grew M M' ∧ OwnB M M' r (putB n s) 5 := by
  induction s with
  | zero =>
    intro n M hok hn hs
    refine ACall.fin (args := [.int .u64 n, .int .i64 ((0 : Nat) : Int)]) (k := 17) Tryz.func57 rfl rfl rfl (Nat.le_of_ble_eq_true rfl) ?_
    refine AWP.stepR [0, 1] fun K hK => ?_ -- r0
    simp only [go_sem, Nat.reduceEqDiff, Nat.reduceLT, Nat.reduceAdd, Nat.reduceMul, Nat.reduceSub, Nat.add_zero, Nat.zero_add, Int.reduceEq, Int.reduceLT]
    refine hK _ _ _ (by simp only [go_sem, Nat.reduceEqDiff, Nat.reduceLT, Nat.reduceAdd, Nat.reduceMul, Nat.reduceSub, Nat.add_zero, Nat.zero_add, Int.reduceEq, Int.reduceLT]; rfl) ?_; clear hK
    refine AWP.seq ?_
    refine AWP.stepR [0, 1, 6] fun K hK => ?_ -- r1
    simp only [go_sem, Nat.reduceEqDiff, Nat.reduceLT, Nat.reduceAdd, Nat.reduceMul, Nat.reduceSub, Nat.add_zero, Nat.zero_add, Int.reduceEq, Int.reduceLT]
    refine hK _ _ _ (by simp only [go_sem, Nat.reduceEqDiff, Nat.reduceLT, Nat.reduceAdd, Nat.reduceMul, Nat.reduceSub, Nat.add_zero, Nat.zero_add, Int.reduceEq, Int.reduceLT]; rfl) ?_; clear hK
    refine AWP.cond_split rfl (fun h6 => ?_) fun h6 => ?_
    · refine AWP.stepR [4] fun K hK => ?_ -- r2
      simp only [go_sem, Nat.reduceEqDiff, Nat.reduceLT, Nat.reduceAdd, Nat.reduceMul, Nat.reduceSub, Nat.add_zero, Nat.zero_add, Int.reduceEq, Int.reduceLT]
      refine hK _ _ _ (by simp only [go_sem, Nat.reduceEqDiff, Nat.reduceLT, Nat.reduceAdd, Nat.reduceMul, Nat.reduceSub, Nat.add_zero, Nat.zero_add, Int.reduceEq, Int.reduceLT]; rfl) ?_; clear hK
      refine AWP.ret (Then.ret (?_))
      exact Fin.plain ⟨.inr rfl, rfl⟩ rfl rfl hok (Grew.refl _) ⟨Grew.refl _, Own.nil _ _ _⟩
    · simp at h6
  | succ s ih =>
    intro n M hok hn hs
    refine ACall.fin (args := [.int .u64 n, .int .i64 ((s + 1 : Nat) : Int)]) (k := 17) Tryz.func57 rfl rfl rfl (Nat.le_of_ble_eq_true rfl) ?_
    refine AWP.stepR [0, 1] fun K hK => ?_ -- r0
    simp only [go_sem, Nat.reduceEqDiff, Nat.reduceLT, Nat.reduceAdd, Nat.reduceMul, Nat.reduceSub, Nat.add_zero, Nat.zero_add, Int.reduceEq, Int.reduceLT]
    refine hK _ _ _ (by simp only [go_sem, Nat.reduceEqDiff, Nat.reduceLT, Nat.reduceAdd, Nat.reduceMul, Nat.reduceSub, Nat.add_zero, Nat.zero_add, Int.reduceEq, Int.reduceLT]; rfl) ?_; clear hK
    refine AWP.seq ?_
    refine AWP.stepR [0, 1, 6] fun K hK => ?_ -- r1
    simp only [go_sem, Nat.reduceEqDiff, Nat.reduceLT, Nat.reduceAdd, Nat.reduceMul, Nat.reduceSub, Nat.add_zero, Nat.zero_add, Int.reduceEq, Int.reduceLT]
    refine hK _ _ _ (by simp only [go_sem, Nat.reduceEqDiff, Nat.reduceLT, Nat.reduceAdd, Nat.reduceMul, Nat.reduceSub, Nat.add_zero, Nat.zero_add, Int.reduceEq, Int.reduceLT]; rfl) ?_; clear hK
    refine AWP.cond_split rfl (fun h6 => ?_) fun h6 => ?_
    · simp at h6; omega
    · refine AWP.skip ?_
      refine AWP.stepR [4] fun K hK => ?_ -- r3
      have hq : 0 ≤ n / 256 ∧ n / 256 ≤ 18446744073709551615 := by omega
      obtain ⟨r1, M1, hc, hg, hown⟩ := ih (n / 256) (M.bump 1) (((Grew.refl M).bump 1).ok hok) hq (by omega)
      simp only [go_sem, Nat.reduceEqDiff, Nat.reduceLT, Nat.reduceAdd, Nat.reduceMul, Nat.reduceSub, Nat.add_zero, Nat.zero_add, Int.reduceEq, Int.reduceLT]
      rw [IntWalk.u64_quo n 256 ⟨hn.1, hn.2, by omega⟩, i64w (by omega) (by omega), show ((s + 1 : Nat) : Int) - 1 = s by omega]
      refine ⟨r1, M1, hc, ?_⟩
      have hw : IntKind.u8.wrap (n.tmod 256) = n % 256 := by rw [Int.tmod_eq_emod_of_nonneg hn.1]; exact IntWalk.u8_in _ (by omega)
      rw [hw]
      have hlt : M.next < M1.next := by have := hg.next; simp only [Mem.next_bump] at this; omega
      have hg1 : Grew M (M1.put M.next ⟨[.int .u8 (n % 256)], 5, true⟩) := (((Grew.refl M).bump 1).trans hg).put (Nat.le_refl _) hlt _
      have hx := (Has.put hlt ⟨[.int .u8 (n % 256)], 5, true⟩).content 1 1 1 rfl
      have ho1 : OwnB M (M1.put M.next ⟨[.int .u8 (n % 256)], 5, true⟩) r1 (putB (n / 256) s) 5 := (hown.put (by rw [Mem.next_bump]; omega) _).base (by rw [Mem.next_bump]; omega)
      obtain ⟨v2, M2, happ, hown2, hg2, hnx, hfr⟩ := Own.append ap_42_42 hg1 ho1 (by simp [cB]) hx rfl (by rw [putB_length]; omega)
      simp only [happ, go_sem, Nat.reduceEqDiff, Nat.reduceLT, Nat.reduceAdd, Nat.reduceMul, Nat.reduceSub, Nat.add_zero, Nat.zero_add, Int.reduceEq, Int.reduceLT]
      refine hK _ _ _ (by simp only [go_sem, Nat.reduceEqDiff, Nat.reduceLT, Nat.reduceAdd, Nat.reduceMul, Nat.reduceSub, Nat.add_zero, Nat.zero_add, Int.reduceEq, Int.reduceLT]; rfl) ?_; clear hK
      refine AWP.ret (?_)
      have he : cB (putB (n / 256) s) ++ [.int .u8 (n % 256)] = cB (putB n (s + 1)) := by simp [cB, putB]
      rw [he, show (putB (n / 256) s).length + 1 = (putB n (s + 1)).length by simp [putB]] at hown2
      refine Fin.own (fun v => v) ⟨.inr rfl, rfl⟩ rfl hok hg2 hown2 (cB_plain _) (fun _ _ _ _ h => h) fun r M' hg' hr' ho' => ⟨hg', ho' (by rw [putB_length]; omega)⟩

theorem shr_at (n : Int) (j : Nat) (hn : 0 ≤ n) (hj : j ≤ 7) : IntKind.u8.wrap (n.fdiv (2 ^ (min (((8 : Int) * (j : Int)).toNat) 64))) = n / 256 ^ j % 256 := by
  have h1 : ((8 : Int) * (j : Int)).toNat = 8 * j := by omega
  have h2 : min (8 * j) 64 = 8 * j := Nat.min_eq_left (by omega)
  rw [h1, h2, Int.fdiv_eq_ediv_of_nonneg _ (Int.pow_nonneg (by decide)), show (2 : Int) ^ (8 * j) = 256 ^ j by rw [Int.pow_mul]; rfl]
  rw [IntKind.wrap_u8]
theorem put56_spec (s : Nat) (n : Int) (M : Mem) (hok : Ok M) (hn : 0 ≤ n ∧ n ≤ 18446744073709551615) (hs : s ≤ 8) (h0 : s ≠ 0) : ∃ r M', ACall Tryz.prog 56 #[.int .u64 n, .int .i64 s] M r M' ∧ Grew M M' ∧ OwnB M M' r (putB n s) 5 := by
  refine ACall.fin (args := [.int .u64 n, .int .i64 s]) (k := 27) Tryz.func56 rfl rfl rfl (Nat.le_of_ble_eq_true rfl) ?_
  refine AWP.stepR [0, 1] fun K hK => ?_ -- r0
  simp only [go_sem, Nat.reduceEqDiff, Nat.reduceLT, Nat.reduceAdd, Nat.reduceMul, Nat.reduceSub, Nat.add_zero, Nat.zero_add, Int.reduceEq, Int.reduceLT]
  refine hK _ _ _ (by simp only [go_sem, Nat.reduceEqDiff, Nat.reduceLT, Nat.reduceAdd, Nat.reduceMul, Nat.reduceSub, Nat.add_zero, Nat.zero_add, Int.reduceEq, Int.reduceLT]; rfl) ?_; clear hK
  refine AWP.stepR [0, 1, 5] fun K hK => ?_ -- r1
  simp only [go_sem, Nat.reduceEqDiff, Nat.reduceLT, Nat.reduceAdd, Nat.reduceMul, Nat.reduceSub, Nat.add_zero, Nat.zero_add, Int.reduceEq, Int.reduceLT]
  refine hK _ _ _ (by simp only [go_sem, Nat.reduceEqDiff, Nat.reduceLT, Nat.reduceAdd, Nat.reduceMul, Nat.reduceSub, Nat.add_zero, Nat.zero_add, Int.reduceEq, Int.reduceLT]; rfl) ?_; clear hK
  refine AWP.seq ?_
  refine AWP.stepR [0, 5, 6] fun K hK => ?_ -- r2
  simp only [go_sem, Nat.reduceEqDiff, Nat.reduceLT, Nat.reduceAdd, Nat.reduceMul, Nat.reduceSub, Nat.add_zero, Nat.zero_add, Int.reduceEq, Int.reduceLT]
  rw [i64w (by omega) (by omega)]
  refine hK _ _ _ (by simp only [go_sem, Nat.reduceEqDiff, Nat.reduceLT, Nat.reduceAdd, Nat.reduceMul, Nat.reduceSub, Nat.add_zero, Nat.zero_add, Int.reduceEq, Int.reduceLT]; rfl) ?_; clear hK
  refine AWP.block ?_ -- b0
  refine AWP.loopK [0, 5, 6] (fun j e M0 => j ≤ s ∧ Grew M M0 ∧ ∃ bv, e = [(0, .int .u64 n), (5, bv), (6, .int .i64 ((j : Int) - 1))] ∧ OwnB M M0 bv (putB (n / 256 ^ j) (s - j)) 5) s ?_ fun j e M0 hI => ?_ -- LOOP
  · simp only [go_sem, Nat.reduceEqDiff, Nat.reduceLT, Nat.reduceAdd, Nat.reduceMul, Nat.reduceSub, Nat.add_zero, Nat.zero_add, Int.reduceEq, Int.reduceLT]
    exact ⟨Nat.le_refl _, Grew.refl _, _, rfl, by rw [Nat.sub_self]; exact Own.nil _ _ _⟩
  obtain ⟨hj, hg, bv, rfl, hown⟩ := hI
  refine AWP.seq ?_
  refine AWP.stepR [0, 5, 6, 10] fun K hK => ?_ -- r3
  simp only [go_sem, Nat.reduceEqDiff, Nat.reduceLT, Nat.reduceAdd, Nat.reduceMul, Nat.reduceSub, Nat.add_zero, Nat.zero_add, Int.reduceEq, Int.reduceLT]
  refine hK _ _ _ (by simp only [go_sem, Nat.reduceEqDiff, Nat.reduceLT, Nat.reduceAdd, Nat.reduceMul, Nat.reduceSub, Nat.add_zero, Nat.zero_add, Int.reduceEq, Int.reduceLT]; rfl) ?_; clear hK
  refine AWP.cond_split rfl (fun h10 => ?_) fun h10 => ?_
  · obtain ⟨i, rfl⟩ : ∃ i, j = i + 1 := ⟨j - 1, by simp at h10; omega⟩
    rw [show ((i + 1 : Nat) : Int) - 1 = i by omega] at *
    refine AWP.skip ?_
    refine AWP.seq ?_
    refine AWP.block ?_ -- b1
    refine AWP.seq ?_
    refine AWP.stepR [0, 5, 6, 14] fun K hK => ?_ -- r5
    simp only [go_sem, Nat.reduceEqDiff, Nat.reduceLT, Nat.reduceAdd, Nat.reduceMul, Nat.reduceSub, Nat.add_zero, Nat.zero_add, Int.reduceEq, Int.reduceLT]
    refine hK _ _ _ (by simp only [go_sem, Nat.reduceEqDiff, Nat.reduceLT, Nat.reduceAdd, Nat.reduceMul, Nat.reduceSub, Nat.add_zero, Nat.zero_add, Int.reduceEq, Int.reduceLT]; rfl) ?_; clear hK
    refine AWP.cond_split rfl (fun h14 => ?_) fun h14 => ?_
    · simp at h14; omega
    · refine AWP.skip ?_
      refine AWP.lastR fun K hK => ?_ -- r7
      have hw8 : IntKind.i64.wrap (8 * (i : Int)) = 8 * (i : Int) := i64w (by omega) (by omega)
      have h8 : ((8 * (i : Int)) < 0) = False := by simp; omega
      simp only [go_sem, Nat.reduceEqDiff, Nat.reduceLT, Nat.reduceAdd, Nat.reduceMul, Nat.reduceSub, Nat.add_zero, Nat.zero_add, Int.reduceEq, Int.reduceLT, hw8, h8, shr_at n i hn.1 (by omega)]
      have hlt : M0.next < (M0.bump 1).next := Nat.lt_succ_self _
      have hg1 : Grew M ((M0.bump 1).put M0.next ⟨[.int .u8 (n / 256 ^ i % 256)], 5, true⟩) := (hg.bump 1).put hg.next hlt _
      have ho1 : OwnB M ((M0.bump 1).put M0.next ⟨[.int .u8 (n / 256 ^ i % 256)], 5, true⟩) bv (putB (n / 256 ^ (i + 1)) (s - (i + 1))) 5 := hown.grew (((Grew.refl M0).bump 1).put (Nat.le_refl _) hlt _)
      obtain ⟨v2, M2, happ, hown2, hg2, hnx, hfr⟩ := Own.append ap_42_42 hg1 ho1 (by simp [cB]) ((Has.put hlt ⟨[.int .u8 (n / 256 ^ i % 256)], 5, true⟩).content 1 1 1 rfl) rfl (by rw [putB_length]; omega)
      simp only [happ, go_sem, Nat.reduceEqDiff, Nat.reduceLT, Nat.reduceAdd, Nat.reduceMul, Nat.reduceSub, Nat.add_zero, Nat.zero_add, Int.reduceEq, Int.reduceLT]
      refine hK _ _ ?_; clear hK
      have he : cB (putB (n / 256 ^ (i + 1)) (s - (i + 1))) ++ [.int .u8 (n / 256 ^ i % 256)] = cB (putB (n / 256 ^ i) (s - i)) := by
        rw [show s - i = s - (i + 1) + 1 by omega, putB, Int.pow_succ, ← Int.ediv_ediv_of_nonneg (Int.pow_nonneg (by decide)), cB_append]; rfl
      rw [he, show (putB (n / 256 ^ (i + 1)) (s - (i + 1))).length + 1 = (putB (n / 256 ^ i) (s - i)).length by rw [putB_length, putB_length]; omega] at hown2
      refine AWP.lastR fun K hK => ?_ -- r4
      simp only [go_sem, Nat.reduceEqDiff, Nat.reduceLT, Nat.reduceAdd, Nat.reduceMul, Nat.reduceSub, Nat.add_zero, Nat.zero_add, Int.reduceEq, Int.reduceLT]
      rw [i64w (by omega) (by omega)]
      refine hK _ _ ?_; clear hK
      exact ⟨rfl, i, Nat.lt_succ_self _, by omega, hg2, v2, by simp only [go_sem, Nat.reduceEqDiff, Nat.reduceLT, Nat.reduceAdd, Nat.reduceMul, Nat.reduceSub, Nat.add_zero, Nat.zero_add, Int.reduceEq, Int.reduceLT], hown2⟩
  · refine AWP.exit (Then.exit (Then.exit (InBlock.same ?_))) -- x0
    refine AWP.stepR [4] fun K hK => ?_ -- r8
    simp only [go_sem, Nat.reduceEqDiff, Nat.reduceLT, Nat.reduceAdd, Nat.reduceMul, Nat.reduceSub, Nat.add_zero, Nat.zero_add, Int.reduceEq, Int.reduceLT]
    refine hK _ _ _ (by simp only [go_sem, Nat.reduceEqDiff, Nat.reduceLT, Nat.reduceAdd, Nat.reduceMul, Nat.reduceSub, Nat.add_zero, Nat.zero_add, Int.reduceEq, Int.reduceLT]; rfl) ?_; clear hK
    refine AWP.ret (?_)
    have hj0 : j = 0 := by simp at h10; omega
    subst hj0
    rw [Int.pow_zero, Int.ediv_one, Nat.sub_zero] at hown
    exact Fin.own (fun v => v) ⟨.inr rfl, rfl⟩ rfl hok hg hown (cB_plain _) (fun _ _ _ _ h => h) fun r M' hg' hr' ho' => ⟨hg', ho' (by rw [putB_length]; exact h0)⟩
theorem Parts.nil (M : Mem) : Parts M [] [] := ⟨rfl, fun i v l h => by simp at h⟩
theorem Parts.cons {M : Mem} {v : Value} {l : List Int} {vs : List Value} {ls : List (List Int)} (h : RowB M v l) (h' : Parts M vs ls) : Parts M (v :: vs) (l :: ls) := by
  refine ⟨by simp [h'.1], fun i v' l' h1 h2 => ?_⟩
  cases i with
  | zero => simp at h1 h2; subst h1 h2; exact h
  | succ i => simp at h1 h2; exact h'.2 i v' l' h1 h2
theorem flat_le (ls : List (List Int)) (i : Nat) : (ls.take i).flatten.length ≤ ls.flatten.length := by
  have := congrArg (fun l => l.flatten.length) (List.take_append_drop i ls)
  simp only [List.flatten_append, List.length_append] at this
  omega

theorem join55_spec (v : Value) (vs : List Value) (ls : List (List Int)) (M : Mem) (hok : Ok M) (hv : Row_ M v vs.length vs) (hp : Parts M vs ls) (hl : ls.flatten.length ≤ 1099511627776) (hn : vs.length ≤ 1099511627776) (hne : ls.flatten ≠ []) :
    ∃ r M', ACall Tryz.prog 55 #[v] M r M' ∧ Grew M M' ∧ OwnB M M' r ls.flatten 5 := by
  refine ACall.fin (args := [v]) (k := 33) Tryz.func55 rfl rfl rfl (Nat.le_of_ble_eq_true rfl) ?_
  refine AWP.stepR [0] fun K hK => ?_ -- r0
  simp only [go_sem, Nat.reduceEqDiff, Nat.reduceLT, Nat.reduceAdd, Nat.reduceMul, Nat.reduceSub, Nat.add_zero, Nat.zero_add, Int.reduceEq, Int.reduceLT]
  refine hK _ _ _ (by simp only [go_sem, Nat.reduceEqDiff, Nat.reduceLT, Nat.reduceAdd, Nat.reduceMul, Nat.reduceSub, Nat.add_zero, Nat.zero_add, Int.reduceEq, Int.reduceLT]; rfl) ?_; clear hK
  refine AWP.stepR [0, 3] fun K hK => ?_ -- r1
  simp only [go_sem, Nat.reduceEqDiff, Nat.reduceLT, Nat.reduceAdd, Nat.reduceMul, Nat.reduceSub, Nat.add_zero, Nat.zero_add, Int.reduceEq, Int.reduceLT]
  refine hK _ _ _ (by simp only [go_sem, Nat.reduceEqDiff, Nat.reduceLT, Nat.reduceAdd, Nat.reduceMul, Nat.reduceSub, Nat.add_zero, Nat.zero_add, Int.reduceEq, Int.reduceLT]; rfl) ?_; clear hK
  refine AWP.seq ?_
  refine AWP.stepR [0, 3, 9, 10, 11] fun K hK => ?_ -- r2
  simp only [go_sem, Nat.reduceEqDiff, Nat.reduceLT, Nat.reduceAdd, Nat.reduceMul, Nat.reduceSub, Nat.add_zero, Nat.zero_add, Int.reduceEq, Int.reduceLT, hv.len es_59]
  refine hK _ _ _ (by simp only [go_sem, Nat.reduceEqDiff, Nat.reduceLT, Nat.reduceAdd, Nat.reduceMul, Nat.reduceSub, Nat.add_zero, Nat.zero_add, Int.reduceEq, Int.reduceLT]; rfl) ?_; clear hK
  refine AWP.block ?_ -- b0
  refine AWP.loopK [0, 3, 9, 10, 11] (fun n e M0 => M0 = M ∧ n ≤ vs.length ∧ e = [(0, v), (3, .int .i64 ((ls.take (vs.length - n)).flatten.length : Nat)), (9, v), (10, .int .i64 vs.length), (11, .int .i64 ((vs.length - n : Nat) : Int))]) vs.length ?_ fun n e M0 hI => ?_ -- LOOP
  · simp only [go_sem, Nat.reduceEqDiff, Nat.reduceLT, Nat.reduceAdd, Nat.reduceMul, Nat.reduceSub, Nat.add_zero, Nat.zero_add, Int.reduceEq, Int.reduceLT, Nat.le_refl]
    simp
  obtain ⟨rfl, hn', rfl⟩ := hI
  refine AWP.stepR [0, 3, 9, 10, 11, 12] fun K hK => ?_ -- r3
  simp only [go_sem, Nat.reduceEqDiff, Nat.reduceLT, Nat.reduceAdd, Nat.reduceMul, Nat.reduceSub, Nat.add_zero, Nat.zero_add, Int.reduceEq, Int.reduceLT]
  refine hK _ _ _ (by simp only [go_sem, Nat.reduceEqDiff, Nat.reduceLT, Nat.reduceAdd, Nat.reduceMul, Nat.reduceSub, Nat.add_zero, Nat.zero_add, Int.reduceEq, Int.reduceLT]; rfl) ?_; clear hK
  refine AWP.condS rfl (fun h12 => ?_) fun h12 => ?_
  · have hlt : vs.length - n < vs.length := by simpa using h12
    have hlt' : vs.length - n < ls.length := by rw [← hp.1]; exact hlt
    obtain ⟨b, q, ha, hd⟩ := hv.at1 rfl es_59 hlt
    have hd := hd M0 (Grew.refl _)
    rw [List.getElem?_eq_getElem hlt] at hd
    have hx := hp.2 _ _ _ (List.getElem?_eq_getElem hlt) (List.getElem?_eq_getElem hlt')
    generalize vs[vs.length - n] = x at hd hx
    refine AWP.skip ?_
    refine AWP.seq ?_
    refine AWP.block ?_ -- b1
    refine AWP.stepR [0, 3, 5, 9, 10, 11] fun K hK => ?_ -- r4
    simp only [go_sem, Nat.reduceEqDiff, Nat.reduceLT, Nat.reduceAdd, Nat.reduceMul, Nat.reduceSub, Nat.add_zero, Nat.zero_add, Int.reduceEq, Int.reduceLT, ha, ld_42, hd]
    refine hK _ _ _ (by simp only [go_sem, Nat.reduceEqDiff, Nat.reduceLT, Nat.reduceAdd, Nat.reduceMul, Nat.reduceSub, Nat.add_zero, Nat.zero_add, Int.reduceEq, Int.reduceLT]; rfl) ?_; clear hK
    refine AWP.lastR fun K hK => ?_ -- r5
    simp only [go_sem, Nat.reduceEqDiff, Nat.reduceLT, Nat.reduceAdd, Nat.reduceMul, Nat.reduceSub, Nat.add_zero, Nat.zero_add, Int.reduceEq, Int.reduceLT, hx.len es_42]
    refine hK _ _ ?_; clear hK
    refine AWP.lastR fun K hK => ?_ -- r6
    simp only [go_sem, Nat.reduceEqDiff, Nat.reduceLT, Nat.reduceAdd, Nat.reduceMul, Nat.reduceSub, Nat.add_zero, Nat.zero_add, Int.reduceEq, Int.reduceLT]
    refine hK _ _ ?_; clear hK
    have hfl := take_flat ls hlt'
    have hfe : (ls.take (vs.length - n)).flatten.length + ls[vs.length - n].length = (ls.take (vs.length - n + 1)).flatten.length := by rw [hfl, List.length_append]
    have hfle := flat_le ls (vs.length - n + 1)
    refine ⟨rfl, n - 1, by omega, rfl, by omega, ?_⟩ -- ROUND
    simp only [go_sem, Nat.reduceEqDiff, Nat.reduceLT, Nat.reduceAdd, Nat.reduceMul, Nat.reduceSub, Nat.add_zero, Nat.zero_add, Int.reduceEq, Int.reduceLT]
    rw [i64w (by omega) (by omega), i64w (by omega) (by omega), show ((vs.length - n : Nat) : Int) + 1 = ((vs.length - (n - 1) : Nat) : Int) by omega,
      show (((ls.take (vs.length - n)).flatten.length : Nat) : Int) + ((ls[vs.length - n].length : Nat) : Int) = (((ls.take (vs.length - (n - 1))).flatten.length : Nat) : Int) by rw [show vs.length - (n - 1) = vs.length - n + 1 by omega]; omega]
  · refine AWP.exit (Then.exit (Then.exit (InBlock.same ?_))) -- x0
    have hn0 : n = 0 := by simp at h12; omega
    subst hn0
    rw [Nat.sub_zero, hp.1, List.take_length]
    have hms : (0 ≤ (0 : Int) ∧ (0 : Int) ≤ (ls.flatten.length : Int) ∧ (ls.flatten.length : Int) ≤ 281474976710656 ∧ ((1 : Nat) : Int) * (ls.flatten.length : Int) ≤ 281474976710656) = True := eq_true ⟨by omega, by omega, by omega, by omega⟩
    refine AWP.stepR [0, 6] fun K hK => ?_ -- r7
    simp only [go_sem, Nat.reduceEqDiff, Nat.reduceLT, Nat.reduceAdd, Nat.reduceMul, Nat.reduceSub, Nat.add_zero, Nat.zero_add, Int.reduceEq, Int.reduceLT, hms, Int.toNat_natCast, Int.toNat_zero]
    refine hK _ _ _ (by simp only [go_sem, Nat.reduceEqDiff, Nat.reduceLT, Nat.reduceAdd, Nat.reduceMul, Nat.reduceSub, Nat.add_zero, Nat.zero_add, Int.reduceEq, Int.reduceLT]; rfl) ?_; clear hK
    have hlt0 : M0.next < (M0.bump 1).next := Nat.lt_succ_self _
    generalize hM1 : (M0.bump 1).put M0.next ⟨zrow Tryz.prog 5 ls.flatten.length, 5, true⟩ = M1
    have hg1 : Grew M0 M1 := by rw [← hM1]; exact ((Grew.refl M0).bump 1).put (Nat.le_refl _) hlt0 _
    have ho1 : Own M0 M1 (.slice (some ⟨M0.next, 0, none⟩) 0 ls.flatten.length) 0 [] 5 := .inr ⟨M0.next, _, _, Nat.le_refl _, by rw [← hM1, Mem.next_put]; exact hlt0, rfl, by rw [← hM1, Mem.get_put, if_pos rfl], rfl, ⟨rfl, rfl⟩, .inl ⟨rfl, rfl⟩⟩
    generalize Value.slice (some ⟨M0.next, 0, none⟩) 0 ls.flatten.length = b0 at ho1
    refine AWP.seq ?_
    refine AWP.stepR [6, 22, 23, 24] fun K hK => ?_ -- r8
    simp only [go_sem, Nat.reduceEqDiff, Nat.reduceLT, Nat.reduceAdd, Nat.reduceMul, Nat.reduceSub, Nat.add_zero, Nat.zero_add, Int.reduceEq, Int.reduceLT, hv.len es_59]
    refine hK _ _ _ (by simp only [go_sem, Nat.reduceEqDiff, Nat.reduceLT, Nat.reduceAdd, Nat.reduceMul, Nat.reduceSub, Nat.add_zero, Nat.zero_add, Int.reduceEq, Int.reduceLT]; rfl) ?_; clear hK
    refine AWP.block ?_ -- b2
    refine AWP.loopK [6, 22, 23, 24] (fun n e M2 => n ≤ vs.length ∧ Grew M0 M2 ∧ ∃ bv, e = [(6, bv), (22, v), (23, .int .i64 vs.length), (24, .int .i64 ((vs.length - n : Nat) : Int))] ∧ OwnB M0 M2 bv (ls.take (vs.length - n)).flatten 5) vs.length ?_ fun n e M2 hI => ?_ -- LOOP
    · simp only [go_sem, Nat.reduceEqDiff, Nat.reduceLT, Nat.reduceAdd, Nat.reduceMul, Nat.reduceSub, Nat.add_zero, Nat.zero_add, Int.reduceEq, Int.reduceLT, Nat.le_refl]
      exact ⟨hg1, b0, by simp, by rw [Nat.sub_self]; exact ho1⟩
    obtain ⟨hn', hg2, bv, rfl, ho2⟩ := hI
    refine AWP.stepR [6, 22, 23, 24, 25] fun K hK => ?_ -- r9
    simp only [go_sem, Nat.reduceEqDiff, Nat.reduceLT, Nat.reduceAdd, Nat.reduceMul, Nat.reduceSub, Nat.add_zero, Nat.zero_add, Int.reduceEq, Int.reduceLT]
    refine hK _ _ _ (by simp only [go_sem, Nat.reduceEqDiff, Nat.reduceLT, Nat.reduceAdd, Nat.reduceMul, Nat.reduceSub, Nat.add_zero, Nat.zero_add, Int.reduceEq, Int.reduceLT]; rfl) ?_; clear hK
    refine AWP.condS rfl (fun h25 => ?_) fun h25 => ?_
    · have hlt : vs.length - n < vs.length := by simpa using h25
      have hlt' : vs.length - n < ls.length := by rw [← hp.1]; exact hlt
      obtain ⟨b, q, ha, hd⟩ := hv.at1 rfl es_59 hlt
      have hd := hd M2 hg2
      rw [List.getElem?_eq_getElem hlt] at hd
      have hx := (hp.2 _ _ _ (List.getElem?_eq_getElem hlt) (List.getElem?_eq_getElem hlt')).grew hg2
      generalize vs[vs.length - n] = x at hd hx
      have hfl := take_flat ls hlt'
      have hfe : (ls.take (vs.length - n)).flatten.length + ls[vs.length - n].length = (ls.take (vs.length - n + 1)).flatten.length := by rw [hfl, List.length_append]
      have hfle := flat_le ls (vs.length - n + 1)
      refine AWP.skip ?_
      refine AWP.seq ?_
      refine AWP.block ?_ -- b3
      refine AWP.stepR [6, 8, 22, 23, 24] fun K hK => ?_ -- r10
      simp only [go_sem, Nat.reduceEqDiff, Nat.reduceLT, Nat.reduceAdd, Nat.reduceMul, Nat.reduceSub, Nat.add_zero, Nat.zero_add, Int.reduceEq, Int.reduceLT, ha, ld_42, hd]
      refine hK _ _ _ (by simp only [go_sem, Nat.reduceEqDiff, Nat.reduceLT, Nat.reduceAdd, Nat.reduceMul, Nat.reduceSub, Nat.add_zero, Nat.zero_add, Int.reduceEq, Int.reduceLT]; rfl) ?_; clear hK
      obtain ⟨v2, M3, happ, ho3, hg3, hnx, hfr⟩ := Own.append ap_42_42 hg2 ho2 (by rw [cB_length, Nat.mul_one]) (hx.content (by rw [cB_length, Nat.mul_one])) (cB_one _) (by omega)
      refine AWP.lastR fun K hK => ?_ -- r11
      simp only [go_sem, Nat.reduceEqDiff, Nat.reduceLT, Nat.reduceAdd, Nat.reduceMul, Nat.reduceSub, Nat.add_zero, Nat.zero_add, Int.reduceEq, Int.reduceLT, happ]
      refine hK _ _ ?_; clear hK
      refine AWP.lastR fun K hK => ?_ -- r12
      simp only [go_sem, Nat.reduceEqDiff, Nat.reduceLT, Nat.reduceAdd, Nat.reduceMul, Nat.reduceSub, Nat.add_zero, Nat.zero_add, Int.reduceEq, Int.reduceLT]
      refine hK _ _ ?_; clear hK
      refine ⟨rfl, n - 1, by omega, by omega, hg3, v2, ?_, ?_⟩ -- ROUND
      · simp only [go_sem, Nat.reduceEqDiff, Nat.reduceLT, Nat.reduceAdd, Nat.reduceMul, Nat.reduceSub, Nat.add_zero, Nat.zero_add, Int.reduceEq, Int.reduceLT]
        rw [i64w (by omega) (by omega), show ((vs.length - n : Nat) : Int) + 1 = ((vs.length - (n - 1) : Nat) : Int) by omega]
      · rw [hfe, ← cB_append, ← hfl] at ho3
        rw [show vs.length - (n - 1) = vs.length - n + 1 by omega]
        exact ho3
    · refine AWP.exit (Then.exit (Then.exit (InBlock.same ?_))) -- x2
      have hn0 : n = 0 := by simp at h25; omega
      subst hn0
      rw [Nat.sub_zero, hp.1, List.take_length] at ho2
      refine AWP.stepR [2] fun K hK => ?_ -- r13
      simp only [go_sem, Nat.reduceEqDiff, Nat.reduceLT, Nat.reduceAdd, Nat.reduceMul, Nat.reduceSub, Nat.add_zero, Nat.zero_add, Int.reduceEq, Int.reduceLT]
      refine hK _ _ _ (by simp only [go_sem, Nat.reduceEqDiff, Nat.reduceLT, Nat.reduceAdd, Nat.reduceMul, Nat.reduceSub, Nat.add_zero, Nat.zero_add, Int.reduceEq, Int.reduceLT]; rfl) ?_; clear hK
      refine AWP.ret (?_)
      exact Fin.own (fun v => v) ⟨.inr rfl, rfl⟩ rfl hok hg2 ho2 (cB_plain _) (fun _ _ _ _ h => h) fun r M' hg' hr' ho' => ⟨hg', ho' (by intro h; exact hne (List.eq_nil_of_length_eq_zero h))⟩
end Go.Proofs.YtopblipficpilaaGreatDoor.AY

/- A reader of bytes: its state, what it takes. -/
namespace Go.Proofs.YtopblipficpilaaGreatDoor.AY
open Go Go.Proofs
set_option maxRecDepth 100000
set_option linter.unusedVariables false
set_option linter.unusedSimpArgs false


theorem Has.ld {M : Mem} {i : Nat} {b : Blk} (h : Has M i b) (o : Nat) : ldS M.get i o = b.cells[o]? := ldS_at h.1 o
theorem Has.lda {M : Mem} {i n : Nat} {cells : List Value} {e : TypeId} {w : Bool} (h : Has M i ⟨cells, e, w⟩) (hl : cells.length = n) : ldA M.get i 0 n = some (.agg cells.toArray) := by
  rw [ldA_at h.1, if_pos (by simp only; omega)]
  simp [← hl]
theorem mk_put {Mb M : Mem} (hg : Grew Mb M) {i : Nat} (h : Mb.next ≤ i) (hi : i < M.next) (b : Blk) (ho : isObj b.elem = false := by rfl) : Grew Mb (M.put i b) ∧ Has (M.put i b) i b := ⟨hg.put h hi b, Has.put hi b ho⟩
theorem st_cellX {M : Mem} {i o : Nat} {blk : Blk} {v : Value} (h : Has M i blk) (hrw : blk.rw = true) (ho : o < blk.cells.length) (hv : v.oneCell' = true) : stV M i o 1 v = some (M.put i ⟨blk.cells.set o v, blk.elem, blk.rw⟩) := by
  rw [stV_at h.1, one_cells hv, if_pos ⟨hrw, rfl, by simp [oneCells, hv], by omega⟩]
  congr 2
  have : splice blk.cells o [v] = blk.cells.set o v := by
    apply List.ext_getElem?
    intro j
    rw [splice_get (by simp; omega), List.getElem?_set]
    by_cases hj : o = j
    · subst hj; simp [ho]
    · rw [if_neg (by simp; omega), if_neg hj]
  simp [this]
structure GrewX (p : Nat) (M M1 : Mem) : Prop where
  keep : ∀ i, i < M.next → i ≠ p → M1.get i = M.get i
  next : M.next ≤ M1.next
  ok : Ok M → Ok M1
theorem Grew.x {M M1 : Mem} (h : Grew M M1) (p : Nat) : GrewX p M M1 := ⟨fun i hi _ => h.keep i hi, h.next, h.ok⟩
theorem GrewX.trans {p : Nat} {M M1 M2 : Mem} (h : GrewX p M M1) (h' : GrewX p M1 M2) : GrewX p M M2 := ⟨fun i hi hp => (h'.keep i (Nat.lt_of_lt_of_le hi h.next) hp).trans (h.keep i hi hp), Nat.le_trans h.next h'.next, fun hok => h'.ok (h.ok hok)⟩
theorem GrewX.refl (p : Nat) (M : Mem) : GrewX p M M := (Grew.refl M).x p
theorem GrewX.put {p : Nat} {M M1 : Mem} (h : GrewX p M M1) (hp : p < M1.next) (b : Blk) : GrewX p M (M1.put p b) := ⟨fun j hj hjp => by rw [Mem.get_put, if_neg hjp]; exact h.keep j hj hjp, by rw [Mem.next_put]; exact h.next, fun hok j b' hj => by
  rw [Mem.next_put]
  rw [Mem.get_put] at hj
  by_cases hji : j = p
  · rw [hji]; exact hp
  · rw [if_neg hji] at hj; exact h.ok hok j b' hj⟩
/-- what stood there ahead of the block stays -/
theorem GrewX.grew {p : Nat} {M0 M M1 : Mem} (h0 : Grew M0 M) (h : GrewX p M M1) (hp : M0.next ≤ p) : Grew M0 M1 :=
  ⟨fun i hi => (h.keep i (Nat.lt_of_lt_of_le hi h0.next) (by omega)).trans (h0.keep i hi), Nat.le_trans h0.next h.next, fun hok => h.ok (h0.ok hok)⟩
theorem Has.x {p : Nat} {M M1 : Mem} {i : Nat} {b : Blk} (h : Has M i b) (hg : GrewX p M M1) (hi : i ≠ p) : Has M1 i b := ⟨(rowsOf_same (hg.keep i h.2 hi)).trans h.1, Nat.lt_of_lt_of_le h.2 hg.next⟩
theorem Row_.x {p : Nat} {M M1 : Mem} {v : Value} {n : Nat} {cells : List Value} (h : Row_ M v n cells) (hg : GrewX p M M1) (ha : Apart v p) : Row_ M1 v n cells := by
  rcases h with h | ⟨b, o, c, blk, h1, h2, h3⟩
  · exact .inl h
  · exact .inr ⟨b, o, c, blk, h1, h2.x hg (by rintro rfl; exact ha _ _ _ h1), h3⟩
theorem RowE.x {p : Nat} {M M1 : Mem} {v : Value} {n : Nat} {cells : List Value} {e : TypeId} (h : RowE M v n cells e) (hg : GrewX p M M1) (ha : Apart v p) : RowE M1 v n cells e := by
  obtain ⟨b, o, c, blk, h1, h0, h2, h3⟩ := h
  exact ⟨b, o, c, blk, h1, h0, h2.x hg (by rintro rfl; exact ha _ _ _ h1), h3⟩
theorem Apart.nil (j : Nat) : Apart (.slice none 0 0) j := fun o n c h => by cases h

/-! ### parts of a row of bytes -/
theorem slice_42 {M : Mem} {v : Value} {l : List Int} (h : RowE M v l.length (cB l) 5) {k : Nat} (hk : k ≤ l.length) :
    (∃ v', sliceV Tryz.prog M.get 42 v none (some (.int .i64 k)) (some (.int .i64 k)) = some v' ∧ RowE M v' (l.take k).length (cB (l.take k)) 5 ∧ ∀ p, Apart v p → Apart v' p) ∧
    ∃ v', sliceV Tryz.prog M.get 42 v (some (.int .i64 k)) none none = some v' ∧ RowE M v' (l.drop k).length (cB (l.drop k)) 5 ∧ ∀ p, Apart v p → Apart v' p := by
  obtain ⟨i, hi, hs⟩ := Option.map_eq_some_iff.1 (show (Tryz.prog.info? 5).map (·.size) = some 1 by kernel_rfl)
  have ht : Tryz.prog.underlying 42 = some (.slice 5) := by kernel_rfl
  obtain ⟨b, o, c, blk, rfl, hcn, hb, he, h4, h5⟩ := h
  have hget := (rowsOf_some hb.1).1
  have hcs : Tryz.prog.cellsOf blk.elem = i.size := by rw [he]; exact cellsOf_eq hi
  rw [cB_length] at h4 h5
  have hapart : ∀ o' n' c' p, Apart (.slice (some ⟨b, o, none⟩) l.length c) p → Apart (.slice (some ⟨b, o', none⟩) n' c') p := fun o' n' c' p ha o2 n2 c2 h => by
    injection h with h1 _ _
    injection h1 with h1
    injection h1 with h1 _ _
    subst h1
    exact ha o l.length c rfl
  have hbk : ∀ y, k ≤ y → boundV (some (.int .i64 (k : Int))) 0 y = some k := fun y hy => by
    simp only [boundV]; rw [if_pos ⟨by omega, by omega⟩]; simp
  have hbk2 : ∀ z y, k ≤ y → boundV (some (.int .i64 (k : Int))) z y = some k := fun z y hy => by
    simp only [boundV]; rw [if_pos ⟨by omega, by omega⟩]; simp
  refine ⟨⟨.slice (some ⟨b, o, none⟩) k k, ?_, ⟨b, o, k, blk, by rw [List.length_take, Nat.min_eq_left hk], .inr (by rw [List.length_take]; omega), hb, he, ?_, ?_⟩, hapart _ _ _⟩,
    .slice (some ⟨b, o + k, none⟩) (l.length - k) (if c = unk then unk else c - k), ?_, ⟨b, o + k, _, blk, by rw [List.length_drop], by rw [List.length_drop]; split <;> omega, hb, he, ?_, ?_⟩, hapart _ _ _⟩
  · simp only [sliceV, ht, hget, hi, hcs, Option.isSome_some, Option.isNone_some, Option.isNone_none, Bool.false_eq_true, and_false, not_false_eq_true, and_self, if_true, true_and, false_and, if_false]
    rw [hbk2 _ (if c = unk then l.length else c) (by split <;> omega)]
    simp only
    rw [hbk2 _ k (Nat.le_refl _)]
    simp only [show boundV none 0 k = some 0 from rfl]
    simp
  · rw [cB_length, List.length_take]; omega
  · rw [cB_length, List.length_take, Nat.min_eq_left hk]
    have := congrArg (List.take k) h5
    rw [List.take_take, Nat.min_eq_left hk] at this
    rw [this, cB, cB, List.map_take]
  · simp only [sliceV, ht, hget, hi, hcs, Option.isSome_none, Option.isNone_none, Bool.false_eq_true, false_and, not_false_eq_true, and_self, if_true, true_and]
    rw [show boundV none (if c = unk then l.length else c) (if c = unk then l.length else c) = some (if c = unk then l.length else c) from rfl]
    simp only [show ∀ y, boundV none l.length y = some l.length from fun _ => rfl, hbk l.length hk, hs, Nat.mul_one]
    congr 1
    split <;> simp_all
  · rw [cB_length, List.length_drop]; omega
  · rw [cB_length, List.length_drop]
    have := congrArg (List.drop k) h5
    rw [List.drop_take, List.drop_drop] at this
    rw [this, cB, cB, List.map_drop]

/-! ### a reader -/
structure Rs where
  b : List Int
  code : Int
/-- a reader's state lies there -/
def RdS (M : Mem) (p : Nat) (D : Nat → Prop) (s : Rs) : Prop := ∃ vb, Has M p ⟨[vb, .int .i64 s.code], 204, true⟩ ∧ RowE M vb s.b.length (cB s.b) 5 ∧ D p ∧ ∀ j, D j → Apart vb j
def takeS (s : Rs) (k : Int) : Rs × List Int := if s.code = 0 then (if k < 0 ∨ k > s.b.length then (⟨s.b, 3⟩, []) else (⟨s.b.drop k.toNat, 0⟩, s.b.take k.toNat)) else (s, [])
theorem RdS.grew {M M1 : Mem} {p : Nat} {D : Nat → Prop} {s : Rs} (h : RdS M p D s) (hg : Grew M M1) : RdS M1 p D s := by
  obtain ⟨vb, h1, h2, h3⟩ := h
  exact ⟨vb, h1.grew hg, h2.grew hg, h3⟩
theorem RdS.lt {M : Mem} {p : Nat} {D : Nat → Prop} {s : Rs} (h : RdS M p D s) : p < M.next := by obtain ⟨vb, h1, _⟩ := h; exact h1.2
theorem take114_spec (p : Nat) (D : Nat → Prop) (s : Rs) (k : Int) (M : Mem) (hs : RdS M p D s) (hl : s.b.length ≤ 4611686018427387904) :
    ∃ r M', ACall Tryz.prog 114 #[.pointer (some ⟨p, 0, none⟩), .int .i64 k] M r M' ∧ GrewX p M M' ∧ RdS M' p D (takeS s k).1 ∧ RowB M' r (takeS s k).2 ∧ Apart r p := by
  obtain ⟨vb, hh, hv, hDp, hD⟩ := hs
  have hap := hD p hDp
  obtain ⟨bs, code⟩ := s
  simp only at hh hv hl
  refine ACall.fin (args := [.pointer (some ⟨p, 0, none⟩), .int .i64 k]) (k := 49) (rs := [.tmp 4]) Tryz.func114 rfl rfl rfl (Nat.le_of_ble_eq_true rfl) ?_
  refine AWP.stepR [0, 1] fun K hK => ?_
  simp only [go_sem, Nat.reduceEqDiff, Nat.reduceLT, Nat.reduceAdd, Nat.reduceMul, Nat.reduceSub, Nat.add_zero, Nat.zero_add, Int.reduceEq, Int.reduceLT]
  refine hK _ _ _ (by simp only [go_sem, Nat.reduceEqDiff, Nat.reduceLT, Nat.reduceAdd, Nat.reduceMul, Nat.reduceSub, Nat.add_zero, Nat.zero_add, Int.reduceEq, Int.reduceLT]; rfl) ?_; clear hK
  refine AWP.seq ?_
  obtain ⟨bad, hbd⟩ : ∃ bad, decide (code = 0 ∧ (k < 0 ∨ k > bs.length)) = bad := ⟨_, rfl⟩
  refine AWP.stepX [0, 1, 23] [(0, .pointer (some ⟨p, 0, none⟩)), (1, .int .i64 k), (23, .bool bad)] M (fun K hK => ?_) ?_
  · by_cases hc : code = 0
    · subst hc
      by_cases hk : k < 0
      · simp only [go_sem, Nat.reduceEqDiff, Nat.reduceLT, Nat.reduceAdd, Nat.reduceMul, Nat.reduceSub, Nat.add_zero, Nat.zero_add, Int.reduceEq, Int.reduceLT, ld_35, hh.ld, decide_eq_true hk, show ((0 : Int) == 0) = true from rfl]
        refine hK _ ?_
        simp only [go_sem, Nat.reduceEqDiff, Nat.reduceLT, Nat.reduceAdd, Nat.reduceMul, Nat.reduceSub, Nat.add_zero, Nat.zero_add, Int.reduceEq, Int.reduceLT]
        rw [← hbd, decide_eq_true (show (0 : Int) = 0 ∧ (k < 0 ∨ k > bs.length) from ⟨rfl, .inl hk⟩)]
      · simp only [go_sem, Nat.reduceEqDiff, Nat.reduceLT, Nat.reduceAdd, Nat.reduceMul, Nat.reduceSub, Nat.add_zero, Nat.zero_add, Int.reduceEq, Int.reduceLT, ld_35, ld_42, hh.ld, decide_eq_false hk, show ((0 : Int) == 0) = true from rfl, hv.row.len es_42]
        refine hK _ ?_
        simp only [go_sem, Nat.reduceEqDiff, Nat.reduceLT, Nat.reduceAdd, Nat.reduceMul, Nat.reduceSub, Nat.add_zero, Nat.zero_add, Int.reduceEq, Int.reduceLT]
        rw [← hbd, decide_eq_decide.2 (show (k > bs.length) ↔ ((0 : Int) = 0 ∧ (k < 0 ∨ k > bs.length)) from ⟨fun h => ⟨rfl, .inr h⟩, fun h => h.2.resolve_left hk⟩)]
    · simp only [go_sem, Nat.reduceEqDiff, Nat.reduceLT, Nat.reduceAdd, Nat.reduceMul, Nat.reduceSub, Nat.add_zero, Nat.zero_add, Int.reduceEq, Int.reduceLT, ld_35, hh.ld, show (code == 0) = false by simp [hc]]
      refine hK _ ?_
      simp only [go_sem, Nat.reduceEqDiff, Nat.reduceLT, Nat.reduceAdd, Nat.reduceMul, Nat.reduceSub, Nat.add_zero, Nat.zero_add, Int.reduceEq, Int.reduceLT]
      rw [← hbd, decide_eq_false (show ¬ (code = 0 ∧ (k < 0 ∨ k > bs.length)) from fun h => hc h.1)]
  by_cases hbad : code = 0 ∧ (k < 0 ∨ k > bs.length)
  · rw [← hbd, decide_eq_true hbad]
    refine AWP.cond_split rfl (fun h23 => ?_) fun h23 => ?_
    · have fs := st_cellX (o := 1) (v := .int .i64 3) hh rfl (show 1 < 2 by decide) rfl
      have fs : stV M p 1 1 (.int .i64 3) = some (M.put p ⟨[vb, .int .i64 3], 204, true⟩) := fs
      refine AWP.lastR fun K hK => ?_
      simp only [go_sem, Nat.reduceEqDiff, Nat.reduceLT, Nat.reduceAdd, Nat.reduceMul, Nat.reduceSub, Nat.add_zero, Nat.zero_add, Int.reduceEq, Int.reduceLT, st_35, fs]
      refine hK _ _ ?_; clear hK
      have hh2 : Has (M.put p ⟨[vb, .int .i64 3], 204, true⟩) p ⟨[vb, .int .i64 3], 204, true⟩ := Has.put hh.2 _
      have hg2 : GrewX p M (M.put p ⟨[vb, .int .i64 3], 204, true⟩) := (GrewX.refl p M).put hh.2 _
      refine AWP.seq ?_
      refine AWP.stepR [0, 1, 31] fun K hK => ?_
      simp only [go_sem, Nat.reduceEqDiff, Nat.reduceLT, Nat.reduceAdd, Nat.reduceMul, Nat.reduceSub, Nat.add_zero, Nat.zero_add, Int.reduceEq, Int.reduceLT, ld_35, hh2.ld, show ((3 : Int) != 0) = true from rfl]
      refine hK _ _ _ (by simp only [go_sem, Nat.reduceEqDiff, Nat.reduceLT, Nat.reduceAdd, Nat.reduceMul, Nat.reduceSub, Nat.add_zero, Nat.zero_add, Int.reduceEq, Int.reduceLT]; rfl) ?_; clear hK
      refine AWP.cond_split rfl (fun h31 => ?_) fun h31 => ?_
      · refine AWP.stepR [4] fun K hK => ?_
        simp only [go_sem, Nat.reduceEqDiff, Nat.reduceLT, Nat.reduceAdd, Nat.reduceMul, Nat.reduceSub, Nat.add_zero, Nat.zero_add, Int.reduceEq, Int.reduceLT]
        refine hK _ _ _ (by simp only [go_sem, Nat.reduceEqDiff, Nat.reduceLT, Nat.reduceAdd, Nat.reduceMul, Nat.reduceSub, Nat.add_zero, Nat.zero_add, Int.reduceEq, Int.reduceLT]; rfl) ?_; clear hK
        refine AWP.ret (Then.ret (?_))
        refine Fin.keep ⟨.inr rfl, rfl⟩ rfl ⟨hg2, ?_⟩
        have e : takeS ⟨bs, code⟩ k = (⟨bs, 3⟩, []) := by rw [takeS, if_pos hbad.1, if_pos hbad.2]
        rw [e]
        exact ⟨⟨vb, hh2, hv.x hg2 hap, hDp, hD⟩, Row_.nil _, Apart.nil p⟩
      · cases h31
    · cases h23
  · rw [← hbd, decide_eq_false hbad]
    refine AWP.cond_split rfl (fun h23 => ?_) fun h23 => ?_
    · cases h23
    · refine AWP.skip ?_
      refine AWP.seq ?_
      by_cases hc : code = 0
      · subst hc
        obtain ⟨kn, rfl⟩ : ∃ kn : Nat, k = kn := ⟨k.toNat, by omega⟩
        have hkn : kn ≤ bs.length := by omega
        obtain ⟨⟨v1, f1, hr1, ha1⟩, v2, f2, hr2, ha2⟩ := slice_42 hv hkn
        have fs : stV M p 0 1 v2 = some (M.put p ⟨[v2, .int .i64 0], 204, true⟩) := st_cellX (o := 0) hh rfl (show 0 < 2 by decide) hr2.row.one
        refine AWP.stepR [0, 1, 31] fun K hK => ?_
        simp only [go_sem, Nat.reduceEqDiff, Nat.reduceLT, Nat.reduceAdd, Nat.reduceMul, Nat.reduceSub, Nat.add_zero, Nat.zero_add, Int.reduceEq, Int.reduceLT, ld_35, hh.ld, show ((0 : Int) != 0) = false from rfl]
        refine hK _ _ _ (by simp only [go_sem, Nat.reduceEqDiff, Nat.reduceLT, Nat.reduceAdd, Nat.reduceMul, Nat.reduceSub, Nat.add_zero, Nat.zero_add, Int.reduceEq, Int.reduceLT]; rfl) ?_; clear hK
        refine AWP.cond_split rfl (fun h31 => ?_) fun h31 => ?_
        · cases h31
        · refine AWP.skip ?_
          refine AWP.stepR [0, 1, 5] fun K hK => ?_
          simp only [go_sem, Nat.reduceEqDiff, Nat.reduceLT, Nat.reduceAdd, Nat.reduceMul, Nat.reduceSub, Nat.add_zero, Nat.zero_add, Int.reduceEq, Int.reduceLT, ld_42, hh.ld, Option.map_some, f1]
          refine hK _ _ _ (by simp only [go_sem, Nat.reduceEqDiff, Nat.reduceLT, Nat.reduceAdd, Nat.reduceMul, Nat.reduceSub, Nat.add_zero, Nat.zero_add, Int.reduceEq, Int.reduceLT]; rfl) ?_; clear hK
          refine AWP.stepR [5] fun K hK => ?_
          simp only [go_sem, Nat.reduceEqDiff, Nat.reduceLT, Nat.reduceAdd, Nat.reduceMul, Nat.reduceSub, Nat.add_zero, Nat.zero_add, Int.reduceEq, Int.reduceLT, ld_42, hh.ld, Option.map_some, f2, st_42, fs]
          refine hK _ _ _ (by simp only [go_sem, Nat.reduceEqDiff, Nat.reduceLT, Nat.reduceAdd, Nat.reduceMul, Nat.reduceSub, Nat.add_zero, Nat.zero_add, Int.reduceEq, Int.reduceLT]; rfl) ?_; clear hK
          refine AWP.stepR [4] fun K hK => ?_
          simp only [go_sem, Nat.reduceEqDiff, Nat.reduceLT, Nat.reduceAdd, Nat.reduceMul, Nat.reduceSub, Nat.add_zero, Nat.zero_add, Int.reduceEq, Int.reduceLT]
          refine hK _ _ _ (by simp only [go_sem, Nat.reduceEqDiff, Nat.reduceLT, Nat.reduceAdd, Nat.reduceMul, Nat.reduceSub, Nat.add_zero, Nat.zero_add, Int.reduceEq, Int.reduceLT]; rfl) ?_; clear hK
          have hh2 : Has (M.put p ⟨[v2, .int .i64 0], 204, true⟩) p ⟨[v2, .int .i64 0], 204, true⟩ := Has.put hh.2 _
          have hg2 : GrewX p M (M.put p ⟨[v2, .int .i64 0], 204, true⟩) := (GrewX.refl p M).put hh.2 _
          refine AWP.ret (?_)
          refine Fin.keep ⟨.inr rfl, rfl⟩ rfl ⟨hg2, ?_⟩
          have e : takeS ⟨bs, 0⟩ kn = (⟨bs.drop kn, 0⟩, bs.take kn) := by rw [takeS, if_pos rfl, if_neg (by simpa using hbad)]; simp
          rw [e]
          exact ⟨⟨v2, hh2, hr2.x hg2 (ha2 p hap), hDp, fun j hj => ha2 j (hD j hj)⟩, hr1.row.x hg2 (ha1 p hap), ha1 p hap⟩
      · refine AWP.stepR [0, 1, 31] fun K hK => ?_
        simp only [go_sem, Nat.reduceEqDiff, Nat.reduceLT, Nat.reduceAdd, Nat.reduceMul, Nat.reduceSub, Nat.add_zero, Nat.zero_add, Int.reduceEq, Int.reduceLT, ld_35, hh.ld, show (code != 0) = true by simp [hc]]
        refine hK _ _ _ (by simp only [go_sem, Nat.reduceEqDiff, Nat.reduceLT, Nat.reduceAdd, Nat.reduceMul, Nat.reduceSub, Nat.add_zero, Nat.zero_add, Int.reduceEq, Int.reduceLT]; rfl) ?_; clear hK
        refine AWP.cond_split rfl (fun h31 => ?_) fun h31 => ?_
        · refine AWP.stepR [4] fun K hK => ?_
          simp only [go_sem, Nat.reduceEqDiff, Nat.reduceLT, Nat.reduceAdd, Nat.reduceMul, Nat.reduceSub, Nat.add_zero, Nat.zero_add, Int.reduceEq, Int.reduceLT]
          refine hK _ _ _ (by simp only [go_sem, Nat.reduceEqDiff, Nat.reduceLT, Nat.reduceAdd, Nat.reduceMul, Nat.reduceSub, Nat.add_zero, Nat.zero_add, Int.reduceEq, Int.reduceLT]; rfl) ?_; clear hK
          refine AWP.ret (Then.ret (?_))
          refine Fin.keep ⟨.inr rfl, rfl⟩ rfl ⟨GrewX.refl p M, ?_⟩
          have e : takeS ⟨bs, code⟩ k = (⟨bs, code⟩, []) := by rw [takeS, if_neg hc]
          rw [e]
          exact ⟨⟨vb, hh, hv, hDp, hD⟩, Row_.nil _, Apart.nil p⟩
        · cases h31
end Go.Proofs.YtopblipficpilaaGreatDoor.AY

/- A number of bytes; bytes one behind the other, known to be a row. -/
namespace Go.Proofs.YtopblipficpilaaGreatDoor.AY
open Go Go.Proofs
set_option maxRecDepth 100000
set_option linter.unusedVariables false
set_option linter.unusedSimpArgs false


def BytB (l : List Int) : Prop := ∀ x, x ∈ l → 0 ≤ x ∧ x < 256
/-- a number of bytes, the highest first -/
def numN (l : List Int) : Int := l.foldl (fun n c => n * 256 + c) 0
theorem numN_nil : numN [] = 0 := rfl
theorem numN_snoc (l : List Int) (c : Int) : numN (l ++ [c]) = numN l * 256 + c := by simp [numN, List.foldl_append]
theorem numN_bound {l : List Int} (h : BytB l) : ∀ n, 0 ≤ numN (l.take n) ∧ numN (l.take n) < 256 ^ (l.take n).length := by
  intro n
  induction n with
  | zero => simp [numN]
  | succ n ih =>
    by_cases hn : n < l.length
    · rw [List.take_succ_eq_append_getElem hn, numN_snoc]
      have := h l[n] (List.getElem_mem hn)
      rw [List.length_append, List.length_singleton, Int.pow_succ]
      omega
    · rw [List.take_of_length_le (by omega)] at ih ⊢; exact ih
theorem u64w {n : Int} (h : 0 ≤ n) (h' : n < 18446744073709551616) : IntKind.u64.wrap n = n := by simp [IntKind.wrap, IntKind.signed, IntKind.bits, IntKind.min, IntKind.max]; omega
theorem pow256 {n : Nat} (h : n ≤ 7) : (256 : Int) ^ n ≤ 72057594037927936 := by
  have : ∀ m, m ≤ 7 → (256 : Int) ^ m ≤ 72057594037927936 := by decide
  exact this n h
theorem or_low (n c : Int) (h0 : 0 ≤ n) (h1 : n < 72057594037927936) (h2 : 0 ≤ c) (h3 : c < 256) : ((BitVec.ofInt 64 (n * 256) ||| BitVec.ofInt 64 c).toNat : Int) = n * 256 + c := by
  rw [BitVec.toNat_or, BitVec.toNat_ofInt, BitVec.toNat_ofInt]
  have e1 : ((n * 256) % ((2 ^ 64 : Nat) : Int)).toNat = 2 ^ 8 * n.toNat := by
    rw [Int.emod_eq_of_lt (by omega) (by norm_cast; omega)]; omega
  have e2 : (c % ((2 ^ 64 : Nat) : Int)).toNat = c.toNat := by
    rw [Int.emod_eq_of_lt (by omega) (by norm_cast; omega)]
  rw [e1, e2, ← Nat.two_pow_add_eq_or_of_lt (by omega)]
  omega

theorem get113_spec (v : Value) (l : List Int) (M : Mem) (hok : Ok M) (hv : RowB M v l) (hb : BytB l) (hl : l.length ≤ 8) : ∃ r M', ACall Tryz.prog 113 #[v] M r M' ∧ r = .int .u64 (numN l) ∧ M' = M := by
  refine ACall.fin (args := [v]) (k := 19) (rs := [.tmp 2]) Tryz.func113 rfl rfl rfl (Nat.le_of_ble_eq_true rfl) ?_
  refine AWP.stepR [0] fun K hK => ?_
  simp only [go_sem, Nat.reduceEqDiff, Nat.reduceLT, Nat.reduceAdd, Nat.reduceMul, Nat.reduceSub, Nat.add_zero, Nat.zero_add, Int.reduceEq, Int.reduceLT]
  refine hK _ _ _ (by simp only [go_sem, Nat.reduceEqDiff, Nat.reduceLT, Nat.reduceAdd, Nat.reduceMul, Nat.reduceSub, Nat.add_zero, Nat.zero_add, Int.reduceEq, Int.reduceLT]; rfl) ?_; clear hK
  refine AWP.stepR [0, 3] fun K hK => ?_
  simp only [go_sem, Nat.reduceEqDiff, Nat.reduceLT, Nat.reduceAdd, Nat.reduceMul, Nat.reduceSub, Nat.add_zero, Nat.zero_add, Int.reduceEq, Int.reduceLT]
  refine hK _ _ _ (by simp only [go_sem, Nat.reduceEqDiff, Nat.reduceLT, Nat.reduceAdd, Nat.reduceMul, Nat.reduceSub, Nat.add_zero, Nat.zero_add, Int.reduceEq, Int.reduceLT]; rfl) ?_; clear hK
  refine AWP.seq ?_
  refine AWP.stepR [3, 6, 7, 8] fun K hK => ?_
  simp only [go_sem, Nat.reduceEqDiff, Nat.reduceLT, Nat.reduceAdd, Nat.reduceMul, Nat.reduceSub, Nat.add_zero, Nat.zero_add, Int.reduceEq, Int.reduceLT, hv.len es_42]
  refine hK _ _ _ (by simp only [go_sem, Nat.reduceEqDiff, Nat.reduceLT, Nat.reduceAdd, Nat.reduceMul, Nat.reduceSub, Nat.add_zero, Nat.zero_add, Int.reduceEq, Int.reduceLT]; rfl) ?_; clear hK
  refine AWP.block ?_ -- b0
  refine AWP.loopK [3, 6, 7, 8] (fun n e M0 => M0 = M ∧ n ≤ l.length ∧ e = [(3, .int .u64 (numN (l.take (l.length - n)))), (6, v), (7, .int .i64 l.length), (8, .int .i64 ((l.length - n : Nat) : Int))]) l.length ?_ fun n e M0 hI => ?_ -- LOOP
  · simp only [go_sem, Nat.reduceEqDiff, Nat.reduceLT, Nat.reduceAdd, Nat.reduceMul, Nat.reduceSub, Nat.add_zero, Nat.zero_add, Int.reduceEq, Int.reduceLT, true_and, Nat.le_refl]
    simp [numN]
  obtain ⟨rfl, hn, rfl⟩ := hI
  refine AWP.stepR [3, 6, 7, 8, 9] fun K hK => ?_
  simp only [go_sem, Nat.reduceEqDiff, Nat.reduceLT, Nat.reduceAdd, Nat.reduceMul, Nat.reduceSub, Nat.add_zero, Nat.zero_add, Int.reduceEq, Int.reduceLT]
  refine hK _ _ _ (by simp only [go_sem, Nat.reduceEqDiff, Nat.reduceLT, Nat.reduceAdd, Nat.reduceMul, Nat.reduceSub, Nat.add_zero, Nat.zero_add, Int.reduceEq, Int.reduceLT]; rfl) ?_; clear hK
  refine AWP.condS rfl (fun h9 => ?_) fun h9 => ?_
  · have hlt : l.length - n < l.length := by simpa using h9
    obtain ⟨b, q, ha, hd⟩ := hv.at1 (by simp [cB]) es_42 hlt
    have hd := hd M0 (Grew.refl _)
    rw [show (cB l)[l.length - n]? = some (.int .u8 l[l.length - n]) by simp [cB, hlt]] at hd
    have hx := hb _ (List.getElem_mem hlt)
    have hst := List.take_succ_eq_append_getElem hlt
    have hbd := numN_bound hb (l.length - n)
    have hp := pow256 (n := (l.take (l.length - n)).length) (by rw [List.length_take]; omega)
    generalize l[l.length - n] = x at hd hx hst
    refine AWP.skip ?_
    refine AWP.seq ?_
    refine AWP.block ?_ -- b1
    refine AWP.stepR [3, 5, 6, 7, 8] fun K hK => ?_
    simp only [go_sem, Nat.reduceEqDiff, Nat.reduceLT, Nat.reduceAdd, Nat.reduceMul, Nat.reduceSub, Nat.add_zero, Nat.zero_add, Int.reduceEq, Int.reduceLT, ha, hd, ld_5]
    refine hK _ _ _ (by simp only [go_sem, Nat.reduceEqDiff, Nat.reduceLT, Nat.reduceAdd, Nat.reduceMul, Nat.reduceSub, Nat.add_zero, Nat.zero_add, Int.reduceEq, Int.reduceLT]; rfl) ?_; clear hK
    refine AWP.lastR fun K hK => ?_
    simp only [go_sem, Nat.reduceEqDiff, Nat.reduceLT, Nat.reduceAdd, Nat.reduceMul, Nat.reduceSub, Nat.add_zero, Nat.zero_add, Int.reduceEq, Int.reduceLT]
    refine hK _ _ ?_; clear hK
    refine AWP.lastR fun K hK => ?_
    simp only [go_sem, Nat.reduceEqDiff, Nat.reduceLT, Nat.reduceAdd, Nat.reduceMul, Nat.reduceSub, Nat.add_zero, Nat.zero_add, Int.reduceEq, Int.reduceLT]
    refine hK _ _ ?_; clear hK
    refine ⟨rfl, n - 1, by omega, rfl, by omega, ?_⟩ -- ROUND
    simp only [go_sem, Nat.reduceEqDiff, Nat.reduceLT, Nat.reduceAdd, Nat.reduceMul, Nat.reduceSub, Nat.add_zero, Nat.zero_add, Int.reduceEq, Int.reduceLT]
    have e1 : IntKind.u64.wrap ((BitVec.ofInt 64 (IntKind.u64.wrap (numN (l.take (l.length - n)) * 256)) ||| BitVec.ofInt 64 (IntKind.u64.wrap x)).toNat : Int) = numN (l.take (l.length - (n - 1))) := by
      rw [u64w (n := x) hx.1 (by omega), u64w (n := numN (l.take (l.length - n)) * 256) (by omega) (by omega), or_low _ _ hbd.1 (by omega) hx.1 hx.2, u64w (by omega) (by omega), show l.length - (n - 1) = l.length - n + 1 by omega, hst, numN_snoc]
    have e2 : IntKind.i64.wrap (((l.length - n : Nat) : Int) + 1) = ((l.length - (n - 1) : Nat) : Int) := by rw [i64w (by omega) (by omega)]; omega
    have e3 : ∀ a b a' b' : Int, a = a' → b = b' → [(3, Value.int .u64 a), (6, v), (7, .int .i64 l.length), (8, .int .i64 b)] = [(3, Value.int .u64 a'), (6, v), (7, .int .i64 l.length), (8, .int .i64 b')] := by rintro _ _ _ _ rfl rfl; rfl
    exact e3 _ _ _ _ e1 e2
  · refine AWP.exit (Then.exit (Then.exit (InBlock.same ?_)))
    have hn0 : n = 0 := by simp at h9; omega
    subst hn0
    rw [Nat.sub_zero, List.take_length]
    refine AWP.stepR [2] fun K hK => ?_
    simp only [go_sem, Nat.reduceEqDiff, Nat.reduceLT, Nat.reduceAdd, Nat.reduceMul, Nat.reduceSub, Nat.add_zero, Nat.zero_add, Int.reduceEq, Int.reduceLT]
    refine hK _ _ _ (by simp only [go_sem, Nat.reduceEqDiff, Nat.reduceLT, Nat.reduceAdd, Nat.reduceMul, Nat.reduceSub, Nat.add_zero, Nat.zero_add, Int.reduceEq, Int.reduceLT]; rfl) ?_; clear hK
    refine AWP.ret (?_)
    exact Fin.plain ⟨.inr rfl, rfl⟩ rfl rfl hok (Grew.refl _) ⟨rfl, rfl⟩

/-! ### parts, one behind the other, in new memory -/
def CapOk (v : Value) : Prop := ∃ id n c, v = .slice (some ⟨id, 0, none⟩) n c ∧ (c = unk ∨ n ≤ c)
theorem CapOk.app {P : Program} {M M' : Mem} {t tx : TypeId} {s x v : Value} (hs : CapOk s) (h : appendE P M t tx s x = some (v, M')) : CapOk v := by
  have hg : ∀ N e c k w, grownE P N e c k = (v, w) → CapOk v := fun N e c k w h => by
    cases h; exact ⟨_, _, _, rfl, .inl rfl⟩
  unfold appendE at h
  repeat' split at h
  all_goals first | cases h; done | (simp only [Option.some.injEq, Prod.mk.injEq] at h; obtain ⟨rfl, _⟩ := h; exact hs) | (injection h with h; exact hg _ _ _ _ _ h)
theorem joinE55_spec (v : Value) (vs : List Value) (ls : List (List Int)) (M : Mem) (hok : Ok M) (hv : Row_ M v vs.length vs) (hp : Parts M vs ls) (hl : ls.flatten.length ≤ 1099511627776) (hn : vs.length ≤ 1099511627776) :
    ∃ r M', ACall Tryz.prog 55 #[v] M r M' ∧ Grew M M' ∧ OwnB M M' r ls.flatten 5 ∧ CapOk r := by
  refine ACall.fin (args := [v]) (k := 33) Tryz.func55 rfl rfl rfl (Nat.le_of_ble_eq_true rfl) ?_
  refine AWP.stepR [0] fun K hK => ?_ -- r0
  simp only [go_sem, Nat.reduceEqDiff, Nat.reduceLT, Nat.reduceAdd, Nat.reduceMul, Nat.reduceSub, Nat.add_zero, Nat.zero_add, Int.reduceEq, Int.reduceLT]
  refine hK _ _ _ (by simp only [go_sem, Nat.reduceEqDiff, Nat.reduceLT, Nat.reduceAdd, Nat.reduceMul, Nat.reduceSub, Nat.add_zero, Nat.zero_add, Int.reduceEq, Int.reduceLT]; rfl) ?_; clear hK
  refine AWP.stepR [0, 3] fun K hK => ?_ -- r1
  simp only [go_sem, Nat.reduceEqDiff, Nat.reduceLT, Nat.reduceAdd, Nat.reduceMul, Nat.reduceSub, Nat.add_zero, Nat.zero_add, Int.reduceEq, Int.reduceLT]
  refine hK _ _ _ (by simp only [go_sem, Nat.reduceEqDiff, Nat.reduceLT, Nat.reduceAdd, Nat.reduceMul, Nat.reduceSub, Nat.add_zero, Nat.zero_add, Int.reduceEq, Int.reduceLT]; rfl) ?_; clear hK
  refine AWP.seq ?_
  refine AWP.stepR [0, 3, 9, 10, 11] fun K hK => ?_ -- r2
  simp only [go_sem, Nat.reduceEqDiff, Nat.reduceLT, Nat.reduceAdd, Nat.reduceMul, Nat.reduceSub, Nat.add_zero, Nat.zero_add, Int.reduceEq, Int.reduceLT, hv.len es_59]
  refine hK _ _ _ (by simp only [go_sem, Nat.reduceEqDiff, Nat.reduceLT, Nat.reduceAdd, Nat.reduceMul, Nat.reduceSub, Nat.add_zero, Nat.zero_add, Int.reduceEq, Int.reduceLT]; rfl) ?_; clear hK
  refine AWP.block ?_ -- b0
  refine AWP.loopK [0, 3, 9, 10, 11] (fun n e M0 => M0 = M ∧ n ≤ vs.length ∧ e = [(0, v), (3, .int .i64 ((ls.take (vs.length - n)).flatten.length : Nat)), (9, v), (10, .int .i64 vs.length), (11, .int .i64 ((vs.length - n : Nat) : Int))]) vs.length ?_ fun n e M0 hI => ?_ -- LOOP
  · simp only [go_sem, Nat.reduceEqDiff, Nat.reduceLT, Nat.reduceAdd, Nat.reduceMul, Nat.reduceSub, Nat.add_zero, Nat.zero_add, Int.reduceEq, Int.reduceLT, Nat.le_refl]
    simp
  obtain ⟨rfl, hn', rfl⟩ := hI
  refine AWP.stepR [0, 3, 9, 10, 11, 12] fun K hK => ?_ -- r3
  simp only [go_sem, Nat.reduceEqDiff, Nat.reduceLT, Nat.reduceAdd, Nat.reduceMul, Nat.reduceSub, Nat.add_zero, Nat.zero_add, Int.reduceEq, Int.reduceLT]
  refine hK _ _ _ (by simp only [go_sem, Nat.reduceEqDiff, Nat.reduceLT, Nat.reduceAdd, Nat.reduceMul, Nat.reduceSub, Nat.add_zero, Nat.zero_add, Int.reduceEq, Int.reduceLT]; rfl) ?_; clear hK
  refine AWP.condS rfl (fun h12 => ?_) fun h12 => ?_
  · have hlt : vs.length - n < vs.length := by simpa using h12
    have hlt' : vs.length - n < ls.length := by rw [← hp.1]; exact hlt
    obtain ⟨b, q, ha, hd⟩ := hv.at1 rfl es_59 hlt
    have hd := hd M0 (Grew.refl _)
    rw [List.getElem?_eq_getElem hlt] at hd
    have hx := hp.2 _ _ _ (List.getElem?_eq_getElem hlt) (List.getElem?_eq_getElem hlt')
    generalize vs[vs.length - n] = x at hd hx
    refine AWP.skip ?_
    refine AWP.seq ?_
    refine AWP.block ?_ -- b1
    refine AWP.stepR [0, 3, 5, 9, 10, 11] fun K hK => ?_ -- r4
    simp only [go_sem, Nat.reduceEqDiff, Nat.reduceLT, Nat.reduceAdd, Nat.reduceMul, Nat.reduceSub, Nat.add_zero, Nat.zero_add, Int.reduceEq, Int.reduceLT, ha, ld_42, hd]
    refine hK _ _ _ (by simp only [go_sem, Nat.reduceEqDiff, Nat.reduceLT, Nat.reduceAdd, Nat.reduceMul, Nat.reduceSub, Nat.add_zero, Nat.zero_add, Int.reduceEq, Int.reduceLT]; rfl) ?_; clear hK
    refine AWP.lastR fun K hK => ?_ -- r5
    simp only [go_sem, Nat.reduceEqDiff, Nat.reduceLT, Nat.reduceAdd, Nat.reduceMul, Nat.reduceSub, Nat.add_zero, Nat.zero_add, Int.reduceEq, Int.reduceLT, hx.len es_42]
    refine hK _ _ ?_; clear hK
    refine AWP.lastR fun K hK => ?_ -- r6
    simp only [go_sem, Nat.reduceEqDiff, Nat.reduceLT, Nat.reduceAdd, Nat.reduceMul, Nat.reduceSub, Nat.add_zero, Nat.zero_add, Int.reduceEq, Int.reduceLT]
    refine hK _ _ ?_; clear hK
    have hfl := take_flat ls hlt'
    have hfe : (ls.take (vs.length - n)).flatten.length + ls[vs.length - n].length = (ls.take (vs.length - n + 1)).flatten.length := by rw [hfl, List.length_append]
    have hfle := flat_le ls (vs.length - n + 1)
    refine ⟨rfl, n - 1, by omega, rfl, by omega, ?_⟩ -- ROUND
    simp only [go_sem, Nat.reduceEqDiff, Nat.reduceLT, Nat.reduceAdd, Nat.reduceMul, Nat.reduceSub, Nat.add_zero, Nat.zero_add, Int.reduceEq, Int.reduceLT]
    rw [i64w (by omega) (by omega), i64w (by omega) (by omega), show ((vs.length - n : Nat) : Int) + 1 = ((vs.length - (n - 1) : Nat) : Int) by omega,
      show (((ls.take (vs.length - n)).flatten.length : Nat) : Int) + ((ls[vs.length - n].length : Nat) : Int) = (((ls.take (vs.length - (n - 1))).flatten.length : Nat) : Int) by rw [show vs.length - (n - 1) = vs.length - n + 1 by omega]; omega]
  · refine AWP.exit (Then.exit (Then.exit (InBlock.same ?_))) -- x0
    have hn0 : n = 0 := by simp at h12; omega
    subst hn0
    rw [Nat.sub_zero, hp.1, List.take_length]
    have hms : (0 ≤ (0 : Int) ∧ (0 : Int) ≤ (ls.flatten.length : Int) ∧ (ls.flatten.length : Int) ≤ 281474976710656 ∧ ((1 : Nat) : Int) * (ls.flatten.length : Int) ≤ 281474976710656) = True := eq_true ⟨by omega, by omega, by omega, by omega⟩
    refine AWP.stepR [0, 6] fun K hK => ?_ -- r7
    simp only [go_sem, Nat.reduceEqDiff, Nat.reduceLT, Nat.reduceAdd, Nat.reduceMul, Nat.reduceSub, Nat.add_zero, Nat.zero_add, Int.reduceEq, Int.reduceLT, hms, Int.toNat_natCast, Int.toNat_zero]
    refine hK _ _ _ (by simp only [go_sem, Nat.reduceEqDiff, Nat.reduceLT, Nat.reduceAdd, Nat.reduceMul, Nat.reduceSub, Nat.add_zero, Nat.zero_add, Int.reduceEq, Int.reduceLT]; rfl) ?_; clear hK
    have hlt0 : M0.next < (M0.bump 1).next := Nat.lt_succ_self _
    generalize hM1 : (M0.bump 1).put M0.next ⟨zrow Tryz.prog 5 ls.flatten.length, 5, true⟩ = M1
    have hg1 : Grew M0 M1 := by rw [← hM1]; exact ((Grew.refl M0).bump 1).put (Nat.le_refl _) hlt0 _
    have ho1 : Own M0 M1 (.slice (some ⟨M0.next, 0, none⟩) 0 ls.flatten.length) 0 [] 5 := .inr ⟨M0.next, _, _, Nat.le_refl _, by rw [← hM1, Mem.next_put]; exact hlt0, rfl, by rw [← hM1, Mem.get_put, if_pos rfl], rfl, ⟨rfl, rfl⟩, .inl ⟨rfl, rfl⟩⟩
    have hcap0 : CapOk (.slice (some ⟨M0.next, 0, none⟩) 0 ls.flatten.length) := ⟨_, _, _, rfl, .inr (Nat.zero_le _)⟩
    generalize Value.slice (some ⟨M0.next, 0, none⟩) 0 ls.flatten.length = b0 at ho1 hcap0
    refine AWP.seq ?_
    refine AWP.stepR [6, 22, 23, 24] fun K hK => ?_ -- r8
    simp only [go_sem, Nat.reduceEqDiff, Nat.reduceLT, Nat.reduceAdd, Nat.reduceMul, Nat.reduceSub, Nat.add_zero, Nat.zero_add, Int.reduceEq, Int.reduceLT, hv.len es_59]
    refine hK _ _ _ (by simp only [go_sem, Nat.reduceEqDiff, Nat.reduceLT, Nat.reduceAdd, Nat.reduceMul, Nat.reduceSub, Nat.add_zero, Nat.zero_add, Int.reduceEq, Int.reduceLT]; rfl) ?_; clear hK
    refine AWP.block ?_ -- b2
    refine AWP.loopK [6, 22, 23, 24] (fun n e M2 => n ≤ vs.length ∧ Grew M0 M2 ∧ ∃ bv, e = [(6, bv), (22, v), (23, .int .i64 vs.length), (24, .int .i64 ((vs.length - n : Nat) : Int))] ∧ OwnB M0 M2 bv (ls.take (vs.length - n)).flatten 5 ∧ CapOk bv) vs.length ?_ fun n e M2 hI => ?_ -- LOOP
    · simp only [go_sem, Nat.reduceEqDiff, Nat.reduceLT, Nat.reduceAdd, Nat.reduceMul, Nat.reduceSub, Nat.add_zero, Nat.zero_add, Int.reduceEq, Int.reduceLT, Nat.le_refl]
      exact ⟨hg1, b0, by simp, by rw [Nat.sub_self]; exact ho1, hcap0⟩
    obtain ⟨hn', hg2, bv, rfl, ho2, hcap⟩ := hI
    refine AWP.stepR [6, 22, 23, 24, 25] fun K hK => ?_ -- r9
    simp only [go_sem, Nat.reduceEqDiff, Nat.reduceLT, Nat.reduceAdd, Nat.reduceMul, Nat.reduceSub, Nat.add_zero, Nat.zero_add, Int.reduceEq, Int.reduceLT]
    refine hK _ _ _ (by simp only [go_sem, Nat.reduceEqDiff, Nat.reduceLT, Nat.reduceAdd, Nat.reduceMul, Nat.reduceSub, Nat.add_zero, Nat.zero_add, Int.reduceEq, Int.reduceLT]; rfl) ?_; clear hK
    refine AWP.condS rfl (fun h25 => ?_) fun h25 => ?_
    · have hlt : vs.length - n < vs.length := by simpa using h25
      have hlt' : vs.length - n < ls.length := by rw [← hp.1]; exact hlt
      obtain ⟨b, q, ha, hd⟩ := hv.at1 rfl es_59 hlt
      have hd := hd M2 hg2
      rw [List.getElem?_eq_getElem hlt] at hd
      have hx := (hp.2 _ _ _ (List.getElem?_eq_getElem hlt) (List.getElem?_eq_getElem hlt')).grew hg2
      generalize vs[vs.length - n] = x at hd hx
      have hfl := take_flat ls hlt'
      have hfe : (ls.take (vs.length - n)).flatten.length + ls[vs.length - n].length = (ls.take (vs.length - n + 1)).flatten.length := by rw [hfl, List.length_append]
      have hfle := flat_le ls (vs.length - n + 1)
      refine AWP.skip ?_
      refine AWP.seq ?_
      refine AWP.block ?_ -- b3
      refine AWP.stepR [6, 8, 22, 23, 24] fun K hK => ?_ -- r10
      simp only [go_sem, Nat.reduceEqDiff, Nat.reduceLT, Nat.reduceAdd, Nat.reduceMul, Nat.reduceSub, Nat.add_zero, Nat.zero_add, Int.reduceEq, Int.reduceLT, ha, ld_42, hd]
      refine hK _ _ _ (by simp only [go_sem, Nat.reduceEqDiff, Nat.reduceLT, Nat.reduceAdd, Nat.reduceMul, Nat.reduceSub, Nat.add_zero, Nat.zero_add, Int.reduceEq, Int.reduceLT]; rfl) ?_; clear hK
      obtain ⟨v2, M3, happ, ho3, hg3, hnx, hfr⟩ := Own.append ap_42_42 hg2 ho2 (by rw [cB_length, Nat.mul_one]) (hx.content (by rw [cB_length, Nat.mul_one])) (cB_one _) (by omega)
      refine AWP.lastR fun K hK => ?_ -- r11
      simp only [go_sem, Nat.reduceEqDiff, Nat.reduceLT, Nat.reduceAdd, Nat.reduceMul, Nat.reduceSub, Nat.add_zero, Nat.zero_add, Int.reduceEq, Int.reduceLT, happ]
      refine hK _ _ ?_; clear hK
      refine AWP.lastR fun K hK => ?_ -- r12
      simp only [go_sem, Nat.reduceEqDiff, Nat.reduceLT, Nat.reduceAdd, Nat.reduceMul, Nat.reduceSub, Nat.add_zero, Nat.zero_add, Int.reduceEq, Int.reduceLT]
      refine hK _ _ ?_; clear hK
      refine ⟨rfl, n - 1, by omega, by omega, hg3, v2, ?_, ?_, CapOk.app hcap happ⟩ -- ROUND
      · simp only [go_sem, Nat.reduceEqDiff, Nat.reduceLT, Nat.reduceAdd, Nat.reduceMul, Nat.reduceSub, Nat.add_zero, Nat.zero_add, Int.reduceEq, Int.reduceLT]
        rw [i64w (by omega) (by omega), show ((vs.length - n : Nat) : Int) + 1 = ((vs.length - (n - 1) : Nat) : Int) by omega]
      · rw [hfe, ← cB_append, ← hfl] at ho3
        rw [show vs.length - (n - 1) = vs.length - n + 1 by omega]
        exact ho3
    · refine AWP.exit (Then.exit (Then.exit (InBlock.same ?_))) -- x2
      have hn0 : n = 0 := by simp at h25; omega
      subst hn0
      rw [Nat.sub_zero, hp.1, List.take_length] at ho2
      refine AWP.stepR [2] fun K hK => ?_ -- r13
      simp only [go_sem, Nat.reduceEqDiff, Nat.reduceLT, Nat.reduceAdd, Nat.reduceMul, Nat.reduceSub, Nat.add_zero, Nat.zero_add, Int.reduceEq, Int.reduceLT]
      refine hK _ _ _ (by simp only [go_sem, Nat.reduceEqDiff, Nat.reduceLT, Nat.reduceAdd, Nat.reduceMul, Nat.reduceSub, Nat.add_zero, Nat.zero_add, Int.reduceEq, Int.reduceLT]; rfl) ?_; clear hK
      refine AWP.ret (?_)
      exact Fin.keep ⟨.inr rfl, rfl⟩ rfl ⟨hg2, ho2, hcap⟩

theorem RowE.own {M M1 : Mem} {v : Value} {l : List Int} (h : OwnB M M1 v l 5) (hc : CapOk v) : RowE M1 v l.length (cB l) 5 := by
  obtain ⟨id, n, c, rfl, hn⟩ := hc
  rcases h with ⟨h, _⟩ | ⟨id', c', blk, h0, h1, h2, h3, h4, h5, h6⟩
  · cases h
  · cases h2
    refine ⟨_, 0, _, blk, rfl, hn, ⟨rowsOf_of h3 (by rw [h5.1]; exact h5.2), h1⟩, h5.1, ?_, ?_⟩
    · rcases h6 with ⟨_, h6⟩ | h6
      · rw [h6]; simp
      · rw [h6]; omega
    · rcases h6 with ⟨_, h6⟩ | h6
      · rw [h6]; simp
      · rw [h6]; simp
theorem CapOk.apart {M M1 : Mem} {v : Value} {n : Nat} {cells : List Value} {e : TypeId} (h : Own M M1 v n cells e) {p : Nat} (hp : p < M.next) : Apart v p := h.apart (.inl hp)
end Go.Proofs.YtopblipficpilaaGreatDoor.AY

/- A reader's methods: a number, bytes; a reader of bytes. -/
namespace Go.Proofs.YtopblipficpilaaGreatDoor.AY
open Go Go.Proofs
set_option maxRecDepth 100000
set_option linter.unusedVariables false
set_option linter.unusedSimpArgs false


def numS (s : Rs) (k : Int) : Rs × Int := ((takeS s k).1, numN (takeS s k).2)
def failS (s : Rs) (c : Int) : Rs := if s.code = 0 then ⟨s.b, c⟩ else s
theorem takeS_bytes {s : Rs} (h : BytB s.b) (k : Int) : BytB (takeS s k).1.b ∧ BytB (takeS s k).2 := by
  unfold takeS
  split
  · split
    · exact ⟨h, fun x hx => by cases hx⟩
    · exact ⟨fun x hx => h x (List.mem_of_mem_drop hx), fun x hx => h x (List.mem_of_mem_take hx)⟩
  · exact ⟨h, fun x hx => by cases hx⟩
theorem takeS_len (s : Rs) (k : Int) : (takeS s k).1.b.length ≤ s.b.length ∧ (takeS s k).2.length ≤ s.b.length ∧ (0 ≤ k → ((takeS s k).2.length : Int) ≤ k) := by
  unfold takeS
  split
  · split
    · exact ⟨Nat.le_refl _, by simp, fun h => by simpa using h⟩
    · exact ⟨by simp only [List.length_drop]; omega, by simp only [List.length_take]; omega, fun h => by simp only [List.length_take]; omega⟩
  · exact ⟨Nat.le_refl _, by simp, fun h => by simpa using h⟩

theorem Within.put {M : Mem} {j : Nat} (h : M.get j = none) (b : Blk) : Within M.get (M.put j b).get := fun i c hi => by
  rw [Mem.get_put, if_neg (by rintro rfl; rw [h] at hi; cases hi)]; exact hi
theorem Ok.put {M : Mem} (hok : Ok M) {j : Nat} (hj : j < M.next) (b : Blk) : Ok (M.put j b) := fun i c hi => by
  rw [Mem.next_put]
  rw [Mem.get_put] at hi
  by_cases hij : i = j
  · rw [hij]; exact hj
  · rw [if_neg hij] at hi; exact hok i c hi
theorem Has.within {M M1 : Mem} {i : Nat} {b : Blk} (h : Has M i b) (hw : Within M.get M1.get) (hn : M.next ≤ M1.next) : Has M1 i b := ⟨rowsOf_of (hw _ _ (rowsOf_some h.1).1) (rowsOf_some h.1).2, Nat.lt_of_lt_of_le h.2 hn⟩
theorem Row_.within {M M1 : Mem} {v : Value} {n : Nat} {cells : List Value} (h : Row_ M v n cells) (hw : Within M.get M1.get) (hn : M.next ≤ M1.next) : Row_ M1 v n cells := by
  rcases h with h | ⟨b, o, c, blk, h1, h2, h3⟩
  · exact .inl h
  · exact .inr ⟨b, o, c, blk, h1, h2.within hw hn, h3⟩
theorem RowE.within {M M1 : Mem} {v : Value} {n : Nat} {cells : List Value} {e : TypeId} (h : RowE M v n cells e) (hw : Within M.get M1.get) (hn : M.next ≤ M1.next) : RowE M1 v n cells e := by
  obtain ⟨b, o, c, blk, h1, h0, h2, h3⟩ := h
  exact ⟨b, o, c, blk, h1, h0, h2.within hw hn, h3⟩
theorem RdS.within {M M1 : Mem} {p : Nat} {D : Nat → Prop} {s : Rs} (h : RdS M p D s) (hw : Within M.get M1.get) (hn : M.next ≤ M1.next) : RdS M1 p D s := by
  obtain ⟨vb, h1, h2, h3⟩ := h
  exact ⟨vb, h1.within hw hn, h2.within hw hn, h3⟩

theorem number59_spec (p : Nat) (D : Nat → Prop) (s : Rs) (k : Int) (M : Mem) (hok : Ok M) (hs : RdS M p D s) (hl : s.b.length ≤ 4611686018427387904) (hb : BytB s.b) (hk : 0 ≤ k ∧ k ≤ 8) :
    ∃ r M', ACall Tryz.prog 59 #[.pointer (some ⟨p, 0, none⟩), .int .i64 k] M r M' ∧ GrewX p M M' ∧ RdS M' p D (numS s k).1 ∧ r = .int .u64 (numS s k).2 := by
  refine ACall.fin (args := [.pointer (some ⟨p, 0, none⟩), .int .i64 k]) (k := 9) (rs := [.tmp 4]) Tryz.func59 rfl rfl rfl (Nat.le_of_ble_eq_true rfl) ?_
  obtain ⟨r1, M1, hc1, hg1, hs1, hr1, ha1⟩ := take114_spec p D s k M hs hl
  have hlen := (takeS_len s k).2.2 hk.1
  obtain ⟨r2, M2, hc2, hr2, hM2⟩ := get113_spec r1 (takeS s k).2 M1 (hg1.ok hok) hr1 (takeS_bytes hb k).2 (by omega)
  rw [hr2, hM2] at hc2
  refine AWP.stepR [0, 1] fun K hK => ?_
  simp only [go_sem, Nat.reduceEqDiff, Nat.reduceLT, Nat.reduceAdd, Nat.reduceMul, Nat.reduceSub, Nat.add_zero, Nat.zero_add, Int.reduceEq, Int.reduceLT]
  refine hK _ _ _ (by simp only [go_sem, Nat.reduceEqDiff, Nat.reduceLT, Nat.reduceAdd, Nat.reduceMul, Nat.reduceSub, Nat.add_zero, Nat.zero_add, Int.reduceEq, Int.reduceLT]; rfl) ?_; clear hK
  refine AWP.stepR [4] fun K hK => ?_
  simp only [go_sem, Nat.reduceEqDiff, Nat.reduceLT, Nat.reduceAdd, Nat.reduceMul, Nat.reduceSub, Nat.add_zero, Nat.zero_add, Int.reduceEq, Int.reduceLT]
  refine ⟨_, _, hc1, ?_⟩
  refine ⟨_, _, hc2, ?_⟩
  refine hK _ _ _ (by simp only [go_sem, Nat.reduceEqDiff, Nat.reduceLT, Nat.reduceAdd, Nat.reduceMul, Nat.reduceSub, Nat.add_zero, Nat.zero_add, Int.reduceEq, Int.reduceLT]; rfl) ?_; clear hK
  refine AWP.ret (?_)
  exact Fin.keep ⟨.inr rfl, rfl⟩ rfl ⟨hg1, hs1, rfl⟩

theorem bytes115_spec (p : Nat) (D : Nat → Prop) (s : Rs) (k : Int) (M : Mem) (hok : Ok M) (hs : RdS M p D s) (hl : s.b.length ≤ 1000000000) :
    ∃ r M', ACall Tryz.prog 115 #[.pointer (some ⟨p, 0, none⟩), .int .i64 k] M r M' ∧ GrewX p M M' ∧ RdS M' p D (takeS s k).1 ∧ OwnB M M' r (takeS s k).2 5 := by
  refine ACall.fin (args := [.pointer (some ⟨p, 0, none⟩), .int .i64 k]) (k := 10) (rs := [.tmp 4]) Tryz.func115 rfl rfl rfl (Nat.le_of_ble_eq_true rfl) ?_
  have hgb := (Grew.refl M).bump 1
  obtain ⟨r1, M1, hc1, hg1, hs1, hr1, ha1⟩ := take114_spec p D s k (M.bump 1) (hs.grew hgb) (by omega)
  have hlt : M.next < M1.next := by have := hg1.next; rw [Mem.next_bump] at this; omega
  have hp := hs.lt
  have hnone : M1.get M.next = none := by
    rw [hg1.keep M.next (by rw [Mem.next_bump]; omega) (by omega), Mem.get_bump]
    cases h : M.get M.next with
    | none => rfl
    | some b => have := hok _ _ h; omega
  have hw : Within M1.get (M1.put M.next ⟨[r1], 42, true⟩).get := Within.put hnone _
  have hok2 : Ok (M1.put M.next ⟨[r1], 42, true⟩) := (Grew.refl M1 |>.ok (hg1.ok (hgb.ok hok))).put hlt _
  have hh2 : Has (M1.put M.next ⟨[r1], 42, true⟩) M.next ⟨[r1], 42, true⟩ := Has.put hlt _
  have hs2 := hs1.within hw (Nat.le_refl _)
  have hr2 := hr1.within hw (Nat.le_refl _)
  have hlen := (takeS_len s k).2.1
  obtain ⟨r3, M3, hc3, hg3, ho3, hcap⟩ := joinE55_spec (.slice (some ⟨M.next, 0, none⟩) 1 1) [r1] [(takeS s k).2] (M1.put M.next ⟨[r1], 42, true⟩) hok2 (Row_.of hh2) (.cons hr2 (.nil _)) (by simp; omega) (by simp)
  rw [show [(takeS s k).2].flatten = (takeS s k).2 by simp] at ho3
  refine AWP.stepR [0, 1] fun K hK => ?_
  simp only [go_sem, Nat.reduceEqDiff, Nat.reduceLT, Nat.reduceAdd, Nat.reduceMul, Nat.reduceSub, Nat.add_zero, Nat.zero_add, Int.reduceEq, Int.reduceLT]
  refine hK _ _ _ (by simp only [go_sem, Nat.reduceEqDiff, Nat.reduceLT, Nat.reduceAdd, Nat.reduceMul, Nat.reduceSub, Nat.add_zero, Nat.zero_add, Int.reduceEq, Int.reduceLT]; rfl) ?_; clear hK
  refine AWP.stepR [4] fun K hK => ?_
  simp only [go_sem, Nat.reduceEqDiff, Nat.reduceLT, Nat.reduceAdd, Nat.reduceMul, Nat.reduceSub, Nat.add_zero, Nat.zero_add, Int.reduceEq, Int.reduceLT]
  refine ⟨_, _, hc1, ?_⟩
  try simp only [go_sem, Nat.reduceEqDiff, Nat.reduceLT, Nat.reduceAdd, Nat.reduceMul, Nat.reduceSub, Nat.add_zero, Nat.zero_add, Int.reduceEq, Int.reduceLT, hr1.one]
  refine ⟨_, _, hc3, ?_⟩
  refine hK _ _ _ (by simp only [go_sem, Nat.reduceEqDiff, Nat.reduceLT, Nat.reduceAdd, Nat.reduceMul, Nat.reduceSub, Nat.add_zero, Nat.zero_add, Int.reduceEq, Int.reduceLT]; rfl) ?_; clear hK
  refine AWP.ret (?_)
  refine Fin.keep ⟨.inr rfl, rfl⟩ rfl ⟨⟨fun i hi hip => ?_, ?_, fun _ => hg3.ok hok2⟩, hs2.grew hg3, ho3.base (by simp only [Mem.next_put]; omega)⟩
  · rw [hg3.keep i (by simp only [Mem.next_put]; omega), Mem.get_put, if_neg (by omega)]
    exact hg1.keep i (by rw [Mem.next_bump]; omega) hip
  · show M.next ≤ M3.next
    have := hg3.next; simp only [Mem.next_put] at this; omega

theorem bd_204 {v : Value} (h : v.oneCell' = true) : buildV Tryz.prog 204 [(0, v)] = some (.agg #[v, .int .i64 0]) := by
  cases v <;> first | rfl | (simp [Value.oneCell'] at h)
theorem read58_spec (v : Value) (l : List Int) (M : Mem) (hok : Ok M) (hv : RowB M v l) (hl : l.length ≤ 1000000000) :
    ∃ r M', ACall Tryz.prog 58 #[v] M r M' ∧ Grew M M' ∧ ∃ p, r = .pointer (some ⟨p, 0, none⟩) ∧ p = M.next + 1 ∧ RdS M' p (fun j => j ≤ M.next + 1 ∨ M'.next ≤ j) ⟨l, 0⟩ := by
  refine ACall.fin (args := [v]) (k := 8) (rs := [.tmp 2]) Tryz.func58 rfl rfl rfl (Nat.le_of_ble_eq_true rfl) ?_
  have hgb := (Grew.refl M).bump 2
  have hlt1 : M.next < (M.bump 2).next := by rw [Mem.next_bump]; omega
  obtain ⟨hg1, hh1⟩ := mk_put hgb (Nat.le_refl _) hlt1 ⟨[v], 42, true⟩
  obtain ⟨r2, M2, hc2, hg2, ho2, hcap⟩ := joinE55_spec (.slice (some ⟨M.next, 0, none⟩) 1 1) [v] [l] ((M.bump 2).put M.next ⟨[v], 42, true⟩) (hg1.ok hok) (Row_.of hh1) (.cons (hv.grew hg1) (.nil _)) (by simp; omega) (by simp)
  rw [show [l].flatten = l by simp] at ho2
  have hE := RowE.own ho2 hcap
  have hlt2 : M.next + 1 < M2.next := by have := hg2.next; simp only [Mem.next_put, Mem.next_bump] at this; omega
  obtain ⟨hg3, hh3⟩ := mk_put (hg1.trans hg2) (show M.next ≤ M.next + 1 by omega) hlt2 ⟨[r2, .int .i64 0], 204, true⟩
  have ha : Apart r2 (M.next + 1) := ho2.apart (.inl (by simp only [Mem.next_put, Mem.next_bump]; omega))
  have hE3 : RowE (M2.put (M.next + 1) ⟨[r2, .int .i64 0], 204, true⟩) r2 l.length (cB l) 5 := hE.x (p := M.next + 1) ((GrewX.refl _ _).put hlt2 _) ha
  refine AWP.stepR [0] fun K hK => ?_
  simp only [go_sem, Nat.reduceEqDiff, Nat.reduceLT, Nat.reduceAdd, Nat.reduceMul, Nat.reduceSub, Nat.add_zero, Nat.zero_add, Int.reduceEq, Int.reduceLT]
  refine hK _ _ _ (by simp only [go_sem, Nat.reduceEqDiff, Nat.reduceLT, Nat.reduceAdd, Nat.reduceMul, Nat.reduceSub, Nat.add_zero, Nat.zero_add, Int.reduceEq, Int.reduceLT]; rfl) ?_; clear hK
  refine AWP.stepR [2] fun K hK => ?_
  simp only [go_sem, Nat.reduceEqDiff, Nat.reduceLT, Nat.reduceAdd, Nat.reduceMul, Nat.reduceSub, Nat.add_zero, Nat.zero_add, Int.reduceEq, Int.reduceLT, hv.one]
  refine ⟨_, _, hc2, ?_⟩
  try simp only [go_sem, Nat.reduceEqDiff, Nat.reduceLT, Nat.reduceAdd, Nat.reduceMul, Nat.reduceSub, Nat.add_zero, Nat.zero_add, Int.reduceEq, Int.reduceLT, bd_204 ho2.row.one]
  refine hK _ _ _ (by simp only [go_sem, Nat.reduceEqDiff, Nat.reduceLT, Nat.reduceAdd, Nat.reduceMul, Nat.reduceSub, Nat.add_zero, Nat.zero_add, Int.reduceEq, Int.reduceLT]; rfl) ?_; clear hK
  refine AWP.ret (?_)
  refine Fin.keep ⟨.inr rfl, rfl⟩ rfl ⟨hg3, M.next + 1, rfl, rfl, r2, hh3, hE3, .inl (Nat.le_refl _), fun j hj => ?_⟩
  rcases hj with hj | hj
  · exact ho2.apart (.inl (by simp only [Mem.next_put, Mem.next_bump]; omega))
  · exact ho2.apart (.inr (by simpa only [Mem.next_put] using hj))

theorem code61_spec (p : Nat) (D : Nat → Prop) (s : Rs) (M : Mem) (hok : Ok M) (hs : RdS M p D s) : ∃ r M', ACall Tryz.prog 61 #[.pointer (some ⟨p, 0, none⟩)] M r M' ∧ r = .int .i64 s.code ∧ M' = M := by
  obtain ⟨vb, hh, hv, hDp, hD⟩ := hs
  refine ACall.fin (args := [.pointer (some ⟨p, 0, none⟩)]) (k := 7) (rs := [.tmp 2]) Tryz.func61 rfl rfl rfl (Nat.le_of_ble_eq_true rfl) ?_
  refine AWP.stepR [0] fun K hK => ?_
  simp only [go_sem, Nat.reduceEqDiff, Nat.reduceLT, Nat.reduceAdd, Nat.reduceMul, Nat.reduceSub, Nat.add_zero, Nat.zero_add, Int.reduceEq, Int.reduceLT]
  refine hK _ _ _ (by simp only [go_sem, Nat.reduceEqDiff, Nat.reduceLT, Nat.reduceAdd, Nat.reduceMul, Nat.reduceSub, Nat.add_zero, Nat.zero_add, Int.reduceEq, Int.reduceLT]; rfl) ?_; clear hK
  refine AWP.stepR [2] fun K hK => ?_
  simp only [go_sem, Nat.reduceEqDiff, Nat.reduceLT, Nat.reduceAdd, Nat.reduceMul, Nat.reduceSub, Nat.add_zero, Nat.zero_add, Int.reduceEq, Int.reduceLT, ld_35, hh.ld]
  refine hK _ _ _ (by simp only [go_sem, Nat.reduceEqDiff, Nat.reduceLT, Nat.reduceAdd, Nat.reduceMul, Nat.reduceSub, Nat.add_zero, Nat.zero_add, Int.reduceEq, Int.reduceLT]; rfl) ?_; clear hK
  refine AWP.ret (?_)
  exact Fin.plain ⟨.inr rfl, rfl⟩ rfl rfl hok (Grew.refl _) ⟨rfl, rfl⟩
end Go.Proofs.YtopblipficpilaaGreatDoor.AY

/- What a function holds that reads with a reader: its reader, its variables, its rows. -/
namespace Go.Proofs.YtopblipficpilaaGreatDoor.AY
open Go Go.Proofs
set_option maxRecDepth 100000
set_option linter.unusedVariables false
set_option linter.unusedSimpArgs false


/-- a row that is held -/
structure Rw where
  v : Value
  n : Nat
  cells : List Value
  e : TypeId
/-- two rows that lie in no one block -/
def Sep (v w : Value) : Prop := ∀ j o n c, w = .slice (some ⟨j, o, none⟩) n c → Apart v j
theorem Sep.symm {v w : Value} (h : Sep v w) : Sep w v := fun j o n c hv o2 n2 c2 hw => h j o2 n2 c2 hw o n c hv
theorem Sep.nil (v : Value) : Sep v (.slice none 0 0) := fun j o n c h => by cases h
/-- the base of a number -/
def baseN (N : Nat) : Mem := ⟨N, .nil⟩

structure Lo (N : Nat) (M : Mem) (p : Nat) (D : Nat → Prop) (s : Rs) (fx : Mm) (R : Rw → Prop) : Prop where
  ok : Ok M
  next : N ≤ M.next
  pN : p < N
  rd : RdS M p D s
  hD : ∀ j, N ≤ j → D j
  fx : ∀ i b, fx i = some b → Has M i b ∧ i ≠ p ∧ D i ∧ ∀ r, R r → Apart r.v i
  rows : ∀ r, R r → Own (baseN N) M r.v r.n r.cells r.e
  sep : ∀ a b, R a → R b → a = b ∨ Sep a.v b.v

section
variable {N : Nat} {M M1 : Mem} {p : Nat} {D : Nat → Prop} {s s' : Rs} {fx : Mm} {R : Rw → Prop}
theorem Own.within {Mb : Mem} {v : Value} {n : Nat} {cells : List Value} {e : TypeId} (h : Own Mb M v n cells e) (hw : ∀ i b, Mb.next ≤ i → M.get i = some b → M1.get i = some b) (hn : M.next ≤ M1.next) : Own Mb M1 v n cells e := by
  rcases h with h | ⟨id, c, blk, h0, h1, h2, h3, h4⟩
  · exact .inl h
  · exact .inr ⟨id, c, blk, h0, Nat.lt_of_lt_of_le h1 hn, h2, hw _ _ h0 h3, h4⟩
theorem Lo.within (h : Lo N M p D s fx R) (hw : Within M.get M1.get) (hn : M.next ≤ M1.next) (hok : Ok M1) : Lo N M1 p D s fx R :=
  ⟨hok, Nat.le_trans h.next hn, h.pN, h.rd.within hw hn, h.hD, fun i b hi => let ⟨h1, h2⟩ := h.fx i b hi; ⟨h1.within hw hn, h2⟩, fun r hr => (h.rows r hr).within (fun i b _ hi => hw i b hi) hn, h.sep⟩
theorem Lo.grow (h : Lo N M p D s fx R) (hg : Grew M M1) : Lo N M1 p D s fx R := h.within (hg.within h.ok) hg.next (hg.ok h.ok)
/-- the reader has read -/
theorem Lo.rdr (h : Lo N M p D s fx R) (hg : GrewX p M M1) (hs : RdS M1 p D s') : Lo N M1 p D s' fx R := by
  refine ⟨hg.ok h.ok, Nat.le_trans h.next hg.next, h.pN, hs, h.hD, fun i b hi => ?_, fun r hr => ?_, h.sep⟩
  · obtain ⟨h1, h2, h3⟩ := h.fx i b hi
    exact ⟨h1.x hg h2, h2, h3⟩
  · have h1 := h.rows r hr
    rcases h1 with h1 | ⟨id, c, blk, h0, h1, h2, h3, h4⟩
    · exact .inl h1
    · refine .inr ⟨id, c, blk, h0, Nat.lt_of_lt_of_le h1 hg.next, h2, ?_, h4⟩
      have : N ≤ id := h0
      have hp := h.pN
      rw [hg.keep id h1 (by omega)]; exact h3
/-- a variable more -/
theorem Lo.new (h : Lo N M p D s fx R) {j : Nat} (hj : j < M.next) (hN : N ≤ j) (hnone : M.get j = none) (hrows : ∀ r, R r → Apart r.v j) (b : Blk) (ho : isObj b.elem = false := by rfl) : Lo N (M.put j b) p D s (updM fx j b) R := by
  have hw := Within.put hnone b
  have hp := h.pN
  have h1 := h.within hw (by rw [Mem.next_put]; exact Nat.le_refl _) (h.ok.put hj b)
  refine ⟨h1.ok, h1.next, h1.pN, h1.rd, h1.hD, fun i b' hi => ?_, h1.rows, h1.sep⟩
  unfold updM at hi
  split at hi
  · rename_i hij
    cases hi
    subst hij
    exact ⟨Has.put hj b ho, by omega, h.hD _ hN, hrows⟩
  · exact h1.fx i b' hi
/-- a variable set -/
theorem Lo.set (h : Lo N M p D s fx R) {j : Nat} {b0 : Blk} (hj : fx j = some b0) (b : Blk) (ho : isObj b.elem = false := by rfl) : Lo N (M.put j b) p D s (updM fx j b) R := by
  obtain ⟨h1, h2, h3, h4⟩ := h.fx j b0 hj
  have hx : GrewX j M (M.put j b) := (GrewX.refl j M).put h1.2 b
  obtain ⟨vb, g1, g2, g3, g4⟩ := h.rd
  refine ⟨hx.ok h.ok, by rw [Mem.next_put]; exact h.next, h.pN, ⟨vb, g1.x hx (Ne.symm h2), g2.x hx (g4 j h3), g3, g4⟩, h.hD, fun i b' hi => ?_, fun r hr => ?_, h.sep⟩
  · unfold updM at hi
    split at hi
    · rename_i hij
      cases hi
      subst hij
      exact ⟨Has.put h1.2 b ho, h2, h3, h4⟩
    · rename_i hij
      obtain ⟨q1, q2⟩ := h.fx i b' hi
      exact ⟨q1.x hx hij, q2⟩
  · have ha := h4 r hr
    rcases h.rows r hr with q | ⟨id, c, blk, q0, q1, q2, q3, q4⟩
    · exact .inl q
    · exact .inr ⟨id, c, blk, q0, by rw [Mem.next_put]; exact q1, q2, by rw [Mem.get_put, if_neg (by rintro rfl; exact ha _ _ _ q2)]; exact q3, q4⟩
/-- a row more -/
theorem Lo.add (h : Lo N M p D s fx R) {Mb : Mem} {r : Rw} (ho : Own Mb M r.v r.n r.cells r.e) (hb : N ≤ Mb.next) (hfx : ∀ i b, fx i = some b → Apart r.v i) (hs : ∀ a, R a → Sep a.v r.v) : Lo N M p D s fx (fun x => x = r ∨ R x) := by
  refine ⟨h.ok, h.next, h.pN, h.rd, h.hD, fun i b hi => ?_, fun x hx => ?_, fun a b ha hb' => ?_⟩
  · obtain ⟨h1, h2, h3, h4⟩ := h.fx i b hi
    refine ⟨h1, h2, h3, fun x hx => ?_⟩
    rcases hx with rfl | hx
    · exact hfx i b hi
    · exact h4 x hx
  · rcases hx with rfl | hx
    · exact ho.base hb
    · exact h.rows x hx
  · rcases ha with rfl | ha <;> rcases hb' with rfl | hb'
    · exact .inl rfl
    · exact .inr (hs b hb').symm
    · exact .inr (hs a ha)
    · exact h.sep a b ha hb'
/-- fewer are held -/
theorem Lo.less (h : Lo N M p D s fx R) {fx' : Mm} {R' : Rw → Prop} (hf : ∀ i b, fx' i = some b → fx i = some b) (hR : ∀ r, R' r → R r) : Lo N M p D s fx' R' :=
  ⟨h.ok, h.next, h.pN, h.rd, h.hD, fun i b hi => let ⟨h1, h2, h3, h4⟩ := h.fx i b (hf i b hi); ⟨h1, h2, h3, fun r hr => h4 r (hR r hr)⟩, fun r hr => h.rows r (hR r hr), fun a b ha hb => h.sep a b (hR a ha) (hR b hb)⟩
/-- a row that was made since is apart from all that is held -/
theorem own_sep {Mb : Mem} {v w : Value} {n m : Nat} {cells cells' : List Value} {e e' : TypeId} (h : Own Mb M1 v n cells e) {M0 : Mem} (h' : Own M0 M w m cells' e') (hn : M.next ≤ Mb.next) : Sep w v := by
  intro j o k c hv o2 k2 c2 hw
  rcases h with ⟨rfl, _⟩ | ⟨id, c', blk, h0, h1, h2, _⟩
  · cases hv
  · rcases h' with ⟨rfl, _⟩ | ⟨id', c'', blk', g0, g1, g2, _⟩
    · cases hw
    · rw [hv] at h2; rw [hw] at g2
      cases h2; cases g2
      omega
theorem Ok.grown {P : Program} {M M' : Mem} {e : TypeId} {c : List Value} {k : Nat} {v : Value} (hok : Ok M) (h : grownE P M e c k = (v, M')) : Ok M' := by
  cases h
  intro i b hi
  have hi : (M.put M.next ⟨c, e, true⟩).get i = some b := hi
  rw [Mem.get_put] at hi
  rw [Mem.next_bump, Mem.next_put]
  by_cases hii : i = M.next
  · omega
  · rw [if_neg hii] at hi; have := hok i b hi; omega
theorem Ok.del {M : Mem} (hok : Ok M) (j : Nat) : Ok (M.del j) := fun i b hi => by
  rw [Mem.get_del] at hi
  by_cases hij : i = j
  · rw [if_pos hij] at hi; cases hi
  · rw [if_neg hij] at hi; exact hok i b hi
theorem Ok.app {P : Program} {M M' : Mem} {t tx : TypeId} {s x v : Value} (hok : Ok M) (h : appendE P M t tx s x = some (v, M')) : Ok M' := by
  unfold appendE at h
  repeat' split at h
  all_goals first | cases h; done | (simp only [Option.some.injEq, Prod.mk.injEq] at h; obtain ⟨_, rfl⟩ := h; exact hok) | (injection h with h; first | exact hok.grown h | exact (hok.del _).grown h)
/-- an append to a held row -/
theorem Lo.append (h : Lo N M p D s fx R) {P : Program} {t tx e sz bytes : Nat} (hf : AppFacts P t tx e sz bytes) {v x : Value} {n k : Nat} {cells news : List Value} (hr : R ⟨v, n, cells, e⟩) (hl : cells.length = n * sz)
    (hx : contentV M.get sz x = some (k, news)) (hone : oneCells news = true) (hb : (n + k) * bytes ≤ 140737488355328) :
    ∃ v2 M2, appendE P M t tx v x = some (v2, M2) ∧ M.next ≤ M2.next ∧ (∀ j, j < N → M2.get j = M.get j) ∧ (∀ j, j < M.next → Apart v j → M2.get j = M.get j) ∧ Lo N M2 p D s fx (fun r => r = ⟨v2, n + k, cells ++ news, e⟩ ∨ (R r ∧ r ≠ ⟨v, n, cells, e⟩)) := by
  have hg : Grew (⟨N, M.tri⟩ : Mem) M := ⟨fun _ _ => rfl, h.next, fun _ => h.ok⟩
  have ho : Own (⟨N, M.tri⟩ : Mem) M v n cells e := h.rows _ hr
  obtain ⟨v2, M2, happ, ho2, hg2, hnx, hfr⟩ := Own.append hf hg ho hl hx hone hb
  have hok2 : Ok M2 := h.ok.app happ
  have hkeep : ∀ j, j < N → M2.get j = M.get j := fun j hj => hg2.keep j hj
  have hap : ∀ w, Sep v w → ∀ j o n c, w = .slice (some ⟨j, o, none⟩) n c → j < M.next → M2.get j = M.get j ∧ Apart v2 j := fun w hw j o n c hj hlt => hfr j hlt (hw j o n c hj)
  have hne : ∀ r, R r → r ≠ ⟨v, n, cells, e⟩ → Sep v r.v := fun r hrr hn => (h.sep _ _ hr hrr).resolve_left (fun hh => hn hh.symm)
  have hv2 : ∀ r, R r → r ≠ ⟨v, n, cells, e⟩ → Own (baseN N) M2 r.v r.n r.cells r.e ∧ Sep v2 r.v := fun r hrr hn => by
    have hs := hne r hrr hn
    rcases h.rows r hrr with q | ⟨id, c, blk, q0, q1, q2, q3, q4⟩
    · exact ⟨.inl q, fun j o n c hj => by rw [q.1] at hj; cases hj⟩
    · obtain ⟨f1, f2⟩ := hap r.v hs id 0 _ c q2 q1
      refine ⟨.inr ⟨id, c, blk, q0, Nat.lt_of_lt_of_le q1 hnx, q2, by rw [f1]; exact q3, q4⟩, fun j o n c hj => ?_⟩
      rw [q2] at hj
      cases hj
      exact f2
  obtain ⟨vb, g1, g2, g3, g4⟩ := h.rd
  have hp := h.pN
  have hvN : ∀ j, j < N → Apart v j := fun j hj => ho.apart (.inl hj)
  have hvb : ∀ b o n c, vb = .slice (some ⟨b, o, none⟩) n c → Apart v b := by
    intro b o n c hb
    rcases ho with ⟨rfl, _⟩ | ⟨id, c', blk, q0, q1, q2, _⟩
    · exact Apart.nil b
    · intro o2 n2 c2 hv
      rw [q2] at hv
      cases hv
      exact g4 b (h.hD b q0) _ _ _ hb
  refine ⟨v2, M2, happ, hnx, hkeep, fun j hj ha => (hfr j hj ha).1, hok2, Nat.le_trans h.next hnx, h.pN, ⟨vb, ⟨(rowsOf_same (hkeep p hp)).trans g1.1, Nat.lt_of_lt_of_le g1.2 hnx⟩, ?_, g3, g4⟩, h.hD, fun i b hi => ?_, fun r hrr => ?_, fun a b ha hb' => ?_⟩
  · obtain ⟨b, o, c, blk, e1, e0, e2, e3⟩ := g2
    exact ⟨b, o, c, blk, e1, e0, ⟨(rowsOf_same (hfr b e2.2 (hvb _ _ _ _ e1)).1).trans e2.1, Nat.lt_of_lt_of_le e2.2 hnx⟩, e3⟩
  · obtain ⟨f1, f2, f3, f4⟩ := h.fx i b hi
    have hvi := f4 _ hr
    obtain ⟨f5, f6⟩ := hfr i f1.2 hvi
    refine ⟨⟨(rowsOf_same f5).trans f1.1, Nat.lt_of_lt_of_le f1.2 hnx⟩, f2, f3, fun r hrr => ?_⟩
    rcases hrr with rfl | ⟨hrr, _⟩
    · exact f6
    · exact f4 r hrr
  · rcases hrr with rfl | ⟨hrr, hn⟩
    · exact ho2
    · exact (hv2 r hrr hn).1
  · rcases ha with rfl | ⟨ha, hna⟩ <;> rcases hb' with rfl | ⟨hb', hnb⟩
    · exact .inl rfl
    · exact .inr (hv2 b hb' hnb).2
    · exact .inr (hv2 a ha hna).2.symm
    · exact h.sep a b ha hb'
end
end Go.Proofs.YtopblipficpilaaGreatDoor.AY
