/- The law BulkPuts: what it comes to. -/
import Derived.Test.YtopblipficpilaaGreatDoorBulkPuts9
import Derived.Test.YtopblipficpilaaGreatDoorBulkPuts21
namespace Go.Proofs.YtopblipficpilaaGreatDoor.AY
open Go Go.Proofs
set_option maxRecDepth 100000
set_option linter.unusedVariables false
set_option linter.unusedSimpArgs false
theorem ca6_24 : callable Tryz.prog 24 = true := by kernel_rfl
attribute [go_sem] ca6_24
theorem getK_short {b : List Int} (hb : BytB b) : (getK b).2.1.length ≤ 64 ∧ ∀ l, l ∈ (getK b).2.1 → l.length ≤ b.length := by
  by_cases h : (getK b).2.2 = 0
  · obtain ⟨h1, h2⟩ := putK_get hb h
    exact ⟨h1, items_short h2⟩
  · have : (getK b).2.1 = [] := by
      unfold getK at h ⊢
      split
      · rfl
      · rename_i hn; rw [if_neg hn] at h; exact absurd rfl h
    rw [this]
    exact ⟨by decide, fun l hl => by cases hl⟩
theorem binV_bne (a b : Bool) : binV Tryz.prog .neq 4 (.bool a) (.bool b) = some (.bool (a != b)) := by simp [binV, eqV, eq0, bne, Tryz.underlying4]
attribute [go_sem] binV_bne
theorem bneI (a : Int) : (a != a) = false := by simp
theorem bneB (a : Bool) : (a != a) = false := by simp

theorem law6_spec (on : Bool) (v : Value) (vs : List Value) (ls : List (List Int)) (bv : Value) (b : List Int) (M : Mem) (hok : Ok M) (hv : Row_ M v vs.length vs) (hp : Parts M vs ls) (hl : ∀ l, l ∈ ls → l.length ≤ 9223372036854775807) (hlb : ∀ l, l ∈ ls → BytB l)
    (hbv : RowB M bv b) (hE : b = [] ∨ RowE M bv b.length (cB b) 5) (hb : BytB b) (hbl : b.length ≤ 9223372036854775807)
    (j : Nat) (hj : M.get j = some ⟨[], globTag + maxLenG, false⟩) : ∃ r M', ACall Tryz.prog 6 #[.bool on, v, bv] M r M' ∧ r = .bool true ∧ M' = M := by
  have hjn : j < M.next := hok _ _ hj
  have works : ∀ M1, Grew M M1 → ACall Tryz.prog 24 #[] M1 (.bool true) M1 := fun M1 hg => works40_ok M1 j (by rw [hg.keep j hjn]; exact hj)
  have hvl := hp.1
  refine ACall.fin (args := [.bool on, v, bv]) (k := 147) Tryz.func6 rfl rfl rfl (Nat.le_of_ble_eq_true rfl) ?_
  refine AWP.stepR [0, 1, 2] fun K hK => ?_ -- r0
  simp only [go_sem, Nat.reduceEqDiff, Nat.reduceLT, Nat.reduceAdd, Nat.reduceMul, Nat.reduceSub, Nat.add_zero, Nat.zero_add, Int.reduceEq, Int.reduceLT]
  refine hK _ _ _ (by simp only [go_sem, Nat.reduceEqDiff, Nat.reduceLT, Nat.reduceAdd, Nat.reduceMul, Nat.reduceSub, Nat.add_zero, Nat.zero_add, Int.reduceEq, Int.reduceLT]; rfl) ?_; clear hK
  refine AWP.seq ?_
  obtain ⟨rs, Ms, hcs, hrs, hMs⟩ := short23_spec v vs ls M hok hv hp hl
  rw [hMs] at hcs
  obtain ⟨k, rfl, hk⟩ : ∃ k : Int, rs = .int .i64 k ∧ (k > 0 ∨ (vs.length ≤ 40 ∧ ∀ l, l ∈ ls → l.length ≤ 3000)) := by
    rcases hrs with rfl | ⟨rfl, h1, h2⟩
    · exact ⟨1, rfl, .inl (by decide)⟩
    · exact ⟨0, rfl, .inr ⟨h1, h2⟩⟩
  refine AWP.stepX [0, 1, 2, 40] [(0, .bool on), (1, v), (2, bv), (40, .bool (decide (vs.length > 80 ∨ (vs.length ≤ 40 ∧ k > 0) ∨ b.length > 3000)))] M (fun K hK => ?_) ?_ -- r1
  · by_cases c1 : vs.length > 80
    · have f1 : ((vs.length : Int) > 80) = True := by simp; omega
      simp only [go_sem, Nat.reduceEqDiff, Nat.reduceLT, Nat.reduceAdd, Nat.reduceMul, Nat.reduceSub, Nat.add_zero, Nat.zero_add, Int.reduceEq, Int.reduceLT, hv.len es_59, f1, decide_true]
      refine hK _ ?_
      simp only [go_sem, Nat.reduceEqDiff, Nat.reduceLT, Nat.reduceAdd, Nat.reduceMul, Nat.reduceSub, Nat.add_zero, Nat.zero_add, Int.reduceEq, Int.reduceLT]
      rw [decide_eq_true (.inl c1)]
    · have f1 : ((vs.length : Int) > 80) = False := by simp; omega
      by_cases c2 : vs.length ≤ 40
      · have f2 : ((vs.length : Int) ≤ 40) = True := by simp; omega
        by_cases c3 : k > 0
        · have f4 : (k > 0) = True := eq_true c3
          simp only [go_sem, Nat.reduceEqDiff, Nat.reduceLT, Nat.reduceAdd, Nat.reduceMul, Nat.reduceSub, Nat.add_zero, Nat.zero_add, Int.reduceEq, Int.reduceLT, hv.len es_59, f1, f2, decide_true, decide_false]
          refine ⟨_, _, hcs, ?_⟩
          try simp only [go_sem, Nat.reduceEqDiff, Nat.reduceLT, Nat.reduceAdd, Nat.reduceMul, Nat.reduceSub, Nat.add_zero, Nat.zero_add, Int.reduceEq, Int.reduceLT, f4, decide_true]
          refine hK _ ?_
          simp only [go_sem, Nat.reduceEqDiff, Nat.reduceLT, Nat.reduceAdd, Nat.reduceMul, Nat.reduceSub, Nat.add_zero, Nat.zero_add, Int.reduceEq, Int.reduceLT]
          rw [decide_eq_true (.inr (.inl ⟨c2, c3⟩))]
        · have f4 : (k > 0) = False := eq_false c3
          simp only [go_sem, Nat.reduceEqDiff, Nat.reduceLT, Nat.reduceAdd, Nat.reduceMul, Nat.reduceSub, Nat.add_zero, Nat.zero_add, Int.reduceEq, Int.reduceLT, hv.len es_59, f1, f2, decide_true, decide_false]
          refine ⟨_, _, hcs, ?_⟩
          try simp only [go_sem, Nat.reduceEqDiff, Nat.reduceLT, Nat.reduceAdd, Nat.reduceMul, Nat.reduceSub, Nat.add_zero, Nat.zero_add, Int.reduceEq, Int.reduceLT, f4, decide_false, hbv.len es_42]
          refine hK _ ?_
          simp only [go_sem, Nat.reduceEqDiff, Nat.reduceLT, Nat.reduceAdd, Nat.reduceMul, Nat.reduceSub, Nat.add_zero, Nat.zero_add, Int.reduceEq, Int.reduceLT]
          rw [show decide ((b.length : Int) > 3000) = decide (vs.length > 80 ∨ (vs.length ≤ 40 ∧ k > 0) ∨ b.length > 3000) from decide_eq_decide.2 (by omega)]
      · have f2 : ((vs.length : Int) ≤ 40) = False := by simp; omega
        simp only [go_sem, Nat.reduceEqDiff, Nat.reduceLT, Nat.reduceAdd, Nat.reduceMul, Nat.reduceSub, Nat.add_zero, Nat.zero_add, Int.reduceEq, Int.reduceLT, hv.len es_59, f1, f2, decide_false, hbv.len es_42]
        refine hK _ ?_
        simp only [go_sem, Nat.reduceEqDiff, Nat.reduceLT, Nat.reduceAdd, Nat.reduceMul, Nat.reduceSub, Nat.add_zero, Nat.zero_add, Int.reduceEq, Int.reduceLT]
        rw [show decide ((b.length : Int) > 3000) = decide (vs.length > 80 ∨ (vs.length ≤ 40 ∧ k > 0) ∨ b.length > 3000) from decide_eq_decide.2 (by omega)]
  refine AWP.cond_split rfl (fun h40 => ?_) fun h40 => ?_
  · refine AWP.stepR [6] fun K hK => ?_ -- r2
    simp only [go_sem, Nat.reduceEqDiff, Nat.reduceLT, Nat.reduceAdd, Nat.reduceMul, Nat.reduceSub, Nat.add_zero, Nat.zero_add, Int.reduceEq, Int.reduceLT]
    refine ⟨_, _, works _ (Grew.refl _), ?_⟩
    try simp only [go_sem, Nat.reduceEqDiff, Nat.reduceLT, Nat.reduceAdd, Nat.reduceMul, Nat.reduceSub, Nat.add_zero, Nat.zero_add, Int.reduceEq, Int.reduceLT]
    refine hK _ _ _ (by simp only [go_sem, Nat.reduceEqDiff, Nat.reduceLT, Nat.reduceAdd, Nat.reduceMul, Nat.reduceSub, Nat.add_zero, Nat.zero_add, Int.reduceEq, Int.reduceLT]; rfl) ?_; clear hK
    refine AWP.ret (Then.ret (?_))
    exact Fin.plain ⟨.inr rfl, rfl⟩ rfl rfl hok (Grew.refl _) ⟨rfl, rfl⟩
  have hgd := of_decide_eq_false h40
  have h80 : vs.length ≤ 80 := Nat.not_lt.1 fun h => hgd (.inl h)
  have hb3 : b.length ≤ 3000 := Nat.not_lt.1 fun h => hgd (.inr (.inr h))
  have h3 : vs.length ≤ 40 → ∀ l, l ∈ ls → l.length ≤ 3000 := fun h => (hk.resolve_left fun hk => hgd (.inr (.inl ⟨h, hk⟩))).2
  clear hgd h40 hk hrs
  refine AWP.skip ?_
  refine AWP.seq ?_
  refine AWP.stepR [0, 1, 2, 7] fun K hK => ?_ -- r3
  simp only [go_sem, Nat.reduceEqDiff, Nat.reduceLT, Nat.reduceAdd, Nat.reduceMul, Nat.reduceSub, Nat.add_zero, Nat.zero_add, Int.reduceEq, Int.reduceLT]
  refine hK _ _ _ (by simp only [go_sem, Nat.reduceEqDiff, Nat.reduceLT, Nat.reduceAdd, Nat.reduceMul, Nat.reduceSub, Nat.add_zero, Nat.zero_add, Int.reduceEq, Int.reduceLT]; rfl) ?_; clear hK
  refine AWP.block ?_ -- b0
  refine AWP.loopK [0, 1, 2, 7] (fun n e M0 => n ≤ vs.length ∧ M = M0 ∧ e = [(0, .bool on), (1, v), (2, bv), (7, .int .i64 ((vs.length - n : Nat) : Int))] ∧ ∀ i l, i < vs.length - n → ls[i]? = some l → l.length ≤ 300 ∨ vs.length ≤ 40) vs.length ?_ fun n e M0 hI => ?_ -- LOOP
  · exact ⟨Nat.le_refl _, rfl, by simp only [go_sem, Nat.reduceEqDiff, Nat.reduceLT, Nat.reduceAdd, Nat.reduceMul, Nat.reduceSub, Nat.add_zero, Nat.zero_add, Int.reduceEq, Int.reduceLT, Nat.sub_self]; rfl, fun i l h => by omega⟩
  obtain ⟨hn, rfl, rfl, hall⟩ := hI
  refine AWP.seq ?_
  refine AWP.stepR [0, 1, 2, 7, 45] fun K hK => ?_ -- r4
  simp only [go_sem, Nat.reduceEqDiff, Nat.reduceLT, Nat.reduceAdd, Nat.reduceMul, Nat.reduceSub, Nat.add_zero, Nat.zero_add, Int.reduceEq, Int.reduceLT, hv.len es_59]
  refine hK _ _ _ (by simp only [go_sem, Nat.reduceEqDiff, Nat.reduceLT, Nat.reduceAdd, Nat.reduceMul, Nat.reduceSub, Nat.add_zero, Nat.zero_add, Int.reduceEq, Int.reduceLT]; rfl) ?_; clear hK
  refine AWP.cond_split rfl (fun h45 => ?_) fun h45 => ?_
  · have hlt : vs.length - n < vs.length := by simpa using h45
    generalize hi : vs.length - n = i at *
    have hvi : vs[i]? = some vs[i] := List.getElem?_eq_getElem hlt
    have hlt' : i < ls.length := by omega
    have hri : RowB M vs[i] ls[i] := hp.at hlt hlt'
    have hli : ls[i]? = some ls[i] := List.getElem?_eq_getElem hlt'
    obtain ⟨bb, q, ha, hd⟩ := hv.at1 rfl es_59 hlt
    have hd := hd M (Grew.refl _)
    rw [hvi] at hd
    generalize vs[i] = x at hvi hri hd
    generalize hy : ls[i] = y at hri hli
    refine AWP.skip ?_
    refine AWP.seq ?_
    refine AWP.block ?_ -- b1
    refine AWP.stepX [0, 1, 2, 7, 58] [(0, .bool on), (1, v), (2, bv), (7, .int .i64 (i : Int)), (58, .bool (decide (y.length > 300 ∧ vs.length > 40)))] M (fun K hK => ?_) ?_ -- r6
    · by_cases c1 : y.length > 300
      · have f1 : ((y.length : Int) > 300) = True := by simp; omega
        simp only [go_sem, Nat.reduceEqDiff, Nat.reduceLT, Nat.reduceAdd, Nat.reduceMul, Nat.reduceSub, Nat.add_zero, Nat.zero_add, Int.reduceEq, Int.reduceLT, ha, ld_42, hd, hri.len es_42, f1, decide_true, hv.len es_59]
        refine hK _ ?_
        simp only [go_sem, Nat.reduceEqDiff, Nat.reduceLT, Nat.reduceAdd, Nat.reduceMul, Nat.reduceSub, Nat.add_zero, Nat.zero_add, Int.reduceEq, Int.reduceLT]
        rw [show decide ((vs.length : Int) > 40) = decide (y.length > 300 ∧ vs.length > 40) from decide_eq_decide.2 (by omega)]
      · have f1 : ((y.length : Int) > 300) = False := by simp; omega
        simp only [go_sem, Nat.reduceEqDiff, Nat.reduceLT, Nat.reduceAdd, Nat.reduceMul, Nat.reduceSub, Nat.add_zero, Nat.zero_add, Int.reduceEq, Int.reduceLT, ha, ld_42, hd, hri.len es_42, f1, decide_false]
        refine hK _ ?_
        simp only [go_sem, Nat.reduceEqDiff, Nat.reduceLT, Nat.reduceAdd, Nat.reduceMul, Nat.reduceSub, Nat.add_zero, Nat.zero_add, Int.reduceEq, Int.reduceLT]
        rw [decide_eq_false (fun h => c1 h.1)]
    refine AWP.cond_split rfl (fun h58 => ?_) fun h58 => ?_
    · refine AWP.stepR [6] fun K hK => ?_ -- r7
      simp only [go_sem, Nat.reduceEqDiff, Nat.reduceLT, Nat.reduceAdd, Nat.reduceMul, Nat.reduceSub, Nat.add_zero, Nat.zero_add, Int.reduceEq, Int.reduceLT]
      refine ⟨_, _, works _ (Grew.refl _), ?_⟩
      try simp only [go_sem, Nat.reduceEqDiff, Nat.reduceLT, Nat.reduceAdd, Nat.reduceMul, Nat.reduceSub, Nat.add_zero, Nat.zero_add, Int.reduceEq, Int.reduceLT]
      refine hK _ _ _ (by simp only [go_sem, Nat.reduceEqDiff, Nat.reduceLT, Nat.reduceAdd, Nat.reduceMul, Nat.reduceSub, Nat.add_zero, Nat.zero_add, Int.reduceEq, Int.reduceLT]; rfl) ?_; clear hK
      refine AWP.ret (InBlock.ret (Then.ret (Then.ret (InBlock.ret (Then.ret (?_))))))
      exact Fin.plain ⟨.inr rfl, rfl⟩ rfl rfl hok (Grew.refl _) ⟨rfl, rfl⟩
    · have hc := of_decide_eq_false h58
      refine AWP.skip ?_
      refine AWP.lastR fun K hK => ?_ -- r5
      simp only [go_sem, Nat.reduceEqDiff, Nat.reduceLT, Nat.reduceAdd, Nat.reduceMul, Nat.reduceSub, Nat.add_zero, Nat.zero_add, Int.reduceEq, Int.reduceLT]
      rw [i64w (by omega) (by omega)]
      refine hK _ _ ?_; clear hK
      refine ⟨rfl, n - 1, by omega, by omega, rfl, ?_, fun i' l h1 h2 => ?_⟩ -- ROUND
      · simp only [go_sem, Nat.reduceEqDiff, Nat.reduceLT, Nat.reduceAdd, Nat.reduceMul, Nat.reduceSub, Nat.add_zero, Nat.zero_add, Int.reduceEq, Int.reduceLT]
        rw [show ((i : Int) + 1) = ((vs.length - (n - 1) : Nat) : Int) by omega]
      · by_cases hii : i' = i
        · subst hii
          rw [hli] at h2; cases h2; omega
        · exact hall i' l (by omega) h2
  have hn0 : n = 0 := by have := of_decide_eq_false h45; omega
  subst hn0
  have hsm : ls.length ≤ 64 → ∀ l, l ∈ ls → l.length ≤ 3000 := fun _ l hm => by
    by_cases h : vs.length ≤ 40
    · exact h3 h l hm
    · obtain ⟨i, hi⟩ := List.mem_iff_getElem?.1 hm
      have := (hall i l (by have := (List.getElem?_eq_some_iff.1 hi).1; omega) hi).resolve_right h
      omega
  clear hall h45 hn
  obtain ⟨hks1, hks2⟩ := getK_short hb
  refine AWP.exit (Then.exit (Then.exit (InBlock.same ?_))) -- x0
  obtain ⟨r1, M1, hc1, hg1, x, rfl, hx⟩ := put25_spec on v vs ls M hok hv hp hsm
  refine AWP.stepR [0, 1, 2, 8, 9] fun K hK => ?_ -- r8
  simp only [go_sem, Nat.reduceEqDiff, Nat.reduceLT, Nat.reduceAdd, Nat.reduceMul, Nat.reduceSub, Nat.add_zero, Nat.zero_add, Int.reduceEq, Int.reduceLT]
  refine ⟨_, _, hc1, ?_⟩
  try simp only [go_sem, Nat.reduceEqDiff, Nat.reduceLT, Nat.reduceAdd, Nat.reduceMul, Nat.reduceSub, Nat.add_zero, Nat.zero_add, Int.reduceEq, Int.reduceLT, extractV]
  refine hK _ _ _ (by simp only [go_sem, Nat.reduceEqDiff, Nat.reduceLT, Nat.reduceAdd, Nat.reduceMul, Nat.reduceSub, Nat.add_zero, Nat.zero_add, Int.reduceEq, Int.reduceLT]; rfl) ?_; clear hK
  obtain ⟨r2, M2, hc2, hg2, y, rfl, hy⟩ := put26_spec on v vs ls M1 (hg1.ok hok) (hv.grew hg1) (hp.grew hg1) hsm
  have hgM2 := hg1.trans hg2
  refine AWP.stepR [0, 1, 2, 8, 9, 10, 11] fun K hK => ?_ -- r9
  simp only [go_sem, Nat.reduceEqDiff, Nat.reduceLT, Nat.reduceAdd, Nat.reduceMul, Nat.reduceSub, Nat.add_zero, Nat.zero_add, Int.reduceEq, Int.reduceLT]
  refine ⟨_, _, hc2, ?_⟩
  try simp only [go_sem, Nat.reduceEqDiff, Nat.reduceLT, Nat.reduceAdd, Nat.reduceMul, Nat.reduceSub, Nat.add_zero, Nat.zero_add, Int.reduceEq, Int.reduceLT, extractV]
  refine hK _ _ _ (by simp only [go_sem, Nat.reduceEqDiff, Nat.reduceLT, Nat.reduceAdd, Nat.reduceMul, Nat.reduceSub, Nat.add_zero, Nat.zero_add, Int.reduceEq, Int.reduceLT]; rfl) ?_; clear hK
  obtain ⟨r3, M3, hc3, hg3, m, ms, rfl, hm, hpm⟩ := get27_spec bv b M2 (hgM2.ok hok) (hbv.grew hgM2) hb (by omega)
  have hgM3 := hgM2.trans hg3
  refine AWP.stepR [0, 1, 2, 8, 9, 10, 11, 12, 13, 14] fun K hK => ?_ -- r10
  simp only [go_sem, Nat.reduceEqDiff, Nat.reduceLT, Nat.reduceAdd, Nat.reduceMul, Nat.reduceSub, Nat.add_zero, Nat.zero_add, Int.reduceEq, Int.reduceLT]
  refine ⟨_, _, hc3, ?_⟩
  try simp only [go_sem, Nat.reduceEqDiff, Nat.reduceLT, Nat.reduceAdd, Nat.reduceMul, Nat.reduceSub, Nat.add_zero, Nat.zero_add, Int.reduceEq, Int.reduceLT, extractV]
  refine hK _ _ _ (by simp only [go_sem, Nat.reduceEqDiff, Nat.reduceLT, Nat.reduceAdd, Nat.reduceMul, Nat.reduceSub, Nat.add_zero, Nat.zero_add, Int.reduceEq, Int.reduceLT]; rfl) ?_; clear hK
  obtain ⟨r4, M4, hc4, hg4, n, ns, rfl, hn, hpn⟩ := get28_spec bv b M3 (hgM3.ok hok) (hbv.grew hgM3) (hE.imp id fun h => h.grew hgM3) hb (by omega)
  have hgM4 := hgM3.trans hg4
  have hok4 := hgM4.ok hok
  refine AWP.stepR [0, 1, 2, 8, 9, 10, 11, 12, 13, 14, 15, 16, 17] fun K hK => ?_ -- r11
  simp only [go_sem, Nat.reduceEqDiff, Nat.reduceLT, Nat.reduceAdd, Nat.reduceMul, Nat.reduceSub, Nat.add_zero, Nat.zero_add, Int.reduceEq, Int.reduceLT]
  refine ⟨_, _, hc4, ?_⟩
  try simp only [go_sem, Nat.reduceEqDiff, Nat.reduceLT, Nat.reduceAdd, Nat.reduceMul, Nat.reduceSub, Nat.add_zero, Nat.zero_add, Int.reduceEq, Int.reduceLT, extractV]
  refine hK _ _ _ (by simp only [go_sem, Nat.reduceEqDiff, Nat.reduceLT, Nat.reduceAdd, Nat.reduceMul, Nat.reduceSub, Nat.add_zero, Nat.zero_add, Int.reduceEq, Int.reduceLT]; rfl) ?_; clear hK
  have hx4 : RowB M4 x (putK on ls).1 := hx.row.grew (hg2.trans (hg3.trans hg4))
  have hy4 : RowB M4 y (putK on ls).1 := hy.row.grew (hg3.trans hg4)
  have hxl : (putK on ls).1.length ≤ 1000000 := by
    unfold putK
    split
    · simp
    · rename_i h
      have := encP_len on ls.length (hsm (by omega))
      simp only; omega
  obtain ⟨r5, M5, hc5, hr5, hM5⟩ := same29_spec x y _ _ M4 hok4 hx4 hy4 (by omega)
  rw [hr5, hM5, beq_self_eq_true] at hc5
  have hml : ms.length = (getK b).2.1.length := hpm.1
  obtain ⟨r6, M6, hc6, hr6, hM6⟩ := sameAll30_spec m n ms ns _ _ M4 hok4 (hm.grew hg4) hn (hpm.grew hg4) hpn (by omega) (fun l hl => by have := hks2 l hl; omega)
  rw [hr6, hM6, beq_self_eq_true] at hc6
  refine AWP.seq ?_
  refine AWP.stepX [0, 1, 2, 8, 11, 12, 13, 17, 108] [(0, .bool on), (1, v), (2, bv), (8, x), (11, .int .i64 (putK on ls).2), (12, .bool (getK b).1), (13, m), (17, .int .i64 (getK b).2.2), (108, .bool false)] M4 (fun K hK => ?_) ?_ -- r12
  · simp only [go_sem, Nat.reduceEqDiff, Nat.reduceLT, Nat.reduceAdd, Nat.reduceMul, Nat.reduceSub, Nat.add_zero, Nat.zero_add, Int.reduceEq, Int.reduceLT]
    refine ⟨_, _, hc5, ?_⟩
    try simp only [go_sem, Nat.reduceEqDiff, Nat.reduceLT, Nat.reduceAdd, Nat.reduceMul, Nat.reduceSub, Nat.add_zero, Nat.zero_add, Int.reduceEq, Int.reduceLT, Bool.not_true, bneI, bneB, beq_self_eq_true]
    refine ⟨_, _, hc6, ?_⟩
    try simp only [go_sem, Nat.reduceEqDiff, Nat.reduceLT, Nat.reduceAdd, Nat.reduceMul, Nat.reduceSub, Nat.add_zero, Nat.zero_add, Int.reduceEq, Int.reduceLT, Bool.not_true, bneI, bneB, beq_self_eq_true]
    exact hK _ (by simp only [go_sem, Nat.reduceEqDiff, Nat.reduceLT, Nat.reduceAdd, Nat.reduceMul, Nat.reduceSub, Nat.add_zero, Nat.zero_add, Int.reduceEq, Int.reduceLT])
  refine AWP.cond_split rfl (fun h108 => ?_) fun h108 => ?_
  · cases h108
  refine AWP.skip ?_
  refine AWP.seq ?_
  refine AWP.stepR [0, 1, 2, 8, 12, 13, 17, 110] fun K hK => ?_ -- r14
  simp only [go_sem, Nat.reduceEqDiff, Nat.reduceLT, Nat.reduceAdd, Nat.reduceMul, Nat.reduceSub, Nat.add_zero, Nat.zero_add, Int.reduceEq, Int.reduceLT]
  refine hK _ _ _ (by simp only [go_sem, Nat.reduceEqDiff, Nat.reduceLT, Nat.reduceAdd, Nat.reduceMul, Nat.reduceSub, Nat.add_zero, Nat.zero_add, Int.reduceEq, Int.reduceLT]; rfl) ?_; clear hK
  refine AWP.condG rfl [2, 12, 13, 17] [(2, bv), (12, .bool (getK b).1), (13, m), (17, .int .i64 (getK b).2.2)] (fun M' => Grew M4 M') (fun h110 => ?_) (fun h110 => ?_) fun M7 hg7 => ?_
  · have h64 : ls.length ≤ 64 := Nat.not_lt.1 fun h => by rw [putK, if_pos h] at h110; cases h110
    have hpk : (putK on ls).1 = encP on ls.length ls := by rw [putK, if_neg (by omega)]
    rw [hpk] at hx4 hxl
    obtain ⟨r7, M7, hc7, hg7, lv, ws, rfl, hlv, hpw⟩ := get27_spec x (encP on ls.length ls) M4 hok4 hx4 (encP_byt (by omega) hlb) hxl
    have hgp := getK_put on h64 fun l hl => by have := hsm h64 l hl; omega
    rw [hgp] at hc7 hpw
    refine AWP.stepR [0, 1, 2, 12, 13, 17, 18, 19, 20] fun K hK => ?_ -- r15
    simp only [go_sem, Nat.reduceEqDiff, Nat.reduceLT, Nat.reduceAdd, Nat.reduceMul, Nat.reduceSub, Nat.add_zero, Nat.zero_add, Int.reduceEq, Int.reduceLT]
    refine ⟨_, _, hc7, ?_⟩
    try simp only [go_sem, Nat.reduceEqDiff, Nat.reduceLT, Nat.reduceAdd, Nat.reduceMul, Nat.reduceSub, Nat.add_zero, Nat.zero_add, Int.reduceEq, Int.reduceLT, extractV]
    refine hK _ _ _ (by simp only [go_sem, Nat.reduceEqDiff, Nat.reduceLT, Nat.reduceAdd, Nat.reduceMul, Nat.reduceSub, Nat.add_zero, Nat.zero_add, Int.reduceEq, Int.reduceLT]; rfl) ?_; clear hK
    have hwl : ws.length = ls.length := hpw.1
    obtain ⟨r8, M8, hc8, hr8, hM8⟩ := sameAll30_spec lv v ws vs _ _ M7 (hg7.ok hok4) hlv (hv.grew (hgM4.trans hg7)) hpw (hp.grew (hgM4.trans hg7)) (by omega) hl
    rw [hr8, hM8, beq_self_eq_true] at hc8
    refine AWP.stepX [2, 12, 13, 17, 129] [(2, bv), (12, .bool (getK b).1), (13, m), (17, .int .i64 (getK b).2.2), (129, .bool false)] M7 (fun K hK => ?_) ?_ -- r16
    · simp only [go_sem, Nat.reduceEqDiff, Nat.reduceLT, Nat.reduceAdd, Nat.reduceMul, Nat.reduceSub, Nat.add_zero, Nat.zero_add, Int.reduceEq, Int.reduceLT, bneI, bneB, beq_self_eq_true]
      refine ⟨_, _, hc8, ?_⟩
      try simp only [go_sem, Nat.reduceEqDiff, Nat.reduceLT, Nat.reduceAdd, Nat.reduceMul, Nat.reduceSub, Nat.add_zero, Nat.zero_add, Int.reduceEq, Int.reduceLT, Bool.not_true, bneI, bneB, beq_self_eq_true]
      exact hK _ (by simp only [go_sem, Nat.reduceEqDiff, Nat.reduceLT, Nat.reduceAdd, Nat.reduceMul, Nat.reduceSub, Nat.add_zero, Nat.zero_add, Int.reduceEq, Int.reduceLT])
    refine AWP.cond_split rfl (fun h129 => ?_) fun h129 => ?_
    · cases h129
    refine AWP.skip ?_
    exact ⟨by simp only [go_sem, Nat.reduceEqDiff, Nat.reduceLT, Nat.reduceAdd, Nat.reduceMul, Nat.reduceSub, Nat.add_zero, Nat.zero_add, Int.reduceEq, Int.reduceLT], rfl, hg7⟩
  · refine AWP.skip ?_
    exact ⟨by simp only [go_sem, Nat.reduceEqDiff, Nat.reduceLT, Nat.reduceAdd, Nat.reduceMul, Nat.reduceSub, Nat.add_zero, Nat.zero_add, Int.reduceEq, Int.reduceLT], rfl, Grew.refl _⟩
  have hgM7 := hgM4.trans hg7
  refine AWP.seq ?_
  refine AWP.stepR [2, 12, 13, 131] fun K hK => ?_ -- r18
  simp only [go_sem, Nat.reduceEqDiff, Nat.reduceLT, Nat.reduceAdd, Nat.reduceMul, Nat.reduceSub, Nat.add_zero, Nat.zero_add, Int.reduceEq, Int.reduceLT]
  refine hK _ _ _ (by simp only [go_sem, Nat.reduceEqDiff, Nat.reduceLT, Nat.reduceAdd, Nat.reduceMul, Nat.reduceSub, Nat.add_zero, Nat.zero_add, Int.reduceEq, Int.reduceLT]; rfl) ?_; clear hK
  refine AWP.condG rfl [] [] (fun M' => Grew M M') (fun h131 => ?_) (fun h131 => ?_) fun M9 hg9 => ?_
  · have hd0 : (getK b).2.2 = 0 := by simpa using h131
    obtain ⟨q1, q2⟩ := putK_get hb hd0
    obtain ⟨r9, M9, hc9, hg9, z, rfl, hz⟩ := put25_spec (getK b).1 m ms (getK b).2.1 M7 (hgM7.ok hok) (hm.grew (hg4.trans hg7)) (hpm.grew (hg4.trans hg7)) (fun _ l hl => by have := hks2 l hl; omega)
    have hpk : putK (getK b).1 (getK b).2.1 = (b, 0) := by rw [putK, if_neg (by omega), q2]
    rw [hpk] at hc9 hz
    refine AWP.stepR [2, 21, 22] fun K hK => ?_ -- r19
    simp only [go_sem, Nat.reduceEqDiff, Nat.reduceLT, Nat.reduceAdd, Nat.reduceMul, Nat.reduceSub, Nat.add_zero, Nat.zero_add, Int.reduceEq, Int.reduceLT]
    refine ⟨_, _, hc9, ?_⟩
    try simp only [go_sem, Nat.reduceEqDiff, Nat.reduceLT, Nat.reduceAdd, Nat.reduceMul, Nat.reduceSub, Nat.add_zero, Nat.zero_add, Int.reduceEq, Int.reduceLT, extractV]
    refine hK _ _ _ (by simp only [go_sem, Nat.reduceEqDiff, Nat.reduceLT, Nat.reduceAdd, Nat.reduceMul, Nat.reduceSub, Nat.add_zero, Nat.zero_add, Int.reduceEq, Int.reduceLT]; rfl) ?_; clear hK
    have hgM9 := hgM7.trans hg9
    obtain ⟨ra, Ma, hca, hra, hMa⟩ := same29_spec z bv b b M9 (hgM9.ok hok) hz.row (hbv.grew hgM9) (by omega)
    rw [hra, hMa, beq_self_eq_true] at hca
    refine AWP.stepX [145] [(145, .bool false)] M9 (fun K hK => ?_) ?_ -- r20
    · simp only [go_sem, Nat.reduceEqDiff, Nat.reduceLT, Nat.reduceAdd, Nat.reduceMul, Nat.reduceSub, Nat.add_zero, Nat.zero_add, Int.reduceEq, Int.reduceLT, bneI, bneB, beq_self_eq_true]
      refine ⟨_, _, hca, ?_⟩
      try simp only [go_sem, Nat.reduceEqDiff, Nat.reduceLT, Nat.reduceAdd, Nat.reduceMul, Nat.reduceSub, Nat.add_zero, Nat.zero_add, Int.reduceEq, Int.reduceLT, Bool.not_true, bneI, bneB, beq_self_eq_true]
      exact hK _ (by simp only [go_sem, Nat.reduceEqDiff, Nat.reduceLT, Nat.reduceAdd, Nat.reduceMul, Nat.reduceSub, Nat.add_zero, Nat.zero_add, Int.reduceEq, Int.reduceLT])
    refine AWP.cond_split rfl (fun h145 => ?_) fun h145 => ?_
    · cases h145
    refine AWP.skip ?_
    exact ⟨by simp only [go_sem, Nat.reduceEqDiff, Nat.reduceLT, Nat.reduceAdd, Nat.reduceMul, Nat.reduceSub, Nat.add_zero, Nat.zero_add, Int.reduceEq, Int.reduceLT], rfl, hgM9⟩
  · refine AWP.skip ?_
    exact ⟨by simp only [go_sem, Nat.reduceEqDiff, Nat.reduceLT, Nat.reduceAdd, Nat.reduceMul, Nat.reduceSub, Nat.add_zero, Nat.zero_add, Int.reduceEq, Int.reduceLT], rfl, hgM7⟩
  refine AWP.stepR [6] fun K hK => ?_ -- r22
  simp only [go_sem, Nat.reduceEqDiff, Nat.reduceLT, Nat.reduceAdd, Nat.reduceMul, Nat.reduceSub, Nat.add_zero, Nat.zero_add, Int.reduceEq, Int.reduceLT]
  refine ⟨_, _, works _ hg9, ?_⟩
  try simp only [go_sem, Nat.reduceEqDiff, Nat.reduceLT, Nat.reduceAdd, Nat.reduceMul, Nat.reduceSub, Nat.add_zero, Nat.zero_add, Int.reduceEq, Int.reduceLT]
  refine hK _ _ _ (by simp only [go_sem, Nat.reduceEqDiff, Nat.reduceLT, Nat.reduceAdd, Nat.reduceMul, Nat.reduceSub, Nat.add_zero, Nat.zero_add, Int.reduceEq, Int.reduceLT]; rfl) ?_; clear hK
  refine AWP.ret (?_)
  exact Fin.plain ⟨.inr rfl, rfl⟩ rfl rfl hok hg9 ⟨rfl, rfl⟩
end Go.Proofs.YtopblipficpilaaGreatDoor.AY
