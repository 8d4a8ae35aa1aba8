/- Many that are in one: the document's Get. -/
import Derived.Test.YtopblipficpilaaGreatDoorBulkPuts8
namespace Go.Proofs.YtopblipficpilaaGreatDoor.AY
open Go Go.Proofs
set_option maxRecDepth 100000
set_option linter.unusedVariables false
set_option linter.unusedSimpArgs false

theorem own_app {N : Nat} {M : Mem} {P : Program} {t tx e sz bytes : Nat} (hf : AppFacts P t tx e sz bytes) {v x : Value} {n k : Nat} {cells news : List Value} (hok : Ok M) (hN : N ≤ M.next) (ho : Own (baseN N) M v n cells e) (hl : cells.length = n * sz)
    (hx : contentV M.get sz x = some (k, news)) (hone : oneCells news = true) (hb : (n + k) * bytes ≤ 140737488355328) :
    ∃ v2 M2, appendE P M t tx v x = some (v2, M2) ∧ M.next ≤ M2.next ∧ Ok M2 ∧ (∀ j, j < N → M2.get j = M.get j) ∧ Own (baseN N) M2 v2 (n + k) (cells ++ news) e := by
  have hg : Grew (⟨N, M.tri⟩ : Mem) M := ⟨fun _ _ => rfl, hN, fun _ => hok⟩
  have ho' : Own (⟨N, M.tri⟩ : Mem) M v n cells e := ho
  obtain ⟨v2, M2, happ, ho2, hg2, hnx, hfr⟩ := Own.append hf hg ho' hl hx hone hb
  exact ⟨v2, M2, happ, hnx, hok.app happ, fun j hj => hg2.keep j hj, ho2⟩
theorem endS_code {s : Rs} (h : s.code ≠ 0) : (endS s).code = s.code := by
  unfold endS
  split
  · rw [failS, if_neg h]
  · rfl
/-- what stands ahead is wrong -/
theorem getK_bad {b : List Int} (h : (headS b).code ≠ 0) : getK b = (false, [], (headS b).code) := by
  have e : itemsS b = (headS b, []) := loopP_stop textS (.inr h)
  have e2 : (endS (itemsS b).1).code = (headS b).code := by rw [e]; exact endS_code h
  rw [getK, e2, if_pos h]
theorem headS_eq (b : List Int) : headS b = if (numS (numS ⟨b, 0⟩ 1).1 1).1.code = 0 ∧ onBt b > 1 then failS (numS (numS ⟨b, 0⟩ 1).1 1).1 4 else if (numS (numS ⟨b, 0⟩ 1).1 1).1.code = 0 ∧ cntBt b > 64 then failS (numS (numS ⟨b, 0⟩ 1).1 1).1 16 else (numS (numS ⟨b, 0⟩ 1).1 1).1 := by
  have e : headS b = if cntBt b > 64 then failS (if onBt b > 1 then failS (numS (numS ⟨b, 0⟩ 1).1 1).1 4 else (numS (numS ⟨b, 0⟩ 1).1 1).1) 16 else (if onBt b > 1 then failS (numS (numS ⟨b, 0⟩ 1).1 1).1 4 else (numS (numS ⟨b, 0⟩ 1).1 1).1) := rfl
  rw [e]
  generalize (numS (numS ⟨b, 0⟩ 1).1 1).1 = s
  by_cases h0 : s.code = 0 <;> by_cases h1 : onBt b > 1 <;> by_cases h2 : cntBt b > 64 <;> simp [failS, h0, h1, h2]

theorem get28_spec (v : Value) (b : List Int) (M : Mem) (hok : Ok M) (hv : RowB M v b) (hE : b = [] ∨ RowE M v b.length (cB b) 5) (hb : BytB b) (hl : b.length ≤ 1000000) :
    ∃ r M', ACall Tryz.prog 28 #[v] M r M' ∧ Grew M M' ∧ ∃ lv vs, r = .tuple #[.bool (getK b).1, lv, .int .i64 (getK b).2.2] ∧ Row_ M' lv vs.length vs ∧ Parts M' vs (getK b).2.1 := by
  refine ACall.fin (args := [v]) (k := 68) Tryz.func28 rfl rfl rfl (Nat.le_of_ble_eq_true rfl) ?_
  refine AWP.stepR [0] fun K hK => ?_ -- r0
  simp only [go_sem, Nat.reduceEqDiff, Nat.reduceLT, Nat.reduceAdd, Nat.reduceMul, Nat.reduceSub, Nat.add_zero, Nat.zero_add, Int.reduceEq, Int.reduceLT]
  refine hK _ _ _ (by simp only [go_sem, Nat.reduceEqDiff, Nat.reduceLT, Nat.reduceAdd, Nat.reduceMul, Nat.reduceSub, Nat.add_zero, Nat.zero_add, Int.reduceEq, Int.reduceLT]; rfl) ?_; clear hK
  have hb1 : BytB (numS ⟨b, 0⟩ 1).1.b := numS_bytes (s := ⟨b, 0⟩) hb 1
  have hl1 : (numS ⟨b, 0⟩ 1).1.b.length ≤ b.length := numS_len ⟨b, 0⟩ 1
  have hgb := (Grew.refl M).bump 1
  obtain ⟨r1, X1, hc1, hx1, w1, rfl, ⟨vb1, rfl, hB1, hd1⟩⟩ := number64_spec (.agg (rdC v 0).toArray) ⟨b, 0⟩ 1 M (M.bump 1) (hgb.ok hok) hgb ⟨v, rfl, hv, hE.elim (fun h => .inr (.inr (by subst h; simp))) .inl⟩ hb (by decide) (by simp only; omega)
  refine AWP.stepR [5, 6] fun K hK => ?_ -- r1
  simp only [go_sem, Nat.reduceEqDiff, Nat.reduceLT, Nat.reduceAdd, Nat.reduceMul, Nat.reduceSub, Nat.add_zero, Nat.zero_add, Int.reduceEq, Int.reduceLT, bd_134 hv.one]
  refine ⟨_, _, hc1, ?_⟩
  try simp only [go_sem, Nat.reduceEqDiff, Nat.reduceLT, Nat.reduceAdd, Nat.reduceMul, Nat.reduceSub, Nat.add_zero, Nat.zero_add, Int.reduceEq, Int.reduceLT, extractV, st_fresh (M := X1) (i := M.next) (n := 2) (old := [.slice none 0 0, .int .i64 0]) (vs := rdC vb1 (numS ⟨b, 0⟩ 1).1.code) (e := 134) rfl rfl (rdC_one hB1.one)]
  refine hK _ _ _ (by simp only [go_sem, Nat.reduceEqDiff, Nat.reduceLT, Nat.reduceAdd, Nat.reduceMul, Nat.reduceSub, Nat.add_zero, Nat.zero_add, Int.reduceEq, Int.reduceLT]; rfl) ?_; clear hK
  obtain ⟨M1, hM1, hg1, hh1⟩ := kept M X1 hx1 [.slice none 0 0, .int .i64 0] (rdC vb1 (numS ⟨b, 0⟩ 1).1.code) 134
  rw [hM1]
  have hgb1 := hg1.bump 1
  obtain ⟨r2, X2, hc2, hx2, w2, rfl, ⟨vb2, rfl, hB2, hd2⟩⟩ := number64_spec (.agg (rdC vb1 (numS ⟨b, 0⟩ 1).1.code).toArray) (numS ⟨b, 0⟩ 1).1 1 M (M1.bump 1) (hgb1.ok hok) hgb1 (RdV.k ⟨vb1, rfl, hB1, hd1⟩ 1) hb1 (by decide) (by omega)
  refine AWP.stepR [6, 7, 8] fun K hK => ?_ -- r2
  simp only [go_sem, Nat.reduceEqDiff, Nat.reduceLT, Nat.reduceAdd, Nat.reduceMul, Nat.reduceSub, Nat.add_zero, Nat.zero_add, Int.reduceEq, Int.reduceLT, ld_134, hh1.lda (rdC_len ..)]
  refine ⟨_, _, hc2, ?_⟩
  try simp only [go_sem, Nat.reduceEqDiff, Nat.reduceLT, Nat.reduceAdd, Nat.reduceMul, Nat.reduceSub, Nat.add_zero, Nat.zero_add, Int.reduceEq, Int.reduceLT, extractV, st_fresh (M := X2) (i := M1.next) (n := 2) (old := [.slice none 0 0, .int .i64 0]) (vs := rdC vb2 (numS (numS ⟨b, 0⟩ 1).1 1).1.code) (e := 134) rfl rfl (rdC_one hB2.one)]
  refine hK _ _ _ (by simp only [go_sem, Nat.reduceEqDiff, Nat.reduceLT, Nat.reduceAdd, Nat.reduceMul, Nat.reduceSub, Nat.add_zero, Nat.zero_add, Int.reduceEq, Int.reduceLT]; rfl) ?_; clear hK
  obtain ⟨M2, hM2, hg12, hh2⟩ := kept M1 X2 hx2 [.slice none 0 0, .int .i64 0] (rdC vb2 (numS (numS ⟨b, 0⟩ 1).1 1).1.code) 134
  rw [hM2]
  have hg2 := hg1.trans hg12
  have hon := numS_b1 (s := ⟨b, 0⟩) hb
  have hcn := numS_b1 hb1
  have hon : 0 ≤ onBt b ∧ onBt b < 256 := hon
  have hcn : 0 ≤ cntBt b ∧ cntBt b < 256 := hcn
  have hb2 := numS_bytes hb1 1
  have hl2 := numS_len (numS ⟨b, 0⟩ 1).1 1
  have hhd := headS_eq b
  have hq1 : M.next ≤ M1.next := hg1.next
  have hit : itemsS b = loopP textS (cntBt b).toNat (headS b) := rfl
  change AWP _ _ _ _ ⟨[(6, .int .u64 (onBt b)), (7, .pointer (some ⟨M1.next, 0, none⟩)), (8, .int .u64 (cntBt b))], M2, _⟩ _
  generalize hs0 : (numS (numS ⟨b, 0⟩ 1).1 1).1 = s0 at *
  have hkb : s0.code ≠ 0 ∨ s0.code = 0 := by omega
  refine AWP.seq ?_
  refine AWP.stepX [6, 7, 8, 31] [(6, .int .u64 (onBt b)), (7, .pointer (some ⟨M1.next, 0, none⟩)), (8, .int .u64 (cntBt b)), (31, .bool (decide (s0.code = 0 ∧ onBt b > 1)))] M2 (fun K hK => ?_) ?_ -- r3
  · by_cases h0 : s0.code = 0
    · simp only [go_sem, Nat.reduceEqDiff, Nat.reduceLT, Nat.reduceAdd, Nat.reduceMul, Nat.reduceSub, Nat.add_zero, Nat.zero_add, Int.reduceEq, Int.reduceLT, ld_35, hh2.ld, rdC, h0, show ((0 : Int) == 0) = true from rfl]
      refine hK _ ?_
      simp only [go_sem, Nat.reduceEqDiff, Nat.reduceLT, Nat.reduceAdd, Nat.reduceMul, Nat.reduceSub, Nat.add_zero, Nat.zero_add, Int.reduceEq, Int.reduceLT]
      simp [h0]
    · simp only [go_sem, Nat.reduceEqDiff, Nat.reduceLT, Nat.reduceAdd, Nat.reduceMul, Nat.reduceSub, Nat.add_zero, Nat.zero_add, Int.reduceEq, Int.reduceLT, ld_35, hh2.ld, rdC, show (s0.code == 0) = false by simp [h0]]
      refine hK _ ?_
      simp only [go_sem, Nat.reduceEqDiff, Nat.reduceLT, Nat.reduceAdd, Nat.reduceMul, Nat.reduceSub, Nat.add_zero, Nat.zero_add, Int.reduceEq, Int.reduceLT]
      rw [decide_eq_false (fun hh => h0 hh.1)]
  refine AWP.cond_split rfl (fun h31 => ?_) fun h31 => ?_
  · have h := of_decide_eq_true h31
    rw [if_pos h] at hhd
    have he : (headS b).code = 4 := by rw [hhd, failS, if_pos h.1]
    refine AWP.stepR [2, 3, 4] fun K hK => ?_ -- r4
    simp only [go_sem, Nat.reduceEqDiff, Nat.reduceLT, Nat.reduceAdd, Nat.reduceMul, Nat.reduceSub, Nat.add_zero, Nat.zero_add, Int.reduceEq, Int.reduceLT]
    refine hK _ _ _ (by simp only [go_sem, Nat.reduceEqDiff, Nat.reduceLT, Nat.reduceAdd, Nat.reduceMul, Nat.reduceSub, Nat.add_zero, Nat.zero_add, Int.reduceEq, Int.reduceLT]; rfl) ?_; clear hK
    refine AWP.ret (Then.ret (?_))
    have hk := getK_bad (b := b) (by rw [he]; decide)
    rw [he] at hk
    exact Fin.keep (v := .tuple #[.bool false, .slice none 0 0, .int .i64 4]) ⟨.inr rfl, rfl⟩ rfl ⟨hg2, .slice none 0 0, [], by rw [hk], Row_.nil _, by rw [hk]; exact Parts.nil _⟩
  · have h := of_decide_eq_false h31
    rw [if_neg h] at hhd
    refine AWP.skip ?_
    refine AWP.seq ?_
    refine AWP.stepX [6, 7, 8, 38] [(6, .int .u64 (onBt b)), (7, .pointer (some ⟨M1.next, 0, none⟩)), (8, .int .u64 (cntBt b)), (38, .bool (decide (s0.code = 0 ∧ cntBt b > 64)))] M2 (fun K hK => ?_) ?_ -- r5
    · by_cases h0 : s0.code = 0
      · simp only [go_sem, Nat.reduceEqDiff, Nat.reduceLT, Nat.reduceAdd, Nat.reduceMul, Nat.reduceSub, Nat.add_zero, Nat.zero_add, Int.reduceEq, Int.reduceLT, ld_35, hh2.ld, rdC, h0, show ((0 : Int) == 0) = true from rfl]
        refine hK _ ?_
        simp only [go_sem, Nat.reduceEqDiff, Nat.reduceLT, Nat.reduceAdd, Nat.reduceMul, Nat.reduceSub, Nat.add_zero, Nat.zero_add, Int.reduceEq, Int.reduceLT]
        simp [h0]
      · simp only [go_sem, Nat.reduceEqDiff, Nat.reduceLT, Nat.reduceAdd, Nat.reduceMul, Nat.reduceSub, Nat.add_zero, Nat.zero_add, Int.reduceEq, Int.reduceLT, ld_35, hh2.ld, rdC, show (s0.code == 0) = false by simp [h0]]
        refine hK _ ?_
        simp only [go_sem, Nat.reduceEqDiff, Nat.reduceLT, Nat.reduceAdd, Nat.reduceMul, Nat.reduceSub, Nat.add_zero, Nat.zero_add, Int.reduceEq, Int.reduceLT]
        rw [decide_eq_false (fun hh => h0 hh.1)]
    refine AWP.cond_split rfl (fun h38 => ?_) fun h38 => ?_
    · have h := of_decide_eq_true h38
      rw [if_pos h] at hhd
      have he : (headS b).code = 16 := by rw [hhd, failS, if_pos h.1]
      refine AWP.stepR [2, 3, 4] fun K hK => ?_ -- r6
      simp only [go_sem, Nat.reduceEqDiff, Nat.reduceLT, Nat.reduceAdd, Nat.reduceMul, Nat.reduceSub, Nat.add_zero, Nat.zero_add, Int.reduceEq, Int.reduceLT]
      refine hK _ _ _ (by simp only [go_sem, Nat.reduceEqDiff, Nat.reduceLT, Nat.reduceAdd, Nat.reduceMul, Nat.reduceSub, Nat.add_zero, Nat.zero_add, Int.reduceEq, Int.reduceLT]; rfl) ?_; clear hK
      refine AWP.ret (Then.ret (?_))
      have hk := getK_bad (b := b) (by rw [he]; decide)
      rw [he] at hk
      exact Fin.keep (v := .tuple #[.bool false, .slice none 0 0, .int .i64 16]) ⟨.inr rfl, rfl⟩ rfl ⟨hg2, .slice none 0 0, [], by rw [hk], Row_.nil _, by rw [hk]; exact Parts.nil _⟩
    · have h := of_decide_eq_false h38
      rw [if_neg h] at hhd
      refine AWP.skip ?_
      obtain ⟨cnt, hcnt⟩ : ∃ c : Nat, cntBt b = c := ⟨(cntBt b).toNat, by omega⟩
      rw [hcnt] at hit hcn ⊢
      rw [Int.toNat_natCast, hhd] at hit
      refine AWP.stepR [6, 7, 8, 9] fun K hK => ?_ -- r7
      simp only [go_sem, Nat.reduceEqDiff, Nat.reduceLT, Nat.reduceAdd, Nat.reduceMul, Nat.reduceSub, Nat.add_zero, Nat.zero_add, Int.reduceEq, Int.reduceLT]
      refine hK _ _ _ (by simp only [go_sem, Nat.reduceEqDiff, Nat.reduceLT, Nat.reduceAdd, Nat.reduceMul, Nat.reduceSub, Nat.add_zero, Nat.zero_add, Int.reduceEq, Int.reduceLT]; rfl) ?_; clear hK
      refine AWP.seq ?_
      refine AWP.stepR [6, 7, 8, 9, 10] fun K hK => ?_ -- r8
      simp only [go_sem, Nat.reduceEqDiff, Nat.reduceLT, Nat.reduceAdd, Nat.reduceMul, Nat.reduceSub, Nat.add_zero, Nat.zero_add, Int.reduceEq, Int.reduceLT]
      refine hK _ _ _ (by simp only [go_sem, Nat.reduceEqDiff, Nat.reduceLT, Nat.reduceAdd, Nat.reduceMul, Nat.reduceSub, Nat.add_zero, Nat.zero_add, Int.reduceEq, Int.reduceLT]; rfl) ?_; clear hK
      refine AWP.block ?_ -- b0
      refine AWP.loopK [6, 7, 8, 9, 10] (fun c e M3 => c ≤ cnt ∧ Grew M M3 ∧ M2.next ≤ M3.next ∧ ∃ (s : Rs) (vb lv : Value) (vs : List Value) (ls : List (List Int)), ls.length ≤ cnt - c ∧ Has M3 M1.next ⟨rdC vb s.code, 134, true⟩ ∧ RdV M (.agg (rdC vb s.code).toArray) s ∧ Own (baseN M2.next) M3 lv vs.length vs 42 ∧ Parts M vs ls ∧ BytB s.b ∧ s.b.length ≤ 1000000 ∧ loopP textS cnt s0 = ((loopP textS c s).1, ls ++ (loopP textS c s).2) ∧ e = [(6, .int .u64 (onBt b)), (7, .pointer (some ⟨M1.next, 0, none⟩)), (8, .int .u64 (cnt : Int)), (9, lv), (10, .int .i64 ((cnt - c : Nat) : Int))]) cnt ?_ fun c e M3 hI => ?_ -- LOOP
      · exact ⟨Nat.le_refl _, hg2, Nat.le_refl _, s0, vb2, .slice none 0 0, [], [], Nat.zero_le _, hh2, ⟨vb2, rfl, hB2, hd2⟩, Own.nil _ _ _, Parts.nil _, hb2, by omega, by simp, by simp only [go_sem, Nat.reduceEqDiff, Nat.reduceLT, Nat.reduceAdd, Nat.reduceMul, Nat.reduceSub, Nat.add_zero, Nat.zero_add, Int.reduceEq, Int.reduceLT, Nat.sub_self]; rfl⟩
      obtain ⟨hcc, hgX, hnX, s, vb, lv, vs, ls, hlc, hh7, hrd, hown, hparts, hbs, hls, hlp, rfl⟩ := hI
      have hvl := hparts.1
      have hqlt : M1.next < M2.next := hh2.2
      refine AWP.seq ?_
      refine AWP.stepX [6, 7, 8, 9, 10, 47] [(6, .int .u64 (onBt b)), (7, .pointer (some ⟨M1.next, 0, none⟩)), (8, .int .u64 (cnt : Int)), (9, lv), (10, .int .i64 ((cnt - c : Nat) : Int)), (47, .bool (decide (0 < c ∧ s.code = 0)))] M3 (fun K hK => ?_) ?_ -- r9
      · by_cases hc0 : 0 < c
        · have f1 : (((cnt - c : Nat) : Int) < (cnt : Int)) = True := by simp; omega
          simp only [go_sem, Nat.reduceEqDiff, Nat.reduceLT, Nat.reduceAdd, Nat.reduceMul, Nat.reduceSub, Nat.add_zero, Nat.zero_add, Int.reduceEq, Int.reduceLT, i64w (n := (cnt : Int)) (by omega) (by omega), f1, decide_true, ld_35, hh7.ld, rdC]
          refine hK _ ?_
          simp only [go_sem, Nat.reduceEqDiff, Nat.reduceLT, Nat.reduceAdd, Nat.reduceMul, Nat.reduceSub, Nat.add_zero, Nat.zero_add, Int.reduceEq, Int.reduceLT]
          congr 7
          by_cases h0 : s.code = 0 <;> simp [h0, hc0]
        · have f1 : (((cnt - c : Nat) : Int) < (cnt : Int)) = False := by simp; omega
          simp only [go_sem, Nat.reduceEqDiff, Nat.reduceLT, Nat.reduceAdd, Nat.reduceMul, Nat.reduceSub, Nat.add_zero, Nat.zero_add, Int.reduceEq, Int.reduceLT, i64w (n := (cnt : Int)) (by omega) (by omega), f1, decide_false]
          refine hK _ ?_
          simp only [go_sem, Nat.reduceEqDiff, Nat.reduceLT, Nat.reduceAdd, Nat.reduceMul, Nat.reduceSub, Nat.add_zero, Nat.zero_add, Int.reduceEq, Int.reduceLT]
          rw [decide_eq_false (fun hh => hc0 hh.1)]
      refine AWP.cond_split rfl (fun h47 => ?_) fun h47 => ?_
      · obtain ⟨hc0, hcode⟩ := of_decide_eq_true h47
        refine AWP.skip ?_
        refine AWP.seq ?_
        refine AWP.block ?_ -- b1
        have hgb3 := hgX.bump 1
        obtain ⟨r4, X4, hc4, hx4, w4, x, rfl, ⟨vb4, rfl, hB4, hd4⟩, hxN⟩ := text65_spec (.agg (rdC vb s.code).toArray) s M (M3.bump 1) (hgb3.ok hok) hgb3 hrd hbs hls
        have hx1 : x.oneCell' = true := hxN.row.one
        refine AWP.stepR [6, 7, 8, 9, 10, 11, 12] fun K hK => ?_ -- r11
        simp only [go_sem, Nat.reduceEqDiff, Nat.reduceLT, Nat.reduceAdd, Nat.reduceMul, Nat.reduceSub, Nat.add_zero, Nat.zero_add, Int.reduceEq, Int.reduceLT, ld_134, hh7.lda (rdC_len ..)]
        refine ⟨_, _, hc4, ?_⟩
        try simp only [go_sem, Nat.reduceEqDiff, Nat.reduceLT, Nat.reduceAdd, Nat.reduceMul, Nat.reduceSub, Nat.add_zero, Nat.zero_add, Int.reduceEq, Int.reduceLT, extractV, st_fresh (M := X4) (i := M3.next) (n := 2) (old := [.slice none 0 0, .int .i64 0]) (vs := rdC vb4 (textS s).1.code) (e := 134) rfl rfl (rdC_one hB4.one)]
        refine hK _ _ _ (by simp only [go_sem, Nat.reduceEqDiff, Nat.reduceLT, Nat.reduceAdd, Nat.reduceMul, Nat.reduceSub, Nat.add_zero, Nat.zero_add, Int.reduceEq, Int.reduceLT]; rfl) ?_; clear hK
        obtain ⟨M4, hM4, hg34, hh11⟩ := kept M3 X4 hx4 [.slice none 0 0, .int .i64 0] (rdC vb4 (textS s).1.code) 134
        rw [hM4]
        have hh74 := hh7.grew hg34
        have hg4 := hgX.trans hg34
        have hn4 : M3.next ≤ M4.next := hg34.next
        refine AWP.stepR [6, 7, 8, 9, 10, 12] fun K hK => ?_ -- r12
        simp only [go_sem, Nat.reduceEqDiff, Nat.reduceLT, Nat.reduceAdd, Nat.reduceMul, Nat.reduceSub, Nat.add_zero, Nat.zero_add, Int.reduceEq, Int.reduceLT, ld_134, hh11.lda (rdC_len ..), st_134, st_all (n := 2) (vs := rdC vb4 (textS s).1.code) hh74 rfl rfl rfl (rdC_one hB4.one)]
        refine hK _ _ _ (by simp only [go_sem, Nat.reduceEqDiff, Nat.reduceLT, Nat.reduceAdd, Nat.reduceMul, Nat.reduceSub, Nat.add_zero, Nat.zero_add, Int.reduceEq, Int.reduceLT]; rfl) ?_; clear hK
        obtain ⟨hg5, hh75⟩ := mk_put hg4 hq1 hh74.2 ⟨rdC vb4 (textS s).1.code, 134, true⟩
        have hown5 : Own (baseN M2.next) (M4.put M1.next ⟨rdC vb4 (textS s).1.code, 134, true⟩) lv vs.length vs 42 := (hown.grew hg34).put (show M1.next < (baseN M2.next).next from hqlt) _
        have hn5 : (M4.put M1.next ⟨rdC vb4 (textS s).1.code, 134, true⟩).next = M4.next := Mem.next_put _ _ _
        generalize M4.put M1.next ⟨rdC vb4 (textS s).1.code, 134, true⟩ = M5 at hg5 hh75 hown5 hn5
        have hlt5 : M5.next < (M5.bump 1).next := Nat.lt_succ_self _
        obtain ⟨hg6, hh6⟩ := mk_put (hg5.bump 1) hg5.next hlt5 ⟨[x], 42, true⟩
        have hown6 : Own (baseN M2.next) ((M5.bump 1).put M5.next ⟨[x], 42, true⟩) lv vs.length vs 42 := hown5.grew (((Grew.refl M5).bump 1).put (Nat.le_refl _) hlt5 _)
        have hh76 : Has ((M5.bump 1).put M5.next ⟨[x], 42, true⟩) M1.next ⟨rdC vb4 (textS s).1.code, 134, true⟩ := hh75.grew (((Grew.refl M5).bump 1).put (Nat.le_refl _) hlt5 _)
        have hn6 : ((M5.bump 1).put M5.next ⟨[x], 42, true⟩).next = M5.next + 1 := by rw [Mem.next_put, Mem.next_bump]
        obtain ⟨v2, M7, happ, hnx7, hok7, hkeep7, hown7⟩ := own_app ap_59_59 (hg6.ok hok) (show M2.next ≤ _ by omega) hown6 (by simp) (hh6.content 1 1 1 rfl) (by simp [oneCells, hx1]) (by omega)
        refine AWP.lastR fun K hK => ?_ -- r13
        simp only [go_sem, Nat.reduceEqDiff, Nat.reduceLT, Nat.reduceAdd, Nat.reduceMul, Nat.reduceSub, Nat.add_zero, Nat.zero_add, Int.reduceEq, Int.reduceLT, hx1, cond_true, happ]
        refine hK _ _ ?_; clear hK
        refine AWP.lastR fun K hK => ?_ -- r10
        simp only [go_sem, Nat.reduceEqDiff, Nat.reduceLT, Nat.reduceAdd, Nat.reduceMul, Nat.reduceSub, Nat.add_zero, Nat.zero_add, Int.reduceEq, Int.reduceLT]
        rw [i64w (by omega) (by omega)]
        refine hK _ _ ?_; clear hK
        rw [loopP_step textS hc0 hcode] at hlp
        have htb := textS_bytes hbs
        have htl := textS_len s
        have hgM7 : Grew M M7 := ⟨fun i hi => (hkeep7 i (by omega)).trans (hg6.keep i hi), by have := hg6.next; omega, fun _ => hok7⟩
        refine ⟨rfl, c - 1, by omega, by omega, hgM7, (show M2.next ≤ M7.next by omega), (textS s).1, vb4, v2, vs ++ [x], ls ++ [(textS s).2], by simp; omega, ⟨(rowsOf_same (hkeep7 _ hqlt)).trans hh76.1, (show M1.next < M7.next by omega)⟩, ⟨vb4, rfl, hB4, hd4⟩, by simpa using hown7, ?_, htb.1, by omega, ?_, ?_⟩ -- ROUND
        · refine ⟨by simp [hvl], fun i a y ha hy => ?_⟩
          rw [List.getElem?_append] at ha hy
          by_cases hi : i < vs.length
          · rw [if_pos hi] at ha
            rw [if_pos (by omega)] at hy
            exact hparts.2 i a y ha hy
          · rw [if_neg hi] at ha
            rw [if_neg (by omega)] at hy
            have h0 : i - vs.length = 0 := by
              rcases Nat.eq_zero_or_pos (i - vs.length) with h | h
              · exact h
              · rw [List.getElem?_eq_none (by simp; omega)] at ha; cases ha
            rw [h0] at ha
            rw [show i - ls.length = 0 by omega] at hy
            simp at ha hy
            subst ha hy
            exact hxN.row
        · rw [hlp]; simp
        · simp only [go_sem, Nat.reduceEqDiff, Nat.reduceLT, Nat.reduceAdd, Nat.reduceMul, Nat.reduceSub, Nat.add_zero, Nat.zero_add, Int.reduceEq, Int.reduceLT]
          rw [show ((cnt - c : Nat) : Int) + 1 = ((cnt - (c - 1) : Nat) : Int) by omega]
      · have hstop := of_decide_eq_false h47
        have hst : c = 0 ∨ s.code ≠ 0 := by omega
        rw [loopP_stop textS (c := c) (s := s) hst, List.append_nil] at hlp
        rw [hlp] at hit
        obtain ⟨r5, M5, hc5, hr5, hM5⟩ := end66_spec (.agg (rdC vb s.code).toArray) s M3 (hgX.ok hok) (hrd.grew hgX)
        rw [hr5, hM5] at hc5
        refine AWP.exit (Then.exit (Then.exit (InBlock.same ?_))) -- x0
        refine AWP.seq ?_
        refine AWP.stepR [6, 9, 13] fun K hK => ?_ -- r14
        simp only [go_sem, Nat.reduceEqDiff, Nat.reduceLT, Nat.reduceAdd, Nat.reduceMul, Nat.reduceSub, Nat.add_zero, Nat.zero_add, Int.reduceEq, Int.reduceLT, ld_134, hh7.lda (rdC_len ..)]
        refine ⟨_, _, hc5, ?_⟩
        try simp only [go_sem, Nat.reduceEqDiff, Nat.reduceLT, Nat.reduceAdd, Nat.reduceMul, Nat.reduceSub, Nat.add_zero, Nat.zero_add, Int.reduceEq, Int.reduceLT]
        refine hK _ _ _ (by simp only [go_sem, Nat.reduceEqDiff, Nat.reduceLT, Nat.reduceAdd, Nat.reduceMul, Nat.reduceSub, Nat.add_zero, Nat.zero_add, Int.reduceEq, Int.reduceLT]; rfl) ?_; clear hK
        refine AWP.stepR [6, 9, 13, 63] fun K hK => ?_ -- r15
        simp only [go_sem, Nat.reduceEqDiff, Nat.reduceLT, Nat.reduceAdd, Nat.reduceMul, Nat.reduceSub, Nat.add_zero, Nat.zero_add, Int.reduceEq, Int.reduceLT]
        refine hK _ _ _ (by simp only [go_sem, Nat.reduceEqDiff, Nat.reduceLT, Nat.reduceAdd, Nat.reduceMul, Nat.reduceSub, Nat.add_zero, Nat.zero_add, Int.reduceEq, Int.reduceLT]; rfl) ?_; clear hK
        have hit1 : (itemsS b).1 = s := by rw [hit]
        have hit2 : (itemsS b).2 = ls := by rw [hit]
        refine AWP.cond_split rfl (fun h63 => ?_) fun h63 => ?_
        · have he : (endS s).code ≠ 0 := by simpa using h63
          refine AWP.stepR [2, 3, 4] fun K hK => ?_ -- r16
          simp only [go_sem, Nat.reduceEqDiff, Nat.reduceLT, Nat.reduceAdd, Nat.reduceMul, Nat.reduceSub, Nat.add_zero, Nat.zero_add, Int.reduceEq, Int.reduceLT]
          refine hK _ _ _ (by simp only [go_sem, Nat.reduceEqDiff, Nat.reduceLT, Nat.reduceAdd, Nat.reduceMul, Nat.reduceSub, Nat.add_zero, Nat.zero_add, Int.reduceEq, Int.reduceLT]; rfl) ?_; clear hK
          refine AWP.ret (Then.ret (?_))
          have hk : getK b = (false, [], (endS s).code) := by rw [getK, hit1, if_pos he]
          exact Fin.keep (v := .tuple #[.bool false, .slice none 0 0, .int .i64 (endS s).code]) ⟨.inr rfl, rfl⟩ rfl ⟨hgX, .slice none 0 0, [], by rw [hk], Row_.nil _, by rw [hk]; exact Parts.nil _⟩
        · have he : ¬ (endS s).code ≠ 0 := by simpa using h63
          refine AWP.skip ?_
          refine AWP.stepR [2, 3, 4] fun K hK => ?_ -- r17
          simp only [go_sem, Nat.reduceEqDiff, Nat.reduceLT, Nat.reduceAdd, Nat.reduceMul, Nat.reduceSub, Nat.add_zero, Nat.zero_add, Int.reduceEq, Int.reduceLT]
          refine hK _ _ _ (by simp only [go_sem, Nat.reduceEqDiff, Nat.reduceLT, Nat.reduceAdd, Nat.reduceMul, Nat.reduceSub, Nat.add_zero, Nat.zero_add, Int.reduceEq, Int.reduceLT]; rfl) ?_; clear hK
          refine AWP.ret (?_)
          have hk : getK b = (onBt b == 1, ls, 0) := by rw [getK, hit1, if_neg he, hit2]
          exact Fin.keep (v := .tuple #[.bool (onBt b == 1), lv, .int .i64 0]) ⟨.inr rfl, rfl⟩ rfl ⟨hgX, lv, vs, by rw [hk], hown.row, by rw [hk]; exact hparts.grew hgX⟩
end Go.Proofs.YtopblipficpilaaGreatDoor.AY

/- Many in one, there and back: in plain words. -/
namespace Go.Proofs.YtopblipficpilaaGreatDoor.AY
open Go Go.Proofs
set_option maxRecDepth 100000
set_option linter.unusedVariables false
set_option linter.unusedSimpArgs false

theorem textS_in (l r : List Int) (h : l.length ≤ 262144) : textS ⟨itemB l ++ r, 0⟩ = (⟨r, 0⟩, l) := by
  have e : numS ⟨itemB l ++ r, 0⟩ 4 = (⟨l ++ r, 0⟩, (l.length : Int)) := by rw [itemB, List.append_assoc]; exact numS_in 0 4 _ (by omega) (by omega) _
  have c : capS (numS ⟨itemB l ++ r, 0⟩ 4) = ⟨l ++ r, 0⟩ := by rw [e, capS, if_neg (by rintro ⟨_, h⟩; simp only at h; omega)]
  rw [textS, c, if_neg (by simp), e]
  exact takeS_inZ l r
theorem failS_ne {s : Rs} {c : Int} (hc : c ≠ 0) : (failS s c).code ≠ 0 := by
  unfold failS
  split
  · exact hc
  · assumption
theorem textS_out {s : Rs} (hb : BytB s.b) (h : (textS s).1.code = 0) : s.b = itemB (textS s).2 ++ (textS s).1.b := by
  have hz : (capS (numS s 4)).code = 0 := Classical.byContradiction fun hn => by rw [textS, if_pos hn] at h; exact hn h
  have e1 : capS (numS s 4) = (numS s 4).1 := by
    unfold capS at hz ⊢
    split
    · rename_i h2; rw [if_pos h2] at hz; exact absurd hz (failS_ne (by decide))
    · rfl
  rw [textS, e1] at h
  rw [textS, e1]
  rw [e1] at hz
  rw [if_neg (by simpa using hz)] at h ⊢
  obtain ⟨h1, h2, h3⟩ := takeS_out h
  obtain ⟨h4, h5, h6⟩ := numS_out (k := 4) hb hz
  rw [itemB, h3]
  rw [show ((4 : Nat) : Int) = 4 from rfl] at h5
  rw [List.append_assoc, ← h2]
  exact h5

/-- what was put is read -/
theorem getK_put (on : Bool) {ls : List (List Int)} (h64 : ls.length ≤ 64) (hl : ∀ l, l ∈ ls → l.length ≤ 262144) : getK (encP on ls.length ls) = (on, ls, 0) := by
  have e1 : numS ⟨encP on ls.length ls, 0⟩ 1 = (⟨(ls.length : Int) :: (ls.map itemB).flatten, 0⟩, if on then 1 else 0) := numS_in1 _ _
  have e2 : numS (numS ⟨encP on ls.length ls, 0⟩ 1).1 1 = (⟨(ls.map itemB).flatten, 0⟩, (ls.length : Int)) := by rw [e1]; exact numS_in1 _ _
  have hon : onBt (encP on ls.length ls) = if on then 1 else 0 := by rw [onBt, e1]
  have hcn : cntBt (encP on ls.length ls) = (ls.length : Int) := by rw [cntBt, e2]
  have hh : headS (encP on ls.length ls) = ⟨(ls.map itemB).flatten, 0⟩ := by
    rw [headS_eq, e2, hon, hcn, if_neg (by rintro ⟨_, h⟩; revert h; cases on <;> simp), if_neg (by rintro ⟨_, h⟩; omega)]
  have hi : itemsS (encP on ls.length ls) = (⟨[], 0⟩, ls) := by
    have := loopP_in textS itemB ls [] fun a ha r => textS_in a r (hl a ha)
    rw [List.append_nil] at this
    rw [itemsS, hh, hcn, Int.toNat_natCast]; exact this
  rw [getK, hi, hon]
  have : (endS ⟨[], 0⟩).code = 0 := rfl
  simp only [this]
  cases on <;> rfl
/-- what was read is put -/
theorem putK_get {b : List Int} (hb : BytB b) (h : (getK b).2.2 = 0) : (getK b).2.1.length ≤ 64 ∧ encP (getK b).1 (getK b).2.1.length (getK b).2.1 = b := by
  have he : (endS (itemsS b).1).code = 0 := by
    unfold getK at h
    split at h
    · exact h
    · rename_i hn; simpa using hn
  have hk : getK b = (onBt b == 1, (itemsS b).2, 0) := by rw [getK, if_neg (by simpa using he)]
  rw [hk]
  simp only
  have hE : (itemsS b).1.code = 0 ∧ (itemsS b).1.b = [] := by
    unfold endS at he
    split at he
    · exact absurd he (failS_ne (by decide))
    · rename_i hn; exact ⟨he, List.eq_nil_of_length_eq_zero (by omega)⟩
  have hh : (headS b).code = 0 := loopP_code textS hE.1
  have hq := headS_eq b
  by_cases c1 : (numS (numS ⟨b, 0⟩ 1).1 1).1.code = 0 ∧ onBt b > 1
  · rw [if_pos c1] at hq
    rw [hq] at hh; exact absurd hh (failS_ne (by decide))
  rw [if_neg c1] at hq
  by_cases c2 : (numS (numS ⟨b, 0⟩ 1).1 1).1.code = 0 ∧ cntBt b > 64
  · rw [if_pos c2] at hq
    rw [hq] at hh; exact absurd hh (failS_ne (by decide))
  rw [if_neg c2] at hq
  rw [hq] at hh
  obtain ⟨h1, h2, h3⟩ := numS_out (s := (numS ⟨b, 0⟩ 1).1) (k := 1) (numS_bytes (s := ⟨b, 0⟩) hb 1) hh
  obtain ⟨h4, h5, h6⟩ := numS_out (s := ⟨b, 0⟩) (k := 1) hb h1
  have hon := numS_b1 (s := ⟨b, 0⟩) hb
  have hcn := numS_b1 (s := (numS ⟨b, 0⟩ 1).1) (numS_bytes (s := ⟨b, 0⟩) hb 1)
  have hon' : 0 ≤ onBt b ∧ onBt b ≤ 1 := ⟨hon.1, Int.not_lt.1 fun h => c1 ⟨hh, h⟩⟩
  have hcn' : 0 ≤ cntBt b ∧ cntBt b ≤ 64 := ⟨hcn.1, Int.not_lt.1 fun h => c2 ⟨hh, h⟩⟩
  have hbh := headS_bytes hb
  obtain ⟨g1, g2⟩ := loopP_out textS itemB (fun _ => True) (fun s h => (textS_bytes h).1) (fun s h h' _ => textS_out h h') (cntBt b).toNat (headS b) hbh hE.1 (fun _ _ => trivial)
  have g1 : (headS b).b = ((itemsS b).2.map itemB).flatten ++ (itemsS b).1.b := g1
  have g2 : (itemsS b).2.length = (cntBt b).toNat := g2
  rw [hE.2, List.append_nil] at g1
  refine ⟨by omega, ?_⟩
  rw [show ((1 : Nat) : Int) = 1 from rfl, putB_1 _ hon.1 hon.2] at h5
  rw [show ((1 : Nat) : Int) = 1 from rfl, putB_1 _ hcn.1 hcn.2] at h2
  have e : b = onBt b :: cntBt b :: (headS b).b := by
    conv => lhs; rw [show b = ([(numS ⟨b, 0⟩ 1).2] ++ (numS ⟨b, 0⟩ 1).1.b) from h5, h2]
    rw [hq]; rfl
  conv => rhs; rw [e, g1]
  rw [encP, g2]
  have f1 : (if (onBt b == 1) = true then (1 : Int) else 0) = onBt b := by
    rcases (show onBt b = 0 ∨ onBt b = 1 by omega) with h | h <;> rw [h] <;> rfl
  rw [f1, show (((cntBt b).toNat : Nat) : Int) = cntBt b by omega]
/-- what was read is short -/
theorem items_short {on : Bool} {n : Nat} {ls : List (List Int)} {b : List Int} (h : encP on n ls = b) : ∀ l, l ∈ ls → l.length ≤ b.length := by
  intro l hl
  have : (itemB l).length ≤ (ls.map itemB).flatten.length := by
    obtain ⟨s, t, rfl⟩ := List.append_of_mem hl
    simp only [List.map_append, List.map_cons, List.flatten_append, List.flatten_cons, List.length_append]; omega
  rw [itemB_len] at this
  rw [← h, encP]
  simp only [List.length_cons]; omega
end Go.Proofs.YtopblipficpilaaGreatDoor.AY
