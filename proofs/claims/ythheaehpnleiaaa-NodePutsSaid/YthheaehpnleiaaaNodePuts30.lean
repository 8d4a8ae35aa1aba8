/- The law's function 'NodeBack': it answers 'true'. -/
import Derived.Test.YthheaehpnleiaaaNodePuts28
import Derived.Test.YthheaehpnleiaaaNodePuts29
namespace Go.Proofs.Ythheaehpnleiaaa.AX
open Go Go.Proofs
set_option maxRecDepth 100000
set_option linter.unusedVariables false
set_option linter.unusedSimpArgs false

theorem Within.put2 {M : Mem} {j : Nat} (h : M.get j = none) (b c : Blk) : Within M.get ((M.put j b).put j c).get := fun i d hi => by
  rw [Mem.get_put, if_neg (by rintro rfl; rw [h] at hi; cases hi), Mem.get_put, if_neg (by rintro rfl; rw [h] at hi; cases hi)]; exact hi
theorem NodeR.within {M M1 : Mem} {n : Node} {vp vk : Value} (h : NodeR M n vp vk) (hw : Within M.get M1.get) (hn : M.next ≤ M1.next) : NodeR M1 n vp vk :=
  ⟨h.pairs.within hw hn, h.kids.within hw hn, fun p hp => (h.pk p hp).within hw hn, fun p hp => (h.pv p hp).within hw hn, fun p hp => (h.kk p hp).within hw hn⟩
theorem sameN_of {n m : Node} (h : NodeP.of m = NodeP.of n) : SameN n m :=
  ⟨(congrArg NodeP.leaf h).symm, (congrArg NodeP.pairs h).symm, (congrArg NodeP.kids h).symm⟩

theorem law7_spec (n : Node) (vp vk kv : Value) (b : List Int) (M : Mem) (hok : Ok M) (hr : NodeR M n vp vk) (hB : NodeB n) (hk : RowB M kv b) (hbk : Byt b) :
    ∃ r M', ACall Try.prog 7 #[.agg (nodeC n.leaf vp vk).toArray, kv] M r M' ∧ r = .bool true ∧ M' = M := by
  refine ACall.fin (args := [.agg (nodeC n.leaf vp vk).toArray, kv]) (k := 70) (rs := [.tmp 4]) Try.func7 rfl rfl rfl (Nat.le_of_ble_eq_true rfl) ?_
  refine AWP.stepR [1, 2] fun K hK => ?_
  simp only [go_sem, Nat.reduceEqDiff, Nat.reduceLT, Nat.reduceAdd, Nat.reduceMul, Nat.reduceSub, Nat.add_zero, Nat.zero_add, Int.reduceEq, Int.reduceLT]
  refine hK _ _ _ (by simp only [go_sem, Nat.reduceEqDiff, Nat.reduceLT, Nat.reduceAdd, Nat.reduceMul, Nat.reduceSub, Nat.add_zero, Nat.zero_add, Int.reduceEq, Int.reduceLT]; rfl) ?_; clear hK
  have hlt1 : M.next < (M.bump 1).next := Nat.lt_succ_self _
  obtain ⟨hg1, hh1⟩ := mk_put ((Grew.refl M).bump 1) (Nat.le_refl _) hlt1 ⟨nodeC n.leaf vp vk, 44, true⟩
  change AWP _ _ _ ⟨_, (M.bump 1).put M.next ⟨nodeC n.leaf vp vk, 44, true⟩⟩ _
  generalize hM1 : (M.bump 1).put M.next ⟨nodeC n.leaf vp vk, 44, true⟩ = M1 at hg1 hh1
  have hr := hr.grew hg1
  have hk := hk.grew hg1
  obtain ⟨r2, M2, hc2, hr2, hM2⟩ := light20_spec n vp vk M1 (hg1.ok hok) hr
  rw [hr2, hM2, lightV] at hc2
  refine AWP.seq ?_
  refine AWP.stepX [1, 2, 20] [(1, kv), (2, .pointer (some ⟨M.next, 0, none⟩)), (20, .bool (!(lightN n && !decide ((b.length : Int) > 600))))] M1 (fun K hK => ?_) ?_
  · cases hl : lightN n
    · rw [hl, if_neg (by decide)] at hc2
      simp only [go_sem, Nat.reduceEqDiff, Nat.reduceLT, Nat.reduceAdd, Nat.reduceMul, Nat.reduceSub, Nat.add_zero, Nat.zero_add, Int.reduceEq, Int.reduceLT, ld_44, hh1.lda (nodeC_len ..)]
      refine ⟨_, _, hc2, ?_⟩
      simp only [go_sem, Nat.reduceEqDiff, Nat.reduceLT, Nat.reduceAdd, Nat.reduceMul, Nat.reduceSub, Nat.add_zero, Nat.zero_add, Int.reduceEq, Int.reduceLT, show decide ((1 : Int) > 0) = true from rfl]
      refine hK _ ?_
      simp only [go_sem, Nat.reduceEqDiff, Nat.reduceLT, Nat.reduceAdd, Nat.reduceMul, Nat.reduceSub, Nat.add_zero, Nat.zero_add, Int.reduceEq, Int.reduceLT, hl, Bool.false_and, Bool.not_false]
    · rw [hl, if_pos rfl] at hc2
      simp only [go_sem, Nat.reduceEqDiff, Nat.reduceLT, Nat.reduceAdd, Nat.reduceMul, Nat.reduceSub, Nat.add_zero, Nat.zero_add, Int.reduceEq, Int.reduceLT, ld_44, hh1.lda (nodeC_len ..)]
      refine ⟨_, _, hc2, ?_⟩
      simp only [go_sem, Nat.reduceEqDiff, Nat.reduceLT, Nat.reduceAdd, Nat.reduceMul, Nat.reduceSub, Nat.add_zero, Nat.zero_add, Int.reduceEq, Int.reduceLT, show decide ((0 : Int) > 0) = false from rfl, hk.len es_23]
      refine hK _ ?_
      simp only [go_sem, Nat.reduceEqDiff, Nat.reduceLT, Nat.reduceAdd, Nat.reduceMul, Nat.reduceSub, Nat.add_zero, Nat.zero_add, Int.reduceEq, Int.reduceLT, hl, Bool.true_and, Bool.not_not]
  refine AWP.cond_split rfl (fun h20 => ?_) fun h20 => ?_
  · refine AWP.stepR [4] fun K hK => ?_
    simp only [go_sem, Nat.reduceEqDiff, Nat.reduceLT, Nat.reduceAdd, Nat.reduceMul, Nat.reduceSub, Nat.add_zero, Nat.zero_add, Int.reduceEq, Int.reduceLT]
    refine ⟨_, _, works21_spec _, ?_⟩
    refine hK _ _ _ (by simp only [go_sem, Nat.reduceEqDiff, Nat.reduceLT, Nat.reduceAdd, Nat.reduceMul, Nat.reduceSub, Nat.add_zero, Nat.zero_add, Int.reduceEq, Int.reduceLT]; rfl) ?_; clear hK
    refine AWP.ret (Then.ret (?_))
    exact Fin.plain (.inr rfl) rfl rfl hok hg1 ⟨rfl, rfl⟩
  · have hlight : lightN n = true ∧ b.length ≤ 600 := by
      simp only [Bool.not_eq_false', Bool.and_eq_true, Bool.not_eq_true', decide_eq_false_iff_not] at h20
      exact ⟨h20.1, by omega⟩
    have hL := Lt18.of hlight.1
    have hbl := hlight.2
    have hlp := hL.pairs; have hlk := hL.kids
    obtain ⟨r3, M3, hc3, hr3, hM3⟩ := check27_spec n vp vk M1 (hg1.ok hok) hr hL
    rw [hr3, hM3] at hc3
    refine AWP.skip ?_
    refine AWP.seq ?_
    refine AWP.stepR [1, 2, 24] fun K hK => ?_
    simp only [go_sem, Nat.reduceEqDiff, Nat.reduceLT, Nat.reduceAdd, Nat.reduceMul, Nat.reduceSub, Nat.add_zero, Nat.zero_add, Int.reduceEq, Int.reduceLT, ld_44, hh1.lda (nodeC_len ..)]
    refine ⟨_, _, hc3, ?_⟩
    refine hK _ _ _ (by simp only [go_sem, Nat.reduceEqDiff, Nat.reduceLT, Nat.reduceAdd, Nat.reduceMul, Nat.reduceSub, Nat.add_zero, Nat.zero_add, Int.reduceEq, Int.reduceLT]; rfl) ?_; clear hK
    refine AWP.condG rfl [1] [(1, kv)] (fun M' => Grew M1 M') (fun h24 => ?_) (fun h24 => ?_) fun M9 hg9 => ?_
    · have hck : checkN n = 0 := by simpa using h24
      obtain ⟨r4, M4, hc4, hg4, bv, rfl, hrb⟩ := put22_spec n vp vk M1 (hg1.ok hok) hr hL hB
      rw [putV, if_pos hck] at hrb
      rw [hck] at hc4
      have hsz := (putOk hck).2
      have hgp := get_put hck
      have hbn : BytB (nodeB n) := by
        rw [nodeB_eq]
        intro x hx
        rcases List.mem_cons.1 hx with rfl | hx
        · split <;> omega
        rcases List.mem_append.1 hx with hx | hx
        · exact putB_byt _ _ x hx
        have hpo := (partsF_zero.1 (putOk hck).1.parts)
        rcases List.mem_append.1 hx with hx | hx
        · obtain ⟨l, hl, hx⟩ := List.mem_flatten.1 hx
          obtain ⟨q, hq, rfl⟩ := List.mem_map.1 hl
          obtain ⟨p, hp, rfl⟩ := List.mem_map.1 (show q ∈ n.pairs.map _ from hq)
          have h1 := hpo.1 p hp
          have h2 : p.key.length ≤ 64 ∧ p.val.length ≤ 160 := by simp [prOk] at h1; omega
          simp only [prB, List.mem_cons, List.mem_append] at hx
          rcases hx with rfl | rfl | hx | hx
          · omega
          · omega
          · exact hB.pk p hp x hx
          · exact hB.pv p hp x hx
        rcases List.mem_append.1 hx with hx | hx
        · obtain ⟨l, hl, hx⟩ := List.mem_flatten.1 hx
          obtain ⟨q, hq, rfl⟩ := List.mem_map.1 hl
          obtain ⟨p, hp, rfl⟩ := List.mem_map.1 (show q ∈ n.kids.map _ from hq)
          have h2 := kd_range (hpo.2 p hp)
          simp only [kdB, List.mem_cons, List.mem_append] at hx
          rcases hx with rfl | hx | hx | hx
          · omega
          · exact putB_byt _ _ x hx
          · exact putB_byt _ _ x hx
          · exact hB.kk p hp x hx
        · rw [List.eq_of_mem_replicate hx]; omega
      refine AWP.stepR [1, 2, 5, 6] fun K hK => ?_
      simp only [go_sem, Nat.reduceEqDiff, Nat.reduceLT, Nat.reduceAdd, Nat.reduceMul, Nat.reduceSub, Nat.add_zero, Nat.zero_add, Int.reduceEq, Int.reduceLT, ld_44, hh1.lda (nodeC_len ..)]
      refine ⟨_, _, hc4, ?_⟩
      try simp only [go_sem, Nat.reduceEqDiff, Nat.reduceLT, Nat.reduceAdd, Nat.reduceMul, Nat.reduceSub, Nat.add_zero, Nat.zero_add, Int.reduceEq, Int.reduceLT, extractV]
      refine hK _ _ _ (by simp only [go_sem, Nat.reduceEqDiff, Nat.reduceLT, Nat.reduceAdd, Nat.reduceMul, Nat.reduceSub, Nat.add_zero, Nat.zero_add, Int.reduceEq, Int.reduceLT]; rfl) ?_; clear hK
      have hgb := (Grew.refl M4).bump 1
      obtain ⟨r5, M5, hc5, hg5, m, wp, wk, rfl, hrm, hmo⟩ := get24_spec bv (nodeB n) (M4.bump 1) (((hg1.trans hg4).bump 1).ok hok) (hrb.grew hgb) hbn (by rw [nodeB_length hsz]; omega)
      rw [hgp] at hc5 hmo
      have hg45 : Grew M4 M5 := hgb.trans hg5
      have hlt5 : M4.next < M5.next := by have := hg5.next; rw [Mem.next_bump] at this; omega
      have hnone : M5.get M4.next = none := none_keep (p := M4.next + 1) ((hg1.trans hg4).ok hok) (hg5.x _) (by omega)
      have hones : oneCells (nodeC m.leaf wp wk) = true := by simp only [oneCells, nodeC, List.all_cons, List.all_nil, hrm.pairs.one, hrm.kids.one]; rfl
      refine AWP.stepR [1, 2, 6, 7, 8] fun K hK => ?_
      simp only [go_sem, Nat.reduceEqDiff, Nat.reduceLT, Nat.reduceAdd, Nat.reduceMul, Nat.reduceSub, Nat.add_zero, Nat.zero_add, Int.reduceEq, Int.reduceLT]
      refine ⟨_, _, hc5, ?_⟩
      try simp only [go_sem, Nat.reduceEqDiff, Nat.reduceLT, Nat.reduceAdd, Nat.reduceMul, Nat.reduceSub, Nat.add_zero, Nat.zero_add, Int.reduceEq, Int.reduceLT, extractV, st_fresh (M := M5) (i := M4.next) (n := 3) (old := [.bool false, .slice none 0 0, .slice none 0 0]) (vs := nodeC m.leaf wp wk) (e := 44) rfl rfl hones]
      refine hK _ _ _ (by simp only [go_sem, Nat.reduceEqDiff, Nat.reduceLT, Nat.reduceAdd, Nat.reduceMul, Nat.reduceSub, Nat.add_zero, Nat.zero_add, Int.reduceEq, Int.reduceLT]; rfl) ?_; clear hK
      have hrm6 := hrm.within (Within.put2 hnone ⟨[.bool false, .slice none 0 0, .slice none 0 0], 44, true⟩ ⟨nodeC m.leaf wp wk, 44, true⟩) (Nat.le_refl _)
      have hg6 : Grew M4 ((M5.put M4.next ⟨[.bool false, .slice none 0 0, .slice none 0 0], 44, true⟩).put M4.next ⟨nodeC m.leaf wp wk, 44, true⟩) := (hg45.put (Nat.le_refl _) hlt5 _).put (Nat.le_refl _) hlt5 _
      have hh6 : Has ((M5.put M4.next ⟨[.bool false, .slice none 0 0, .slice none 0 0], 44, true⟩).put M4.next ⟨nodeC m.leaf wp wk, 44, true⟩) M4.next ⟨nodeC m.leaf wp wk, 44, true⟩ := Has.put (show _ < (M5.put _ _).next from hlt5) _
      generalize (M5.put M4.next ⟨[.bool false, .slice none 0 0, .slice none 0 0], 44, true⟩).put M4.next ⟨nodeC m.leaf wp wk, 44, true⟩ = M6 at hrm6 hg6 hh6
      have hg16 := hg4.trans hg6
      have hh16 := hh1.grew hg16
      obtain ⟨r7, M7, hc7, hr7, hM7⟩ := same30_true n m vp vk wp wk M6 ((hg1.trans hg16).ok hok) (hr.grew hg16) hrm6 hL (sameN_of hmo)
      rw [hr7, hM7] at hc7
      refine AWP.stepR [1, 46] fun K hK => ?_
      simp only [go_sem, Nat.reduceEqDiff, Nat.reduceLT, Nat.reduceAdd, Nat.reduceMul, Nat.reduceSub, Nat.add_zero, Nat.zero_add, Int.reduceEq, Int.reduceLT, ld_44, hh16.lda (nodeC_len ..), hh6.lda (nodeC_len ..), show ((0 : Int) != 0) = false from rfl]
      refine ⟨_, _, hc7, ?_⟩
      refine hK _ _ _ (by simp only [go_sem, Nat.reduceEqDiff, Nat.reduceLT, Nat.reduceAdd, Nat.reduceMul, Nat.reduceSub, Nat.add_zero, Nat.zero_add, Int.reduceEq, Int.reduceLT]; rfl) ?_; clear hK
      refine AWP.cond_split rfl (fun h46 => ?_) fun h46 => ?_
      · cases h46
      · refine AWP.skip ?_
        exact ⟨rfl, hg16⟩
    · refine AWP.skip ?_
      exact ⟨by simp only [go_sem, Nat.reduceEqDiff, Nat.reduceLT, Nat.reduceAdd, Nat.reduceMul, Nat.reduceSub, Nat.add_zero, Nat.zero_add, Int.reduceEq, Int.reduceLT], Grew.refl _⟩
    have hg09 := hg1.trans hg9
    have hgb := (Grew.refl M9).bump 1
    have hk9 := hk.grew hg9
    obtain ⟨r5, M5, hc5, hg5, m, wp, wk, rfl, hrm, hmo⟩ := get24_spec kv b (M9.bump 1) ((hg09.bump 1).ok hok) (hk9.grew hgb) hbk (by omega)
    have hg95 : Grew M9 M5 := hgb.trans hg5
    have hlt5 : M9.next < M5.next := by have := hg5.next; rw [Mem.next_bump] at this; omega
    have hnone : M5.get M9.next = none := none_keep (p := M9.next + 1) (hg09.ok hok) (hg5.x _) (by omega)
    have hones : oneCells (nodeC m.leaf wp wk) = true := by simp only [oneCells, nodeC, List.all_cons, List.all_nil, hrm.pairs.one, hrm.kids.one]; rfl
    refine AWP.stepR [1, 9, 10] fun K hK => ?_
    simp only [go_sem, Nat.reduceEqDiff, Nat.reduceLT, Nat.reduceAdd, Nat.reduceMul, Nat.reduceSub, Nat.add_zero, Nat.zero_add, Int.reduceEq, Int.reduceLT]
    refine ⟨_, _, hc5, ?_⟩
    try simp only [go_sem, Nat.reduceEqDiff, Nat.reduceLT, Nat.reduceAdd, Nat.reduceMul, Nat.reduceSub, Nat.add_zero, Nat.zero_add, Int.reduceEq, Int.reduceLT, extractV, st_fresh (M := M5) (i := M9.next) (n := 3) (old := [.bool false, .slice none 0 0, .slice none 0 0]) (vs := nodeC m.leaf wp wk) (e := 44) rfl rfl hones]
    refine hK _ _ _ (by simp only [go_sem, Nat.reduceEqDiff, Nat.reduceLT, Nat.reduceAdd, Nat.reduceMul, Nat.reduceSub, Nat.add_zero, Nat.zero_add, Int.reduceEq, Int.reduceLT]; rfl) ?_; clear hK
    have hrm6 := hrm.within (Within.put2 hnone ⟨[.bool false, .slice none 0 0, .slice none 0 0], 44, true⟩ ⟨nodeC m.leaf wp wk, 44, true⟩) (Nat.le_refl _)
    have hg6 : Grew M9 ((M5.put M9.next ⟨[.bool false, .slice none 0 0, .slice none 0 0], 44, true⟩).put M9.next ⟨nodeC m.leaf wp wk, 44, true⟩) := (hg95.put (Nat.le_refl _) hlt5 _).put (Nat.le_refl _) hlt5 _
    have hh6 : Has ((M5.put M9.next ⟨[.bool false, .slice none 0 0, .slice none 0 0], 44, true⟩).put M9.next ⟨nodeC m.leaf wp wk, 44, true⟩) M9.next ⟨nodeC m.leaf wp wk, 44, true⟩ := Has.put (show _ < (M5.put _ _).next from hlt5) _
    generalize (M5.put M9.next ⟨[.bool false, .slice none 0 0, .slice none 0 0], 44, true⟩).put M9.next ⟨nodeC m.leaf wp wk, 44, true⟩ = M6 at hrm6 hg6 hh6
    have hg06 := hg09.trans hg6
    refine AWP.seq ?_
    refine AWP.stepR [1, 9, 53] fun K hK => ?_
    simp only [go_sem, Nat.reduceEqDiff, Nat.reduceLT, Nat.reduceAdd, Nat.reduceMul, Nat.reduceSub, Nat.add_zero, Nat.zero_add, Int.reduceEq, Int.reduceLT]
    refine hK _ _ _ (by simp only [go_sem, Nat.reduceEqDiff, Nat.reduceLT, Nat.reduceAdd, Nat.reduceMul, Nat.reduceSub, Nat.add_zero, Nat.zero_add, Int.reduceEq, Int.reduceLT]; rfl) ?_; clear hK
    refine AWP.cond_split rfl (fun h53 => ?_) fun h53 => ?_
    · refine AWP.stepR [4] fun K hK => ?_
      simp only [go_sem, Nat.reduceEqDiff, Nat.reduceLT, Nat.reduceAdd, Nat.reduceMul, Nat.reduceSub, Nat.add_zero, Nat.zero_add, Int.reduceEq, Int.reduceLT]
      refine ⟨_, _, works21_spec _, ?_⟩
      refine hK _ _ _ (by simp only [go_sem, Nat.reduceEqDiff, Nat.reduceLT, Nat.reduceAdd, Nat.reduceMul, Nat.reduceSub, Nat.add_zero, Nat.zero_add, Int.reduceEq, Int.reduceLT]; rfl) ?_; clear hK
      refine AWP.ret (Then.ret (?_))
      exact Fin.plain (.inr rfl) rfl rfl hok hg06 ⟨rfl, rfl⟩
    · have h0 : (getF b).2 = 0 := by simpa using h53
      obtain ⟨hck, hnb, hLm, hBm⟩ := put_getN hbk h0 hmo
      obtain ⟨r7, M7, hc7, hg7, bv, rfl, hrb⟩ := put22_spec m wp wk M6 (hg06.ok hok) hrm6 hLm hBm
      rw [putV, if_pos hck, hnb] at hrb
      rw [hck] at hc7
      have hg07 := hg06.trans hg7
      obtain ⟨r8, M8, hc8, hr8, hM8⟩ := same14_spec bv kv b b M7 (hg07.ok hok) hrb (hk9.grew (hg6.trans hg7)) (by omega)
      rw [hr8, hM8, beq_self_eq_true] at hc8
      refine AWP.skip ?_
      refine AWP.stepR [1, 11, 12] fun K hK => ?_
      simp only [go_sem, Nat.reduceEqDiff, Nat.reduceLT, Nat.reduceAdd, Nat.reduceMul, Nat.reduceSub, Nat.add_zero, Nat.zero_add, Int.reduceEq, Int.reduceLT, ld_44, hh6.lda (nodeC_len ..)]
      refine ⟨_, _, hc7, ?_⟩
      try simp only [go_sem, Nat.reduceEqDiff, Nat.reduceLT, Nat.reduceAdd, Nat.reduceMul, Nat.reduceSub, Nat.add_zero, Nat.zero_add, Int.reduceEq, Int.reduceLT, extractV]
      refine hK _ _ _ (by simp only [go_sem, Nat.reduceEqDiff, Nat.reduceLT, Nat.reduceAdd, Nat.reduceMul, Nat.reduceSub, Nat.add_zero, Nat.zero_add, Int.reduceEq, Int.reduceLT]; rfl) ?_; clear hK
      refine AWP.stepR [4] fun K hK => ?_
      simp only [go_sem, Nat.reduceEqDiff, Nat.reduceLT, Nat.reduceAdd, Nat.reduceMul, Nat.reduceSub, Nat.add_zero, Nat.zero_add, Int.reduceEq, Int.reduceLT, show ((0 : Int) == 0) = true from rfl]
      refine ⟨_, _, hc8, ?_⟩
      refine ⟨_, _, works21_spec _, ?_⟩
      refine hK _ _ _ (by simp only [go_sem, Nat.reduceEqDiff, Nat.reduceLT, Nat.reduceAdd, Nat.reduceMul, Nat.reduceSub, Nat.add_zero, Nat.zero_add, Int.reduceEq, Int.reduceLT]; rfl) ?_; clear hK
      refine AWP.ret (?_)
      exact Fin.plain (.inr rfl) rfl rfl hok hg07 ⟨rfl, rfl⟩
end Go.Proofs.Ythheaehpnleiaaa.AX
