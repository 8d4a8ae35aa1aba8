/- A node in two parts, by the program. -/
import Derived.Test.YthheaehpnleiaaaNodePuts18
namespace Go.Proofs.Ythheaehpnleiaaa.AX
open Go Go.Proofs
set_option maxRecDepth 100000
set_option linter.unusedVariables false
set_option linter.unusedSimpArgs false

theorem cutSt_bound {α : Type} (f : α → Int) (l : List α) : ∀ k, 1 ≤ (cutSt f l k).1 ∧ ((cutSt f l k).1 ≤ k ∨ (cutSt f l k).1 = 1) := by
  intro k
  induction k with
  | zero => exact ⟨Nat.le_refl _, .inr rfl⟩
  | succ k ih =>
    rw [cutSt]
    split
    · exact ⟨by simp, .inl (Nat.le_refl _)⟩
    · exact ⟨ih.1, ih.2.imp (fun h => by omega) id⟩
theorem cutF_bound {α : Type} (f : α → Int) {l : List α} (h : 2 ≤ l.length) : 1 ≤ cutF f l ∧ cutF f l < l.length := by
  have := cutSt_bound f l (l.length - 1)
  unfold cutF
  omega
def zeroN : Node := ⟨false, [], []⟩
def splitA (n : Node) : Node := if n.pairs.length + n.kids.length < 2 then zeroN else if n.leaf then partN n 0 (cutF prSz n.pairs) else partN n 0 (cutF kdSz n.kids)
def splitB (n : Node) : Node := if n.pairs.length + n.kids.length < 2 then zeroN else if n.leaf then partN n (cutF prSz n.pairs) n.pairs.length else partN n (cutF kdSz n.kids) n.kids.length
def splitOk (n : Node) : Bool := !decide (((n.pairs.length : Int) + n.kids.length) < 2)
/-- what a split gives back -/
def SplitR (n : Node) (M : Mem) (r : Value) (M' : Mem) : Prop := Grew M M' ∧ ∃ wp1 wk1 wp2 wk2, r = .tuple #[.agg (nodeC (splitA n).leaf wp1 wk1).toArray, .agg (nodeC (splitB n).leaf wp2 wk2).toArray, .bool (splitOk n)] ∧ NewN M M' (splitA n) wp1 wk1 ∧ NewN M M' (splitB n) wp2 wk2
theorem NewN.zero (M M' : Mem) : NewN M M' zeroN (.slice none 0 0) (.slice none 0 0) := ⟨Own.nil _ _ _, Own.nil _ _ _⟩

theorem split35_spec (n : Node) (vp vk : Value) (M : Mem) (hok : Ok M) (hr : NodeR M n vp vk) (hE : NodeE M n vp vk) (hL : Lt18 n) (hform : formOk n = false) : ∃ r M', ACall Try.prog 35 #[.agg (nodeC n.leaf vp vk).toArray] M r M' ∧ SplitR n M r M' := by
  have hlp := hL.pairs; have hlk := hL.kids
  refine ACall.fin (args := [.agg (nodeC n.leaf vp vk).toArray]) (k := 59) (rs := [.cell 2 44, .cell 3 44, .tmp 4]) Try.func35 rfl rfl rfl (Nat.le_of_ble_eq_true rfl) ?_
  refine AWP.stepR [1, 2, 3] fun K hK => ?_
  simp only [go_sem, Nat.reduceEqDiff, Nat.reduceLT, Nat.reduceAdd, Nat.reduceMul, Nat.reduceSub, Nat.add_zero, Nat.zero_add, Int.reduceEq, Int.reduceLT]
  refine hK _ _ _ (by simp only [go_sem, Nat.reduceEqDiff, Nat.reduceLT, Nat.reduceAdd, Nat.reduceMul, Nat.reduceSub, Nat.add_zero, Nat.zero_add, Int.reduceEq, Int.reduceLT]; rfl) ?_; clear hK
  have hlt1 : M.next < (M.bump 3).next := by rw [Mem.next_bump]; omega
  have hlt2 : M.next + 1 < (M.bump 3).next := by rw [Mem.next_bump]; omega
  have hlt3 : M.next + 2 < (M.bump 3).next := by rw [Mem.next_bump]; omega
  obtain ⟨hg1, hh1⟩ := mk_put ((Grew.refl M).bump 3) (Nat.le_refl _) hlt1 ⟨nodeC n.leaf vp vk, 44, true⟩
  obtain ⟨hg2, hh2⟩ := mk_put hg1 (show M.next ≤ M.next + 1 by omega) (show M.next + 1 < ((M.bump 3).put M.next ⟨nodeC n.leaf vp vk, 44, true⟩).next from hlt2) ⟨zN, 44, true⟩
  obtain ⟨hg3, hh3⟩ := mk_put hg2 (show M.next ≤ M.next + 2 by omega) (show M.next + 2 < (((M.bump 3).put M.next ⟨nodeC n.leaf vp vk, 44, true⟩).put (M.next + 1) ⟨zN, 44, true⟩).next from hlt3) ⟨zN, 44, true⟩
  have hh1 := (hh1.put' (show M.next ≠ M.next + 1 by omega) ⟨zN, 44, true⟩).put' (show M.next ≠ M.next + 2 by omega) ⟨zN, 44, true⟩
  have hh2 := hh2.put' (show M.next + 1 ≠ M.next + 2 by omega) ⟨zN, 44, true⟩
  clear hg1 hg2
  change AWP _ _ _ ⟨_, (((M.bump 3).put M.next ⟨nodeC n.leaf vp vk, 44, true⟩).put (M.next + 1) ⟨zN, 44, true⟩).put (M.next + 2) ⟨zN, 44, true⟩⟩ _
  have hnx1 : ((((M.bump 3).put M.next ⟨nodeC n.leaf vp vk, 44, true⟩).put (M.next + 1) ⟨zN, 44, true⟩).put (M.next + 2) ⟨zN, 44, true⟩).next = M.next + 3 := rfl
  generalize (((M.bump 3).put M.next ⟨nodeC n.leaf vp vk, 44, true⟩).put (M.next + 1) ⟨zN, 44, true⟩).put (M.next + 2) ⟨zN, 44, true⟩ = M1 at hg3 hh1 hh2 hh3 hnx1
  have hl1 : M1.next < (M1.bump 2).next := by rw [Mem.next_bump]; omega
  have hl2 : M1.next + 1 < (M1.bump 2).next := by rw [Mem.next_bump]; omega
  obtain ⟨ga, ha⟩ := mk_put ((Grew.refl M1).bump 2) (Nat.le_refl _) hl1 ⟨[.bool false, .slice none 0 0, .slice none 0 0], 44, true⟩
  obtain ⟨gb, hb⟩ := mk_put ga (show M1.next ≤ M1.next + 1 by omega) (show M1.next + 1 < ((M1.bump 2).put M1.next ⟨[.bool false, .slice none 0 0, .slice none 0 0], 44, true⟩).next from hl2) ⟨[.bool false, .slice none 0 0, .slice none 0 0], 44, true⟩
  have ha := ha.put' (show M1.next ≠ M1.next + 1 by omega) ⟨[.bool false, .slice none 0 0, .slice none 0 0], 44, true⟩
  have ha1 := hh1.grew gb
  obtain ⟨gc, hc⟩ := mk_put gb (Nat.le_refl _) ha.2 ⟨[.bool n.leaf, .slice none 0 0, .slice none 0 0], 44, true⟩
  have hb2 := hb.put' (show M1.next + 1 ≠ M1.next by omega) ⟨[.bool n.leaf, .slice none 0 0, .slice none 0 0], 44, true⟩
  have hc1 := hh1.grew gc
  obtain ⟨gd, hd⟩ := mk_put gc (show M1.next ≤ M1.next + 1 by omega) hb2.2 ⟨[.bool n.leaf, .slice none 0 0, .slice none 0 0], 44, true⟩
  have hc := hc.put' (show M1.next ≠ M1.next + 1 by omega) ⟨[.bool n.leaf, .slice none 0 0, .slice none 0 0], 44, true⟩
  refine AWP.stepD hmo [0, 1, 2, 3, 4, 5, 6, 7, 8, 9] [0, 1, 3, 0, 8, 24, 0, 0, 199, 511] [] [(4, 8)] (by kernel_rfl) [1, 2, 3, 5, 6] fun K hK => ?_
  simp only [go_sem, Nat.reduceEqDiff, Nat.reduceLT, Nat.reduceAdd, Nat.reduceMul, Nat.reduceSub, Nat.add_zero, Nat.zero_add, Int.reduceEq, Int.reduceLT, ld_4, hh1.ld, ha1.ld, hc1.ld, nodeC, bd_44, st_44, st_all (n := 3) (vs := [.bool n.leaf, .slice none 0 0, .slice none 0 0]) ha rfl rfl rfl rfl, st_all (n := 3) (vs := [.bool n.leaf, .slice none 0 0, .slice none 0 0]) hb2 rfl rfl rfl rfl]
  refine hK _ _ _ (by simp only [go_sem, Nat.reduceEqDiff, Nat.reduceLT, Nat.reduceAdd, Nat.reduceMul, Nat.reduceSub, Nat.add_zero, Nat.zero_add, Int.reduceEq, Int.reduceLT]; rfl) ?_; clear hK
  generalize ((((M1.bump 2).put M1.next ⟨[.bool false, .slice none 0 0, .slice none 0 0], 44, true⟩).put (M1.next + 1) ⟨[.bool false, .slice none 0 0, .slice none 0 0], 44, true⟩).put M1.next ⟨[.bool n.leaf, .slice none 0 0, .slice none 0 0], 44, true⟩).put (M1.next + 1) ⟨[.bool n.leaf, .slice none 0 0, .slice none 0 0], 44, true⟩ = M2 at gd hc hd
  have hh1 := hh1.grew gd
  have hh2 := hh2.grew gd
  have hh3 := hh3.grew gd
  have hgM := hg3.trans gd
  have hr2 := hr.grew hgM
  refine AWP.seq ?_
  refine AWP.stepR [1, 2, 3, 5, 6, 22] fun K hK => ?_
  simp only [go_sem, Nat.reduceEqDiff, Nat.reduceLT, Nat.reduceAdd, Nat.reduceMul, Nat.reduceSub, Nat.add_zero, Nat.zero_add, Int.reduceEq, Int.reduceLT, ld_41, ld_42, hh1.ld, nodeC, hr2.pairs.len es_41, hr2.kids.len es_42, i64w (n := (n.pairs.length : Int) + n.kids.length) (by omega) (by omega)]
  refine hK _ _ _ (by simp only [go_sem, Nat.reduceEqDiff, Nat.reduceLT, Nat.reduceAdd, Nat.reduceMul, Nat.reduceSub, Nat.add_zero, Nat.zero_add, Int.reduceEq, Int.reduceLT]; rfl) ?_; clear hK
  refine AWP.cond_split rfl (fun h22 => ?_) fun h22 => ?_
  · have h3b := hh3.put' (show M.next + 2 ≠ M.next + 1 by omega) ⟨[.bool false, .slice none 0 0, .slice none 0 0], 44, true⟩
    refine AWP.stepR [2, 3, 4] fun K hK => ?_
    simp only [go_sem, Nat.reduceEqDiff, Nat.reduceLT, Nat.reduceAdd, Nat.reduceMul, Nat.reduceSub, Nat.add_zero, Nat.zero_add, Int.reduceEq, Int.reduceLT, bd_44z, st_44, st_all (n := 3) (vs := [.bool false, .slice none 0 0, .slice none 0 0]) hh2 rfl rfl rfl rfl, st_all (n := 3) (vs := [.bool false, .slice none 0 0, .slice none 0 0]) h3b rfl rfl rfl rfl]
    refine hK _ _ _ (by simp only [go_sem, Nat.reduceEqDiff, Nat.reduceLT, Nat.reduceAdd, Nat.reduceMul, Nat.reduceSub, Nat.add_zero, Nat.zero_add, Int.reduceEq, Int.reduceLT]; rfl) ?_; clear hK
    obtain ⟨g5, h5⟩ := mk_put hgM (show M.next ≤ M.next + 1 by omega) hh2.2 ⟨[.bool false, .slice none 0 0, .slice none 0 0], 44, true⟩
    obtain ⟨g6, h6⟩ := mk_put g5 (show M.next ≤ M.next + 2 by omega) h3b.2 ⟨[.bool false, .slice none 0 0, .slice none 0 0], 44, true⟩
    have h5 := h5.put' (show M.next + 1 ≠ M.next + 2 by omega) ⟨[.bool false, .slice none 0 0, .slice none 0 0], 44, true⟩
    refine AWP.ret (Then.ret (?_))
    have hlt : n.pairs.length + n.kids.length < 2 := by simp at h22; omega
    refine Fin.keep (v := .tuple #[.agg (nodeC zeroN.leaf (.slice none 0 0) (.slice none 0 0)).toArray, .agg (nodeC zeroN.leaf (.slice none 0 0) (.slice none 0 0)).toArray, .bool false]) (.inr rfl)
      (by simp only [go_sem, Nat.reduceEqDiff, Nat.reduceLT, Nat.reduceAdd, Nat.reduceMul, Nat.reduceSub, Nat.add_zero, Nat.zero_add, Int.reduceEq, Int.reduceLT, retV, resV, ld_44, h5.lda (show ([.bool false, .slice none 0 0, .slice none 0 0] : List Value).length = 3 from rfl), h6.lda (show ([.bool false, .slice none 0 0, .slice none 0 0] : List Value).length = 3 from rfl)]; rfl) ⟨g6, ?_⟩
    rw [splitA, splitB, if_pos hlt, if_pos hlt, splitOk, h22]
    exact ⟨_, _, _, _, rfl, NewN.zero _ _, NewN.zero _ _⟩
  · have hge : ¬ n.pairs.length + n.kids.length < 2 := by simp at h22; omega
    refine AWP.skip ?_
    refine AWP.seq ?_
    refine AWP.stepR [1, 2, 3, 5, 6, 26] fun K hK => ?_
    simp only [go_sem, Nat.reduceEqDiff, Nat.reduceLT, Nat.reduceAdd, Nat.reduceMul, Nat.reduceSub, Nat.add_zero, Nat.zero_add, Int.reduceEq, Int.reduceLT, ld_4, hh1.ld, nodeC]
    refine hK _ _ _ (by simp only [go_sem, Nat.reduceEqDiff, Nat.reduceLT, Nat.reduceAdd, Nat.reduceMul, Nat.reduceSub, Nat.add_zero, Nat.zero_add, Int.reduceEq, Int.reduceLT]; rfl) ?_; clear hK
    refine AWP.cond_split rfl (fun h26 => ?_) fun h26 => ?_
    · rw [h26] at hc hd
      have hform : n.kids = [] := by rw [formOk, h26] at hform; simpa using hform
      have hlen : 2 ≤ n.pairs.length := by rw [hform] at hge; simp at hge; omega
      have hcut := cutF_bound prSz hlen
      have hE2 := (hE.pairs).resolve_left (by rintro hh; rw [hh] at hlen; simp at hlen)
      obtain ⟨r5, M5, hc5, hr5, hM5⟩ := cut85_spec vp n.pairs M2 (hgM.ok hok) hr2.pairs (fun p hp => ⟨hr2.pk p hp, hr2.pv p hp⟩) hL.pr (by omega)
      rw [hr5, hM5] at hc5
      obtain ⟨w1, hs1, hw1⟩ := slice_pr hE2 (Nat.zero_le _) (Nat.le_of_lt hcut.2)
      obtain ⟨w2, hs2, hw2⟩ := slice_pr hE2 (Nat.le_of_lt hcut.2) (Nat.le_refl _)
      have eA : splitA n = ⟨true, (n.pairs.drop 0).take (cutF prSz n.pairs - 0), []⟩ := by rw [splitA, if_neg hge, h26]; simp only [if_true]; rw [partN, h26]; rfl
      have eB : splitB n = ⟨true, (n.pairs.drop (cutF prSz n.pairs)).take (n.pairs.length - cutF prSz n.pairs), []⟩ := by rw [splitB, if_neg hge, h26]; simp only [if_true]; rw [partN, h26]; rfl
      have eO : splitOk n = true := by rw [splitOk]; simp at h22 ⊢; omega
      generalize hp1 : (n.pairs.drop 0).take (cutF prSz n.pairs - 0) = p1 at hw1 eA
      generalize hp2 : (n.pairs.drop (cutF prSz n.pairs)).take (n.pairs.length - cutF prSz n.pairs) = p2 at hw2 eB
      have hm1 : ∀ p, p ∈ p1 → p ∈ n.pairs := fun p hp => mem_part (hp1 ▸ hp)
      have hm2 : ∀ p, p ∈ p2 → p ∈ n.pairs := fun p hp => mem_part (hp2 ▸ hp)
      have hl1 : p1.length ≤ 1000 := by rw [← hp1, List.length_take, List.length_drop]; omega
      have hl2 : p2.length ≤ 1000 := by rw [← hp2, List.length_take, List.length_drop]; omega
      generalize hci : cutF prSz n.pairs = ci at *
      refine AWP.stepR [1, 2, 3, 5, 6, 7] fun K hK => ?_
      simp only [go_sem, Nat.reduceEqDiff, Nat.reduceLT, Nat.reduceAdd, Nat.reduceMul, Nat.reduceSub, Nat.add_zero, Nat.zero_add, Int.reduceEq, Int.reduceLT, ld_41, hh1.ld, nodeC]
      refine ⟨_, _, hc5, ?_⟩
      refine hK _ _ _ (by simp only [go_sem, Nat.reduceEqDiff, Nat.reduceLT, Nat.reduceAdd, Nat.reduceMul, Nat.reduceSub, Nat.add_zero, Nat.zero_add, Int.reduceEq, Int.reduceLT]; rfl) ?_; clear hK
      obtain ⟨r6, M6, hc6, hg6, ho6⟩ := clone86_spec w1 p1 M2 (hgM.ok hok) (hw1.grew hgM) (fun p hp => ⟨hr2.pk p (hm1 p hp), hr2.pv p (hm1 p hp)⟩) hl1
      have hh16 := hh1.grew hg6
      obtain ⟨r7, M7, hc7, hg7, ho7⟩ := clone86_spec w2 p2 M6 ((hgM.trans hg6).ok hok) (hw2.grew (hgM.trans hg6)) (fun p hp => PrOk.grew (M := M2) ⟨hr2.pk p (hm2 p hp), hr2.pv p (hm2 p hp)⟩ hg6) hl2
      have hg67 := hg6.trans hg7
      have hc7' := hc.grew hg67
      have hd7 := hd.grew hg67
      have ho6 := ho6.grew hg7
      have ho7 := ho7.base hg6.next
      have h2c := hh2.grew hg67
      have h3c := hh3.grew hg67
      have f2a := (hs1 M2 hgM).2.1 rfl
      have f6 := (hs2 M6 (hgM.trans hg6)).2.2 rfl
      have f2b := (hs2 M2 hgM).2.2 rfl
      obtain ⟨g8, h8⟩ := mk_put (hgM.trans hg67) (by omega) hc7'.2 ⟨[.bool true, r6, .slice none 0 0], 44, true⟩
      have hd8 := hd7.put' (show M1.next + 1 ≠ M1.next by omega) ⟨[.bool true, r6, .slice none 0 0], 44, true⟩
      obtain ⟨g9, h9⟩ := mk_put g8 (by omega) hd8.2 ⟨[.bool true, r7, .slice none 0 0], 44, true⟩
      have h8 := h8.put' (show M1.next ≠ M1.next + 1 by omega) ⟨[.bool true, r7, .slice none 0 0], 44, true⟩
      have h2c := (h2c.put' (show M.next + 1 ≠ M1.next by omega) ⟨[.bool true, r6, .slice none 0 0], 44, true⟩).put' (show M.next + 1 ≠ M1.next + 1 by omega) ⟨[.bool true, r7, .slice none 0 0], 44, true⟩
      have h3c := (h3c.put' (show M.next + 2 ≠ M1.next by omega) ⟨[.bool true, r6, .slice none 0 0], 44, true⟩).put' (show M.next + 2 ≠ M1.next + 1 by omega) ⟨[.bool true, r7, .slice none 0 0], 44, true⟩
      have ho6 := (ho6.putA hc.2 ⟨[.bool true, r6, .slice none 0 0], 44, true⟩).putA hd.2 ⟨[.bool true, r7, .slice none 0 0], 44, true⟩
      have ho7 := (ho7.putA hc.2 ⟨[.bool true, r6, .slice none 0 0], 44, true⟩).putA hd.2 ⟨[.bool true, r7, .slice none 0 0], 44, true⟩
      have fs1 : stV M7 M1.next 1 1 r6 = some (M7.put M1.next ⟨[.bool true, r6, .slice none 0 0], 44, true⟩) := st_cell hc7' rfl (show 1 < 3 by decide) ho6.one
      have fs2 : stV (M7.put M1.next ⟨[.bool true, r6, .slice none 0 0], 44, true⟩) (M1.next + 1) 1 1 r7 = some ((M7.put M1.next ⟨[.bool true, r6, .slice none 0 0], 44, true⟩).put (M1.next + 1) ⟨[.bool true, r7, .slice none 0 0], 44, true⟩) := st_cell hd8 rfl (show 1 < 3 by decide) ho7.one
      refine AWP.oneD' hmo [0, 1, 2, 3, 4, 5, 6, 7, 8, 9, 10, 11, 12, 13] [0, 1, 0, 7, 15, 0, 32, 0, 224, 511, 31, 2047, 4095, 8191] [] [(6, 4), (8, 4)] (by kernel_rfl) fun K hK => ?_
      simp only [go_sem, Nat.reduceEqDiff, Nat.reduceLT, Nat.reduceAdd, Nat.reduceMul, Nat.reduceSub, Nat.add_zero, Nat.zero_add, Int.reduceEq, Int.reduceLT, ld_41, hh1.ld, hh16.ld, nodeC, Option.map_some, f2a]
      refine ⟨_, _, hc6, ?_⟩
      try simp only [go_sem, Nat.reduceEqDiff, Nat.reduceLT, Nat.reduceAdd, Nat.reduceMul, Nat.reduceSub, Nat.add_zero, Nat.zero_add, Int.reduceEq, Int.reduceLT, ld_41, hh1.ld, hh16.ld, nodeC, Option.map_some, f6, f2b, f2a]
      refine ⟨_, _, hc7, ?_⟩
      try simp only [go_sem, Nat.reduceEqDiff, Nat.reduceLT, Nat.reduceAdd, Nat.reduceMul, Nat.reduceSub, Nat.add_zero, Nat.zero_add, Int.reduceEq, Int.reduceLT, st_41, fs1, fs2]
      refine hK _ _ ?_; clear hK
      change AWP _ _ _ ⟨_, (M7.put M1.next ⟨[.bool true, r6, .slice none 0 0], 44, true⟩).put (M1.next + 1) ⟨[.bool true, r7, .slice none 0 0], 44, true⟩⟩ _
      generalize (M7.put M1.next ⟨[.bool true, r6, .slice none 0 0], 44, true⟩).put (M1.next + 1) ⟨[.bool true, r7, .slice none 0 0], 44, true⟩ = M9 at g9 h9 h8 h2c h3c ho6 ho7
      have hn1 : NewN M2 M9 ⟨true, p1, []⟩ r6 (.slice none 0 0) := ⟨ho6, Own.nil _ _ _⟩
      have hn2 : NewN M2 M9 ⟨true, p2, []⟩ r7 (.slice none 0 0) := ⟨ho7, Own.nil _ _ _⟩
      have h3d := h3c.put' (show M.next + 2 ≠ M.next + 1 by omega) ⟨[.bool true, r6, .slice none 0 0], 44, true⟩
      have h9d := h9.put' (show M1.next + 1 ≠ M.next + 1 by omega) ⟨[.bool true, r6, .slice none 0 0], 44, true⟩
      obtain ⟨g10, h10⟩ := mk_put g9 (show M.next ≤ M.next + 1 by omega) h2c.2 ⟨[.bool true, r6, .slice none 0 0], 44, true⟩
      obtain ⟨g11, h11⟩ := mk_put g10 (show M.next ≤ M.next + 2 by omega) h3d.2 ⟨[.bool true, r7, .slice none 0 0], 44, true⟩
      have h10 := h10.put' (show M.next + 1 ≠ M.next + 2 by omega) ⟨[.bool true, r7, .slice none 0 0], 44, true⟩
      refine AWP.stepD hmo [0, 1, 2, 3, 4] [0, 0, 1, 7, 15] [] [(1, 2)] (by kernel_rfl) [2, 3, 4] fun K hK => ?_
      simp only [go_sem, Nat.reduceEqDiff, Nat.reduceLT, Nat.reduceAdd, Nat.reduceMul, Nat.reduceSub, Nat.add_zero, Nat.zero_add, Int.reduceEq, Int.reduceLT, ld_44, h8.lda (show ([.bool true, r6, .slice none 0 0] : List Value).length = 3 from rfl), h9.lda (show ([.bool true, r7, .slice none 0 0] : List Value).length = 3 from rfl), h9d.lda (show ([.bool true, r7, .slice none 0 0] : List Value).length = 3 from rfl), st_44, st_all (n := 3) (vs := [.bool true, r6, .slice none 0 0]) h2c rfl rfl rfl (hn1.one true), st_all (n := 3) (vs := [.bool true, r7, .slice none 0 0]) h3d rfl rfl rfl (hn2.one true)]
      refine hK _ _ _ (by simp only [go_sem, Nat.reduceEqDiff, Nat.reduceLT, Nat.reduceAdd, Nat.reduceMul, Nat.reduceSub, Nat.add_zero, Nat.zero_add, Int.reduceEq, Int.reduceLT]; rfl) ?_; clear hK
      refine AWP.ret (?_)
      refine Fin.keep (v := .tuple #[.agg ([.bool true, r6, .slice none 0 0] : List Value).toArray, .agg ([.bool true, r7, .slice none 0 0] : List Value).toArray, .bool true]) (.inr rfl)
        (by simp only [go_sem, Nat.reduceEqDiff, Nat.reduceLT, Nat.reduceAdd, Nat.reduceMul, Nat.reduceSub, Nat.add_zero, Nat.zero_add, Int.reduceEq, Int.reduceLT, retV, resV, ld_44, h10.lda (show ([.bool true, r6, .slice none 0 0] : List Value).length = 3 from rfl), h11.lda (show ([.bool true, r7, .slice none 0 0] : List Value).length = 3 from rfl)]) ⟨g11, ?_⟩
      rw [eA, eB, eO]
      exact ⟨r6, .slice none 0 0, r7, .slice none 0 0, rfl, ((hn1.put hh2.2 _).put hh3.2 _).base hgM.next, ((hn2.put hh2.2 _).put hh3.2 _).base hgM.next⟩
    · rw [h26] at hc hd
      have hform : n.pairs = [] := by rw [formOk, h26] at hform; simpa using hform
      have hlen : 2 ≤ n.kids.length := by rw [hform] at hge; simp at hge; omega
      have hcut := cutF_bound kdSz hlen
      have hE2 := (hE.kids).resolve_left (by rintro hh; rw [hh] at hlen; simp at hlen)
      obtain ⟨r5, M5, hc5, hr5, hM5⟩ := cut87_spec vk n.kids M2 (hgM.ok hok) hr2.kids (hr2.kk) hL.kd (by omega)
      rw [hr5, hM5] at hc5
      obtain ⟨w1, hs1, hw1⟩ := slice_kd hE2 (Nat.zero_le _) (Nat.le_of_lt hcut.2)
      obtain ⟨w2, hs2, hw2⟩ := slice_kd hE2 (Nat.le_of_lt hcut.2) (Nat.le_refl _)
      have eA : splitA n = ⟨false, [], (n.kids.drop 0).take (cutF kdSz n.kids - 0)⟩ := by rw [splitA, if_neg hge, h26]; simp only [Bool.false_eq_true, if_false]; rw [partN, h26]; rfl
      have eB : splitB n = ⟨false, [], (n.kids.drop (cutF kdSz n.kids)).take (n.kids.length - cutF kdSz n.kids)⟩ := by rw [splitB, if_neg hge, h26]; simp only [Bool.false_eq_true, if_false]; rw [partN, h26]; rfl
      have eO : splitOk n = true := by rw [splitOk]; simp at h22 ⊢; omega
      generalize hp1 : (n.kids.drop 0).take (cutF kdSz n.kids - 0) = p1 at hw1 eA
      generalize hp2 : (n.kids.drop (cutF kdSz n.kids)).take (n.kids.length - cutF kdSz n.kids) = p2 at hw2 eB
      have hm1 : ∀ p, p ∈ p1 → p ∈ n.kids := fun p hp => mem_part (hp1 ▸ hp)
      have hm2 : ∀ p, p ∈ p2 → p ∈ n.kids := fun p hp => mem_part (hp2 ▸ hp)
      have hl1 : p1.length ≤ 1000 := by rw [← hp1, List.length_take, List.length_drop]; omega
      have hl2 : p2.length ≤ 1000 := by rw [← hp2, List.length_take, List.length_drop]; omega
      generalize hci : cutF kdSz n.kids = ci at *
      refine AWP.stepR [1, 2, 3, 5, 6, 8] fun K hK => ?_
      simp only [go_sem, Nat.reduceEqDiff, Nat.reduceLT, Nat.reduceAdd, Nat.reduceMul, Nat.reduceSub, Nat.add_zero, Nat.zero_add, Int.reduceEq, Int.reduceLT, ld_42, hh1.ld, nodeC]
      refine ⟨_, _, hc5, ?_⟩
      refine hK _ _ _ (by simp only [go_sem, Nat.reduceEqDiff, Nat.reduceLT, Nat.reduceAdd, Nat.reduceMul, Nat.reduceSub, Nat.add_zero, Nat.zero_add, Int.reduceEq, Int.reduceLT]; rfl) ?_; clear hK
      obtain ⟨r6, M6, hc6, hg6, ho6⟩ := clone88_spec w1 p1 M2 (hgM.ok hok) (hw1.grew hgM) (fun p hp => hr2.kk p (hm1 p hp)) hl1
      have hh16 := hh1.grew hg6
      obtain ⟨r7, M7, hc7, hg7, ho7⟩ := clone88_spec w2 p2 M6 ((hgM.trans hg6).ok hok) (hw2.grew (hgM.trans hg6)) (fun p hp => KdOk.grew (M := M2) (hr2.kk p (hm2 p hp)) hg6) hl2
      have hg67 := hg6.trans hg7
      have hc7' := hc.grew hg67
      have hd7 := hd.grew hg67
      have ho6 := ho6.grew hg7
      have ho7 := ho7.base hg6.next
      have h2c := hh2.grew hg67
      have h3c := hh3.grew hg67
      have f2a := (hs1 M2 hgM).2.1 rfl
      have f6 := (hs2 M6 (hgM.trans hg6)).2.2 rfl
      have f2b := (hs2 M2 hgM).2.2 rfl
      obtain ⟨g8, h8⟩ := mk_put (hgM.trans hg67) (by omega) hc7'.2 ⟨[.bool false, .slice none 0 0, r6], 44, true⟩
      have hd8 := hd7.put' (show M1.next + 1 ≠ M1.next by omega) ⟨[.bool false, .slice none 0 0, r6], 44, true⟩
      obtain ⟨g9, h9⟩ := mk_put g8 (by omega) hd8.2 ⟨[.bool false, .slice none 0 0, r7], 44, true⟩
      have h8 := h8.put' (show M1.next ≠ M1.next + 1 by omega) ⟨[.bool false, .slice none 0 0, r7], 44, true⟩
      have h2c := (h2c.put' (show M.next + 1 ≠ M1.next by omega) ⟨[.bool false, .slice none 0 0, r6], 44, true⟩).put' (show M.next + 1 ≠ M1.next + 1 by omega) ⟨[.bool false, .slice none 0 0, r7], 44, true⟩
      have h3c := (h3c.put' (show M.next + 2 ≠ M1.next by omega) ⟨[.bool false, .slice none 0 0, r6], 44, true⟩).put' (show M.next + 2 ≠ M1.next + 1 by omega) ⟨[.bool false, .slice none 0 0, r7], 44, true⟩
      have ho6 := (ho6.putA hc.2 ⟨[.bool false, .slice none 0 0, r6], 44, true⟩).putA hd.2 ⟨[.bool false, .slice none 0 0, r7], 44, true⟩
      have ho7 := (ho7.putA hc.2 ⟨[.bool false, .slice none 0 0, r6], 44, true⟩).putA hd.2 ⟨[.bool false, .slice none 0 0, r7], 44, true⟩
      have fs1 : stV M7 M1.next 2 1 r6 = some (M7.put M1.next ⟨[.bool false, .slice none 0 0, r6], 44, true⟩) := st_cell hc7' rfl (show 2 < 3 by decide) ho6.one
      have fs2 : stV (M7.put M1.next ⟨[.bool false, .slice none 0 0, r6], 44, true⟩) (M1.next + 1) 2 1 r7 = some ((M7.put M1.next ⟨[.bool false, .slice none 0 0, r6], 44, true⟩).put (M1.next + 1) ⟨[.bool false, .slice none 0 0, r7], 44, true⟩) := st_cell hd8 rfl (show 2 < 3 by decide) ho7.one
      refine AWP.oneD' hmo [0, 1, 2, 3, 4, 5, 6, 7, 8, 9, 10, 11, 12, 13] [0, 1, 0, 7, 15, 0, 32, 0, 224, 511, 31, 2047, 4095, 8191] [] [(6, 4), (8, 4)] (by kernel_rfl) fun K hK => ?_
      simp only [go_sem, Nat.reduceEqDiff, Nat.reduceLT, Nat.reduceAdd, Nat.reduceMul, Nat.reduceSub, Nat.add_zero, Nat.zero_add, Int.reduceEq, Int.reduceLT, ld_42, hh1.ld, hh16.ld, nodeC, Option.map_some, f2a]
      refine ⟨_, _, hc6, ?_⟩
      try simp only [go_sem, Nat.reduceEqDiff, Nat.reduceLT, Nat.reduceAdd, Nat.reduceMul, Nat.reduceSub, Nat.add_zero, Nat.zero_add, Int.reduceEq, Int.reduceLT, ld_42, hh1.ld, hh16.ld, nodeC, Option.map_some, f6, f2b, f2a]
      refine ⟨_, _, hc7, ?_⟩
      try simp only [go_sem, Nat.reduceEqDiff, Nat.reduceLT, Nat.reduceAdd, Nat.reduceMul, Nat.reduceSub, Nat.add_zero, Nat.zero_add, Int.reduceEq, Int.reduceLT, st_42, fs1, fs2]
      refine hK _ _ ?_; clear hK
      change AWP _ _ _ ⟨_, (M7.put M1.next ⟨[.bool false, .slice none 0 0, r6], 44, true⟩).put (M1.next + 1) ⟨[.bool false, .slice none 0 0, r7], 44, true⟩⟩ _
      generalize (M7.put M1.next ⟨[.bool false, .slice none 0 0, r6], 44, true⟩).put (M1.next + 1) ⟨[.bool false, .slice none 0 0, r7], 44, true⟩ = M9 at g9 h9 h8 h2c h3c ho6 ho7
      have hn1 : NewN M2 M9 ⟨false, [], p1⟩ (.slice none 0 0) r6 := ⟨Own.nil _ _ _, ho6⟩
      have hn2 : NewN M2 M9 ⟨false, [], p2⟩ (.slice none 0 0) r7 := ⟨Own.nil _ _ _, ho7⟩
      have h3d := h3c.put' (show M.next + 2 ≠ M.next + 1 by omega) ⟨[.bool false, .slice none 0 0, r6], 44, true⟩
      have h9d := h9.put' (show M1.next + 1 ≠ M.next + 1 by omega) ⟨[.bool false, .slice none 0 0, r6], 44, true⟩
      obtain ⟨g10, h10⟩ := mk_put g9 (show M.next ≤ M.next + 1 by omega) h2c.2 ⟨[.bool false, .slice none 0 0, r6], 44, true⟩
      obtain ⟨g11, h11⟩ := mk_put g10 (show M.next ≤ M.next + 2 by omega) h3d.2 ⟨[.bool false, .slice none 0 0, r7], 44, true⟩
      have h10 := h10.put' (show M.next + 1 ≠ M.next + 2 by omega) ⟨[.bool false, .slice none 0 0, r7], 44, true⟩
      refine AWP.stepD hmo [0, 1, 2, 3, 4] [0, 0, 1, 7, 15] [] [(1, 2)] (by kernel_rfl) [2, 3, 4] fun K hK => ?_
      simp only [go_sem, Nat.reduceEqDiff, Nat.reduceLT, Nat.reduceAdd, Nat.reduceMul, Nat.reduceSub, Nat.add_zero, Nat.zero_add, Int.reduceEq, Int.reduceLT, ld_44, h8.lda (show ([.bool false, .slice none 0 0, r6] : List Value).length = 3 from rfl), h9.lda (show ([.bool false, .slice none 0 0, r7] : List Value).length = 3 from rfl), h9d.lda (show ([.bool false, .slice none 0 0, r7] : List Value).length = 3 from rfl), st_44, st_all (n := 3) (vs := [.bool false, .slice none 0 0, r6]) h2c rfl rfl rfl (hn1.one false), st_all (n := 3) (vs := [.bool false, .slice none 0 0, r7]) h3d rfl rfl rfl (hn2.one false)]
      refine hK _ _ _ (by simp only [go_sem, Nat.reduceEqDiff, Nat.reduceLT, Nat.reduceAdd, Nat.reduceMul, Nat.reduceSub, Nat.add_zero, Nat.zero_add, Int.reduceEq, Int.reduceLT]; rfl) ?_; clear hK
      refine AWP.ret (?_)
      refine Fin.keep (v := .tuple #[.agg ([.bool false, .slice none 0 0, r6] : List Value).toArray, .agg ([.bool false, .slice none 0 0, r7] : List Value).toArray, .bool true]) (.inr rfl)
        (by simp only [go_sem, Nat.reduceEqDiff, Nat.reduceLT, Nat.reduceAdd, Nat.reduceMul, Nat.reduceSub, Nat.add_zero, Nat.zero_add, Int.reduceEq, Int.reduceLT, retV, resV, ld_44, h10.lda (show ([.bool false, .slice none 0 0, r6] : List Value).length = 3 from rfl), h11.lda (show ([.bool false, .slice none 0 0, r7] : List Value).length = 3 from rfl)]) ⟨g11, ?_⟩
      rw [eA, eB, eO]
      exact ⟨.slice none 0 0, r6, .slice none 0 0, r7, rfl, ((hn1.put hh2.2 _).put hh3.2 _).base hgM.next, ((hn2.put hh2.2 _).put hh3.2 _).base hgM.next⟩
end Go.Proofs.Ythheaehpnleiaaa.AX

/- A node in two parts, by the document. -/
namespace Go.Proofs.Ythheaehpnleiaaa.AX
open Go Go.Proofs
set_option maxRecDepth 100000
set_option linter.unusedVariables false
set_option linter.unusedSimpArgs false

/-- two ways that come to the same -/
theorem AWP.condJ {P : Program} {k : Nat} {c : Operand} {x y d : Code} {s : St} {Q : Exit → St → Prop} {t : Bool} (hc : aev s.env c = some (.bool t)) (live : List Nat) (e' : Env) (M' : Mem)
    (h : t = true → AWP P k x s (Then (fun s' => s'.env.keep live = e' ∧ s'.mem = M') Q)) (h' : t = false → AWP P k y s (Then (fun s' => s'.env.keep live = e' ∧ s'.mem = M') Q)) (hr : AWP P k d ⟨e', M'⟩ Q) : AWP P k (.seq (.cond c x y) d) s Q := by
  have key : ∀ e s', Then (fun s' => s'.env.keep live = e' ∧ s'.mem = M') Q e s' → Then (fun s' => AWP P k d s' Q) Q e s' := by
    intro e s' hq
    cases e with
    | normal =>
      obtain ⟨h1, h2⟩ := hq
      refine AWP.keep live ?_
      rw [h1, h2]; exact hr
    | _ => exact hq
  exact AWP.condS hc (fun ht => (h ht).mono key) fun ht => (h' ht).mono key

theorem AWP.condT {P : Program} {k : Nat} {c : Operand} {x y d : Code} {s : St} {Q : Exit → St → Prop} {t : Bool} (hc : aev s.env c = some (.bool t)) (live : List Nat) (e' : Env) (M' : Mem)
    (h : t = true → AWP P k x s (Then (fun s' => s'.env.keep live = e' ∧ s'.mem = M') Q)) (h' : t = false → AWP P k y s (Then (fun s' => s'.env.keep live = e' ∧ s'.mem = M') Q)) (hr : AWP P k d ⟨e', M'⟩ Q) : AWP P k (.cond c x y) s (Then (fun s' => AWP P k d s' Q) Q) := by
  have key : ∀ e s', Then (fun s' => s'.env.keep live = e' ∧ s'.mem = M') Q e s' → Then (fun s' => AWP P k d s' Q) Q e s' := by
    intro e s' hq
    cases e with
    | normal =>
      obtain ⟨h1, h2⟩ := hq
      refine AWP.keep live ?_
      rw [h1, h2]; exact hr
    | _ => exact hq
  exact AWP.cond_split hc (fun ht => (h ht).mono key) fun ht => (h' ht).mono key

/-- two ways that come to the same, but for the memory -/
theorem AWP.condG {P : Program} {k : Nat} {c : Operand} {x y d : Code} {s : St} {Q : Exit → St → Prop} {t : Bool} (hc : aev s.env c = some (.bool t)) (live : List Nat) (e' : Env) (J : Mem → Prop)
    (h : t = true → AWP P k x s (Then (fun s' => s'.env.keep live = e' ∧ J s'.mem) Q)) (h' : t = false → AWP P k y s (Then (fun s' => s'.env.keep live = e' ∧ J s'.mem) Q)) (hr : ∀ M', J M' → AWP P k d ⟨e', M'⟩ Q) : AWP P k (.cond c x y) s (Then (fun s' => AWP P k d s' Q) Q) := by
  have key : ∀ e s', Then (fun s' => s'.env.keep live = e' ∧ J s'.mem) Q e s' → Then (fun s' => AWP P k d s' Q) Q e s' := by
    intro e s' hq
    cases e with
    | normal =>
      obtain ⟨h1, h2⟩ := hq
      refine AWP.keep live ?_
      rw [h1]; exact hr _ h2
    | _ => exact hq
  exact AWP.cond_split hc (fun ht => (h ht).mono key) fun ht => (h' ht).mono key

def cntN (n : Node) : Nat := if n.leaf then n.pairs.length else n.kids.length
def mostN (n : Node) (i : Nat) : Int := max (sizeF (partN n 0 i)) (sizeF (partN n i (cntN n)))
def refSt (n : Node) : Nat → Nat × Int
  | 0 => (0, 0)
  | k + 1 => if (refSt n k).1 = 0 ∨ mostN n (k + 1) < (refSt n k).2 then (k + 1, mostN n (k + 1)) else refSt n k
theorem sizeF_leaf {l : List Pr} : sizeF ⟨true, l, []⟩ = 3 + sumF prSz l := by simp [sizeF, sumF]
theorem sizeF_kids {l : List Kd} : sizeF ⟨false, [], l⟩ = 3 + sumF kdSz l := by simp [sizeF, sumF]
theorem mostN_leaf {n : Node} (h : n.leaf = true) {i : Nat} (hi : i ≤ n.pairs.length) : mostN n i = 3 + mostF prSz n.pairs i := by
  have h1 : partN n 0 i = ⟨true, n.pairs.take i, []⟩ := by rw [partN, h]; simp
  have h2 : partN n i (cntN n) = ⟨true, n.pairs.drop i, []⟩ := by
    rw [partN, cntN, h]; simp
    exact List.take_of_length_le (by rw [List.length_drop]; omega)
  have := sumF_split prSz n.pairs i
  rw [mostN, mostF, h1, h2, sizeF_leaf, sizeF_leaf]; omega
theorem mostN_kids {n : Node} (h : n.leaf = false) {i : Nat} (hi : i ≤ n.kids.length) : mostN n i = 3 + mostF kdSz n.kids i := by
  have h1 : partN n 0 i = ⟨false, [], n.kids.take i⟩ := by rw [partN, h]; simp
  have h2 : partN n i (cntN n) = ⟨false, [], n.kids.drop i⟩ := by
    rw [partN, cntN, h]; simp
    exact List.take_of_length_le (by rw [List.length_drop]; omega)
  have := sumF_split kdSz n.kids i
  rw [mostN, mostF, h1, h2, sizeF_kids, sizeF_kids]; omega
theorem refSt_of {α : Type} {f : α → Int} {l : List α} {n : Node} (hf : ∀ a, a ∈ l → 0 ≤ f a) (hm : ∀ i, i ≤ l.length → mostN n i = 3 + mostF f l i) : ∀ k, k + 1 ≤ l.length → (k = 0 ∧ refSt n k = (0, 0)) ∨ (1 ≤ k ∧ refSt n k = ((cutSt f l k).1, 3 + (cutSt f l k).2)) := by
  intro k
  induction k with
  | zero => intro _; exact .inl ⟨rfl, rfl⟩
  | succ k ih =>
    intro hk
    refine .inr ⟨by omega, ?_⟩
    have hmk := hm (k + 1) (by omega)
    rcases ih (by omega) with ⟨rfl, h0⟩ | ⟨h1, h0⟩
    · rw [refSt, h0, if_pos (.inl rfl), hmk, cutSt]
      have hle : mostF f l 1 ≤ sumF f l := by
        have := sumF_take_bound hf 1
        unfold mostF; omega
      by_cases hlt : mostF f l (0 + 1) < (cutSt f l 0).2
      · rw [if_pos hlt]
      · rw [if_neg hlt]
        have : mostF f l (0 + 1) = sumF f l := by
          simp only [cutSt] at hlt
          have : mostF f l (0 + 1) ≤ sumF f l := hle
          omega
        rw [this]; rfl
    · have hb := (cutSt_bound f l k).1
      rw [refSt, h0, hmk, cutSt]
      simp only
      by_cases hlt : mostF f l (k + 1) < (cutSt f l k).2
      · rw [if_pos hlt, if_pos (.inr (by omega))]
      · rw [if_neg hlt, if_neg (by omega)]
theorem ref_cut_leaf {n : Node} (h : n.leaf = true) (hL : Lt18 n) (h2 : 2 ≤ n.pairs.length) : (refSt n (cntN n - 1)).1 = cutF prSz n.pairs := by
  rw [cntN, h, if_pos rfl]
  rcases refSt_of (f := prSz) (l := n.pairs) (fun a ha => (hL.pr a ha).1) (fun i hi => mostN_leaf h hi) (n.pairs.length - 1) (by omega) with ⟨h3, _⟩ | ⟨_, h3⟩
  · omega
  · rw [h3]; rfl
theorem ref_cut_kids {n : Node} (h : n.leaf = false) (hL : Lt18 n) (h2 : 2 ≤ n.kids.length) : (refSt n (cntN n - 1)).1 = cutF kdSz n.kids := by
  rw [cntN, h, if_neg (by decide)]
  rcases refSt_of (f := kdSz) (l := n.kids) (fun a ha => (hL.kd a ha).1) (fun i hi => mostN_kids h hi) (n.kids.length - 1) (by omega) with ⟨h3, _⟩ | ⟨_, h3⟩
  · omega
  · rw [h3]; rfl
theorem part_lt {n : Node} (hL : Lt18 n) (a b : Nat) : Lt18 (partN n a b) := by
  unfold partN
  split
  · exact ⟨by have := hL.pairs; simp only [List.length_take, List.length_drop]; omega, by simp, fun p hp => hL.pk p (mem_part hp), fun p hp => hL.pv p (mem_part hp), fun p hp => by simp at hp⟩
  · exact ⟨by simp, by have := hL.kids; simp only [List.length_take, List.length_drop]; omega, fun p hp => by simp at hp, fun p hp => by simp at hp, fun p hp => hL.kk p (mem_part hp)⟩
theorem part_pairs {n : Node} {a b : Nat} {p : Pr} (h : p ∈ (partN n a b).pairs) : p ∈ n.pairs := by
  unfold partN at h; split at h
  · exact mem_part h
  · simp at h
theorem part_kids {n : Node} {a b : Nat} {p : Kd} (h : p ∈ (partN n a b).kids) : p ∈ n.kids := by
  unfold partN at h; split at h
  · simp at h
  · exact mem_part h
theorem part_node {M M1 : Mem} {n : Node} {a b : Nat} {vp vk wp wk : Value} (h : NewN M M1 (partN n a b) wp wk) (hr : NodeR M1 n vp vk) : NodeR M1 (partN n a b) wp wk :=
  h.node (fun p hp => ⟨hr.pk p (part_pairs hp), hr.pv p (part_pairs hp)⟩) fun p hp => hr.kk p (part_kids hp)
theorem size_bound {n : Node} (hL : Lt18 n) : 3 ≤ sizeF n ∧ sizeF n ≤ 10000000 := by
  have h1 := sum_take_le hL.pr (by have := hL.pairs; omega) n.pairs.length
  have h2 := sum_take_le hL.kd (by have := hL.kids; omega) n.kids.length
  rw [List.take_length] at h1 h2
  unfold sizeF; omega

theorem split36_spec (n : Node) (vp vk : Value) (M : Mem) (hok : Ok M) (hr : NodeR M n vp vk) (hE : NodeE M n vp vk) (hL : Lt18 n) (hform : formOk n = false) : ∃ r M', ACall Try.prog 36 #[.agg (nodeC n.leaf vp vk).toArray] M r M' ∧ SplitR n M r M' := by
  have hlp := hL.pairs; have hlk := hL.kids
  refine ACall.fin (args := [.agg (nodeC n.leaf vp vk).toArray]) (k := 66) (rs := [.cell 2 44, .cell 3 44, .tmp 4]) Try.func36 rfl rfl rfl (Nat.le_of_ble_eq_true rfl) ?_
  refine AWP.stepR [1, 2, 3] fun K hK => ?_
  simp only [go_sem, Nat.reduceEqDiff, Nat.reduceLT, Nat.reduceAdd, Nat.reduceMul, Nat.reduceSub, Nat.add_zero, Nat.zero_add, Int.reduceEq, Int.reduceLT]
  refine hK _ _ _ (by simp only [go_sem, Nat.reduceEqDiff, Nat.reduceLT, Nat.reduceAdd, Nat.reduceMul, Nat.reduceSub, Nat.add_zero, Nat.zero_add, Int.reduceEq, Int.reduceLT]; rfl) ?_; clear hK
  have hlt1 : M.next < (M.bump 3).next := by rw [Mem.next_bump]; omega
  have hlt2 : M.next + 1 < (M.bump 3).next := by rw [Mem.next_bump]; omega
  have hlt3 : M.next + 2 < (M.bump 3).next := by rw [Mem.next_bump]; omega
  obtain ⟨hg1, hh1⟩ := mk_put ((Grew.refl M).bump 3) (Nat.le_refl _) hlt1 ⟨nodeC n.leaf vp vk, 44, true⟩
  obtain ⟨hg2, hh2⟩ := mk_put hg1 (show M.next ≤ M.next + 1 by omega) (show M.next + 1 < ((M.bump 3).put M.next ⟨nodeC n.leaf vp vk, 44, true⟩).next from hlt2) ⟨zN, 44, true⟩
  obtain ⟨hg3, hh3⟩ := mk_put hg2 (show M.next ≤ M.next + 2 by omega) (show M.next + 2 < (((M.bump 3).put M.next ⟨nodeC n.leaf vp vk, 44, true⟩).put (M.next + 1) ⟨zN, 44, true⟩).next from hlt3) ⟨zN, 44, true⟩
  have hh1 := (hh1.put' (show M.next ≠ M.next + 1 by omega) ⟨zN, 44, true⟩).put' (show M.next ≠ M.next + 2 by omega) ⟨zN, 44, true⟩
  have hh2 := hh2.put' (show M.next + 1 ≠ M.next + 2 by omega) ⟨zN, 44, true⟩
  clear hg1 hg2
  change AWP _ _ _ ⟨_, (((M.bump 3).put M.next ⟨nodeC n.leaf vp vk, 44, true⟩).put (M.next + 1) ⟨zN, 44, true⟩).put (M.next + 2) ⟨zN, 44, true⟩⟩ _
  have hnx1 : ((((M.bump 3).put M.next ⟨nodeC n.leaf vp vk, 44, true⟩).put (M.next + 1) ⟨zN, 44, true⟩).put (M.next + 2) ⟨zN, 44, true⟩).next = M.next + 3 := rfl
  generalize (((M.bump 3).put M.next ⟨nodeC n.leaf vp vk, 44, true⟩).put (M.next + 1) ⟨zN, 44, true⟩).put (M.next + 2) ⟨zN, 44, true⟩ = M1 at hg3 hh1 hh2 hh3 hnx1
  have hr1 := hr.grew hg3
  have hE1 := hE.grew hg3
  have hcnt : cntN n ≤ 1000 := by unfold cntN; split <;> omega
  refine AWP.stepR [1, 2, 3, 5] fun K hK => ?_
  simp only [go_sem, Nat.reduceEqDiff, Nat.reduceLT, Nat.reduceAdd, Nat.reduceMul, Nat.reduceSub, Nat.add_zero, Nat.zero_add, Int.reduceEq, Int.reduceLT, ld_41, hh1.ld, nodeC, hr1.pairs.len es_41]
  refine hK _ _ _ (by simp only [go_sem, Nat.reduceEqDiff, Nat.reduceLT, Nat.reduceAdd, Nat.reduceMul, Nat.reduceSub, Nat.add_zero, Nat.zero_add, Int.reduceEq, Int.reduceLT]; rfl) ?_; clear hK
  refine AWP.seq ?_
  refine AWP.stepR [1, 2, 3, 5, 15] fun K hK => ?_
  simp only [go_sem, Nat.reduceEqDiff, Nat.reduceLT, Nat.reduceAdd, Nat.reduceMul, Nat.reduceSub, Nat.add_zero, Nat.zero_add, Int.reduceEq, Int.reduceLT, ld_4, hh1.ld, nodeC]
  refine hK _ _ _ (by simp only [go_sem, Nat.reduceEqDiff, Nat.reduceLT, Nat.reduceAdd, Nat.reduceMul, Nat.reduceSub, Nat.add_zero, Nat.zero_add, Int.reduceEq, Int.reduceLT]; rfl) ?_; clear hK
  refine AWP.condT rfl [1, 2, 3, 5] [(1, .pointer (some ⟨M.next, 0, none⟩)), (2, .pointer (some ⟨M.next + 1, 0, none⟩)), (3, .pointer (some ⟨M.next + 2, 0, none⟩)), (5, .int .i64 (cntN n))] M1 (fun h15 => ?_) (fun h15 => ?_) ?_
  · refine AWP.lastR fun K hK => ?_
    simp only [go_sem, Nat.reduceEqDiff, Nat.reduceLT, Nat.reduceAdd, Nat.reduceMul, Nat.reduceSub, Nat.add_zero, Nat.zero_add, Int.reduceEq, Int.reduceLT, ld_42, hh1.ld, nodeC, hr1.kids.len es_42]
    refine hK _ _ ?_; clear hK
    refine ⟨?_, rfl⟩
    simp only [go_sem, Nat.reduceEqDiff, Nat.reduceLT, Nat.reduceAdd, Nat.reduceMul, Nat.reduceSub, Nat.add_zero, Nat.zero_add, Int.reduceEq, Int.reduceLT]
    rw [cntN, if_neg (by simpa using h15)]
  · refine AWP.skip ?_
    refine ⟨?_, rfl⟩
    simp only [go_sem, Nat.reduceEqDiff, Nat.reduceLT, Nat.reduceAdd, Nat.reduceMul, Nat.reduceSub, Nat.add_zero, Nat.zero_add, Int.reduceEq, Int.reduceLT]
    rw [cntN, if_pos (by simpa using h15)]
  refine AWP.seq ?_
  refine AWP.stepR [1, 2, 3, 5, 26] fun K hK => ?_
  simp only [go_sem, Nat.reduceEqDiff, Nat.reduceLT, Nat.reduceAdd, Nat.reduceMul, Nat.reduceSub, Nat.add_zero, Nat.zero_add, Int.reduceEq, Int.reduceLT, ld_41, ld_42, hh1.ld, nodeC, hr1.pairs.len es_41, hr1.kids.len es_42, i64w (n := (n.pairs.length : Int) + n.kids.length) (by omega) (by omega)]
  refine hK _ _ _ (by simp only [go_sem, Nat.reduceEqDiff, Nat.reduceLT, Nat.reduceAdd, Nat.reduceMul, Nat.reduceSub, Nat.add_zero, Nat.zero_add, Int.reduceEq, Int.reduceLT]; rfl) ?_; clear hK
  refine AWP.cond_split rfl (fun h26 => ?_) fun h26 => ?_
  · have h3b := hh3.put' (show M.next + 2 ≠ M.next + 1 by omega) ⟨[.bool false, .slice none 0 0, .slice none 0 0], 44, true⟩
    refine AWP.stepR [2, 3, 4] fun K hK => ?_
    simp only [go_sem, Nat.reduceEqDiff, Nat.reduceLT, Nat.reduceAdd, Nat.reduceMul, Nat.reduceSub, Nat.add_zero, Nat.zero_add, Int.reduceEq, Int.reduceLT, bd_44z, st_44, st_all (n := 3) (vs := [.bool false, .slice none 0 0, .slice none 0 0]) hh2 rfl rfl rfl rfl, st_all (n := 3) (vs := [.bool false, .slice none 0 0, .slice none 0 0]) h3b rfl rfl rfl rfl]
    refine hK _ _ _ (by simp only [go_sem, Nat.reduceEqDiff, Nat.reduceLT, Nat.reduceAdd, Nat.reduceMul, Nat.reduceSub, Nat.add_zero, Nat.zero_add, Int.reduceEq, Int.reduceLT]; rfl) ?_; clear hK
    obtain ⟨g5, h5⟩ := mk_put hg3 (show M.next ≤ M.next + 1 by omega) hh2.2 ⟨[.bool false, .slice none 0 0, .slice none 0 0], 44, true⟩
    obtain ⟨g6, h6⟩ := mk_put g5 (show M.next ≤ M.next + 2 by omega) h3b.2 ⟨[.bool false, .slice none 0 0, .slice none 0 0], 44, true⟩
    have h5 := h5.put' (show M.next + 1 ≠ M.next + 2 by omega) ⟨[.bool false, .slice none 0 0, .slice none 0 0], 44, true⟩
    refine AWP.ret (Then.ret (?_))
    have hlt : n.pairs.length + n.kids.length < 2 := by simp at h26; omega
    refine Fin.keep (v := .tuple #[.agg (nodeC zeroN.leaf (.slice none 0 0) (.slice none 0 0)).toArray, .agg (nodeC zeroN.leaf (.slice none 0 0) (.slice none 0 0)).toArray, .bool false]) (.inr rfl)
      (by simp only [go_sem, Nat.reduceEqDiff, Nat.reduceLT, Nat.reduceAdd, Nat.reduceMul, Nat.reduceSub, Nat.add_zero, Nat.zero_add, Int.reduceEq, Int.reduceLT, retV, resV, ld_44, h5.lda (show ([.bool false, .slice none 0 0, .slice none 0 0] : List Value).length = 3 from rfl), h6.lda (show ([.bool false, .slice none 0 0, .slice none 0 0] : List Value).length = 3 from rfl)]; rfl) ⟨g6, ?_⟩
    rw [splitA, splitB, if_pos hlt, if_pos hlt, splitOk, h26]
    exact ⟨_, _, _, _, rfl, NewN.zero _ _, NewN.zero _ _⟩
  · have hge : ¬ n.pairs.length + n.kids.length < 2 := by simp at h26; omega
    have hc2 : 2 ≤ cntN n := by
      unfold cntN
      cases hlf : n.leaf with
      | true => rw [formOk, hlf] at hform; simp at hform; rw [hform] at hge; simp at hge ⊢; omega
      | false => rw [formOk, hlf] at hform; simp at hform; rw [hform] at hge; simp at hge ⊢; omega
    have hcut : splitA n = partN n 0 (refSt n (cntN n - 1)).1 ∧ splitB n = partN n (refSt n (cntN n - 1)).1 (cntN n) ∧ 1 ≤ (refSt n (cntN n - 1)).1 ∧ (refSt n (cntN n - 1)).1 < cntN n := by
      cases hlf : n.leaf with
      | true =>
        have hc3 := hc2
        rw [cntN, hlf, if_pos rfl] at hc3
        rw [ref_cut_leaf hlf hL hc3, splitA, splitB, if_neg hge, if_neg hge, hlf, if_pos rfl, if_pos rfl, cntN, hlf, if_pos rfl]
        exact ⟨rfl, rfl, cutF_bound prSz hc3⟩
      | false =>
        have hc3 := hc2
        rw [cntN, hlf, if_neg (by decide)] at hc3
        rw [ref_cut_kids hlf hL hc3, splitA, splitB, if_neg hge, if_neg hge, hlf, if_neg (by decide), if_neg (by decide), cntN, hlf, if_neg (by decide)]
        exact ⟨rfl, rfl, cutF_bound kdSz hc3⟩
    obtain ⟨eA, eB, hb1, hb2⟩ := hcut
    have eO : splitOk n = true := by rw [splitOk, h26]; rfl
    have hcE : (if n.leaf = true then n.pairs.length else n.kids.length) = cntN n := rfl
    refine AWP.skip ?_
    refine AWP.stepR [1, 2, 3, 5, 6] fun K hK => ?_
    simp only [go_sem, Nat.reduceEqDiff, Nat.reduceLT, Nat.reduceAdd, Nat.reduceMul, Nat.reduceSub, Nat.add_zero, Nat.zero_add, Int.reduceEq, Int.reduceLT]
    refine hK _ _ _ (by simp only [go_sem, Nat.reduceEqDiff, Nat.reduceLT, Nat.reduceAdd, Nat.reduceMul, Nat.reduceSub, Nat.add_zero, Nat.zero_add, Int.reduceEq, Int.reduceLT]; rfl) ?_; clear hK
    refine AWP.stepR [1, 2, 3, 5, 6, 7] fun K hK => ?_
    simp only [go_sem, Nat.reduceEqDiff, Nat.reduceLT, Nat.reduceAdd, Nat.reduceMul, Nat.reduceSub, Nat.add_zero, Nat.zero_add, Int.reduceEq, Int.reduceLT]
    refine hK _ _ _ (by simp only [go_sem, Nat.reduceEqDiff, Nat.reduceLT, Nat.reduceAdd, Nat.reduceMul, Nat.reduceSub, Nat.add_zero, Nat.zero_add, Int.reduceEq, Int.reduceLT]; rfl) ?_; clear hK
    refine AWP.seq ?_
    refine AWP.stepR [1, 2, 3, 5, 6, 7, 8] fun K hK => ?_
    simp only [go_sem, Nat.reduceEqDiff, Nat.reduceLT, Nat.reduceAdd, Nat.reduceMul, Nat.reduceSub, Nat.add_zero, Nat.zero_add, Int.reduceEq, Int.reduceLT]
    refine hK _ _ _ (by simp only [go_sem, Nat.reduceEqDiff, Nat.reduceLT, Nat.reduceAdd, Nat.reduceMul, Nat.reduceSub, Nat.add_zero, Nat.zero_add, Int.reduceEq, Int.reduceLT]; rfl) ?_; clear hK
    refine AWP.block ?_ -- b0
    refine AWP.loopK [1, 2, 3, 5, 6, 7, 8] (fun c e M0 => Grew M1 M0 ∧ ∃ k : Nat, k + 1 ≤ cntN n ∧ c = cntN n - k ∧ e = [(1, .pointer (some ⟨M.next, 0, none⟩)), (2, .pointer (some ⟨M.next + 1, 0, none⟩)), (3, .pointer (some ⟨M.next + 2, 0, none⟩)), (5, .int .i64 (cntN n)), (6, .int .i64 (refSt n k).1), (7, .int .i64 (refSt n k).2), (8, .int .i64 ((k + 1 : Nat) : Int))]) (cntN n) ?_ fun c e M0 hI => ?_ -- LOOP
    · simp only [go_sem, Nat.reduceEqDiff, Nat.reduceLT, Nat.reduceAdd, Nat.reduceMul, Nat.reduceSub, Nat.add_zero, Nat.zero_add, Int.reduceEq, Int.reduceLT]
      exact ⟨Grew.refl _, 0, by omega, rfl, rfl⟩
    obtain ⟨hg0, k, hk, hc, rfl⟩ := hI
    have hh10 := hh1.grew hg0
    have hr0 := hr1.grew hg0
    have hE0 := hE1.grew hg0
    have hok0 := (hg3.trans hg0).ok hok
    refine AWP.seq ?_
    refine AWP.stepR [1, 2, 3, 5, 6, 7, 8, 31] fun K hK => ?_
    simp only [go_sem, Nat.reduceEqDiff, Nat.reduceLT, Nat.reduceAdd, Nat.reduceMul, Nat.reduceSub, Nat.add_zero, Nat.zero_add, Int.reduceEq, Int.reduceLT]
    refine hK _ _ _ (by simp only [go_sem, Nat.reduceEqDiff, Nat.reduceLT, Nat.reduceAdd, Nat.reduceMul, Nat.reduceSub, Nat.add_zero, Nat.zero_add, Int.reduceEq, Int.reduceLT]; rfl) ?_; clear hK
    refine AWP.cond_split rfl (fun h31 => ?_) fun h31 => ?_
    · have hlt : k + 1 < cntN n := by simp at h31; omega
      obtain ⟨ra, Ma, hca, hga, wpa, wka, rfl, hna⟩ := part89_spec n vp vk 0 (k + 1) M0 hok0 hr0 hE0 (by omega) (by rw [hcE]; omega) (by omega) (by omega)
      obtain ⟨rb, Mb, hcb, hrb, hMb⟩ := size29_spec (partN n 0 (k + 1)) wpa wka Ma (hga.ok hok0) (part_node hna (hr0.grew hga)) (part_lt hL _ _)
      rw [hrb, hMb] at hcb
      obtain ⟨rc, Mc, hcc, hgc, wpc, wkc, rfl, hnc⟩ := part89_spec n vp vk (k + 1) (cntN n) Ma (hga.ok hok0) (hr0.grew hga) (hE0.grew hga) hlt (by rw [hcE]; omega) (by omega) (by omega)
      obtain ⟨rd, Md, hcd, hrd, hMd⟩ := size29_spec (partN n (k + 1) (cntN n)) wpc wkc Mc ((hga.trans hgc).ok hok0) (part_node hnc (hr0.grew (hga.trans hgc))) (part_lt hL _ _)
      rw [hrd, hMd] at hcd
      have hgac := hga.trans hgc
      have hh1a := hh10.grew hga
      have hh1c := hh10.grew hgac
      refine AWP.skip ?_
      refine AWP.seq ?_
      refine AWP.block ?_ -- b1
      refine AWP.stepR [1, 2, 3, 5, 6, 7, 8, 9] fun K hK => ?_
      simp only [go_sem, Nat.reduceEqDiff, Nat.reduceLT, Nat.reduceAdd, Nat.reduceMul, Nat.reduceSub, Nat.add_zero, Nat.zero_add, Int.reduceEq, Int.reduceLT, ld_44, hh10.lda (nodeC_len ..)]
      refine ⟨_, _, hca, ?_⟩
      try simp only [go_sem, Nat.reduceEqDiff, Nat.reduceLT, Nat.reduceAdd, Nat.reduceMul, Nat.reduceSub, Nat.add_zero, Nat.zero_add, Int.reduceEq, Int.reduceLT]
      refine ⟨_, _, hcb, ?_⟩
      refine hK _ _ _ (by simp only [go_sem, Nat.reduceEqDiff, Nat.reduceLT, Nat.reduceAdd, Nat.reduceMul, Nat.reduceSub, Nat.add_zero, Nat.zero_add, Int.reduceEq, Int.reduceLT]; rfl) ?_; clear hK
      refine AWP.seq ?_
      refine AWP.stepR [1, 2, 3, 5, 6, 7, 8, 9, 44] fun K hK => ?_
      simp only [go_sem, Nat.reduceEqDiff, Nat.reduceLT, Nat.reduceAdd, Nat.reduceMul, Nat.reduceSub, Nat.add_zero, Nat.zero_add, Int.reduceEq, Int.reduceLT, ld_44, hh1a.lda (nodeC_len ..)]
      refine ⟨_, _, hcc, ?_⟩
      try simp only [go_sem, Nat.reduceEqDiff, Nat.reduceLT, Nat.reduceAdd, Nat.reduceMul, Nat.reduceSub, Nat.add_zero, Nat.zero_add, Int.reduceEq, Int.reduceLT]
      refine ⟨_, _, hcd, ?_⟩
      refine hK _ _ _ (by simp only [go_sem, Nat.reduceEqDiff, Nat.reduceLT, Nat.reduceAdd, Nat.reduceMul, Nat.reduceSub, Nat.add_zero, Nat.zero_add, Int.reduceEq, Int.reduceLT]; rfl) ?_; clear hK
      have hsA := size_bound (part_lt hL 0 (k + 1))
      have hsB := size_bound (part_lt hL (k + 1) (cntN n))
      refine AWP.condG rfl [1, 2, 3, 5, 6, 7, 8, 9] [(1, .pointer (some ⟨M.next, 0, none⟩)), (2, .pointer (some ⟨M.next + 1, 0, none⟩)), (3, .pointer (some ⟨M.next + 2, 0, none⟩)), (5, .int .i64 (cntN n)), (6, .int .i64 (refSt n k).1), (7, .int .i64 (refSt n k).2), (8, .int .i64 ((k + 1 : Nat) : Int)), (9, .int .i64 (mostN n (k + 1)))] (fun M' => Grew Mc M') (fun h44 => ?_) (fun h44 => ?_) fun M5 hg5 => ?_
      · obtain ⟨re, Me, hce, hge', wpe, wke, rfl, hne⟩ := part89_spec n vp vk (k + 1) (cntN n) Mc (hgac.ok hok0) (hr0.grew hgac) (hE0.grew hgac) hlt (by rw [hcE]; omega) (by omega) (by omega)
        obtain ⟨rf, Mf, hcf, hrf, hMf⟩ := size29_spec (partN n (k + 1) (cntN n)) wpe wke Me ((hgac.trans hge').ok hok0) (part_node hne (hr0.grew (hgac.trans hge'))) (part_lt hL _ _)
        rw [hrf, hMf] at hcf
        refine AWP.lastR fun K hK => ?_
        simp only [go_sem, Nat.reduceEqDiff, Nat.reduceLT, Nat.reduceAdd, Nat.reduceMul, Nat.reduceSub, Nat.add_zero, Nat.zero_add, Int.reduceEq, Int.reduceLT, ld_44, hh1c.lda (nodeC_len ..)]
        refine ⟨_, _, hce, ?_⟩
        try simp only [go_sem, Nat.reduceEqDiff, Nat.reduceLT, Nat.reduceAdd, Nat.reduceMul, Nat.reduceSub, Nat.add_zero, Nat.zero_add, Int.reduceEq, Int.reduceLT]
        refine ⟨_, _, hcf, ?_⟩
        refine hK _ _ ?_; clear hK
        refine ⟨?_, hge'⟩
        simp only [go_sem, Nat.reduceEqDiff, Nat.reduceLT, Nat.reduceAdd, Nat.reduceMul, Nat.reduceSub, Nat.add_zero, Nat.zero_add, Int.reduceEq, Int.reduceLT]
        have : mostN n (k + 1) = sizeF (partN n (k + 1) (cntN n)) := by rw [mostN]; simp at h44; omega
        rw [this]
      · refine AWP.skip ?_
        refine ⟨?_, Grew.refl _⟩
        simp only [go_sem, Nat.reduceEqDiff, Nat.reduceLT, Nat.reduceAdd, Nat.reduceMul, Nat.reduceSub, Nat.add_zero, Nat.zero_add, Int.reduceEq, Int.reduceLT]
        have : mostN n (k + 1) = sizeF (partN n 0 (k + 1)) := by rw [mostN]; simp at h44; omega
        rw [this]
      · refine AWP.stepX [1, 2, 3, 5, 6, 7, 8, 9, 56] [(1, .pointer (some ⟨M.next, 0, none⟩)), (2, .pointer (some ⟨M.next + 1, 0, none⟩)), (3, .pointer (some ⟨M.next + 2, 0, none⟩)), (5, .int .i64 (cntN n)), (6, .int .i64 (refSt n k).1), (7, .int .i64 (refSt n k).2), (8, .int .i64 ((k + 1 : Nat) : Int)), (9, .int .i64 (mostN n (k + 1))), (56, .bool (decide ((refSt n k).1 = 0 ∨ mostN n (k + 1) < (refSt n k).2)))] M5 (fun K hK => ?_) ?_
        · by_cases h0 : (refSt n k).1 = 0
          · simp only [go_sem, Nat.reduceEqDiff, Nat.reduceLT, Nat.reduceAdd, Nat.reduceMul, Nat.reduceSub, Nat.add_zero, Nat.zero_add, Int.reduceEq, Int.reduceLT, show (((refSt n k).1 : Int) == 0) = true by simp [h0]]
            refine hK _ ?_
            simp only [go_sem, Nat.reduceEqDiff, Nat.reduceLT, Nat.reduceAdd, Nat.reduceMul, Nat.reduceSub, Nat.add_zero, Nat.zero_add, Int.reduceEq, Int.reduceLT, decide_eq_true (show (refSt n k).1 = 0 ∨ mostN n (k + 1) < (refSt n k).2 from .inl h0)]
          · simp only [go_sem, Nat.reduceEqDiff, Nat.reduceLT, Nat.reduceAdd, Nat.reduceMul, Nat.reduceSub, Nat.add_zero, Nat.zero_add, Int.reduceEq, Int.reduceLT, show (((refSt n k).1 : Int) == 0) = false by simp [h0]]
            refine hK _ ?_
            simp only [go_sem, Nat.reduceEqDiff, Nat.reduceLT, Nat.reduceAdd, Nat.reduceMul, Nat.reduceSub, Nat.add_zero, Nat.zero_add, Int.reduceEq, Int.reduceLT]
            rw [decide_eq_decide.2 (show mostN n (k + 1) < (refSt n k).2 ↔ ((refSt n k).1 = 0 ∨ mostN n (k + 1) < (refSt n k).2) from ⟨.inr, fun h => h.resolve_left h0⟩)]
        have hgr := hg0.trans (hgac.trans hg5)
        refine AWP.cond_split rfl (fun h56 => ?_) fun h56 => ?_
        · have hcs : refSt n (k + 1) = (k + 1, mostN n (k + 1)) := by rw [refSt, if_pos (by simpa using h56)]
          refine AWP.stepR [1, 2, 3, 5, 6, 8, 9] fun K hK => ?_
          simp only [go_sem, Nat.reduceEqDiff, Nat.reduceLT, Nat.reduceAdd, Nat.reduceMul, Nat.reduceSub, Nat.add_zero, Nat.zero_add, Int.reduceEq, Int.reduceLT]
          refine hK _ _ _ (by simp only [go_sem, Nat.reduceEqDiff, Nat.reduceLT, Nat.reduceAdd, Nat.reduceMul, Nat.reduceSub, Nat.add_zero, Nat.zero_add, Int.reduceEq, Int.reduceLT]; rfl) ?_; clear hK
          refine AWP.lastR fun K hK => ?_
          simp only [go_sem, Nat.reduceEqDiff, Nat.reduceLT, Nat.reduceAdd, Nat.reduceMul, Nat.reduceSub, Nat.add_zero, Nat.zero_add, Int.reduceEq, Int.reduceLT]
          refine hK _ _ ?_; clear hK
          refine AWP.lastR fun K hK => ?_
          simp only [go_sem, Nat.reduceEqDiff, Nat.reduceLT, Nat.reduceAdd, Nat.reduceMul, Nat.reduceSub, Nat.add_zero, Nat.zero_add, Int.reduceEq, Int.reduceLT]
          refine hK _ _ ?_; clear hK
          refine ⟨c - 1, by omega, hgr, k + 1, by omega, by omega, ?_⟩ -- ROUND
          simp only [go_sem, Nat.reduceEqDiff, Nat.reduceLT, Nat.reduceAdd, Nat.reduceMul, Nat.reduceSub, Nat.add_zero, Nat.zero_add, Int.reduceEq, Int.reduceLT, hcs]
          rw [i64w (by omega) (by omega)]; rfl
        · have hcs : refSt n (k + 1) = refSt n k := by rw [refSt, if_neg (by simpa using h56)]
          refine AWP.skip ?_
          refine AWP.lastR fun K hK => ?_
          simp only [go_sem, Nat.reduceEqDiff, Nat.reduceLT, Nat.reduceAdd, Nat.reduceMul, Nat.reduceSub, Nat.add_zero, Nat.zero_add, Int.reduceEq, Int.reduceLT]
          refine hK _ _ ?_; clear hK
          refine ⟨c - 1, by omega, hgr, k + 1, by omega, by omega, ?_⟩ -- ROUND
          simp only [go_sem, Nat.reduceEqDiff, Nat.reduceLT, Nat.reduceAdd, Nat.reduceMul, Nat.reduceSub, Nat.add_zero, Nat.zero_add, Int.reduceEq, Int.reduceLT, hcs]
          rw [i64w (by omega) (by omega)]; rfl
    · refine AWP.exit (Then.exit (Then.exit (InBlock.same ?_)))
      have hk2 : k = cntN n - 1 := by simp at h31; omega
      rw [hk2]
      generalize (refSt n (cntN n - 1)).1 = best at eA eB hb1 hb2
      obtain ⟨ra, Ma, hca, hga, wpa, wka, rfl, hna⟩ := part89_spec n vp vk 0 best M0 hok0 hr0 hE0 (by omega) (by rw [hcE]; omega) (by omega) (by omega)
      obtain ⟨rc, Mc, hcc, hgc, wpc, wkc, rfl, hnc⟩ := part89_spec n vp vk best (cntN n) Ma (hga.ok hok0) (hr0.grew hga) (hE0.grew hga) hb2 (by rw [hcE]; omega) (by omega) (by omega)
      have hgac := hga.trans hgc
      have hh1a := hh10.grew hga
      have h2c := hh2.grew (hg0.trans hgac)
      have h3c := (hh3.grew (hg0.trans hgac)).put' (show M.next + 2 ≠ M.next + 1 by omega) ⟨nodeC (partN n 0 best).leaf wpa wka, 44, true⟩
      obtain ⟨g10, h10⟩ := mk_put (hg3.trans (hg0.trans hgac)) (show M.next ≤ M.next + 1 by omega) h2c.2 ⟨nodeC (partN n 0 best).leaf wpa wka, 44, true⟩
      obtain ⟨g11, h11⟩ := mk_put g10 (show M.next ≤ M.next + 2 by omega) h3c.2 ⟨nodeC (partN n best (cntN n)).leaf wpc wkc, 44, true⟩
      have h10 := h10.put' (show M.next + 1 ≠ M.next + 2 by omega) ⟨nodeC (partN n best (cntN n)).leaf wpc wkc, 44, true⟩
      refine AWP.stepD hmo [0, 1, 2, 3, 4, 5, 6, 7, 8, 9] [0, 0, 3, 0, 0, 0, 63, 127, 255, 511] [] [(3, 2)] (by kernel_rfl) [2, 3, 4] fun K hK => ?_
      simp only [go_sem, Nat.reduceEqDiff, Nat.reduceLT, Nat.reduceAdd, Nat.reduceMul, Nat.reduceSub, Nat.add_zero, Nat.zero_add, Int.reduceEq, Int.reduceLT, ld_44, hh10.lda (nodeC_len ..), hh1a.lda (nodeC_len ..)]
      refine ⟨_, _, hca, ?_⟩
      try simp only [go_sem, Nat.reduceEqDiff, Nat.reduceLT, Nat.reduceAdd, Nat.reduceMul, Nat.reduceSub, Nat.add_zero, Nat.zero_add, Int.reduceEq, Int.reduceLT, ld_44, hh10.lda (nodeC_len ..), hh1a.lda (nodeC_len ..)]
      refine ⟨_, _, hcc, ?_⟩
      try simp only [go_sem, Nat.reduceEqDiff, Nat.reduceLT, Nat.reduceAdd, Nat.reduceMul, Nat.reduceSub, Nat.add_zero, Nat.zero_add, Int.reduceEq, Int.reduceLT, st_44, st_all (n := 3) (vs := nodeC (partN n 0 best).leaf wpa wka) h2c rfl rfl rfl (hna.one _), st_all (n := 3) (vs := nodeC (partN n best (cntN n)).leaf wpc wkc) h3c rfl rfl rfl (hnc.one _)]
      refine hK _ _ _ (by simp only [go_sem, Nat.reduceEqDiff, Nat.reduceLT, Nat.reduceAdd, Nat.reduceMul, Nat.reduceSub, Nat.add_zero, Nat.zero_add, Int.reduceEq, Int.reduceLT]; rfl) ?_; clear hK
      refine AWP.ret (?_)
      refine Fin.keep (v := .tuple #[.agg (nodeC (partN n 0 best).leaf wpa wka).toArray, .agg (nodeC (partN n best (cntN n)).leaf wpc wkc).toArray, .bool true]) (.inr rfl)
        (by simp only [go_sem, Nat.reduceEqDiff, Nat.reduceLT, Nat.reduceAdd, Nat.reduceMul, Nat.reduceSub, Nat.add_zero, Nat.zero_add, Int.reduceEq, Int.reduceLT, retV, resV, ld_44, h10.lda (nodeC_len ..), h11.lda (nodeC_len ..)]) ⟨g11, ?_⟩
      rw [eA, eB, eO]
      have hl1 := (hh2.grew hg0).2
      have hl2 := (hh3.grew hg0).2
      have hn1 := (((hna.grew hgc).put hl1 ⟨nodeC (partN n 0 best).leaf wpa wka, 44, true⟩).put hl2 ⟨nodeC (partN n best (cntN n)).leaf wpc wkc, 44, true⟩).base (hg3.trans hg0).next
      have hn2 := (((hnc.base hga.next).put hl1 ⟨nodeC (partN n 0 best).leaf wpa wka, 44, true⟩).put hl2 ⟨nodeC (partN n best (cntN n)).leaf wpc wkc, 44, true⟩).base (hg3.trans hg0).next
      exact ⟨wpa, wka, wpc, wkc, rfl, hn1, hn2⟩
end Go.Proofs.Ythheaehpnleiaaa.AX
