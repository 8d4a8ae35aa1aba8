/- The law's function 'NodeSplits': it answers 'true'. -/
import Derived.Test.YthheaehpnleiaaaNodeSplits18
import Derived.Test.YthheaehpnleiaaaNodeSplits15
namespace Go.Proofs.Ythheaehpnleiaaa.AX
open Go Go.Proofs
set_option maxRecDepth 100000
set_option linter.unusedVariables false
set_option linter.unusedSimpArgs false

/-! ### what a split's parts are like -/
theorem risingB_of : ∀ {l : List (List Int)}, (∀ (i : Nat) (h : i + 1 < l.length), lessB l[i] l[i + 1] = true) → risingB l = true
  | [], _ => rfl
  | [x], _ => rfl
  | x :: y :: l, h => by
    rw [risingB_two, show lessB x y = true from h 0 (by simp), Bool.true_and]
    exact risingB_of fun i hi => h (i + 1) (by simpa using hi)
theorem risingB_take {l : List (List Int)} (h : risingB l = true) (n : Nat) : risingB (l.take n) = true := risingB_of fun i hi => by
  have h2 : i + 1 < l.length := by rw [List.length_take] at hi; omega
  have := risingB_next h h2
  simpa using this
theorem risingB_drop {l : List (List Int)} (h : risingB l = true) (n : Nat) : risingB (l.drop n) = true := risingB_of fun i hi => by
  have h2 : n + i + 1 < l.length := by rw [List.length_drop] at hi; omega
  have := risingB_next h h2
  simpa [Nat.add_assoc] using this
theorem firstF_zero {l : List Kd} : firstF l = 0 ↔ ∀ k, k ∈ l → kdCode k = 0 := by
  induction l with
  | nil => simp [firstF]
  | cons a l ih =>
    rw [firstF]
    constructor
    · intro h
      split at h
      · rename_i h0
        intro k hk
        rcases List.mem_cons.1 hk with rfl | hk
        · exact h0
        · exact ih.1 h k hk
      · rename_i h0; exact absurd h h0
    · intro h
      rw [if_pos (h a List.mem_cons_self)]
      exact ih.2 fun k hk => h k (List.mem_cons_of_mem _ hk)
theorem partsF_zero {n : Node} : partsF n = 0 ↔ (∀ p, p ∈ n.pairs → prOk p = true) ∧ ∀ k, k ∈ n.kids → kdCode k = 0 := by
  unfold partsF
  split
  · rename_i h
    rw [firstF_zero]
    exact ⟨fun h2 => ⟨fun p hp => List.all_eq_true.1 h p hp, h2⟩, fun h2 => h2.2⟩
  · rename_i h
    constructor
    · intro h2; cases h2
    · intro h2
      exact absurd (List.all_eq_true.2 h2.1) h
/-- a node that may be, but for its size -/
structure FineN (n : Node) : Prop where
  form : formOk n = false
  parts : partsF n = 0
  rp : risingB (n.pairs.map Pr.key) = true
  rk : risingB (n.kids.map Kd.key) = true
theorem fine_of {n : Node} (h : checkN n = 0 ∨ checkN n = 16) : FineN n := by
  have hfirst : ∀ l : List Kd, firstF l = 0 ∨ firstF l = 17 ∨ firstF l = 2 := by
    intro l
    induction l with
    | nil => exact .inl rfl
    | cons a l ih =>
      rw [firstF]
      split
      · exact ih
      · unfold kdCode at *
        split at *
        · exact .inr (.inl (by simp_all))
        · split at *
          · exact .inr (.inr (by simp_all))
          · simp_all
  have hparts : partsF n = 0 ∨ partsF n = 17 ∨ partsF n = 2 := by
    unfold partsF
    split
    · exact hfirst _
    · exact .inr (.inl rfl)
  unfold checkN at h
  split at h
  · omega
  · rename_i hf
    split at h
    · rename_i hp
      split at h
      · rename_i hr
        rw [Bool.and_eq_true] at hr
        exact ⟨by simpa using hf, hp, hr.1, hr.2⟩
      · omega
    · omega
theorem check_of {n : Node} (h : FineN n) (hs : sizeF n ≤ 496) : checkN n = 0 := by
  unfold checkN
  rw [h.form, if_neg (by decide), if_pos h.parts, h.rp, h.rk, if_pos (by rfl), if_neg (by omega)]
theorem fine_part {n : Node} (h : FineN n) (a b : Nat) : FineN (partN n a b) := by
  have hp := partsF_zero.1 h.parts
  unfold partN
  split
  · refine ⟨by simp [formOk], partsF_zero.2 ⟨fun p hm => hp.1 p (mem_part hm), by simp⟩, ?_, rfl⟩
    simp only [List.map_take, List.map_drop]
    exact risingB_take (risingB_drop h.rp _) _
  · refine ⟨by simp [formOk], partsF_zero.2 ⟨by simp, fun k hm => hp.2 k (mem_part hm)⟩, rfl, ?_⟩
    simp only [List.map_take, List.map_drop]
    exact risingB_take (risingB_drop h.rk _) _
theorem cutSt_min {α : Type} {f : α → Int} {l : List α} (hf : ∀ a, a ∈ l → 0 ≤ f a) : ∀ k, mostF f l (cutSt f l k).1 ≤ (cutSt f l k).2 ∧ ∀ i, 1 ≤ i → i ≤ k → (cutSt f l k).2 ≤ mostF f l i := by
  intro k
  induction k with
  | zero =>
    refine ⟨?_, fun i h1 h2 => by omega⟩
    have := sumF_take_bound hf 1
    simp only [cutSt, mostF]; omega
  | succ k ih =>
    rw [cutSt]
    split
    · rename_i h
      refine ⟨Int.le_refl _, fun i h1 h2 => ?_⟩
      rcases Nat.lt_or_ge i (k + 1) with h3 | h3
      · have := ih.2 i h1 (by omega); simp only; omega
      · have : i = k + 1 := by omega
        subst this; exact Int.le_refl _
    · rename_i h
      refine ⟨ih.1, fun i h1 h2 => ?_⟩
      rcases Nat.lt_or_ge i (k + 1) with h3 | h3
      · exact ih.2 i h1 (by omega)
      · have : i = k + 1 := by omega
        subst this; omega
/-- what the last thing takes -/
def lastN (n : Node) : Int := if n.kids.length = 0 then (if n.pairs.length = 0 then 0 else ((n.pairs[n.pairs.length - 1]?).map prSz).getD 0) else ((n.kids[n.kids.length - 1]?).map kdSz).getD 0
theorem split_fine {n : Node} (h : FineN n) (hL : Lt18 n) (ho : splitOk n = true) (hs : sizeF n - lastN n ≤ 496) : checkN (splitA n) = 0 ∧ checkN (splitB n) = 0 := by
  have hge : ¬ n.pairs.length + n.kids.length < 2 := by rw [splitOk] at ho; simp at ho; omega
  have hp := partsF_zero.1 h.parts
  have hform := h.form
  cases hlf : n.leaf with
  | true =>
    have hk : n.kids = [] := by rw [formOk, hlf] at hform; simpa using hform
    have hlen : 2 ≤ n.pairs.length := by rw [hk] at hge; simp at hge; omega
    have hb := cutF_bound prSz hlen
    have hf : ∀ a, a ∈ n.pairs → 0 ≤ prSz a := fun a ha => (hL.pr a ha).1
    have hmin := cutSt_min hf (n.pairs.length - 1)
    have hm1 := hmin.2 (n.pairs.length - 1) (by omega) (Nat.le_refl _)
    have hmm : mostF prSz n.pairs (cutF prSz n.pairs) ≤ mostF prSz n.pairs (n.pairs.length - 1) := Int.le_trans hmin.1 hm1
    have hlt : n.pairs.length - 1 < n.pairs.length := by omega
    have hst := sumF_take prSz n.pairs hlt
    rw [show n.pairs.length - 1 + 1 = n.pairs.length by omega, List.take_length] at hst
    have hlast : lastN n = prSz n.pairs[n.pairs.length - 1] := by
      rw [lastN, if_pos (by rw [hk]; rfl), if_neg (by omega), List.getElem?_eq_getElem hlt]; rfl
    have hok := hp.1 _ (List.getElem_mem hlt)
    have hsz : prSz n.pairs[n.pairs.length - 1] ≤ 226 := by
      simp [prOk] at hok
      unfold prSz; omega
    have hsN : sizeF n = 3 + sumF prSz n.pairs := by rw [sizeF, hk]; simp [sumF]
    have hmost : 3 + mostF prSz n.pairs (cutF prSz n.pairs) ≤ 496 := by
      have : mostF prSz n.pairs (n.pairs.length - 1) ≤ 493 := by unfold mostF; omega
      omega
    rw [← mostN_leaf hlf (Nat.le_of_lt hb.2), mostN] at hmost
    have eA : splitA n = partN n 0 (cutF prSz n.pairs) := by rw [splitA, if_neg hge, hlf, if_pos rfl]
    have eB : splitB n = partN n (cutF prSz n.pairs) (cntN n) := by rw [splitB, if_neg hge, cntN, hlf, if_pos rfl, if_pos rfl]
    rw [eA, eB]
    exact ⟨check_of (fine_part h _ _) (by omega), check_of (fine_part h _ _) (by omega)⟩
  | false =>
    have hk : n.pairs = [] := by rw [formOk, hlf] at hform; simpa using hform
    have hlen : 2 ≤ n.kids.length := by rw [hk] at hge; simp at hge; omega
    have hb := cutF_bound kdSz hlen
    have hf : ∀ a, a ∈ n.kids → 0 ≤ kdSz a := fun a ha => (hL.kd a ha).1
    have hmin := cutSt_min hf (n.kids.length - 1)
    have hm1 := hmin.2 (n.kids.length - 1) (by omega) (Nat.le_refl _)
    have hmm : mostF kdSz n.kids (cutF kdSz n.kids) ≤ mostF kdSz n.kids (n.kids.length - 1) := Int.le_trans hmin.1 hm1
    have hlt : n.kids.length - 1 < n.kids.length := by omega
    have hst := sumF_take kdSz n.kids hlt
    rw [show n.kids.length - 1 + 1 = n.kids.length by omega, List.take_length] at hst
    have hlast : lastN n = kdSz n.kids[n.kids.length - 1] := by
      rw [lastN, if_neg (by omega), List.getElem?_eq_getElem hlt]; rfl
    have hok := hp.2 _ (List.getElem_mem hlt)
    have hsz : kdSz n.kids[n.kids.length - 1] ≤ 75 := by
      unfold kdCode at hok
      split at hok
      · cases hok
      · unfold kdSz; omega
    have hsN : sizeF n = 3 + sumF kdSz n.kids := by rw [sizeF, hk]; simp [sumF]
    have hmost : 3 + mostF kdSz n.kids (cutF kdSz n.kids) ≤ 496 := by
      have : mostF kdSz n.kids (n.kids.length - 1) ≤ 493 := by unfold mostF; omega
      omega
    rw [← mostN_kids hlf (Nat.le_of_lt hb.2), mostN] at hmost
    have eA : splitA n = partN n 0 (cutF kdSz n.kids) := by rw [splitA, if_neg hge, hlf, if_neg (by decide)]
    have eB : splitB n = partN n (cutF kdSz n.kids) (cntN n) := by rw [splitB, if_neg hge, cntN, hlf, if_neg (by decide), if_neg (by decide)]
    rw [eA, eB]
    exact ⟨check_of (fine_part h _ _) (by omega), check_of (fine_part h _ _) (by omega)⟩
theorem zero_lt18 : Lt18 zeroN := ⟨by decide, by decide, fun p hp => by simp [zeroN] at hp, fun p hp => by simp [zeroN] at hp, fun p hp => by simp [zeroN] at hp⟩
theorem splitA_lt {n : Node} (hL : Lt18 n) : Lt18 (splitA n) := by
  unfold splitA; split
  · exact zero_lt18
  · split <;> exact part_lt hL _ _
theorem splitB_lt {n : Node} (hL : Lt18 n) : Lt18 (splitB n) := by
  unfold splitB; split
  · exact zero_lt18
  · split <;> exact part_lt hL _ _
theorem splitA_node {M M1 : Mem} {n : Node} {vp vk wp wk : Value} (h : NewN M M1 (splitA n) wp wk) (hr : NodeR M1 n vp vk) : NodeR M1 (splitA n) wp wk := by
  have hz : ∀ z : Node, (∀ p, p ∈ z.pairs → p ∈ n.pairs) → (∀ p, p ∈ z.kids → p ∈ n.kids) → NewN M M1 z wp wk → NodeR M1 z wp wk := fun z h1 h2 h3 => h3.node (fun p hp => ⟨hr.pk p (h1 p hp), hr.pv p (h1 p hp)⟩) fun p hp => hr.kk p (h2 p hp)
  refine hz _ (fun p hp => ?_) (fun p hp => ?_) h
  · unfold splitA at hp; split at hp
    · simp [zeroN] at hp
    · split at hp <;> exact part_pairs hp
  · unfold splitA at hp; split at hp
    · simp [zeroN] at hp
    · split at hp <;> exact part_kids hp
theorem splitB_node {M M1 : Mem} {n : Node} {vp vk wp wk : Value} (h : NewN M M1 (splitB n) wp wk) (hr : NodeR M1 n vp vk) : NodeR M1 (splitB n) wp wk := by
  have hz : ∀ z : Node, (∀ p, p ∈ z.pairs → p ∈ n.pairs) → (∀ p, p ∈ z.kids → p ∈ n.kids) → NewN M M1 z wp wk → NodeR M1 z wp wk := fun z h1 h2 h3 => h3.node (fun p hp => ⟨hr.pk p (h1 p hp), hr.pv p (h1 p hp)⟩) fun p hp => hr.kk p (h2 p hp)
  refine hz _ (fun p hp => ?_) (fun p hp => ?_) h
  · unfold splitB at hp; split at hp
    · simp [zeroN] at hp
    · split at hp <;> exact part_pairs hp
  · unfold splitB at hp; split at hp
    · simp [zeroN] at hp
    · split at hp <;> exact part_kids hp
end Go.Proofs.Ythheaehpnleiaaa.AX

/- The law's function 'NodeSplits': it answers 'true'. -/
namespace Go.Proofs.Ythheaehpnleiaaa.AX
open Go Go.Proofs
set_option maxRecDepth 100000
set_option linter.unusedVariables false
set_option linter.unusedSimpArgs false

theorem law9_spec (n : Node) (vp vk : Value) (M : Mem) (hok : Ok M) (hr : NodeR M n vp vk) (hb : NodeB n) (hP : n.pairs = [] ∨ RowE M vp n.pairs.length (n.pairs.flatMap prC) 58) (hK : n.kids = [] ∨ RowE M vk n.kids.length (n.kids.flatMap kdC) 60) :
    ∃ r M', ACall Try.prog 9 #[.agg (nodeC n.leaf vp vk).toArray] M r M' ∧ r = .bool true ∧ M' = M := by
  refine ACall.fin (args := [.agg (nodeC n.leaf vp vk).toArray]) (k := 106) Try.func9 rfl rfl rfl (Nat.le_of_ble_eq_true rfl) ?_
  have hE : NodeE M n vp vk := ⟨hP, hK⟩
  refine AWP.stepR [1] fun K hK => ?_
  simp only [go_sem, Nat.reduceEqDiff, Nat.reduceLT, Nat.reduceAdd, Nat.reduceMul, Nat.reduceSub, Nat.add_zero, Nat.zero_add, Int.reduceEq, Int.reduceLT]
  refine hK _ _ _ (by simp only [go_sem, Nat.reduceEqDiff, Nat.reduceLT, Nat.reduceAdd, Nat.reduceMul, Nat.reduceSub, Nat.add_zero, Nat.zero_add, Int.reduceEq, Int.reduceLT]; rfl) ?_; clear hK
  have hlt1 : M.next < (M.bump 1).next := Nat.lt_succ_self _
  obtain ⟨hg1, hh1⟩ := mk_put ((Grew.refl M).bump 1) (Nat.le_refl _) hlt1 ⟨nodeC n.leaf vp vk, 44, true⟩
  change AWP _ _ _ ⟨_, (M.bump 1).put M.next ⟨nodeC n.leaf vp vk, 44, true⟩⟩ _
  generalize hM1 : (M.bump 1).put M.next ⟨nodeC n.leaf vp vk, 44, true⟩ = M1 at hg1 hh1
  have hr := hr.grew hg1
  have hE := hE.grew hg1
  obtain ⟨r2, M2, hc2, hr2, hM2⟩ := light20_spec n vp vk M1 (hg1.ok hok) hr
  rw [hr2, hM2, lightV] at hc2
  refine AWP.seq ?_
  refine AWP.stepR [1, 14] fun K hK => ?_
  simp only [go_sem, Nat.reduceEqDiff, Nat.reduceLT, Nat.reduceAdd, Nat.reduceMul, Nat.reduceSub, Nat.add_zero, Nat.zero_add, Int.reduceEq, Int.reduceLT, ld_44, hh1.lda (nodeC_len ..)]
  refine ⟨_, _, hc2, ?_⟩
  refine hK _ _ _ (by simp only [go_sem, Nat.reduceEqDiff, Nat.reduceLT, Nat.reduceAdd, Nat.reduceMul, Nat.reduceSub, Nat.add_zero, Nat.zero_add, Int.reduceEq, Int.reduceLT]; rfl) ?_; clear hK
  refine AWP.cond_split rfl (fun h14 => ?_) fun h14 => ?_
  · refine AWP.stepR [2] fun K hK => ?_
    simp only [go_sem, Nat.reduceEqDiff, Nat.reduceLT, Nat.reduceAdd, Nat.reduceMul, Nat.reduceSub, Nat.add_zero, Nat.zero_add, Int.reduceEq, Int.reduceLT]
    refine ⟨_, _, works21_spec _, ?_⟩
    refine hK _ _ _ (by simp only [go_sem, Nat.reduceEqDiff, Nat.reduceLT, Nat.reduceAdd, Nat.reduceMul, Nat.reduceSub, Nat.add_zero, Nat.zero_add, Int.reduceEq, Int.reduceLT]; rfl) ?_; clear hK
    refine AWP.ret (Then.ret (?_))
    exact Fin.plain (.inr rfl) rfl rfl hok hg1 ⟨rfl, rfl⟩
  · have hlight : lightN n = true := by
      cases hl : lightN n with
      | true => rfl
      | false => rw [hl] at h14; cases h14
    have hL := Lt18.of hlight
    have hlp := hL.pairs; have hlk := hL.kids
    obtain ⟨r3, M3, hc3, hr3, hM3⟩ := check27_spec n vp vk M1 (hg1.ok hok) hr hL
    rw [hr3, hM3] at hc3
    refine AWP.skip ?_
    refine AWP.stepR [1, 3] fun K hK => ?_
    simp only [go_sem, Nat.reduceEqDiff, Nat.reduceLT, Nat.reduceAdd, Nat.reduceMul, Nat.reduceSub, Nat.add_zero, Nat.zero_add, Int.reduceEq, Int.reduceLT, ld_44, hh1.lda (nodeC_len ..)]
    refine ⟨_, _, hc3, ?_⟩
    refine hK _ _ _ (by simp only [go_sem, Nat.reduceEqDiff, Nat.reduceLT, Nat.reduceAdd, Nat.reduceMul, Nat.reduceSub, Nat.add_zero, Nat.zero_add, Int.reduceEq, Int.reduceLT]; rfl) ?_; clear hK
    refine AWP.seq ?_
    refine AWP.stepX [1, 23] [(1, .pointer (some ⟨M.next, 0, none⟩)), (23, .bool (!(checkN n == 0) && !(checkN n == 16)))] M1 (fun K hK => ?_) ?_
    · cases h0 : (checkN n == 0) <;> simp only [go_sem, Nat.reduceEqDiff, Nat.reduceLT, Nat.reduceAdd, Nat.reduceMul, Nat.reduceSub, Nat.add_zero, Nat.zero_add, Int.reduceEq, Int.reduceLT, bne, h0, Bool.not_true, Bool.not_false] <;> refine hK _ ?_ <;> simp only [go_sem, Nat.reduceEqDiff, Nat.reduceLT, Nat.reduceAdd, Nat.reduceMul, Nat.reduceSub, Nat.add_zero, Nat.zero_add, Int.reduceEq, Int.reduceLT, h0, Bool.not_true, Bool.not_false, Bool.false_and, Bool.true_and]
    refine AWP.cond_split rfl (fun h23 => ?_) fun h23 => ?_
    · refine AWP.stepR [2] fun K hK => ?_
      simp only [go_sem, Nat.reduceEqDiff, Nat.reduceLT, Nat.reduceAdd, Nat.reduceMul, Nat.reduceSub, Nat.add_zero, Nat.zero_add, Int.reduceEq, Int.reduceLT]
      refine ⟨_, _, works21_spec _, ?_⟩
      refine hK _ _ _ (by simp only [go_sem, Nat.reduceEqDiff, Nat.reduceLT, Nat.reduceAdd, Nat.reduceMul, Nat.reduceSub, Nat.add_zero, Nat.zero_add, Int.reduceEq, Int.reduceLT]; rfl) ?_; clear hK
      refine AWP.ret (Then.ret (?_))
      exact Fin.plain (.inr rfl) rfl rfl hok hg1 ⟨rfl, rfl⟩
    · have hfine : FineN n := fine_of (by
        by_cases h0 : checkN n = 0
        · exact .inl h0
        · by_cases h1 : checkN n = 16
          · exact .inr h1
          · simp [h0, h1] at h23)
      refine AWP.skip ?_
      -- the program's split
      have gb1 := (Grew.refl M1).bump 2
      obtain ⟨r4, M4, hc4, hg4, wp1, wk1, wp2, wk2, hr4, hn1, hn2⟩ := split35_spec n vp vk (M1.bump 2) ((hg1.trans gb1).ok hok) (hr.grew gb1) (hE.grew gb1) hL hfine.form
      rw [hr4] at hc4
      have hl1 : M1.next < M4.next := Nat.lt_of_lt_of_le (show M1.next < (M1.bump 2).next by rw [Mem.next_bump]; omega) hg4.next
      have hl2 : M1.next + 1 < M4.next := Nat.lt_of_lt_of_le (show M1.next + 1 < (M1.bump 2).next by rw [Mem.next_bump]; omega) hg4.next
      have hg14 := gb1.trans hg4
      obtain ⟨ga, ha⟩ := mk_put hg14 (Nat.le_refl _) hl1 ⟨[.bool false, .slice none 0 0, .slice none 0 0], 44, true⟩
      obtain ⟨gb, hbb⟩ := mk_put ga (show M1.next ≤ M1.next + 1 by omega) hl2 ⟨[.bool false, .slice none 0 0, .slice none 0 0], 44, true⟩
      have ha := ha.put' (show M1.next ≠ M1.next + 1 by omega) ⟨[.bool false, .slice none 0 0, .slice none 0 0], 44, true⟩
      obtain ⟨gc, hcc⟩ := mk_put gb (Nat.le_refl _) ha.2 ⟨nodeC (splitA n).leaf wp1 wk1, 44, true⟩
      have hbb := hbb.put' (show M1.next + 1 ≠ M1.next by omega) ⟨nodeC (splitA n).leaf wp1 wk1, 44, true⟩
      obtain ⟨gd, hdd⟩ := mk_put gc (show M1.next ≤ M1.next + 1 by omega) hbb.2 ⟨nodeC (splitB n).leaf wp2 wk2, 44, true⟩
      have hcc := hcc.put' (show M1.next ≠ M1.next + 1 by omega) ⟨nodeC (splitB n).leaf wp2 wk2, 44, true⟩
      refine AWP.stepR [1, 4, 5, 6] fun K hK => ?_
      simp only [go_sem, Nat.reduceEqDiff, Nat.reduceLT, Nat.reduceAdd, Nat.reduceMul, Nat.reduceSub, Nat.add_zero, Nat.zero_add, Int.reduceEq, Int.reduceLT, ld_44, hh1.lda (nodeC_len ..)]
      refine ⟨_, _, hc4, ?_⟩
      try simp only [go_sem, Nat.reduceEqDiff, Nat.reduceLT, Nat.reduceAdd, Nat.reduceMul, Nat.reduceSub, Nat.add_zero, Nat.zero_add, Int.reduceEq, Int.reduceLT, extractV, st_44, st_all (n := 3) (vs := nodeC (splitA n).leaf wp1 wk1) ha rfl rfl rfl (hn1.one _), st_all (n := 3) (vs := nodeC (splitB n).leaf wp2 wk2) hbb rfl rfl rfl (hn2.one _)]
      refine hK _ _ _ (by simp only [go_sem, Nat.reduceEqDiff, Nat.reduceLT, Nat.reduceAdd, Nat.reduceMul, Nat.reduceSub, Nat.add_zero, Nat.zero_add, Int.reduceEq, Int.reduceLT]; rfl) ?_; clear hK
      have hq1 : M1.next < (M1.bump 2).next := by rw [Mem.next_bump]; omega
      have hq2 : M1.next + 1 < (M1.bump 2).next := by rw [Mem.next_bump]; omega
      have hn1 := (((hn1.put hq1 ⟨[.bool false, .slice none 0 0, .slice none 0 0], 44, true⟩).put hq2 ⟨[.bool false, .slice none 0 0, .slice none 0 0], 44, true⟩).put hq1 ⟨nodeC (splitA n).leaf wp1 wk1, 44, true⟩).put hq2 ⟨nodeC (splitB n).leaf wp2 wk2, 44, true⟩
      have hn2 := (((hn2.put hq1 ⟨[.bool false, .slice none 0 0, .slice none 0 0], 44, true⟩).put hq2 ⟨[.bool false, .slice none 0 0, .slice none 0 0], 44, true⟩).put hq1 ⟨nodeC (splitA n).leaf wp1 wk1, 44, true⟩).put hq2 ⟨nodeC (splitB n).leaf wp2 wk2, 44, true⟩
      clear ha hbb ga gb gc
      generalize (((M4.put M1.next ⟨[.bool false, .slice none 0 0, .slice none 0 0], 44, true⟩).put (M1.next + 1) ⟨[.bool false, .slice none 0 0, .slice none 0 0], 44, true⟩).put M1.next ⟨nodeC (splitA n).leaf wp1 wk1, 44, true⟩).put (M1.next + 1) ⟨nodeC (splitB n).leaf wp2 wk2, 44, true⟩ = M5 at gd hcc hdd hn1 hn2
      have hr5 := hr.grew gd
      have hE5 := hE.grew gd
      have hh5 := hh1.grew gd
      have hok5 := (hg1.trans gd).ok hok
      -- the document's split
      have gb5 := (Grew.refl M5).bump 2
      obtain ⟨r6, M6, hc6, hg6, xp1, xk1, xp2, xk2, hr6, hm1, hm2⟩ := split36_spec n vp vk (M5.bump 2) (gb5.ok hok5) (hr5.grew gb5) (hE5.grew gb5) hL hfine.form
      rw [hr6] at hc6
      have hl1 : M5.next < M6.next := Nat.lt_of_lt_of_le (show M5.next < (M5.bump 2).next by rw [Mem.next_bump]; omega) hg6.next
      have hl2 : M5.next + 1 < M6.next := Nat.lt_of_lt_of_le (show M5.next + 1 < (M5.bump 2).next by rw [Mem.next_bump]; omega) hg6.next
      have hg56 := gb5.trans hg6
      obtain ⟨ga, ha⟩ := mk_put hg56 (Nat.le_refl _) hl1 ⟨[.bool false, .slice none 0 0, .slice none 0 0], 44, true⟩
      obtain ⟨gb, hbb⟩ := mk_put ga (show M5.next ≤ M5.next + 1 by omega) hl2 ⟨[.bool false, .slice none 0 0, .slice none 0 0], 44, true⟩
      have ha := ha.put' (show M5.next ≠ M5.next + 1 by omega) ⟨[.bool false, .slice none 0 0, .slice none 0 0], 44, true⟩
      obtain ⟨gc, hee⟩ := mk_put gb (Nat.le_refl _) ha.2 ⟨nodeC (splitA n).leaf xp1 xk1, 44, true⟩
      have hbb := hbb.put' (show M5.next + 1 ≠ M5.next by omega) ⟨nodeC (splitA n).leaf xp1 xk1, 44, true⟩
      obtain ⟨ge, hff⟩ := mk_put gc (show M5.next ≤ M5.next + 1 by omega) hbb.2 ⟨nodeC (splitB n).leaf xp2 xk2, 44, true⟩
      have hee := hee.put' (show M5.next ≠ M5.next + 1 by omega) ⟨nodeC (splitB n).leaf xp2 xk2, 44, true⟩
      refine AWP.stepR [1, 4, 5, 6, 7, 8, 9] fun K hK => ?_
      simp only [go_sem, Nat.reduceEqDiff, Nat.reduceLT, Nat.reduceAdd, Nat.reduceMul, Nat.reduceSub, Nat.add_zero, Nat.zero_add, Int.reduceEq, Int.reduceLT, ld_44, hh5.lda (nodeC_len ..)]
      refine ⟨_, _, hc6, ?_⟩
      try simp only [go_sem, Nat.reduceEqDiff, Nat.reduceLT, Nat.reduceAdd, Nat.reduceMul, Nat.reduceSub, Nat.add_zero, Nat.zero_add, Int.reduceEq, Int.reduceLT, extractV, st_44, st_all (n := 3) (vs := nodeC (splitA n).leaf xp1 xk1) ha rfl rfl rfl (hm1.one _), st_all (n := 3) (vs := nodeC (splitB n).leaf xp2 xk2) hbb rfl rfl rfl (hm2.one _)]
      refine hK _ _ _ (by simp only [go_sem, Nat.reduceEqDiff, Nat.reduceLT, Nat.reduceAdd, Nat.reduceMul, Nat.reduceSub, Nat.add_zero, Nat.zero_add, Int.reduceEq, Int.reduceLT]; rfl) ?_; clear hK
      have hq1 : M5.next < (M5.bump 2).next := by rw [Mem.next_bump]; omega
      have hq2 : M5.next + 1 < (M5.bump 2).next := by rw [Mem.next_bump]; omega
      have hm1 := (((hm1.put hq1 ⟨[.bool false, .slice none 0 0, .slice none 0 0], 44, true⟩).put hq2 ⟨[.bool false, .slice none 0 0, .slice none 0 0], 44, true⟩).put hq1 ⟨nodeC (splitA n).leaf xp1 xk1, 44, true⟩).put hq2 ⟨nodeC (splitB n).leaf xp2 xk2, 44, true⟩
      have hm2 := (((hm2.put hq1 ⟨[.bool false, .slice none 0 0, .slice none 0 0], 44, true⟩).put hq2 ⟨[.bool false, .slice none 0 0, .slice none 0 0], 44, true⟩).put hq1 ⟨nodeC (splitA n).leaf xp1 xk1, 44, true⟩).put hq2 ⟨nodeC (splitB n).leaf xp2 xk2, 44, true⟩
      clear ha hbb ga gb gc
      generalize (((M6.put M5.next ⟨[.bool false, .slice none 0 0, .slice none 0 0], 44, true⟩).put (M5.next + 1) ⟨[.bool false, .slice none 0 0, .slice none 0 0], 44, true⟩).put M5.next ⟨nodeC (splitA n).leaf xp1 xk1, 44, true⟩).put (M5.next + 1) ⟨nodeC (splitB n).leaf xp2 xk2, 44, true⟩ = M7 at ge hee hff hm1 hm2
      have hr7 := hr5.grew ge
      have hh7 := hh5.grew ge
      have hcc := hcc.grew ge
      have hdd := hdd.grew ge
      have hn1 := hn1.grew ge
      have hn2 := hn2.grew ge
      have hok7 := ge.ok hok5
      have hg17 := hg1.trans (gd.trans ge)
      have hA1 := splitA_node hn1 hr7
      have hB1 := splitB_node hn2 hr7
      have hA2 := splitA_node hm1 hr7
      have hB2 := splitB_node hm2 hr7
      obtain ⟨r8, M8, hc8, hr8, hM8⟩ := same30_true (splitA n) (splitA n) wp1 wk1 xp1 xk1 M7 hok7 hA1 hA2 (splitA_lt hL) ⟨rfl, rfl, rfl⟩
      rw [hr8, hM8] at hc8
      obtain ⟨r9, M9, hc9, hr9, hM9⟩ := same30_true (splitB n) (splitB n) wp2 wk2 xp2 xk2 M7 hok7 hB1 hB2 (splitB_lt hL) ⟨rfl, rfl, rfl⟩
      rw [hr9, hM9] at hc9
      refine AWP.seq ?_
      generalize hso : splitOk n = so
      refine AWP.stepR [1, 4, 5, 6, 51] fun K hK => ?_
      simp only [go_sem, Nat.reduceEqDiff, Nat.reduceLT, Nat.reduceAdd, Nat.reduceMul, Nat.reduceSub, Nat.add_zero, Nat.zero_add, Int.reduceEq, Int.reduceLT, bnq_4, show (so == so) = true by cases so <;> rfl, Bool.not_true, ld_44, hcc.lda (nodeC_len ..), hee.lda (nodeC_len ..)]
      refine ⟨_, _, hc8, ?_⟩
      try simp only [go_sem, Nat.reduceEqDiff, Nat.reduceLT, Nat.reduceAdd, Nat.reduceMul, Nat.reduceSub, Nat.add_zero, Nat.zero_add, Int.reduceEq, Int.reduceLT, bnq_4, show (so == so) = true by cases so <;> rfl, Bool.not_true, ld_44, hdd.lda (nodeC_len ..), hff.lda (nodeC_len ..)]
      refine ⟨_, _, hc9, ?_⟩
      try simp only [go_sem, Nat.reduceEqDiff, Nat.reduceLT, Nat.reduceAdd, Nat.reduceMul, Nat.reduceSub, Nat.add_zero, Nat.zero_add, Int.reduceEq, Int.reduceLT, bnq_4, show (so == so) = true by cases so <;> rfl, Bool.not_true]
      refine hK _ _ _ (by simp only [go_sem, Nat.reduceEqDiff, Nat.reduceLT, Nat.reduceAdd, Nat.reduceMul, Nat.reduceSub, Nat.add_zero, Nat.zero_add, Int.reduceEq, Int.reduceLT]; rfl) ?_; clear hK
      refine AWP.cond_split rfl (fun h51 => ?_) fun h51 => ?_
      · cases h51
      · refine AWP.skip ?_
        refine AWP.stepR [1, 4, 5, 6, 10] fun K hK => ?_
        simp only [go_sem, Nat.reduceEqDiff, Nat.reduceLT, Nat.reduceAdd, Nat.reduceMul, Nat.reduceSub, Nat.add_zero, Nat.zero_add, Int.reduceEq, Int.reduceLT]
        refine hK _ _ _ (by simp only [go_sem, Nat.reduceEqDiff, Nat.reduceLT, Nat.reduceAdd, Nat.reduceMul, Nat.reduceSub, Nat.add_zero, Nat.zero_add, Int.reduceEq, Int.reduceLT]; rfl) ?_; clear hK
        refine AWP.seq ?_
        refine AWP.stepR [1, 4, 5, 6, 10, 55] fun K hK => ?_
        simp only [go_sem, Nat.reduceEqDiff, Nat.reduceLT, Nat.reduceAdd, Nat.reduceMul, Nat.reduceSub, Nat.add_zero, Nat.zero_add, Int.reduceEq, Int.reduceLT, ld_41, hh7.ld, nodeC, hr7.pairs.len es_41]
        refine hK _ _ _ (by simp only [go_sem, Nat.reduceEqDiff, Nat.reduceLT, Nat.reduceAdd, Nat.reduceMul, Nat.reduceSub, Nat.add_zero, Nat.zero_add, Int.reduceEq, Int.reduceLT]; rfl) ?_; clear hK
        have hN : ∀ l : Int, [(1, Value.pointer (some ⟨M.next, 0, none⟩)), (4, .pointer (some ⟨M1.next, 0, none⟩)), (5, .pointer (some ⟨M1.next + 1, 0, none⟩)), (6, .bool so), (10, .int .i64 l)] = [(1, Value.pointer (some ⟨M.next, 0, none⟩)), (4, .pointer (some ⟨M1.next, 0, none⟩)), (5, .pointer (some ⟨M1.next + 1, 0, none⟩)), (6, .bool so), (10, .int .i64 l)] := fun _ => rfl
        refine AWP.condG rfl [1, 4, 5, 6, 10] [(1, .pointer (some ⟨M.next, 0, none⟩)), (4, .pointer (some ⟨M1.next, 0, none⟩)), (5, .pointer (some ⟨M1.next + 1, 0, none⟩)), (6, .bool so), (10, .int .i64 (if n.pairs.length = 0 then 0 else ((n.pairs[n.pairs.length - 1]?).map prSz).getD 0))] (fun M' => Grew M7 M') (fun h55 => ?_) (fun h55 => ?_) fun Ma hga => ?_
        · have hlt : n.pairs.length - 1 < n.pairs.length := by simp at h55; omega
          obtain ⟨b, q, ha, hd⟩ := pr_at hr7.pairs hlt
          have hd := (hd M7 (Grew.refl _)).2.2
          have hx : PrOk M7 n.pairs[n.pairs.length - 1] := ⟨hr7.pk _ (List.getElem_mem hlt), hr7.pv _ (List.getElem_mem hlt)⟩
          have hbx := hL.pr _ (List.getElem_mem hlt)
          rw [if_neg (by omega), List.getElem?_eq_getElem hlt]
          simp only [Option.map_some, Option.getD_some]
          generalize n.pairs[n.pairs.length - 1] = x at hd hx hbx
          have hlt2 : M7.next < (M7.bump 1).next := Nat.lt_succ_self _
          refine AWP.stepR [1, 4, 5, 6, 11] fun K hK => ?_
          simp only [go_sem, Nat.reduceEqDiff, Nat.reduceLT, Nat.reduceAdd, Nat.reduceMul, Nat.reduceSub, Nat.add_zero, Nat.zero_add, Int.reduceEq, Int.reduceLT, ld_41, hh7.ld, nodeC, hr7.pairs.len es_41, i64w (n := ((n.pairs.length - 1 : Nat) : Int)) (by omega) (by omega), show (n.pairs.length : Int) - 1 = ((n.pairs.length - 1 : Nat) : Int) by omega, ha, ld_58, hd, st_fresh (M := M7.bump 1) (i := M7.next) (n := 2) (old := [.slice none 0 0, .slice none 0 0]) (vs := prC x) (e := 58) rfl rfl hx.one]
          refine hK _ _ _ (by simp only [go_sem, Nat.reduceEqDiff, Nat.reduceLT, Nat.reduceAdd, Nat.reduceMul, Nat.reduceSub, Nat.add_zero, Nat.zero_add, Int.reduceEq, Int.reduceLT]; rfl) ?_; clear hK
          have hg8 := (((Grew.refl M7).bump 1).put (Nat.le_refl _) hlt2 ⟨[.slice none 0 0, .slice none 0 0], 58, true⟩).put (Nat.le_refl _) hlt2 ⟨prC x, 58, true⟩
          have hh8 : Has (((M7.bump 1).put M7.next ⟨[.slice none 0 0, .slice none 0 0], 58, true⟩).put M7.next ⟨prC x, 58, true⟩) M7.next ⟨prC x, 58, true⟩ := Has.put (M := (M7.bump 1).put M7.next ⟨[.slice none 0 0, .slice none 0 0], 58, true⟩) hlt2 _
          generalize ((M7.bump 1).put M7.next ⟨[.slice none 0 0, .slice none 0 0], 58, true⟩).put M7.next ⟨prC x, 58, true⟩ = M10 at hg8 hh8
          have hx := hx.grew hg8
          refine AWP.lastR fun K hK => ?_
          simp only [go_sem, Nat.reduceEqDiff, Nat.reduceLT, Nat.reduceAdd, Nat.reduceMul, Nat.reduceSub, Nat.add_zero, Nat.zero_add, Int.reduceEq, Int.reduceLT, ld_23, hh8.ld, prC, hx.1.len es_23, hx.2.len es_23]
          refine hK _ _ ?_; clear hK
          refine ⟨?_, hg8⟩
          simp only [go_sem, Nat.reduceEqDiff, Nat.reduceLT, Nat.reduceAdd, Nat.reduceMul, Nat.reduceSub, Nat.add_zero, Nat.zero_add, Int.reduceEq, Int.reduceLT]
          unfold prSz at hbx ⊢
          rw [i64w (n := 2 + (x.key.length : Int)) (by omega) (by omega), i64w (by omega) (by omega)]
        · refine AWP.skip ?_
          refine ⟨?_, Grew.refl _⟩
          simp only [go_sem, Nat.reduceEqDiff, Nat.reduceLT, Nat.reduceAdd, Nat.reduceMul, Nat.reduceSub, Nat.add_zero, Nat.zero_add, Int.reduceEq, Int.reduceLT]
          rw [if_pos (by have := of_decide_eq_false h55; omega)]
        · generalize hl0 : (if n.pairs.length = 0 then (0 : Int) else ((n.pairs[n.pairs.length - 1]?).map prSz).getD 0) = l0
          have hra := hr7.grew hga
          have hha := hh7.grew hga
          refine AWP.seq ?_
          refine AWP.stepR [1, 4, 5, 6, 10, 75] fun K hK => ?_
          simp only [go_sem, Nat.reduceEqDiff, Nat.reduceLT, Nat.reduceAdd, Nat.reduceMul, Nat.reduceSub, Nat.add_zero, Nat.zero_add, Int.reduceEq, Int.reduceLT, ld_42, hha.ld, nodeC, hra.kids.len es_42]
          refine hK _ _ _ (by simp only [go_sem, Nat.reduceEqDiff, Nat.reduceLT, Nat.reduceAdd, Nat.reduceMul, Nat.reduceSub, Nat.add_zero, Nat.zero_add, Int.reduceEq, Int.reduceLT]; rfl) ?_; clear hK
          refine AWP.condG rfl [1, 4, 5, 6, 10] [(1, .pointer (some ⟨M.next, 0, none⟩)), (4, .pointer (some ⟨M1.next, 0, none⟩)), (5, .pointer (some ⟨M1.next + 1, 0, none⟩)), (6, .bool so), (10, .int .i64 (lastN n))] (fun M' => Grew Ma M') (fun h75 => ?_) (fun h75 => ?_) fun Mb hgb => ?_
          · have hlt : n.kids.length - 1 < n.kids.length := by simp at h75; omega
            obtain ⟨b, q, ha, hd⟩ := kd_at hra.kids hlt
            have hd := (hd Ma (Grew.refl _)).1
            have hx := hra.kk _ (List.getElem_mem hlt)
            have hbx := hL.kd _ (List.getElem_mem hlt)
            rw [lastN, if_neg (by omega), List.getElem?_eq_getElem hlt]
            simp only [Option.map_some, Option.getD_some]
            generalize n.kids[n.kids.length - 1] = x at hd hx hbx
            refine AWP.lastR fun K hK => ?_
            simp only [go_sem, Nat.reduceEqDiff, Nat.reduceLT, Nat.reduceAdd, Nat.reduceMul, Nat.reduceSub, Nat.add_zero, Nat.zero_add, Int.reduceEq, Int.reduceLT, ld_42, hha.ld, nodeC, hra.kids.len es_42, i64w (n := ((n.kids.length - 1 : Nat) : Int)) (by omega) (by omega), show (n.kids.length : Int) - 1 = ((n.kids.length - 1 : Nat) : Int) by omega, ha, ld_23, hd, Row_.len hx es_23]
            refine hK _ _ ?_; clear hK
            refine ⟨?_, Grew.refl _⟩
            simp only [go_sem, Nat.reduceEqDiff, Nat.reduceLT, Nat.reduceAdd, Nat.reduceMul, Nat.reduceSub, Nat.add_zero, Nat.zero_add, Int.reduceEq, Int.reduceLT]
            unfold kdSz at hbx ⊢
            rw [i64w (by omega) (by omega)]
          · refine AWP.skip ?_
            refine ⟨?_, Grew.refl _⟩
            simp only [go_sem, Nat.reduceEqDiff, Nat.reduceLT, Nat.reduceAdd, Nat.reduceMul, Nat.reduceSub, Nat.add_zero, Nat.zero_add, Int.reduceEq, Int.reduceLT]
            rw [lastN, if_pos (by have := of_decide_eq_false h75; omega), hl0]
          · have hgab := hga.trans hgb
            have hrb := hr7.grew hgab
            have hhb := hh7.grew hgab
            have hccb := hcc.grew hgab
            have hddb := hdd.grew hgab
            have hokb := hgab.ok hok7
            obtain ⟨rs, Ms, hcs, hrs, hMs⟩ := size29_spec n vp vk Mb hokb hrb hL
            rw [hrs, hMs] at hcs
            obtain ⟨rt, Mt, hct, hrt, hMt⟩ := check27_spec (splitA n) wp1 wk1 Mb hokb (hA1.grew hgab) (splitA_lt hL)
            rw [hrt, hMt] at hct
            obtain ⟨ru, Mu, hcu, hru, hMu⟩ := check27_spec (splitB n) wp2 wk2 Mb hokb (hB1.grew hgab) (splitB_lt hL)
            rw [hru, hMu] at hcu
            have hsb := size_bound hL
            have hlb : 0 ≤ lastN n ∧ lastN n ≤ 1000 := by
              unfold lastN
              split
              · split
                · omega
                · rename_i h1 h2
                  have hlt : n.pairs.length - 1 < n.pairs.length := by omega
                  rw [List.getElem?_eq_getElem hlt]
                  exact hL.pr _ (List.getElem_mem hlt)
              · rename_i h1
                have hlt : n.kids.length - 1 < n.kids.length := by omega
                rw [List.getElem?_eq_getElem hlt]
                exact hL.kd _ (List.getElem_mem hlt)
            refine AWP.seq ?_
            refine AWP.stepX [104] [(104, .bool false)] Mb (fun K hK => ?_) ?_
            · cases so with
              | false =>
                simp only [go_sem, Nat.reduceEqDiff, Nat.reduceLT, Nat.reduceAdd, Nat.reduceMul, Nat.reduceSub, Nat.add_zero, Nat.zero_add, Int.reduceEq, Int.reduceLT]
                refine hK _ ?_
                simp only [go_sem, Nat.reduceEqDiff, Nat.reduceLT, Nat.reduceAdd, Nat.reduceMul, Nat.reduceSub, Nat.add_zero, Nat.zero_add, Int.reduceEq, Int.reduceLT]
              | true =>
                by_cases hle : sizeF n - lastN n ≤ 496
                · obtain ⟨eA, eB⟩ := split_fine hfine hL hso hle
                  rw [eA] at hct
                  rw [eB] at hcu
                  simp only [go_sem, Nat.reduceEqDiff, Nat.reduceLT, Nat.reduceAdd, Nat.reduceMul, Nat.reduceSub, Nat.add_zero, Nat.zero_add, Int.reduceEq, Int.reduceLT, ld_44, hhb.lda (nodeC_len ..)]
                  refine ⟨_, _, hcs, ?_⟩
                  simp only [go_sem, Nat.reduceEqDiff, Nat.reduceLT, Nat.reduceAdd, Nat.reduceMul, Nat.reduceSub, Nat.add_zero, Nat.zero_add, Int.reduceEq, Int.reduceLT, i64w (n := sizeF n - lastN n) (by omega) (by omega), decide_eq_true hle, ld_44, hccb.lda (nodeC_len ..)]
                  refine ⟨_, _, hct, ?_⟩
                  simp only [go_sem, Nat.reduceEqDiff, Nat.reduceLT, Nat.reduceAdd, Nat.reduceMul, Nat.reduceSub, Nat.add_zero, Nat.zero_add, Int.reduceEq, Int.reduceLT, bne_self_eq_false, ld_44, hddb.lda (nodeC_len ..)]
                  refine ⟨_, _, hcu, ?_⟩
                  try simp only [go_sem, Nat.reduceEqDiff, Nat.reduceLT, Nat.reduceAdd, Nat.reduceMul, Nat.reduceSub, Nat.add_zero, Nat.zero_add, Int.reduceEq, Int.reduceLT, bne_self_eq_false]
                  refine hK _ ?_
                  simp only [go_sem, Nat.reduceEqDiff, Nat.reduceLT, Nat.reduceAdd, Nat.reduceMul, Nat.reduceSub, Nat.add_zero, Nat.zero_add, Int.reduceEq, Int.reduceLT, bne_self_eq_false]
                · simp only [go_sem, Nat.reduceEqDiff, Nat.reduceLT, Nat.reduceAdd, Nat.reduceMul, Nat.reduceSub, Nat.add_zero, Nat.zero_add, Int.reduceEq, Int.reduceLT, ld_44, hhb.lda (nodeC_len ..)]
                  refine ⟨_, _, hcs, ?_⟩
                  simp only [go_sem, Nat.reduceEqDiff, Nat.reduceLT, Nat.reduceAdd, Nat.reduceMul, Nat.reduceSub, Nat.add_zero, Nat.zero_add, Int.reduceEq, Int.reduceLT, i64w (n := sizeF n - lastN n) (by omega) (by omega), decide_eq_false hle]
                  refine hK _ ?_
                  simp only [go_sem, Nat.reduceEqDiff, Nat.reduceLT, Nat.reduceAdd, Nat.reduceMul, Nat.reduceSub, Nat.add_zero, Nat.zero_add, Int.reduceEq, Int.reduceLT]
            refine AWP.cond_split rfl (fun h104 => ?_) fun h104 => ?_
            · cases h104
            · refine AWP.skip ?_
              refine AWP.stepR [2] fun K hK => ?_
              simp only [go_sem, Nat.reduceEqDiff, Nat.reduceLT, Nat.reduceAdd, Nat.reduceMul, Nat.reduceSub, Nat.add_zero, Nat.zero_add, Int.reduceEq, Int.reduceLT]
              refine ⟨_, _, works21_spec _, ?_⟩
              refine hK _ _ _ (by simp only [go_sem, Nat.reduceEqDiff, Nat.reduceLT, Nat.reduceAdd, Nat.reduceMul, Nat.reduceSub, Nat.add_zero, Nat.zero_add, Int.reduceEq, Int.reduceLT]; rfl) ?_; clear hK
              refine AWP.ret (?_)
              exact Fin.plain (.inr rfl) rfl rfl hok (hg17.trans hgab) ⟨rfl, rfl⟩
end Go.Proofs.Ythheaehpnleiaaa.AX
