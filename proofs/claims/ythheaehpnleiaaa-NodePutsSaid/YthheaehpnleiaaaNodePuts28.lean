/- node.Get: the walk. -/
import Derived.Test.YthheaehpnleiaaaNodePuts27
namespace Go.Proofs.Ythheaehpnleiaaa.AX
open Go Go.Proofs
set_option maxRecDepth 100000
set_option linter.unusedVariables false
set_option linter.unusedSimpArgs false

def ptr (i : Nat) : Value := .pointer (some ⟨i, 0, none⟩)
theorem updM_ne {m : Mm} {i j : Nat} {b : Blk} (h : i ≠ j) : updM m j b i = m i := by rw [updM, if_neg h]
theorem updM_eq {m : Mm} {i : Nat} {b : Blk} : updM m i b i = some b := by rw [updM, if_pos rfl]
theorem cntE (n : Int) (h : 0 ≤ n) : ∃ c : Nat, n = c := ⟨n.toNat, by omega⟩
theorem numS_code {s : Rs} {k : Int} (h0 : s.code = 0) (h1 : 0 ≤ k) (h2 : k ≤ s.b.length) : (numS s k).1 = ⟨s.b.drop k.toNat, 0⟩ := by rw [numS, takeS_on h0 h1 h2]
theorem zNode (M : Mem) : NodeR M ⟨false, [], []⟩ (.slice none 0 0) (.slice none 0 0) :=
  ⟨.inl ⟨rfl, rfl, .inl rfl⟩, .inl ⟨rfl, rfl, .inl rfl⟩, fun p hp => (by cases hp), fun p hp => (by cases hp), fun p hp => (by cases hp)⟩
theorem zN_all {M : Mem} {j : Nat} (h : Has M j ⟨zN, 44, true⟩) {vs : List Value} (hl : vs.length = 3) (ho : oneCells vs = true) : stV M j 0 3 (.agg vs.toArray) = some (M.put j ⟨vs, 44, true⟩) := st_all (n := 3) h rfl rfl hl ho

theorem get24_spec (v : Value) (b : List Int) (M : Mem) (hok : Ok M) (hv : RowB M v b) (hb : BytB b) (hlb : b.length ≤ 1000000) :
    ∃ r M', ACall Try.prog 24 #[v] M r M' ∧ Grew M M' ∧ ∃ n vp vk, r = .tuple #[.agg (nodeC n.leaf vp vk).toArray, .int .i64 (getF b).2] ∧ NodeR M' n vp vk ∧ NodeP.of n = (getF b).1 := by
  refine ACall.fin (args := [v]) (k := 108) (rs := [.cell 2 44, .tmp 3]) Try.func24 rfl rfl rfl (Nat.le_of_ble_eq_true rfl) ?_
  refine AWP.stepR [0, 2] fun K hK => ?_
  simp only [go_sem, Nat.reduceEqDiff, Nat.reduceLT, Nat.reduceAdd, Nat.reduceMul, Nat.reduceSub, Nat.add_zero, Nat.zero_add, Int.reduceEq, Int.reduceLT]
  refine hK _ _ _ (by simp only [go_sem, Nat.reduceEqDiff, Nat.reduceLT, Nat.reduceAdd, Nat.reduceMul, Nat.reduceSub, Nat.add_zero, Nat.zero_add, Int.reduceEq, Int.reduceLT]; rfl) ?_; clear hK
  have hlt1 : M.next < (M.bump 1).next := Nat.lt_succ_self _
  obtain ⟨hg1, hh1⟩ := mk_put ((Grew.refl M).bump 1) (Nat.le_refl _) hlt1 ⟨zN, 44, true⟩
  change AWP _ _ _ ⟨_, (M.bump 1).put M.next ⟨zN, 44, true⟩⟩ _
  generalize hM1 : (M.bump 1).put M.next ⟨zN, 44, true⟩ = M1 at hg1 hh1
  refine AWP.seq ?_
  refine AWP.stepR [0, 2, 17] fun K hK => ?_
  simp only [go_sem, Nat.reduceEqDiff, Nat.reduceLT, Nat.reduceAdd, Nat.reduceMul, Nat.reduceSub, Nat.add_zero, Nat.zero_add, Int.reduceEq, Int.reduceLT, hv.len es_23]
  refine hK _ _ _ (by simp only [go_sem, Nat.reduceEqDiff, Nat.reduceLT, Nat.reduceAdd, Nat.reduceMul, Nat.reduceSub, Nat.add_zero, Nat.zero_add, Int.reduceEq, Int.reduceLT]; rfl) ?_; clear hK
  refine AWP.cond_split rfl (fun h17 => ?_) fun h17 => ?_
  · have hne : ¬ (b.length : Int) = 496 := by simpa using h17
    refine AWP.stepR [2, 3] fun K hK => ?_
    simp only [go_sem, Nat.reduceEqDiff, Nat.reduceLT, Nat.reduceAdd, Nat.reduceMul, Nat.reduceSub, Nat.add_zero, Nat.zero_add, Int.reduceEq, Int.reduceLT, bd_44z, st_44, zN_all hh1 (vs := [.bool false, .slice none 0 0, .slice none 0 0]) rfl rfl]
    refine hK _ _ _ (by simp only [go_sem, Nat.reduceEqDiff, Nat.reduceLT, Nat.reduceAdd, Nat.reduceMul, Nat.reduceSub, Nat.add_zero, Nat.zero_add, Int.reduceEq, Int.reduceLT]; rfl) ?_; clear hK
    obtain ⟨hgz, hhz⟩ := mk_put hg1 (Nat.le_refl _) hh1.2 ⟨[.bool false, .slice none 0 0, .slice none 0 0], 44, true⟩
    refine AWP.ret (Then.ret (?_))
    refine Fin.keep (v := .tuple #[.agg zN.toArray, .int .i64 17]) (.inr rfl) (by simp only [go_sem, Nat.reduceEqDiff, Nat.reduceLT, Nat.reduceAdd, Nat.reduceMul, Nat.reduceSub, Nat.add_zero, Nat.zero_add, Int.reduceEq, Int.reduceLT, retV, resV, ld_44, hhz.lda (show ([.bool false, .slice none 0 0, .slice none 0 0] : List Value).length = 3 from rfl)]; rfl) ⟨hgz, ⟨false, [], []⟩, .slice none 0 0, .slice none 0 0, ?_, zNode _, ?_⟩
    · rw [getF, if_neg hne]; rfl
    · rw [getF, if_neg hne]; rfl
  · have hl496 : (b.length : Int) = 496 := by simpa using h17
    refine AWP.skip ?_
    obtain ⟨r3, M3, hc3, hg3, p, rfl, hp3, hs3⟩ := read48_spec v b M1 (hg1.ok hok) (hv.grew hg1) (by omega)
    refine AWP.stepR [2, 4] fun K hK => ?_
    simp only [go_sem, Nat.reduceEqDiff, Nat.reduceLT, Nat.reduceAdd, Nat.reduceMul, Nat.reduceSub, Nat.add_zero, Nat.zero_add, Int.reduceEq, Int.reduceLT]
    refine ⟨_, _, hc3, ?_⟩
    refine hK _ _ _ (by simp only [go_sem, Nat.reduceEqDiff, Nat.reduceLT, Nat.reduceAdd, Nat.reduceMul, Nat.reduceSub, Nat.add_zero, Nat.zero_add, Int.reduceEq, Int.reduceLT]; rfl) ?_; clear hK
    have hg03 := hg1.trans hg3
    have hL3 : Lo M3.next M3 p (fun j => j ≤ M1.next + 1 ∨ M3.next ≤ j) ⟨b, 0⟩ (updM (fun _ => none) M.next ⟨zN, 44, true⟩) (fun _ => False) := by
      refine ⟨hg03.ok hok, Nat.le_refl _, hs3.lt, hs3, fun j h => .inr h, fun i b' hi => ?_, fun r h => h.elim, fun a b h => h.elim⟩
      have hn1 := hg1.next
      unfold updM at hi
      split at hi
      · rename_i hij; cases hi; subst hij
        exact ⟨hh1.grew hg3, by omega, .inl (by omega), fun r h => h.elim⟩
      · cases hi
    generalize hD : (fun j => j ≤ M1.next + 1 ∨ M3.next ≤ j) = D at hL3
    have hMp : M.next ≤ p := by have := hg1.next; omega
    have hM3n : M.next ≤ M3.next := hg03.next
    have hM3l : M.next < M3.next := by have := hg3.next; have := hh1.2; omega
    clear hs3 hD
    obtain ⟨ra, Ma, hca, hga, hLa, rfl⟩ := hL3.num 1 (by simp only; omega) hb (by omega)
    have hba := numS_bytes (s := ⟨b, 0⟩) hb 1
    have hla := numS_len ⟨b, 0⟩ 1
    obtain ⟨rb, Mb, hcb, hgb, hLb, rfl⟩ := hLa.num 2 (by simp only at hla; omega) hba (by omega)
    have hbb := numS_bytes (s := (numS ⟨b, 0⟩ 1).1) hba 2
    have hg0b : Grew M Mb := GrewX.grew hg03 (hga.trans hgb) hMp
    have hfb1 := numS_b1 (s := ⟨b, 0⟩) hb
    have hfb2 := numS_b2 hba
    have hs0 : (numS (numS ⟨b, 0⟩ 1).1 2).1 = ⟨b.drop 3, 0⟩ := by
      rw [numS_code (s := ⟨b, 0⟩) rfl (by omega) (by simp only; omega), numS_code rfl (by omega) (by simp only [List.length_drop]; omega)]
      simp
    refine AWP.stepR [2, 4, 5, 6] fun K hK => ?_
    simp only [go_sem, Nat.reduceEqDiff, Nat.reduceLT, Nat.reduceAdd, Nat.reduceMul, Nat.reduceSub, Nat.add_zero, Nat.zero_add, Int.reduceEq, Int.reduceLT]
    refine ⟨_, _, hca, ?_⟩
    refine ⟨_, _, hcb, ?_⟩
    refine hK _ _ _ (by simp only [go_sem, Nat.reduceEqDiff, Nat.reduceLT, Nat.reduceAdd, Nat.reduceMul, Nat.reduceSub, Nat.add_zero, Nat.zero_add, Int.reduceEq, Int.reduceLT]; rfl) ?_; clear hK
    have hgetF : getF b = if (numS ⟨b, 0⟩ 1).2 > 1 then (zP, 4) else endF (thingsF ((numS ⟨b, 0⟩ 1).2 == 1) (numS (numS ⟨b, 0⟩ 1).1 2).2.toNat (numS (numS ⟨b, 0⟩ 1).1 2).1) := by rw [getF, if_pos hl496]
    rw [hs0] at hLb hbb hgetF
    generalize (numS ⟨b, 0⟩ 1).2 = leafn at hfb1 hgetF
    obtain ⟨cnt, hcnt⟩ := cntE _ hfb2.1
    rw [hcnt] at hfb2 hgetF
    rw [hcnt]
    rw [Int.toNat_natCast] at hgetF
    clear hca hcb hcnt hga hgb hLa hba hla
    refine AWP.seq ?_
    refine AWP.stepR [2, 4, 5, 6, 26] fun K hK => ?_
    simp only [go_sem, Nat.reduceEqDiff, Nat.reduceLT, Nat.reduceAdd, Nat.reduceMul, Nat.reduceSub, Nat.add_zero, Nat.zero_add, Int.reduceEq, Int.reduceLT]
    refine hK _ _ _ (by simp only [go_sem, Nat.reduceEqDiff, Nat.reduceLT, Nat.reduceAdd, Nat.reduceMul, Nat.reduceSub, Nat.add_zero, Nat.zero_add, Int.reduceEq, Int.reduceLT]; rfl) ?_; clear hK
    refine AWP.cond_split rfl (fun h26 => ?_) fun h26 => ?_
    · have hgt : leafn > 1 := by simpa using h26
      have hh2 := (hLb.fx M.next _ (by rw [updM, if_pos rfl])).1
      refine AWP.stepR [2, 3] fun K hK => ?_
      simp only [go_sem, Nat.reduceEqDiff, Nat.reduceLT, Nat.reduceAdd, Nat.reduceMul, Nat.reduceSub, Nat.add_zero, Nat.zero_add, Int.reduceEq, Int.reduceLT, bd_44z, st_44, zN_all hh2 (vs := [.bool false, .slice none 0 0, .slice none 0 0]) rfl rfl]
      refine hK _ _ _ (by simp only [go_sem, Nat.reduceEqDiff, Nat.reduceLT, Nat.reduceAdd, Nat.reduceMul, Nat.reduceSub, Nat.add_zero, Nat.zero_add, Int.reduceEq, Int.reduceLT]; rfl) ?_; clear hK
      obtain ⟨hgz, hhz⟩ := mk_put hg0b (Nat.le_refl _) hh2.2 ⟨[.bool false, .slice none 0 0, .slice none 0 0], 44, true⟩
      refine AWP.ret (Then.ret (?_))
      refine Fin.keep (v := .tuple #[.agg zN.toArray, .int .i64 4]) (.inr rfl) (by simp only [go_sem, Nat.reduceEqDiff, Nat.reduceLT, Nat.reduceAdd, Nat.reduceMul, Nat.reduceSub, Nat.add_zero, Nat.zero_add, Int.reduceEq, Int.reduceLT, retV, resV, ld_44, hhz.lda (show ([.bool false, .slice none 0 0, .slice none 0 0] : List Value).length = 3 from rfl)]; rfl) ⟨hgz, ⟨false, [], []⟩, .slice none 0 0, .slice none 0 0, ?_, zNode _, ?_⟩
      · rw [hgetF, if_pos hgt]; rfl
      · rw [hgetF, if_pos hgt]; rfl
    · have hgt : ¬ leafn > 1 := by simpa using h26
      rw [if_neg hgt] at hgetF
      refine AWP.skip ?_
      -- the node's block
      have hlt7 : Mb.next < (Mb.bump 1).next := Nat.lt_succ_self _
      obtain ⟨_, hL7⟩ := hLb.box (M1 := Mb.bump 1) (GrewX.refl _ _) (hLb.grow ((Grew.refl Mb).bump 1)) hLb.none1 ⟨zN, 44, true⟩
      have hL7 := hL7.set (j := Mb.next) (b0 := ⟨zN, 44, true⟩) (by rw [updM, if_pos rfl]) ⟨nodeC (leafn == 1) (.slice none 0 0) (.slice none 0 0), 44, true⟩
      have hg07 : Grew M (((Mb.bump 1).put Mb.next ⟨zN, 44, true⟩).put Mb.next ⟨nodeC (leafn == 1) (.slice none 0 0) (.slice none 0 0), 44, true⟩) := ((hg0b.bump 1).put hg0b.next hlt7 _).put hg0b.next hlt7 _
      refine AWP.stepR [2, 4, 6, 7] fun K hK => ?_
      simp only [go_sem, Nat.reduceEqDiff, Nat.reduceLT, Nat.reduceAdd, Nat.reduceMul, Nat.reduceSub, Nat.add_zero, Nat.zero_add, Int.reduceEq, Int.reduceLT, bd_44, st_fresh (M := Mb.bump 1) (i := Mb.next) (n := 3) (old := [.bool false, .slice none 0 0, .slice none 0 0]) (vs := [.bool (leafn == 1), .slice none 0 0, .slice none 0 0]) (e := 44) rfl rfl rfl]
      refine hK _ _ _ (by simp only [go_sem, Nat.reduceEqDiff, Nat.reduceLT, Nat.reduceAdd, Nat.reduceMul, Nat.reduceSub, Nat.add_zero, Nat.zero_add, Int.reduceEq, Int.reduceLT]; rfl) ?_; clear hK
      change AWP _ _ _ ⟨_, ((Mb.bump 1).put Mb.next ⟨zN, 44, true⟩).put Mb.next ⟨nodeC (leafn == 1) (.slice none 0 0) (.slice none 0 0), 44, true⟩⟩ _
      generalize hleaf : (leafn == 1) = leaf at hL7 hg07 hgetF
      have hM7 : Mb.next < (((Mb.bump 1).put Mb.next ⟨zN, 44, true⟩).put Mb.next ⟨nodeC leaf (.slice none 0 0) (.slice none 0 0), 44, true⟩).next := hlt7
      generalize ((Mb.bump 1).put Mb.next ⟨zN, 44, true⟩).put Mb.next ⟨nodeC leaf (.slice none 0 0) (.slice none 0 0), 44, true⟩ = M7 at hL7 hg07 hM7
      have hc7 : M3.next ≤ Mb.next := hLb.next
      generalize hc7e : Mb.next = c7 at hL7 hc7 hM7
      have hL7 : Lo M3.next M7 p D ⟨b.drop 3, 0⟩ (fxN M.next c7 leaf (.slice none 0 0) (.slice none 0 0)) (HN [] [] (.slice none 0 0) (.slice none 0 0)) := by
        have h1 := hL7.add (Mb := M7) (r := ⟨.slice none 0 0, 0, [], 58⟩) (Own.nil _ _ _) hL7.next (fun i b hi => Apart.nil _) (fun a ha => ha.elim)
        have h2 := h1.add (Mb := M7) (r := ⟨.slice none 0 0, 0, [], 60⟩) (Own.nil _ _ _) h1.next (fun i b hi => Apart.nil _) (fun a ha => Sep.nil _)
        refine h2.less (fun i b hi => ?_) fun r hr => ?_
        · rw [fxN, updM] at hi
          rw [updM]
          split at hi
          · rename_i h; rw [if_pos h]; exact hi
          · rename_i h; rw [if_neg h, updM, if_neg h]; exact hi
        · rcases hr with rfl | rfl | ⟨x, hx, _⟩ | ⟨x, hx, _⟩
          · exact .inr (.inl rfl)
          · exact .inl rfl
          · cases hx
          · cases hx
      have hne27 : M.next ≠ c7 := by omega
      have hI0 : GI leaf cnt ⟨b.drop 3, 0⟩ cnt ⟨b.drop 3, 0⟩ [] [] := by
        unfold GI
        split
        · exact ⟨rfl, by simp, fun _ => by simp only [sumF, List.length_drop]; omega⟩
        · exact ⟨rfl, by simp, fun _ => by simp only [sumF, List.length_drop]; omega⟩
      have hl493 : (⟨b.drop 3, 0⟩ : Rs).b.length ≤ 493 := by simp only [List.length_drop]; omega
      generalize (⟨b.drop 3, 0⟩ : Rs) = s0 at hI0 hgetF hL7 hbb hl493
      clear hLb hg0b hs0 hlt7 hleaf hgt hc7e
      refine AWP.seq ?_
      refine AWP.stepR [2, 4, 6, 7, 8] fun K hK => ?_
      simp only [go_sem, Nat.reduceEqDiff, Nat.reduceLT, Nat.reduceAdd, Nat.reduceMul, Nat.reduceSub, Nat.add_zero, Nat.zero_add, Int.reduceEq, Int.reduceLT]
      refine hK _ _ _ (by simp only [go_sem, Nat.reduceEqDiff, Nat.reduceLT, Nat.reduceAdd, Nat.reduceMul, Nat.reduceSub, Nat.add_zero, Nat.zero_add, Int.reduceEq, Int.reduceLT]; rfl) ?_; clear hK
      refine AWP.block ?_ -- b0
      refine AWP.loopK [2, 4, 6, 7, 8] (fun c e M2 => c ≤ cnt ∧ Grew M M2 ∧ ∃ s l m vp vk, l.length + m.length ≤ cnt - c ∧ Lo M3.next M2 p D s (fxN M.next c7 leaf vp vk) (HN l m vp vk) ∧ GI leaf cnt s0 c s l m ∧ NodeB ⟨leaf, l, m⟩ ∧ BytB s.b ∧ s.b.length ≤ 493 ∧ e = [(2, .pointer (some ⟨M.next, 0, none⟩)), (4, .pointer (some ⟨p, 0, none⟩)), (6, .int .u64 cnt), (7, .pointer (some ⟨c7, 0, none⟩)), (8, .int .u64 ((cnt - c : Nat) : Int))]) cnt ?_ fun c e M2 hI => ?_ -- LOOP
      · simp only [go_sem, Nat.reduceEqDiff, Nat.reduceLT, Nat.reduceAdd, Nat.reduceMul, Nat.reduceSub, Nat.add_zero, Nat.zero_add, Int.reduceEq, Int.reduceLT, Nat.le_refl]
        exact ⟨hg07, s0, [], [], _, _, by simp, hL7, hI0, ⟨fun p hp => (by cases hp), fun p hp => (by cases hp), fun p hp => (by cases hp)⟩, hbb, hl493, by simp⟩
      obtain ⟨hcc, hg0, s, l, m, vp, vk, hlm, hL, hGI, hNB, hbs, hls, rfl⟩ := hI
      refine AWP.seq ?_
      obtain ⟨r9, M9, hc9, hr9, hM9⟩ := code55_spec p D s M2 hL.ok hL.rd
      rw [hr9, hM9] at hc9
      refine AWP.stepX [2, 4, 6, 7, 8, 38] [(2, .pointer (some ⟨M.next, 0, none⟩)), (4, .pointer (some ⟨p, 0, none⟩)), (6, .int .u64 cnt), (7, .pointer (some ⟨c7, 0, none⟩)), (8, .int .u64 ((cnt - c : Nat) : Int)), (38, .bool (decide (0 < c ∧ s.code = 0)))] M2 (fun K hK => ?_) ?_
      · by_cases h0 : 0 < c
        · simp only [go_sem, Nat.reduceEqDiff, Nat.reduceLT, Nat.reduceAdd, Nat.reduceMul, Nat.reduceSub, Nat.add_zero, Nat.zero_add, Int.reduceEq, Int.reduceLT, show decide (((cnt - c : Nat) : Int) < (cnt : Int)) = true by simp; omega]
          refine ⟨_, _, hc9, ?_⟩
          try simp only [go_sem, Nat.reduceEqDiff, Nat.reduceLT, Nat.reduceAdd, Nat.reduceMul, Nat.reduceSub, Nat.add_zero, Nat.zero_add, Int.reduceEq, Int.reduceLT]
          refine hK _ ?_
          simp only [go_sem, Nat.reduceEqDiff, Nat.reduceLT, Nat.reduceAdd, Nat.reduceMul, Nat.reduceSub, Nat.add_zero, Nat.zero_add, Int.reduceEq, Int.reduceLT]
          rw [show decide (0 < c ∧ s.code = 0) = (s.code == 0) by by_cases h : s.code = 0 <;> simp [h, h0]]
        · simp only [go_sem, Nat.reduceEqDiff, Nat.reduceLT, Nat.reduceAdd, Nat.reduceMul, Nat.reduceSub, Nat.add_zero, Nat.zero_add, Int.reduceEq, Int.reduceLT, show decide (((cnt - c : Nat) : Int) < (cnt : Int)) = false by simp; omega]
          refine hK _ ?_
          simp only [go_sem, Nat.reduceEqDiff, Nat.reduceLT, Nat.reduceAdd, Nat.reduceMul, Nat.reduceSub, Nat.add_zero, Nat.zero_add, Int.reduceEq, Int.reduceLT]
          rw [show decide (0 < c ∧ s.code = 0) = false by simp [h0]]
      refine AWP.cond_split rfl (fun h38 => ?_) fun h38 => ?_
      · have h38' : 0 < c ∧ s.code = 0 := by simpa using h38
        obtain ⟨h0, hcode⟩ := h38'
        refine AWP.skip ?_
        refine AWP.seq ?_
        refine AWP.block ?_ -- b1
        refine AWP.seq ?_
        refine AWP.stepR [2, 4, 6, 7, 8, 42] fun K hK => ?_
        simp only [go_sem, Nat.reduceEqDiff, Nat.reduceLT, Nat.reduceAdd, Nat.reduceMul, Nat.reduceSub, Nat.add_zero, Nat.zero_add, Int.reduceEq, Int.reduceLT, ld_4, (hL.fx c7 _ (fx7 _ _ _ _ _)).1.ld, nodeC]
        refine hK _ _ _ (by simp only [go_sem, Nat.reduceEqDiff, Nat.reduceLT, Nat.reduceAdd, Nat.reduceMul, Nat.reduceSub, Nat.add_zero, Nat.zero_add, Int.reduceEq, Int.reduceLT]; rfl) ?_; clear hK
        refine AWP.cond_split rfl (fun h42 => ?_) fun h42 => ?_
        · skip
          subst h42
          have hc7m := (hL.fx c7 _ (fx7 _ _ _ _ _)).1.2
          obtain ⟨ra, Ma', hca, hga, hLa, rfl⟩ := hL.num 1 (by omega) hbs (by omega)
          have hba := numS_bytes hbs 1; have hla := numS_len s 1; have hna := numS_b1 hbs
          obtain ⟨rb, Mb', hcb, hgb, hLb, rfl⟩ := hLa.num 1 (by omega) hba (by omega)
          have hbb' := numS_bytes hba 1; have hlb' := numS_len (numS s 1).1 1; have hnb := numS_b1 hba
          have hg0b := GrewX.grew hg0 (hga.trans hgb) hMp
          refine AWP.stepR [2, 4, 6, 7, 8, 9, 10] fun K hK => ?_
          simp only [go_sem, Nat.reduceEqDiff, Nat.reduceLT, Nat.reduceAdd, Nat.reduceMul, Nat.reduceSub, Nat.add_zero, Nat.zero_add, Int.reduceEq, Int.reduceLT]
          refine ⟨_, _, hca, ?_⟩
          try simp only [go_sem, Nat.reduceEqDiff, Nat.reduceLT, Nat.reduceAdd, Nat.reduceMul, Nat.reduceSub, Nat.add_zero, Nat.zero_add, Int.reduceEq, Int.reduceLT, i64w (n := (numS s 1).2) (by omega) (by omega)]
          refine ⟨_, _, hcb, ?_⟩
          try simp only [go_sem, Nat.reduceEqDiff, Nat.reduceLT, Nat.reduceAdd, Nat.reduceMul, Nat.reduceSub, Nat.add_zero, Nat.zero_add, Int.reduceEq, Int.reduceLT, i64w (n := (numS (numS s 1).1 1).2) (by omega) (by omega)]
          refine hK _ _ _ (by simp only [go_sem, Nat.reduceEqDiff, Nat.reduceLT, Nat.reduceAdd, Nat.reduceMul, Nat.reduceSub, Nat.add_zero, Nat.zero_add, Int.reduceEq, Int.reduceLT]; rfl) ?_; clear hK
          have hc7b := (hLb.fx c7 _ (fx7 _ _ _ _ _)).1.2
          have hNb := hLb.next
          have hLb1 := hLb.grow ((Grew.refl Mb').bump 1)
          obtain ⟨rk, Mk, hck, hgk, hokk, hLk⟩ := hLb1.bytes (numS s 1).2 (by omega)
          obtain ⟨hltk, hLj⟩ := hLb.box hgk hLk (fun r hr => hr.elim (fun h => .inr (h ▸ hokk.apart (.inl (by rw [Mem.next_bump]; omega)))) .inl) ⟨[.slice none 0 0, .slice none 0 0], 58, true⟩
          have hLj := hLj.set (j := Mb'.next) (b0 := ⟨[.slice none 0 0, .slice none 0 0], 58, true⟩) updM_eq ⟨[rk, .slice none 0 0], 58, true⟩
          have hgk0 : Grew M Mk := GrewX.grew hg0b ((((Grew.refl _).bump 1).x p).trans hgk) hMp
          have hg0j : Grew M ((Mk.put Mb'.next ⟨[.slice none 0 0, .slice none 0 0], 58, true⟩).put Mb'.next ⟨[rk, .slice none 0 0], 58, true⟩) := (hgk0.put (by omega) hltk _).put (by omega) hltk _
          refine AWP.stepR [2, 4, 6, 7, 8, 10, 11] fun K hK => ?_
          simp only [go_sem, Nat.reduceEqDiff, Nat.reduceLT, Nat.reduceAdd, Nat.reduceMul, Nat.reduceSub, Nat.add_zero, Nat.zero_add, Int.reduceEq, Int.reduceLT]
          refine ⟨_, _, hck, ?_⟩
          try simp only [go_sem, Nat.reduceEqDiff, Nat.reduceLT, Nat.reduceAdd, Nat.reduceMul, Nat.reduceSub, Nat.add_zero, Nat.zero_add, Int.reduceEq, Int.reduceLT, bd_58 hokk.row.one, st_fresh (M := Mk) (i := Mb'.next) (n := 2) (old := [.slice none 0 0, .slice none 0 0]) (vs := [rk, .slice none 0 0]) (e := 58) rfl rfl (by simp only [oneCells, List.all_cons, List.all_nil, hokk.row.one]; rfl)]
          refine hK _ _ _ (by simp only [go_sem, Nat.reduceEqDiff, Nat.reduceLT, Nat.reduceAdd, Nat.reduceMul, Nat.reduceSub, Nat.add_zero, Nat.zero_add, Int.reduceEq, Int.reduceLT]; rfl) ?_; clear hK
          generalize (Mk.put Mb'.next ⟨[.slice none 0 0, .slice none 0 0], 58, true⟩).put Mb'.next ⟨[rk, .slice none 0 0], 58, true⟩ = Mj at hLj hg0j
          have hbk := takeS_bytes hbb' (numS s 1).2
          have hlk := takeS_len (numS (numS s 1).1 1).1 (numS s 1).2
          obtain ⟨rv, Mv, hcv, hgv, hov, hLv⟩ := hLj.bytes (numS (numS s 1).1 1).2 (by omega)
          have hbv := takeS_bytes hbk.1 (numS (numS s 1).1 1).2
          have hj := (hLv.fx Mb'.next _ updM_eq).1
          have hg0v : Grew M Mv := GrewX.grew hg0j hgv hMp
          have hLw := hLv.set (j := Mb'.next) updM_eq ⟨[rk, rv], 58, true⟩
          have hg0w : Grew M (Mv.put Mb'.next ⟨[rk, rv], 58, true⟩) := hg0v.put (by omega) hj.2 _
          refine AWP.stepR [2, 4, 6, 7, 8, 11] fun K hK => ?_
          simp only [go_sem, Nat.reduceEqDiff, Nat.reduceLT, Nat.reduceAdd, Nat.reduceMul, Nat.reduceSub, Nat.add_zero, Nat.zero_add, Int.reduceEq, Int.reduceLT]
          refine ⟨_, _, hcv, ?_⟩
          try simp only [go_sem, Nat.reduceEqDiff, Nat.reduceLT, Nat.reduceAdd, Nat.reduceMul, Nat.reduceSub, Nat.add_zero, Nat.zero_add, Int.reduceEq, Int.reduceLT, st_23, st_cell hj rfl (show 1 < 2 by decide) hov.row.one]
          refine hK _ _ _ (by simp only [go_sem, Nat.reduceEqDiff, Nat.reduceLT, Nat.reduceAdd, Nat.reduceMul, Nat.reduceSub, Nat.add_zero, Nat.zero_add, Int.reduceEq, Int.reduceLT]; rfl) ?_; clear hK
          change AWP _ _ _ ⟨_, Mv.put Mb'.next ⟨[rk, rv], 58, true⟩⟩ _
          generalize Mv.put Mb'.next ⟨[rk, rv], 58, true⟩ = Mw at hLw hg0w
          have hw7 := (hLw.fx c7 _ (by rw [updM_ne (by omega), updM_ne (by omega), updM_ne (by omega), fx7])).1
          have hwj := (hLw.fx Mb'.next _ updM_eq).1
          have hc7w := hw7.2
          obtain ⟨_, hL2⟩ := hLw.box (M1 := Mw.bump 1) (GrewX.refl _ _) (hLw.grow ((Grew.refl _).bump 1)) hLw.none1 ⟨[rk, rv], 58, true⟩
          have hNw := hLw.next
          have hg02 : Grew M ((Mw.bump 1).put Mw.next ⟨[rk, rv], 58, true⟩) := (hg0w.bump 1).put (by omega) (Nat.lt_succ_self _) _
          have hn2 : ((Mw.bump 1).put Mw.next ⟨[rk, rv], 58, true⟩).next = Mw.next + 1 := rfl
          generalize hX2 : (Mw.bump 1).put Mw.next ⟨[rk, rv], 58, true⟩ = X2 at hL2 hg02 hn2
          have hx2 := (hL2.fx Mw.next _ updM_eq).1
          obtain ⟨v2, X3, happ, hnx3, hkeep, _, hL3'⟩ := hL2.append ap_41_41 (v := vp) (n := l.length) (cells := l.flatMap prC) (.inr (.inr (.inl rfl))) (flatMap_len prC_len l) (hx2.content 2 1 1 rfl) (by simp only [oneCells, List.all_cons, List.all_nil, hokk.row.one, hov.row.one]; rfl) (by omega)
          have h73 := (hL3'.fx c7 _ (by rw [updM_ne (by omega), updM_ne (by omega), updM_ne (by omega), updM_ne (by omega), fx7])).1
          have hv2 := (hL3'.rows _ (.inl rfl)).row.one
          have hL4 := hL3'.set (j := c7) (by rw [updM_ne (by omega), updM_ne (by omega), updM_ne (by omega), updM_ne (by omega), fx7]) ⟨[.bool true, v2, vk], 44, true⟩
          have hg03' : Grew M X3 := ⟨fun i hi => (hkeep i (by omega)).trans (hg02.keep i hi), Nat.le_trans hg02.next hnx3, fun _ => hL3'.ok⟩
          have hg04 : Grew M (X3.put c7 ⟨[.bool true, v2, vk], 44, true⟩) := hg03'.put (by omega) h73.2 _
          refine AWP.stepR [2, 4, 6, 7, 8] fun K hK => ?_
          simp only [go_sem, Nat.reduceEqDiff, Nat.reduceLT, Nat.reduceAdd, Nat.reduceMul, Nat.reduceSub, Nat.add_zero, Nat.zero_add, Int.reduceEq, Int.reduceLT, ld_41, hw7.ld, nodeC, ld_58, hwj.lda (show ([rk, rv] : List Value).length = 2 from rfl), bs1_41 hokk.row.one hov.row.one, hX2, happ, st_41, st_cell h73 rfl (show 1 < 3 by decide) hv2]
          refine hK _ _ _ (by simp only [go_sem, Nat.reduceEqDiff, Nat.reduceLT, Nat.reduceAdd, Nat.reduceMul, Nat.reduceSub, Nat.add_zero, Nat.zero_add, Int.reduceEq, Int.reduceLT]; rfl) ?_; clear hK
          refine AWP.exit (Then.exit (InBlock.same ?_)) -- x1
          refine AWP.lastR fun K hK => ?_
          simp only [go_sem, Nat.reduceEqDiff, Nat.reduceLT, Nat.reduceAdd, Nat.reduceMul, Nat.reduceSub, Nat.add_zero, Nat.zero_add, Int.reduceEq, Int.reduceLT]
          refine hK _ _ ?_; clear hK
          change Then _ _ _ ⟨_, X3.put c7 ⟨[.bool true, v2, vk], 44, true⟩⟩
          refine ⟨c - 1, by omega, by omega, hg04, (prP s).1, l ++ [⟨rk, rv, (prP s).2.1, (prP s).2.2⟩], m, v2, vk, by simp; omega, hL4.less (fun i b' hi => ?_) (fun r hr => ?_), hGI.stepP h0 hcode rfl, ⟨?_, ?_, hNB.kk⟩, (prP_bytes hbs).1, Nat.le_trans (prP_le s) hls, ?_⟩ -- ROUND
          · rw [fxN, updM] at hi
            rw [updM]
            split at hi
            · rename_i h; rw [if_pos h]; exact hi
            · rename_i h
              rw [if_neg h]
              rw [updM] at hi
              split at hi
              · rename_i h2; subst h2
                rw [updM_ne (by omega), updM_ne (by omega), updM_ne (by omega), updM_ne (by omega), fx2 hne27]; exact hi
              · cases hi
          · exact hr.addP
          · intro q hq; rcases List.mem_append.1 hq with hq | hq
            · exact hNB.pk q hq
            · rw [List.mem_singleton.1 hq]; exact (prP_bytes hbs).2.1
          · intro q hq; rcases List.mem_append.1 hq with hq | hq
            · exact hNB.pv q hq
            · rw [List.mem_singleton.1 hq]; exact (prP_bytes hbs).2.2
          · simp only [go_sem, Nat.reduceEqDiff, Nat.reduceLT, Nat.reduceAdd, Nat.reduceMul, Nat.reduceSub, Nat.add_zero, Nat.zero_add, Int.reduceEq, Int.reduceLT]
            rw [u64w (by omega) (by omega), show ((cnt - c : Nat) : Int) + 1 = ((cnt - (c - 1) : Nat) : Int) by omega]
        · refine AWP.skip ?_
          subst h42
          have hc7m := (hL.fx c7 _ (fx7 _ _ _ _ _)).1.2
          obtain ⟨ra, Ma', hca, hga, hLa, rfl⟩ := hL.num 1 (by omega) hbs (by omega)
          have hba := numS_bytes hbs 1; have hla := numS_len s 1; have hna := numS_b1 hbs
          refine AWP.stepR [2, 4, 6, 7, 8, 12] fun K hK => ?_
          simp only [go_sem, Nat.reduceEqDiff, Nat.reduceLT, Nat.reduceAdd, Nat.reduceMul, Nat.reduceSub, Nat.add_zero, Nat.zero_add, Int.reduceEq, Int.reduceLT]
          refine ⟨_, _, hca, ?_⟩
          try simp only [go_sem, Nat.reduceEqDiff, Nat.reduceLT, Nat.reduceAdd, Nat.reduceMul, Nat.reduceSub, Nat.add_zero, Nat.zero_add, Int.reduceEq, Int.reduceLT, i64w (n := (numS s 1).2) (by omega) (by omega)]
          refine hK _ _ _ (by simp only [go_sem, Nat.reduceEqDiff, Nat.reduceLT, Nat.reduceAdd, Nat.reduceMul, Nat.reduceSub, Nat.add_zero, Nat.zero_add, Int.reduceEq, Int.reduceLT]; rfl) ?_; clear hK
          have hc7b := (hLa.fx c7 _ (fx7 _ _ _ _ _)).1.2
          have hNb := hLa.next
          have hg0a := GrewX.grew hg0 hga hMp
          have hLa1 := hLa.grow ((Grew.refl Ma').bump 1)
          obtain ⟨rb, Mb', hcb, hgb, hLb, rfl⟩ := hLa1.num 2 (by omega) hba (by omega)
          have hbb' := numS_bytes hba 2; have hlb' := numS_len (numS s 1).1 2; have hnb := numS_b2 hba
          obtain ⟨rc, Mk, hcc', hgc, hLk, rfl⟩ := hLb.num 8 (by omega) hbb' (by omega)
          have hbc := numS_bytes hbb' 8; have hlc := numS_len (numS (numS s 1).1 2).1 8; have hnc := numS_b8 hbb'
          have hcap : 0 ≤ capE (numS (numS (numS s 1).1 2).1 8).2 ∧ capE (numS (numS (numS s 1).1 2).1 8).2 ≤ 4611686018427387904 := by unfold capE; split <;> omega
          obtain ⟨hltk, hLj⟩ := hLa.box (hgb.trans hgc) hLk hLa.none1 ⟨[.slice none 0 0, .int .i64 0, .int .i64 0], 60, true⟩
          have hLj := hLj.set (j := Ma'.next) updM_eq ⟨[.slice none 0 0, .int .i64 (numS (numS s 1).1 2).2, .int .i64 (capE (numS (numS (numS s 1).1 2).1 8).2)], 60, true⟩
          have hgk0 : Grew M Mk := GrewX.grew hg0a ((((Grew.refl _).bump 1).x p).trans (hgb.trans hgc)) hMp
          have hg0j : Grew M ((Mk.put Ma'.next ⟨[.slice none 0 0, .int .i64 0, .int .i64 0], 60, true⟩).put Ma'.next ⟨[.slice none 0 0, .int .i64 (numS (numS s 1).1 2).2, .int .i64 (capE (numS (numS (numS s 1).1 2).1 8).2)], 60, true⟩) := (hgk0.put (by omega) hltk _).put (by omega) hltk _
          refine AWP.stepR [2, 4, 6, 7, 8, 12, 13] fun K hK => ?_
          simp only [go_sem, Nat.reduceEqDiff, Nat.reduceLT, Nat.reduceAdd, Nat.reduceMul, Nat.reduceSub, Nat.add_zero, Nat.zero_add, Int.reduceEq, Int.reduceLT]
          refine ⟨_, _, hcb, ?_⟩
          try simp only [go_sem, Nat.reduceEqDiff, Nat.reduceLT, Nat.reduceAdd, Nat.reduceMul, Nat.reduceSub, Nat.add_zero, Nat.zero_add, Int.reduceEq, Int.reduceLT, i64w (n := (numS (numS s 1).1 2).2) (by omega) (by omega)]
          refine ⟨_, _, hcc', ?_⟩
          try simp only [go_sem, Nat.reduceEqDiff, Nat.reduceLT, Nat.reduceAdd, Nat.reduceMul, Nat.reduceSub, Nat.add_zero, Nat.zero_add, Int.reduceEq, Int.reduceLT, extremeV, cond_false, cond_true, show ∀ e : Int, (if (4611686018427387904 : Int) < e then 4611686018427387904 else e) = capE e from fun _ => rfl, show ∀ e : Int, (if e > (4611686018427387904 : Int) then 4611686018427387904 else e) = capE e from fun _ => rfl, i64w (n := capE (numS (numS (numS s 1).1 2).1 8).2) (by omega) (by omega), bd_60, st_fresh (M := Mk) (i := Ma'.next) (n := 3) (old := [.slice none 0 0, .int .i64 0, .int .i64 0]) (vs := [.slice none 0 0, .int .i64 (numS (numS s 1).1 2).2, .int .i64 (capE (numS (numS (numS s 1).1 2).1 8).2)]) (e := 60) rfl rfl rfl]
          refine hK _ _ _ (by simp only [go_sem, Nat.reduceEqDiff, Nat.reduceLT, Nat.reduceAdd, Nat.reduceMul, Nat.reduceSub, Nat.add_zero, Nat.zero_add, Int.reduceEq, Int.reduceLT]; rfl) ?_; clear hK
          generalize (Mk.put Ma'.next ⟨[.slice none 0 0, .int .i64 0, .int .i64 0], 60, true⟩).put Ma'.next ⟨[.slice none 0 0, .int .i64 (numS (numS s 1).1 2).2, .int .i64 (capE (numS (numS (numS s 1).1 2).1 8).2)], 60, true⟩ = Mj at hLj hg0j
          obtain ⟨rk, Mv, hcv, hgv, hokk, hLv⟩ := hLj.bytes (numS s 1).2 (by omega)
          have hbv := takeS_bytes hbc (numS s 1).2
          have hj := (hLv.fx Ma'.next _ updM_eq).1
          have hg0v : Grew M Mv := GrewX.grew hg0j hgv hMp
          have hLw := hLv.set (j := Ma'.next) updM_eq ⟨[rk, .int .i64 (numS (numS s 1).1 2).2, .int .i64 (capE (numS (numS (numS s 1).1 2).1 8).2)], 60, true⟩
          have hg0w : Grew M (Mv.put Ma'.next ⟨[rk, .int .i64 (numS (numS s 1).1 2).2, .int .i64 (capE (numS (numS (numS s 1).1 2).1 8).2)], 60, true⟩) := hg0v.put (by omega) hj.2 _
          refine AWP.stepR [2, 4, 6, 7, 8, 13] fun K hK => ?_
          simp only [go_sem, Nat.reduceEqDiff, Nat.reduceLT, Nat.reduceAdd, Nat.reduceMul, Nat.reduceSub, Nat.add_zero, Nat.zero_add, Int.reduceEq, Int.reduceLT]
          refine ⟨_, _, hcv, ?_⟩
          try simp only [go_sem, Nat.reduceEqDiff, Nat.reduceLT, Nat.reduceAdd, Nat.reduceMul, Nat.reduceSub, Nat.add_zero, Nat.zero_add, Int.reduceEq, Int.reduceLT, st_23, st_cell hj rfl (show 0 < 3 by decide) hokk.row.one]
          refine hK _ _ _ (by simp only [go_sem, Nat.reduceEqDiff, Nat.reduceLT, Nat.reduceAdd, Nat.reduceMul, Nat.reduceSub, Nat.add_zero, Nat.zero_add, Int.reduceEq, Int.reduceLT]; rfl) ?_; clear hK
          change AWP _ _ _ ⟨_, Mv.put Ma'.next ⟨[rk, .int .i64 (numS (numS s 1).1 2).2, .int .i64 (capE (numS (numS (numS s 1).1 2).1 8).2)], 60, true⟩⟩ _
          generalize Mv.put Ma'.next ⟨[rk, .int .i64 (numS (numS s 1).1 2).2, .int .i64 (capE (numS (numS (numS s 1).1 2).1 8).2)], 60, true⟩ = Mw at hLw hg0w
          have hw7 := (hLw.fx c7 _ (by rw [updM_ne (by omega), updM_ne (by omega), updM_ne (by omega), fx7])).1
          have hwj := (hLw.fx Ma'.next _ updM_eq).1
          have hc7w := hw7.2
          obtain ⟨_, hL2⟩ := hLw.box (M1 := Mw.bump 1) (GrewX.refl _ _) (hLw.grow ((Grew.refl _).bump 1)) hLw.none1 ⟨[rk, .int .i64 (numS (numS s 1).1 2).2, .int .i64 (capE (numS (numS (numS s 1).1 2).1 8).2)], 60, true⟩
          have hNw := hLw.next
          have hg02 : Grew M ((Mw.bump 1).put Mw.next ⟨[rk, .int .i64 (numS (numS s 1).1 2).2, .int .i64 (capE (numS (numS (numS s 1).1 2).1 8).2)], 60, true⟩) := (hg0w.bump 1).put (by omega) (Nat.lt_succ_self _) _
          have hn2 : ((Mw.bump 1).put Mw.next ⟨[rk, .int .i64 (numS (numS s 1).1 2).2, .int .i64 (capE (numS (numS (numS s 1).1 2).1 8).2)], 60, true⟩).next = Mw.next + 1 := rfl
          generalize hX2 : (Mw.bump 1).put Mw.next ⟨[rk, .int .i64 (numS (numS s 1).1 2).2, .int .i64 (capE (numS (numS (numS s 1).1 2).1 8).2)], 60, true⟩ = X2 at hL2 hg02 hn2
          have hx2 := (hL2.fx Mw.next _ updM_eq).1
          obtain ⟨v2, X3, happ, hnx3, hkeep, _, hL3'⟩ := hL2.append ap_42_42 (v := vk) (n := m.length) (cells := m.flatMap kdC) (.inr (.inr (.inl rfl))) (flatMap_len kdC_len m) (hx2.content 3 1 1 rfl) (by simp only [oneCells, List.all_cons, List.all_nil, hokk.row.one]; rfl) (by omega)
          have h73 := (hL3'.fx c7 _ (by rw [updM_ne (by omega), updM_ne (by omega), updM_ne (by omega), updM_ne (by omega), fx7])).1
          have hv2 := (hL3'.rows _ (.inl rfl)).row.one
          have hL4 := hL3'.set (j := c7) (by rw [updM_ne (by omega), updM_ne (by omega), updM_ne (by omega), updM_ne (by omega), fx7]) ⟨[.bool false, vp, v2], 44, true⟩
          have hg03' : Grew M X3 := ⟨fun i hi => (hkeep i (by omega)).trans (hg02.keep i hi), Nat.le_trans hg02.next hnx3, fun _ => hL3'.ok⟩
          have hg04 : Grew M (X3.put c7 ⟨[.bool false, vp, v2], 44, true⟩) := hg03'.put (by omega) h73.2 _
          refine AWP.lastR fun K hK => ?_
          simp only [go_sem, Nat.reduceEqDiff, Nat.reduceLT, Nat.reduceAdd, Nat.reduceMul, Nat.reduceSub, Nat.add_zero, Nat.zero_add, Int.reduceEq, Int.reduceLT, ld_42, hw7.ld, nodeC, ld_60, hwj.lda (show ([rk, .int .i64 (numS (numS s 1).1 2).2, .int .i64 (capE (numS (numS (numS s 1).1 2).1 8).2)] : List Value).length = 3 from rfl), bs1_42 hokk.row.one (numS (numS s 1).1 2).2 (capE (numS (numS (numS s 1).1 2).1 8).2), hX2, happ, st_42, st_cell h73 rfl (show 2 < 3 by decide) hv2]
          refine hK _ _ ?_; clear hK
          refine AWP.lastR fun K hK => ?_
          simp only [go_sem, Nat.reduceEqDiff, Nat.reduceLT, Nat.reduceAdd, Nat.reduceMul, Nat.reduceSub, Nat.add_zero, Nat.zero_add, Int.reduceEq, Int.reduceLT]
          refine hK _ _ ?_; clear hK
          change Then _ _ _ ⟨_, X3.put c7 ⟨[.bool false, vp, v2], 44, true⟩⟩
          refine ⟨c - 1, by omega, by omega, hg04, (kdP s).1, l, m ++ [⟨rk, (kdP s).2.1, (kdP s).2.2.1, (kdP s).2.2.2⟩], vp, v2, by simp; omega, hL4.less (fun i b' hi => ?_) (fun r hr => ?_), hGI.stepK h0 hcode rfl, ⟨hNB.pk, hNB.pv, ?_⟩, (kdP_bytes hbs).1, Nat.le_trans (kdP_le s) hls, ?_⟩ -- ROUND
          · rw [fxN, updM] at hi
            rw [updM]
            split at hi
            · rename_i h; rw [if_pos h]; exact hi
            · rename_i h
              rw [if_neg h]
              rw [updM] at hi
              split at hi
              · rename_i h2; subst h2
                rw [updM_ne (by omega), updM_ne (by omega), updM_ne (by omega), updM_ne (by omega), fx2 hne27]; exact hi
              · cases hi
          · exact hr.addK
          · intro q hq; rcases List.mem_append.1 hq with hq | hq
            · exact hNB.kk q hq
            · rw [List.mem_singleton.1 hq]; exact (kdP_bytes hbs).2
          · simp only [go_sem, Nat.reduceEqDiff, Nat.reduceLT, Nat.reduceAdd, Nat.reduceMul, Nat.reduceSub, Nat.add_zero, Nat.zero_add, Int.reduceEq, Int.reduceLT]
            rw [u64w (by omega) (by omega), show ((cnt - c : Nat) : Int) + 1 = ((cnt - (c - 1) : Nat) : Int) by omega]
      · refine AWP.exit (Then.exit (Then.exit (InBlock.same ?_)))
        have hstop : c = 0 ∨ s.code ≠ 0 := by have := of_decide_eq_false h38; omega
        rw [hGI.last hstop] at hgetF
        have hh2 := (hL.fx M.next _ (fx2 hne27 _ _ _)).1
        refine AWP.seq ?_
        refine AWP.stepR [2, 4, 7, 86] fun K hK => ?_
        simp only [go_sem, Nat.reduceEqDiff, Nat.reduceLT, Nat.reduceAdd, Nat.reduceMul, Nat.reduceSub, Nat.add_zero, Nat.zero_add, Int.reduceEq, Int.reduceLT]
        refine ⟨_, _, hc9, ?_⟩
        refine hK _ _ _ (by simp only [go_sem, Nat.reduceEqDiff, Nat.reduceLT, Nat.reduceAdd, Nat.reduceMul, Nat.reduceSub, Nat.add_zero, Nat.zero_add, Int.reduceEq, Int.reduceLT]; rfl) ?_; clear hK
        refine AWP.cond_split rfl (fun h86 => ?_) fun h86 => ?_
        · have hcode : s.code ≠ 0 := by simpa using h86
          have hF : getF b = (zP, s.code) := by rw [hgetF, endF, if_pos hcode]
          refine AWP.stepR [2, 3] fun K hK => ?_
          simp only [go_sem, Nat.reduceEqDiff, Nat.reduceLT, Nat.reduceAdd, Nat.reduceMul, Nat.reduceSub, Nat.add_zero, Nat.zero_add, Int.reduceEq, Int.reduceLT, bd_44z]
          refine ⟨_, _, hc9, ?_⟩
          try simp only [go_sem, Nat.reduceEqDiff, Nat.reduceLT, Nat.reduceAdd, Nat.reduceMul, Nat.reduceSub, Nat.add_zero, Nat.zero_add, Int.reduceEq, Int.reduceLT, bd_44z, st_44, zN_all hh2 (vs := [.bool false, .slice none 0 0, .slice none 0 0]) rfl rfl]
          refine hK _ _ _ (by simp only [go_sem, Nat.reduceEqDiff, Nat.reduceLT, Nat.reduceAdd, Nat.reduceMul, Nat.reduceSub, Nat.add_zero, Nat.zero_add, Int.reduceEq, Int.reduceLT]; rfl) ?_; clear hK
          obtain ⟨hgz, hhz⟩ := mk_put hg0 (Nat.le_refl _) hh2.2 ⟨[.bool false, .slice none 0 0, .slice none 0 0], 44, true⟩
          refine AWP.ret (Then.ret (?_))
          refine Fin.keep (v := .tuple #[.agg zN.toArray, .int .i64 s.code]) (.inr rfl) (by simp only [go_sem, Nat.reduceEqDiff, Nat.reduceLT, Nat.reduceAdd, Nat.reduceMul, Nat.reduceSub, Nat.add_zero, Nat.zero_add, Int.reduceEq, Int.reduceLT, retV, resV, ld_44, hhz.lda (show ([.bool false, .slice none 0 0, .slice none 0 0] : List Value).length = 3 from rfl)] <;> rfl) ⟨hgz, ⟨false, [], []⟩, .slice none 0 0, .slice none 0 0, by rw [hF]; rfl, zNode _, by rw [hF]; rfl⟩
        · have hcode : s.code = 0 := by simpa using h86
          obtain ⟨hLt, hsz⟩ := hGI.lt hcode
          refine AWP.skip ?_
          refine AWP.seq ?_
          have hLb := hL.grow ((Grew.refl M2).bump 1)
          obtain ⟨r5, M5, hc5, hr5, hM5⟩ := left68_spec p D s (M2.bump 1) hLb.ok hLb.rd
          rw [hr5, hM5] at hc5
          obtain ⟨rk, Mk, hck, hgk, hokk, hLk⟩ := hLb.bytes s.b.length (by omega)
          have htk : (takeS s s.b.length).2 = s.b := by rw [takeS_on hcode (by omega) (by omega)]; simp
          rw [htk] at hokk hLk
          have hhk7 := (hLk.fx c7 _ (fx7 _ _ _ _ _)).1
          have hnode := hLk.node (fun r hr => .inr hr) leaf
          obtain ⟨r6, M6, hc6, hr6, hM6⟩ := size28_spec ⟨leaf, l, m⟩ vp vk Mk hLk.ok hnode hLt
          rw [hr6, hM6] at hc6
          obtain ⟨z, hz⟩ : ∃ z : Nat, s.b.length = z := ⟨_, rfl⟩
          obtain ⟨hltz, hLz⟩ := hL.box hgk hLk (fun r hr => hr.elim (fun h => .inr (h ▸ hokk.apart (.inl (by rw [Mem.next_bump]; omega)))) .inl) ⟨cB (List.replicate z 0), 5, true⟩
          have hgk0 : Grew M Mk := GrewX.grew hg0 ((((Grew.refl _).bump 1).x p).trans hgk) hMp
          have hNk := hL.next
          have hg0z : Grew M (Mk.put M2.next ⟨cB (List.replicate z 0), 5, true⟩) := hgk0.put (by omega) hltz _
          have hX1 : Mk.put M2.next ⟨zrow Try.prog 5 z, 5, true⟩ = Mk.put M2.next ⟨cB (List.replicate z 0), 5, true⟩ := by rw [zrow5]
          generalize Mk.put M2.next ⟨cB (List.replicate z 0), 5, true⟩ = X1 at hLz hg0z hX1
          have hzz := (hLz.fx M2.next _ updM_eq).1
          have hms : (0 ≤ (z : Int) ∧ (z : Int) ≤ (z : Int) ∧ (z : Int) ≤ 281474976710656 ∧ ((1 : Nat) : Int) * (z : Int) ≤ 281474976710656) = True := eq_true ⟨by omega, by omega, by omega, by omega⟩
          obtain ⟨r7, M8, hc7', hr7, hM8⟩ := same67_spec rk (.slice (some ⟨M2.next, 0, none⟩) z z) s.b (List.replicate z 0) X1 hLz.ok (hLz.rows _ (.inl rfl)).row (Row_.zero hzz) (by omega) hbs (fun x hx => by rw [List.eq_of_mem_replicate hx]; decide)
          rw [hr7, hM8] at hc7'
          have hc7n := (hL.fx c7 _ (fx7 _ _ _ _ _)).1.2
          refine AWP.stepD hmo [0, 1, 2, 3, 4, 5, 6, 7, 8, 9] [0, 0, 2, 7, 0, 31, 63, 127, 255, 511] [] [(4, 2), (4, 3)] (by kernel_rfl) [2, 7, 99] fun K hK => ?_
          simp only [go_sem, Nat.reduceEqDiff, Nat.reduceLT, Nat.reduceAdd, Nat.reduceMul, Nat.reduceSub, Nat.add_zero, Nat.zero_add, Int.reduceEq, Int.reduceLT, ld_44, (hL.fx c7 _ (fx7 _ _ _ _ _)).1.lda (nodeC_len ..), hhk7.lda (nodeC_len ..)]
          refine ⟨_, _, hc5, ?_⟩
          try simp only [go_sem, Nat.reduceEqDiff, Nat.reduceLT, Nat.reduceAdd, Nat.reduceMul, Nat.reduceSub, Nat.add_zero, Nat.zero_add, Int.reduceEq, Int.reduceLT, ld_44, (hL.fx c7 _ (fx7 _ _ _ _ _)).1.lda (nodeC_len ..), hhk7.lda (nodeC_len ..)]
          refine ⟨_, _, hck, ?_⟩
          try simp only [go_sem, Nat.reduceEqDiff, Nat.reduceLT, Nat.reduceAdd, Nat.reduceMul, Nat.reduceSub, Nat.add_zero, Nat.zero_add, Int.reduceEq, Int.reduceLT, ld_44, (hL.fx c7 _ (fx7 _ _ _ _ _)).1.lda (nodeC_len ..), hhk7.lda (nodeC_len ..)]
          refine ⟨_, _, hc6, ?_⟩
          try simp only [go_sem, Nat.reduceEqDiff, Nat.reduceLT, Nat.reduceAdd, Nat.reduceMul, Nat.reduceSub, Nat.add_zero, Nat.zero_add, Int.reduceEq, Int.reduceLT, show 496 - sizeF ⟨leaf, l, m⟩ = (z : Int) by omega, i64w (n := (z : Int)) (by omega) (by omega), hms, Int.toNat_natCast, hX1]
          refine ⟨_, _, hc7', ?_⟩
          refine hK _ _ _ (by simp only [go_sem, Nat.reduceEqDiff, Nat.reduceLT, Nat.reduceAdd, Nat.reduceMul, Nat.reduceSub, Nat.add_zero, Nat.zero_add, Int.reduceEq, Int.reduceLT]; rfl) ?_; clear hK
          have hh2 := (hLz.fx M.next _ (by rw [updM_ne (by omega), fx2 hne27])).1
          have hh7 := (hLz.fx c7 _ (by rw [updM_ne (by omega), fx7])).1
          have hnode := hLz.node (fun r hr => .inr hr) leaf
          refine AWP.cond_split rfl (fun h99 => ?_) fun h99 => ?_
          · have hns : s.b ≠ List.replicate s.b.length 0 := by rw [hz]; simpa using h99
            have hF : getF b = (zP, 4) := by rw [hgetF, endF, if_neg (by simpa using hcode), if_neg hns]
            refine AWP.stepR [2, 3] fun K hK => ?_
            simp only [go_sem, Nat.reduceEqDiff, Nat.reduceLT, Nat.reduceAdd, Nat.reduceMul, Nat.reduceSub, Nat.add_zero, Nat.zero_add, Int.reduceEq, Int.reduceLT, bd_44z, st_44, zN_all hh2 (vs := [.bool false, .slice none 0 0, .slice none 0 0]) rfl rfl]
            refine hK _ _ _ (by simp only [go_sem, Nat.reduceEqDiff, Nat.reduceLT, Nat.reduceAdd, Nat.reduceMul, Nat.reduceSub, Nat.add_zero, Nat.zero_add, Int.reduceEq, Int.reduceLT]; rfl) ?_; clear hK
            obtain ⟨hgz, hhz⟩ := mk_put hg0z (Nat.le_refl _) hh2.2 ⟨[.bool false, .slice none 0 0, .slice none 0 0], 44, true⟩
            refine AWP.ret (Then.ret (?_))
            refine Fin.keep (v := .tuple #[.agg zN.toArray, .int .i64 4]) (.inr rfl) (by simp only [go_sem, Nat.reduceEqDiff, Nat.reduceLT, Nat.reduceAdd, Nat.reduceMul, Nat.reduceSub, Nat.add_zero, Nat.zero_add, Int.reduceEq, Int.reduceLT, retV, resV, ld_44, hhz.lda (show ([.bool false, .slice none 0 0, .slice none 0 0] : List Value).length = 3 from rfl)] <;> rfl) ⟨hgz, ⟨false, [], []⟩, .slice none 0 0, .slice none 0 0, by rw [hF]; rfl, zNode _, by rw [hF]; rfl⟩
          · have hns : s.b = List.replicate s.b.length 0 := by rw [hz]; simpa using h99
            have hF : getF b = if checkN ⟨leaf, l, m⟩ = 0 then (NodeP.of ⟨leaf, l, m⟩, 0) else (zP, checkN ⟨leaf, l, m⟩) := by rw [hgetF, endF, if_neg (by simpa using hcode), if_pos hns, of_check]
            refine AWP.skip ?_
            refine AWP.seq ?_
            obtain ⟨r8, M8', hc8, hr8, hM8'⟩ := check26_spec ⟨leaf, l, m⟩ vp vk X1 hLz.ok hnode hLt hNB
            rw [hr8, hM8'] at hc8
            refine AWP.stepR [2, 7, 14] fun K hK => ?_
            simp only [go_sem, Nat.reduceEqDiff, Nat.reduceLT, Nat.reduceAdd, Nat.reduceMul, Nat.reduceSub, Nat.add_zero, Nat.zero_add, Int.reduceEq, Int.reduceLT, ld_44, hh7.lda (nodeC_len ..)]
            refine ⟨_, _, hc8, ?_⟩
            refine hK _ _ _ (by simp only [go_sem, Nat.reduceEqDiff, Nat.reduceLT, Nat.reduceAdd, Nat.reduceMul, Nat.reduceSub, Nat.add_zero, Nat.zero_add, Int.reduceEq, Int.reduceLT]; rfl) ?_; clear hK
            refine AWP.stepR [2, 7, 14, 104] fun K hK => ?_
            simp only [go_sem, Nat.reduceEqDiff, Nat.reduceLT, Nat.reduceAdd, Nat.reduceMul, Nat.reduceSub, Nat.add_zero, Nat.zero_add, Int.reduceEq, Int.reduceLT]
            refine hK _ _ _ (by simp only [go_sem, Nat.reduceEqDiff, Nat.reduceLT, Nat.reduceAdd, Nat.reduceMul, Nat.reduceSub, Nat.add_zero, Nat.zero_add, Int.reduceEq, Int.reduceLT]; rfl) ?_; clear hK
            refine AWP.cond_split rfl (fun h104 => ?_) fun h104 => ?_
            · have hck0 : checkN ⟨leaf, l, m⟩ ≠ 0 := by simpa using h104
              rw [if_neg hck0] at hF
              refine AWP.stepR [2, 3] fun K hK => ?_
              simp only [go_sem, Nat.reduceEqDiff, Nat.reduceLT, Nat.reduceAdd, Nat.reduceMul, Nat.reduceSub, Nat.add_zero, Nat.zero_add, Int.reduceEq, Int.reduceLT, bd_44z, st_44, zN_all hh2 (vs := [.bool false, .slice none 0 0, .slice none 0 0]) rfl rfl]
              refine hK _ _ _ (by simp only [go_sem, Nat.reduceEqDiff, Nat.reduceLT, Nat.reduceAdd, Nat.reduceMul, Nat.reduceSub, Nat.add_zero, Nat.zero_add, Int.reduceEq, Int.reduceLT]; rfl) ?_; clear hK
              obtain ⟨hgz, hhz⟩ := mk_put hg0z (Nat.le_refl _) hh2.2 ⟨[.bool false, .slice none 0 0, .slice none 0 0], 44, true⟩
              refine AWP.ret (Then.ret (?_))
              refine Fin.keep (v := .tuple #[.agg zN.toArray, .int .i64 (checkN ⟨leaf, l, m⟩)]) (.inr rfl) (by simp only [go_sem, Nat.reduceEqDiff, Nat.reduceLT, Nat.reduceAdd, Nat.reduceMul, Nat.reduceSub, Nat.add_zero, Nat.zero_add, Int.reduceEq, Int.reduceLT, retV, resV, ld_44, hhz.lda (show ([.bool false, .slice none 0 0, .slice none 0 0] : List Value).length = 3 from rfl)] <;> rfl) ⟨hgz, ⟨false, [], []⟩, .slice none 0 0, .slice none 0 0, by rw [hF]; rfl, zNode _, by rw [hF]; rfl⟩
            · have hck0 : checkN ⟨leaf, l, m⟩ = 0 := by simpa using h104
              rw [if_pos hck0] at hF
              have hones : oneCells (nodeC leaf vp vk) = true := by simp only [oneCells, nodeC, List.all_cons, List.all_nil, hnode.pairs.one, hnode.kids.one]; rfl
              have hLe := hLz.set (j := M.next) (by rw [updM_ne (by omega), fx2 hne27]) ⟨nodeC leaf vp vk, 44, true⟩
              refine AWP.skip ?_
              refine AWP.stepR [2, 3] fun K hK => ?_
              simp only [go_sem, Nat.reduceEqDiff, Nat.reduceLT, Nat.reduceAdd, Nat.reduceMul, Nat.reduceSub, Nat.add_zero, Nat.zero_add, Int.reduceEq, Int.reduceLT, ld_44, hh7.lda (nodeC_len ..), st_44, zN_all hh2 (vs := nodeC leaf vp vk) rfl hones]
              refine hK _ _ _ (by simp only [go_sem, Nat.reduceEqDiff, Nat.reduceLT, Nat.reduceAdd, Nat.reduceMul, Nat.reduceSub, Nat.add_zero, Nat.zero_add, Int.reduceEq, Int.reduceLT]; rfl) ?_; clear hK
              obtain ⟨hgz, hhz⟩ := mk_put hg0z (Nat.le_refl _) hh2.2 ⟨nodeC leaf vp vk, 44, true⟩
              refine AWP.ret (?_)
              refine Fin.keep (v := .tuple #[.agg (nodeC leaf vp vk).toArray, .int .i64 0]) (.inr rfl) (by simp only [go_sem, Nat.reduceEqDiff, Nat.reduceLT, Nat.reduceAdd, Nat.reduceMul, Nat.reduceSub, Nat.add_zero, Nat.zero_add, Int.reduceEq, Int.reduceLT, retV, resV, ld_44, hhz.lda (nodeC_len ..)] <;> rfl) ⟨hgz, ⟨leaf, l, m⟩, vp, vk, by rw [hF], hLe.node (fun r hr => .inr hr) leaf, by rw [hF]⟩
end Go.Proofs.Ythheaehpnleiaaa.AX
