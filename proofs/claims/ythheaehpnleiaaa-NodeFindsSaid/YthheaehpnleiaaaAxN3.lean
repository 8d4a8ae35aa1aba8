/- What is wrong with a node's parts, by the document; whether it is no more than is waited for. -/
import Derived.Test.YthheaehpnleiaaaAxN2
namespace Go.Proofs.Ythheaehpnleiaaa.AX
open Go Go.Proofs
set_option maxRecDepth 100000
set_option linter.unusedVariables false
set_option linter.unusedSimpArgs false

def prOk (p : Pr) : Bool := !(decide ((p.key.length : Int) > 64) || decide ((p.val.length : Int) > 160))
def kdRange (k : Kd) : Bool := ((decide (k.page < 0) || decide (k.page ≥ 4096)) || decide (k.epoch < 0)) || decide (k.epoch > 1099511627776)
def kdCode (k : Kd) : Int := if (k.key.length : Int) > 64 then 17 else if kdRange k = true then 2 else 0
def firstF : List Kd → Int
  | [] => 0
  | k :: l => if kdCode k = 0 then firstF l else kdCode k
def partsF (n : Node) : Int := if n.pairs.all prOk then firstF n.kids else 17

theorem parts76_spec (n : Node) (vp vk : Value) (M : Mem) (hok : Ok M) (hr : NodeR M n vp vk) (hlp : n.pairs.length ≤ 1000) (hlk : n.kids.length ≤ 1000) : ∃ r M', ACall Try.prog 76 #[.agg (nodeC n.leaf vp vk).toArray] M r M' ∧ r = .int .i64 (partsF n) ∧ M' = M := by
  refine ACall.fin (args := [.agg (nodeC n.leaf vp vk).toArray]) (k := 65) Try.func76 rfl rfl rfl (Nat.le_of_ble_eq_true rfl) ?_
  refine AWP.stepR [1] fun K hK => ?_
  simp only [go_sem, Nat.reduceEqDiff, Nat.reduceLT, Nat.reduceAdd, Nat.reduceMul, Nat.reduceSub, Nat.add_zero, Nat.zero_add, Int.reduceEq, Int.reduceLT]
  refine hK _ _ _ (by simp only [go_sem, Nat.reduceEqDiff, Nat.reduceLT, Nat.reduceAdd, Nat.reduceMul, Nat.reduceSub, Nat.add_zero, Nat.zero_add, Int.reduceEq, Int.reduceLT]; rfl) ?_; clear hK
  have hlt1 : M.next < (M.bump 1).next := Nat.lt_succ_self _
  obtain ⟨hg1, hh1⟩ := mk_put ((Grew.refl M).bump 1) (Nat.le_refl _) hlt1 ⟨nodeC n.leaf vp vk, 44, true⟩
  change AWP _ _ _ ⟨_, (M.bump 1).put M.next ⟨nodeC n.leaf vp vk, 44, true⟩⟩ _
  generalize hM1 : (M.bump 1).put M.next ⟨nodeC n.leaf vp vk, 44, true⟩ = M1 at hg1 hh1
  have hr := hr.grew hg1
  obtain ⟨lf, ps, ks⟩ := n
  simp only at hlp hlk hh1
  refine AWP.seq ?_
  refine AWP.stepR [1, 3] fun K hK => ?_
  simp only [go_sem, Nat.reduceEqDiff, Nat.reduceLT, Nat.reduceAdd, Nat.reduceMul, Nat.reduceSub, Nat.add_zero, Nat.zero_add, Int.reduceEq, Int.reduceLT]
  refine hK _ _ _ (by simp only [go_sem, Nat.reduceEqDiff, Nat.reduceLT, Nat.reduceAdd, Nat.reduceMul, Nat.reduceSub, Nat.add_zero, Nat.zero_add, Int.reduceEq, Int.reduceLT]; rfl) ?_; clear hK
  refine AWP.block ?_ -- b0
  refine AWP.loopK [1, 3] (fun n e M0 => M0 = M1 ∧ n ≤ ps.length ∧ e = [(1, .pointer (some ⟨M.next, 0, none⟩)), (3, .int .i64 ((ps.length - n : Nat) : Int))] ∧ (ps.take (ps.length - n)).all prOk = true) ps.length ?_ fun n e M0 hI => ?_ -- LOOP
  · simp only [go_sem, Nat.reduceEqDiff, Nat.reduceLT, Nat.reduceAdd, Nat.reduceMul, Nat.reduceSub, Nat.add_zero, Nat.zero_add, Int.reduceEq, Int.reduceLT, true_and, Nat.le_refl]
    simp
  obtain ⟨rfl, hn, rfl, hall⟩ := hI
  refine AWP.seq ?_
  refine AWP.stepR [1, 3, 10] fun K hK => ?_
  simp only [go_sem, Nat.reduceEqDiff, Nat.reduceLT, Nat.reduceAdd, Nat.reduceMul, Nat.reduceSub, Nat.add_zero, Nat.zero_add, Int.reduceEq, Int.reduceLT, ld_41, hh1.ld, nodeC, hr.pairs.len es_41]
  refine hK _ _ _ (by simp only [go_sem, Nat.reduceEqDiff, Nat.reduceLT, Nat.reduceAdd, Nat.reduceMul, Nat.reduceSub, Nat.add_zero, Nat.zero_add, Int.reduceEq, Int.reduceLT]; rfl) ?_; clear hK
  refine AWP.cond_split rfl (fun h10 => ?_) fun h10 => ?_
  · have hlt : ps.length - n < ps.length := by simpa using h10
    obtain ⟨b, q, ha, hd⟩ := pr_at hr.pairs hlt
    obtain ⟨hd1, hd2, _⟩ := hd M0 (Grew.refl _)
    have hk := hr.pk _ (List.getElem_mem hlt)
    have hv := hr.pv _ (List.getElem_mem hlt)
    have hst := List.take_succ_eq_append_getElem hlt
    have hmem := List.getElem_mem hlt
    simp only at ha hd1 hd2 hk hv hst
    generalize ps[ps.length - n] = x at hd1 hd2 hk hv hst hmem
    refine AWP.skip ?_
    refine AWP.seq ?_
    refine AWP.block ?_ -- b1
    refine AWP.stepX [1, 3, 30] [(1, .pointer (some ⟨M.next, 0, none⟩)), (3, .int .i64 ((ps.length - n : Nat) : Int)), (30, .bool (!prOk x))] M0 (fun K hK => ?_) ?_
    · cases h64 : decide ((x.key.length : Int) > 64) <;> simp only [go_sem, Nat.reduceEqDiff, Nat.reduceLT, Nat.reduceAdd, Nat.reduceMul, Nat.reduceSub, Nat.add_zero, Nat.zero_add, Int.reduceEq, Int.reduceLT, ld_41, hh1.ld, nodeC, ha, hd1, hd2, ld_23, hk.len es_23, hv.len es_23, h64] <;> refine hK _ ?_ <;> simp only [go_sem, Nat.reduceEqDiff, Nat.reduceLT, Nat.reduceAdd, Nat.reduceMul, Nat.reduceSub, Nat.add_zero, Nat.zero_add, Int.reduceEq, Int.reduceLT, prOk, h64, Bool.or_false, Bool.or_true, Bool.false_or, Bool.true_or, Bool.not_not] <;> rfl
    refine AWP.cond_split rfl (fun h30 => ?_) fun h30 => ?_
    · refine AWP.stepR [2] fun K hK => ?_
      simp only [go_sem, Nat.reduceEqDiff, Nat.reduceLT, Nat.reduceAdd, Nat.reduceMul, Nat.reduceSub, Nat.add_zero, Nat.zero_add, Int.reduceEq, Int.reduceLT]
      refine hK _ _ _ (by simp only [go_sem, Nat.reduceEqDiff, Nat.reduceLT, Nat.reduceAdd, Nat.reduceMul, Nat.reduceSub, Nat.add_zero, Nat.zero_add, Int.reduceEq, Int.reduceLT]; rfl) ?_; clear hK
      refine AWP.ret (InBlock.ret (Then.ret (Then.ret (InBlock.ret (Then.ret (?_))))))
      refine Fin.plain (.inr rfl) rfl rfl hok hg1 ⟨?_, rfl⟩
      rw [partsF, if_neg]
      simp only [List.all_eq_true]
      intro hh
      rw [hh x hmem] at h30
      cases h30
    · refine AWP.skip ?_
      refine AWP.lastR fun K hK => ?_
      simp only [go_sem, Nat.reduceEqDiff, Nat.reduceLT, Nat.reduceAdd, Nat.reduceMul, Nat.reduceSub, Nat.add_zero, Nat.zero_add, Int.reduceEq, Int.reduceLT]
      refine hK _ _ ?_; clear hK
      refine ⟨n - 1, by omega, rfl, by omega, ?_, ?_⟩ -- ROUND
      · simp only [go_sem, Nat.reduceEqDiff, Nat.reduceLT, Nat.reduceAdd, Nat.reduceMul, Nat.reduceSub, Nat.add_zero, Nat.zero_add, Int.reduceEq, Int.reduceLT]
        rw [i64w (by omega) (by omega), show ((ps.length - n : Nat) : Int) + 1 = ((ps.length - (n - 1) : Nat) : Int) by omega]
      · rw [show ps.length - (n - 1) = ps.length - n + 1 by omega, hst, List.all_append, hall]
        simpa using h30
  · refine AWP.exit (Then.exit (Then.exit (InBlock.same ?_)))
    have hn0 : n = 0 := by simp at h10; omega
    subst hn0
    rw [Nat.sub_zero, List.take_length] at hall
    refine AWP.seq ?_
    refine AWP.stepR [1, 4] fun K hK => ?_
    simp only [go_sem, Nat.reduceEqDiff, Nat.reduceLT, Nat.reduceAdd, Nat.reduceMul, Nat.reduceSub, Nat.add_zero, Nat.zero_add, Int.reduceEq, Int.reduceLT]
    refine hK _ _ _ (by simp only [go_sem, Nat.reduceEqDiff, Nat.reduceLT, Nat.reduceAdd, Nat.reduceMul, Nat.reduceSub, Nat.add_zero, Nat.zero_add, Int.reduceEq, Int.reduceLT]; rfl) ?_; clear hK
    refine AWP.block ?_ -- b2
    refine AWP.loopK [1, 4] (fun n e M2 => Grew M0 M2 ∧ n ≤ ks.length ∧ e = [(1, .pointer (some ⟨M.next, 0, none⟩)), (4, .int .i64 ((ks.length - n : Nat) : Int))] ∧ firstF ks = firstF (ks.drop (ks.length - n))) ks.length ?_ fun n e M2 hI => ?_ -- LOOP
    · simp only [go_sem, Nat.reduceEqDiff, Nat.reduceLT, Nat.reduceAdd, Nat.reduceMul, Nat.reduceSub, Nat.add_zero, Nat.zero_add, Int.reduceEq, Int.reduceLT, Nat.le_refl]
      exact ⟨Grew.refl _, by simp⟩
    obtain ⟨hgl, hn, rfl, hf⟩ := hI
    have hh2 := hh1.grew hgl
    have hrl := hr.grew hgl
    refine AWP.seq ?_
    refine AWP.stepR [1, 4, 35] fun K hK => ?_
    simp only [go_sem, Nat.reduceEqDiff, Nat.reduceLT, Nat.reduceAdd, Nat.reduceMul, Nat.reduceSub, Nat.add_zero, Nat.zero_add, Int.reduceEq, Int.reduceLT, ld_42, hh2.ld, nodeC, hrl.kids.len es_42]
    refine hK _ _ _ (by simp only [go_sem, Nat.reduceEqDiff, Nat.reduceLT, Nat.reduceAdd, Nat.reduceMul, Nat.reduceSub, Nat.add_zero, Nat.zero_add, Int.reduceEq, Int.reduceLT]; rfl) ?_; clear hK
    refine AWP.cond_split rfl (fun h35 => ?_) fun h35 => ?_
    · have hlt : ks.length - n < ks.length := by simpa using h35
      obtain ⟨b, q, ha, hd⟩ := kd_at hrl.kids hlt
      have hd := (hd M2 (Grew.refl _)).2.2.2
      have hk := hrl.kk _ (List.getElem_mem hlt)
      rw [List.drop_eq_getElem_cons hlt] at hf
      try simp only at ha hd hk
      generalize ks[ks.length - n] = x at hd hk hf
      refine AWP.skip ?_
      refine AWP.seq ?_
      refine AWP.block ?_ -- b3
      have hlt2 : M2.next < (M2.bump 1).next := Nat.lt_succ_self _
      refine AWP.stepR [1, 4, 5] fun K hK => ?_
      simp only [go_sem, Nat.reduceEqDiff, Nat.reduceLT, Nat.reduceAdd, Nat.reduceMul, Nat.reduceSub, Nat.add_zero, Nat.zero_add, Int.reduceEq, Int.reduceLT, ld_42, hh2.lda, hh2.ld, nodeC, ha, ld_60, hd, st_fresh (M := M2.bump 1) (i := M2.next) (n := 3) (old := [.slice none 0 0, .int .i64 0, .int .i64 0]) (vs := kdC x) (e := 60) rfl rfl (kdC_one hk)]
      refine hK _ _ _ (by simp only [go_sem, Nat.reduceEqDiff, Nat.reduceLT, Nat.reduceAdd, Nat.reduceMul, Nat.reduceSub, Nat.add_zero, Nat.zero_add, Int.reduceEq, Int.reduceLT]; rfl) ?_; clear hK
      have hg4 := (((Grew.refl M2).bump 1).put (Nat.le_refl _) hlt2 ⟨[.slice none 0 0, .int .i64 0, .int .i64 0], 60, true⟩).put (Nat.le_refl _) hlt2 ⟨kdC x, 60, true⟩
      have hh4 : Has (((M2.bump 1).put M2.next ⟨[.slice none 0 0, .int .i64 0, .int .i64 0], 60, true⟩).put M2.next ⟨kdC x, 60, true⟩) M2.next ⟨kdC x, 60, true⟩ := Has.put (M := (M2.bump 1).put M2.next ⟨[.slice none 0 0, .int .i64 0, .int .i64 0], 60, true⟩) hlt2 _
      generalize ((M2.bump 1).put M2.next ⟨[.slice none 0 0, .int .i64 0, .int .i64 0], 60, true⟩).put M2.next ⟨kdC x, 60, true⟩ = M4 at hg4 hh4
      have hk := hk.grew hg4
      have hgg := hg1.trans (hgl.trans hg4)
      refine AWP.seq ?_
      refine AWP.stepR [1, 4, 5, 46] fun K hK => ?_
      simp only [go_sem, Nat.reduceEqDiff, Nat.reduceLT, Nat.reduceAdd, Nat.reduceMul, Nat.reduceSub, Nat.add_zero, Nat.zero_add, Int.reduceEq, Int.reduceLT, ld_23, hh4.ld, kdC, hk.len es_23]
      refine hK _ _ _ (by simp only [go_sem, Nat.reduceEqDiff, Nat.reduceLT, Nat.reduceAdd, Nat.reduceMul, Nat.reduceSub, Nat.add_zero, Nat.zero_add, Int.reduceEq, Int.reduceLT]; rfl) ?_; clear hK
      refine AWP.cond_split rfl (fun h46 => ?_) fun h46 => ?_
      · refine AWP.stepR [2] fun K hK => ?_
        simp only [go_sem, Nat.reduceEqDiff, Nat.reduceLT, Nat.reduceAdd, Nat.reduceMul, Nat.reduceSub, Nat.add_zero, Nat.zero_add, Int.reduceEq, Int.reduceLT]
        refine hK _ _ _ (by simp only [go_sem, Nat.reduceEqDiff, Nat.reduceLT, Nat.reduceAdd, Nat.reduceMul, Nat.reduceSub, Nat.add_zero, Nat.zero_add, Int.reduceEq, Int.reduceLT]; rfl) ?_; clear hK
        refine AWP.ret (Then.ret (InBlock.ret (Then.ret (Then.ret (InBlock.ret (Then.ret (?_)))))))
        refine Fin.plain (.inr rfl) rfl rfl hok hgg ⟨?_, rfl⟩
        have h46' : (x.key.length : Int) > 64 := by simpa using h46
        have hc : kdCode x = 17 := by rw [kdCode, if_pos h46']
        rw [partsF, if_pos hall, hf, firstF, hc, if_neg (by decide)]
      · refine AWP.skip ?_
        have h46' : ¬ (x.key.length : Int) > 64 := by simpa using h46
        refine AWP.stepX [1, 4, 64] [(1, .pointer (some ⟨M.next, 0, none⟩)), (4, .int .i64 ((ks.length - n : Nat) : Int)), (64, .bool (kdRange x))] M4 (fun K hK => ?_) ?_
        · cases a1 : decide (x.page < 0) <;> cases a2 : decide (x.page ≥ 4096) <;> cases a3 : decide (x.epoch < 0) <;> simp only [go_sem, Nat.reduceEqDiff, Nat.reduceLT, Nat.reduceAdd, Nat.reduceMul, Nat.reduceSub, Nat.add_zero, Nat.zero_add, Int.reduceEq, Int.reduceLT, ld_3, hh4.ld, kdC, a1, a2, a3] <;> refine hK _ ?_ <;> simp only [go_sem, Nat.reduceEqDiff, Nat.reduceLT, Nat.reduceAdd, Nat.reduceMul, Nat.reduceSub, Nat.add_zero, Nat.zero_add, Int.reduceEq, Int.reduceLT, kdRange, a1, a2, a3, Bool.or_false, Bool.or_true, Bool.false_or, Bool.true_or] <;> rfl
        refine AWP.cond_split rfl (fun h64 => ?_) fun h64 => ?_
        · refine AWP.stepR [2] fun K hK => ?_
          simp only [go_sem, Nat.reduceEqDiff, Nat.reduceLT, Nat.reduceAdd, Nat.reduceMul, Nat.reduceSub, Nat.add_zero, Nat.zero_add, Int.reduceEq, Int.reduceLT]
          refine hK _ _ _ (by simp only [go_sem, Nat.reduceEqDiff, Nat.reduceLT, Nat.reduceAdd, Nat.reduceMul, Nat.reduceSub, Nat.add_zero, Nat.zero_add, Int.reduceEq, Int.reduceLT]; rfl) ?_; clear hK
          refine AWP.ret (InBlock.ret (Then.ret (Then.ret (InBlock.ret (Then.ret (?_))))))
          refine Fin.plain (.inr rfl) rfl rfl hok hgg ⟨?_, rfl⟩
          have hc : kdCode x = 2 := by rw [kdCode, if_neg h46', if_pos h64]
          rw [partsF, if_pos hall, hf, firstF, hc, if_neg (by decide)]
        · refine AWP.skip ?_
          refine AWP.lastR fun K hK => ?_
          simp only [go_sem, Nat.reduceEqDiff, Nat.reduceLT, Nat.reduceAdd, Nat.reduceMul, Nat.reduceSub, Nat.add_zero, Nat.zero_add, Int.reduceEq, Int.reduceLT]
          refine hK _ _ ?_; clear hK
          refine ⟨n - 1, by omega, hgl.trans hg4, by omega, ?_, ?_⟩ -- ROUND
          · simp only [go_sem, Nat.reduceEqDiff, Nat.reduceLT, Nat.reduceAdd, Nat.reduceMul, Nat.reduceSub, Nat.add_zero, Nat.zero_add, Int.reduceEq, Int.reduceLT]
            rw [i64w (by omega) (by omega), show ((ks.length - n : Nat) : Int) + 1 = ((ks.length - (n - 1) : Nat) : Int) by omega]
          · have hc : kdCode x = 0 := by rw [kdCode, if_neg h46', h64]; rfl
            rw [hf, firstF, if_pos hc, show ks.length - (n - 1) = ks.length - n + 1 by omega]
    · refine AWP.exit (Then.exit (Then.exit (InBlock.same ?_)))
      refine AWP.stepR [2] fun K hK => ?_
      simp only [go_sem, Nat.reduceEqDiff, Nat.reduceLT, Nat.reduceAdd, Nat.reduceMul, Nat.reduceSub, Nat.add_zero, Nat.zero_add, Int.reduceEq, Int.reduceLT]
      refine hK _ _ _ (by simp only [go_sem, Nat.reduceEqDiff, Nat.reduceLT, Nat.reduceAdd, Nat.reduceMul, Nat.reduceSub, Nat.add_zero, Nat.zero_add, Int.reduceEq, Int.reduceLT]; rfl) ?_; clear hK
      refine AWP.ret (?_)
      refine Fin.plain (.inr rfl) rfl rfl hok (hg1.trans hgl) ⟨?_, rfl⟩
      have hn0 : n = 0 := by simp at h35; omega
      rw [partsF, if_pos hall, hf, hn0, Nat.sub_zero, List.drop_length, firstF]

/-! ### no more than is waited for -/
def prLt (p : Pr) : Bool := !(decide ((p.key.length : Int) > 300) || decide ((p.val.length : Int) > 300))
def kdLt (k : Kd) : Bool := !decide ((k.key.length : Int) > 300)
def numLt (n : Node) : Bool := !(decide ((n.pairs.length : Int) > 40) || decide ((n.kids.length : Int) > 60))
def lightN (n : Node) : Bool := numLt n && (n.pairs.all prLt && n.kids.all kdLt)
def lightV (n : Node) : Int := if lightN n then 0 else 1
theorem Lt18.of {n : Node} (h : lightN n = true) : Lt18 n := by
  simp only [lightN, numLt, Bool.and_eq_true, Bool.not_eq_true', Bool.or_eq_false_iff, decide_eq_false_iff_not, List.all_eq_true, prLt, kdLt] at h
  obtain ⟨⟨h1, h2⟩, h3, h4⟩ := h
  exact ⟨by omega, by omega, fun p hp => by have := (h3 p hp).1; omega, fun p hp => by have := (h3 p hp).2; omega, fun p hp => by have := h4 p hp; omega⟩

theorem light20_spec (n : Node) (vp vk : Value) (M : Mem) (hok : Ok M) (hr : NodeR M n vp vk) : ∃ r M', ACall Try.prog 20 #[.agg (nodeC n.leaf vp vk).toArray] M r M' ∧ r = .int .i64 (lightV n) ∧ M' = M := by
  refine ACall.fin (args := [.agg (nodeC n.leaf vp vk).toArray]) (k := 55) Try.func20 rfl rfl rfl (Nat.le_of_ble_eq_true rfl) ?_
  refine AWP.stepR [1] fun K hK => ?_
  simp only [go_sem, Nat.reduceEqDiff, Nat.reduceLT, Nat.reduceAdd, Nat.reduceMul, Nat.reduceSub, Nat.add_zero, Nat.zero_add, Int.reduceEq, Int.reduceLT]
  refine hK _ _ _ (by simp only [go_sem, Nat.reduceEqDiff, Nat.reduceLT, Nat.reduceAdd, Nat.reduceMul, Nat.reduceSub, Nat.add_zero, Nat.zero_add, Int.reduceEq, Int.reduceLT]; rfl) ?_; clear hK
  have hlt1 : M.next < (M.bump 1).next := Nat.lt_succ_self _
  obtain ⟨hg1, hh1⟩ := mk_put ((Grew.refl M).bump 1) (Nat.le_refl _) hlt1 ⟨nodeC n.leaf vp vk, 44, true⟩
  change AWP _ _ _ ⟨_, (M.bump 1).put M.next ⟨nodeC n.leaf vp vk, 44, true⟩⟩ _
  generalize hM1 : (M.bump 1).put M.next ⟨nodeC n.leaf vp vk, 44, true⟩ = M1 at hg1 hh1
  have hr := hr.grew hg1
  refine AWP.seq ?_
  refine AWP.stepX [1, 14] [(1, .pointer (some ⟨M.next, 0, none⟩)), (14, .bool (!numLt n))] M1 (fun K hK => ?_) ?_
  · cases h40 : decide ((n.pairs.length : Int) > 40) <;> simp only [go_sem, Nat.reduceEqDiff, Nat.reduceLT, Nat.reduceAdd, Nat.reduceMul, Nat.reduceSub, Nat.add_zero, Nat.zero_add, Int.reduceEq, Int.reduceLT, ld_41, ld_42, hh1.ld, nodeC, hr.pairs.len es_41, hr.kids.len es_42, h40] <;> refine hK _ ?_ <;> simp only [go_sem, Nat.reduceEqDiff, Nat.reduceLT, Nat.reduceAdd, Nat.reduceMul, Nat.reduceSub, Nat.add_zero, Nat.zero_add, Int.reduceEq, Int.reduceLT, numLt, h40, Bool.or_false, Bool.or_true, Bool.false_or, Bool.true_or, Bool.not_not] <;> rfl
  refine AWP.cond_split rfl (fun h14 => ?_) fun h14 => ?_
  · refine AWP.stepR [2] fun K hK => ?_
    simp only [go_sem, Nat.reduceEqDiff, Nat.reduceLT, Nat.reduceAdd, Nat.reduceMul, Nat.reduceSub, Nat.add_zero, Nat.zero_add, Int.reduceEq, Int.reduceLT]
    refine hK _ _ _ (by simp only [go_sem, Nat.reduceEqDiff, Nat.reduceLT, Nat.reduceAdd, Nat.reduceMul, Nat.reduceSub, Nat.add_zero, Nat.zero_add, Int.reduceEq, Int.reduceLT]; rfl) ?_; clear hK
    refine AWP.ret (Then.ret (?_))
    refine Fin.plain (.inr rfl) rfl rfl hok hg1 ⟨?_, rfl⟩
    rw [lightV, lightN, show numLt n = false by simpa using h14]; rfl
  · have h14 : numLt n = true := by simpa using h14
    have hlp : n.pairs.length ≤ 1000 := by simp [numLt] at h14; omega
    have hlk : n.kids.length ≤ 1000 := by simp [numLt] at h14; omega
    have hlight : lightV n = if n.pairs.all prLt && n.kids.all kdLt then 0 else 1 := by rw [lightV, lightN, h14, Bool.true_and]
    clear h14
    obtain ⟨lf, ps, ks⟩ := n
    simp only at hlp hlk hh1 hlight
    refine AWP.skip ?_
    refine AWP.seq ?_
    refine AWP.stepR [1, 3] fun K hK => ?_
    simp only [go_sem, Nat.reduceEqDiff, Nat.reduceLT, Nat.reduceAdd, Nat.reduceMul, Nat.reduceSub, Nat.add_zero, Nat.zero_add, Int.reduceEq, Int.reduceLT]
    refine hK _ _ _ (by simp only [go_sem, Nat.reduceEqDiff, Nat.reduceLT, Nat.reduceAdd, Nat.reduceMul, Nat.reduceSub, Nat.add_zero, Nat.zero_add, Int.reduceEq, Int.reduceLT]; rfl) ?_; clear hK
    refine AWP.block ?_ -- b0
    refine AWP.loopK [1, 3] (fun n e M0 => M0 = M1 ∧ n ≤ ps.length ∧ e = [(1, .pointer (some ⟨M.next, 0, none⟩)), (3, .int .i64 ((ps.length - n : Nat) : Int))] ∧ (ps.take (ps.length - n)).all prLt = true) ps.length ?_ fun n e M0 hI => ?_ -- LOOP
    · simp only [go_sem, Nat.reduceEqDiff, Nat.reduceLT, Nat.reduceAdd, Nat.reduceMul, Nat.reduceSub, Nat.add_zero, Nat.zero_add, Int.reduceEq, Int.reduceLT, true_and, Nat.le_refl]
      simp
    obtain ⟨rfl, hn, rfl, hall⟩ := hI
    refine AWP.seq ?_
    refine AWP.stepR [1, 3, 19] fun K hK => ?_
    simp only [go_sem, Nat.reduceEqDiff, Nat.reduceLT, Nat.reduceAdd, Nat.reduceMul, Nat.reduceSub, Nat.add_zero, Nat.zero_add, Int.reduceEq, Int.reduceLT, ld_41, hh1.ld, nodeC, hr.pairs.len es_41]
    refine hK _ _ _ (by simp only [go_sem, Nat.reduceEqDiff, Nat.reduceLT, Nat.reduceAdd, Nat.reduceMul, Nat.reduceSub, Nat.add_zero, Nat.zero_add, Int.reduceEq, Int.reduceLT]; rfl) ?_; clear hK
    refine AWP.cond_split rfl (fun h19 => ?_) fun h19 => ?_
    · have hlt : ps.length - n < ps.length := by simpa using h19
      obtain ⟨b, q, ha, hd⟩ := pr_at hr.pairs hlt
      obtain ⟨hd1, hd2, _⟩ := hd M0 (Grew.refl _)
      have hk := hr.pk _ (List.getElem_mem hlt)
      have hv := hr.pv _ (List.getElem_mem hlt)
      have hst := List.take_succ_eq_append_getElem hlt
      have hmem := List.getElem_mem hlt
      simp only at ha hd1 hd2 hk hv hst
      generalize ps[ps.length - n] = x at hd1 hd2 hk hv hst hmem
      refine AWP.skip ?_
      refine AWP.seq ?_
      refine AWP.block ?_ -- b1
      refine AWP.stepX [1, 3, 39] [(1, .pointer (some ⟨M.next, 0, none⟩)), (3, .int .i64 ((ps.length - n : Nat) : Int)), (39, .bool (!prLt x))] M0 (fun K hK => ?_) ?_
      · cases h64 : decide ((x.key.length : Int) > 300) <;> simp only [go_sem, Nat.reduceEqDiff, Nat.reduceLT, Nat.reduceAdd, Nat.reduceMul, Nat.reduceSub, Nat.add_zero, Nat.zero_add, Int.reduceEq, Int.reduceLT, ld_41, hh1.ld, nodeC, ha, hd1, hd2, ld_23, hk.len es_23, hv.len es_23, h64] <;> refine hK _ ?_ <;> simp only [go_sem, Nat.reduceEqDiff, Nat.reduceLT, Nat.reduceAdd, Nat.reduceMul, Nat.reduceSub, Nat.add_zero, Nat.zero_add, Int.reduceEq, Int.reduceLT, prLt, h64, Bool.or_false, Bool.or_true, Bool.false_or, Bool.true_or, Bool.not_not] <;> rfl
      refine AWP.cond_split rfl (fun h39 => ?_) fun h39 => ?_
      · refine AWP.stepR [2] fun K hK => ?_
        simp only [go_sem, Nat.reduceEqDiff, Nat.reduceLT, Nat.reduceAdd, Nat.reduceMul, Nat.reduceSub, Nat.add_zero, Nat.zero_add, Int.reduceEq, Int.reduceLT]
        refine hK _ _ _ (by simp only [go_sem, Nat.reduceEqDiff, Nat.reduceLT, Nat.reduceAdd, Nat.reduceMul, Nat.reduceSub, Nat.add_zero, Nat.zero_add, Int.reduceEq, Int.reduceLT]; rfl) ?_; clear hK
        refine AWP.ret (InBlock.ret (Then.ret (Then.ret (InBlock.ret (Then.ret (?_))))))
        refine Fin.plain (.inr rfl) rfl rfl hok hg1 ⟨?_, rfl⟩
        rw [hlight, if_neg]
        simp only [Bool.and_eq_true, List.all_eq_true]
        intro hh
        rw [hh.1 x hmem] at h39
        cases h39
      · refine AWP.skip ?_
        refine AWP.lastR fun K hK => ?_
        simp only [go_sem, Nat.reduceEqDiff, Nat.reduceLT, Nat.reduceAdd, Nat.reduceMul, Nat.reduceSub, Nat.add_zero, Nat.zero_add, Int.reduceEq, Int.reduceLT]
        refine hK _ _ ?_; clear hK
        refine ⟨n - 1, by omega, rfl, by omega, ?_, ?_⟩ -- ROUND
        · simp only [go_sem, Nat.reduceEqDiff, Nat.reduceLT, Nat.reduceAdd, Nat.reduceMul, Nat.reduceSub, Nat.add_zero, Nat.zero_add, Int.reduceEq, Int.reduceLT]
          rw [i64w (by omega) (by omega), show ((ps.length - n : Nat) : Int) + 1 = ((ps.length - (n - 1) : Nat) : Int) by omega]
        · rw [show ps.length - (n - 1) = ps.length - n + 1 by omega, hst, List.all_append, hall]
          simpa using h39
    · refine AWP.exit (Then.exit (Then.exit (InBlock.same ?_)))
      have hn0 : n = 0 := by simp at h19; omega
      subst hn0
      rw [Nat.sub_zero, List.take_length] at hall
      rw [hall, Bool.true_and] at hlight
      refine AWP.seq ?_
      refine AWP.stepR [1, 4] fun K hK => ?_
      simp only [go_sem, Nat.reduceEqDiff, Nat.reduceLT, Nat.reduceAdd, Nat.reduceMul, Nat.reduceSub, Nat.add_zero, Nat.zero_add, Int.reduceEq, Int.reduceLT]
      refine hK _ _ _ (by simp only [go_sem, Nat.reduceEqDiff, Nat.reduceLT, Nat.reduceAdd, Nat.reduceMul, Nat.reduceSub, Nat.add_zero, Nat.zero_add, Int.reduceEq, Int.reduceLT]; rfl) ?_; clear hK
      refine AWP.block ?_ -- b2
      refine AWP.loopK [1, 4] (fun n e M2 => M2 = M0 ∧ n ≤ ks.length ∧ e = [(1, .pointer (some ⟨M.next, 0, none⟩)), (4, .int .i64 ((ks.length - n : Nat) : Int))] ∧ (ks.take (ks.length - n)).all kdLt = true) ks.length ?_ fun n e M2 hI => ?_ -- LOOP
      · simp only [go_sem, Nat.reduceEqDiff, Nat.reduceLT, Nat.reduceAdd, Nat.reduceMul, Nat.reduceSub, Nat.add_zero, Nat.zero_add, Int.reduceEq, Int.reduceLT, true_and, Nat.le_refl]
        simp
      obtain ⟨rfl, hn, rfl, hall2⟩ := hI
      refine AWP.seq ?_
      refine AWP.stepR [1, 4, 44] fun K hK => ?_
      simp only [go_sem, Nat.reduceEqDiff, Nat.reduceLT, Nat.reduceAdd, Nat.reduceMul, Nat.reduceSub, Nat.add_zero, Nat.zero_add, Int.reduceEq, Int.reduceLT, ld_42, hh1.ld, nodeC, hr.kids.len es_42]
      refine hK _ _ _ (by simp only [go_sem, Nat.reduceEqDiff, Nat.reduceLT, Nat.reduceAdd, Nat.reduceMul, Nat.reduceSub, Nat.add_zero, Nat.zero_add, Int.reduceEq, Int.reduceLT]; rfl) ?_; clear hK
      refine AWP.cond_split rfl (fun h44 => ?_) fun h44 => ?_
      · have hlt : ks.length - n < ks.length := by simpa using h44
        obtain ⟨b, q, ha, hd⟩ := kd_at hr.kids hlt
        obtain ⟨hd1, _⟩ := hd M2 (Grew.refl _)
        have hk := hr.kk _ (List.getElem_mem hlt)
        have hst := List.take_succ_eq_append_getElem hlt
        have hmem := List.getElem_mem hlt
        simp only at ha hd1 hk hst
        generalize ks[ks.length - n] = x at hd1 hk hst hmem
        refine AWP.skip ?_
        refine AWP.seq ?_
        refine AWP.block ?_ -- b3
        refine AWP.stepR [1, 4, 54] fun K hK => ?_
        simp only [go_sem, Nat.reduceEqDiff, Nat.reduceLT, Nat.reduceAdd, Nat.reduceMul, Nat.reduceSub, Nat.add_zero, Nat.zero_add, Int.reduceEq, Int.reduceLT, ld_42, hh1.ld, nodeC, ha, hd1, ld_23, hk.len es_23]
        refine hK _ _ _ (by simp only [go_sem, Nat.reduceEqDiff, Nat.reduceLT, Nat.reduceAdd, Nat.reduceMul, Nat.reduceSub, Nat.add_zero, Nat.zero_add, Int.reduceEq, Int.reduceLT]; rfl) ?_; clear hK
        refine AWP.cond_split rfl (fun h54 => ?_) fun h54 => ?_
        · refine AWP.stepR [2] fun K hK => ?_
          simp only [go_sem, Nat.reduceEqDiff, Nat.reduceLT, Nat.reduceAdd, Nat.reduceMul, Nat.reduceSub, Nat.add_zero, Nat.zero_add, Int.reduceEq, Int.reduceLT]
          refine hK _ _ _ (by simp only [go_sem, Nat.reduceEqDiff, Nat.reduceLT, Nat.reduceAdd, Nat.reduceMul, Nat.reduceSub, Nat.add_zero, Nat.zero_add, Int.reduceEq, Int.reduceLT]; rfl) ?_; clear hK
          refine AWP.ret (InBlock.ret (Then.ret (Then.ret (InBlock.ret (Then.ret (?_))))))
          refine Fin.plain (.inr rfl) rfl rfl hok hg1 ⟨?_, rfl⟩
          rw [hlight, if_neg]
          simp only [List.all_eq_true]
          intro hh
          have := hh x hmem
          rw [kdLt, h54] at this
          cases this
        · refine AWP.skip ?_
          refine AWP.lastR fun K hK => ?_
          simp only [go_sem, Nat.reduceEqDiff, Nat.reduceLT, Nat.reduceAdd, Nat.reduceMul, Nat.reduceSub, Nat.add_zero, Nat.zero_add, Int.reduceEq, Int.reduceLT]
          refine hK _ _ ?_; clear hK
          refine ⟨n - 1, by omega, rfl, by omega, ?_, ?_⟩ -- ROUND
          · simp only [go_sem, Nat.reduceEqDiff, Nat.reduceLT, Nat.reduceAdd, Nat.reduceMul, Nat.reduceSub, Nat.add_zero, Nat.zero_add, Int.reduceEq, Int.reduceLT]
            rw [i64w (by omega) (by omega), show ((ks.length - n : Nat) : Int) + 1 = ((ks.length - (n - 1) : Nat) : Int) by omega]
          · rw [show ks.length - (n - 1) = ks.length - n + 1 by omega, hst, List.all_append, hall2]
            simp [kdLt] at h54 ⊢
            exact h54
      · refine AWP.exit (Then.exit (Then.exit (InBlock.same ?_)))
        refine AWP.stepR [2] fun K hK => ?_
        simp only [go_sem, Nat.reduceEqDiff, Nat.reduceLT, Nat.reduceAdd, Nat.reduceMul, Nat.reduceSub, Nat.add_zero, Nat.zero_add, Int.reduceEq, Int.reduceLT]
        refine hK _ _ _ (by simp only [go_sem, Nat.reduceEqDiff, Nat.reduceLT, Nat.reduceAdd, Nat.reduceMul, Nat.reduceSub, Nat.add_zero, Nat.zero_add, Int.reduceEq, Int.reduceLT]; rfl) ?_; clear hK
        refine AWP.ret (?_)
        refine Fin.plain (.inr rfl) rfl rfl hok hg1 ⟨?_, rfl⟩
        have hn0 : n = 0 := by simp at h44; omega
        rw [hn0, Nat.sub_zero, List.take_length] at hall2
        rw [hlight, hall2, if_pos rfl]
end Go.Proofs.Ythheaehpnleiaaa.AX
