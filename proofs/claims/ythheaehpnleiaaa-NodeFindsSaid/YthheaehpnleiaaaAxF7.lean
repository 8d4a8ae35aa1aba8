/- What is wrong with an answer, by the document. -/
import Derived.Test.YthheaehpnleiaaaAxF6
namespace Go.Proofs.Ythheaehpnleiaaa.AX
open Go Go.Proofs
set_option maxRecDepth 100000
set_option linter.unusedVariables false
set_option linter.unusedSimpArgs false

theorem check16_spec (r : Rep) (vb vm vt vn vp vs : Value) (M : Mem) (hok : Ok M) (hr : RepR M r vb vm vt vn vp vs) (h1 : r.names.length ≤ 1000) (h2 : r.prefixes.length ≤ 1000) (h3 : r.shown.length ≤ 1000) :
    ∃ v M', ACall Try.prog 16 #[.agg (repC r vb vm vt vn vp vs).toArray] M v M' ∧ v = .int .i64 (checkF r) ∧ M' = M := by
  refine ACall.fin (args := [.agg (repC r vb vm vt vn vp vs).toArray]) (k := 76) Try.func16 rfl rfl rfl (Nat.le_of_ble_eq_true rfl) ?_
  refine AWP.stepR [1] fun K hK => ?_ -- r0
  simp only [go_sem, Nat.reduceEqDiff, Nat.reduceLT, Nat.reduceAdd, Nat.reduceMul, Nat.reduceSub, Nat.add_zero, Nat.zero_add, Int.reduceEq, Int.reduceLT]
  refine hK _ _ _ (by simp only [go_sem, Nat.reduceEqDiff, Nat.reduceLT, Nat.reduceAdd, Nat.reduceMul, Nat.reduceSub, Nat.add_zero, Nat.zero_add, Int.reduceEq, Int.reduceLT]; rfl) ?_; clear hK
  have hlt0 : M.next < (M.bump 1).next := Nat.lt_succ_self _
  have hg1 := ((Grew.refl M).bump 1).put (Nat.le_refl _) hlt0 ⟨repC r vb vm vt vn vp vs, 29, true⟩
  have hh1 := Has.put hlt0 ⟨repC r vb vm vt vn vp vs, 29, true⟩
  change AWP _ _ _ ⟨_, (M.bump 1).put M.next ⟨repC r vb vm vt vn vp vs, 29, true⟩⟩ _
  generalize hM1 : (M.bump 1).put M.next ⟨repC r vb vm vt vn vp vs, 29, true⟩ = M1 at hg1 hh1
  have hr := hr.grew hg1
  have hlt1 : M1.next < (M1.bump 1).next := Nat.lt_succ_self _
  have hg2 := ((Grew.refl M1).bump 1).put (Nat.le_refl _) hlt1 ⟨(repN r).map (Value.int .i64), 3, true⟩
  have hh2 := Has.put hlt1 ⟨(repN r).map (Value.int .i64), 3, true⟩
  generalize hM2 : (M1.bump 1).put M1.next ⟨(repN r).map (Value.int .i64), 3, true⟩ = M2 at hg2 hh2
  have hM2' : (M1.bump 1).put M1.next ⟨[.int .i64 r.code, .int .i64 r.id, .int .i64 r.seq, .int .i64 r.size, .int .i64 r.until_, .int .i64 r.upload, .int .i64 r.count], 3, true⟩ = M2 := hM2
  refine AWP.stepR [1, 3] fun K hK => ?_ -- r1
  simp only [go_sem, Nat.reduceEqDiff, Nat.reduceLT, Nat.reduceAdd, Nat.reduceMul, Nat.reduceSub, Nat.add_zero, Nat.zero_add, Int.reduceEq, Int.reduceLT, ld_22, ld_3, hh1.ld, repC, hM2']
  refine hK _ _ _ (by simp only [go_sem, Nat.reduceEqDiff, Nat.reduceLT, Nat.reduceAdd, Nat.reduceMul, Nat.reduceSub, Nat.add_zero, Nat.zero_add, Int.reduceEq, Int.reduceLT]; rfl) ?_; clear hK
  have hh1 := hh1.grew hg2
  have hr := hr.grew hg2
  have hgm := hg1.trans hg2
  have hrow : Row_ M2 (.slice (some ⟨M1.next, 0, none⟩) 7 7) (repN r).length ((repN r).map (Value.int .i64)) := Row_.of hh2
  generalize Value.slice (some ⟨M1.next, 0, none⟩) 7 7 = lv at hrow
  have hlen7 : (repN r).length = 7 := rfl
  generalize hns : repN r = ns at hrow hlen7
  refine AWP.seq ?_
  refine AWP.stepR [1, 3, 4] fun K hK => ?_ -- r2
  simp only [go_sem, Nat.reduceEqDiff, Nat.reduceLT, Nat.reduceAdd, Nat.reduceMul, Nat.reduceSub, Nat.add_zero, Nat.zero_add, Int.reduceEq, Int.reduceLT]
  refine hK _ _ _ (by simp only [go_sem, Nat.reduceEqDiff, Nat.reduceLT, Nat.reduceAdd, Nat.reduceMul, Nat.reduceSub, Nat.add_zero, Nat.zero_add, Int.reduceEq, Int.reduceLT]; rfl) ?_; clear hK
  refine AWP.block ?_ -- b0
  refine AWP.loopK [1, 3, 4] (fun n e M0 => n ≤ ns.length ∧ M0 = M2 ∧ e = [(1, .pointer (some ⟨M.next, 0, none⟩)), (3, lv), (4, .int .i64 ((ns.length - n : Nat) : Int))] ∧ (ns.take (ns.length - n)).all numOk = true) ns.length ?_ fun n e M0 hI => ?_ -- LOOP
  · simp only [go_sem, Nat.reduceEqDiff, Nat.reduceLT, Nat.reduceAdd, Nat.reduceMul, Nat.reduceSub, Nat.add_zero, Nat.zero_add, Int.reduceEq, Int.reduceLT, Nat.le_refl]
    exact ⟨by simp, by simp⟩
  obtain ⟨hn', rfl, rfl, hall⟩ := hI
  refine AWP.seq ?_
  refine AWP.stepR [1, 3, 4, 24] fun K hK => ?_ -- r3
  simp only [go_sem, Nat.reduceEqDiff, Nat.reduceLT, Nat.reduceAdd, Nat.reduceMul, Nat.reduceSub, Nat.add_zero, Nat.zero_add, Int.reduceEq, Int.reduceLT, hrow.len es_66]
  refine hK _ _ _ (by simp only [go_sem, Nat.reduceEqDiff, Nat.reduceLT, Nat.reduceAdd, Nat.reduceMul, Nat.reduceSub, Nat.add_zero, Nat.zero_add, Int.reduceEq, Int.reduceLT]; rfl) ?_; clear hK
  refine AWP.cond_split rfl (fun h24 => ?_) fun h24 => ?_
  · have hlt : ns.length - n < ns.length := by simpa using h24
    obtain ⟨b, q, ha, hd⟩ := hrow.at1 (by simp) es_66 hlt
    have hd := hd M0 (Grew.refl _)
    rw [show (ns.map (Value.int .i64))[ns.length - n]? = some (.int .i64 ns[ns.length - n]) by simp [hlt]] at hd
    generalize hxx : ns[ns.length - n] = x at hd
    obtain ⟨r3, M3, hc3, hr3, hM3⟩ := small47_spec x M0 (hgm.ok hok)
    rw [hr3, hM3] at hc3
    refine AWP.skip ?_
    refine AWP.seq ?_
    refine AWP.block ?_ -- b1
    refine AWP.stepR [1, 3, 4, 32] fun K hK => ?_ -- r5
    simp only [go_sem, Nat.reduceEqDiff, Nat.reduceLT, Nat.reduceAdd, Nat.reduceMul, Nat.reduceSub, Nat.add_zero, Nat.zero_add, Int.reduceEq, Int.reduceLT, ha, ld_3, hd]
    refine ⟨_, _, hc3, ?_⟩
    refine hK _ _ _ (by simp only [go_sem, Nat.reduceEqDiff, Nat.reduceLT, Nat.reduceAdd, Nat.reduceMul, Nat.reduceSub, Nat.add_zero, Nat.zero_add, Int.reduceEq, Int.reduceLT]; rfl) ?_; clear hK
    refine AWP.cond_split rfl (fun h32 => ?_) fun h32 => ?_
    · refine AWP.stepR [2] fun K hK => ?_ -- r6
      simp only [go_sem, Nat.reduceEqDiff, Nat.reduceLT, Nat.reduceAdd, Nat.reduceMul, Nat.reduceSub, Nat.add_zero, Nat.zero_add, Int.reduceEq, Int.reduceLT]
      refine hK _ _ _ (by simp only [go_sem, Nat.reduceEqDiff, Nat.reduceLT, Nat.reduceAdd, Nat.reduceMul, Nat.reduceSub, Nat.add_zero, Nat.zero_add, Int.reduceEq, Int.reduceLT]; rfl) ?_; clear hK
      refine AWP.ret (InBlock.ret (Then.ret (Then.ret (InBlock.ret (Then.ret (?_))))))
      refine Fin.plain (.inr rfl) rfl rfl hok hgm ⟨?_, rfl⟩
      have hf : (repN r).all numOk = false := hns ▸ List.all_eq_false.2 ⟨x, hxx ▸ List.getElem_mem hlt, by simpa using h32⟩
      rw [checkF, hf]; simp
    · refine AWP.skip ?_
      refine AWP.lastR fun K hK => ?_ -- r4
      simp only [go_sem, Nat.reduceEqDiff, Nat.reduceLT, Nat.reduceAdd, Nat.reduceMul, Nat.reduceSub, Nat.add_zero, Nat.zero_add, Int.reduceEq, Int.reduceLT]
      refine hK _ _ ?_; clear hK
      refine ⟨n - 1, by omega, by omega, rfl, ?_, ?_⟩ -- ROUND
      · simp only [go_sem, Nat.reduceEqDiff, Nat.reduceLT, Nat.reduceAdd, Nat.reduceMul, Nat.reduceSub, Nat.add_zero, Nat.zero_add, Int.reduceEq, Int.reduceLT]
        rw [i64w (by omega) (by omega), show ((ns.length - n : Nat) : Int) + 1 = ((ns.length - (n - 1) : Nat) : Int) by omega]
      · rw [show ns.length - (n - 1) = ns.length - n + 1 by omega, List.take_succ_eq_append_getElem hlt, List.all_append, hall, hxx]
        simpa using h32
  · refine AWP.exit (Then.exit (Then.exit (InBlock.same ?_))) -- x0
    have hn0 : n = 0 := by simp at h24; omega
    rw [hn0, Nat.sub_zero, List.take_length, ← hns] at hall
    have hn1 : decide ((r.names.length : Int) > 65536) = false := decide_eq_false (by omega)
    have hn2 : decide ((r.prefixes.length : Int) > 65536) = false := decide_eq_false (by omega)
    have hn3 : decide ((r.shown.length : Int) > 65536) = false := decide_eq_false (by omega)
    refine AWP.seq ?_
    refine AWP.stepR [1, 50] fun K hK => ?_ -- r7
    simp only [go_sem, Nat.reduceEqDiff, Nat.reduceLT, Nat.reduceAdd, Nat.reduceMul, Nat.reduceSub, Nat.add_zero, Nat.zero_add, Int.reduceEq, Int.reduceLT, ld_24, ld_27, hh1.ld, repC, hr.names.len es_24, hr.prefixes.len es_24, hr.shown.len es_27, hn1, hn2, hn3]
    refine hK _ _ _ (by simp only [go_sem, Nat.reduceEqDiff, Nat.reduceLT, Nat.reduceAdd, Nat.reduceMul, Nat.reduceSub, Nat.add_zero, Nat.zero_add, Int.reduceEq, Int.reduceLT]; rfl) ?_; clear hK
    refine AWP.cond_split rfl (fun h50 => ?_) fun h50 => ?_
    · cases h50
    · refine AWP.skip ?_
      refine AWP.seq ?_
      refine AWP.stepR [1, 5] fun K hK => ?_ -- r9
      simp only [go_sem, Nat.reduceEqDiff, Nat.reduceLT, Nat.reduceAdd, Nat.reduceMul, Nat.reduceSub, Nat.add_zero, Nat.zero_add, Int.reduceEq, Int.reduceLT]
      refine hK _ _ _ (by simp only [go_sem, Nat.reduceEqDiff, Nat.reduceLT, Nat.reduceAdd, Nat.reduceMul, Nat.reduceSub, Nat.add_zero, Nat.zero_add, Int.reduceEq, Int.reduceLT]; rfl) ?_; clear hK
      refine AWP.block ?_ -- b2
      refine AWP.loopK [1, 5] (fun n e M2 => n ≤ r.shown.length ∧ M2 = M0 ∧ e = [(1, .pointer (some ⟨M.next, 0, none⟩)), (5, .int .i64 ((r.shown.length - n : Nat) : Int))] ∧ (r.shown.take (r.shown.length - n)).all shwOk = true) r.shown.length ?_ fun n e M2 hI => ?_ -- LOOP
      · simp only [go_sem, Nat.reduceEqDiff, Nat.reduceLT, Nat.reduceAdd, Nat.reduceMul, Nat.reduceSub, Nat.add_zero, Nat.zero_add, Int.reduceEq, Int.reduceLT, Nat.le_refl]
        exact ⟨by simp, by simp⟩
      obtain ⟨hn', rfl, rfl, hall2⟩ := hI
      refine AWP.seq ?_
      refine AWP.stepR [1, 5, 55] fun K hK => ?_ -- r10
      simp only [go_sem, Nat.reduceEqDiff, Nat.reduceLT, Nat.reduceAdd, Nat.reduceMul, Nat.reduceSub, Nat.add_zero, Nat.zero_add, Int.reduceEq, Int.reduceLT, ld_27, hh1.ld, repC, hr.shown.len es_27]
      refine hK _ _ _ (by simp only [go_sem, Nat.reduceEqDiff, Nat.reduceLT, Nat.reduceAdd, Nat.reduceMul, Nat.reduceSub, Nat.add_zero, Nat.zero_add, Int.reduceEq, Int.reduceLT]; rfl) ?_; clear hK
      refine AWP.cond_split rfl (fun h55 => ?_) fun h55 => ?_
      · have hlt : r.shown.length - n < r.shown.length := by simpa using h55
        obtain ⟨b, q, ha, hd⟩ := hr.shown.at (flatMap_len shwC_len _) es_27 hlt
        have hd1 := (hd M2 (Grew.refl _)).1 1 (by decide)
        have hd2 := (hd M2 (Grew.refl _)).1 2 (by decide)
        rw [flatMap_cell shwC_len _ _ hlt (by decide)] at hd1 hd2
        generalize hx : r.shown[r.shown.length - n] = x at hd1 hd2
        obtain ⟨r3, M3, hc3, hr3, hM3⟩ := small47_spec x.id M2 (hgm.ok hok)
        rw [hr3, hM3] at hc3
        obtain ⟨r4, M4, hc4, hr4, hM4⟩ := small47_spec x.size M2 (hgm.ok hok)
        rw [hr4, hM4] at hc4
        refine AWP.skip ?_
        refine AWP.seq ?_
        refine AWP.block ?_ -- b3
        refine AWP.stepX [1, 5, 75] [(1, .pointer (some ⟨M.next, 0, none⟩)), (5, .int .i64 ((r.shown.length - n : Nat) : Int)), (75, .bool (!shwOk x))] M2 (fun K hK => ?_) ?_ -- r12
        · cases hid : numOk x.id
          · rw [hid] at hc3
            simp only [go_sem, Nat.reduceEqDiff, Nat.reduceLT, Nat.reduceAdd, Nat.reduceMul, Nat.reduceSub, Nat.add_zero, Nat.zero_add, Int.reduceEq, Int.reduceLT, ld_27, hh1.ld, repC, ha, ld_3, hd1, shwC]
            refine ⟨_, _, hc3, ?_⟩
            simp only [go_sem, Nat.reduceEqDiff, Nat.reduceLT, Nat.reduceAdd, Nat.reduceMul, Nat.reduceSub, Nat.add_zero, Nat.zero_add, Int.reduceEq, Int.reduceLT]
            refine hK _ (by simp only [go_sem, Nat.reduceEqDiff, Nat.reduceLT, Nat.reduceAdd, Nat.reduceMul, Nat.reduceSub, Nat.add_zero, Nat.zero_add, Int.reduceEq, Int.reduceLT, shwOk, hid, Bool.false_and])
          · rw [hid] at hc3
            simp only [go_sem, Nat.reduceEqDiff, Nat.reduceLT, Nat.reduceAdd, Nat.reduceMul, Nat.reduceSub, Nat.add_zero, Nat.zero_add, Int.reduceEq, Int.reduceLT, ld_27, hh1.ld, repC, ha, ld_3, hd1, hd2, shwC]
            refine ⟨_, _, hc3, ?_⟩
            simp only [go_sem, Nat.reduceEqDiff, Nat.reduceLT, Nat.reduceAdd, Nat.reduceMul, Nat.reduceSub, Nat.add_zero, Nat.zero_add, Int.reduceEq, Int.reduceLT, ld_27, hh1.ld, repC, ha, ld_3, hd1, hd2, shwC]
            refine ⟨_, _, hc4, ?_⟩
            refine hK _ (by simp only [go_sem, Nat.reduceEqDiff, Nat.reduceLT, Nat.reduceAdd, Nat.reduceMul, Nat.reduceSub, Nat.add_zero, Nat.zero_add, Int.reduceEq, Int.reduceLT, shwOk, hid])
        refine AWP.cond_split rfl (fun h75 => ?_) fun h75 => ?_
        · refine AWP.stepR [2] fun K hK => ?_ -- r13
          simp only [go_sem, Nat.reduceEqDiff, Nat.reduceLT, Nat.reduceAdd, Nat.reduceMul, Nat.reduceSub, Nat.add_zero, Nat.zero_add, Int.reduceEq, Int.reduceLT]
          refine hK _ _ _ (by simp only [go_sem, Nat.reduceEqDiff, Nat.reduceLT, Nat.reduceAdd, Nat.reduceMul, Nat.reduceSub, Nat.add_zero, Nat.zero_add, Int.reduceEq, Int.reduceLT]; rfl) ?_; clear hK
          refine AWP.ret (InBlock.ret (Then.ret (Then.ret (InBlock.ret (Then.ret (?_))))))
          refine Fin.plain (.inr rfl) rfl rfl hok hgm ⟨?_, rfl⟩
          have hf : r.shown.all shwOk = false := List.all_eq_false.2 ⟨x, hx ▸ List.getElem_mem hlt, by simpa using h75⟩
          rw [checkF, hf]; simp
        · refine AWP.skip ?_
          refine AWP.lastR fun K hK => ?_ -- r11
          simp only [go_sem, Nat.reduceEqDiff, Nat.reduceLT, Nat.reduceAdd, Nat.reduceMul, Nat.reduceSub, Nat.add_zero, Nat.zero_add, Int.reduceEq, Int.reduceLT]
          refine hK _ _ ?_; clear hK
          refine ⟨n - 1, by omega, by omega, rfl, ?_, ?_⟩ -- ROUND
          · simp only [go_sem, Nat.reduceEqDiff, Nat.reduceLT, Nat.reduceAdd, Nat.reduceMul, Nat.reduceSub, Nat.add_zero, Nat.zero_add, Int.reduceEq, Int.reduceLT]
            rw [i64w (by omega) (by omega), show ((r.shown.length - n : Nat) : Int) + 1 = ((r.shown.length - (n - 1) : Nat) : Int) by omega]
          · rw [show r.shown.length - (n - 1) = r.shown.length - n + 1 by omega, List.take_succ_eq_append_getElem hlt, List.all_append, hall2, hx]
            simpa using h75
      · refine AWP.exit (Then.exit (Then.exit (InBlock.same ?_))) -- x2
        refine AWP.stepR [2] fun K hK => ?_ -- r14
        simp only [go_sem, Nat.reduceEqDiff, Nat.reduceLT, Nat.reduceAdd, Nat.reduceMul, Nat.reduceSub, Nat.add_zero, Nat.zero_add, Int.reduceEq, Int.reduceLT]
        refine hK _ _ _ (by simp only [go_sem, Nat.reduceEqDiff, Nat.reduceLT, Nat.reduceAdd, Nat.reduceMul, Nat.reduceSub, Nat.add_zero, Nat.zero_add, Int.reduceEq, Int.reduceLT]; rfl) ?_; clear hK
        refine AWP.ret (?_)
        refine Fin.plain (.inr rfl) rfl rfl hok hgm ⟨?_, rfl⟩
        have hn0 : n = 0 := by simp at h55; omega
        rw [hn0, Nat.sub_zero, List.take_length] at hall2
        rw [checkF, if_pos hall, hall2, if_pos rfl]
end Go.Proofs.Ythheaehpnleiaaa.AX
