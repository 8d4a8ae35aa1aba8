/- An answer that is no more than is waited for. -/
import Derived.Test.YthheaehpnleiaaaNodePuts9
namespace Go.Proofs.Ythheaehpnleiaaa.AX
open Go Go.Proofs
set_option maxRecDepth 100000
set_option linter.unusedVariables false
set_option linter.unusedSimpArgs false

def lightA (r : Rep) : Bool := decide (r.body.length ≤ 2000 ∧ r.meta_.length ≤ 300 ∧ r.tags.length ≤ 300 ∧ r.names.length ≤ 40 ∧ r.prefixes.length ≤ 40 ∧ r.next.size ≤ 300 ∧ r.shown.length ≤ 40)
def short (s : ByteArray) : Bool := decide (s.size ≤ 300)
def shortS (s : Shw) : Bool := decide (s.name.size ≤ 300)
def lightF (r : Rep) : Bool := lightA r && r.names.all short && r.prefixes.all short && r.shown.all shortS

theorem light10_spec (r : Rep) (vb vm vt vn vp vs : Value) (M : Mem) (hok : Ok M) (hr : RepR M r vb vm vt vn vp vs) :
    ∃ v M', ACall Try.prog 10 #[.agg (repC r vb vm vt vn vp vs).toArray] M v M' ∧ v = .bool (lightF r) ∧ M' = M := by
  refine ACall.fin (args := [.agg (repC r vb vm vt vn vp vs).toArray]) (k := 96) Try.func10 rfl rfl rfl (Nat.le_of_ble_eq_true rfl) ?_
  refine AWP.stepR [1] fun K hK => ?_ -- r0
  simp only [go_sem, Nat.reduceEqDiff, Nat.reduceLT, Nat.reduceAdd, Nat.reduceMul, Nat.reduceSub, Nat.add_zero, Nat.zero_add, Int.reduceEq, Int.reduceLT]
  refine hK _ _ _ (by simp only [go_sem, Nat.reduceEqDiff, Nat.reduceLT, Nat.reduceAdd, Nat.reduceMul, Nat.reduceSub, Nat.add_zero, Nat.zero_add, Int.reduceEq, Int.reduceLT]; rfl) ?_; clear hK
  have hlt0 : M.next < (M.bump 1).next := Nat.lt_succ_self _
  have hg1 := ((Grew.refl M).bump 1).put (Nat.le_refl _) hlt0 ⟨repC r vb vm vt vn vp vs, 29, true⟩
  have hh1 := Has.put hlt0 ⟨repC r vb vm vt vn vp vs, 29, true⟩
  change AWP _ _ _ ⟨_, (M.bump 1).put M.next ⟨repC r vb vm vt vn vp vs, 29, true⟩⟩ _
  generalize hM1 : (M.bump 1).put M.next ⟨repC r vb vm vt vn vp vs, 29, true⟩ = M1 at hg1 hh1
  have hr := hr.grew hg1
  refine AWP.seq ?_
  refine AWP.stepX [1, 48] [(1, .pointer (some ⟨M.next, 0, none⟩)), (48, .bool (!lightA r))] M1 (fun K hK => ?_) ?_ -- r1
  · by_cases c0 : (r.body.length : Int) > 2000
    · have d0 : decide ((r.body.length : Int) > 2000) = true := decide_eq_true c0
      simp -implicitDefEqProofs only [go_sem, Nat.reduceEqDiff, Nat.reduceLT, Nat.reduceAdd, Nat.reduceMul, Nat.reduceSub, Nat.add_zero, Nat.zero_add, Int.reduceEq, Int.reduceLT, ld_23, ld_24, ld_27, ld_9, hh1.ld, repC, hr.body.len es_23, hr.meta_.len es_23, hr.tags.len es_23, hr.names.len es_24, hr.prefixes.len es_24, hr.shown.len es_27, d0]
      exact hK _ (by simp only [go_sem, Nat.reduceEqDiff, Nat.reduceLT, Nat.reduceAdd, Nat.reduceMul, Nat.reduceSub, Nat.add_zero, Nat.zero_add, Int.reduceEq, Int.reduceLT]; rw [show lightA r = false from decide_eq_false (by omega)]; rfl)
    have d0 : decide ((r.body.length : Int) > 2000) = false := decide_eq_false c0
    by_cases c1 : (r.meta_.length : Int) > 300
    · have d1 : decide ((r.meta_.length : Int) > 300) = true := decide_eq_true c1
      simp -implicitDefEqProofs only [go_sem, Nat.reduceEqDiff, Nat.reduceLT, Nat.reduceAdd, Nat.reduceMul, Nat.reduceSub, Nat.add_zero, Nat.zero_add, Int.reduceEq, Int.reduceLT, ld_23, ld_24, ld_27, ld_9, hh1.ld, repC, hr.body.len es_23, hr.meta_.len es_23, hr.tags.len es_23, hr.names.len es_24, hr.prefixes.len es_24, hr.shown.len es_27, d0, d1]
      exact hK _ (by simp only [go_sem, Nat.reduceEqDiff, Nat.reduceLT, Nat.reduceAdd, Nat.reduceMul, Nat.reduceSub, Nat.add_zero, Nat.zero_add, Int.reduceEq, Int.reduceLT]; rw [show lightA r = false from decide_eq_false (by omega)]; rfl)
    have d1 : decide ((r.meta_.length : Int) > 300) = false := decide_eq_false c1
    by_cases c2 : (r.tags.length : Int) > 300
    · have d2 : decide ((r.tags.length : Int) > 300) = true := decide_eq_true c2
      simp -implicitDefEqProofs only [go_sem, Nat.reduceEqDiff, Nat.reduceLT, Nat.reduceAdd, Nat.reduceMul, Nat.reduceSub, Nat.add_zero, Nat.zero_add, Int.reduceEq, Int.reduceLT, ld_23, ld_24, ld_27, ld_9, hh1.ld, repC, hr.body.len es_23, hr.meta_.len es_23, hr.tags.len es_23, hr.names.len es_24, hr.prefixes.len es_24, hr.shown.len es_27, d0, d1, d2]
      exact hK _ (by simp only [go_sem, Nat.reduceEqDiff, Nat.reduceLT, Nat.reduceAdd, Nat.reduceMul, Nat.reduceSub, Nat.add_zero, Nat.zero_add, Int.reduceEq, Int.reduceLT]; rw [show lightA r = false from decide_eq_false (by omega)]; rfl)
    have d2 : decide ((r.tags.length : Int) > 300) = false := decide_eq_false c2
    by_cases c3 : (r.names.length : Int) > 40
    · have d3 : decide ((r.names.length : Int) > 40) = true := decide_eq_true c3
      simp -implicitDefEqProofs only [go_sem, Nat.reduceEqDiff, Nat.reduceLT, Nat.reduceAdd, Nat.reduceMul, Nat.reduceSub, Nat.add_zero, Nat.zero_add, Int.reduceEq, Int.reduceLT, ld_23, ld_24, ld_27, ld_9, hh1.ld, repC, hr.body.len es_23, hr.meta_.len es_23, hr.tags.len es_23, hr.names.len es_24, hr.prefixes.len es_24, hr.shown.len es_27, d0, d1, d2, d3]
      exact hK _ (by simp only [go_sem, Nat.reduceEqDiff, Nat.reduceLT, Nat.reduceAdd, Nat.reduceMul, Nat.reduceSub, Nat.add_zero, Nat.zero_add, Int.reduceEq, Int.reduceLT]; rw [show lightA r = false from decide_eq_false (by omega)]; rfl)
    have d3 : decide ((r.names.length : Int) > 40) = false := decide_eq_false c3
    by_cases c4 : (r.prefixes.length : Int) > 40
    · have d4 : decide ((r.prefixes.length : Int) > 40) = true := decide_eq_true c4
      simp -implicitDefEqProofs only [go_sem, Nat.reduceEqDiff, Nat.reduceLT, Nat.reduceAdd, Nat.reduceMul, Nat.reduceSub, Nat.add_zero, Nat.zero_add, Int.reduceEq, Int.reduceLT, ld_23, ld_24, ld_27, ld_9, hh1.ld, repC, hr.body.len es_23, hr.meta_.len es_23, hr.tags.len es_23, hr.names.len es_24, hr.prefixes.len es_24, hr.shown.len es_27, d0, d1, d2, d3, d4]
      exact hK _ (by simp only [go_sem, Nat.reduceEqDiff, Nat.reduceLT, Nat.reduceAdd, Nat.reduceMul, Nat.reduceSub, Nat.add_zero, Nat.zero_add, Int.reduceEq, Int.reduceLT]; rw [show lightA r = false from decide_eq_false (by omega)]; rfl)
    have d4 : decide ((r.prefixes.length : Int) > 40) = false := decide_eq_false c4
    by_cases c5 : (r.next.size : Int) > 300
    · have d5 : decide ((r.next.size : Int) > 300) = true := decide_eq_true c5
      simp -implicitDefEqProofs only [go_sem, Nat.reduceEqDiff, Nat.reduceLT, Nat.reduceAdd, Nat.reduceMul, Nat.reduceSub, Nat.add_zero, Nat.zero_add, Int.reduceEq, Int.reduceLT, ld_23, ld_24, ld_27, ld_9, hh1.ld, repC, hr.body.len es_23, hr.meta_.len es_23, hr.tags.len es_23, hr.names.len es_24, hr.prefixes.len es_24, hr.shown.len es_27, d0, d1, d2, d3, d4, d5]
      exact hK _ (by simp only [go_sem, Nat.reduceEqDiff, Nat.reduceLT, Nat.reduceAdd, Nat.reduceMul, Nat.reduceSub, Nat.add_zero, Nat.zero_add, Int.reduceEq, Int.reduceLT]; rw [show lightA r = false from decide_eq_false (by omega)]; rfl)
    have d5 : decide ((r.next.size : Int) > 300) = false := decide_eq_false c5
    by_cases c6 : (r.shown.length : Int) > 40
    · have d6 : decide ((r.shown.length : Int) > 40) = true := decide_eq_true c6
      simp -implicitDefEqProofs only [go_sem, Nat.reduceEqDiff, Nat.reduceLT, Nat.reduceAdd, Nat.reduceMul, Nat.reduceSub, Nat.add_zero, Nat.zero_add, Int.reduceEq, Int.reduceLT, ld_23, ld_24, ld_27, ld_9, hh1.ld, repC, hr.body.len es_23, hr.meta_.len es_23, hr.tags.len es_23, hr.names.len es_24, hr.prefixes.len es_24, hr.shown.len es_27, d0, d1, d2, d3, d4, d5, d6]
      exact hK _ (by simp only [go_sem, Nat.reduceEqDiff, Nat.reduceLT, Nat.reduceAdd, Nat.reduceMul, Nat.reduceSub, Nat.add_zero, Nat.zero_add, Int.reduceEq, Int.reduceLT]; rw [show lightA r = false from decide_eq_false (by omega)]; rfl)
    have d6 : decide ((r.shown.length : Int) > 40) = false := decide_eq_false c6
    simp -implicitDefEqProofs only [go_sem, Nat.reduceEqDiff, Nat.reduceLT, Nat.reduceAdd, Nat.reduceMul, Nat.reduceSub, Nat.add_zero, Nat.zero_add, Int.reduceEq, Int.reduceLT, ld_23, ld_24, ld_27, ld_9, hh1.ld, repC, hr.body.len es_23, hr.meta_.len es_23, hr.tags.len es_23, hr.names.len es_24, hr.prefixes.len es_24, hr.shown.len es_27, d0, d1, d2, d3, d4, d5, d6]
    exact hK _ (by simp only [go_sem, Nat.reduceEqDiff, Nat.reduceLT, Nat.reduceAdd, Nat.reduceMul, Nat.reduceSub, Nat.add_zero, Nat.zero_add, Int.reduceEq, Int.reduceLT]; rw [show lightA r = true from decide_eq_true (by omega)]; rfl)
  refine AWP.cond_split rfl (fun h48 => ?_) fun h48 => ?_
  · refine AWP.stepR [2] fun K hK => ?_ -- r2
    simp only [go_sem, Nat.reduceEqDiff, Nat.reduceLT, Nat.reduceAdd, Nat.reduceMul, Nat.reduceSub, Nat.add_zero, Nat.zero_add, Int.reduceEq, Int.reduceLT]
    refine hK _ _ _ (by simp only [go_sem, Nat.reduceEqDiff, Nat.reduceLT, Nat.reduceAdd, Nat.reduceMul, Nat.reduceSub, Nat.add_zero, Nat.zero_add, Int.reduceEq, Int.reduceLT]; rfl) ?_; clear hK
    refine AWP.ret (Then.ret (?_))
    exact Fin.plain (.inr rfl) rfl rfl hok hg1 ⟨by rw [lightF, show lightA r = false by simpa using h48]; rfl, rfl⟩
  · have hA : lightA r = true := by simpa using h48
    have hA' := of_decide_eq_true hA
    refine AWP.skip ?_
    refine AWP.seq ?_
    refine AWP.stepR [1, 3] fun K hK => ?_
    simp only [go_sem, Nat.reduceEqDiff, Nat.reduceLT, Nat.reduceAdd, Nat.reduceMul, Nat.reduceSub, Nat.add_zero, Nat.zero_add, Int.reduceEq, Int.reduceLT]
    refine hK _ _ _ (by simp only [go_sem, Nat.reduceEqDiff, Nat.reduceLT, Nat.reduceAdd, Nat.reduceMul, Nat.reduceSub, Nat.add_zero, Nat.zero_add, Int.reduceEq, Int.reduceLT]; rfl) ?_; clear hK
    refine AWP.block ?_ -- b0
    refine AWP.loopK [1, 3] (fun n e M2 => n ≤ r.names.length ∧ M2 = M1 ∧ e = [(1, .pointer (some ⟨M.next, 0, none⟩)), (3, .int .i64 ((r.names.length - n : Nat) : Int))] ∧ (r.names.take (r.names.length - n)).all short = true) r.names.length ?_ fun n e M2 hI => ?_ -- LOOP
    · simp only [go_sem, Nat.reduceEqDiff, Nat.reduceLT, Nat.reduceAdd, Nat.reduceMul, Nat.reduceSub, Nat.add_zero, Nat.zero_add, Int.reduceEq, Int.reduceLT, Nat.le_refl]
      exact ⟨by simp, by simp⟩
    obtain ⟨hn', rfl, rfl, hall⟩ := hI
    refine AWP.seq ?_
    refine AWP.stepR [1, 3, 54] fun K hK => ?_
    simp only [go_sem, Nat.reduceEqDiff, Nat.reduceLT, Nat.reduceAdd, Nat.reduceMul, Nat.reduceSub, Nat.add_zero, Nat.zero_add, Int.reduceEq, Int.reduceLT, ld_24, ld_27, hh1.ld, repC, hr.names.len es_24]
    refine hK _ _ _ (by simp only [go_sem, Nat.reduceEqDiff, Nat.reduceLT, Nat.reduceAdd, Nat.reduceMul, Nat.reduceSub, Nat.add_zero, Nat.zero_add, Int.reduceEq, Int.reduceLT]; rfl) ?_; clear hK
    refine AWP.cond_split rfl (fun h54 => ?_) fun h54 => ?_
    · have hlt : r.names.length - n < r.names.length := by simpa using h54
      obtain ⟨b, q, ha, hd⟩ := hr.names.at1 (by simp) es_24 hlt
      have hd := hd M2 (Grew.refl _)
      rw [show (r.names.map Value.string)[r.names.length - n]? = some (.string r.names[r.names.length - n]) by simp [hlt]] at hd
      generalize hx : r.names[r.names.length - n] = x at hd
      refine AWP.skip ?_
      refine AWP.seq ?_
      refine AWP.block ?_ -- b1
      refine AWP.stepR [1, 3, 64] fun K hK => ?_
      simp only [go_sem, Nat.reduceEqDiff, Nat.reduceLT, Nat.reduceAdd, Nat.reduceMul, Nat.reduceSub, Nat.add_zero, Nat.zero_add, Int.reduceEq, Int.reduceLT, ld_24, ld_27, ld_9, hh1.ld, repC, ha, hd, shwC]
      refine hK _ _ _ (by simp only [go_sem, Nat.reduceEqDiff, Nat.reduceLT, Nat.reduceAdd, Nat.reduceMul, Nat.reduceSub, Nat.add_zero, Nat.zero_add, Int.reduceEq, Int.reduceLT]; rfl) ?_; clear hK
      refine AWP.cond_split rfl (fun h64 => ?_) fun h64 => ?_
      · refine AWP.stepR [2] fun K hK => ?_
        simp only [go_sem, Nat.reduceEqDiff, Nat.reduceLT, Nat.reduceAdd, Nat.reduceMul, Nat.reduceSub, Nat.add_zero, Nat.zero_add, Int.reduceEq, Int.reduceLT]
        refine hK _ _ _ (by simp only [go_sem, Nat.reduceEqDiff, Nat.reduceLT, Nat.reduceAdd, Nat.reduceMul, Nat.reduceSub, Nat.add_zero, Nat.zero_add, Int.reduceEq, Int.reduceLT]; rfl) ?_; clear hK
        refine AWP.ret (InBlock.ret (Then.ret (Then.ret (InBlock.ret (Then.ret (?_))))))
        refine Fin.plain (.inr rfl) rfl rfl hok hg1 ⟨?_, rfl⟩
        have hf : r.names.all short = false := List.all_eq_false.2 ⟨x, hx ▸ List.getElem_mem hlt, by simp [short] at h64 ⊢; omega⟩
        rw [lightF, hf]; simp
      · refine AWP.skip ?_
        refine AWP.lastR fun K hK => ?_
        simp only [go_sem, Nat.reduceEqDiff, Nat.reduceLT, Nat.reduceAdd, Nat.reduceMul, Nat.reduceSub, Nat.add_zero, Nat.zero_add, Int.reduceEq, Int.reduceLT]
        refine hK _ _ ?_; clear hK
        refine ⟨n - 1, by omega, by omega, rfl, ?_, ?_⟩ -- ROUND
        · simp only [go_sem, Nat.reduceEqDiff, Nat.reduceLT, Nat.reduceAdd, Nat.reduceMul, Nat.reduceSub, Nat.add_zero, Nat.zero_add, Int.reduceEq, Int.reduceLT]
          rw [i64w (by omega) (by omega), show ((r.names.length - n : Nat) : Int) + 1 = ((r.names.length - (n - 1) : Nat) : Int) by omega]
        · rw [show r.names.length - (n - 1) = r.names.length - n + 1 by omega, List.take_succ_eq_append_getElem hlt, List.all_append, hall, hx]
          simp [short] at h64 ⊢; omega
    · refine AWP.exit (Then.exit (Then.exit (InBlock.same ?_)))
      have hn0 : n = 0 := by simp at h54; omega
      rw [hn0, Nat.sub_zero, List.take_length] at hall
      have hall0 := hall
      clear hall
      refine AWP.seq ?_
      refine AWP.stepR [1, 4] fun K hK => ?_
      simp only [go_sem, Nat.reduceEqDiff, Nat.reduceLT, Nat.reduceAdd, Nat.reduceMul, Nat.reduceSub, Nat.add_zero, Nat.zero_add, Int.reduceEq, Int.reduceLT]
      refine hK _ _ _ (by simp only [go_sem, Nat.reduceEqDiff, Nat.reduceLT, Nat.reduceAdd, Nat.reduceMul, Nat.reduceSub, Nat.add_zero, Nat.zero_add, Int.reduceEq, Int.reduceLT]; rfl) ?_; clear hK
      refine AWP.block ?_ -- b2
      refine AWP.loopK [1, 4] (fun n e M3 => n ≤ r.prefixes.length ∧ M3 = M2 ∧ e = [(1, .pointer (some ⟨M.next, 0, none⟩)), (4, .int .i64 ((r.prefixes.length - n : Nat) : Int))] ∧ (r.prefixes.take (r.prefixes.length - n)).all short = true) r.prefixes.length ?_ fun n e M3 hI => ?_ -- LOOP
      · simp only [go_sem, Nat.reduceEqDiff, Nat.reduceLT, Nat.reduceAdd, Nat.reduceMul, Nat.reduceSub, Nat.add_zero, Nat.zero_add, Int.reduceEq, Int.reduceLT, Nat.le_refl]
        exact ⟨by simp, by simp⟩
      obtain ⟨hn', rfl, rfl, hall⟩ := hI
      refine AWP.seq ?_
      refine AWP.stepR [1, 4, 70] fun K hK => ?_
      simp only [go_sem, Nat.reduceEqDiff, Nat.reduceLT, Nat.reduceAdd, Nat.reduceMul, Nat.reduceSub, Nat.add_zero, Nat.zero_add, Int.reduceEq, Int.reduceLT, ld_24, ld_27, hh1.ld, repC, hr.prefixes.len es_24]
      refine hK _ _ _ (by simp only [go_sem, Nat.reduceEqDiff, Nat.reduceLT, Nat.reduceAdd, Nat.reduceMul, Nat.reduceSub, Nat.add_zero, Nat.zero_add, Int.reduceEq, Int.reduceLT]; rfl) ?_; clear hK
      refine AWP.cond_split rfl (fun h70 => ?_) fun h70 => ?_
      · have hlt : r.prefixes.length - n < r.prefixes.length := by simpa using h70
        obtain ⟨b, q, ha, hd⟩ := hr.prefixes.at1 (by simp) es_24 hlt
        have hd := hd M3 (Grew.refl _)
        rw [show (r.prefixes.map Value.string)[r.prefixes.length - n]? = some (.string r.prefixes[r.prefixes.length - n]) by simp [hlt]] at hd
        generalize hx : r.prefixes[r.prefixes.length - n] = x at hd
        refine AWP.skip ?_
        refine AWP.seq ?_
        refine AWP.block ?_ -- b3
        refine AWP.stepR [1, 4, 80] fun K hK => ?_
        simp only [go_sem, Nat.reduceEqDiff, Nat.reduceLT, Nat.reduceAdd, Nat.reduceMul, Nat.reduceSub, Nat.add_zero, Nat.zero_add, Int.reduceEq, Int.reduceLT, ld_24, ld_27, ld_9, hh1.ld, repC, ha, hd, shwC]
        refine hK _ _ _ (by simp only [go_sem, Nat.reduceEqDiff, Nat.reduceLT, Nat.reduceAdd, Nat.reduceMul, Nat.reduceSub, Nat.add_zero, Nat.zero_add, Int.reduceEq, Int.reduceLT]; rfl) ?_; clear hK
        refine AWP.cond_split rfl (fun h80 => ?_) fun h80 => ?_
        · refine AWP.stepR [2] fun K hK => ?_
          simp only [go_sem, Nat.reduceEqDiff, Nat.reduceLT, Nat.reduceAdd, Nat.reduceMul, Nat.reduceSub, Nat.add_zero, Nat.zero_add, Int.reduceEq, Int.reduceLT]
          refine hK _ _ _ (by simp only [go_sem, Nat.reduceEqDiff, Nat.reduceLT, Nat.reduceAdd, Nat.reduceMul, Nat.reduceSub, Nat.add_zero, Nat.zero_add, Int.reduceEq, Int.reduceLT]; rfl) ?_; clear hK
          refine AWP.ret (InBlock.ret (Then.ret (Then.ret (InBlock.ret (Then.ret (?_))))))
          refine Fin.plain (.inr rfl) rfl rfl hok hg1 ⟨?_, rfl⟩
          have hf : r.prefixes.all short = false := List.all_eq_false.2 ⟨x, hx ▸ List.getElem_mem hlt, by simp [short] at h80 ⊢; omega⟩
          rw [lightF, hf]; simp
        · refine AWP.skip ?_
          refine AWP.lastR fun K hK => ?_
          simp only [go_sem, Nat.reduceEqDiff, Nat.reduceLT, Nat.reduceAdd, Nat.reduceMul, Nat.reduceSub, Nat.add_zero, Nat.zero_add, Int.reduceEq, Int.reduceLT]
          refine hK _ _ ?_; clear hK
          refine ⟨n - 1, by omega, by omega, rfl, ?_, ?_⟩ -- ROUND
          · simp only [go_sem, Nat.reduceEqDiff, Nat.reduceLT, Nat.reduceAdd, Nat.reduceMul, Nat.reduceSub, Nat.add_zero, Nat.zero_add, Int.reduceEq, Int.reduceLT]
            rw [i64w (by omega) (by omega), show ((r.prefixes.length - n : Nat) : Int) + 1 = ((r.prefixes.length - (n - 1) : Nat) : Int) by omega]
          · rw [show r.prefixes.length - (n - 1) = r.prefixes.length - n + 1 by omega, List.take_succ_eq_append_getElem hlt, List.all_append, hall, hx]
            simp [short] at h80 ⊢; omega
      · refine AWP.exit (Then.exit (Then.exit (InBlock.same ?_)))
        have hn0 : n = 0 := by simp at h70; omega
        rw [hn0, Nat.sub_zero, List.take_length] at hall
        have hall1 := hall
        clear hall
        refine AWP.seq ?_
        refine AWP.stepR [1, 5] fun K hK => ?_
        simp only [go_sem, Nat.reduceEqDiff, Nat.reduceLT, Nat.reduceAdd, Nat.reduceMul, Nat.reduceSub, Nat.add_zero, Nat.zero_add, Int.reduceEq, Int.reduceLT]
        refine hK _ _ _ (by simp only [go_sem, Nat.reduceEqDiff, Nat.reduceLT, Nat.reduceAdd, Nat.reduceMul, Nat.reduceSub, Nat.add_zero, Nat.zero_add, Int.reduceEq, Int.reduceLT]; rfl) ?_; clear hK
        refine AWP.block ?_ -- b4
        refine AWP.loopK [1, 5] (fun n e M4 => n ≤ r.shown.length ∧ M4 = M3 ∧ e = [(1, .pointer (some ⟨M.next, 0, none⟩)), (5, .int .i64 ((r.shown.length - n : Nat) : Int))] ∧ (r.shown.take (r.shown.length - n)).all shortS = true) r.shown.length ?_ fun n e M4 hI => ?_ -- LOOP
        · simp only [go_sem, Nat.reduceEqDiff, Nat.reduceLT, Nat.reduceAdd, Nat.reduceMul, Nat.reduceSub, Nat.add_zero, Nat.zero_add, Int.reduceEq, Int.reduceLT, Nat.le_refl]
          exact ⟨by simp, by simp⟩
        obtain ⟨hn', rfl, rfl, hall⟩ := hI
        refine AWP.seq ?_
        refine AWP.stepR [1, 5, 85] fun K hK => ?_
        simp only [go_sem, Nat.reduceEqDiff, Nat.reduceLT, Nat.reduceAdd, Nat.reduceMul, Nat.reduceSub, Nat.add_zero, Nat.zero_add, Int.reduceEq, Int.reduceLT, ld_24, ld_27, hh1.ld, repC, hr.shown.len es_27]
        refine hK _ _ _ (by simp only [go_sem, Nat.reduceEqDiff, Nat.reduceLT, Nat.reduceAdd, Nat.reduceMul, Nat.reduceSub, Nat.add_zero, Nat.zero_add, Int.reduceEq, Int.reduceLT]; rfl) ?_; clear hK
        refine AWP.cond_split rfl (fun h85 => ?_) fun h85 => ?_
        · have hlt : r.shown.length - n < r.shown.length := by simpa using h85
          obtain ⟨b, q, ha, hd⟩ := hr.shown.at (flatMap_len shwC_len _) es_27 hlt
          have hd := (hd M4 (Grew.refl _)).1 0 (by decide)
          rw [flatMap_cell shwC_len _ _ hlt (by decide), Nat.add_zero] at hd
          generalize hx : r.shown[r.shown.length - n] = x at hd
          refine AWP.skip ?_
          refine AWP.seq ?_
          refine AWP.block ?_ -- b5
          refine AWP.stepR [1, 5, 95] fun K hK => ?_
          simp only [go_sem, Nat.reduceEqDiff, Nat.reduceLT, Nat.reduceAdd, Nat.reduceMul, Nat.reduceSub, Nat.add_zero, Nat.zero_add, Int.reduceEq, Int.reduceLT, ld_24, ld_27, ld_9, hh1.ld, repC, ha, hd, shwC]
          refine hK _ _ _ (by simp only [go_sem, Nat.reduceEqDiff, Nat.reduceLT, Nat.reduceAdd, Nat.reduceMul, Nat.reduceSub, Nat.add_zero, Nat.zero_add, Int.reduceEq, Int.reduceLT]; rfl) ?_; clear hK
          refine AWP.cond_split rfl (fun h95 => ?_) fun h95 => ?_
          · refine AWP.stepR [2] fun K hK => ?_
            simp only [go_sem, Nat.reduceEqDiff, Nat.reduceLT, Nat.reduceAdd, Nat.reduceMul, Nat.reduceSub, Nat.add_zero, Nat.zero_add, Int.reduceEq, Int.reduceLT]
            refine hK _ _ _ (by simp only [go_sem, Nat.reduceEqDiff, Nat.reduceLT, Nat.reduceAdd, Nat.reduceMul, Nat.reduceSub, Nat.add_zero, Nat.zero_add, Int.reduceEq, Int.reduceLT]; rfl) ?_; clear hK
            refine AWP.ret (InBlock.ret (Then.ret (Then.ret (InBlock.ret (Then.ret (?_))))))
            refine Fin.plain (.inr rfl) rfl rfl hok hg1 ⟨?_, rfl⟩
            have hf : r.shown.all shortS = false := List.all_eq_false.2 ⟨x, hx ▸ List.getElem_mem hlt, by simp [shortS] at h95 ⊢; omega⟩
            rw [lightF, hf]; simp
          · refine AWP.skip ?_
            refine AWP.lastR fun K hK => ?_
            simp only [go_sem, Nat.reduceEqDiff, Nat.reduceLT, Nat.reduceAdd, Nat.reduceMul, Nat.reduceSub, Nat.add_zero, Nat.zero_add, Int.reduceEq, Int.reduceLT]
            refine hK _ _ ?_; clear hK
            refine ⟨n - 1, by omega, by omega, rfl, ?_, ?_⟩ -- ROUND
            · simp only [go_sem, Nat.reduceEqDiff, Nat.reduceLT, Nat.reduceAdd, Nat.reduceMul, Nat.reduceSub, Nat.add_zero, Nat.zero_add, Int.reduceEq, Int.reduceLT]
              rw [i64w (by omega) (by omega), show ((r.shown.length - n : Nat) : Int) + 1 = ((r.shown.length - (n - 1) : Nat) : Int) by omega]
            · rw [show r.shown.length - (n - 1) = r.shown.length - n + 1 by omega, List.take_succ_eq_append_getElem hlt, List.all_append, hall, hx]
              simp [shortS] at h95 ⊢; omega
        · refine AWP.exit (Then.exit (Then.exit (InBlock.same ?_)))
          have hn0 : n = 0 := by simp at h85; omega
          rw [hn0, Nat.sub_zero, List.take_length] at hall
          have hall2 := hall
          clear hall
          refine AWP.stepR [2] fun K hK => ?_ -- r18
          simp only [go_sem, Nat.reduceEqDiff, Nat.reduceLT, Nat.reduceAdd, Nat.reduceMul, Nat.reduceSub, Nat.add_zero, Nat.zero_add, Int.reduceEq, Int.reduceLT]
          refine hK _ _ _ (by simp only [go_sem, Nat.reduceEqDiff, Nat.reduceLT, Nat.reduceAdd, Nat.reduceMul, Nat.reduceSub, Nat.add_zero, Nat.zero_add, Int.reduceEq, Int.reduceLT]; rfl) ?_; clear hK
          refine AWP.ret (?_)
          refine Fin.plain (.inr rfl) rfl rfl hok hg1 ⟨?_, rfl⟩
          rw [lightF, hA, hall0, hall1, hall2]; rfl
end Go.Proofs.Ythheaehpnleiaaa.AX
