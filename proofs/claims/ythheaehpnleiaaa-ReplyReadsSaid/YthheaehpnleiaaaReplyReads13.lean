/- The other reader of answers, by value: fail. -/
import Derived.Test.YthheaehpnleiaaaReplyReads11
import Derived.Test.YthheaehpnleiaaaReplyReads12
namespace Go.Proofs.Ythheaehpnleiaaa.AX
open Go Go.Proofs
set_option maxRecDepth 100000
set_option linter.unusedVariables false
set_option linter.unusedSimpArgs false

theorem fail95_spec (vb : Value) (s : Rs) (c : Int) (M : Mem) (hok : Ok M) (hv : RowE M vb s.b.length (cB s.b) 5) :
    ∃ r M', ACall Try.prog 95 #[.agg (rdC vb s.code).toArray, .int .i64 c] M r M' ∧ Grew M M' ∧ r = .agg (rdC vb (failS s c).code).toArray := by
  refine ACall.fin (args := [.agg (rdC vb s.code).toArray, .int .i64 c]) (k := 13) (rs := [.cell 4 86]) Try.func95 rfl rfl rfl (Nat.le_of_ble_eq_true rfl) ?_
  refine AWP.stepR [1, 2, 4] fun K hK => ?_
  simp only [go_sem, Nat.reduceEqDiff, Nat.reduceLT, Nat.reduceAdd, Nat.reduceMul, Nat.reduceSub, Nat.add_zero, Nat.zero_add, Int.reduceEq, Int.reduceLT]
  refine hK _ _ _ (by simp only [go_sem, Nat.reduceEqDiff, Nat.reduceLT, Nat.reduceAdd, Nat.reduceMul, Nat.reduceSub, Nat.add_zero, Nat.zero_add, Int.reduceEq, Int.reduceLT]; rfl) ?_; clear hK
  obtain ⟨M1, hM1, hg1, hh1, hh2, hn1⟩ := box2 M vb s.code
  change AWP _ _ _ ⟨_, ((M.bump 2).put M.next ⟨rdC vb s.code, 86, true⟩).put (M.next + 1) ⟨rdC (.slice none 0 0) 0, 86, true⟩⟩ _
  rw [hM1]
  have hlt3 : M1.next < (M1.bump 1).next := Nat.lt_succ_self _
  have h1 := hv.row.one
  refine AWP.stepR [1, 2, 4, 5] fun K hK => ?_
  simp only [go_sem, Nat.reduceEqDiff, Nat.reduceLT, Nat.reduceAdd, Nat.reduceMul, Nat.reduceSub, Nat.add_zero, Nat.zero_add, Int.reduceEq, Int.reduceLT, ld_86, hh1.lda (rdC_len ..), st_fresh (M := M1.bump 1) (i := M1.next) (n := 2) (old := [.slice none 0 0, .int .i64 0]) (vs := rdC vb s.code) (e := 86) rfl rfl (rdC_one h1)]
  refine hK _ _ _ (by simp only [go_sem, Nat.reduceEqDiff, Nat.reduceLT, Nat.reduceAdd, Nat.reduceMul, Nat.reduceSub, Nat.add_zero, Nat.zero_add, Int.reduceEq, Int.reduceLT]; rfl) ?_; clear hK
  have hg4 := (((Grew.refl M1).bump 1).put (Nat.le_refl _) hlt3 ⟨[.slice none 0 0, .int .i64 0], 86, true⟩).put (Nat.le_refl _) hlt3 ⟨rdC vb s.code, 86, true⟩
  have hh4 : Has (((M1.bump 1).put M1.next ⟨[.slice none 0 0, .int .i64 0], 86, true⟩).put M1.next ⟨rdC vb s.code, 86, true⟩) M1.next ⟨rdC vb s.code, 86, true⟩ := Has.put (M := (M1.bump 1).put M1.next ⟨[.slice none 0 0, .int .i64 0], 86, true⟩) hlt3 _
  generalize ((M1.bump 1).put M1.next ⟨[.slice none 0 0, .int .i64 0], 86, true⟩).put M1.next ⟨rdC vb s.code, 86, true⟩ = M4 at hg4 hh4
  have hh1 := hh1.grew hg4
  have hh2 := hh2.grew hg4
  have hgM := hg1.trans hg4
  refine AWP.seq ?_
  refine AWP.stepR [1, 4, 5, 9] fun K hK => ?_
  simp only [go_sem, Nat.reduceEqDiff, Nat.reduceLT, Nat.reduceAdd, Nat.reduceMul, Nat.reduceSub, Nat.add_zero, Nat.zero_add, Int.reduceEq, Int.reduceLT, ld_22, hh1.ld, rdC]
  refine hK _ _ _ (by simp only [go_sem, Nat.reduceEqDiff, Nat.reduceLT, Nat.reduceAdd, Nat.reduceMul, Nat.reduceSub, Nat.add_zero, Nat.zero_add, Int.reduceEq, Int.reduceLT]; rfl) ?_; clear hK
  refine AWP.condG rfl [1, 4, 5] [(1, .int .i64 c), (4, .pointer (some ⟨M.next + 1, 0, none⟩)), (5, .pointer (some ⟨M1.next, 0, none⟩))] (fun M' => Grew M M' ∧ Has M' (M.next + 1) ⟨rdC (.slice none 0 0) 0, 86, true⟩ ∧ Has M' M1.next ⟨rdC vb (failS s c).code, 86, true⟩) (fun h9 => ?_) (fun h9 => ?_) fun M5 hg5 => ?_
  · have h0 : s.code = 0 := by simpa using h9
    have fs : stV M4 M1.next 1 1 (.int .i64 c) = some (M4.put M1.next ⟨rdC vb c, 86, true⟩) := st_cellX hh4 rfl (show 1 < 2 by decide) rfl
    refine AWP.lastR fun K hK => ?_
    simp only [go_sem, Nat.reduceEqDiff, Nat.reduceLT, Nat.reduceAdd, Nat.reduceMul, Nat.reduceSub, Nat.add_zero, Nat.zero_add, Int.reduceEq, Int.reduceLT, st_22, fs]
    refine hK _ _ ?_; clear hK
    refine ⟨rfl, (mk_put hgM (by omega) hh4.2 _).1, hh2.put' (by omega) _, ?_⟩
    rw [failS, if_pos h0]
    exact Has.put hh4.2 _
  · have h0 : s.code ≠ 0 := by simpa using h9
    refine AWP.skip ?_
    refine ⟨rfl, hgM, hh2, ?_⟩
    rw [failS, if_neg h0]; exact hh4
  obtain ⟨hg5, hk2, hk4⟩ := hg5
  refine AWP.stepR [4] fun K hK => ?_
  simp only [go_sem, Nat.reduceEqDiff, Nat.reduceLT, Nat.reduceAdd, Nat.reduceMul, Nat.reduceSub, Nat.add_zero, Nat.zero_add, Int.reduceEq, Int.reduceLT, ld_86, hk4.lda (rdC_len ..), st_86, st_all (n := 2) (vs := rdC vb (failS s c).code) hk2 rfl rfl rfl (rdC_one h1)]
  refine hK _ _ _ (by simp only [go_sem, Nat.reduceEqDiff, Nat.reduceLT, Nat.reduceAdd, Nat.reduceMul, Nat.reduceSub, Nat.add_zero, Nat.zero_add, Int.reduceEq, Int.reduceLT]; rfl) ?_; clear hK
  obtain ⟨hgz, hhz⟩ := mk_put hg5 (Nat.le_succ _) hk2.2 ⟨rdC vb (failS s c).code, 86, true⟩
  refine AWP.ret (?_)
  exact Fin.keep (v := .agg (rdC vb (failS s c).code).toArray) (.inr rfl) (by simp only [go_sem, Nat.reduceEqDiff, Nat.reduceLT, Nat.reduceAdd, Nat.reduceMul, Nat.reduceSub, Nat.add_zero, Nat.zero_add, Int.reduceEq, Int.reduceLT, retV, resV, ld_86, hhz.lda (rdC_len ..)]) ⟨hgz, rfl⟩

theorem count97_spec (v : Value) (s : Rs) (M0 M : Mem) (hok : Ok M) (hg0 : Grew M0 M) (hv : RdV M0 v s) (hb : BytB s.b) (hl : s.b.length ≤ 1000000) :
    ∃ r M', ACall Try.prog 97 #[v] M r M' ∧ Grew M M' ∧ ∃ v', r = .tuple #[v', .int .i64 (countS s).2] ∧ RdV M0 v' (countS s).1 := by
  have hv0 := hv
  obtain ⟨vb, rfl, hvE⟩ := hv
  refine ACall.fin (args := [.agg (rdC vb s.code).toArray]) (k := 18) (rs := [.cell 2 86, .tmp 3]) Try.func97 rfl rfl rfl (Nat.le_of_ble_eq_true rfl) ?_
  refine AWP.stepR [1, 2] fun K hK => ?_
  simp only [go_sem, Nat.reduceEqDiff, Nat.reduceLT, Nat.reduceAdd, Nat.reduceMul, Nat.reduceSub, Nat.add_zero, Nat.zero_add, Int.reduceEq, Int.reduceLT]
  refine hK _ _ _ (by simp only [go_sem, Nat.reduceEqDiff, Nat.reduceLT, Nat.reduceAdd, Nat.reduceMul, Nat.reduceSub, Nat.add_zero, Nat.zero_add, Int.reduceEq, Int.reduceLT]; rfl) ?_; clear hK
  obtain ⟨M1, hM1, hg1, hh1, hh2, hn1⟩ := box2 M vb s.code
  change AWP _ _ _ ⟨_, ((M.bump 2).put M.next ⟨rdC vb s.code, 86, true⟩).put (M.next + 1) ⟨rdC (.slice none 0 0) 0, 86, true⟩⟩ _
  rw [hM1]
  obtain ⟨r2, X2, hc2, hx2, v2, rfl, hv2⟩ := number94_spec _ s 4 M0 (M1.bump 1) ((hg1.bump 1).ok hok) (hg0.trans (hg1.bump 1)) hv0 hb (by omega) (by omega)
  obtain ⟨vb2, rfl, hE2⟩ := hv2
  have hn := numS_b4 hb
  have h1 := hE2.row.one
  refine AWP.stepR [2, 4, 5] fun K hK => ?_
  simp only [go_sem, Nat.reduceEqDiff, Nat.reduceLT, Nat.reduceAdd, Nat.reduceMul, Nat.reduceSub, Nat.add_zero, Nat.zero_add, Int.reduceEq, Int.reduceLT, ld_86, hh1.lda (rdC_len ..)]
  refine ⟨_, _, hc2, ?_⟩
  try simp only [go_sem, Nat.reduceEqDiff, Nat.reduceLT, Nat.reduceAdd, Nat.reduceMul, Nat.reduceSub, Nat.add_zero, Nat.zero_add, Int.reduceEq, Int.reduceLT, extractV, st_fresh (M := X2) (i := M1.next) (n := 2) (old := [.slice none 0 0, .int .i64 0]) (vs := rdC vb2 (numS s 4).1.code) (e := 86) rfl rfl (rdC_one h1)]
  refine hK _ _ _ (by simp only [go_sem, Nat.reduceEqDiff, Nat.reduceLT, Nat.reduceAdd, Nat.reduceMul, Nat.reduceSub, Nat.add_zero, Nat.zero_add, Int.reduceEq, Int.reduceLT]; rfl) ?_; clear hK
  obtain ⟨M2, hM2, hg2, hk2⟩ := kept M1 X2 hx2 [.slice none 0 0, .int .i64 0] (rdC vb2 (numS s 4).1.code) 86
  rw [hM2]
  have hg02 := hg1.trans hg2
  have hh22 := hh2.grew hg2
  refine AWP.seq ?_
  refine AWP.stepR [2, 4, 5, 12] fun K hK => ?_
  simp only [go_sem, Nat.reduceEqDiff, Nat.reduceLT, Nat.reduceAdd, Nat.reduceMul, Nat.reduceSub, Nat.add_zero, Nat.zero_add, Int.reduceEq, Int.reduceLT]
  refine hK _ _ _ (by simp only [go_sem, Nat.reduceEqDiff, Nat.reduceLT, Nat.reduceAdd, Nat.reduceMul, Nat.reduceSub, Nat.add_zero, Nat.zero_add, Int.reduceEq, Int.reduceLT]; rfl) ?_; clear hK
  refine AWP.cond_split rfl (fun h12 => ?_) fun h12 => ?_
  · have hgt : (numS s 4).2 > 65536 := of_decide_eq_true h12
    obtain ⟨r3, M3, hc3, hg3, rfl⟩ := fail95_spec vb2 (numS s 4).1 4 M2 (hg02.ok hok) (hE2.grew (hg0.trans hg02))
    have hh23 := hh22.grew hg3
    refine AWP.stepR [2, 3] fun K hK => ?_
    simp only [go_sem, Nat.reduceEqDiff, Nat.reduceLT, Nat.reduceAdd, Nat.reduceMul, Nat.reduceSub, Nat.add_zero, Nat.zero_add, Int.reduceEq, Int.reduceLT, ld_86, hk2.lda (rdC_len ..)]
    refine ⟨_, _, hc3, ?_⟩
    try simp only [go_sem, Nat.reduceEqDiff, Nat.reduceLT, Nat.reduceAdd, Nat.reduceMul, Nat.reduceSub, Nat.add_zero, Nat.zero_add, Int.reduceEq, Int.reduceLT, st_86, st_all (n := 2) (vs := rdC vb2 (failS (numS s 4).1 4).code) hh23 rfl rfl rfl (rdC_one h1)]
    refine hK _ _ _ (by simp only [go_sem, Nat.reduceEqDiff, Nat.reduceLT, Nat.reduceAdd, Nat.reduceMul, Nat.reduceSub, Nat.add_zero, Nat.zero_add, Int.reduceEq, Int.reduceLT]; rfl) ?_; clear hK
    obtain ⟨hgz, hhz⟩ := mk_put (hg02.trans hg3) (Nat.le_succ _) hh23.2 ⟨rdC vb2 (failS (numS s 4).1 4).code, 86, true⟩
    refine AWP.ret (Then.ret (?_))
    have e : countS s = (failS (numS s 4).1 4, 0) := by rw [countS, if_pos hgt]
    rw [e]
    exact Fin.keep (v := .tuple #[.agg (rdC vb2 (failS (numS s 4).1 4).code).toArray, .int .i64 0]) (.inr rfl) (by simp only [go_sem, Nat.reduceEqDiff, Nat.reduceLT, Nat.reduceAdd, Nat.reduceMul, Nat.reduceSub, Nat.add_zero, Nat.zero_add, Int.reduceEq, Int.reduceLT, retV, resV, ld_86, hhz.lda (rdC_len ..)] <;> rfl) ⟨hgz, _, rfl, vb2, rfl, by rw [failS_b]; exact hE2⟩
  · have hgt : ¬ (numS s 4).2 > 65536 := of_decide_eq_false h12
    refine AWP.skip ?_
    refine AWP.stepR [2, 3] fun K hK => ?_
    simp only [go_sem, Nat.reduceEqDiff, Nat.reduceLT, Nat.reduceAdd, Nat.reduceMul, Nat.reduceSub, Nat.add_zero, Nat.zero_add, Int.reduceEq, Int.reduceLT, ld_86, hk2.lda (rdC_len ..), i64w (n := (numS s 4).2) (by omega) (by omega), st_86, st_all (n := 2) (vs := rdC vb2 (numS s 4).1.code) hh22 rfl rfl rfl (rdC_one h1)]
    refine hK _ _ _ (by simp only [go_sem, Nat.reduceEqDiff, Nat.reduceLT, Nat.reduceAdd, Nat.reduceMul, Nat.reduceSub, Nat.add_zero, Nat.zero_add, Int.reduceEq, Int.reduceLT]; rfl) ?_; clear hK
    obtain ⟨hgz, hhz⟩ := mk_put hg02 (Nat.le_succ _) hh22.2 ⟨rdC vb2 (numS s 4).1.code, 86, true⟩
    have e : countS s = numS s 4 := by rw [countS, if_neg hgt]
    rw [e]
    refine AWP.ret (?_)
    exact Fin.keep (v := .tuple #[.agg (rdC vb2 (numS s 4).1.code).toArray, .int .i64 (numS s 4).2]) (.inr rfl) (by simp only [go_sem, Nat.reduceEqDiff, Nat.reduceLT, Nat.reduceAdd, Nat.reduceMul, Nat.reduceSub, Nat.add_zero, Nat.zero_add, Int.reduceEq, Int.reduceLT, retV, resV, ld_86, hhz.lda (rdC_len ..)] <;> rfl) ⟨hgz, _, rfl, vb2, rfl, hE2⟩

theorem flags58_spec (v : Value) (s : Rs) (t : Int) (M0 M : Mem) (hok : Ok M) (hg0 : Grew M0 M) (hv : RdV M0 v s) (hb : BytB s.b) (hl : s.b.length ≤ 1000000) :
    ∃ r M', ACall Try.prog 58 #[v, .int .u64 t] M r M' ∧ Grew M M' ∧ ∃ v', r = .tuple #[v', .int .u64 (flagsS s t).2] ∧ RdV M0 v' (flagsS s t).1 := by
  have hv0 := hv
  obtain ⟨vb, rfl, hvE⟩ := hv
  refine ACall.fin (args := [.agg (rdC vb s.code).toArray, .int .u64 t]) (k := 21) (rs := [.cell 4 86, .tmp 5]) Try.func58 rfl rfl rfl (Nat.le_of_ble_eq_true rfl) ?_
  refine AWP.stepR [1, 2, 4] fun K hK => ?_
  simp only [go_sem, Nat.reduceEqDiff, Nat.reduceLT, Nat.reduceAdd, Nat.reduceMul, Nat.reduceSub, Nat.add_zero, Nat.zero_add, Int.reduceEq, Int.reduceLT]
  refine hK _ _ _ (by simp only [go_sem, Nat.reduceEqDiff, Nat.reduceLT, Nat.reduceAdd, Nat.reduceMul, Nat.reduceSub, Nat.add_zero, Nat.zero_add, Int.reduceEq, Int.reduceLT]; rfl) ?_; clear hK
  obtain ⟨M1, hM1, hg1, hh1, hh2, hn1⟩ := box2 M vb s.code
  change AWP _ _ _ ⟨_, ((M.bump 2).put M.next ⟨rdC vb s.code, 86, true⟩).put (M.next + 1) ⟨rdC (.slice none 0 0) 0, 86, true⟩⟩ _
  rw [hM1]
  obtain ⟨r2, X2, hc2, hx2, v2, rfl, hv2⟩ := number94_spec _ s 1 M0 (M1.bump 1) ((hg1.bump 1).ok hok) (hg0.trans (hg1.bump 1)) hv0 hb (by omega) (by omega)
  obtain ⟨vb2, rfl, hE2⟩ := hv2
  have h1 := hE2.row.one
  refine AWP.stepR [1, 4, 6, 7] fun K hK => ?_
  simp only [go_sem, Nat.reduceEqDiff, Nat.reduceLT, Nat.reduceAdd, Nat.reduceMul, Nat.reduceSub, Nat.add_zero, Nat.zero_add, Int.reduceEq, Int.reduceLT, ld_86, hh1.lda (rdC_len ..)]
  refine ⟨_, _, hc2, ?_⟩
  try simp only [go_sem, Nat.reduceEqDiff, Nat.reduceLT, Nat.reduceAdd, Nat.reduceMul, Nat.reduceSub, Nat.add_zero, Nat.zero_add, Int.reduceEq, Int.reduceLT, extractV, st_fresh (M := X2) (i := M1.next) (n := 2) (old := [.slice none 0 0, .int .i64 0]) (vs := rdC vb2 (numS s 1).1.code) (e := 86) rfl rfl (rdC_one h1)]
  refine hK _ _ _ (by simp only [go_sem, Nat.reduceEqDiff, Nat.reduceLT, Nat.reduceAdd, Nat.reduceMul, Nat.reduceSub, Nat.add_zero, Nat.zero_add, Int.reduceEq, Int.reduceLT]; rfl) ?_; clear hK
  obtain ⟨M2, hM2, hg2, hk2⟩ := kept M1 X2 hx2 [.slice none 0 0, .int .i64 0] (rdC vb2 (numS s 1).1.code) 86
  rw [hM2]
  have hg02 := hg1.trans hg2
  have hh22 := hh2.grew hg2
  refine AWP.seq ?_
  refine AWP.stepR [4, 6, 7, 15] fun K hK => ?_
  simp only [go_sem, Nat.reduceEqDiff, Nat.reduceLT, Nat.reduceAdd, Nat.reduceMul, Nat.reduceSub, Nat.add_zero, Nat.zero_add, Int.reduceEq, Int.reduceLT]
  refine hK _ _ _ (by simp only [go_sem, Nat.reduceEqDiff, Nat.reduceLT, Nat.reduceAdd, Nat.reduceMul, Nat.reduceSub, Nat.add_zero, Nat.zero_add, Int.reduceEq, Int.reduceLT]; rfl) ?_; clear hK
  refine AWP.cond_split rfl (fun h15 => ?_) fun h15 => ?_
  · have hgt : (numS s 1).2 ≥ t := of_decide_eq_true h15
    obtain ⟨r3, M3, hc3, hg3, rfl⟩ := fail95_spec vb2 (numS s 1).1 4 M2 (hg02.ok hok) (hE2.grew (hg0.trans hg02))
    have hh23 := hh22.grew hg3
    refine AWP.stepR [4, 5] fun K hK => ?_
    simp only [go_sem, Nat.reduceEqDiff, Nat.reduceLT, Nat.reduceAdd, Nat.reduceMul, Nat.reduceSub, Nat.add_zero, Nat.zero_add, Int.reduceEq, Int.reduceLT, ld_86, hk2.lda (rdC_len ..)]
    refine ⟨_, _, hc3, ?_⟩
    try simp only [go_sem, Nat.reduceEqDiff, Nat.reduceLT, Nat.reduceAdd, Nat.reduceMul, Nat.reduceSub, Nat.add_zero, Nat.zero_add, Int.reduceEq, Int.reduceLT, st_86, st_all (n := 2) (vs := rdC vb2 (failS (numS s 1).1 4).code) hh23 rfl rfl rfl (rdC_one h1)]
    refine hK _ _ _ (by simp only [go_sem, Nat.reduceEqDiff, Nat.reduceLT, Nat.reduceAdd, Nat.reduceMul, Nat.reduceSub, Nat.add_zero, Nat.zero_add, Int.reduceEq, Int.reduceLT]; rfl) ?_; clear hK
    obtain ⟨hgz, hhz⟩ := mk_put (hg02.trans hg3) (Nat.le_succ _) hh23.2 ⟨rdC vb2 (failS (numS s 1).1 4).code, 86, true⟩
    refine AWP.ret (Then.ret (?_))
    have e : flagsS s t = (failS (numS s 1).1 4, (numS s 1).2) := by rw [flagsS, if_pos hgt]
    rw [e]
    exact Fin.keep (v := .tuple #[.agg (rdC vb2 (failS (numS s 1).1 4).code).toArray, .int .u64 (numS s 1).2]) (.inr rfl) (by simp only [go_sem, Nat.reduceEqDiff, Nat.reduceLT, Nat.reduceAdd, Nat.reduceMul, Nat.reduceSub, Nat.add_zero, Nat.zero_add, Int.reduceEq, Int.reduceLT, retV, resV, ld_86, hhz.lda (rdC_len ..)] <;> rfl) ⟨hgz, _, rfl, vb2, rfl, by rw [failS_b]; exact hE2⟩
  · have hgt : ¬ (numS s 1).2 ≥ t := of_decide_eq_false h15
    refine AWP.skip ?_
    refine AWP.stepR [4, 5] fun K hK => ?_
    simp only [go_sem, Nat.reduceEqDiff, Nat.reduceLT, Nat.reduceAdd, Nat.reduceMul, Nat.reduceSub, Nat.add_zero, Nat.zero_add, Int.reduceEq, Int.reduceLT, ld_86, hk2.lda (rdC_len ..), st_86, st_all (n := 2) (vs := rdC vb2 (numS s 1).1.code) hh22 rfl rfl rfl (rdC_one h1)]
    refine hK _ _ _ (by simp only [go_sem, Nat.reduceEqDiff, Nat.reduceLT, Nat.reduceAdd, Nat.reduceMul, Nat.reduceSub, Nat.add_zero, Nat.zero_add, Int.reduceEq, Int.reduceLT]; rfl) ?_; clear hK
    obtain ⟨hgz, hhz⟩ := mk_put hg02 (Nat.le_succ _) hh22.2 ⟨rdC vb2 (numS s 1).1.code, 86, true⟩
    have e : flagsS s t = numS s 1 := by rw [flagsS, if_neg hgt]
    rw [e]
    refine AWP.ret (?_)
    exact Fin.keep (v := .tuple #[.agg (rdC vb2 (numS s 1).1.code).toArray, .int .u64 (numS s 1).2]) (.inr rfl) (by simp only [go_sem, Nat.reduceEqDiff, Nat.reduceLT, Nat.reduceAdd, Nat.reduceMul, Nat.reduceSub, Nat.add_zero, Nat.zero_add, Int.reduceEq, Int.reduceLT, retV, resV, ld_86, hhz.lda (rdC_len ..)] <;> rfl) ⟨hgz, _, rfl, vb2, rfl, hE2⟩
end Go.Proofs.Ythheaehpnleiaaa.AX

/- The other reader of answers, by value: a text with its length ahead. -/
namespace Go.Proofs.Ythheaehpnleiaaa.AX
open Go Go.Proofs
set_option maxRecDepth 100000
set_option linter.unusedVariables false
set_option linter.unusedSimpArgs false

theorem text96_spec (v : Value) (s : Rs) (M0 M : Mem) (hok : Ok M) (hg0 : Grew M0 M) (hv : RdV M0 v s) (hb : BytB s.b) (hl : s.b.length ≤ 1000000) :
    ∃ r M', ACall Try.prog 96 #[v, .int .i64 4, .int .i64 1073741824] M r M' ∧ Grew M M' ∧ ∃ v' w, r = .tuple #[v', w] ∧ RdV M0 v' (textS s).1 ∧ RowN M0 w (textS s).2 := by
  have hv0 := hv
  obtain ⟨vb, rfl, hvE⟩ := hv
  refine ACall.fin (args := [.agg (rdC vb s.code).toArray, .int .i64 4, .int .i64 1073741824]) (k := 41) (rs := [.cell 6 86, .tmp 7]) Try.func96 rfl rfl rfl (Nat.le_of_ble_eq_true rfl) ?_
  refine AWP.stepR [1, 2, 3, 6] fun K hK => ?_
  simp only [go_sem, Nat.reduceEqDiff, Nat.reduceLT, Nat.reduceAdd, Nat.reduceMul, Nat.reduceSub, Nat.add_zero, Nat.zero_add, Int.reduceEq, Int.reduceLT]
  refine hK _ _ _ (by simp only [go_sem, Nat.reduceEqDiff, Nat.reduceLT, Nat.reduceAdd, Nat.reduceMul, Nat.reduceSub, Nat.add_zero, Nat.zero_add, Int.reduceEq, Int.reduceLT]; rfl) ?_; clear hK
  obtain ⟨M1, hM1, hg1, hh1, hh2, hn1⟩ := box2 M vb s.code
  change AWP _ _ _ ⟨_, ((M.bump 2).put M.next ⟨rdC vb s.code, 86, true⟩).put (M.next + 1) ⟨rdC (.slice none 0 0) 0, 86, true⟩⟩ _
  rw [hM1]
  obtain ⟨r2, X2, hc2, hx2, v2, rfl, hv2⟩ := number94_spec _ s 4 M0 (M1.bump 1) ((hg1.bump 1).ok hok) (hg0.trans (hg1.bump 1)) hv0 hb (by omega) (by omega)
  have hv2' := hv2
  obtain ⟨vb2, rfl, hE2⟩ := hv2
  have hn := numS_b4 hb
  have hl4 := numS_len s 4
  have h1 := hE2.row.one
  refine AWP.stepR [2, 6, 8, 9] fun K hK => ?_
  simp only [go_sem, Nat.reduceEqDiff, Nat.reduceLT, Nat.reduceAdd, Nat.reduceMul, Nat.reduceSub, Nat.add_zero, Nat.zero_add, Int.reduceEq, Int.reduceLT, ld_86, hh1.lda (rdC_len ..)]
  refine ⟨_, _, hc2, ?_⟩
  try simp only [go_sem, Nat.reduceEqDiff, Nat.reduceLT, Nat.reduceAdd, Nat.reduceMul, Nat.reduceSub, Nat.add_zero, Nat.zero_add, Int.reduceEq, Int.reduceLT, extractV, st_fresh (M := X2) (i := M1.next) (n := 2) (old := [.slice none 0 0, .int .i64 0]) (vs := rdC vb2 (numS s 4).1.code) (e := 86) rfl rfl (rdC_one h1)]
  refine hK _ _ _ (by simp only [go_sem, Nat.reduceEqDiff, Nat.reduceLT, Nat.reduceAdd, Nat.reduceMul, Nat.reduceSub, Nat.add_zero, Nat.zero_add, Int.reduceEq, Int.reduceLT]; rfl) ?_; clear hK
  obtain ⟨M2, hM2, hg2, hk2⟩ := kept M1 X2 hx2 [.slice none 0 0, .int .i64 0] (rdC vb2 (numS s 4).1.code) 86
  rw [hM2]
  have hg02 := hg1.trans hg2
  have hh22 := hh2.grew hg2
  refine AWP.stepR [6, 8, 9, 10] fun K hK => ?_
  simp only [go_sem, Nat.reduceEqDiff, Nat.reduceLT, Nat.reduceAdd, Nat.reduceMul, Nat.reduceSub, Nat.add_zero, Nat.zero_add, Int.reduceEq, Int.reduceLT]
  refine hK _ _ _ (by simp only [go_sem, Nat.reduceEqDiff, Nat.reduceLT, Nat.reduceAdd, Nat.reduceMul, Nat.reduceSub, Nat.add_zero, Nat.zero_add, Int.reduceEq, Int.reduceLT]; rfl) ?_; clear hK
  refine AWP.seq ?_
  refine AWP.stepR [6, 8, 9, 10, 19] fun K hK => ?_
  simp only [go_sem, Nat.reduceEqDiff, Nat.reduceLT, Nat.reduceAdd, Nat.reduceMul, Nat.reduceSub, Nat.add_zero, Nat.zero_add, Int.reduceEq, Int.reduceLT]
  refine hK _ _ _ (by simp only [go_sem, Nat.reduceEqDiff, Nat.reduceLT, Nat.reduceAdd, Nat.reduceMul, Nat.reduceSub, Nat.add_zero, Nat.zero_add, Int.reduceEq, Int.reduceLT]; rfl) ?_; clear hK
  refine AWP.cond_split rfl (fun h19 => ?_) fun h19 => ?_
  · cases h19
  · refine AWP.skip ?_
    refine AWP.seq ?_
    refine AWP.stepX [6, 8, 9, 28] [(6, .pointer (some ⟨M.next + 1, 0, none⟩)), (8, .pointer (some ⟨M1.next, 0, none⟩)), (9, .int .u64 (numS s 4).2), (28, .bool (decide ((numS s 4).1.code = 0 ∧ (numS s 4).2 > 1073741824)))] M2 (fun K hK => ?_) ?_
    · by_cases h0 : (numS s 4).1.code = 0
      · simp only [go_sem, Nat.reduceEqDiff, Nat.reduceLT, Nat.reduceAdd, Nat.reduceMul, Nat.reduceSub, Nat.add_zero, Nat.zero_add, Int.reduceEq, Int.reduceLT, ld_22, hk2.ld, rdC, h0, show ((0 : Int) == 0) = true from rfl, u64w (n := 1073741824) (by omega) (by omega)]
        refine hK _ ?_
        simp only [go_sem, Nat.reduceEqDiff, Nat.reduceLT, Nat.reduceAdd, Nat.reduceMul, Nat.reduceSub, Nat.add_zero, Nat.zero_add, Int.reduceEq, Int.reduceLT]
        simp [h0]
      · simp only [go_sem, Nat.reduceEqDiff, Nat.reduceLT, Nat.reduceAdd, Nat.reduceMul, Nat.reduceSub, Nat.add_zero, Nat.zero_add, Int.reduceEq, Int.reduceLT, ld_22, hk2.ld, rdC, show ((numS s 4).1.code == 0) = false by simp [h0]]
        refine hK _ ?_
        simp only [go_sem, Nat.reduceEqDiff, Nat.reduceLT, Nat.reduceAdd, Nat.reduceMul, Nat.reduceSub, Nat.add_zero, Nat.zero_add, Int.reduceEq, Int.reduceLT]
        rw [decide_eq_false (fun hh => h0 hh.1)]
    refine AWP.cond_split rfl (fun h28 => ?_) fun h28 => ?_
    · have hc := of_decide_eq_true h28
      have e0 : capS (numS s 4) = failS (numS s 4).1 4 := by rw [capS, if_pos hc]
      have e1 : (failS (numS s 4).1 4).code = 4 := by rw [failS, if_pos hc.1]
      have e : textS s = (failS (numS s 4).1 4, []) := by rw [textS, e0, if_pos (by rw [e1]; decide)]
      obtain ⟨r3, M3, hc3, hg3, rfl⟩ := fail93_spec vb2 (numS s 4).1 4 M2 (hg02.ok hok) (hE2.grew (hg0.trans hg02))
      have hh23 := hh22.grew hg3
      refine AWP.stepR [6, 7] fun K hK => ?_
      simp only [go_sem, Nat.reduceEqDiff, Nat.reduceLT, Nat.reduceAdd, Nat.reduceMul, Nat.reduceSub, Nat.add_zero, Nat.zero_add, Int.reduceEq, Int.reduceLT, ld_86, hk2.lda (rdC_len ..)]
      refine ⟨_, _, hc3, ?_⟩
      try simp only [go_sem, Nat.reduceEqDiff, Nat.reduceLT, Nat.reduceAdd, Nat.reduceMul, Nat.reduceSub, Nat.add_zero, Nat.zero_add, Int.reduceEq, Int.reduceLT, st_86, st_all (n := 2) (vs := rdC vb2 (failS (numS s 4).1 4).code) hh23 rfl rfl rfl (rdC_one h1)]
      refine hK _ _ _ (by simp only [go_sem, Nat.reduceEqDiff, Nat.reduceLT, Nat.reduceAdd, Nat.reduceMul, Nat.reduceSub, Nat.add_zero, Nat.zero_add, Int.reduceEq, Int.reduceLT]; rfl) ?_; clear hK
      obtain ⟨hgz, hhz⟩ := mk_put (hg02.trans hg3) (Nat.le_succ _) hh23.2 ⟨rdC vb2 (failS (numS s 4).1 4).code, 86, true⟩
      refine AWP.ret (Then.ret (?_))
      rw [e]
      exact Fin.keep (v := .tuple #[.agg (rdC vb2 (failS (numS s 4).1 4).code).toArray, .slice none 0 0]) (.inr rfl) (by simp only [go_sem, Nat.reduceEqDiff, Nat.reduceLT, Nat.reduceAdd, Nat.reduceMul, Nat.reduceSub, Nat.add_zero, Nat.zero_add, Int.reduceEq, Int.reduceLT, retV, resV, ld_86, hhz.lda (rdC_len ..)] <;> rfl) ⟨hgz, _, _, rfl, ⟨vb2, rfl, by rw [failS_b]; exact hE2⟩, .inl ⟨rfl, rfl⟩⟩
    · have hc := of_decide_eq_false h28
      have e0 : capS (numS s 4) = (numS s 4).1 := by rw [capS, if_neg hc]
      refine AWP.skip ?_
      refine AWP.seq ?_
      refine AWP.stepR [6, 8, 9, 33] fun K hK => ?_
      simp only [go_sem, Nat.reduceEqDiff, Nat.reduceLT, Nat.reduceAdd, Nat.reduceMul, Nat.reduceSub, Nat.add_zero, Nat.zero_add, Int.reduceEq, Int.reduceLT, ld_22, hk2.ld, rdC]
      refine hK _ _ _ (by simp only [go_sem, Nat.reduceEqDiff, Nat.reduceLT, Nat.reduceAdd, Nat.reduceMul, Nat.reduceSub, Nat.add_zero, Nat.zero_add, Int.reduceEq, Int.reduceLT]; rfl) ?_; clear hK
      refine AWP.cond_split rfl (fun h33 => ?_) fun h33 => ?_
      · have h0 : (numS s 4).1.code ≠ 0 := by simpa using h33
        have e : textS s = ((numS s 4).1, []) := by rw [textS, e0, if_pos h0]
        refine AWP.stepR [6, 7] fun K hK => ?_
        simp only [go_sem, Nat.reduceEqDiff, Nat.reduceLT, Nat.reduceAdd, Nat.reduceMul, Nat.reduceSub, Nat.add_zero, Nat.zero_add, Int.reduceEq, Int.reduceLT, ld_86, hk2.lda (rdC_len ..), st_86, st_all (n := 2) (vs := rdC vb2 (numS s 4).1.code) hh22 rfl rfl rfl (rdC_one h1)]
        refine hK _ _ _ (by simp only [go_sem, Nat.reduceEqDiff, Nat.reduceLT, Nat.reduceAdd, Nat.reduceMul, Nat.reduceSub, Nat.add_zero, Nat.zero_add, Int.reduceEq, Int.reduceLT]; rfl) ?_; clear hK
        obtain ⟨hgz, hhz⟩ := mk_put hg02 (Nat.le_succ _) hh22.2 ⟨rdC vb2 (numS s 4).1.code, 86, true⟩
        refine AWP.ret (Then.ret (?_))
        rw [e]
        exact Fin.keep (v := .tuple #[.agg (rdC vb2 (numS s 4).1.code).toArray, .slice none 0 0]) (.inr rfl) (by simp only [go_sem, Nat.reduceEqDiff, Nat.reduceLT, Nat.reduceAdd, Nat.reduceMul, Nat.reduceSub, Nat.add_zero, Nat.zero_add, Int.reduceEq, Int.reduceLT, retV, resV, ld_86, hhz.lda (rdC_len ..)] <;> rfl) ⟨hgz, _, _, rfl, ⟨vb2, rfl, hE2⟩, .inl ⟨rfl, rfl⟩⟩
      · have h0 : (numS s 4).1.code = 0 := by simpa using h33
        have e : textS s = takeS (numS s 4).1 (numS s 4).2 := by rw [textS, e0, if_neg (by simpa using h0)]
        obtain ⟨r3, M3, hc3, hg3, w3, u3, rfl, ⟨vb3, rfl, hE3⟩, hu3⟩ := bytes57_spec _ (numS s 4).1 (numS s 4).2 M0 M2 (hg02.ok hok) (hg0.trans hg02) hv2' (by omega)
        have hh23 := hh22.grew hg3
        refine AWP.skip ?_
        refine AWP.stepR [6, 7] fun K hK => ?_
        simp only [go_sem, Nat.reduceEqDiff, Nat.reduceLT, Nat.reduceAdd, Nat.reduceMul, Nat.reduceSub, Nat.add_zero, Nat.zero_add, Int.reduceEq, Int.reduceLT, ld_86, hk2.lda (rdC_len ..), i64w (n := (numS s 4).2) (by omega) (by omega)]
        refine ⟨_, _, hc3, ?_⟩
        try simp only [go_sem, Nat.reduceEqDiff, Nat.reduceLT, Nat.reduceAdd, Nat.reduceMul, Nat.reduceSub, Nat.add_zero, Nat.zero_add, Int.reduceEq, Int.reduceLT, extractV, st_86, st_all (n := 2) (vs := rdC vb3 (takeS (numS s 4).1 (numS s 4).2).1.code) hh23 rfl rfl rfl (rdC_one hE3.row.one)]
        refine hK _ _ _ (by simp only [go_sem, Nat.reduceEqDiff, Nat.reduceLT, Nat.reduceAdd, Nat.reduceMul, Nat.reduceSub, Nat.add_zero, Nat.zero_add, Int.reduceEq, Int.reduceLT]; rfl) ?_; clear hK
        obtain ⟨hgz, hhz⟩ := mk_put (hg02.trans hg3) (Nat.le_succ _) hh23.2 ⟨rdC vb3 (takeS (numS s 4).1 (numS s 4).2).1.code, 86, true⟩
        refine AWP.ret (?_)
        rw [e]
        exact Fin.keep (v := .tuple #[.agg (rdC vb3 (takeS (numS s 4).1 (numS s 4).2).1.code).toArray, u3]) (.inr rfl) (by simp only [go_sem, Nat.reduceEqDiff, Nat.reduceLT, Nat.reduceAdd, Nat.reduceMul, Nat.reduceSub, Nat.add_zero, Nat.zero_add, Int.reduceEq, Int.reduceLT, retV, resV, ld_86, hhz.lda (rdC_len ..)] <;> rfl) ⟨hgz, _, _, rfl, ⟨vb3, rfl, hE3⟩, hu3⟩
end Go.Proofs.Ythheaehpnleiaaa.AX

/- The other reader of answers, by value: long, texts, numbers. -/
namespace Go.Proofs.Ythheaehpnleiaaa.AX
open Go Go.Proofs
set_option maxRecDepth 100000
set_option linter.unusedVariables false
set_option linter.unusedSimpArgs false

theorem long60_spec (v : Value) (s : Rs) (M0 M : Mem) (hok : Ok M) (hg0 : Grew M0 M) (hv : RdV M0 v s) (hb : BytB s.b) (hl : s.b.length ≤ 1000000) :
    ∃ r M', ACall Try.prog 60 #[v] M r M' ∧ Grew M M' ∧ ∃ v' w, r = .tuple #[v', w] ∧ RdV M0 v' (textS s).1 ∧ RowN M0 w (textS s).2 := by
  have hv0 := hv
  obtain ⟨vb, rfl, hvE⟩ := hv
  refine ACall.fin (args := [.agg (rdC vb s.code).toArray]) (k := 8) (rs := [.cell 2 86, .tmp 3]) Try.func60 rfl rfl rfl (Nat.le_of_ble_eq_true rfl) ?_
  refine AWP.stepR [1, 2] fun K hK => ?_
  simp only [go_sem, Nat.reduceEqDiff, Nat.reduceLT, Nat.reduceAdd, Nat.reduceMul, Nat.reduceSub, Nat.add_zero, Nat.zero_add, Int.reduceEq, Int.reduceLT]
  refine hK _ _ _ (by simp only [go_sem, Nat.reduceEqDiff, Nat.reduceLT, Nat.reduceAdd, Nat.reduceMul, Nat.reduceSub, Nat.add_zero, Nat.zero_add, Int.reduceEq, Int.reduceLT]; rfl) ?_; clear hK
  obtain ⟨M1, hM1, hg1, hh1, hh2, hn1⟩ := box2 M vb s.code
  change AWP _ _ _ ⟨_, ((M.bump 2).put M.next ⟨rdC vb s.code, 86, true⟩).put (M.next + 1) ⟨rdC (.slice none 0 0) 0, 86, true⟩⟩ _
  rw [hM1]
  obtain ⟨r2, M2, hc2, hg2, w2, u2, rfl, ⟨vb2, rfl, hE2⟩, hu2⟩ := text96_spec _ s M0 M1 (hg1.ok hok) (hg0.trans hg1) hv0 hb hl
  have hh22 := hh2.grew hg2
  refine AWP.stepR [2, 3] fun K hK => ?_
  simp only [go_sem, Nat.reduceEqDiff, Nat.reduceLT, Nat.reduceAdd, Nat.reduceMul, Nat.reduceSub, Nat.add_zero, Nat.zero_add, Int.reduceEq, Int.reduceLT, ld_86, hh1.lda (rdC_len ..)]
  refine ⟨_, _, hc2, ?_⟩
  try simp only [go_sem, Nat.reduceEqDiff, Nat.reduceLT, Nat.reduceAdd, Nat.reduceMul, Nat.reduceSub, Nat.add_zero, Nat.zero_add, Int.reduceEq, Int.reduceLT, extractV, st_86, st_all (n := 2) (vs := rdC vb2 (textS s).1.code) hh22 rfl rfl rfl (rdC_one hE2.row.one)]
  refine hK _ _ _ (by simp only [go_sem, Nat.reduceEqDiff, Nat.reduceLT, Nat.reduceAdd, Nat.reduceMul, Nat.reduceSub, Nat.add_zero, Nat.zero_add, Int.reduceEq, Int.reduceLT]; rfl) ?_; clear hK
  obtain ⟨hgz, hhz⟩ := mk_put (hg1.trans hg2) (Nat.le_succ _) hh22.2 ⟨rdC vb2 (textS s).1.code, 86, true⟩
  refine AWP.ret (?_)
  exact Fin.keep (v := .tuple #[.agg (rdC vb2 (textS s).1.code).toArray, u2]) (.inr rfl) (by simp only [go_sem, Nat.reduceEqDiff, Nat.reduceLT, Nat.reduceAdd, Nat.reduceMul, Nat.reduceSub, Nat.add_zero, Nat.zero_add, Int.reduceEq, Int.reduceLT, retV, resV, ld_86, hhz.lda (rdC_len ..)] <;> rfl) ⟨hgz, _, _, rfl, ⟨vb2, rfl, hE2⟩, hu2⟩
end Go.Proofs.Ythheaehpnleiaaa.AX

/- The other reader of answers, by value: texts. -/
namespace Go.Proofs.Ythheaehpnleiaaa.AX
open Go Go.Proofs
set_option maxRecDepth 100000
set_option linter.unusedVariables false
set_option linter.unusedSimpArgs false

theorem str_N {M0 M : Mem} {v : Value} {l : List Int} (h : RowN M0 v l) (hg : Grew M0 M) : strV Try.prog M.get 23 9 v = some (.string (strOf l)) := by
  have u23 : Try.prog.underlying 23 = some (.slice 5) := by kernel_rfl
  have u9 : Try.prog.underlying 9 = some .string := by kernel_rfl
  have u5 : Try.prog.underlying 5 = some (.int .u8) := by kernel_rfl
  rcases h with ⟨rfl, rfl⟩ | ⟨b, o, c, blk, rfl, _, hb, _, h4, h5⟩
  · simp only [strV, u23, u9, u5]
  · rw [cB_length] at h4 h5
    simp only [strV, u23, u9, u5, (hb.grew hg).1]
    rw [if_pos h4, h5, intsOf_map]

theorem texts61_spec (v : Value) (s : Rs) (M0 M : Mem) (hok : Ok M) (hg0 : Grew M0 M) (hv : RdV M0 v s) (hb : BytB s.b) (hl : s.b.length ≤ 1000000) :
    ∃ r M', ACall Try.prog 61 #[v] M r M' ∧ Grew M M' ∧ ∃ v' w, r = .tuple #[v', w] ∧ RdV M0 v' (manyS textS s).1 ∧ Own M M' w (manyS textS s).2.length (((manyS textS s).2.map strOf).map .string) 9 := by
  have hv0 := hv
  obtain ⟨vb, rfl, hvE⟩ := hv
  refine ACall.fin (args := [.agg (rdC vb s.code).toArray]) (k := 38) (rs := [.cell 2 86, .tmp 3]) Try.func61 rfl rfl rfl (Nat.le_of_ble_eq_true rfl) ?_
  refine AWP.stepR [1, 2] fun K hK => ?_
  simp only [go_sem, Nat.reduceEqDiff, Nat.reduceLT, Nat.reduceAdd, Nat.reduceMul, Nat.reduceSub, Nat.add_zero, Nat.zero_add, Int.reduceEq, Int.reduceLT]
  refine hK _ _ _ (by simp only [go_sem, Nat.reduceEqDiff, Nat.reduceLT, Nat.reduceAdd, Nat.reduceMul, Nat.reduceSub, Nat.add_zero, Nat.zero_add, Int.reduceEq, Int.reduceLT]; rfl) ?_; clear hK
  obtain ⟨M1, hM1, hg1, hh1, hh2, hn1⟩ := box2 M vb s.code
  change AWP _ _ _ ⟨_, ((M.bump 2).put M.next ⟨rdC vb s.code, 86, true⟩).put (M.next + 1) ⟨rdC (.slice none 0 0) 0, 86, true⟩⟩ _
  rw [hM1]
  obtain ⟨r2, X2, hc2, hx2, v2, rfl, hv2⟩ := count97_spec _ s M0 (M1.bump 1) ((hg1.bump 1).ok hok) (hg0.trans (hg1.bump 1)) hv0 hb hl
  obtain ⟨vb2, rfl, hE2⟩ := hv2
  have h1 := hE2.row.one
  refine AWP.stepR [2, 4, 5] fun K hK => ?_
  simp only [go_sem, Nat.reduceEqDiff, Nat.reduceLT, Nat.reduceAdd, Nat.reduceMul, Nat.reduceSub, Nat.add_zero, Nat.zero_add, Int.reduceEq, Int.reduceLT, ld_86, hh1.lda (rdC_len ..)]
  refine ⟨_, _, hc2, ?_⟩
  try simp only [go_sem, Nat.reduceEqDiff, Nat.reduceLT, Nat.reduceAdd, Nat.reduceMul, Nat.reduceSub, Nat.add_zero, Nat.zero_add, Int.reduceEq, Int.reduceLT, extractV, st_fresh (M := X2) (i := M1.next) (n := 2) (old := [.slice none 0 0, .int .i64 0]) (vs := rdC vb2 (countS s).1.code) (e := 86) rfl rfl (rdC_one h1)]
  refine hK _ _ _ (by simp only [go_sem, Nat.reduceEqDiff, Nat.reduceLT, Nat.reduceAdd, Nat.reduceMul, Nat.reduceSub, Nat.add_zero, Nat.zero_add, Int.reduceEq, Int.reduceLT]; rfl) ?_; clear hK
  obtain ⟨M2, hM2, hg2, hk2⟩ := kept M1 X2 hx2 [.slice none 0 0, .int .i64 0] (rdC vb2 (countS s).1.code) 86
  rw [hM2]
  have hg02 := hg1.trans hg2
  have hh22 := hh2.grew hg2
  have hbc := countS_bytes hb
  have hlc := countS_len s
  have hnc := countS_b hb
  rw [manyS]
  generalize countS s = cs at hk2 hE2 hbc hlc hnc
  obtain ⟨s0, cn⟩ := cs
  simp only at hk2 hE2 hbc hlc hnc
  obtain ⟨cnt, rfl⟩ : ∃ c : Nat, cn = c := ⟨cn.toNat, by omega⟩
  simp only [Int.toNat_natCast]
  refine AWP.stepR [2, 4, 5, 6] fun K hK => ?_
  simp only [go_sem, Nat.reduceEqDiff, Nat.reduceLT, Nat.reduceAdd, Nat.reduceMul, Nat.reduceSub, Nat.add_zero, Nat.zero_add, Int.reduceEq, Int.reduceLT]
  refine hK _ _ _ (by simp only [go_sem, Nat.reduceEqDiff, Nat.reduceLT, Nat.reduceAdd, Nat.reduceMul, Nat.reduceSub, Nat.add_zero, Nat.zero_add, Int.reduceEq, Int.reduceLT]; rfl) ?_; clear hK
  refine AWP.seq ?_
  refine AWP.stepR [2, 4, 5, 6, 7] fun K hK => ?_
  simp only [go_sem, Nat.reduceEqDiff, Nat.reduceLT, Nat.reduceAdd, Nat.reduceMul, Nat.reduceSub, Nat.add_zero, Nat.zero_add, Int.reduceEq, Int.reduceLT]
  refine hK _ _ _ (by simp only [go_sem, Nat.reduceEqDiff, Nat.reduceLT, Nat.reduceAdd, Nat.reduceMul, Nat.reduceSub, Nat.add_zero, Nat.zero_add, Int.reduceEq, Int.reduceLT]; rfl) ?_; clear hK
  refine AWP.block ?_ -- b0
  have h12 := hh22.2; have h14 := hk2.2
  refine AWP.loopK [2, 4, 5, 6, 7] (fun c e M3 => c ≤ cnt ∧ Grew M M3 ∧ M2.next ≤ M3.next ∧ ∃ s acc bv vb, acc.length ≤ cnt - c ∧ Has M3 (M.next + 1) ⟨rdC (.slice none 0 0) 0, 86, true⟩ ∧ Has M3 M1.next ⟨rdC vb s.code, 86, true⟩ ∧ RowE M0 vb s.b.length (cB s.b) 5 ∧ Own (baseN M2.next) M3 bv acc.length ((acc.map strOf).map .string) 9 ∧ BytB s.b ∧ s.b.length ≤ 1000000 ∧ loopP textS cnt s0 = ((loopP textS c s).1, acc ++ (loopP textS c s).2) ∧ e = [(2, .pointer (some ⟨M.next + 1, 0, none⟩)), (4, .pointer (some ⟨M1.next, 0, none⟩)), (5, .int .i64 cnt), (6, bv), (7, .int .i64 ((cnt - c : Nat) : Int))]) cnt ?_ fun c e M3 hI => ?_ -- LOOP
  · simp only [go_sem, Nat.reduceEqDiff, Nat.reduceLT, Nat.reduceAdd, Nat.reduceMul, Nat.reduceSub, Nat.add_zero, Nat.zero_add, Int.reduceEq, Int.reduceLT, Nat.le_refl]
    refine ⟨hg02, s0, [], .slice none 0 0, vb2, by simp, hh22, hk2, hE2, Own.nil _ _ _, hbc, by omega, by simp, by simp⟩
  obtain ⟨hcc, hgM, hN, s, acc, bv, vb, hla, hh2, hk, hE, hO, hbs, hls, hlp, rfl⟩ := hI
  refine AWP.seq ?_
  refine AWP.stepX [2, 4, 5, 6, 7, 22] [(2, .pointer (some ⟨M.next + 1, 0, none⟩)), (4, .pointer (some ⟨M1.next, 0, none⟩)), (5, .int .i64 cnt), (6, bv), (7, .int .i64 ((cnt - c : Nat) : Int)), (22, .bool (decide (0 < c ∧ s.code = 0)))] M3 (fun K hK => ?_) ?_
  · by_cases h0 : 0 < c
    · simp only [go_sem, Nat.reduceEqDiff, Nat.reduceLT, Nat.reduceAdd, Nat.reduceMul, Nat.reduceSub, Nat.add_zero, Nat.zero_add, Int.reduceEq, Int.reduceLT, show decide (((cnt - c : Nat) : Int) < (cnt : Int)) = true by simp; omega, ld_22, hk.ld, rdC]
      refine hK _ ?_
      simp only [go_sem, Nat.reduceEqDiff, Nat.reduceLT, Nat.reduceAdd, Nat.reduceMul, Nat.reduceSub, Nat.add_zero, Nat.zero_add, Int.reduceEq, Int.reduceLT]
      rw [show decide (0 < c ∧ s.code = 0) = (s.code == 0) by by_cases h : s.code = 0 <;> simp [h, h0]]
    · simp only [go_sem, Nat.reduceEqDiff, Nat.reduceLT, Nat.reduceAdd, Nat.reduceMul, Nat.reduceSub, Nat.add_zero, Nat.zero_add, Int.reduceEq, Int.reduceLT, show decide (((cnt - c : Nat) : Int) < (cnt : Int)) = false by simp; omega]
      refine hK _ ?_
      simp only [go_sem, Nat.reduceEqDiff, Nat.reduceLT, Nat.reduceAdd, Nat.reduceMul, Nat.reduceSub, Nat.add_zero, Nat.zero_add, Int.reduceEq, Int.reduceLT]
      rw [show decide (0 < c ∧ s.code = 0) = false by simp [h0]]
  refine AWP.cond_split rfl (fun h22 => ?_) fun h22 => ?_
  · have h22' : 0 < c ∧ s.code = 0 := by simpa using h22
    obtain ⟨h0, hcode⟩ := h22'
    refine AWP.skip ?_
    refine AWP.seq ?_
    refine AWP.block ?_ -- b1
    obtain ⟨rx, X, hcx, hgx, w1, u1, rfl, ⟨vb1, rfl, hE1⟩, hu1⟩ := long60_spec (.agg (rdC vb s.code).toArray) s M0 (M3.bump 1) ((hgM.bump 1).ok hok) (hg0.trans (hgM.bump 1)) ⟨vb, rfl, hE⟩ hbs hls
    have h1 := hE1.row.one
    obtain ⟨Y, hY, hgy, hy⟩ := kept M3 X hgx [.slice none 0 0, .int .i64 0] (rdC vb1 (textS s).1.code) 86
    refine AWP.stepR [2, 4, 5, 6, 7, 8, 9] fun K hK => ?_
    simp only [go_sem, Nat.reduceEqDiff, Nat.reduceLT, Nat.reduceAdd, Nat.reduceMul, Nat.reduceSub, Nat.add_zero, Nat.zero_add, Int.reduceEq, Int.reduceLT, ld_86, hk.lda (rdC_len ..)]
    refine ⟨_, _, hcx, ?_⟩
    try simp only [go_sem, Nat.reduceEqDiff, Nat.reduceLT, Nat.reduceAdd, Nat.reduceMul, Nat.reduceSub, Nat.add_zero, Nat.zero_add, Int.reduceEq, Int.reduceLT, extractV, st_fresh (M := X) (i := M3.next) (n := 2) (old := [.slice none 0 0, .int .i64 0]) (vs := rdC vb1 (textS s).1.code) (e := 86) rfl rfl (rdC_one h1), hY]
    refine hK _ _ _ (by simp only [go_sem, Nat.reduceEqDiff, Nat.reduceLT, Nat.reduceAdd, Nat.reduceMul, Nat.reduceSub, Nat.add_zero, Nat.zero_add, Int.reduceEq, Int.reduceLT]; rfl) ?_; clear hK
    have hh2 := hh2.grew hgy; have hk := hk.grew hgy; have hO := hO.grew hgy
    have hgY := hgM.trans hgy
    have hnY := hgy.next
    refine AWP.stepR [2, 4, 5, 6, 7, 9] fun K hK => ?_
    simp only [go_sem, Nat.reduceEqDiff, Nat.reduceLT, Nat.reduceAdd, Nat.reduceMul, Nat.reduceSub, Nat.add_zero, Nat.zero_add, Int.reduceEq, Int.reduceLT, ld_86, hy.lda (rdC_len ..), st_86, st_all (n := 2) (vs := rdC vb1 (textS s).1.code) hk rfl rfl rfl (rdC_one h1)]
    refine hK _ _ _ (by simp only [go_sem, Nat.reduceEqDiff, Nat.reduceLT, Nat.reduceAdd, Nat.reduceMul, Nat.reduceSub, Nat.add_zero, Nat.zero_add, Int.reduceEq, Int.reduceLT]; rfl) ?_; clear hK
    have hh2 := hh2.put' (show M.next + 1 ≠ M1.next by omega) ⟨rdC vb1 (textS s).1.code, 86, true⟩
    have hO := hO.put (show M1.next < (baseN M2.next).next from h14) ⟨rdC vb1 (textS s).1.code, 86, true⟩
    obtain ⟨hgZ, hk⟩ := mk_put hgY (show M.next ≤ M1.next by omega) hk.2 ⟨rdC vb1 (textS s).1.code, 86, true⟩
    have hnZ : (Y.put M1.next ⟨rdC vb1 (textS s).1.code, 86, true⟩).next = Y.next := rfl
    generalize Y.put M1.next ⟨rdC vb1 (textS s).1.code, 86, true⟩ = Z at hh2 hO hgZ hk hnZ
    have hltZ : Z.next < (Z.bump 1).next := Nat.lt_succ_self _
    obtain ⟨hgW, hw⟩ := mk_put ((Grew.refl Z).bump 1) (Nat.le_refl _) hltZ ⟨[.string (strOf (textS s).2)], 9, true⟩
    have hnW : ((Z.bump 1).put Z.next ⟨[.string (strOf (textS s).2)], 9, true⟩).next = Z.next + 1 := rfl
    generalize hW : (Z.bump 1).put Z.next ⟨[.string (strOf (textS s).2)], 9, true⟩ = W at hgW hw hnW
    have hh2 := hh2.grew hgW; have hk := hk.grew hgW
    have hgMW := hgZ.trans hgW
    obtain ⟨v2, U, happ, hO2, hokU, hnU, hkeep, _⟩ := own_app ap_24_24 (hgMW.ok hok) (show M2.next ≤ W.next by omega) (hO.grew hgW) (by simp) (hw.content 1 1 1 rfl) rfl (by omega)
    have hgU : Grew M U := ⟨fun i hi => (hkeep i (by have := hg02.next; omega)).trans (hgMW.keep i hi), Nat.le_trans hgMW.next hnU, fun _ => hokU⟩
    have hkp : ∀ j b, j < M2.next → Has W j b → Has U j b := fun j b hj h => ⟨(hkeep j hj).trans h.1, Nat.lt_of_lt_of_le h.2 hnU⟩
    refine AWP.lastR fun K hK => ?_
    simp only [go_sem, Nat.reduceEqDiff, Nat.reduceLT, Nat.reduceAdd, Nat.reduceMul, Nat.reduceSub, Nat.add_zero, Nat.zero_add, Int.reduceEq, Int.reduceLT, str_N hu1 (hg0.trans (hgZ.bump 1)), str_N hu1 (hg0.trans hgZ), hW, happ]
    refine hK _ _ ?_; clear hK
    refine AWP.lastR fun K hK => ?_
    simp only [go_sem, Nat.reduceEqDiff, Nat.reduceLT, Nat.reduceAdd, Nat.reduceMul, Nat.reduceSub, Nat.add_zero, Nat.zero_add, Int.reduceEq, Int.reduceLT]
    refine hK _ _ ?_; clear hK
    rw [loopP_step textS h0 hcode] at hlp
    have htb := textS_bytes hbs
    have htl := textS_len s
    refine ⟨c - 1, by omega, by omega, hgU, (show M2.next ≤ U.next by omega), (textS s).1, acc ++ [(textS s).2], v2, vb1, by simp; omega, hkp _ _ h12 hh2, hkp _ _ h14 hk, hE1, by simpa using hO2, htb.1, by omega, ?_, ?_⟩ -- ROUND
    · rw [hlp]; simp
    · simp only [go_sem, Nat.reduceEqDiff, Nat.reduceLT, Nat.reduceAdd, Nat.reduceMul, Nat.reduceSub, Nat.add_zero, Nat.zero_add, Int.reduceEq, Int.reduceLT]
      rw [i64w (by omega) (by omega), show ((cnt - c : Nat) : Int) + 1 = ((cnt - (c - 1) : Nat) : Int) by omega]
  · have hc0 : c = 0 ∨ s.code ≠ 0 := by
      by_cases h0 : c = 0
      · exact .inl h0
      · right; intro h; simp at h22; exact h22 (by omega) h
    refine AWP.exit (Then.exit (Then.exit (InBlock.same ?_)))
    rw [loopP_stop textS hc0, List.append_nil] at hlp
    have h1 := hE.row.one
    refine AWP.stepR [2, 3] fun K hK => ?_
    simp only [go_sem, Nat.reduceEqDiff, Nat.reduceLT, Nat.reduceAdd, Nat.reduceMul, Nat.reduceSub, Nat.add_zero, Nat.zero_add, Int.reduceEq, Int.reduceLT, ld_86, hk.lda (rdC_len ..), st_86, st_all (n := 2) (vs := rdC vb s.code) hh2 rfl rfl rfl (rdC_one h1)]
    refine hK _ _ _ (by simp only [go_sem, Nat.reduceEqDiff, Nat.reduceLT, Nat.reduceAdd, Nat.reduceMul, Nat.reduceSub, Nat.add_zero, Nat.zero_add, Int.reduceEq, Int.reduceLT]; rfl) ?_; clear hK
    obtain ⟨hgz, hhz⟩ := mk_put hgM (Nat.le_succ _) hh2.2 ⟨rdC vb s.code, 86, true⟩
    have hO := hO.put (show M.next + 1 < (baseN M2.next).next from h12) ⟨rdC vb s.code, 86, true⟩
    refine AWP.ret (?_)
    rw [hlp]
    exact Fin.keep (v := .tuple #[.agg (rdC vb s.code).toArray, bv]) (.inr rfl) (by simp only [go_sem, Nat.reduceEqDiff, Nat.reduceLT, Nat.reduceAdd, Nat.reduceMul, Nat.reduceSub, Nat.add_zero, Nat.zero_add, Int.reduceEq, Int.reduceLT, retV, resV, ld_86, hhz.lda (rdC_len ..)] <;> rfl) ⟨hgz, _, _, rfl, ⟨vb, rfl, hE⟩, hO.base hg02.next⟩
end Go.Proofs.Ythheaehpnleiaaa.AX

/- The other reader of answers, by value: what is shown. -/
namespace Go.Proofs.Ythheaehpnleiaaa.AX
open Go Go.Proofs
set_option maxRecDepth 100000
set_option linter.unusedVariables false
set_option linter.unusedSimpArgs false

theorem bd_63c (n : ByteArray) (a b : Int) (c d : Bool) : buildV Try.prog 63 [(0, .string n), (1, .int .i64 a), (2, .int .i64 b), (3, .bool c), (4, .bool d)] = some (.agg #[.string n, .int .i64 a, .int .i64 b, .bool c, .bool d]) := by rfl
theorem bitF_0 (n : Int) : (n % 2 == 1) = bitF n 0 := by simp [bitF]
theorem bitF_1 (n : Int) : (n / 2 % 2 == 1) = bitF n 1 := by simp [bitF]
theorem bitF_2 (n : Int) : (n / 4 % 2 == 1) = bitF n 2 := by simp [bitF]
theorem tb0 {f : Int} (h : 0 ≤ f ∧ f < 256) : (f.tmod 2 == 1) = bitF f 0 := by rw [Int.tmod_eq_emod_of_nonneg h.1, bitF_0]
theorem tb1 {f : Int} (h : 0 ≤ f ∧ f < 256) : ((IntKind.u64.wrap (f.tdiv 2)).tmod 2 == 1) = bitF f 1 := by
  rw [Int.tdiv_eq_ediv_of_nonneg h.1, u64w (by omega) (by omega), Int.tmod_eq_emod_of_nonneg (by omega), bitF_1]
theorem tb2 {f : Int} (h : 0 ≤ f ∧ f < 256) : ((IntKind.u64.wrap (f.tdiv 4)).tmod 2 == 1) = bitF f 2 := by
  rw [Int.tdiv_eq_ediv_of_nonneg h.1, u64w (by omega) (by omega), Int.tmod_eq_emod_of_nonneg (by omega), bitF_2]
theorem flagsS_b {s : Rs} (h : BytB s.b) (b : Int) : 0 ≤ (flagsS s b).2 ∧ (flagsS s b).2 < 256 := by
  have := numS_b1 (s := s) h
  unfold flagsS
  split <;> exact this

theorem shown62_spec (v : Value) (s : Rs) (M0 M : Mem) (hok : Ok M) (hg0 : Grew M0 M) (hv : RdV M0 v s) (hb : BytB s.b) (hl : s.b.length ≤ 1000000) :
    ∃ r M', ACall Try.prog 62 #[v] M r M' ∧ Grew M M' ∧ ∃ v' w, r = .tuple #[v', w] ∧ RdV M0 v' (manyS shwS s).1 ∧ Own M M' w (manyS shwS s).2.length ((manyS shwS s).2.flatMap shwC) 63 := by
  have hv0 := hv
  obtain ⟨vb, rfl, hvE⟩ := hv
  refine ACall.fin (args := [.agg (rdC vb s.code).toArray]) (k := 71) (rs := [.cell 2 86, .tmp 3]) Try.func62 rfl rfl rfl (Nat.le_of_ble_eq_true rfl) ?_
  refine AWP.stepR [1, 2] fun K hK => ?_
  simp only [go_sem, Nat.reduceEqDiff, Nat.reduceLT, Nat.reduceAdd, Nat.reduceMul, Nat.reduceSub, Nat.add_zero, Nat.zero_add, Int.reduceEq, Int.reduceLT]
  refine hK _ _ _ (by simp only [go_sem, Nat.reduceEqDiff, Nat.reduceLT, Nat.reduceAdd, Nat.reduceMul, Nat.reduceSub, Nat.add_zero, Nat.zero_add, Int.reduceEq, Int.reduceLT]; rfl) ?_; clear hK
  obtain ⟨M1, hM1, hg1, hh1, hh2, hn1⟩ := box2 M vb s.code
  change AWP _ _ _ ⟨_, ((M.bump 2).put M.next ⟨rdC vb s.code, 86, true⟩).put (M.next + 1) ⟨rdC (.slice none 0 0) 0, 86, true⟩⟩ _
  rw [hM1]
  obtain ⟨r2, X2, hc2, hx2, v2, rfl, hv2⟩ := count97_spec _ s M0 (M1.bump 1) ((hg1.bump 1).ok hok) (hg0.trans (hg1.bump 1)) hv0 hb hl
  obtain ⟨vb2, rfl, hE2⟩ := hv2
  have h1 := hE2.row.one
  refine AWP.stepR [2, 4, 5] fun K hK => ?_
  simp only [go_sem, Nat.reduceEqDiff, Nat.reduceLT, Nat.reduceAdd, Nat.reduceMul, Nat.reduceSub, Nat.add_zero, Nat.zero_add, Int.reduceEq, Int.reduceLT, ld_86, hh1.lda (rdC_len ..)]
  refine ⟨_, _, hc2, ?_⟩
  try simp only [go_sem, Nat.reduceEqDiff, Nat.reduceLT, Nat.reduceAdd, Nat.reduceMul, Nat.reduceSub, Nat.add_zero, Nat.zero_add, Int.reduceEq, Int.reduceLT, extractV, st_fresh (M := X2) (i := M1.next) (n := 2) (old := [.slice none 0 0, .int .i64 0]) (vs := rdC vb2 (countS s).1.code) (e := 86) rfl rfl (rdC_one h1)]
  refine hK _ _ _ (by simp only [go_sem, Nat.reduceEqDiff, Nat.reduceLT, Nat.reduceAdd, Nat.reduceMul, Nat.reduceSub, Nat.add_zero, Nat.zero_add, Int.reduceEq, Int.reduceLT]; rfl) ?_; clear hK
  obtain ⟨M2, hM2, hg2, hk2⟩ := kept M1 X2 hx2 [.slice none 0 0, .int .i64 0] (rdC vb2 (countS s).1.code) 86
  rw [hM2]
  have hg02 := hg1.trans hg2
  have hh22 := hh2.grew hg2
  have hbc := countS_bytes hb
  have hlc := countS_len s
  have hnc := countS_b hb
  rw [manyS]
  generalize countS s = cs at hk2 hE2 hbc hlc hnc
  obtain ⟨s0, cn⟩ := cs
  simp only at hk2 hE2 hbc hlc hnc
  obtain ⟨cnt, rfl⟩ : ∃ c : Nat, cn = c := ⟨cn.toNat, by omega⟩
  simp only [Int.toNat_natCast]
  refine AWP.stepR [2, 4, 5, 6] fun K hK => ?_
  simp only [go_sem, Nat.reduceEqDiff, Nat.reduceLT, Nat.reduceAdd, Nat.reduceMul, Nat.reduceSub, Nat.add_zero, Nat.zero_add, Int.reduceEq, Int.reduceLT]
  refine hK _ _ _ (by simp only [go_sem, Nat.reduceEqDiff, Nat.reduceLT, Nat.reduceAdd, Nat.reduceMul, Nat.reduceSub, Nat.add_zero, Nat.zero_add, Int.reduceEq, Int.reduceLT]; rfl) ?_; clear hK
  refine AWP.seq ?_
  refine AWP.stepR [2, 4, 5, 6, 7] fun K hK => ?_
  simp only [go_sem, Nat.reduceEqDiff, Nat.reduceLT, Nat.reduceAdd, Nat.reduceMul, Nat.reduceSub, Nat.add_zero, Nat.zero_add, Int.reduceEq, Int.reduceLT]
  refine hK _ _ _ (by simp only [go_sem, Nat.reduceEqDiff, Nat.reduceLT, Nat.reduceAdd, Nat.reduceMul, Nat.reduceSub, Nat.add_zero, Nat.zero_add, Int.reduceEq, Int.reduceLT]; rfl) ?_; clear hK
  refine AWP.block ?_ -- b0
  have h12 := hh22.2; have h14 := hk2.2
  refine AWP.loopK [2, 4, 5, 6, 7] (fun c e M3 => c ≤ cnt ∧ Grew M M3 ∧ M2.next ≤ M3.next ∧ ∃ s acc bv vb, acc.length ≤ cnt - c ∧ Has M3 (M.next + 1) ⟨rdC (.slice none 0 0) 0, 86, true⟩ ∧ Has M3 M1.next ⟨rdC vb s.code, 86, true⟩ ∧ RowE M0 vb s.b.length (cB s.b) 5 ∧ Own (baseN M2.next) M3 bv acc.length (acc.flatMap shwC) 63 ∧ BytB s.b ∧ s.b.length ≤ 1000000 ∧ loopP shwS cnt s0 = ((loopP shwS c s).1, acc ++ (loopP shwS c s).2) ∧ e = [(2, .pointer (some ⟨M.next + 1, 0, none⟩)), (4, .pointer (some ⟨M1.next, 0, none⟩)), (5, .int .i64 cnt), (6, bv), (7, .int .i64 ((cnt - c : Nat) : Int))]) cnt ?_ fun c e M3 hI => ?_ -- LOOP
  · simp only [go_sem, Nat.reduceEqDiff, Nat.reduceLT, Nat.reduceAdd, Nat.reduceMul, Nat.reduceSub, Nat.add_zero, Nat.zero_add, Int.reduceEq, Int.reduceLT, Nat.le_refl]
    refine ⟨hg02, s0, [], .slice none 0 0, vb2, by simp, hh22, hk2, hE2, Own.nil _ _ _, hbc, by omega, by simp, by simp⟩
  obtain ⟨hcc, hgM, hN, s, acc, bv, vb, hla, hh2, hk, hE, hO, hbs, hls, hlp, rfl⟩ := hI
  refine AWP.seq ?_
  refine AWP.stepX [2, 4, 5, 6, 7, 28] [(2, .pointer (some ⟨M.next + 1, 0, none⟩)), (4, .pointer (some ⟨M1.next, 0, none⟩)), (5, .int .i64 cnt), (6, bv), (7, .int .i64 ((cnt - c : Nat) : Int)), (28, .bool (decide (0 < c ∧ s.code = 0)))] M3 (fun K hK => ?_) ?_
  · by_cases h0 : 0 < c
    · simp only [go_sem, Nat.reduceEqDiff, Nat.reduceLT, Nat.reduceAdd, Nat.reduceMul, Nat.reduceSub, Nat.add_zero, Nat.zero_add, Int.reduceEq, Int.reduceLT, show decide (((cnt - c : Nat) : Int) < (cnt : Int)) = true by simp; omega, ld_22, hk.ld, rdC]
      refine hK _ ?_
      simp only [go_sem, Nat.reduceEqDiff, Nat.reduceLT, Nat.reduceAdd, Nat.reduceMul, Nat.reduceSub, Nat.add_zero, Nat.zero_add, Int.reduceEq, Int.reduceLT]
      rw [show decide (0 < c ∧ s.code = 0) = (s.code == 0) by by_cases h : s.code = 0 <;> simp [h, h0]]
    · simp only [go_sem, Nat.reduceEqDiff, Nat.reduceLT, Nat.reduceAdd, Nat.reduceMul, Nat.reduceSub, Nat.add_zero, Nat.zero_add, Int.reduceEq, Int.reduceLT, show decide (((cnt - c : Nat) : Int) < (cnt : Int)) = false by simp; omega]
      refine hK _ ?_
      simp only [go_sem, Nat.reduceEqDiff, Nat.reduceLT, Nat.reduceAdd, Nat.reduceMul, Nat.reduceSub, Nat.add_zero, Nat.zero_add, Int.reduceEq, Int.reduceLT]
      rw [show decide (0 < c ∧ s.code = 0) = false by simp [h0]]
  refine AWP.cond_split rfl (fun h28 => ?_) fun h28 => ?_
  · have h28' : 0 < c ∧ s.code = 0 := by simpa using h28
    obtain ⟨h0, hcode⟩ := h28'
    refine AWP.skip ?_
    refine AWP.seq ?_
    refine AWP.block ?_ -- b1
    have hbt := textS_bytes hbs; have hlt := textS_len s
    have hb6 := numS_bytes hbt.1 6; have hl6 := numS_len (textS s).1 6; have hr6 := numS_b6 hbt.1
    have hb7 := numS_bytes hb6 6; have hl7 := numS_len (numS (textS s).1 6).1 6; have hr7 := numS_b6 hb6
    have hb8 := flagsS_bytes hb7 4; have hl8 := flagsS_len (numS (numS (textS s).1 6).1 6).1 4; have hr8 := flagsS_b hb7 4
    obtain ⟨rx1, X1, hcx1, hgx1, w1, u1, rfl, hw1, hu1⟩ := long60_spec (.agg (rdC vb s.code).toArray) s M0 (M3.bump 1) ((hgM.bump 1).ok hok) (hg0.trans (hgM.bump 1)) ⟨vb, rfl, hE⟩ hbs hls
    have hq1 := hw1
    obtain ⟨vb1, rfl, hE1⟩ := hw1
    obtain ⟨Y1, hY1, hgy1, hy1⟩ := kept M3 X1 hgx1 [.slice none 0 0, .int .i64 0] (rdC vb1 (textS s).1.code) 86
    refine AWP.stepR [2, 4, 5, 6, 7, 8, 9] fun K hK => ?_
    simp only [go_sem, Nat.reduceEqDiff, Nat.reduceLT, Nat.reduceAdd, Nat.reduceMul, Nat.reduceSub, Nat.add_zero, Nat.zero_add, Int.reduceEq, Int.reduceLT, ld_86, hk.lda (rdC_len ..)]
    refine ⟨_, _, hcx1, ?_⟩
    try simp only [go_sem, Nat.reduceEqDiff, Nat.reduceLT, Nat.reduceAdd, Nat.reduceMul, Nat.reduceSub, Nat.add_zero, Nat.zero_add, Int.reduceEq, Int.reduceLT, extractV, st_fresh (M := X1) (i := M3.next) (n := 2) (old := [.slice none 0 0, .int .i64 0]) (vs := rdC vb1 (textS s).1.code) (e := 86) rfl rfl (rdC_one hE1.row.one), hY1]
    refine hK _ _ _ (by simp only [go_sem, Nat.reduceEqDiff, Nat.reduceLT, Nat.reduceAdd, Nat.reduceMul, Nat.reduceSub, Nat.add_zero, Nat.zero_add, Int.reduceEq, Int.reduceLT]; rfl) ?_; clear hK
    have hg1M := hgM.trans hgy1
    obtain ⟨rx2, X2, hcx2, hgx2, w2, rfl, hw2⟩ := number94_spec _ (textS s).1 6 M0 (Y1.bump 1) ((hg1M.bump 1).ok hok) (hg0.trans (hg1M.bump 1)) hq1 hbt.1 (by omega) (by omega)
    have hq2 := hw2
    obtain ⟨vb2, rfl, hE2⟩ := hw2
    obtain ⟨Y2, hY2, hgy2, hy2⟩ := kept Y1 X2 hgx2 [.slice none 0 0, .int .i64 0] (rdC vb2 (numS (textS s).1 6).1.code) 86
    refine AWP.stepR [2, 4, 5, 6, 7, 9, 10, 11] fun K hK => ?_
    simp only [go_sem, Nat.reduceEqDiff, Nat.reduceLT, Nat.reduceAdd, Nat.reduceMul, Nat.reduceSub, Nat.add_zero, Nat.zero_add, Int.reduceEq, Int.reduceLT, ld_86, hy1.lda (rdC_len ..)]
    refine ⟨_, _, hcx2, ?_⟩
    try simp only [go_sem, Nat.reduceEqDiff, Nat.reduceLT, Nat.reduceAdd, Nat.reduceMul, Nat.reduceSub, Nat.add_zero, Nat.zero_add, Int.reduceEq, Int.reduceLT, extractV, st_fresh (M := X2) (i := Y1.next) (n := 2) (old := [.slice none 0 0, .int .i64 0]) (vs := rdC vb2 (numS (textS s).1 6).1.code) (e := 86) rfl rfl (rdC_one hE2.row.one), hY2]
    refine hK _ _ _ (by simp only [go_sem, Nat.reduceEqDiff, Nat.reduceLT, Nat.reduceAdd, Nat.reduceMul, Nat.reduceSub, Nat.add_zero, Nat.zero_add, Int.reduceEq, Int.reduceLT]; rfl) ?_; clear hK
    have hg2M := hg1M.trans hgy2
    obtain ⟨rx3, X3, hcx3, hgx3, w3, rfl, hw3⟩ := number94_spec _ (numS (textS s).1 6).1 6 M0 (Y2.bump 1) ((hg2M.bump 1).ok hok) (hg0.trans (hg2M.bump 1)) hq2 hb6 (by omega) (by omega)
    have hq3 := hw3
    obtain ⟨vb3, rfl, hE3⟩ := hw3
    obtain ⟨Y3, hY3, hgy3, hy3⟩ := kept Y2 X3 hgx3 [.slice none 0 0, .int .i64 0] (rdC vb3 (numS (numS (textS s).1 6).1 6).1.code) 86
    refine AWP.stepR [2, 4, 5, 6, 7, 9, 11, 12, 13] fun K hK => ?_
    simp only [go_sem, Nat.reduceEqDiff, Nat.reduceLT, Nat.reduceAdd, Nat.reduceMul, Nat.reduceSub, Nat.add_zero, Nat.zero_add, Int.reduceEq, Int.reduceLT, ld_86, hy2.lda (rdC_len ..)]
    refine ⟨_, _, hcx3, ?_⟩
    try simp only [go_sem, Nat.reduceEqDiff, Nat.reduceLT, Nat.reduceAdd, Nat.reduceMul, Nat.reduceSub, Nat.add_zero, Nat.zero_add, Int.reduceEq, Int.reduceLT, extractV, st_fresh (M := X3) (i := Y2.next) (n := 2) (old := [.slice none 0 0, .int .i64 0]) (vs := rdC vb3 (numS (numS (textS s).1 6).1 6).1.code) (e := 86) rfl rfl (rdC_one hE3.row.one), hY3]
    refine hK _ _ _ (by simp only [go_sem, Nat.reduceEqDiff, Nat.reduceLT, Nat.reduceAdd, Nat.reduceMul, Nat.reduceSub, Nat.add_zero, Nat.zero_add, Int.reduceEq, Int.reduceLT]; rfl) ?_; clear hK
    have hg3M := hg2M.trans hgy3
    obtain ⟨rx4, X4, hcx4, hgx4, w4, rfl, hw4⟩ := flags58_spec _ (numS (numS (textS s).1 6).1 6).1 4 M0 (Y3.bump 1) ((hg3M.bump 1).ok hok) (hg0.trans (hg3M.bump 1)) hq3 hb7 (by omega)
    have hq4 := hw4
    obtain ⟨vb4, rfl, hE4⟩ := hw4
    obtain ⟨Y4, hY4, hgy4, hy4⟩ := kept Y3 X4 hgx4 [.slice none 0 0, .int .i64 0] (rdC vb4 (flagsS (numS (numS (textS s).1 6).1 6).1 4).1.code) 86
    refine AWP.stepR [2, 4, 5, 6, 7, 9, 11, 13, 14, 15] fun K hK => ?_
    simp only [go_sem, Nat.reduceEqDiff, Nat.reduceLT, Nat.reduceAdd, Nat.reduceMul, Nat.reduceSub, Nat.add_zero, Nat.zero_add, Int.reduceEq, Int.reduceLT, ld_86, hy3.lda (rdC_len ..)]
    refine ⟨_, _, hcx4, ?_⟩
    try simp only [go_sem, Nat.reduceEqDiff, Nat.reduceLT, Nat.reduceAdd, Nat.reduceMul, Nat.reduceSub, Nat.add_zero, Nat.zero_add, Int.reduceEq, Int.reduceLT, extractV, st_fresh (M := X4) (i := Y3.next) (n := 2) (old := [.slice none 0 0, .int .i64 0]) (vs := rdC vb4 (flagsS (numS (numS (textS s).1 6).1 6).1 4).1.code) (e := 86) rfl rfl (rdC_one hE4.row.one), hY4]
    refine hK _ _ _ (by simp only [go_sem, Nat.reduceEqDiff, Nat.reduceLT, Nat.reduceAdd, Nat.reduceMul, Nat.reduceSub, Nat.add_zero, Nat.zero_add, Int.reduceEq, Int.reduceLT]; rfl) ?_; clear hK
    have hg4M := hg3M.trans hgy4
    have hgyy := (hgy1.trans hgy2).trans (hgy3.trans hgy4)
    have hh2 := hh2.grew hgyy; have hk := hk.grew hgyy; have hO := hO.grew hgyy
    have hnY := hgyy.next
    have h1 := hE4.row.one
    refine AWP.stepR [2, 4, 5, 6, 7, 9, 11, 13, 15] fun K hK => ?_
    simp only [go_sem, Nat.reduceEqDiff, Nat.reduceLT, Nat.reduceAdd, Nat.reduceMul, Nat.reduceSub, Nat.add_zero, Nat.zero_add, Int.reduceEq, Int.reduceLT, ld_86, hy4.lda (rdC_len ..), st_86, st_all (n := 2) (vs := rdC vb4 (flagsS (numS (numS (textS s).1 6).1 6).1 4).1.code) hk rfl rfl rfl (rdC_one h1)]
    refine hK _ _ _ (by simp only [go_sem, Nat.reduceEqDiff, Nat.reduceLT, Nat.reduceAdd, Nat.reduceMul, Nat.reduceSub, Nat.add_zero, Nat.zero_add, Int.reduceEq, Int.reduceLT]; rfl) ?_; clear hK
    have hh2 := hh2.put' (show M.next + 1 ≠ M1.next by omega) ⟨rdC vb4 (flagsS (numS (numS (textS s).1 6).1 6).1 4).1.code, 86, true⟩
    have hO := hO.put (show M1.next < (baseN M2.next).next from h14) ⟨rdC vb4 (flagsS (numS (numS (textS s).1 6).1 6).1 4).1.code, 86, true⟩
    obtain ⟨hgZ, hk⟩ := mk_put hg4M (show M.next ≤ M1.next by omega) hk.2 ⟨rdC vb4 (flagsS (numS (numS (textS s).1 6).1 6).1 4).1.code, 86, true⟩
    have hnZ : (Y4.put M1.next ⟨rdC vb4 (flagsS (numS (numS (textS s).1 6).1 6).1 4).1.code, 86, true⟩).next = Y4.next := rfl
    generalize Y4.put M1.next ⟨rdC vb4 (flagsS (numS (numS (textS s).1 6).1 6).1 4).1.code, 86, true⟩ = Z at hh2 hO hgZ hk hnZ
    have hltZ : Z.next < (Z.bump 1).next := Nat.lt_succ_self _
    obtain ⟨hgW, hw⟩ := mk_put ((Grew.refl Z).bump 1) (Nat.le_refl _) hltZ ⟨shwC (shwS s).2, 63, true⟩
    have hnW : ((Z.bump 1).put Z.next ⟨shwC (shwS s).2, 63, true⟩).next = Z.next + 1 := rfl
    generalize hW : (Z.bump 1).put Z.next ⟨shwC (shwS s).2, 63, true⟩ = W at hgW hw hnW
    have hh2 := hh2.grew hgW; have hk := hk.grew hgW
    have hgMW := hgZ.trans hgW
    obtain ⟨v2, U, happ, hO2, hokU, hnU, hkeep, _⟩ := own_app ap_27_27 (hgMW.ok hok) (show M2.next ≤ W.next by omega) (hO.grew hgW) (flatMap_len shwC_len acc) (hw.content 5 1 1 rfl) rfl (by omega)
    have hgU : Grew M U := ⟨fun i hi => (hkeep i (by have := hg02.next; omega)).trans (hgMW.keep i hi), Nat.le_trans hgMW.next hnU, fun _ => hokU⟩
    have hkp : ∀ j b, j < M2.next → Has W j b → Has U j b := fun j b hj h => ⟨(hkeep j hj).trans h.1, Nat.lt_of_lt_of_le h.2 hnU⟩
    have hW2 : (Z.bump 1).put Z.next ⟨[.string (strOf (textS s).2), .int .i64 (numS (textS s).1 6).2, .int .i64 (numS (numS (textS s).1 6).1 6).2, .bool (bitF (flagsS (numS (numS (textS s).1 6).1 6).1 4).2 0), .bool (bitF (flagsS (numS (numS (textS s).1 6).1 6).1 4).2 1)], 63, true⟩ = W := hW
    refine AWP.lastR fun K hK => ?_
    simp -implicitDefEqProofs only [go_sem, Nat.reduceEqDiff, Nat.reduceLT, Nat.reduceAdd, Nat.reduceMul, Nat.reduceSub, Nat.add_zero, Nat.zero_add, Int.reduceEq, Int.reduceLT, str_N hu1 (hg0.trans (hgZ.bump 1)), str_N hu1 (hg0.trans hgZ), i64w (n := (numS (textS s).1 6).2) (by omega) (by omega), i64w (n := (numS (numS (textS s).1 6).1 6).2) (by omega) (by omega), tb0 hr8, tb1 hr8, bd_63c, bs1_27 ⟨strOf (textS s).2, (numS (textS s).1 6).2, (numS (numS (textS s).1 6).1 6).2, bitF (flagsS (numS (numS (textS s).1 6).1 6).1 4).2 0, bitF (flagsS (numS (numS (textS s).1 6).1 6).1 4).2 1⟩, hW2, happ]
    refine hK _ _ ?_; clear hK
    refine AWP.lastR fun K hK => ?_
    simp only [go_sem, Nat.reduceEqDiff, Nat.reduceLT, Nat.reduceAdd, Nat.reduceMul, Nat.reduceSub, Nat.add_zero, Nat.zero_add, Int.reduceEq, Int.reduceLT]
    refine hK _ _ ?_; clear hK
    rw [loopP_step shwS h0 hcode] at hlp
    refine ⟨c - 1, by omega, by omega, hgU, (show M2.next ≤ U.next by omega), (shwS s).1, acc ++ [(shwS s).2], v2, vb4, by simp; omega, hkp _ _ h12 hh2, hkp _ _ h14 hk, hE4, by simpa using hO2, hb8, (show (flagsS (numS (numS (textS s).1 6).1 6).1 4).1.b.length ≤ 1000000 by omega), ?_, ?_⟩ -- ROUND
    · rw [hlp]; simp
    · simp only [go_sem, Nat.reduceEqDiff, Nat.reduceLT, Nat.reduceAdd, Nat.reduceMul, Nat.reduceSub, Nat.add_zero, Nat.zero_add, Int.reduceEq, Int.reduceLT]
      rw [i64w (by omega) (by omega), show ((cnt - c : Nat) : Int) + 1 = ((cnt - (c - 1) : Nat) : Int) by omega]
  · have hc0 : c = 0 ∨ s.code ≠ 0 := by
      by_cases h0 : c = 0
      · exact .inl h0
      · right; intro h; simp at h28; exact h28 (by omega) h
    refine AWP.exit (Then.exit (Then.exit (InBlock.same ?_)))
    rw [loopP_stop shwS hc0, List.append_nil] at hlp
    have h1 := hE.row.one
    refine AWP.stepR [2, 3] fun K hK => ?_
    simp only [go_sem, Nat.reduceEqDiff, Nat.reduceLT, Nat.reduceAdd, Nat.reduceMul, Nat.reduceSub, Nat.add_zero, Nat.zero_add, Int.reduceEq, Int.reduceLT, ld_86, hk.lda (rdC_len ..), st_86, st_all (n := 2) (vs := rdC vb s.code) hh2 rfl rfl rfl (rdC_one h1)]
    refine hK _ _ _ (by simp only [go_sem, Nat.reduceEqDiff, Nat.reduceLT, Nat.reduceAdd, Nat.reduceMul, Nat.reduceSub, Nat.add_zero, Nat.zero_add, Int.reduceEq, Int.reduceLT]; rfl) ?_; clear hK
    obtain ⟨hgz, hhz⟩ := mk_put hgM (Nat.le_succ _) hh2.2 ⟨rdC vb s.code, 86, true⟩
    have hO := hO.put (show M.next + 1 < (baseN M2.next).next from h12) ⟨rdC vb s.code, 86, true⟩
    refine AWP.ret (?_)
    rw [hlp]
    exact Fin.keep (v := .tuple #[.agg (rdC vb s.code).toArray, bv]) (.inr rfl) (by simp only [go_sem, Nat.reduceEqDiff, Nat.reduceLT, Nat.reduceAdd, Nat.reduceMul, Nat.reduceSub, Nat.add_zero, Nat.zero_add, Int.reduceEq, Int.reduceLT, retV, resV, ld_86, hhz.lda (rdC_len ..)] <;> rfl) ⟨hgz, _, _, rfl, ⟨vb, rfl, hE⟩, hO.base hg02.next⟩
end Go.Proofs.Ythheaehpnleiaaa.AX

/- The other reader of answers, by value: numbers, the ending. -/
namespace Go.Proofs.Ythheaehpnleiaaa.AX
open Go Go.Proofs
set_option maxRecDepth 100000
set_option linter.unusedVariables false
set_option linter.unusedSimpArgs false

theorem numbers59_spec (v : Value) (s : Rs) (k : Nat) (M0 M : Mem) (hok : Ok M) (hg0 : Grew M0 M) (hv : RdV M0 v s) (hb : BytB s.b) (hl : s.b.length ≤ 1000000) (hk : k ≤ 1000) :
    ∃ r M', ACall Try.prog 59 #[v, .int .i64 k] M r M' ∧ Grew M M' ∧ ∃ v' w, r = .tuple #[v', w] ∧ RdV M0 v' (sevS s k) ∧ Own M M' w k ((List.range k).map fun i => .int .i64 (sevN s i)) 3 := by
  have hv0 := hv
  obtain ⟨vb, rfl, hvE⟩ := hv
  refine ACall.fin (args := [.agg (rdC vb s.code).toArray, .int .i64 k]) (k := 30) (rs := [.cell 4 86, .tmp 5]) Try.func59 rfl rfl rfl (Nat.le_of_ble_eq_true rfl) ?_
  refine AWP.stepR [1, 2, 4] fun K hK => ?_
  simp only [go_sem, Nat.reduceEqDiff, Nat.reduceLT, Nat.reduceAdd, Nat.reduceMul, Nat.reduceSub, Nat.add_zero, Nat.zero_add, Int.reduceEq, Int.reduceLT]
  refine hK _ _ _ (by simp only [go_sem, Nat.reduceEqDiff, Nat.reduceLT, Nat.reduceAdd, Nat.reduceMul, Nat.reduceSub, Nat.add_zero, Nat.zero_add, Int.reduceEq, Int.reduceLT]; rfl) ?_; clear hK
  obtain ⟨M1, hM1, hg1, hh1, hh2, hn1⟩ := box2 M vb s.code
  change AWP _ _ _ ⟨_, ((M.bump 2).put M.next ⟨rdC vb s.code, 86, true⟩).put (M.next + 1) ⟨rdC (.slice none 0 0) 0, 86, true⟩⟩ _
  rw [hM1]
  have h1 := hvE.row.one
  refine AWP.stepR [1, 4, 6] fun K hK => ?_
  simp only [go_sem, Nat.reduceEqDiff, Nat.reduceLT, Nat.reduceAdd, Nat.reduceMul, Nat.reduceSub, Nat.add_zero, Nat.zero_add, Int.reduceEq, Int.reduceLT, ld_86, hh1.lda (rdC_len ..), (hh1.grew ((Grew.refl M1).bump 1)).lda (rdC_len ..), st_fresh (M := M1.bump 1) (i := M1.next) (n := 2) (old := [.slice none 0 0, .int .i64 0]) (vs := rdC vb s.code) (e := 86) rfl rfl (rdC_one h1)]
  refine hK _ _ _ (by simp only [go_sem, Nat.reduceEqDiff, Nat.reduceLT, Nat.reduceAdd, Nat.reduceMul, Nat.reduceSub, Nat.add_zero, Nat.zero_add, Int.reduceEq, Int.reduceLT]; rfl) ?_; clear hK
  obtain ⟨M2, hM2, hg2, hk2⟩ := kept M1 (M1.bump 1) (Grew.refl _) [.slice none 0 0, .int .i64 0] (rdC vb s.code) 86
  rw [hM2]
  have hg02 := hg1.trans hg2
  have hh22 := hh2.grew hg2
  refine AWP.stepR [1, 4, 6, 7] fun K hK => ?_
  simp only [go_sem, Nat.reduceEqDiff, Nat.reduceLT, Nat.reduceAdd, Nat.reduceMul, Nat.reduceSub, Nat.add_zero, Nat.zero_add, Int.reduceEq, Int.reduceLT]
  refine hK _ _ _ (by simp only [go_sem, Nat.reduceEqDiff, Nat.reduceLT, Nat.reduceAdd, Nat.reduceMul, Nat.reduceSub, Nat.add_zero, Nat.zero_add, Int.reduceEq, Int.reduceLT]; rfl) ?_; clear hK
  refine AWP.seq ?_
  refine AWP.stepR [1, 4, 6, 7, 8] fun K hK => ?_
  simp only [go_sem, Nat.reduceEqDiff, Nat.reduceLT, Nat.reduceAdd, Nat.reduceMul, Nat.reduceSub, Nat.add_zero, Nat.zero_add, Int.reduceEq, Int.reduceLT]
  refine hK _ _ _ (by simp only [go_sem, Nat.reduceEqDiff, Nat.reduceLT, Nat.reduceAdd, Nat.reduceMul, Nat.reduceSub, Nat.add_zero, Nat.zero_add, Int.reduceEq, Int.reduceLT]; rfl) ?_; clear hK
  refine AWP.block ?_ -- b0
  have h12 := hh22.2; have h14 := hk2.2
  have hsev : ∀ i, BytB (sevS s i).b ∧ (sevS s i).b.length ≤ 1000000 := sev_keep ⟨hb, hl⟩
  refine AWP.loopK [1, 4, 6, 7, 8] (fun c e M3 => c ≤ k ∧ Grew M M3 ∧ M2.next ≤ M3.next ∧ ∃ bv vb, Has M3 (M.next + 1) ⟨rdC (.slice none 0 0) 0, 86, true⟩ ∧ Has M3 M1.next ⟨rdC vb (sevS s (k - c)).code, 86, true⟩ ∧ RowE M0 vb (sevS s (k - c)).b.length (cB (sevS s (k - c)).b) 5 ∧ Own (baseN M2.next) M3 bv (k - c) ((List.range (k - c)).map fun i => .int .i64 (sevN s i)) 3 ∧ e = [(1, .int .i64 k), (4, .pointer (some ⟨M.next + 1, 0, none⟩)), (6, .pointer (some ⟨M1.next, 0, none⟩)), (7, bv), (8, .int .i64 ((k - c : Nat) : Int))]) k ?_ fun c e M3 hI => ?_ -- LOOP
  · simp only [go_sem, Nat.reduceEqDiff, Nat.reduceLT, Nat.reduceAdd, Nat.reduceMul, Nat.reduceSub, Nat.add_zero, Nat.zero_add, Int.reduceEq, Int.reduceLT, Nat.le_refl]
    refine ⟨hg02, .slice none 0 0, vb, hh22, ?_, ?_, ?_, by simp⟩
    · rw [Nat.sub_self]; exact hk2
    · rw [Nat.sub_self]; exact hvE
    · rw [Nat.sub_self]; exact Own.nil _ _ _
  obtain ⟨hcc, hgM, hN, bv, vb, hh2, hk, hE, hO, rfl⟩ := hI
  have hbs := (hsev (k - c)).1; have hls := (hsev (k - c)).2
  refine AWP.seq ?_
  refine AWP.stepR [1, 4, 6, 7, 8, 14] fun K hK => ?_
  simp only [go_sem, Nat.reduceEqDiff, Nat.reduceLT, Nat.reduceAdd, Nat.reduceMul, Nat.reduceSub, Nat.add_zero, Nat.zero_add, Int.reduceEq, Int.reduceLT]
  refine hK _ _ _ (by simp only [go_sem, Nat.reduceEqDiff, Nat.reduceLT, Nat.reduceAdd, Nat.reduceMul, Nat.reduceSub, Nat.add_zero, Nat.zero_add, Int.reduceEq, Int.reduceLT]; rfl) ?_; clear hK
  refine AWP.cond_split rfl (fun h14 => ?_) fun h14 => ?_
  · have hc0 : k - c < k := by simpa using h14
    refine AWP.skip ?_
    refine AWP.seq ?_
    refine AWP.block ?_ -- b1
    obtain ⟨rx, X, hcx, hgx, w1, rfl, vb1, rfl, hE1⟩ := number94_spec (.agg (rdC vb (sevS s (k - c)).code).toArray) (sevS s (k - c)) 6 M0 (M3.bump 1) ((hgM.bump 1).ok hok) (hg0.trans (hgM.bump 1)) ⟨vb, rfl, hE⟩ hbs (by omega) (by omega)
    have hr6 := numS_b6 hbs
    have h1 := hE1.row.one
    obtain ⟨Y, hY, hgy, hy⟩ := kept M3 X hgx [.slice none 0 0, .int .i64 0] (rdC vb1 (numS (sevS s (k - c)) 6).1.code) 86
    refine AWP.stepR [1, 4, 6, 7, 8, 9, 10] fun K hK => ?_
    simp only [go_sem, Nat.reduceEqDiff, Nat.reduceLT, Nat.reduceAdd, Nat.reduceMul, Nat.reduceSub, Nat.add_zero, Nat.zero_add, Int.reduceEq, Int.reduceLT, ld_86, hk.lda (rdC_len ..)]
    refine ⟨_, _, hcx, ?_⟩
    try simp only [go_sem, Nat.reduceEqDiff, Nat.reduceLT, Nat.reduceAdd, Nat.reduceMul, Nat.reduceSub, Nat.add_zero, Nat.zero_add, Int.reduceEq, Int.reduceLT, extractV, st_fresh (M := X) (i := M3.next) (n := 2) (old := [.slice none 0 0, .int .i64 0]) (vs := rdC vb1 (numS (sevS s (k - c)) 6).1.code) (e := 86) rfl rfl (rdC_one h1), hY]
    refine hK _ _ _ (by simp only [go_sem, Nat.reduceEqDiff, Nat.reduceLT, Nat.reduceAdd, Nat.reduceMul, Nat.reduceSub, Nat.add_zero, Nat.zero_add, Int.reduceEq, Int.reduceLT]; rfl) ?_; clear hK
    have hh2 := hh2.grew hgy; have hk := hk.grew hgy; have hO := hO.grew hgy
    have hgY := hgM.trans hgy
    have hnY := hgy.next
    have hS : (numS (sevS s (k - c)) 6).1 = sevS s (k - (c - 1)) := by rw [show k - (c - 1) = k - c + 1 by omega]; rfl
    have hV : (numS (sevS s (k - c)) 6).2 = sevN s (k - c) := rfl
    rw [hS] at hy hE1
    rw [hV] at hr6 ⊢
    refine AWP.stepR [1, 4, 6, 7, 8, 10] fun K hK => ?_
    simp only [go_sem, Nat.reduceEqDiff, Nat.reduceLT, Nat.reduceAdd, Nat.reduceMul, Nat.reduceSub, Nat.add_zero, Nat.zero_add, Int.reduceEq, Int.reduceLT, ld_86, hy.lda (rdC_len ..), st_86, st_all (n := 2) (vs := rdC vb1 (sevS s (k - (c - 1))).code) hk rfl rfl rfl (rdC_one h1)]
    refine hK _ _ _ (by simp only [go_sem, Nat.reduceEqDiff, Nat.reduceLT, Nat.reduceAdd, Nat.reduceMul, Nat.reduceSub, Nat.add_zero, Nat.zero_add, Int.reduceEq, Int.reduceLT]; rfl) ?_; clear hK
    have hh2 := hh2.put' (show M.next + 1 ≠ M1.next by omega) ⟨rdC vb1 (sevS s (k - (c - 1))).code, 86, true⟩
    have hO := hO.put (show M1.next < (baseN M2.next).next from by assumption) ⟨rdC vb1 (sevS s (k - (c - 1))).code, 86, true⟩
    obtain ⟨hgZ, hk⟩ := mk_put hgY (show M.next ≤ M1.next by omega) hk.2 ⟨rdC vb1 (sevS s (k - (c - 1))).code, 86, true⟩
    have hnZ : (Y.put M1.next ⟨rdC vb1 (sevS s (k - (c - 1))).code, 86, true⟩).next = Y.next := rfl
    generalize Y.put M1.next ⟨rdC vb1 (sevS s (k - (c - 1))).code, 86, true⟩ = Z at hh2 hO hgZ hk hnZ
    have hltZ : Z.next < (Z.bump 1).next := Nat.lt_succ_self _
    obtain ⟨hgW, hw⟩ := mk_put ((Grew.refl Z).bump 1) (Nat.le_refl _) hltZ ⟨[.int .i64 (sevN s (k - c))], 3, true⟩
    have hnW : ((Z.bump 1).put Z.next ⟨[.int .i64 (sevN s (k - c))], 3, true⟩).next = Z.next + 1 := rfl
    generalize hW : (Z.bump 1).put Z.next ⟨[.int .i64 (sevN s (k - c))], 3, true⟩ = W at hgW hw hnW
    have hh2 := hh2.grew hgW; have hk := hk.grew hgW
    have hgMW := hgZ.trans hgW
    obtain ⟨v2, U, happ, hO2, hokU, hnU, hkeep, _⟩ := own_app ap_66_66 (hgMW.ok hok) (show M2.next ≤ W.next by omega) (hO.grew hgW) (by simp) (hw.content 1 1 1 rfl) rfl (by omega)
    have hgU : Grew M U := ⟨fun i hi => (hkeep i (by have := hg02.next; omega)).trans (hgMW.keep i hi), Nat.le_trans hgMW.next hnU, fun _ => hokU⟩
    have hkp : ∀ j b, j < M2.next → Has W j b → Has U j b := fun j b hj h => ⟨(hkeep j hj).trans h.1, Nat.lt_of_lt_of_le h.2 hnU⟩
    refine AWP.lastR fun K hK => ?_
    simp only [go_sem, Nat.reduceEqDiff, Nat.reduceLT, Nat.reduceAdd, Nat.reduceMul, Nat.reduceSub, Nat.add_zero, Nat.zero_add, Int.reduceEq, Int.reduceLT, i64w (n := sevN s (k - c)) (by omega) (by omega), hW, happ]
    refine hK _ _ ?_; clear hK
    refine AWP.lastR fun K hK => ?_
    simp only [go_sem, Nat.reduceEqDiff, Nat.reduceLT, Nat.reduceAdd, Nat.reduceMul, Nat.reduceSub, Nat.add_zero, Nat.zero_add, Int.reduceEq, Int.reduceLT]
    refine hK _ _ ?_; clear hK
    refine ⟨c - 1, by omega, by omega, hgU, (show M2.next ≤ U.next by omega), v2, vb1, hkp _ _ h12 hh2, hkp _ _ (by assumption) hk, hE1, ?_, ?_⟩ -- ROUND
    · rw [show k - (c - 1) = k - c + 1 by omega, List.range_succ, List.map_append]
      exact hO2
    · simp only [go_sem, Nat.reduceEqDiff, Nat.reduceLT, Nat.reduceAdd, Nat.reduceMul, Nat.reduceSub, Nat.add_zero, Nat.zero_add, Int.reduceEq, Int.reduceLT]
      rw [i64w (by omega) (by omega), show ((k - c : Nat) : Int) + 1 = ((k - (c - 1) : Nat) : Int) by omega]
  · have hc0 : c = 0 := by simp at h14; omega
    subst hc0
    rw [Nat.sub_zero] at hk hE hO
    refine AWP.exit (Then.exit (Then.exit (InBlock.same ?_)))
    have h1 := hE.row.one
    refine AWP.stepR [4, 5] fun K hK => ?_
    simp only [go_sem, Nat.reduceEqDiff, Nat.reduceLT, Nat.reduceAdd, Nat.reduceMul, Nat.reduceSub, Nat.add_zero, Nat.zero_add, Int.reduceEq, Int.reduceLT, ld_86, hk.lda (rdC_len ..), st_86, st_all (n := 2) (vs := rdC vb (sevS s k).code) hh2 rfl rfl rfl (rdC_one h1)]
    refine hK _ _ _ (by simp only [go_sem, Nat.reduceEqDiff, Nat.reduceLT, Nat.reduceAdd, Nat.reduceMul, Nat.reduceSub, Nat.add_zero, Nat.zero_add, Int.reduceEq, Int.reduceLT]; rfl) ?_; clear hK
    obtain ⟨hgz, hhz⟩ := mk_put hgM (Nat.le_succ _) hh2.2 ⟨rdC vb (sevS s k).code, 86, true⟩
    have hO := hO.put (show M.next + 1 < (baseN M2.next).next from h12) ⟨rdC vb (sevS s k).code, 86, true⟩
    refine AWP.ret (?_)
    exact Fin.keep (v := .tuple #[.agg (rdC vb (sevS s k).code).toArray, bv]) (.inr rfl) (by simp only [go_sem, Nat.reduceEqDiff, Nat.reduceLT, Nat.reduceAdd, Nat.reduceMul, Nat.reduceSub, Nat.add_zero, Nat.zero_add, Int.reduceEq, Int.reduceLT, retV, resV, ld_86, hhz.lda (rdC_len ..)] <;> rfl) ⟨hgz, _, _, rfl, ⟨vb, rfl, hE⟩, hO.base hg02.next⟩

theorem end63_spec (v : Value) (s : Rs) (M : Mem) (hok : Ok M) (hv : RdV M v s) : ∃ r M', ACall Try.prog 63 #[v] M r M' ∧ r = .int .i64 (endS s).code ∧ M' = M := by
  obtain ⟨vb, rfl, hvE⟩ := hv
  refine ACall.fin (args := [.agg (rdC vb s.code).toArray]) (k := 14) (rs := [.tmp 2]) Try.func63 rfl rfl rfl (Nat.le_of_ble_eq_true rfl) ?_
  refine AWP.stepR [1] fun K hK => ?_
  simp only [go_sem, Nat.reduceEqDiff, Nat.reduceLT, Nat.reduceAdd, Nat.reduceMul, Nat.reduceSub, Nat.add_zero, Nat.zero_add, Int.reduceEq, Int.reduceLT]
  refine hK _ _ _ (by simp only [go_sem, Nat.reduceEqDiff, Nat.reduceLT, Nat.reduceAdd, Nat.reduceMul, Nat.reduceSub, Nat.add_zero, Nat.zero_add, Int.reduceEq, Int.reduceLT]; rfl) ?_; clear hK
  have hlt1 : M.next < (M.bump 1).next := Nat.lt_succ_self _
  obtain ⟨hg1, hh1⟩ := mk_put ((Grew.refl M).bump 1) (Nat.le_refl _) hlt1 ⟨(rdC vb s.code), 86, true⟩
  change AWP _ _ _ ⟨_, (M.bump 1).put M.next ⟨(rdC vb s.code), 86, true⟩⟩ _
  generalize hM1 : (M.bump 1).put M.next ⟨(rdC vb s.code), 86, true⟩ = M1 at hg1 hh1
  refine AWP.seq ?_
  refine AWP.stepX [1, 11] [(1, .pointer (some ⟨M.next, 0, none⟩)), (11, .bool (decide (s.code = 0 ∧ 0 < s.b.length)))] M1 (fun K hK => ?_) ?_
  · by_cases h0 : s.code = 0
    · simp only [go_sem, Nat.reduceEqDiff, Nat.reduceLT, Nat.reduceAdd, Nat.reduceMul, Nat.reduceSub, Nat.add_zero, Nat.zero_add, Int.reduceEq, Int.reduceLT, ld_22, hh1.ld, rdC, h0, show ((0 : Int) == 0) = true from rfl, ld_23, hvE.row.len es_23]
      refine hK _ ?_
      simp only [go_sem, Nat.reduceEqDiff, Nat.reduceLT, Nat.reduceAdd, Nat.reduceMul, Nat.reduceSub, Nat.add_zero, Nat.zero_add, Int.reduceEq, Int.reduceLT]
      simp [h0]
    · simp only [go_sem, Nat.reduceEqDiff, Nat.reduceLT, Nat.reduceAdd, Nat.reduceMul, Nat.reduceSub, Nat.add_zero, Nat.zero_add, Int.reduceEq, Int.reduceLT, ld_22, hh1.ld, rdC, show (s.code == 0) = false by simp [h0]]
      refine hK _ ?_
      simp only [go_sem, Nat.reduceEqDiff, Nat.reduceLT, Nat.reduceAdd, Nat.reduceMul, Nat.reduceSub, Nat.add_zero, Nat.zero_add, Int.reduceEq, Int.reduceLT]
      rw [show decide (s.code = 0 ∧ 0 < s.b.length) = false by simp [h0]]
  refine AWP.cond_split rfl (fun h11 => ?_) fun h11 => ?_
  · have h := of_decide_eq_true h11
    refine AWP.stepR [2] fun K hK => ?_
    simp only [go_sem, Nat.reduceEqDiff, Nat.reduceLT, Nat.reduceAdd, Nat.reduceMul, Nat.reduceSub, Nat.add_zero, Nat.zero_add, Int.reduceEq, Int.reduceLT]
    refine hK _ _ _ (by simp only [go_sem, Nat.reduceEqDiff, Nat.reduceLT, Nat.reduceAdd, Nat.reduceMul, Nat.reduceSub, Nat.add_zero, Nat.zero_add, Int.reduceEq, Int.reduceLT]; rfl) ?_; clear hK
    refine AWP.ret (Then.ret (?_))
    refine Fin.plain (.inr rfl) rfl rfl hok hg1 ⟨?_, rfl⟩
    rw [endS, if_pos (by omega), failS, if_pos h.1]
  · have h := of_decide_eq_false h11
    refine AWP.skip ?_
    refine AWP.stepR [2] fun K hK => ?_
    simp only [go_sem, Nat.reduceEqDiff, Nat.reduceLT, Nat.reduceAdd, Nat.reduceMul, Nat.reduceSub, Nat.add_zero, Nat.zero_add, Int.reduceEq, Int.reduceLT, ld_22, hh1.ld, rdC]
    refine hK _ _ _ (by simp only [go_sem, Nat.reduceEqDiff, Nat.reduceLT, Nat.reduceAdd, Nat.reduceMul, Nat.reduceSub, Nat.add_zero, Nat.zero_add, Int.reduceEq, Int.reduceLT]; rfl) ?_; clear hK
    refine AWP.ret ?_
    refine Fin.plain (.inr rfl) rfl rfl hok hg1 ⟨?_, rfl⟩
    by_cases h2 : (s.b.length : Int) > 0
    · have h0 : s.code ≠ 0 := fun h0 => h ⟨h0, by omega⟩
      rw [endS, if_pos h2, failS, if_neg h0]
    · rw [endS, if_neg h2]
end Go.Proofs.Ythheaehpnleiaaa.AX

/- The other Get of answers: what stands ahead. -/
namespace Go.Proofs.Ythheaehpnleiaaa.AX
open Go Go.Proofs
set_option maxRecDepth 100000
set_option linter.unusedVariables false
set_option linter.unusedSimpArgs false

theorem fail93e_spec (vb : Value) (s : Rs) (c : Int) (M : Mem) (hok : Ok M) (h1 : vb.oneCell' = true) :
    ∃ r M', ACall Try.prog 93 #[.agg (rdC vb s.code).toArray, .int .i64 c] M r M' ∧ Grew M M' ∧ r = .agg (rdC vb (failS s c).code).toArray := by
  refine ACall.fin (args := [.agg (rdC vb s.code).toArray, .int .i64 c]) (k := 13) (rs := [.cell 4 86]) Try.func93 rfl rfl rfl (Nat.le_of_ble_eq_true rfl) ?_
  refine AWP.stepR [1, 2, 4] fun K hK => ?_
  simp only [go_sem, Nat.reduceEqDiff, Nat.reduceLT, Nat.reduceAdd, Nat.reduceMul, Nat.reduceSub, Nat.add_zero, Nat.zero_add, Int.reduceEq, Int.reduceLT]
  refine hK _ _ _ (by simp only [go_sem, Nat.reduceEqDiff, Nat.reduceLT, Nat.reduceAdd, Nat.reduceMul, Nat.reduceSub, Nat.add_zero, Nat.zero_add, Int.reduceEq, Int.reduceLT]; rfl) ?_; clear hK
  obtain ⟨M1, hM1, hg1, hh1, hh2, hn1⟩ := box2 M vb s.code
  change AWP _ _ _ ⟨_, ((M.bump 2).put M.next ⟨rdC vb s.code, 86, true⟩).put (M.next + 1) ⟨rdC (.slice none 0 0) 0, 86, true⟩⟩ _
  rw [hM1]
  have hlt3 : M1.next < (M1.bump 1).next := Nat.lt_succ_self _
  refine AWP.stepR [1, 2, 4, 5] fun K hK => ?_
  simp only [go_sem, Nat.reduceEqDiff, Nat.reduceLT, Nat.reduceAdd, Nat.reduceMul, Nat.reduceSub, Nat.add_zero, Nat.zero_add, Int.reduceEq, Int.reduceLT, ld_86, hh1.lda (rdC_len ..), st_fresh (M := M1.bump 1) (i := M1.next) (n := 2) (old := [.slice none 0 0, .int .i64 0]) (vs := rdC vb s.code) (e := 86) rfl rfl (rdC_one h1)]
  refine hK _ _ _ (by simp only [go_sem, Nat.reduceEqDiff, Nat.reduceLT, Nat.reduceAdd, Nat.reduceMul, Nat.reduceSub, Nat.add_zero, Nat.zero_add, Int.reduceEq, Int.reduceLT]; rfl) ?_; clear hK
  have hg4 := (((Grew.refl M1).bump 1).put (Nat.le_refl _) hlt3 ⟨[.slice none 0 0, .int .i64 0], 86, true⟩).put (Nat.le_refl _) hlt3 ⟨rdC vb s.code, 86, true⟩
  have hh4 : Has (((M1.bump 1).put M1.next ⟨[.slice none 0 0, .int .i64 0], 86, true⟩).put M1.next ⟨rdC vb s.code, 86, true⟩) M1.next ⟨rdC vb s.code, 86, true⟩ := Has.put (M := (M1.bump 1).put M1.next ⟨[.slice none 0 0, .int .i64 0], 86, true⟩) hlt3 _
  generalize ((M1.bump 1).put M1.next ⟨[.slice none 0 0, .int .i64 0], 86, true⟩).put M1.next ⟨rdC vb s.code, 86, true⟩ = M4 at hg4 hh4
  have hh1 := hh1.grew hg4
  have hh2 := hh2.grew hg4
  have hgM := hg1.trans hg4
  refine AWP.seq ?_
  refine AWP.stepR [1, 4, 5, 9] fun K hK => ?_
  simp only [go_sem, Nat.reduceEqDiff, Nat.reduceLT, Nat.reduceAdd, Nat.reduceMul, Nat.reduceSub, Nat.add_zero, Nat.zero_add, Int.reduceEq, Int.reduceLT, ld_22, hh1.ld, rdC]
  refine hK _ _ _ (by simp only [go_sem, Nat.reduceEqDiff, Nat.reduceLT, Nat.reduceAdd, Nat.reduceMul, Nat.reduceSub, Nat.add_zero, Nat.zero_add, Int.reduceEq, Int.reduceLT]; rfl) ?_; clear hK
  refine AWP.condG rfl [1, 4, 5] [(1, .int .i64 c), (4, .pointer (some ⟨M.next + 1, 0, none⟩)), (5, .pointer (some ⟨M1.next, 0, none⟩))] (fun M' => Grew M M' ∧ Has M' (M.next + 1) ⟨rdC (.slice none 0 0) 0, 86, true⟩ ∧ Has M' M1.next ⟨rdC vb (failS s c).code, 86, true⟩) (fun h9 => ?_) (fun h9 => ?_) fun M5 hg5 => ?_
  · have h0 : s.code = 0 := by simpa using h9
    have fs : stV M4 M1.next 1 1 (.int .i64 c) = some (M4.put M1.next ⟨rdC vb c, 86, true⟩) := st_cellX hh4 rfl (show 1 < 2 by decide) rfl
    refine AWP.lastR fun K hK => ?_
    simp only [go_sem, Nat.reduceEqDiff, Nat.reduceLT, Nat.reduceAdd, Nat.reduceMul, Nat.reduceSub, Nat.add_zero, Nat.zero_add, Int.reduceEq, Int.reduceLT, st_22, fs]
    refine hK _ _ ?_; clear hK
    refine ⟨rfl, (mk_put hgM (by omega) hh4.2 _).1, hh2.put' (by omega) _, ?_⟩
    rw [failS, if_pos h0]
    exact Has.put hh4.2 _
  · have h0 : s.code ≠ 0 := by simpa using h9
    refine AWP.skip ?_
    refine ⟨rfl, hgM, hh2, ?_⟩
    rw [failS, if_neg h0]; exact hh4
  obtain ⟨hg5, hk2, hk4⟩ := hg5
  refine AWP.stepR [4] fun K hK => ?_
  simp only [go_sem, Nat.reduceEqDiff, Nat.reduceLT, Nat.reduceAdd, Nat.reduceMul, Nat.reduceSub, Nat.add_zero, Nat.zero_add, Int.reduceEq, Int.reduceLT, ld_86, hk4.lda (rdC_len ..), st_86, st_all (n := 2) (vs := rdC vb (failS s c).code) hk2 rfl rfl rfl (rdC_one h1)]
  refine hK _ _ _ (by simp only [go_sem, Nat.reduceEqDiff, Nat.reduceLT, Nat.reduceAdd, Nat.reduceMul, Nat.reduceSub, Nat.add_zero, Nat.zero_add, Int.reduceEq, Int.reduceLT]; rfl) ?_; clear hK
  obtain ⟨hgz, hhz⟩ := mk_put hg5 (Nat.le_succ _) hk2.2 ⟨rdC vb (failS s c).code, 86, true⟩
  refine AWP.ret (?_)
  exact Fin.keep (v := .agg (rdC vb (failS s c).code).toArray) (.inr rfl) (by simp only [go_sem, Nat.reduceEqDiff, Nat.reduceLT, Nat.reduceAdd, Nat.reduceMul, Nat.reduceSub, Nat.add_zero, Nat.zero_add, Int.reduceEq, Int.reduceLT, retV, resV, ld_86, hhz.lda (rdC_len ..)]) ⟨hgz, rfl⟩

theorem bytes57e_spec (vb : Value) (M : Mem) (hok : Ok M) (hv : RowB M vb []) :
    ∃ r M', ACall Try.prog 57 #[.agg (rdC vb 0).toArray, .int .i64 3] M r M' ∧ Grew M M' ∧ r = .tuple #[.agg (rdC vb 3).toArray, .slice none 0 0] := by
  refine ACall.fin (args := [.agg (rdC vb 0).toArray, .int .i64 3]) (k := 30) (rs := [.cell 4 86, .tmp 5]) Try.func57 rfl rfl rfl (Nat.le_of_ble_eq_true rfl) ?_
  refine AWP.stepR [1, 2, 4] fun K hK => ?_
  simp only [go_sem, Nat.reduceEqDiff, Nat.reduceLT, Nat.reduceAdd, Nat.reduceMul, Nat.reduceSub, Nat.add_zero, Nat.zero_add, Int.reduceEq, Int.reduceLT]
  refine hK _ _ _ (by simp only [go_sem, Nat.reduceEqDiff, Nat.reduceLT, Nat.reduceAdd, Nat.reduceMul, Nat.reduceSub, Nat.add_zero, Nat.zero_add, Int.reduceEq, Int.reduceLT]; rfl) ?_; clear hK
  obtain ⟨M1, hM1, hg1, hh1, hh2, hn1⟩ := box2 M vb 0
  change AWP _ _ _ ⟨_, ((M.bump 2).put M.next ⟨rdC vb 0, 86, true⟩).put (M.next + 1) ⟨rdC (.slice none 0 0) 0, 86, true⟩⟩ _
  rw [hM1]
  have h1 : vb.oneCell' = true := hv.one
  refine AWP.seq ?_
  refine AWP.stepR [1, 2, 4, 8] fun K hK => ?_
  simp only [go_sem, Nat.reduceEqDiff, Nat.reduceLT, Nat.reduceAdd, Nat.reduceMul, Nat.reduceSub, Nat.add_zero, Nat.zero_add, Int.reduceEq, Int.reduceLT, ld_22, hh1.ld, rdC]
  refine hK _ _ _ (by simp only [go_sem, Nat.reduceEqDiff, Nat.reduceLT, Nat.reduceAdd, Nat.reduceMul, Nat.reduceSub, Nat.add_zero, Nat.zero_add, Int.reduceEq, Int.reduceLT]; rfl) ?_; clear hK
  refine AWP.cond_split rfl (fun h8 => ?_) fun h8 => ?_
  · cases h8
  · refine AWP.skip ?_
    refine AWP.seq ?_
    refine AWP.stepR [2, 4, 18] fun K hK => ?_
    simp only [go_sem, Nat.reduceEqDiff, Nat.reduceLT, Nat.reduceAdd, Nat.reduceMul, Nat.reduceSub, Nat.add_zero, Nat.zero_add, Int.reduceEq, Int.reduceLT, ld_23, hh1.ld, rdC, hv.len es_23]
    refine hK _ _ _ (by simp only [go_sem, Nat.reduceEqDiff, Nat.reduceLT, Nat.reduceAdd, Nat.reduceMul, Nat.reduceSub, Nat.add_zero, Nat.zero_add, Int.reduceEq, Int.reduceLT]; rfl) ?_; clear hK
    refine AWP.cond_split rfl (fun h18 => ?_) fun h18 => ?_
    · obtain ⟨r3, M3, hc3, hg3, rfl⟩ := fail93e_spec vb ⟨[], 0⟩ 3 M1 (hg1.ok hok) h1
      have hh23 := hh2.grew hg3
      have e : (failS ⟨[], 0⟩ 3).code = 3 := rfl
      rw [e] at hc3
      refine AWP.stepR [4, 5] fun K hK => ?_
      simp only [go_sem, Nat.reduceEqDiff, Nat.reduceLT, Nat.reduceAdd, Nat.reduceMul, Nat.reduceSub, Nat.add_zero, Nat.zero_add, Int.reduceEq, Int.reduceLT, ld_86, hh1.lda (rdC_len ..)]
      refine ⟨_, _, hc3, ?_⟩
      try simp only [go_sem, Nat.reduceEqDiff, Nat.reduceLT, Nat.reduceAdd, Nat.reduceMul, Nat.reduceSub, Nat.add_zero, Nat.zero_add, Int.reduceEq, Int.reduceLT, st_86, st_all (n := 2) (vs := rdC vb 3) hh23 rfl rfl rfl (rdC_one h1)]
      refine hK _ _ _ (by simp only [go_sem, Nat.reduceEqDiff, Nat.reduceLT, Nat.reduceAdd, Nat.reduceMul, Nat.reduceSub, Nat.add_zero, Nat.zero_add, Int.reduceEq, Int.reduceLT]; rfl) ?_; clear hK
      obtain ⟨hgz, hhz⟩ := mk_put (hg1.trans hg3) (Nat.le_succ _) hh23.2 ⟨rdC vb 3, 86, true⟩
      refine AWP.ret (Then.ret (?_))
      exact Fin.keep (v := .tuple #[.agg (rdC vb 3).toArray, .slice none 0 0]) (.inr rfl) (by simp only [go_sem, Nat.reduceEqDiff, Nat.reduceLT, Nat.reduceAdd, Nat.reduceMul, Nat.reduceSub, Nat.add_zero, Nat.zero_add, Int.reduceEq, Int.reduceLT, retV, resV, ld_86, hhz.lda (rdC_len ..)] <;> rfl) ⟨hgz, rfl⟩
    · simp at h18

/-- bytes that are read cost bytes: there are not many things -/
theorem replyS_few {s : Rs} (hl : s.b.length ≤ 4000) (h : (endS (replyS s).1).code = 0) : (replyS s).2.names.length ≤ 1000 ∧ (replyS s).2.prefixes.length ≤ 1000 ∧ (replyS s).2.shown.length ≤ 1000 := by
  have k0 : (flagsS s 8).1.b.length ≤ 4000 := Nat.le_trans (flagsS_len s 8) hl
  have k1 : ∀ k, (sevS (flagsS s 8).1 k).b.length ≤ 4000 := fun k => by
    induction k with
    | zero => exact k0
    | succ k ih => exact Nat.le_trans (numS_len _ 6) ih
  have hm : ∀ {α : Type} (f : Rs → Rs × α) (hf : ∀ s, (f s).1.b.length ≤ s.b.length) (n : Nat) (s : Rs), (loopP f n s).1.b.length ≤ s.b.length := fun f hf n => by
    induction n with
    | zero => intro s; exact Nat.le_refl _
    | succ n ih =>
      intro s
      rw [loopP]
      split
      · exact Nat.le_trans (ih _) (hf s)
      · exact Nat.le_refl _
  have hM : ∀ {α : Type} (f : Rs → Rs × α) (hf : ∀ s, (f s).1.b.length ≤ s.b.length) (s : Rs), (manyS f s).1.b.length ≤ s.b.length := fun f hf s => Nat.le_trans (hm f hf _ _) (countS_len s)
  have ht : ∀ s : Rs, (textS s).1.b.length ≤ s.b.length := fun s => (textS_len s).1
  simp only [replyS] at h ⊢
  generalize hs0 : sevS (flagsS s 8).1 7 = s0 at h ⊢
  have q0 : s0.b.length ≤ 4000 := hs0 ▸ k1 7
  have q1 := ht s0
  have q2 := ht (textS s0).1
  generalize (textS (textS s0).1).1 = s2 at h q2 ⊢
  have q3 := hM textS ht s2
  have q4 := hM textS ht (manyS textS s2).1
  have q5 := ht (manyS textS (manyS textS s2).1).1
  have z1 := Classical.byContradiction fun hn => endS_bad hn h
  have z2 := Classical.byContradiction fun hn => textS_bad hn z1
  have z3 := Classical.byContradiction fun hn => manyS_bad shwS hn z2
  have z4 := Classical.byContradiction fun hn => textS_bad hn z3
  have z5 := Classical.byContradiction fun hn => manyS_bad textS hn z4
  have w0 := manyS_cost textS (fun s => textS_cost) z5
  have w1 := manyS_cost textS (fun s => textS_cost) z4
  have w2 := manyS_cost shwS (fun s => shwS_cost) z2
  rw [List.length_map, List.length_map]
  omega

theorem isSl_N {M : Mem} {v : Value} {l : List Int} (h : RowN M v l) : ∃ p n c, v = .slice p n c := by
  rcases h with ⟨rfl, _⟩ | ⟨b, o, c, blk, rfl, _⟩
  · exact ⟨_, _, _, rfl⟩
  · exact ⟨_, _, _, rfl⟩
theorem isSl_O {Mb M : Mem} {v : Value} {n : Nat} {cells : List Value} {e : TypeId} (h : Own Mb M v n cells e) : ∃ p n c, v = .slice p n c := by
  rcases h with ⟨rfl, _⟩ | ⟨id, c, blk, _, _, rfl, _⟩
  · exact ⟨_, _, _, rfl⟩
  · exact ⟨_, _, _, rfl⟩
theorem bd_29r (a0 a1 a2 a3 a7 a11 a12 : Int) {b m t s : Value} (hb : ∃ p n c, b = .slice p n c) (hm : ∃ p n c, m = .slice p n c) (ht : ∃ p n c, t = .slice p n c) (hs : ∃ p n c, s = .slice p n c) :
    buildV Try.prog 29 [(0, .int .i64 a0), (1, .int .i64 a1), (2, .int .i64 a2), (3, .int .i64 a3), (7, .int .i64 a7), (11, .int .i64 a11), (12, .int .i64 a12), (5, m), (6, t), (10, s), (4, b)] = some (.agg (repC ⟨a0, a1, a2, a3, a7, a11, a12, [], [], [], false, false, false, [], [], ⟨#[]⟩, []⟩ b m t (.slice none 0 0) (.slice none 0 0) s).toArray) := by
  obtain ⟨_, _, _, rfl⟩ := hb
  obtain ⟨_, _, _, rfl⟩ := hm
  obtain ⟨_, _, _, rfl⟩ := ht
  obtain ⟨_, _, _, rfl⟩ := hs
  kernel_rfl
theorem bd_26r (x : ByteArray) (y : Bool) {n p : Value} (hn : ∃ a n_ c, n = .slice a n_ c) (hp : ∃ a n_ c, p = .slice a n_ c) :
    buildV Try.prog 26 [(0, n), (1, p), (2, .string x), (3, .bool y)] = some (.agg #[n, p, .string x, .bool y]) := by
  obtain ⟨_, _, _, rfl⟩ := hn
  obtain ⟨_, _, _, rfl⟩ := hp
  rfl
theorem one_sl {v : Value} (h : ∃ a n c, v = .slice a n c) : v.oneCell' = true := by obtain ⟨_, _, _, rfl⟩ := h; rfl
end Go.Proofs.Ythheaehpnleiaaa.AX
