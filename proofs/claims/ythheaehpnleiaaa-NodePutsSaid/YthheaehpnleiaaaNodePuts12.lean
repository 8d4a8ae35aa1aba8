/- An answer as bytes, by the document. -/
import Derived.Test.YthheaehpnleiaaaNodePuts11
namespace Go.Proofs.Ythheaehpnleiaaa.AX
open Go Go.Proofs
set_option maxRecDepth 100000
set_option linter.unusedVariables false
set_option linter.unusedSimpArgs false

/-- a row of bytes behind a row of its own -/
theorem Own.app {M1 M3 : Mem} {bv rv : Value} {l m : List Int} (hg : Grew M1 M3) (ho : OwnB M1 M3 bv l 5) (hr : RowB M3 rv m) (hlen : l.length + m.length ≤ 1099511627776) :
    ∃ v M4, appendE Try.prog M3 23 23 bv rv = some (v, M4) ∧ OwnB M1 M4 v (l ++ m) 5 ∧ Grew M1 M4 ∧ M3.next ≤ M4.next ∧ ∀ j, j < M3.next → Apart bv j → M4.get j = M3.get j ∧ Apart v j := by
  obtain ⟨v, M4, h1, h2, h3, h4, h5⟩ := Own.append ap_23_23 hg ho (by rw [cB_length, Nat.mul_one]) (hr.content (by rw [cB_length, Nat.mul_one])) (cB_one _) (by omega)
  exact ⟨v, M4, h1, by rw [OwnB, List.length_append, cB_append]; exact h2, h3, h4, h5⟩
theorem flag3 (a b c : Bool) : IntKind.u8.wrap (IntKind.u8.wrap ((if a = true then 1 else 0) + (if b = true then 2 else 0)) + (if c = true then 4 else 0)) = flagF [a, b, c] 3 := by cases a <;> cases b <;> cases c <;> rfl
theorem flag2 (a b : Bool) : IntKind.u8.wrap ((if a = true then 1 else 0) + (if b = true then 2 else 0)) = flagF [a, b] 2 := by cases a <;> cases b <;> rfl

theorem put13_spec (r : Rep) (vb vm vt vn vp vs : Value) (M : Mem) (hok : Ok M) (hr : RepR M r vb vm vt vn vp vs) (hL : Lt r) :
    ∃ v M', ACall Try.prog 13 #[.agg (repC r vb vm vt vn vp vs).toArray] M v M' ∧ Grew M M' ∧ ∃ b, v = .tuple #[b, .int .i64 (checkF r)] ∧ RowB M' b (if checkF r = 0 then replyB r else []) := by
  refine ACall.fin (args := [.agg (repC r vb vm vt vn vp vs).toArray]) (k := 142) Try.func13 rfl rfl rfl (Nat.le_of_ble_eq_true rfl) ?_
  refine AWP.stepR [1] fun K hK => ?_ -- r0
  simp only [go_sem, Nat.reduceEqDiff, Nat.reduceLT, Nat.reduceAdd, Nat.reduceMul, Nat.reduceSub, Nat.add_zero, Nat.zero_add, Int.reduceEq, Int.reduceLT]
  refine hK _ _ _ (by simp only [go_sem, Nat.reduceEqDiff, Nat.reduceLT, Nat.reduceAdd, Nat.reduceMul, Nat.reduceSub, Nat.add_zero, Nat.zero_add, Int.reduceEq, Int.reduceLT]; rfl) ?_; clear hK
  have hlt0 : M.next < (M.bump 1).next := Nat.lt_succ_self _
  obtain ⟨hg1, hh1⟩ := mk_put ((Grew.refl M).bump 1) (Nat.le_refl _) hlt0 ⟨repC r vb vm vt vn vp vs, 29, true⟩
  change AWP _ _ _ ⟨_, (M.bump 1).put M.next ⟨repC r vb vm vt vn vp vs, 29, true⟩⟩ _
  generalize hM1 : (M.bump 1).put M.next ⟨repC r vb vm vt vn vp vs, 29, true⟩ = M1 at hg1 hh1
  have hr := hr.grew hg1
  obtain ⟨rc, Mc, hcc, hrc, hMc⟩ := check16_spec r vb vm vt vn vp vs M1 (hg1.ok hok) hr (by have := hL.names; omega) (by have := hL.prefixes; omega) (by have := hL.shown; omega)
  rw [hrc, hMc] at hcc
  refine AWP.seq ?_
  refine AWP.stepR [1, 4] fun K hK => ?_ -- r1
  simp only [go_sem, Nat.reduceEqDiff, Nat.reduceLT, Nat.reduceAdd, Nat.reduceMul, Nat.reduceSub, Nat.add_zero, Nat.zero_add, Int.reduceEq, Int.reduceLT, ld_29, hh1.lda (repC_len ..)]
  refine ⟨_, _, hcc, ?_⟩
  refine hK _ _ _ (by simp only [go_sem, Nat.reduceEqDiff, Nat.reduceLT, Nat.reduceAdd, Nat.reduceMul, Nat.reduceSub, Nat.add_zero, Nat.zero_add, Int.reduceEq, Int.reduceLT]; rfl) ?_; clear hK
  refine AWP.stepR [1, 4, 13] fun K hK => ?_ -- r2
  simp only [go_sem, Nat.reduceEqDiff, Nat.reduceLT, Nat.reduceAdd, Nat.reduceMul, Nat.reduceSub, Nat.add_zero, Nat.zero_add, Int.reduceEq, Int.reduceLT]
  refine hK _ _ _ (by simp only [go_sem, Nat.reduceEqDiff, Nat.reduceLT, Nat.reduceAdd, Nat.reduceMul, Nat.reduceSub, Nat.add_zero, Nat.zero_add, Int.reduceEq, Int.reduceLT]; rfl) ?_; clear hK
  refine AWP.cond_split rfl (fun h13 => ?_) fun h13 => ?_
  · refine AWP.stepR [2, 3] fun K hK => ?_ -- r3
    simp only [go_sem, Nat.reduceEqDiff, Nat.reduceLT, Nat.reduceAdd, Nat.reduceMul, Nat.reduceSub, Nat.add_zero, Nat.zero_add, Int.reduceEq, Int.reduceLT]
    refine hK _ _ _ (by simp only [go_sem, Nat.reduceEqDiff, Nat.reduceLT, Nat.reduceAdd, Nat.reduceMul, Nat.reduceSub, Nat.add_zero, Nat.zero_add, Int.reduceEq, Int.reduceLT]; rfl) ?_; clear hK
    refine AWP.ret (Then.ret (?_))
    have hne : checkF r ≠ 0 := by simpa using h13
    refine Fin.own (n := 0) (cells := []) (e := 5) (fun v => .tuple #[v, .int .i64 (checkF r)]) (.inr rfl) rfl hok hg1 (Own.nil _ _ _) rfl (fun g hi v v' h => .tuple rfl fun i a b ha hb => ?_) fun v M' hg' hr' _ => ⟨hg', v, rfl, by rw [if_neg hne]; exact hr'⟩
    rcases i with _ | _ | i
    · simp at ha hb; subst ha hb; exact h
    · simp at ha hb; subst ha hb; exact .int _ _
    · simp at ha
  · have hz : checkF r = 0 := by simpa using h13
    obtain ⟨hz1, hz2⟩ := checkF_zero hz
    refine AWP.skip ?_
    have hl1 : M1.next < (M1.bump 1).next := Nat.lt_succ_self _
    obtain ⟨hg2, hh2⟩ := mk_put ((Grew.refl M1).bump 1) (Nat.le_refl _) hl1 ⟨cB [114, 101, 49], 5, true⟩
    have hx2 : ((M1.bump 1).put M1.next ⟨[.int .u8 114, .int .u8 101, .int .u8 49], 5, true⟩) = ((M1.bump 1).put M1.next ⟨cB [114, 101, 49], 5, true⟩) := rfl
    generalize (M1.bump 1).put M1.next ⟨cB [114, 101, 49], 5, true⟩ = M2 at hg2 hh2 hx2
    have ho2 : OwnB M1 M2 (.slice (some ⟨M1.next, 0, none⟩) 3 3) [114, 101, 49] 5 := .inr ⟨M1.next, 3, _, Nat.le_refl _, hh2.2, rfl, hh2.1, rfl, rfl, .inr rfl⟩
    refine AWP.stepR [1, 5] fun K hK => ?_ -- r4
    simp only [go_sem, Nat.reduceEqDiff, Nat.reduceLT, Nat.reduceAdd, Nat.reduceMul, Nat.reduceSub, Nat.add_zero, Nat.zero_add, Int.reduceEq, Int.reduceLT, hx2, mark23 hh2 rfl]
    refine hK _ _ _ (by simp only [go_sem, Nat.reduceEqDiff, Nat.reduceLT, Nat.reduceAdd, Nat.reduceMul, Nat.reduceSub, Nat.add_zero, Nat.zero_add, Int.reduceEq, Int.reduceLT]; rfl) ?_; clear hK
    generalize Value.slice (some ⟨M1.next, 0, none⟩) 3 3 = b2 at ho2
    have hhA := hh1.grew hg2
    have hok2 := (hg1.trans hg2).ok hok
    obtain ⟨e1, N1, he1, hq1, hq1'⟩ := bit_spec r.marker 1 (M2.bump 1) (((Grew.refl M2).bump 1).ok hok2)
    obtain ⟨e2, N2, he2, hq2, hq2'⟩ := bit_spec r.done 2 (M2.bump 1) (((Grew.refl M2).bump 1).ok hok2)
    obtain ⟨e3, N3, he3, hq3, hq3'⟩ := bit_spec r.more 4 (M2.bump 1) (((Grew.refl M2).bump 1).ok hok2)
    rw [hq1, hq1'] at he1
    rw [hq2, hq2'] at he2
    rw [hq3, hq3'] at he3
    obtain ⟨hg3, hh3⟩ := mk_put ((Grew.refl M2).bump 1) (Nat.le_refl _) (Nat.lt_succ_self _) ⟨cB [flagF [r.marker, r.done, r.more] 3], 5, true⟩
    have hx3 : ((M2.bump 1).put M2.next ⟨[.int .u8 (flagF [r.marker, r.done, r.more] 3)], 5, true⟩) = ((M2.bump 1).put M2.next ⟨cB [flagF [r.marker, r.done, r.more] 3], 5, true⟩) := rfl
    generalize (M2.bump 1).put M2.next ⟨cB [flagF [r.marker, r.done, r.more] 3], 5, true⟩ = M3 at hg3 hh3 hx3
    obtain ⟨b4, M4, hap4, ho4, hg4, hnx4, hfr4⟩ := Own.app (hg2.trans hg3) (ho2.grew hg3) (rv := .slice (some ⟨M2.next, 0, none⟩) 1 1) (Row_.of hh3) (by simp)
    refine AWP.stepD hmo [0, 1, 2, 3, 4, 5, 6, 7, 8, 9, 10, 11, 12, 13, 14, 15] [0, 0, 2, 6, 0, 16, 62, 126, 0, 256, 768, 1918, 4094, 8190, 16383, 32767] [] [(5, 3), (10, 3), (10, 6)] (by kernel_rfl) [1, 5] fun K hK => ?_ -- r5
    simp -implicitDefEqProofs only [go_sem, Nat.reduceEqDiff, Nat.reduceLT, Nat.reduceAdd, Nat.reduceMul, Nat.reduceSub, Nat.add_zero, Nat.zero_add, Int.reduceEq, Int.reduceLT, ld_4, hhA.ld, repC]
    refine ⟨_, _, he1, ?_⟩
    simp -implicitDefEqProofs only [go_sem, Nat.reduceEqDiff, Nat.reduceLT, Nat.reduceAdd, Nat.reduceMul, Nat.reduceSub, Nat.add_zero, Nat.zero_add, Int.reduceEq, Int.reduceLT, ld_4, hhA.ld, repC]
    refine ⟨_, _, he2, ?_⟩
    simp -implicitDefEqProofs only [go_sem, Nat.reduceEqDiff, Nat.reduceLT, Nat.reduceAdd, Nat.reduceMul, Nat.reduceSub, Nat.add_zero, Nat.zero_add, Int.reduceEq, Int.reduceLT, ld_4, hhA.ld, repC]
    refine ⟨_, _, he3, ?_⟩
    simp -implicitDefEqProofs only [go_sem, Nat.reduceEqDiff, Nat.reduceLT, Nat.reduceAdd, Nat.reduceMul, Nat.reduceSub, Nat.add_zero, Nat.zero_add, Int.reduceEq, Int.reduceLT, ld_4, hhA.ld, repC, flag3, hx3, hap4]
    refine hK _ _ _ (by simp only [go_sem, Nat.reduceEqDiff, Nat.reduceLT, Nat.reduceAdd, Nat.reduceMul, Nat.reduceSub, Nat.add_zero, Nat.zero_add, Int.reduceEq, Int.reduceLT]; rfl) ?_; clear hK
    have ho4 : OwnB M1 M4 b4 (numsF r 0) 5 := ho4
    have hhA := hh1.grew hg4
    obtain ⟨hg7, hh7⟩ := mk_put ((Grew.refl M4).bump 1) (Nat.le_refl _) (Nat.lt_succ_self _) ⟨(repN r).map (Value.int .i64), 3, true⟩
    have hx7 : (M4.bump 1).put M4.next ⟨[.int .i64 r.code, .int .i64 r.id, .int .i64 r.seq, .int .i64 r.size, .int .i64 r.until_, .int .i64 r.upload, .int .i64 r.count], 3, true⟩ = (M4.bump 1).put M4.next ⟨(repN r).map (Value.int .i64), 3, true⟩ := rfl
    generalize (M4.bump 1).put M4.next ⟨(repN r).map (Value.int .i64), 3, true⟩ = M7 at hg7 hh7 hx7
    have hap0 : Apart b4 M4.next := ho4.apart (.inr (Nat.le_refl _))
    refine AWP.stepR [1, 5, 6] fun K hK => ?_ -- r6
    simp only [go_sem, Nat.reduceEqDiff, Nat.reduceLT, Nat.reduceAdd, Nat.reduceMul, Nat.reduceSub, Nat.add_zero, Nat.zero_add, Int.reduceEq, Int.reduceLT, ld_22, ld_3, hhA.ld, repC, hx7]
    refine hK _ _ _ (by simp only [go_sem, Nat.reduceEqDiff, Nat.reduceLT, Nat.reduceAdd, Nat.reduceMul, Nat.reduceSub, Nat.add_zero, Nat.zero_add, Int.reduceEq, Int.reduceLT]; rfl) ?_; clear hK
    refine AWP.seq ?_
    refine AWP.stepR [1, 5, 6, 7] fun K hK => ?_ -- r7
    simp only [go_sem, Nat.reduceEqDiff, Nat.reduceLT, Nat.reduceAdd, Nat.reduceMul, Nat.reduceSub, Nat.add_zero, Nat.zero_add, Int.reduceEq, Int.reduceLT]
    refine hK _ _ _ (by simp only [go_sem, Nat.reduceEqDiff, Nat.reduceLT, Nat.reduceAdd, Nat.reduceMul, Nat.reduceSub, Nat.add_zero, Nat.zero_add, Int.reduceEq, Int.reduceLT]; rfl) ?_; clear hK
    refine AWP.block ?_ -- b0
    refine AWP.loopK [1, 5, 6, 7] (fun n e M2 => n ≤ 7 ∧ Grew M1 M2 ∧ Has M2 M4.next ⟨(repN r).map (Value.int .i64), 3, true⟩ ∧ ∃ bv, e = [(1, .pointer (some ⟨M.next, 0, none⟩)), (5, bv), (6, .slice (some ⟨M4.next, 0, none⟩) 7 7), (7, .int .i64 ((7 - n : Nat) : Int))] ∧ OwnB M1 M2 bv (numsF r (7 - n)) 5 ∧ Apart bv M4.next) 7 ?_ fun n e M2 hI => ?_ -- LOOP
    · simp only [go_sem, Nat.reduceEqDiff, Nat.reduceLT, Nat.reduceAdd, Nat.reduceMul, Nat.reduceSub, Nat.add_zero, Nat.zero_add, Int.reduceEq, Int.reduceLT, Nat.le_refl]
      exact ⟨hg4.trans hg7, hh7, b4, rfl, ho4.grew hg7, hap0⟩
    obtain ⟨hn', hgl, hhl, bv, rfl, hown, hap⟩ := hI
    refine AWP.seq ?_
    refine AWP.stepR [1, 5, 6, 7, 50] fun K hK => ?_ -- r8
    simp only [go_sem, Nat.reduceEqDiff, Nat.reduceLT, Nat.reduceAdd, Nat.reduceMul, Nat.reduceSub, Nat.add_zero, Nat.zero_add, Int.reduceEq, Int.reduceLT, ln_66]
    refine hK _ _ _ (by simp only [go_sem, Nat.reduceEqDiff, Nat.reduceLT, Nat.reduceAdd, Nat.reduceMul, Nat.reduceSub, Nat.add_zero, Nat.zero_add, Int.reduceEq, Int.reduceLT]; rfl) ?_; clear hK
    refine AWP.cond_split rfl (fun h50 => ?_) fun h50 => ?_
    · have hn1 : 0 < n := by simp at h50; omega
      have hlt : 7 - n < (repN r).length := by have h7 : (repN r).length = 7 := rfl; omega
      have hrow : Row_ M2 (.slice (some ⟨M4.next, 0, none⟩) 7 7) (repN r).length ((repN r).map (Value.int .i64)) := Row_.of hhl
      obtain ⟨b, q, ha, hd⟩ := hrow.at1 (by simp) es_66 hlt
      have hd := hd M2 (Grew.refl _)
      rw [show ((repN r).map (Value.int .i64))[7 - n]? = some (.int .i64 (repN r)[7 - n]) by simp [hlt]] at hd
      have hxr := numOk_spec (List.all_eq_true.1 hz1 _ (List.getElem_mem hlt))
      have hst := numsF_succ r hlt
      have hle := numsF_length r (7 - n) (by omega)
      generalize (repN r)[7 - n] = x at hd hxr hst
      refine AWP.skip ?_
      refine AWP.seq ?_
      refine AWP.block ?_ -- b1
      obtain ⟨r8, M8, hc8, hg8, ho8⟩ := put43_spec 6 x M2 ((hg1.trans hgl).ok hok) (by omega) (by omega)
      obtain ⟨v9, M9, happ, ho9, hg9, hnx, hfr⟩ := Own.app (hgl.trans hg8) (hown.grew hg8) ho8.row (by rw [putB_length]; omega)
      have hwx : IntKind.u64.wrap x = x := IntWalk.u64_in _ (by omega)
      refine AWP.lastR fun K hK => ?_ -- r10
      simp only [go_sem, Nat.reduceEqDiff, Nat.reduceLT, Nat.reduceAdd, Nat.reduceMul, Nat.reduceSub, Nat.add_zero, Nat.zero_add, Int.reduceEq, Int.reduceLT, ha, ld_3, hd, hwx]
      refine ⟨_, _, hc8, ?_⟩
      simp only [happ, go_sem, Nat.reduceEqDiff, Nat.reduceLT, Nat.reduceAdd, Nat.reduceMul, Nat.reduceSub, Nat.add_zero, Nat.zero_add, Int.reduceEq, Int.reduceLT] -- append
      refine hK _ _ ?_; clear hK
      refine AWP.lastR fun K hK => ?_ -- r9
      simp only [go_sem, Nat.reduceEqDiff, Nat.reduceLT, Nat.reduceAdd, Nat.reduceMul, Nat.reduceSub, Nat.add_zero, Nat.zero_add, Int.reduceEq, Int.reduceLT]
      refine hK _ _ ?_; clear hK
      have hh8 := hhl.grew hg8
      obtain ⟨hf1, hf2⟩ := hfr M4.next hh8.2 hap
      refine ⟨n - 1, by omega, by omega, hg9, ⟨hf1.trans hh8.1, Nat.lt_of_lt_of_le hh8.2 hnx⟩, v9, ?_, ?_, hf2⟩ -- ROUND
      · simp only [go_sem, Nat.reduceEqDiff, Nat.reduceLT, Nat.reduceAdd, Nat.reduceMul, Nat.reduceSub, Nat.add_zero, Nat.zero_add, Int.reduceEq, Int.reduceLT]
        rw [i64w (by omega) (by omega), show ((7 - n : Nat) : Int) + 1 = ((7 - (n - 1) : Nat) : Int) by omega]
      · rw [show 7 - (n - 1) = 7 - n + 1 by omega, hst]
        exact ho9
    · have hn0 : n = 0 := by simp at h50; omega
      subst hn0
      have hown : OwnB M1 M2 bv (numsF r 7) 5 := hown
      have hmid := midB_le hL
      have hme : midB r = numsF r 7 ++ longB r.meta_ ++ longB r.tags ++ textsF r.names r.names.length ++ textsF r.prefixes r.prefixes.length ++ longB (sB r.next) ++ putB r.shown.length 4 := by simp [midB]
      rw [hme] at hmid
      simp only [List.length_append] at hmid
      clear hhl hap
      refine AWP.exit (Then.exit (Then.exit (InBlock.same ?_))) -- x0
      obtain ⟨c1, P1, hc1, hgc1, hoc1⟩ := long44_spec vm r.meta_ M2 ((hg1.trans hgl).ok hok) (hr.meta_.grew hgl) (by have := hL.meta_; omega)
      obtain ⟨d1, Q1, hap1, hod1, hgd1, hnd1, hfd1⟩ := Own.app (hgl.trans hgc1) (hown.grew hgc1) hoc1.row (by (try simp only [List.length_append]); omega)
      refine AWP.stepR [1, 5] fun K hK => ?_
      simp only [go_sem, Nat.reduceEqDiff, Nat.reduceLT, Nat.reduceAdd, Nat.reduceMul, Nat.reduceSub, Nat.add_zero, Nat.zero_add, Int.reduceEq, Int.reduceLT, ld_23, (hh1.grew hgl).ld, repC]
      refine ⟨_, _, hc1, ?_⟩
      simp only [hap1, go_sem, Nat.reduceEqDiff, Nat.reduceLT, Nat.reduceAdd, Nat.reduceMul, Nat.reduceSub, Nat.add_zero, Nat.zero_add, Int.reduceEq, Int.reduceLT]
      refine hK _ _ _ (by simp only [go_sem, Nat.reduceEqDiff, Nat.reduceLT, Nat.reduceAdd, Nat.reduceMul, Nat.reduceSub, Nat.add_zero, Nat.zero_add, Int.reduceEq, Int.reduceLT]; rfl) ?_; clear hK
      obtain ⟨c2, P2, hc2, hgc2, hoc2⟩ := long44_spec vt r.tags Q1 ((hg1.trans hgd1).ok hok) (hr.tags.grew hgd1) (by have := hL.tags; omega)
      obtain ⟨d2, Q2, hap2, hod2, hgd2, hnd2, hfd2⟩ := Own.app (hgd1.trans hgc2) (hod1.grew hgc2) hoc2.row (by (try simp only [List.length_append]); omega)
      refine AWP.stepR [1, 5] fun K hK => ?_
      simp only [go_sem, Nat.reduceEqDiff, Nat.reduceLT, Nat.reduceAdd, Nat.reduceMul, Nat.reduceSub, Nat.add_zero, Nat.zero_add, Int.reduceEq, Int.reduceLT, ld_23, (hh1.grew hgd1).ld, repC]
      refine ⟨_, _, hc2, ?_⟩
      simp only [hap2, go_sem, Nat.reduceEqDiff, Nat.reduceLT, Nat.reduceAdd, Nat.reduceMul, Nat.reduceSub, Nat.add_zero, Nat.zero_add, Int.reduceEq, Int.reduceLT]
      refine hK _ _ _ (by simp only [go_sem, Nat.reduceEqDiff, Nat.reduceLT, Nat.reduceAdd, Nat.reduceMul, Nat.reduceSub, Nat.add_zero, Nat.zero_add, Int.reduceEq, Int.reduceLT]; rfl) ?_; clear hK
      obtain ⟨c3, P3, hc3, hgc3, hoc3⟩ := texts45_spec vn r.names Q2 ((hg1.trans hgd2).ok hok) (hr.names.grew hgd2) (by have := hL.names; omega) (fun s hs => Nat.le_trans (hL.nameS s hs) (by decide))
      obtain ⟨d3, Q3, hap3, hod3, hgd3, hnd3, hfd3⟩ := Own.app (hgd2.trans hgc3) (hod2.grew hgc3) hoc3.row (by (try simp only [List.length_append]); omega)
      refine AWP.stepR [1, 5] fun K hK => ?_
      simp only [go_sem, Nat.reduceEqDiff, Nat.reduceLT, Nat.reduceAdd, Nat.reduceMul, Nat.reduceSub, Nat.add_zero, Nat.zero_add, Int.reduceEq, Int.reduceLT, ld_24, (hh1.grew hgd2).ld, repC]
      refine ⟨_, _, hc3, ?_⟩
      simp only [hap3, go_sem, Nat.reduceEqDiff, Nat.reduceLT, Nat.reduceAdd, Nat.reduceMul, Nat.reduceSub, Nat.add_zero, Nat.zero_add, Int.reduceEq, Int.reduceLT]
      refine hK _ _ _ (by simp only [go_sem, Nat.reduceEqDiff, Nat.reduceLT, Nat.reduceAdd, Nat.reduceMul, Nat.reduceSub, Nat.add_zero, Nat.zero_add, Int.reduceEq, Int.reduceLT]; rfl) ?_; clear hK
      obtain ⟨c4, P4, hc4, hgc4, hoc4⟩ := texts45_spec vp r.prefixes Q3 ((hg1.trans hgd3).ok hok) (hr.prefixes.grew hgd3) (by have := hL.prefixes; omega) (fun s hs => Nat.le_trans (hL.prefixS s hs) (by decide))
      obtain ⟨d4, Q4, hap4, hod4, hgd4, hnd4, hfd4⟩ := Own.app (hgd3.trans hgc4) (hod3.grew hgc4) hoc4.row (by (try simp only [List.length_append]); omega)
      refine AWP.stepR [1, 5] fun K hK => ?_
      simp only [go_sem, Nat.reduceEqDiff, Nat.reduceLT, Nat.reduceAdd, Nat.reduceMul, Nat.reduceSub, Nat.add_zero, Nat.zero_add, Int.reduceEq, Int.reduceLT, ld_24, (hh1.grew hgd3).ld, repC]
      refine ⟨_, _, hc4, ?_⟩
      simp only [hap4, go_sem, Nat.reduceEqDiff, Nat.reduceLT, Nat.reduceAdd, Nat.reduceMul, Nat.reduceSub, Nat.add_zero, Nat.zero_add, Int.reduceEq, Int.reduceLT]
      refine hK _ _ _ (by simp only [go_sem, Nat.reduceEqDiff, Nat.reduceLT, Nat.reduceAdd, Nat.reduceMul, Nat.reduceSub, Nat.add_zero, Nat.zero_add, Int.reduceEq, Int.reduceLT]; rfl) ?_; clear hK
      obtain ⟨hge, hhe⟩ := mk_put ((Grew.refl Q4).bump 1) (Nat.le_refl _) (Nat.lt_succ_self _) ⟨cB (sB r.next), 5, true⟩
      generalize hMe : (Q4.bump 1).put Q4.next ⟨cB (sB r.next), 5, true⟩ = Me at hge hhe
      have hrow : RowB Me (.slice (some ⟨Q4.next, 0, none⟩) r.next.size unk) (sB r.next) := by rw [RowB, sB_length]; exact Row_.of hhe
      obtain ⟨c5, P5, hc5, hgc5, hoc5⟩ := long44_spec _ _ Me ((hg1.trans (hgd4.trans hge)).ok hok) hrow (by rw [sB_length]; have := hL.next; omega)
      obtain ⟨d5, Q5, hap5, hod5, hgd5, hnd5, hfd5⟩ := Own.app (hgd4.trans (hge.trans hgc5)) (hod4.grew (hge.trans hgc5)) hoc5.row (by (try simp only [List.length_append]); omega)
      refine AWP.stepR [1, 5] fun K hK => ?_ -- r15
      simp only [go_sem, Nat.reduceEqDiff, Nat.reduceLT, Nat.reduceAdd, Nat.reduceMul, Nat.reduceSub, Nat.add_zero, Nat.zero_add, Int.reduceEq, Int.reduceLT, ld_9, (hh1.grew hgd4).ld, repC, sB_cells, hMe]
      refine ⟨_, _, hc5, ?_⟩
      simp only [hap5, go_sem, Nat.reduceEqDiff, Nat.reduceLT, Nat.reduceAdd, Nat.reduceMul, Nat.reduceSub, Nat.add_zero, Nat.zero_add, Int.reduceEq, Int.reduceLT]
      refine hK _ _ _ (by simp only [go_sem, Nat.reduceEqDiff, Nat.reduceLT, Nat.reduceAdd, Nat.reduceMul, Nat.reduceSub, Nat.add_zero, Nat.zero_add, Int.reduceEq, Int.reduceLT]; rfl) ?_; clear hK
      obtain ⟨c6, P6, hc6, hgc6, hoc6⟩ := put43_spec 4 r.shown.length Q5 ((hg1.trans hgd5).ok hok) (by have := hL.shown; omega) (by omega)
      obtain ⟨d6, Q6, hap6, hod6, hgd6, hnd6, hfd6⟩ := Own.app (hgd5.trans hgc6) (hod5.grew hgc6) hoc6.row (by (try simp only [List.length_append]); omega)
      have hlu : IntKind.u64.wrap (r.shown.length : Int) = (r.shown.length : Int) := IntWalk.u64_in _ (by have := hL.shown; omega)
      refine AWP.stepR [1, 5] fun K hK => ?_ -- r16
      simp only [go_sem, Nat.reduceEqDiff, Nat.reduceLT, Nat.reduceAdd, Nat.reduceMul, Nat.reduceSub, Nat.add_zero, Nat.zero_add, Int.reduceEq, Int.reduceLT, ld_27, (hh1.grew hgd5).ld, repC, (hr.grew hgd5).shown.len es_27, hlu]
      refine ⟨_, _, hc6, ?_⟩
      simp only [hap6, go_sem, Nat.reduceEqDiff, Nat.reduceLT, Nat.reduceAdd, Nat.reduceMul, Nat.reduceSub, Nat.add_zero, Nat.zero_add, Int.reduceEq, Int.reduceLT]
      refine hK _ _ _ (by simp only [go_sem, Nat.reduceEqDiff, Nat.reduceLT, Nat.reduceAdd, Nat.reduceMul, Nat.reduceSub, Nat.add_zero, Nat.zero_add, Int.reduceEq, Int.reduceLT]; rfl) ?_; clear hK
      rw [← hme] at hod6
      refine AWP.seq ?_
      refine AWP.stepR [1, 5, 8] fun K hK => ?_ -- r17
      simp only [go_sem, Nat.reduceEqDiff, Nat.reduceLT, Nat.reduceAdd, Nat.reduceMul, Nat.reduceSub, Nat.add_zero, Nat.zero_add, Int.reduceEq, Int.reduceLT]
      refine hK _ _ _ (by simp only [go_sem, Nat.reduceEqDiff, Nat.reduceLT, Nat.reduceAdd, Nat.reduceMul, Nat.reduceSub, Nat.add_zero, Nat.zero_add, Int.reduceEq, Int.reduceLT]; rfl) ?_; clear hK
      refine AWP.block ?_ -- b2
      refine AWP.loopK [1, 5, 8] (fun n e M2 => n ≤ r.shown.length ∧ Grew M1 M2 ∧ ∃ bv, e = [(1, .pointer (some ⟨M.next, 0, none⟩)), (5, bv), (8, .int .i64 ((r.shown.length - n : Nat) : Int))] ∧ OwnB M1 M2 bv (shownF r (r.shown.length - n)) 5) r.shown.length ?_ fun n e M2 hI => ?_ -- LOOP
      · simp only [go_sem, Nat.reduceEqDiff, Nat.reduceLT, Nat.reduceAdd, Nat.reduceMul, Nat.reduceSub, Nat.add_zero, Nat.zero_add, Int.reduceEq, Int.reduceLT, Nat.le_refl]
        exact ⟨hgd6, d6, by simp, by rw [Nat.sub_self]; simpa [shownF] using hod6⟩
      obtain ⟨hn', hgl2, bv2, rfl, hown2⟩ := hI
      have hhN := hh1.grew hgl2
      have hrN := hr.grew hgl2
      refine AWP.seq ?_
      refine AWP.stepR [1, 5, 8, 101] fun K hK => ?_ -- r18
      simp only [go_sem, Nat.reduceEqDiff, Nat.reduceLT, Nat.reduceAdd, Nat.reduceMul, Nat.reduceSub, Nat.add_zero, Nat.zero_add, Int.reduceEq, Int.reduceLT, ld_27, hhN.ld, repC, hrN.shown.len es_27]
      refine hK _ _ _ (by simp only [go_sem, Nat.reduceEqDiff, Nat.reduceLT, Nat.reduceAdd, Nat.reduceMul, Nat.reduceSub, Nat.add_zero, Nat.zero_add, Int.reduceEq, Int.reduceLT]; rfl) ?_; clear hK
      refine AWP.cond_split rfl (fun h101 => ?_) fun h101 => ?_
      · have hlt : r.shown.length - n < r.shown.length := by simpa using h101
        obtain ⟨b, q, ha, hd⟩ := hrN.shown.at (flatMap_len shwC_len _) es_27 hlt
        have hd := (hd M2 (Grew.refl _)).2
        rw [flatMap_at shwC_len _ _ hlt] at hd
        have hst := shownF_succ r hlt
        have hle := shownF_le hL (r.shown.length - n + 1) (by omega)
        have hxs := hL.shownS _ (List.getElem_mem hlt)
        have hxo := List.all_eq_true.1 hz2 _ (List.getElem_mem hlt)
        generalize hx : r.shown[r.shown.length - n] = x at hd hst hxs hxo
        simp only [shwOk, Bool.and_eq_true] at hxo
        have hxi := numOk_spec hxo.1
        have hxz := numOk_spec hxo.2
        have h40 := hL.shown
        have hshw : shownF r (r.shown.length - n + 1) = shownF r (r.shown.length - n) ++ longB (sB x.name) ++ putB x.id 6 ++ putB x.size 6 ++ [flagF [x.marker, x.latest] 2] := by rw [hst]; simp [shwB]
        rw [hshw] at hle
        simp only [List.length_append] at hle
        refine AWP.skip ?_
        refine AWP.seq ?_
        refine AWP.block ?_ -- b3
        refine AWP.stepR [1, 5, 8, 9] fun K hK => ?_ -- r20
        have hlt2 : M2.next < (M2.bump 1).next := Nat.lt_succ_self _
        simp only [go_sem, Nat.reduceEqDiff, Nat.reduceLT, Nat.reduceAdd, Nat.reduceMul, Nat.reduceSub, Nat.add_zero, Nat.zero_add, Int.reduceEq, Int.reduceLT, ld_27, hhN.ld, repC, ha, ld_63, hd, st_fresh (M := M2.bump 1) (i := M2.next) (n := 5) (old := [.string ⟨#[]⟩, .int .i64 0, .int .i64 0, .bool false, .bool false]) (vs := shwC x) (e := 63) rfl rfl rfl]
        refine hK _ _ _ (by simp only [go_sem, Nat.reduceEqDiff, Nat.reduceLT, Nat.reduceAdd, Nat.reduceMul, Nat.reduceSub, Nat.add_zero, Nat.zero_add, Int.reduceEq, Int.reduceLT]; rfl) ?_; clear hK
        have hg4 := (((Grew.refl M2).bump 1).put (Nat.le_refl _) hlt2 ⟨[.string ⟨#[]⟩, .int .i64 0, .int .i64 0, .bool false, .bool false], 63, true⟩).put (Nat.le_refl _) hlt2 ⟨shwC x, 63, true⟩
        have hh4 : Has (((M2.bump 1).put M2.next ⟨[.string ⟨#[]⟩, .int .i64 0, .int .i64 0, .bool false, .bool false], 63, true⟩).put M2.next ⟨shwC x, 63, true⟩) M2.next ⟨shwC x, 63, true⟩ := Has.put (M := (M2.bump 1).put M2.next ⟨[.string ⟨#[]⟩, .int .i64 0, .int .i64 0, .bool false, .bool false], 63, true⟩) hlt2 _
        generalize ((M2.bump 1).put M2.next ⟨[.string ⟨#[]⟩, .int .i64 0, .int .i64 0, .bool false, .bool false], 63, true⟩).put M2.next ⟨shwC x, 63, true⟩ = M4 at hg4 hh4
        have hap2 : Apart bv2 M2.next := hown2.apart (.inr (Nat.le_refl _))
        have hgA := hgl2.trans hg4
        have hoA := hown2.grew hg4
        have hwi : IntKind.u64.wrap x.id = x.id := IntWalk.u64_in _ (by omega)
        have hwz : IntKind.u64.wrap x.size = x.size := IntWalk.u64_in _ (by omega)
        obtain ⟨hgx, hhx⟩ := mk_put ((Grew.refl M4).bump 1) (Nat.le_refl _) (Nat.lt_succ_self _) ⟨cB (sB x.name), 5, true⟩
        generalize hX : (M4.bump 1).put M4.next ⟨cB (sB x.name), 5, true⟩ = X1 at hgx hhx
        have hrow : RowB X1 (.slice (some ⟨M4.next, 0, none⟩) x.name.size unk) (sB x.name) := by rw [RowB, sB_length]; exact Row_.of hhx
        obtain ⟨ca, Pa, hca, hgca, hoca⟩ := long44_spec _ _ X1 ((hg1.trans (hgA.trans hgx)).ok hok) hrow (by rw [sB_length]; omega)
        obtain ⟨da, Qa, hapa, hoda, hgda, hnda, hfda⟩ := Own.app (hgA.trans (hgx.trans hgca)) (hoA.grew (hgx.trans hgca)) hoca.row (by omega)
        have hh5 := hh4.grew (hgx.trans hgca)
        obtain ⟨hs1, hs2⟩ := hfda M2.next hh5.2 hap2
        have hhQa : Has Qa M2.next ⟨shwC x, 63, true⟩ := ⟨hs1.trans hh5.1, Nat.lt_of_lt_of_le hh5.2 hnda⟩
        refine AWP.stepR [1, 5, 8, 9] fun K hK => ?_ -- r21
        simp only [go_sem, Nat.reduceEqDiff, Nat.reduceLT, Nat.reduceAdd, Nat.reduceMul, Nat.reduceSub, Nat.add_zero, Nat.zero_add, Int.reduceEq, Int.reduceLT, ld_9, hh4.ld, shwC, sB_cells, hX]
        refine ⟨_, _, hca, ?_⟩
        simp only [hapa, go_sem, Nat.reduceEqDiff, Nat.reduceLT, Nat.reduceAdd, Nat.reduceMul, Nat.reduceSub, Nat.add_zero, Nat.zero_add, Int.reduceEq, Int.reduceLT]
        refine hK _ _ _ (by simp only [go_sem, Nat.reduceEqDiff, Nat.reduceLT, Nat.reduceAdd, Nat.reduceMul, Nat.reduceSub, Nat.add_zero, Nat.zero_add, Int.reduceEq, Int.reduceLT]; rfl) ?_; clear hK
        obtain ⟨cb, Pb, hcb, hgcb, hocb⟩ := put43_spec 6 x.id Qa ((hg1.trans hgda).ok hok) (by omega) (by omega)
        obtain ⟨db, Qb, hapb, hodb, hgdb, hndb, hfdb⟩ := Own.app (hgda.trans hgcb) (hoda.grew hgcb) hocb.row (by simp only [List.length_append]; omega)
        have hh6 := hhQa.grew hgcb
        obtain ⟨hs3, hs4⟩ := hfdb M2.next hh6.2 hs2
        have hhQb : Has Qb M2.next ⟨shwC x, 63, true⟩ := ⟨hs3.trans hh6.1, Nat.lt_of_lt_of_le hh6.2 hndb⟩
        refine AWP.stepR [1, 5, 8, 9] fun K hK => ?_ -- r22
        simp only [go_sem, Nat.reduceEqDiff, Nat.reduceLT, Nat.reduceAdd, Nat.reduceMul, Nat.reduceSub, Nat.add_zero, Nat.zero_add, Int.reduceEq, Int.reduceLT, ld_3, hhQa.ld, shwC, hwi]
        refine ⟨_, _, hcb, ?_⟩
        simp only [hapb, go_sem, Nat.reduceEqDiff, Nat.reduceLT, Nat.reduceAdd, Nat.reduceMul, Nat.reduceSub, Nat.add_zero, Nat.zero_add, Int.reduceEq, Int.reduceLT]
        refine hK _ _ _ (by simp only [go_sem, Nat.reduceEqDiff, Nat.reduceLT, Nat.reduceAdd, Nat.reduceMul, Nat.reduceSub, Nat.add_zero, Nat.zero_add, Int.reduceEq, Int.reduceLT]; rfl) ?_; clear hK
        obtain ⟨cc, Pc, hcc, hgcc, hocc⟩ := put43_spec 6 x.size Qb ((hg1.trans hgdb).ok hok) (by omega) (by omega)
        obtain ⟨dc, Qc, hapc, hodc, hgdc, hndc, hfdc⟩ := Own.app (hgdb.trans hgcc) (hodb.grew hgcc) hocc.row (by simp only [List.length_append]; omega)
        have hh7 := hhQb.grew hgcc
        obtain ⟨hs5, hs6⟩ := hfdc M2.next hh7.2 hs4
        have hhQc : Has Qc M2.next ⟨shwC x, 63, true⟩ := ⟨hs5.trans hh7.1, Nat.lt_of_lt_of_le hh7.2 hndc⟩
        refine AWP.stepR [1, 5, 8, 9] fun K hK => ?_ -- r23
        simp only [go_sem, Nat.reduceEqDiff, Nat.reduceLT, Nat.reduceAdd, Nat.reduceMul, Nat.reduceSub, Nat.add_zero, Nat.zero_add, Int.reduceEq, Int.reduceLT, ld_3, hhQb.ld, shwC, hwz]
        refine ⟨_, _, hcc, ?_⟩
        simp only [hapc, go_sem, Nat.reduceEqDiff, Nat.reduceLT, Nat.reduceAdd, Nat.reduceMul, Nat.reduceSub, Nat.add_zero, Nat.zero_add, Int.reduceEq, Int.reduceLT]
        refine hK _ _ _ (by simp only [go_sem, Nat.reduceEqDiff, Nat.reduceLT, Nat.reduceAdd, Nat.reduceMul, Nat.reduceSub, Nat.add_zero, Nat.zero_add, Int.reduceEq, Int.reduceLT]; rfl) ?_; clear hK
        have hokc := (hg1.trans hgdc).ok hok
        obtain ⟨e1, N1, he1, hq1, hq1'⟩ := bit_spec x.marker 1 (Qc.bump 1) (((Grew.refl Qc).bump 1).ok hokc)
        obtain ⟨e2, N2, he2, hq2, hq2'⟩ := bit_spec x.latest 2 (Qc.bump 1) (((Grew.refl Qc).bump 1).ok hokc)
        rw [hq1, hq1'] at he1
        rw [hq2, hq2'] at he2
        obtain ⟨hgf, hhf⟩ := mk_put ((Grew.refl Qc).bump 1) (Nat.le_refl _) (Nat.lt_succ_self _) ⟨cB [flagF [x.marker, x.latest] 2], 5, true⟩
        have hxf : ((Qc.bump 1).put Qc.next ⟨[.int .u8 (flagF [x.marker, x.latest] 2)], 5, true⟩) = ((Qc.bump 1).put Qc.next ⟨cB [flagF [x.marker, x.latest] 2], 5, true⟩) := rfl
        generalize (Qc.bump 1).put Qc.next ⟨cB [flagF [x.marker, x.latest] 2], 5, true⟩ = F1 at hgf hhf hxf
        obtain ⟨dd, Qd, hapd, hodd, hgdd, hndd, hfdd⟩ := Own.app (hgdc.trans hgf) (hodc.grew hgf) (rv := .slice (some ⟨Qc.next, 0, none⟩) 1 1) (Row_.of hhf) (by simp only [List.length_append, List.length_cons, List.length_nil] at hle ⊢; omega)
        refine AWP.oneD' hmo [0, 1, 2, 3, 4, 5, 6, 7, 8, 9, 10] [0, 0, 2, 6, 0, 16, 62, 126, 254, 511, 1023] [] [(5, 3)] (by kernel_rfl) fun K hK => ?_ -- r24
        simp -implicitDefEqProofs only [go_sem, Nat.reduceEqDiff, Nat.reduceLT, Nat.reduceAdd, Nat.reduceMul, Nat.reduceSub, Nat.add_zero, Nat.zero_add, Int.reduceEq, Int.reduceLT, ld_4, hhQc.ld, shwC]
        refine ⟨_, _, he1, ?_⟩
        simp -implicitDefEqProofs only [go_sem, Nat.reduceEqDiff, Nat.reduceLT, Nat.reduceAdd, Nat.reduceMul, Nat.reduceSub, Nat.add_zero, Nat.zero_add, Int.reduceEq, Int.reduceLT, ld_4, hhQc.ld, shwC]
        refine ⟨_, _, he2, ?_⟩
        simp -implicitDefEqProofs only [go_sem, Nat.reduceEqDiff, Nat.reduceLT, Nat.reduceAdd, Nat.reduceMul, Nat.reduceSub, Nat.add_zero, Nat.zero_add, Int.reduceEq, Int.reduceLT, flag2, hxf, hapd]
        refine hK _ _ ?_; clear hK
        refine AWP.lastR fun K hK => ?_ -- r19
        simp only [go_sem, Nat.reduceEqDiff, Nat.reduceLT, Nat.reduceAdd, Nat.reduceMul, Nat.reduceSub, Nat.add_zero, Nat.zero_add, Int.reduceEq, Int.reduceLT]
        refine hK _ _ ?_; clear hK
        refine ⟨n - 1, by omega, by omega, hgdd, dd, ?_, ?_⟩ -- ROUND
        · simp only [go_sem, Nat.reduceEqDiff, Nat.reduceLT, Nat.reduceAdd, Nat.reduceMul, Nat.reduceSub, Nat.add_zero, Nat.zero_add, Int.reduceEq, Int.reduceLT]
          rw [i64w (by omega) (by omega), show ((r.shown.length - n : Nat) : Int) + 1 = ((r.shown.length - (n - 1) : Nat) : Int) by omega]
        · rw [show r.shown.length - (n - 1) = r.shown.length - n + 1 by omega, hshw]
          exact hodd
      · refine AWP.exit (Then.exit (Then.exit (InBlock.same ?_))) -- x2
        have hn0 : n = 0 := by simp at h101; omega
        subst hn0
        have hown2 : OwnB M1 M2 bv2 (shownF r r.shown.length) 5 := hown2
        have hle := shownF_le hL r.shown.length (Nat.le_refl _)
        have h40 := hL.shown
        obtain ⟨ca, Pa, hca, hgca, hoca⟩ := long44_spec vb r.body M2 ((hg1.trans hgl2).ok hok) hrN.body (by have := hL.body; omega)
        obtain ⟨da, Qa, hapa, hoda, hgda, hnda, hfda⟩ := Own.app (hgl2.trans hgca) (hown2.grew hgca) hoca.row (by rw [longB_length]; have := hL.body; omega)
        refine AWP.stepR [2, 3] fun K hK => ?_ -- r25
        simp only [go_sem, Nat.reduceEqDiff, Nat.reduceLT, Nat.reduceAdd, Nat.reduceMul, Nat.reduceSub, Nat.add_zero, Nat.zero_add, Int.reduceEq, Int.reduceLT, ld_23, hhN.ld, repC]
        refine ⟨_, _, hca, ?_⟩
        simp only [hapa, go_sem, Nat.reduceEqDiff, Nat.reduceLT, Nat.reduceAdd, Nat.reduceMul, Nat.reduceSub, Nat.add_zero, Nat.zero_add, Int.reduceEq, Int.reduceLT]
        refine hK _ _ _ (by simp only [go_sem, Nat.reduceEqDiff, Nat.reduceLT, Nat.reduceAdd, Nat.reduceMul, Nat.reduceSub, Nat.add_zero, Nat.zero_add, Int.reduceEq, Int.reduceLT]; rfl) ?_; clear hK
        refine AWP.ret (?_)
        refine Fin.own (fun v => .tuple #[v, .int .i64 0]) (.inr rfl) rfl hok (hg1.trans hgda) (hoda.base hg1.next) (cB_plain _) (fun g hi v v' h => .tuple rfl fun i a b ha hb => ?_) fun v M' hg' hr' _ => ⟨hg', v, by rw [hz], by rw [if_pos hz]; exact hr'⟩
        rcases i with _ | _ | i
        · simp at ha hb; subst ha hb; exact h
        · simp at ha hb; subst ha hb; exact .int _ _
        · simp at ha
end Go.Proofs.Ythheaehpnleiaaa.AX
