/- The other Get of answers: the walk. -/
import Derived.Test.YthheaehpnleiaaaReplyReads13
import Derived.Test.YthheaehpnleiaaaReplyReads11
import Derived.Test.YthheaehpnleiaaaReplyReads10
import Derived.Test.YthheaehpnleiaaaReplyReads6
namespace Go.Proofs.Ythheaehpnleiaaa.AX
open Go Go.Proofs
set_option maxRecDepth 100000
set_option linter.unusedVariables false
set_option linter.unusedSimpArgs false

theorem get18_spec (v : Value) (b : List Int) (M : Mem) (hok : Ok M) (hv : RowB M v b) (hE : b = [] ∨ RowE M v b.length (cB b) 5) (hb : BytB b) (hlb : b.length ≤ 4000) :
    ∃ r M', ACall Try.prog 18 #[v] M r M' ∧ Grew M M' ∧ ∃ q vb vm vt vn vp vs, r = .tuple #[.agg (repC q vb vm vt vn vp vs).toArray, .int .i64 (getR b).2] ∧ RepR M' q vb vm vt vn vp vs ∧ q = (getR b).1 := by
  refine ACall.fin (args := [v]) (k := 131) (rs := [.cell 2 29, .tmp 3]) Try.func18 rfl rfl rfl (Nat.le_of_ble_eq_true rfl) ?_
  refine AWP.stepR [0, 2] fun K hK => ?_
  simp only [go_sem, Nat.reduceEqDiff, Nat.reduceLT, Nat.reduceAdd, Nat.reduceMul, Nat.reduceSub, Nat.add_zero, Nat.zero_add, Int.reduceEq, Int.reduceLT]
  refine hK _ _ _ (by simp only [go_sem, Nat.reduceEqDiff, Nat.reduceLT, Nat.reduceAdd, Nat.reduceMul, Nat.reduceSub, Nat.add_zero, Nat.zero_add, Int.reduceEq, Int.reduceLT]; rfl) ?_; clear hK
  have hlt1 : M.next < (M.bump 1).next := Nat.lt_succ_self _
  obtain ⟨hg1, hh1⟩ := mk_put ((Grew.refl M).bump 1) (Nat.le_refl _) hlt1 ⟨zRC, 29, true⟩
  change AWP _ _ _ ⟨_, (M.bump 1).put M.next ⟨zRC, 29, true⟩⟩ _
  generalize hM1 : (M.bump 1).put M.next ⟨zRC, 29, true⟩ = M1 at hg1 hh1
  -- the word ahead
  obtain ⟨r2, X2, hc2, hx2, w2, u2, rfl, h1, hu2, hE2⟩ : ∃ r2 X2, ACall Try.prog 57 #[.agg (rdC v 0).toArray, .int .i64 3] (M1.bump 1) r2 X2 ∧ Grew (M1.bump 1) X2 ∧ ∃ w u, r2 = .tuple #[.agg (rdC w (takeS ⟨b, 0⟩ 3).1.code).toArray, u] ∧ w.oneCell' = true ∧ RowN M u (takeS ⟨b, 0⟩ 3).2 ∧ (b ≠ [] → RowE M w (takeS ⟨b, 0⟩ 3).1.b.length (cB (takeS ⟨b, 0⟩ 3).1.b) 5) := by
    rcases hE with rfl | hE
    · obtain ⟨r, X, hc, hx, rfl⟩ := bytes57e_spec v (M1.bump 1) ((hg1.bump 1).ok hok) (hv.grew (hg1.bump 1))
      exact ⟨_, _, hc, hx, v, .slice none 0 0, rfl, hv.one, .inl ⟨rfl, rfl⟩, fun h => absurd rfl h⟩
    · obtain ⟨r, X, hc, hx, v', w, rfl, ⟨vb, rfl, hE1⟩, hw⟩ := bytes57_spec (.agg (rdC v 0).toArray) ⟨b, 0⟩ 3 M (M1.bump 1) ((hg1.bump 1).ok hok) (hg1.bump 1) ⟨v, rfl, hE⟩ (by simp only; omega)
      exact ⟨_, _, hc, hx, vb, w, rfl, hE1.row.one, hw, fun _ => hE1⟩
  refine AWP.stepR [2, 4, 5] fun K hK => ?_
  simp only [go_sem, Nat.reduceEqDiff, Nat.reduceLT, Nat.reduceAdd, Nat.reduceMul, Nat.reduceSub, Nat.add_zero, Nat.zero_add, Int.reduceEq, Int.reduceLT, bd_86 hv.one]
  refine ⟨_, _, hc2, ?_⟩
  try simp only [go_sem, Nat.reduceEqDiff, Nat.reduceLT, Nat.reduceAdd, Nat.reduceMul, Nat.reduceSub, Nat.add_zero, Nat.zero_add, Int.reduceEq, Int.reduceLT, extractV, st_fresh (M := X2) (i := M1.next) (n := 2) (old := [.slice none 0 0, .int .i64 0]) (vs := rdC w2 (takeS ⟨b, 0⟩ 3).1.code) (e := 86) rfl rfl (rdC_one h1)]
  refine hK _ _ _ (by simp only [go_sem, Nat.reduceEqDiff, Nat.reduceLT, Nat.reduceAdd, Nat.reduceMul, Nat.reduceSub, Nat.add_zero, Nat.zero_add, Int.reduceEq, Int.reduceLT]; rfl) ?_; clear hK
  obtain ⟨M2, hM2, hg2, hk0⟩ := kept M1 X2 hx2 [.slice none 0 0, .int .i64 0] (rdC w2 (takeS ⟨b, 0⟩ 3).1.code) 86
  rw [hM2]
  have g0 := hg1.trans hg2
  have hz0 := hh1.grew hg2
  have h2c := hh1.2
  have hlt := hk0.2
  have hb5 := takeS_bytes (s := ⟨b, 0⟩) hb 3
  have hl5 := takeS_len ⟨b, 0⟩ 3
  refine AWP.seq ?_
  refine AWP.stepR [2, 4, 26] fun K hK => ?_
  simp only [go_sem, Nat.reduceEqDiff, Nat.reduceLT, Nat.reduceAdd, Nat.reduceMul, Nat.reduceSub, Nat.add_zero, Nat.zero_add, Int.reduceEq, Int.reduceLT, str_N hu2 g0, re1_neq hb5.2]
  refine hK _ _ _ (by simp only [go_sem, Nat.reduceEqDiff, Nat.reduceLT, Nat.reduceAdd, Nat.reduceMul, Nat.reduceSub, Nat.add_zero, Nat.zero_add, Int.reduceEq, Int.reduceLT]; rfl) ?_; clear hK
  refine AWP.cond_split rfl (fun h26 => ?_) fun h26 => ?_
  · have hne : (takeS ⟨b, 0⟩ 3).2 ≠ [114, 101, 49] := of_decide_eq_true h26
    have hF : getR b = (zR, 4) := by rw [getR, if_neg hne]
    have fs : stV M2 M.next 0 17 (.agg zRC.toArray) = some (M2.put M.next ⟨zRC, 29, true⟩) := st_all (n := 17) hz0 rfl rfl rfl rfl
    refine AWP.stepR [2, 3] fun K hK => ?_
    simp only [go_sem, Nat.reduceEqDiff, Nat.reduceLT, Nat.reduceAdd, Nat.reduceMul, Nat.reduceSub, Nat.add_zero, Nat.zero_add, Int.reduceEq, Int.reduceLT, bd_29z, st_29, fs]
    refine hK _ _ _ (by simp only [go_sem, Nat.reduceEqDiff, Nat.reduceLT, Nat.reduceAdd, Nat.reduceMul, Nat.reduceSub, Nat.add_zero, Nat.zero_add, Int.reduceEq, Int.reduceLT]; rfl) ?_; clear hK
    obtain ⟨hgz, hhz⟩ := mk_put g0 (Nat.le_refl _) hz0.2 ⟨zRC, 29, true⟩
    refine AWP.ret (Then.ret (?_))
    refine Fin.keep (v := .tuple #[.agg zRC.toArray, .int .i64 4]) (.inr rfl) (by simp only [go_sem, Nat.reduceEqDiff, Nat.reduceLT, Nat.reduceAdd, Nat.reduceMul, Nat.reduceSub, Nat.add_zero, Nat.zero_add, Int.reduceEq, Int.reduceLT, retV, resV, ld_29, hhz.lda (show zRC.length = 17 from rfl)] <;> rfl) ⟨hgz, zR, .slice none 0 0, .slice none 0 0, .slice none 0 0, .slice none 0 0, .slice none 0 0, .slice none 0 0, by rw [hF]; rfl, ⟨Row_.nil _, Row_.nil _, Row_.nil _, Row_.nil _, Row_.nil _, Row_.nil _⟩, by rw [hF]⟩
  · have heq : (takeS ⟨b, 0⟩ 3).2 = [114, 101, 49] := by have := of_decide_eq_false h26; exact Classical.not_not.1 this
    have hgetR : getR b = if (endS (replyS (takeS ⟨b, 0⟩ 3).1).1).code ≠ 0 then (zR, (endS (replyS (takeS ⟨b, 0⟩ 3).1).1).code) else if checkF (replyS (takeS ⟨b, 0⟩ 3).1).2 = 0 then ((replyS (takeS ⟨b, 0⟩ 3).1).2, 0) else (zR, checkF (replyS (takeS ⟨b, 0⟩ 3).1).2) := by rw [getR, if_pos heq]
    have hbn : b ≠ [] := fun h => by subst h; cases heq
    have hE0 := hE2 hbn
    have hb0 := hb5.1
    have hl0 : (takeS ⟨b, 0⟩ 3).1.b.length ≤ 4000 := by have := hl5.1; simp only at this; omega
    clear hE2 hb5 hl5 heq hu2 hc2 hx2 hM2
    generalize (takeS ⟨b, 0⟩ 3).1 = s0 at hk0 hE0 hgetR hb0 hl0
    refine AWP.skip ?_
    have hn0 : M2.next ≤ M2.next := Nat.le_refl _
    have few := fun h => replyS_few (s := s0) hl0 h
    -- flags
    obtain ⟨r_1, X1, hc1, hx1, w_1, rfl, ⟨vb1, rfl, hE1⟩⟩ := flags58_spec (.agg (rdC w2 s0.code).toArray) s0 8 M M2 (g0.ok hok) g0 ⟨w2, rfl, hE0⟩ hb0 (by omega)
    have hb1 : BytB (flagsS s0 8).1.b := flagsS_bytes hb0 8
    have hl1 : (flagsS s0 8).1.b.length ≤ 4000 := Nat.le_trans (flagsS_len s0 8) hl0
    have hkx := hk0.grew hx1
    refine AWP.stepR [2, 4, 6] fun K hK => ?_
    simp only [go_sem, Nat.reduceEqDiff, Nat.reduceLT, Nat.reduceAdd, Nat.reduceMul, Nat.reduceSub, Nat.add_zero, Nat.zero_add, Int.reduceEq, Int.reduceLT, ld_86, hk0.lda (rdC_len ..)]
    refine ⟨_, _, hc1, ?_⟩
    try simp only [go_sem, Nat.reduceEqDiff, Nat.reduceLT, Nat.reduceAdd, Nat.reduceMul, Nat.reduceSub, Nat.add_zero, Nat.zero_add, Int.reduceEq, Int.reduceLT, extractV, st_86, st_all (n := 2) (vs := rdC vb1 (flagsS s0 8).1.code) hkx rfl rfl rfl (rdC_one hE1.row.one)]
    refine hK _ _ _ (by simp only [go_sem, Nat.reduceEqDiff, Nat.reduceLT, Nat.reduceAdd, Nat.reduceMul, Nat.reduceSub, Nat.add_zero, Nat.zero_add, Int.reduceEq, Int.reduceLT]; rfl) ?_; clear hK
    have hzx := (hz0.grew hx1).put' (show M.next ≠ M1.next by omega) ⟨rdC vb1 (flagsS s0 8).1.code, 86, true⟩
    obtain ⟨gx, hkx⟩ := mk_put (g0.trans hx1) (show M.next ≤ M1.next by omega) hkx.2 ⟨rdC vb1 (flagsS s0 8).1.code, 86, true⟩
    have hnx : M2.next ≤ (X1.put M1.next ⟨rdC vb1 (flagsS s0 8).1.code, 86, true⟩).next := Nat.le_trans hn0 hx1.next
    generalize hP1 : X1.put M1.next ⟨rdC vb1 (flagsS s0 8).1.code, 86, true⟩ = P1 at hzx gx hkx hnx 
    have hz1 := hzx; have g1 := gx; have hk1 := hkx; have hn1 := hnx
    clear hzx gx hkx hnx hP1 hc1 
    have hr8 := flagsS_b hb0 8
    generalize hf1 : (flagsS s0 8).1 = f1 at hk1 hE1 hb1 hl1
    generalize hfn : (flagsS s0 8).2 = fn at hr8 ⊢
    -- numbers
    obtain ⟨r_2, X2, hc2, hx2, w_2, u2, rfl, ⟨vb2, rfl, hE2⟩, hu2⟩ := numbers59_spec (.agg (rdC vb1 f1.code).toArray) f1 7 M P1 (g1.ok hok) g1 ⟨vb1, rfl, hE1⟩ hb1 (by omega) (by omega)
    have hc2 : ACall Try.prog 59 #[.agg (rdC vb1 f1.code).toArray, .int .i64 7] P1 _ X2 := hc2
    have hb2 : BytB (sevS f1 7).b := (sev_keep (L := 4000) ⟨hb1, hl1⟩ 7).1
    have hl2 : (sevS f1 7).b.length ≤ 4000 := (sev_keep (L := 4000) ⟨hb1, hl1⟩ 7).2
    have hkx := hk1.grew hx2
    refine AWP.stepR [2, 4, 6, 7] fun K hK => ?_
    simp only [go_sem, Nat.reduceEqDiff, Nat.reduceLT, Nat.reduceAdd, Nat.reduceMul, Nat.reduceSub, Nat.add_zero, Nat.zero_add, Int.reduceEq, Int.reduceLT, ld_86, hk1.lda (rdC_len ..)]
    refine ⟨_, _, hc2, ?_⟩
    try simp only [go_sem, Nat.reduceEqDiff, Nat.reduceLT, Nat.reduceAdd, Nat.reduceMul, Nat.reduceSub, Nat.add_zero, Nat.zero_add, Int.reduceEq, Int.reduceLT, extractV, st_86, st_all (n := 2) (vs := rdC vb2 (sevS f1 7).code) hkx rfl rfl rfl (rdC_one hE2.row.one)]
    refine hK _ _ _ (by simp only [go_sem, Nat.reduceEqDiff, Nat.reduceLT, Nat.reduceAdd, Nat.reduceMul, Nat.reduceSub, Nat.add_zero, Nat.zero_add, Int.reduceEq, Int.reduceLT]; rfl) ?_; clear hK
    have hzx := (hz1.grew hx2).put' (show M.next ≠ M1.next by omega) ⟨rdC vb2 (sevS f1 7).code, 86, true⟩
    obtain ⟨gx, hkx⟩ := mk_put (g1.trans hx2) (show M.next ≤ M1.next by omega) hkx.2 ⟨rdC vb2 (sevS f1 7).code, 86, true⟩
    have hu2x := (hu2.base (M0 := baseN M2.next) hn1).put (show M1.next < (baseN M2.next).next from hlt) ⟨rdC vb2 (sevS f1 7).code, 86, true⟩
    have hnx : M2.next ≤ (X2.put M1.next ⟨rdC vb2 (sevS f1 7).code, 86, true⟩).next := Nat.le_trans hn1 hx2.next
    generalize hP2 : X2.put M1.next ⟨rdC vb2 (sevS f1 7).code, 86, true⟩ = P2 at hzx gx hkx hnx hu2x
    have hz2 := hzx; have g2 := gx; have hk2 := hkx; have hn2 := hnx
    have hu2 := hu2x
    clear hzx gx hkx hnx hP2 hc2 hu2x
    generalize ht0 : sevS f1 7 = t0 at hk2 hE2 hb2 hl2
    -- text
    obtain ⟨r_3, X3, hc3, hx3, w_3, u3, rfl, ⟨vb3, rfl, hE3⟩, hu3⟩ := long60_spec (.agg (rdC vb2 t0.code).toArray) t0 M P2 (g2.ok hok) g2 ⟨vb2, rfl, hE2⟩ hb2 (by omega)
    have hb3 : BytB (textS t0).1.b := (textS_bytes hb2).1
    have hl3 : (textS t0).1.b.length ≤ 4000 := Nat.le_trans (textS_len t0).1 hl2
    have hkx := hk2.grew hx3
    refine AWP.stepR [2, 4, 6, 7, 8] fun K hK => ?_
    simp only [go_sem, Nat.reduceEqDiff, Nat.reduceLT, Nat.reduceAdd, Nat.reduceMul, Nat.reduceSub, Nat.add_zero, Nat.zero_add, Int.reduceEq, Int.reduceLT, ld_86, hk2.lda (rdC_len ..)]
    refine ⟨_, _, hc3, ?_⟩
    try simp only [go_sem, Nat.reduceEqDiff, Nat.reduceLT, Nat.reduceAdd, Nat.reduceMul, Nat.reduceSub, Nat.add_zero, Nat.zero_add, Int.reduceEq, Int.reduceLT, extractV, st_86, st_all (n := 2) (vs := rdC vb3 (textS t0).1.code) hkx rfl rfl rfl (rdC_one hE3.row.one)]
    refine hK _ _ _ (by simp only [go_sem, Nat.reduceEqDiff, Nat.reduceLT, Nat.reduceAdd, Nat.reduceMul, Nat.reduceSub, Nat.add_zero, Nat.zero_add, Int.reduceEq, Int.reduceLT]; rfl) ?_; clear hK
    have hzx := (hz2.grew hx3).put' (show M.next ≠ M1.next by omega) ⟨rdC vb3 (textS t0).1.code, 86, true⟩
    obtain ⟨gx, hkx⟩ := mk_put (g2.trans hx3) (show M.next ≤ M1.next by omega) hkx.2 ⟨rdC vb3 (textS t0).1.code, 86, true⟩
    have hu2x := (hu2.grew hx3).put (show M1.next < (baseN M2.next).next from hlt) ⟨rdC vb3 (textS t0).1.code, 86, true⟩
    have hnx : M2.next ≤ (X3.put M1.next ⟨rdC vb3 (textS t0).1.code, 86, true⟩).next := Nat.le_trans hn2 hx3.next
    generalize hP3 : X3.put M1.next ⟨rdC vb3 (textS t0).1.code, 86, true⟩ = P3 at hzx gx hkx hnx hu2x
    have hz3 := hzx; have g3 := gx; have hk3 := hkx; have hn3 := hnx
    have hu2 := hu2x
    clear hzx gx hkx hnx hP3 hc3 hu2x
    -- text
    obtain ⟨r_4, X4, hc4, hx4, w_4, u4, rfl, ⟨vb4, rfl, hE4⟩, hu4⟩ := long60_spec (.agg (rdC vb3 (textS t0).1.code).toArray) (textS t0).1 M P3 (g3.ok hok) g3 ⟨vb3, rfl, hE3⟩ hb3 (by omega)
    have hb4 : BytB (textS (textS t0).1).1.b := (textS_bytes hb3).1
    have hl4 : (textS (textS t0).1).1.b.length ≤ 4000 := Nat.le_trans (textS_len (textS t0).1).1 hl3
    have hkx := hk3.grew hx4
    refine AWP.stepR [2, 4, 6, 7, 8, 9] fun K hK => ?_
    simp only [go_sem, Nat.reduceEqDiff, Nat.reduceLT, Nat.reduceAdd, Nat.reduceMul, Nat.reduceSub, Nat.add_zero, Nat.zero_add, Int.reduceEq, Int.reduceLT, ld_86, hk3.lda (rdC_len ..)]
    refine ⟨_, _, hc4, ?_⟩
    try simp only [go_sem, Nat.reduceEqDiff, Nat.reduceLT, Nat.reduceAdd, Nat.reduceMul, Nat.reduceSub, Nat.add_zero, Nat.zero_add, Int.reduceEq, Int.reduceLT, extractV, st_86, st_all (n := 2) (vs := rdC vb4 (textS (textS t0).1).1.code) hkx rfl rfl rfl (rdC_one hE4.row.one)]
    refine hK _ _ _ (by simp only [go_sem, Nat.reduceEqDiff, Nat.reduceLT, Nat.reduceAdd, Nat.reduceMul, Nat.reduceSub, Nat.add_zero, Nat.zero_add, Int.reduceEq, Int.reduceLT]; rfl) ?_; clear hK
    have hzx := (hz3.grew hx4).put' (show M.next ≠ M1.next by omega) ⟨rdC vb4 (textS (textS t0).1).1.code, 86, true⟩
    obtain ⟨gx, hkx⟩ := mk_put (g3.trans hx4) (show M.next ≤ M1.next by omega) hkx.2 ⟨rdC vb4 (textS (textS t0).1).1.code, 86, true⟩
    have hu2x := (hu2.grew hx4).put (show M1.next < (baseN M2.next).next from hlt) ⟨rdC vb4 (textS (textS t0).1).1.code, 86, true⟩
    have hnx : M2.next ≤ (X4.put M1.next ⟨rdC vb4 (textS (textS t0).1).1.code, 86, true⟩).next := Nat.le_trans hn3 hx4.next
    generalize hP4 : X4.put M1.next ⟨rdC vb4 (textS (textS t0).1).1.code, 86, true⟩ = P4 at hzx gx hkx hnx hu2x
    have hz4 := hzx; have g4 := gx; have hk4 := hkx; have hn4 := hnx
    have hu2 := hu2x
    clear hzx gx hkx hnx hP4 hc4 hu2x
    generalize ht2 : (textS (textS t0).1).1 = t2 at hk4 hE4 hb4 hl4
    -- many
    obtain ⟨r_5, X5, hc5, hx5, w_5, u5, rfl, ⟨vb5, rfl, hE5⟩, hu5⟩ := texts61_spec (.agg (rdC vb4 t2.code).toArray) t2 M P4 (g4.ok hok) g4 ⟨vb4, rfl, hE4⟩ hb4 (by omega)
    have hb5 : BytB (manyS textS t2).1.b := (manyS_keep textS (text_keep (L := 4000)) ⟨hb4, hl4⟩).1
    have hl5 : (manyS textS t2).1.b.length ≤ 4000 := (manyS_keep textS (text_keep (L := 4000)) ⟨hb4, hl4⟩).2
    have hkx := hk4.grew hx5
    refine AWP.stepR [2, 4, 6, 7, 8, 9, 10] fun K hK => ?_
    simp only [go_sem, Nat.reduceEqDiff, Nat.reduceLT, Nat.reduceAdd, Nat.reduceMul, Nat.reduceSub, Nat.add_zero, Nat.zero_add, Int.reduceEq, Int.reduceLT, ld_86, hk4.lda (rdC_len ..)]
    refine ⟨_, _, hc5, ?_⟩
    try simp only [go_sem, Nat.reduceEqDiff, Nat.reduceLT, Nat.reduceAdd, Nat.reduceMul, Nat.reduceSub, Nat.add_zero, Nat.zero_add, Int.reduceEq, Int.reduceLT, extractV, st_86, st_all (n := 2) (vs := rdC vb5 (manyS textS t2).1.code) hkx rfl rfl rfl (rdC_one hE5.row.one)]
    refine hK _ _ _ (by simp only [go_sem, Nat.reduceEqDiff, Nat.reduceLT, Nat.reduceAdd, Nat.reduceMul, Nat.reduceSub, Nat.add_zero, Nat.zero_add, Int.reduceEq, Int.reduceLT]; rfl) ?_; clear hK
    have hzx := (hz4.grew hx5).put' (show M.next ≠ M1.next by omega) ⟨rdC vb5 (manyS textS t2).1.code, 86, true⟩
    obtain ⟨gx, hkx⟩ := mk_put (g4.trans hx5) (show M.next ≤ M1.next by omega) hkx.2 ⟨rdC vb5 (manyS textS t2).1.code, 86, true⟩
    have hu2x := (hu2.grew hx5).put (show M1.next < (baseN M2.next).next from hlt) ⟨rdC vb5 (manyS textS t2).1.code, 86, true⟩
    have hu5x := (hu5.base (M0 := baseN M2.next) hn4).put (show M1.next < (baseN M2.next).next from hlt) ⟨rdC vb5 (manyS textS t2).1.code, 86, true⟩
    have hnx : M2.next ≤ (X5.put M1.next ⟨rdC vb5 (manyS textS t2).1.code, 86, true⟩).next := Nat.le_trans hn4 hx5.next
    generalize hP5 : X5.put M1.next ⟨rdC vb5 (manyS textS t2).1.code, 86, true⟩ = P5 at hzx gx hkx hnx hu2x hu5x
    have hz5 := hzx; have g5 := gx; have hk5 := hkx; have hn5 := hnx
    have hu2 := hu2x
    have hu5 := hu5x
    clear hzx gx hkx hnx hP5 hc5 hu2x hu5x
    generalize ht3 : (manyS textS t2).1 = t3 at hk5 hE5 hb5 hl5
    -- many
    obtain ⟨r_6, X6, hc6, hx6, w_6, u6, rfl, ⟨vb6, rfl, hE6⟩, hu6⟩ := texts61_spec (.agg (rdC vb5 t3.code).toArray) t3 M P5 (g5.ok hok) g5 ⟨vb5, rfl, hE5⟩ hb5 (by omega)
    have hb6 : BytB (manyS textS t3).1.b := (manyS_keep textS (text_keep (L := 4000)) ⟨hb5, hl5⟩).1
    have hl6 : (manyS textS t3).1.b.length ≤ 4000 := (manyS_keep textS (text_keep (L := 4000)) ⟨hb5, hl5⟩).2
    have hkx := hk5.grew hx6
    refine AWP.stepR [2, 4, 6, 7, 8, 9, 10, 11] fun K hK => ?_
    simp only [go_sem, Nat.reduceEqDiff, Nat.reduceLT, Nat.reduceAdd, Nat.reduceMul, Nat.reduceSub, Nat.add_zero, Nat.zero_add, Int.reduceEq, Int.reduceLT, ld_86, hk5.lda (rdC_len ..)]
    refine ⟨_, _, hc6, ?_⟩
    try simp only [go_sem, Nat.reduceEqDiff, Nat.reduceLT, Nat.reduceAdd, Nat.reduceMul, Nat.reduceSub, Nat.add_zero, Nat.zero_add, Int.reduceEq, Int.reduceLT, extractV, st_86, st_all (n := 2) (vs := rdC vb6 (manyS textS t3).1.code) hkx rfl rfl rfl (rdC_one hE6.row.one)]
    refine hK _ _ _ (by simp only [go_sem, Nat.reduceEqDiff, Nat.reduceLT, Nat.reduceAdd, Nat.reduceMul, Nat.reduceSub, Nat.add_zero, Nat.zero_add, Int.reduceEq, Int.reduceLT]; rfl) ?_; clear hK
    have hzx := (hz5.grew hx6).put' (show M.next ≠ M1.next by omega) ⟨rdC vb6 (manyS textS t3).1.code, 86, true⟩
    obtain ⟨gx, hkx⟩ := mk_put (g5.trans hx6) (show M.next ≤ M1.next by omega) hkx.2 ⟨rdC vb6 (manyS textS t3).1.code, 86, true⟩
    have hu2x := (hu2.grew hx6).put (show M1.next < (baseN M2.next).next from hlt) ⟨rdC vb6 (manyS textS t3).1.code, 86, true⟩
    have hu5x := (hu5.grew hx6).put (show M1.next < (baseN M2.next).next from hlt) ⟨rdC vb6 (manyS textS t3).1.code, 86, true⟩
    have hu6x := (hu6.base (M0 := baseN M2.next) hn5).put (show M1.next < (baseN M2.next).next from hlt) ⟨rdC vb6 (manyS textS t3).1.code, 86, true⟩
    have hnx : M2.next ≤ (X6.put M1.next ⟨rdC vb6 (manyS textS t3).1.code, 86, true⟩).next := Nat.le_trans hn5 hx6.next
    generalize hP6 : X6.put M1.next ⟨rdC vb6 (manyS textS t3).1.code, 86, true⟩ = P6 at hzx gx hkx hnx hu2x hu5x hu6x
    have hz6 := hzx; have g6 := gx; have hk6 := hkx; have hn6 := hnx
    have hu2 := hu2x
    have hu5 := hu5x
    have hu6 := hu6x
    clear hzx gx hkx hnx hP6 hc6 hu2x hu5x hu6x
    generalize ht4 : (manyS textS t3).1 = t4 at hk6 hE6 hb6 hl6
    -- text
    obtain ⟨r_7, X7, hc7, hx7, w_7, u7, rfl, ⟨vb7, rfl, hE7⟩, hu7⟩ := long60_spec (.agg (rdC vb6 t4.code).toArray) t4 M P6 (g6.ok hok) g6 ⟨vb6, rfl, hE6⟩ hb6 (by omega)
    have hb7 : BytB (textS t4).1.b := (textS_bytes hb6).1
    have hl7 : (textS t4).1.b.length ≤ 4000 := Nat.le_trans (textS_len t4).1 hl6
    have hkx := hk6.grew hx7
    refine AWP.stepR [2, 4, 6, 7, 8, 9, 10, 11, 12] fun K hK => ?_
    simp only [go_sem, Nat.reduceEqDiff, Nat.reduceLT, Nat.reduceAdd, Nat.reduceMul, Nat.reduceSub, Nat.add_zero, Nat.zero_add, Int.reduceEq, Int.reduceLT, ld_86, hk6.lda (rdC_len ..)]
    refine ⟨_, _, hc7, ?_⟩
    try simp only [go_sem, Nat.reduceEqDiff, Nat.reduceLT, Nat.reduceAdd, Nat.reduceMul, Nat.reduceSub, Nat.add_zero, Nat.zero_add, Int.reduceEq, Int.reduceLT, extractV, st_86, st_all (n := 2) (vs := rdC vb7 (textS t4).1.code) hkx rfl rfl rfl (rdC_one hE7.row.one)]
    refine hK _ _ _ (by simp only [go_sem, Nat.reduceEqDiff, Nat.reduceLT, Nat.reduceAdd, Nat.reduceMul, Nat.reduceSub, Nat.add_zero, Nat.zero_add, Int.reduceEq, Int.reduceLT]; rfl) ?_; clear hK
    have hzx := (hz6.grew hx7).put' (show M.next ≠ M1.next by omega) ⟨rdC vb7 (textS t4).1.code, 86, true⟩
    obtain ⟨gx, hkx⟩ := mk_put (g6.trans hx7) (show M.next ≤ M1.next by omega) hkx.2 ⟨rdC vb7 (textS t4).1.code, 86, true⟩
    have hu2x := (hu2.grew hx7).put (show M1.next < (baseN M2.next).next from hlt) ⟨rdC vb7 (textS t4).1.code, 86, true⟩
    have hu5x := (hu5.grew hx7).put (show M1.next < (baseN M2.next).next from hlt) ⟨rdC vb7 (textS t4).1.code, 86, true⟩
    have hu6x := (hu6.grew hx7).put (show M1.next < (baseN M2.next).next from hlt) ⟨rdC vb7 (textS t4).1.code, 86, true⟩
    have hnx : M2.next ≤ (X7.put M1.next ⟨rdC vb7 (textS t4).1.code, 86, true⟩).next := Nat.le_trans hn6 hx7.next
    generalize hP7 : X7.put M1.next ⟨rdC vb7 (textS t4).1.code, 86, true⟩ = P7 at hzx gx hkx hnx hu2x hu5x hu6x
    have hz7 := hzx; have g7 := gx; have hk7 := hkx; have hn7 := hnx
    have hu2 := hu2x
    have hu5 := hu5x
    have hu6 := hu6x
    clear hzx gx hkx hnx hP7 hc7 hu2x hu5x hu6x
    generalize ht5 : (textS t4).1 = t5 at hk7 hE7 hb7 hl7
    -- many
    obtain ⟨r_8, X8, hc8, hx8, w_8, u8, rfl, ⟨vb8, rfl, hE8⟩, hu8⟩ := shown62_spec (.agg (rdC vb7 t5.code).toArray) t5 M P7 (g7.ok hok) g7 ⟨vb7, rfl, hE7⟩ hb7 (by omega)
    have hb8 : BytB (manyS shwS t5).1.b := (manyS_keep shwS (shw_keep (L := 4000)) ⟨hb7, hl7⟩).1
    have hl8 : (manyS shwS t5).1.b.length ≤ 4000 := (manyS_keep shwS (shw_keep (L := 4000)) ⟨hb7, hl7⟩).2
    have hkx := hk7.grew hx8
    refine AWP.stepR [2, 4, 6, 7, 8, 9, 10, 11, 12, 13] fun K hK => ?_
    simp only [go_sem, Nat.reduceEqDiff, Nat.reduceLT, Nat.reduceAdd, Nat.reduceMul, Nat.reduceSub, Nat.add_zero, Nat.zero_add, Int.reduceEq, Int.reduceLT, ld_86, hk7.lda (rdC_len ..)]
    refine ⟨_, _, hc8, ?_⟩
    try simp only [go_sem, Nat.reduceEqDiff, Nat.reduceLT, Nat.reduceAdd, Nat.reduceMul, Nat.reduceSub, Nat.add_zero, Nat.zero_add, Int.reduceEq, Int.reduceLT, extractV, st_86, st_all (n := 2) (vs := rdC vb8 (manyS shwS t5).1.code) hkx rfl rfl rfl (rdC_one hE8.row.one)]
    refine hK _ _ _ (by simp only [go_sem, Nat.reduceEqDiff, Nat.reduceLT, Nat.reduceAdd, Nat.reduceMul, Nat.reduceSub, Nat.add_zero, Nat.zero_add, Int.reduceEq, Int.reduceLT]; rfl) ?_; clear hK
    have hzx := (hz7.grew hx8).put' (show M.next ≠ M1.next by omega) ⟨rdC vb8 (manyS shwS t5).1.code, 86, true⟩
    obtain ⟨gx, hkx⟩ := mk_put (g7.trans hx8) (show M.next ≤ M1.next by omega) hkx.2 ⟨rdC vb8 (manyS shwS t5).1.code, 86, true⟩
    have hu2x := (hu2.grew hx8).put (show M1.next < (baseN M2.next).next from hlt) ⟨rdC vb8 (manyS shwS t5).1.code, 86, true⟩
    have hu5x := (hu5.grew hx8).put (show M1.next < (baseN M2.next).next from hlt) ⟨rdC vb8 (manyS shwS t5).1.code, 86, true⟩
    have hu6x := (hu6.grew hx8).put (show M1.next < (baseN M2.next).next from hlt) ⟨rdC vb8 (manyS shwS t5).1.code, 86, true⟩
    have hu8x := (hu8.base (M0 := baseN M2.next) hn7).put (show M1.next < (baseN M2.next).next from hlt) ⟨rdC vb8 (manyS shwS t5).1.code, 86, true⟩
    have hnx : M2.next ≤ (X8.put M1.next ⟨rdC vb8 (manyS shwS t5).1.code, 86, true⟩).next := Nat.le_trans hn7 hx8.next
    generalize hP8 : X8.put M1.next ⟨rdC vb8 (manyS shwS t5).1.code, 86, true⟩ = P8 at hzx gx hkx hnx hu2x hu5x hu6x hu8x
    have hz8 := hzx; have g8 := gx; have hk8 := hkx; have hn8 := hnx
    have hu2 := hu2x
    have hu5 := hu5x
    have hu6 := hu6x
    have hu8 := hu8x
    clear hzx gx hkx hnx hP8 hc8 hu2x hu5x hu6x hu8x
    generalize ht6 : (manyS shwS t5).1 = t6 at hk8 hE8 hb8 hl8
    -- text
    obtain ⟨r_9, X9, hc9, hx9, w_9, u9, rfl, ⟨vb9, rfl, hE9⟩, hu9⟩ := long60_spec (.agg (rdC vb8 t6.code).toArray) t6 M P8 (g8.ok hok) g8 ⟨vb8, rfl, hE8⟩ hb8 (by omega)
    have hb9 : BytB (textS t6).1.b := (textS_bytes hb8).1
    have hl9 : (textS t6).1.b.length ≤ 4000 := Nat.le_trans (textS_len t6).1 hl8
    have hkx := hk8.grew hx9
    refine AWP.stepR [2, 4, 6, 7, 8, 9, 10, 11, 12, 13, 14] fun K hK => ?_
    simp only [go_sem, Nat.reduceEqDiff, Nat.reduceLT, Nat.reduceAdd, Nat.reduceMul, Nat.reduceSub, Nat.add_zero, Nat.zero_add, Int.reduceEq, Int.reduceLT, ld_86, hk8.lda (rdC_len ..)]
    refine ⟨_, _, hc9, ?_⟩
    try simp only [go_sem, Nat.reduceEqDiff, Nat.reduceLT, Nat.reduceAdd, Nat.reduceMul, Nat.reduceSub, Nat.add_zero, Nat.zero_add, Int.reduceEq, Int.reduceLT, extractV, st_86, st_all (n := 2) (vs := rdC vb9 (textS t6).1.code) hkx rfl rfl rfl (rdC_one hE9.row.one)]
    refine hK _ _ _ (by simp only [go_sem, Nat.reduceEqDiff, Nat.reduceLT, Nat.reduceAdd, Nat.reduceMul, Nat.reduceSub, Nat.add_zero, Nat.zero_add, Int.reduceEq, Int.reduceLT]; rfl) ?_; clear hK
    have hzx := (hz8.grew hx9).put' (show M.next ≠ M1.next by omega) ⟨rdC vb9 (textS t6).1.code, 86, true⟩
    obtain ⟨gx, hkx⟩ := mk_put (g8.trans hx9) (show M.next ≤ M1.next by omega) hkx.2 ⟨rdC vb9 (textS t6).1.code, 86, true⟩
    have hu2x := (hu2.grew hx9).put (show M1.next < (baseN M2.next).next from hlt) ⟨rdC vb9 (textS t6).1.code, 86, true⟩
    have hu5x := (hu5.grew hx9).put (show M1.next < (baseN M2.next).next from hlt) ⟨rdC vb9 (textS t6).1.code, 86, true⟩
    have hu6x := (hu6.grew hx9).put (show M1.next < (baseN M2.next).next from hlt) ⟨rdC vb9 (textS t6).1.code, 86, true⟩
    have hu8x := (hu8.grew hx9).put (show M1.next < (baseN M2.next).next from hlt) ⟨rdC vb9 (textS t6).1.code, 86, true⟩
    have hnx : M2.next ≤ (X9.put M1.next ⟨rdC vb9 (textS t6).1.code, 86, true⟩).next := Nat.le_trans hn8 hx9.next
    generalize hP9 : X9.put M1.next ⟨rdC vb9 (textS t6).1.code, 86, true⟩ = P9 at hzx gx hkx hnx hu2x hu5x hu6x hu8x
    have hz9 := hzx; have g9 := gx; have hk9 := hkx; have hn9 := hnx
    have hu2 := hu2x
    have hu5 := hu5x
    have hu6 := hu6x
    have hu8 := hu8x
    clear hzx gx hkx hnx hP9 hc9 hu2x hu5x hu6x hu8x
    have hrep : replyS s0 = ((textS t6).1, (⟨sevN f1 0, sevN f1 1, sevN f1 2, sevN f1 3, sevN f1 4, sevN f1 5, sevN f1 6, (textS t6).2, (textS t0).2, (textS (textS t0).1).2, bitF fn 0, bitF fn 1, bitF fn 2, (manyS textS t2).2.map strOf, (manyS textS t3).2.map strOf, strOf (textS t4).2, (manyS shwS t5).2⟩ : Rep)) := by rw [replyS, hf1, hfn, ht0, ht2, ht3, ht4, ht5, ht6]
    rw [hrep] at hgetR few
    generalize hQ : (⟨sevN f1 0, sevN f1 1, sevN f1 2, sevN f1 3, sevN f1 4, sevN f1 5, sevN f1 6, (textS t6).2, (textS t0).2, (textS (textS t0).1).2, bitF fn 0, bitF fn 1, bitF fn 2, (manyS textS t2).2.map strOf, (manyS textS t3).2.map strOf, strOf (textS t4).2, (manyS shwS t5).2⟩ : Rep) = Q at hgetR few
    have hsb := isSl_N hu9; have hsm := isSl_N hu3; have hst := isSl_N hu4; have hss := isSl_O hu8; have hsn := isSl_O hu5; have hsp := isSl_O hu6
    have rB := hu9.row.grew g9; have rM := hu3.row.grew g9; have rT := hu4.row.grew g9
    -- the ending
    obtain ⟨r10, M10, hc10, hr10, hM10⟩ := end63_spec (.agg (rdC vb9 (textS t6).1.code).toArray) (textS t6).1 P9 (g9.ok hok) ⟨vb9, rfl, hE9.grew g9⟩
    rw [hr10, hM10] at hc10
    refine AWP.seq ?_
    refine AWP.stepR [2, 6, 7, 8, 9, 10, 11, 12, 13, 14, 15] fun K hK => ?_
    simp only [go_sem, Nat.reduceEqDiff, Nat.reduceLT, Nat.reduceAdd, Nat.reduceMul, Nat.reduceSub, Nat.add_zero, Nat.zero_add, Int.reduceEq, Int.reduceLT, ld_86, hk9.lda (rdC_len ..)]
    refine ⟨_, _, hc10, ?_⟩
    refine hK _ _ _ (by simp only [go_sem, Nat.reduceEqDiff, Nat.reduceLT, Nat.reduceAdd, Nat.reduceMul, Nat.reduceSub, Nat.add_zero, Nat.zero_add, Int.reduceEq, Int.reduceLT]; rfl) ?_; clear hK
    generalize hec : (endS (textS t6).1).code = ec at hgetR few ⊢
    refine AWP.stepR [2, 6, 7, 8, 9, 10, 11, 12, 13, 14, 15, 76] fun K hK => ?_
    simp only [go_sem, Nat.reduceEqDiff, Nat.reduceLT, Nat.reduceAdd, Nat.reduceMul, Nat.reduceSub, Nat.add_zero, Nat.zero_add, Int.reduceEq, Int.reduceLT]
    refine hK _ _ _ (by simp only [go_sem, Nat.reduceEqDiff, Nat.reduceLT, Nat.reduceAdd, Nat.reduceMul, Nat.reduceSub, Nat.add_zero, Nat.zero_add, Int.reduceEq, Int.reduceLT]; rfl) ?_; clear hK
    refine AWP.cond_split rfl (fun h76 => ?_) fun h76 => ?_
    · have hne : ec ≠ 0 := by simpa using h76
      have hF : getR b = (zR, ec) := by rw [hgetR, if_pos hne]
      have fs : stV P9 M.next 0 17 (.agg zRC.toArray) = some (P9.put M.next ⟨zRC, 29, true⟩) := st_all (n := 17) hz9 rfl rfl rfl rfl
      refine AWP.stepR [2, 3] fun K hK => ?_
      simp only [go_sem, Nat.reduceEqDiff, Nat.reduceLT, Nat.reduceAdd, Nat.reduceMul, Nat.reduceSub, Nat.add_zero, Nat.zero_add, Int.reduceEq, Int.reduceLT, bd_29z, st_29, fs]
      refine hK _ _ _ (by simp only [go_sem, Nat.reduceEqDiff, Nat.reduceLT, Nat.reduceAdd, Nat.reduceMul, Nat.reduceSub, Nat.add_zero, Nat.zero_add, Int.reduceEq, Int.reduceLT]; rfl) ?_; clear hK
      obtain ⟨hgz, hhz⟩ := mk_put g9 (Nat.le_refl _) hz9.2 ⟨zRC, 29, true⟩
      refine AWP.ret (Then.ret (?_))
      refine Fin.keep (v := .tuple #[.agg zRC.toArray, .int .i64 ec]) (.inr rfl) (by simp only [go_sem, Nat.reduceEqDiff, Nat.reduceLT, Nat.reduceAdd, Nat.reduceMul, Nat.reduceSub, Nat.add_zero, Nat.zero_add, Int.reduceEq, Int.reduceLT, retV, resV, ld_29, hhz.lda (show zRC.length = 17 from rfl)] <;> rfl) ⟨hgz, zR, .slice none 0 0, .slice none 0 0, .slice none 0 0, .slice none 0 0, .slice none 0 0, .slice none 0 0, by rw [hF]; rfl, ⟨Row_.nil _, Row_.nil _, Row_.nil _, Row_.nil _, Row_.nil _, Row_.nil _⟩, by rw [hF]⟩
    · have hec0 : ec = 0 := by simpa using h76
      refine AWP.skip ?_
      obtain ⟨fw1, fw2, fw3⟩ := few hec0
      have gb : Grew P9 (P9.bump 1) := (Grew.refl _).bump 1
      obtain ⟨b0_, q0_, ha0, hd0⟩ := hu2.row.at1 (by simp) es_66 (i := 0) (by omega)
      have ha0 : ∀ k, indexAddrV Try.prog 66 u2 (.int k 0) = some (.pointer (some ⟨b0_, q0_, none⟩)) := ha0
      have k0 : ldS (P9.bump 1).get b0_ q0_ = some (.int .i64 (sevN f1 0)) := by rw [hd0 _ gb]; rfl
      have j0 : ldS P9.get b0_ q0_ = some (.int .i64 (sevN f1 0)) := by rw [hd0 _ (Grew.refl _)]; rfl
      obtain ⟨b1_, q1_, ha1, hd1⟩ := hu2.row.at1 (by simp) es_66 (i := 1) (by omega)
      have ha1 : ∀ k, indexAddrV Try.prog 66 u2 (.int k 1) = some (.pointer (some ⟨b1_, q1_, none⟩)) := ha1
      have k1 : ldS (P9.bump 1).get b1_ q1_ = some (.int .i64 (sevN f1 1)) := by rw [hd1 _ gb]; rfl
      have j1 : ldS P9.get b1_ q1_ = some (.int .i64 (sevN f1 1)) := by rw [hd1 _ (Grew.refl _)]; rfl
      obtain ⟨b2_, q2_, ha2, hd2⟩ := hu2.row.at1 (by simp) es_66 (i := 2) (by omega)
      have ha2 : ∀ k, indexAddrV Try.prog 66 u2 (.int k 2) = some (.pointer (some ⟨b2_, q2_, none⟩)) := ha2
      have k2 : ldS (P9.bump 1).get b2_ q2_ = some (.int .i64 (sevN f1 2)) := by rw [hd2 _ gb]; rfl
      have j2 : ldS P9.get b2_ q2_ = some (.int .i64 (sevN f1 2)) := by rw [hd2 _ (Grew.refl _)]; rfl
      obtain ⟨b3_, q3_, ha3, hd3⟩ := hu2.row.at1 (by simp) es_66 (i := 3) (by omega)
      have ha3 : ∀ k, indexAddrV Try.prog 66 u2 (.int k 3) = some (.pointer (some ⟨b3_, q3_, none⟩)) := ha3
      have k3 : ldS (P9.bump 1).get b3_ q3_ = some (.int .i64 (sevN f1 3)) := by rw [hd3 _ gb]; rfl
      have j3 : ldS P9.get b3_ q3_ = some (.int .i64 (sevN f1 3)) := by rw [hd3 _ (Grew.refl _)]; rfl
      obtain ⟨b4_, q4_, ha4, hd4⟩ := hu2.row.at1 (by simp) es_66 (i := 4) (by omega)
      have ha4 : ∀ k, indexAddrV Try.prog 66 u2 (.int k 4) = some (.pointer (some ⟨b4_, q4_, none⟩)) := ha4
      have k4 : ldS (P9.bump 1).get b4_ q4_ = some (.int .i64 (sevN f1 4)) := by rw [hd4 _ gb]; rfl
      have j4 : ldS P9.get b4_ q4_ = some (.int .i64 (sevN f1 4)) := by rw [hd4 _ (Grew.refl _)]; rfl
      obtain ⟨b5_, q5_, ha5, hd5⟩ := hu2.row.at1 (by simp) es_66 (i := 5) (by omega)
      have ha5 : ∀ k, indexAddrV Try.prog 66 u2 (.int k 5) = some (.pointer (some ⟨b5_, q5_, none⟩)) := ha5
      have k5 : ldS (P9.bump 1).get b5_ q5_ = some (.int .i64 (sevN f1 5)) := by rw [hd5 _ gb]; rfl
      have j5 : ldS P9.get b5_ q5_ = some (.int .i64 (sevN f1 5)) := by rw [hd5 _ (Grew.refl _)]; rfl
      obtain ⟨b6_, q6_, ha6, hd6⟩ := hu2.row.at1 (by simp) es_66 (i := 6) (by omega)
      have ha6 : ∀ k, indexAddrV Try.prog 66 u2 (.int k 6) = some (.pointer (some ⟨b6_, q6_, none⟩)) := ha6
      have k6 : ldS (P9.bump 1).get b6_ q6_ = some (.int .i64 (sevN f1 6)) := by rw [hd6 _ gb]; rfl
      have j6 : ldS P9.get b6_ q6_ = some (.int .i64 (sevN f1 6)) := by rw [hd6 _ (Grew.refl _)]; rfl
      have hone : ∀ r : Rep, ∀ vn vp : Value, vn.oneCell' = true → vp.oneCell' = true → oneCells (repC r u9 u3 u4 vn vp u8) = true := fun r vn vp h h' => by simp only [oneCells, repC, List.all_cons, List.all_nil, one_sl hsb, one_sl hsm, one_sl hst, one_sl hss, h, h']; rfl
      have hlt9 : P9.next < (P9.bump 1).next := Nat.lt_succ_self _
      refine AWP.stepD hmo [0, 1, 2, 3, 4, 5, 6, 7, 8, 9, 10, 11, 12, 13, 14, 15, 16, 17, 18, 19, 20, 21, 22, 23, 24, 25, 26, 27] [0, 1, 3, 0, 8, 24, 0, 64, 192, 0, 512, 1536, 0, 4096, 12288, 0, 32768, 98304, 0, 262144, 786432, 0, 0, 0, 0, 33554431, 0, 134217727] [] [] (by kernel_rfl) [2, 6, 10, 11, 12, 16] fun K hK => ?_
      simp -implicitDefEqProofs only [go_sem, Nat.reduceEqDiff, Nat.reduceLT, Nat.reduceAdd, Nat.reduceMul, Nat.reduceSub, Nat.add_zero, Nat.zero_add, Int.reduceEq, Int.reduceLT, ha0, ha1, ha2, ha3, ha4, ha5, ha6, ld_3, k0, k1, k2, k3, k4, k5, k6, j0, j1, j2, j3, j4, j5, j6, bd_29r _ _ _ _ _ _ _ hsb hsm hst hss, st_29, st_fresh (M := P9.bump 1) (i := P9.next) (n := 17) (old := [.int .i64 0, .int .i64 0, .int .i64 0, .int .i64 0, .slice none 0 0, .slice none 0 0, .slice none 0 0, .int .i64 0, .bool false, .slice none 0 0, .slice none 0 0, .string ⟨#[]⟩, .bool false, .slice none 0 0, .int .i64 0, .int .i64 0, .bool false]) (vs := (repC ⟨sevN f1 0, sevN f1 1, sevN f1 2, sevN f1 3, sevN f1 4, sevN f1 5, sevN f1 6, [], [], [], false, false, false, [], [], ⟨#[]⟩, []⟩ u9 u3 u4 (.slice none 0 0) (.slice none 0 0) u8)) (e := 29) rfl rfl (hone _ _ _ rfl rfl)]
      refine hK _ _ _ (by simp only [go_sem, Nat.reduceEqDiff, Nat.reduceLT, Nat.reduceAdd, Nat.reduceMul, Nat.reduceSub, Nat.add_zero, Nat.zero_add, Int.reduceEq, Int.reduceLT]; rfl) ?_; clear hK
      obtain ⟨Q0, hQ0, gQ0, hr0⟩ := kept P9 (P9.bump 1) (Grew.refl _) zRC (repC ⟨sevN f1 0, sevN f1 1, sevN f1 2, sevN f1 3, sevN f1 4, sevN f1 5, sevN f1 6, [], [], [], false, false, false, [], [], ⟨#[]⟩, []⟩ u9 u3 u4 (.slice none 0 0) (.slice none 0 0) u8) 29
      change AWP _ _ _ ⟨_, ((P9.bump 1).put P9.next ⟨zRC, 29, true⟩).put P9.next ⟨(repC ⟨sevN f1 0, sevN f1 1, sevN f1 2, sevN f1 3, sevN f1 4, sevN f1 5, sevN f1 6, [], [], [], false, false, false, [], [], ⟨#[]⟩, []⟩ u9 u3 u4 (.slice none 0 0) (.slice none 0 0) u8), 29, true⟩⟩ _
      rw [hQ0]
      have g10 := g9.trans gQ0
      have hz10 := hz9.grew gQ0
      have hcl : M.next < P9.next := hz9.2
      have hlQ : P9.next < Q0.next := hr0.2
      clear k0 k1 k2 k3 k4 k5 k6 j0 j1 j2 j3 j4 j5 j6 ha0 ha1 ha2 ha3 ha4 ha5 ha6 hd0 hd1 hd2 hd3 hd4 hd5 hd6
      -- the flags
      have fa : stV Q0 P9.next 8 1 (.bool (bitF fn 0)) = some (Q0.put P9.next ⟨(repC ⟨sevN f1 0, sevN f1 1, sevN f1 2, sevN f1 3, sevN f1 4, sevN f1 5, sevN f1 6, [], [], [], bitF fn 0, false, false, [], [], ⟨#[]⟩, []⟩ u9 u3 u4 (.slice none 0 0) (.slice none 0 0) u8), 29, true⟩) := st_cell (o := 8) hr0 rfl (by rw [repC_len]; decide) rfl
      refine AWP.stepR [2, 6, 10, 11, 12, 16] fun K hK => ?_
      simp only [go_sem, Nat.reduceEqDiff, Nat.reduceLT, Nat.reduceAdd, Nat.reduceMul, Nat.reduceSub, Nat.add_zero, Nat.zero_add, Int.reduceEq, Int.reduceLT, tb0 hr8, st_4, fa]
      refine hK _ _ _ (by simp only [go_sem, Nat.reduceEqDiff, Nat.reduceLT, Nat.reduceAdd, Nat.reduceMul, Nat.reduceSub, Nat.add_zero, Nat.zero_add, Int.reduceEq, Int.reduceLT]; rfl) ?_; clear hK
      obtain ⟨g11, hr1⟩ := mk_put g10 (show M.next ≤ P9.next by omega) hr0.2 ⟨(repC ⟨sevN f1 0, sevN f1 1, sevN f1 2, sevN f1 3, sevN f1 4, sevN f1 5, sevN f1 6, [], [], [], bitF fn 0, false, false, [], [], ⟨#[]⟩, []⟩ u9 u3 u4 (.slice none 0 0) (.slice none 0 0) u8), 29, true⟩
      have hz11 := hz10.put' (show M.next ≠ P9.next by omega) ⟨(repC ⟨sevN f1 0, sevN f1 1, sevN f1 2, sevN f1 3, sevN f1 4, sevN f1 5, sevN f1 6, [], [], [], bitF fn 0, false, false, [], [], ⟨#[]⟩, []⟩ u9 u3 u4 (.slice none 0 0) (.slice none 0 0) u8), 29, true⟩
      have ho2 : ∀ {v n cells e}, Own (baseN M2.next) P9 v n cells e → Row_ P9 v n cells := fun h => h.row
      have fb : stV (Q0.put P9.next ⟨(repC ⟨sevN f1 0, sevN f1 1, sevN f1 2, sevN f1 3, sevN f1 4, sevN f1 5, sevN f1 6, [], [], [], bitF fn 0, false, false, [], [], ⟨#[]⟩, []⟩ u9 u3 u4 (.slice none 0 0) (.slice none 0 0) u8), 29, true⟩) P9.next 16 1 (.bool (bitF fn 1)) = some ((Q0.put P9.next ⟨(repC ⟨sevN f1 0, sevN f1 1, sevN f1 2, sevN f1 3, sevN f1 4, sevN f1 5, sevN f1 6, [], [], [], bitF fn 0, false, false, [], [], ⟨#[]⟩, []⟩ u9 u3 u4 (.slice none 0 0) (.slice none 0 0) u8), 29, true⟩).put P9.next ⟨(repC ⟨sevN f1 0, sevN f1 1, sevN f1 2, sevN f1 3, sevN f1 4, sevN f1 5, sevN f1 6, [], [], [], bitF fn 0, bitF fn 1, false, [], [], ⟨#[]⟩, []⟩ u9 u3 u4 (.slice none 0 0) (.slice none 0 0) u8), 29, true⟩) := st_cell (o := 16) hr1 rfl (by rw [repC_len]; decide) rfl
      refine AWP.stepR [2, 6, 10, 11, 12, 16] fun K hK => ?_
      simp only [go_sem, Nat.reduceEqDiff, Nat.reduceLT, Nat.reduceAdd, Nat.reduceMul, Nat.reduceSub, Nat.add_zero, Nat.zero_add, Int.reduceEq, Int.reduceLT, tb1 hr8, st_4, fb]
      refine hK _ _ _ (by simp only [go_sem, Nat.reduceEqDiff, Nat.reduceLT, Nat.reduceAdd, Nat.reduceMul, Nat.reduceSub, Nat.add_zero, Nat.zero_add, Int.reduceEq, Int.reduceLT]; rfl) ?_; clear hK
      obtain ⟨g12, hr2⟩ := mk_put g11 (show M.next ≤ P9.next by omega) hr1.2 ⟨(repC ⟨sevN f1 0, sevN f1 1, sevN f1 2, sevN f1 3, sevN f1 4, sevN f1 5, sevN f1 6, [], [], [], bitF fn 0, bitF fn 1, false, [], [], ⟨#[]⟩, []⟩ u9 u3 u4 (.slice none 0 0) (.slice none 0 0) u8), 29, true⟩
      have hz12 := hz11.put' (show M.next ≠ P9.next by omega) ⟨(repC ⟨sevN f1 0, sevN f1 1, sevN f1 2, sevN f1 3, sevN f1 4, sevN f1 5, sevN f1 6, [], [], [], bitF fn 0, bitF fn 1, false, [], [], ⟨#[]⟩, []⟩ u9 u3 u4 (.slice none 0 0) (.slice none 0 0) u8), 29, true⟩
      have gP12 : Grew P9 ((Q0.put P9.next ⟨(repC ⟨sevN f1 0, sevN f1 1, sevN f1 2, sevN f1 3, sevN f1 4, sevN f1 5, sevN f1 6, [], [], [], bitF fn 0, false, false, [], [], ⟨#[]⟩, []⟩ u9 u3 u4 (.slice none 0 0) (.slice none 0 0) u8), 29, true⟩).put P9.next ⟨(repC ⟨sevN f1 0, sevN f1 1, sevN f1 2, sevN f1 3, sevN f1 4, sevN f1 5, sevN f1 6, [], [], [], bitF fn 0, bitF fn 1, false, [], [], ⟨#[]⟩, []⟩ u9 u3 u4 (.slice none 0 0) (.slice none 0 0) u8), 29, true⟩) := (gQ0.put (Nat.le_refl _) hlQ _).put (Nat.le_refl _) hlQ _
      generalize (Q0.put P9.next ⟨(repC ⟨sevN f1 0, sevN f1 1, sevN f1 2, sevN f1 3, sevN f1 4, sevN f1 5, sevN f1 6, [], [], [], bitF fn 0, false, false, [], [], ⟨#[]⟩, []⟩ u9 u3 u4 (.slice none 0 0) (.slice none 0 0) u8), 29, true⟩).put P9.next ⟨(repC ⟨sevN f1 0, sevN f1 1, sevN f1 2, sevN f1 3, sevN f1 4, sevN f1 5, sevN f1 6, [], [], [], bitF fn 0, bitF fn 1, false, [], [], ⟨#[]⟩, []⟩ u9 u3 u4 (.slice none 0 0) (.slice none 0 0) u8), 29, true⟩ = Q2 at g12 hr2 hz12 gP12
      -- the names
      have fc : stV Q2 P9.next 9 4 (.agg #[u5, u6, .string (strOf (textS t4).2), .bool (bitF fn 2)]) = some (Q2.put P9.next ⟨(repC ⟨sevN f1 0, sevN f1 1, sevN f1 2, sevN f1 3, sevN f1 4, sevN f1 5, sevN f1 6, [], [], [], bitF fn 0, bitF fn 1, bitF fn 2, [], [], strOf (textS t4).2, []⟩ u9 u3 u4 u5 u6 u8), 29, true⟩) := by
        rw [stV_at hr2.1, if_pos ⟨rfl, rfl, by simp only [oneCells, Value.cells, List.all_cons, List.all_nil, one_sl hsn, one_sl hsp]; rfl, by simp only [repC_len]; omega⟩]
        rfl
      refine AWP.stepR [2, 16] fun K hK => ?_
      simp only [go_sem, Nat.reduceEqDiff, Nat.reduceLT, Nat.reduceAdd, Nat.reduceMul, Nat.reduceSub, Nat.add_zero, Nat.zero_add, Int.reduceEq, Int.reduceLT, str_N hu7 g12, tb2 hr8, bd_26r _ _ hsn hsp, st_26, fc]
      refine hK _ _ _ (by simp only [go_sem, Nat.reduceEqDiff, Nat.reduceLT, Nat.reduceAdd, Nat.reduceMul, Nat.reduceSub, Nat.add_zero, Nat.zero_add, Int.reduceEq, Int.reduceLT]; rfl) ?_; clear hK
      obtain ⟨g13, hr3⟩ := mk_put g12 (show M.next ≤ P9.next by omega) hr2.2 ⟨(repC ⟨sevN f1 0, sevN f1 1, sevN f1 2, sevN f1 3, sevN f1 4, sevN f1 5, sevN f1 6, [], [], [], bitF fn 0, bitF fn 1, bitF fn 2, [], [], strOf (textS t4).2, []⟩ u9 u3 u4 u5 u6 u8), 29, true⟩
      have hz13 := hz12.put' (show M.next ≠ P9.next by omega) ⟨(repC ⟨sevN f1 0, sevN f1 1, sevN f1 2, sevN f1 3, sevN f1 4, sevN f1 5, sevN f1 6, [], [], [], bitF fn 0, bitF fn 1, bitF fn 2, [], [], strOf (textS t4).2, []⟩ u9 u3 u4 u5 u6 u8), 29, true⟩
      have gP13 : Grew P9 (Q2.put P9.next ⟨(repC ⟨sevN f1 0, sevN f1 1, sevN f1 2, sevN f1 3, sevN f1 4, sevN f1 5, sevN f1 6, [], [], [], bitF fn 0, bitF fn 1, bitF fn 2, [], [], strOf (textS t4).2, []⟩ u9 u3 u4 u5 u6 u8), 29, true⟩) := gP12.put (Nat.le_refl _) hr2.2 _
      generalize Q2.put P9.next ⟨(repC ⟨sevN f1 0, sevN f1 1, sevN f1 2, sevN f1 3, sevN f1 4, sevN f1 5, sevN f1 6, [], [], [], bitF fn 0, bitF fn 1, bitF fn 2, [], [], strOf (textS t4).2, []⟩ u9 u3 u4 u5 u6 u8), 29, true⟩ = Q3 at g13 hr3 hz13 gP13
      have hC : (repC ⟨sevN f1 0, sevN f1 1, sevN f1 2, sevN f1 3, sevN f1 4, sevN f1 5, sevN f1 6, [], [], [], bitF fn 0, bitF fn 1, bitF fn 2, [], [], strOf (textS t4).2, []⟩ u9 u3 u4 u5 u6 u8) = repC Q u9 u3 u4 u5 u6 u8 := by rw [← hQ]; rfl
      rw [hC] at hr3
      have hmk : ∀ X, RowB X u9 (textS t6).2 → RowB X u3 (textS t0).2 → RowB X u4 (textS (textS t0).1).2 → Row_ X u5 (manyS textS t2).2.length (((manyS textS t2).2.map strOf).map .string) → Row_ X u6 (manyS textS t3).2.length (((manyS textS t3).2.map strOf).map .string) → Row_ X u8 (manyS shwS t5).2.length ((manyS shwS t5).2.flatMap shwC) → RepR X Q u9 u3 u4 u5 u6 u8 := fun X a b c d e f => by
        rw [← hQ]
        exact ⟨a, b, c, by simp only [List.length_map]; exact d, by simp only [List.length_map]; exact e, f⟩
      have hRR : ∀ X, Grew P9 X → RepR X Q u9 u3 u4 u5 u6 u8 := fun X hX => hmk X (rB.grew hX) (rM.grew hX) (rT.grew hX) (hu5.grew hX).row (hu6.grew hX).row (hu8.grew hX).row
      obtain ⟨rk, Mk, hck, hrk, hMk⟩ := check16_spec Q u9 u3 u4 u5 u6 u8 Q3 (g13.ok hok) (hRR Q3 gP13) fw1 fw2 fw3
      rw [hrk, hMk] at hck
      refine AWP.seq ?_
      refine AWP.stepR [2, 16, 17] fun K hK => ?_
      simp only [go_sem, Nat.reduceEqDiff, Nat.reduceLT, Nat.reduceAdd, Nat.reduceMul, Nat.reduceSub, Nat.add_zero, Nat.zero_add, Int.reduceEq, Int.reduceLT, ld_29, hr3.lda (repC_len ..)]
      refine ⟨_, _, hck, ?_⟩
      refine hK _ _ _ (by simp only [go_sem, Nat.reduceEqDiff, Nat.reduceLT, Nat.reduceAdd, Nat.reduceMul, Nat.reduceSub, Nat.add_zero, Nat.zero_add, Int.reduceEq, Int.reduceLT]; rfl) ?_; clear hK
      refine AWP.stepR [2, 16, 17, 127] fun K hK => ?_
      simp only [go_sem, Nat.reduceEqDiff, Nat.reduceLT, Nat.reduceAdd, Nat.reduceMul, Nat.reduceSub, Nat.add_zero, Nat.zero_add, Int.reduceEq, Int.reduceLT]
      refine hK _ _ _ (by simp only [go_sem, Nat.reduceEqDiff, Nat.reduceLT, Nat.reduceAdd, Nat.reduceMul, Nat.reduceSub, Nat.add_zero, Nat.zero_add, Int.reduceEq, Int.reduceLT]; rfl) ?_; clear hK
      refine AWP.cond_split rfl (fun h127 => ?_) fun h127 => ?_
      · have hne : checkF Q ≠ 0 := by simpa using h127
        have hF : getR b = (zR, checkF Q) := by rw [hgetR, if_neg (by simpa using hec0), if_neg hne]
        have fs : stV Q3 M.next 0 17 (.agg zRC.toArray) = some (Q3.put M.next ⟨zRC, 29, true⟩) := st_all (n := 17) hz13 rfl rfl rfl rfl
        refine AWP.stepR [2, 3] fun K hK => ?_
        simp only [go_sem, Nat.reduceEqDiff, Nat.reduceLT, Nat.reduceAdd, Nat.reduceMul, Nat.reduceSub, Nat.add_zero, Nat.zero_add, Int.reduceEq, Int.reduceLT, bd_29z, st_29, fs]
        refine hK _ _ _ (by simp only [go_sem, Nat.reduceEqDiff, Nat.reduceLT, Nat.reduceAdd, Nat.reduceMul, Nat.reduceSub, Nat.add_zero, Nat.zero_add, Int.reduceEq, Int.reduceLT]; rfl) ?_; clear hK
        obtain ⟨hgz, hhz⟩ := mk_put g13 (Nat.le_refl _) hz13.2 ⟨zRC, 29, true⟩
        refine AWP.ret (Then.ret (?_))
        refine Fin.keep (v := .tuple #[.agg zRC.toArray, .int .i64 (checkF Q)]) (.inr rfl) (by simp only [go_sem, Nat.reduceEqDiff, Nat.reduceLT, Nat.reduceAdd, Nat.reduceMul, Nat.reduceSub, Nat.add_zero, Nat.zero_add, Int.reduceEq, Int.reduceLT, retV, resV, ld_29, hhz.lda (show zRC.length = 17 from rfl)] <;> rfl) ⟨hgz, zR, .slice none 0 0, .slice none 0 0, .slice none 0 0, .slice none 0 0, .slice none 0 0, .slice none 0 0, by rw [hF]; rfl, ⟨Row_.nil _, Row_.nil _, Row_.nil _, Row_.nil _, Row_.nil _, Row_.nil _⟩, by rw [hF]⟩
      · have hne : checkF Q = 0 := by simpa using h127
        have hF : getR b = (Q, 0) := by rw [hgetR, if_neg (by simpa using hec0), if_pos hne]
        refine AWP.skip ?_
        have fs : stV Q3 M.next 0 17 (.agg (repC Q u9 u3 u4 u5 u6 u8).toArray) = some (Q3.put M.next ⟨repC Q u9 u3 u4 u5 u6 u8, 29, true⟩) := st_all (n := 17) hz13 rfl rfl rfl (hone _ _ _ (one_sl hsn) (one_sl hsp))
        refine AWP.stepR [2, 3] fun K hK => ?_
        simp only [go_sem, Nat.reduceEqDiff, Nat.reduceLT, Nat.reduceAdd, Nat.reduceMul, Nat.reduceSub, Nat.add_zero, Nat.zero_add, Int.reduceEq, Int.reduceLT, ld_29, hr3.lda (repC_len ..), st_29, fs]
        refine hK _ _ _ (by simp only [go_sem, Nat.reduceEqDiff, Nat.reduceLT, Nat.reduceAdd, Nat.reduceMul, Nat.reduceSub, Nat.add_zero, Nat.zero_add, Int.reduceEq, Int.reduceLT]; rfl) ?_; clear hK
        obtain ⟨hgz, hhz⟩ := mk_put g13 (Nat.le_refl _) hz13.2 ⟨repC Q u9 u3 u4 u5 u6 u8, 29, true⟩
        have hO : ∀ {v n cells e}, Own (baseN M2.next) P9 v n cells e → Row_ (Q3.put M.next ⟨repC Q u9 u3 u4 u5 u6 u8, 29, true⟩) v n cells := fun h => ((h.grew gP13).put (show M.next < (baseN M2.next).next from (by show M.next < M2.next; omega)) _).row
        refine AWP.ret (?_)
        refine Fin.keep (v := .tuple #[.agg (repC Q u9 u3 u4 u5 u6 u8).toArray, .int .i64 0]) (.inr rfl) (by simp only [go_sem, Nat.reduceEqDiff, Nat.reduceLT, Nat.reduceAdd, Nat.reduceMul, Nat.reduceSub, Nat.add_zero, Nat.zero_add, Int.reduceEq, Int.reduceLT, retV, resV, ld_29, hhz.lda (repC_len ..)] <;> rfl) ⟨hgz, Q, u9, u3, u4, u5, u6, u8, by rw [hF], hmk _ (hu9.row.grew hgz) (hu3.row.grew hgz) (hu4.row.grew hgz) (hO hu5) (hO hu6) (hO hu8), by rw [hF]⟩
end Go.Proofs.Ythheaehpnleiaaa.AX

/- The same answer twice is told to be the same. -/
namespace Go.Proofs.Ythheaehpnleiaaa.AX
open Go Go.Proofs
set_option maxRecDepth 100000
set_option linter.unusedVariables false
set_option linter.unusedSimpArgs false

theorem box2g (M : Mem) (a b : List Value) (e f : TypeId) : ∃ M1, ((M.bump 2).put M.next ⟨a, e, true⟩).put (M.next + 1) ⟨b, f, true⟩ = M1 ∧ Grew M M1 ∧ Has M1 M.next ⟨a, e, true⟩ ∧ Has M1 (M.next + 1) ⟨b, f, true⟩ ∧ M1.next = M.next + 2 := by
  have hlt1 : M.next < (M.bump 2).next := by rw [Mem.next_bump]; omega
  have hlt2 : M.next + 1 < (M.bump 2).next := by rw [Mem.next_bump]; omega
  obtain ⟨hg1, hh1⟩ := mk_put ((Grew.refl M).bump 2) (Nat.le_refl _) hlt1 ⟨a, e, true⟩
  obtain ⟨hg2, hh2⟩ := mk_put hg1 (show M.next ≤ M.next + 1 by omega) (show M.next + 1 < ((M.bump 2).put M.next ⟨a, e, true⟩).next from hlt2) ⟨b, f, true⟩
  exact ⟨_, rfl, hg2, hh1.put' (show M.next ≠ M.next + 1 by omega) _, hh2, rfl⟩
theorem sameT98_spec (v w : Value) (l : List ByteArray) (M : Mem) (hok : Ok M) (hv : Row_ M v l.length (l.map .string)) (hw : Row_ M w l.length (l.map .string)) (hl : l.length ≤ 1000000) :
    ∃ r M', ACall Try.prog 98 #[v, w] M r M' ∧ r = .bool true ∧ M' = M := by
  refine ACall.fin (args := [v, w]) (k := 26) (rs := [.tmp 4]) Try.func98 rfl rfl rfl (Nat.le_of_ble_eq_true rfl) ?_
  refine AWP.stepR [0, 1] fun K hK => ?_
  simp only [go_sem, Nat.reduceEqDiff, Nat.reduceLT, Nat.reduceAdd, Nat.reduceMul, Nat.reduceSub, Nat.add_zero, Nat.zero_add, Int.reduceEq, Int.reduceLT]
  refine hK _ _ _ (by simp only [go_sem, Nat.reduceEqDiff, Nat.reduceLT, Nat.reduceAdd, Nat.reduceMul, Nat.reduceSub, Nat.add_zero, Nat.zero_add, Int.reduceEq, Int.reduceLT]; rfl) ?_; clear hK
  refine AWP.seq ?_
  refine AWP.stepR [0, 1, 10] fun K hK => ?_
  simp only [go_sem, Nat.reduceEqDiff, Nat.reduceLT, Nat.reduceAdd, Nat.reduceMul, Nat.reduceSub, Nat.add_zero, Nat.zero_add, Int.reduceEq, Int.reduceLT, hv.len es_24, hw.len es_24]
  refine hK _ _ _ (by simp only [go_sem, Nat.reduceEqDiff, Nat.reduceLT, Nat.reduceAdd, Nat.reduceMul, Nat.reduceSub, Nat.add_zero, Nat.zero_add, Int.reduceEq, Int.reduceLT]; rfl) ?_; clear hK
  refine AWP.cond_split rfl (fun h10 => ?_) fun h10 => ?_
  · simp at h10
  · refine AWP.skip ?_
    refine AWP.seq ?_
    refine AWP.stepR [0, 1, 5] fun K hK => ?_
    simp only [go_sem, Nat.reduceEqDiff, Nat.reduceLT, Nat.reduceAdd, Nat.reduceMul, Nat.reduceSub, Nat.add_zero, Nat.zero_add, Int.reduceEq, Int.reduceLT]
    refine hK _ _ _ (by simp only [go_sem, Nat.reduceEqDiff, Nat.reduceLT, Nat.reduceAdd, Nat.reduceMul, Nat.reduceSub, Nat.add_zero, Nat.zero_add, Int.reduceEq, Int.reduceLT]; rfl) ?_; clear hK
    refine AWP.block ?_ -- b0
    refine AWP.loopK [0, 1, 5] (fun n e M0 => M0 = M ∧ n ≤ l.length ∧ e = [(0, v), (1, w), (5, .int .i64 ((l.length - n : Nat) : Int))]) l.length ?_ fun n e M0 hI => ?_ -- LOOP
    · simp only [go_sem, Nat.reduceEqDiff, Nat.reduceLT, Nat.reduceAdd, Nat.reduceMul, Nat.reduceSub, Nat.add_zero, Nat.zero_add, Int.reduceEq, Int.reduceLT, true_and, Nat.le_refl]
      simp
    obtain ⟨rfl, hn, rfl⟩ := hI
    refine AWP.seq ?_
    refine AWP.stepR [0, 1, 5, 14] fun K hK => ?_
    simp only [go_sem, Nat.reduceEqDiff, Nat.reduceLT, Nat.reduceAdd, Nat.reduceMul, Nat.reduceSub, Nat.add_zero, Nat.zero_add, Int.reduceEq, Int.reduceLT, hv.len es_24]
    refine hK _ _ _ (by simp only [go_sem, Nat.reduceEqDiff, Nat.reduceLT, Nat.reduceAdd, Nat.reduceMul, Nat.reduceSub, Nat.add_zero, Nat.zero_add, Int.reduceEq, Int.reduceLT]; rfl) ?_; clear hK
    refine AWP.cond_split rfl (fun h14 => ?_) fun h14 => ?_
    · have hlt : l.length - n < l.length := by simpa using h14
      obtain ⟨b, q, ha, hd⟩ := hv.at1 (by simp) es_24 hlt
      have hd := hd M0 (Grew.refl _)
      rw [show (l.map Value.string)[l.length - n]? = some (.string l[l.length - n]) by simp [hlt]] at hd
      obtain ⟨b', q', ha', hd'⟩ := hw.at1 (by simp) es_24 hlt
      have hd' := hd' M0 (Grew.refl _)
      rw [show (l.map Value.string)[l.length - n]? = some (.string l[l.length - n]) by simp [hlt]] at hd'
      generalize l[l.length - n] = x at hd hd'
      refine AWP.skip ?_
      refine AWP.seq ?_
      refine AWP.block ?_ -- b1
      refine AWP.stepD hmo [0, 1, 2, 3, 4, 5, 6, 7, 8] [0, 0, 3, 7, 0, 0, 48, 112, 255] [] [] (by kernel_rfl) [0, 1, 5, 25] fun K hK => ?_
      simp only [go_sem, Nat.reduceEqDiff, Nat.reduceLT, Nat.reduceAdd, Nat.reduceMul, Nat.reduceSub, Nat.add_zero, Nat.zero_add, Int.reduceEq, Int.reduceLT, ha, ha', hd, hd', ld_9]
      refine hK _ _ _ (by simp only [go_sem, Nat.reduceEqDiff, Nat.reduceLT, Nat.reduceAdd, Nat.reduceMul, Nat.reduceSub, Nat.add_zero, Nat.zero_add, Int.reduceEq, Int.reduceLT]; rfl) ?_; clear hK
      refine AWP.cond_split rfl (fun h25 => ?_) fun h25 => ?_
      · simp at h25
      · refine AWP.skip ?_
        refine AWP.lastR fun K hK => ?_
        simp only [go_sem, Nat.reduceEqDiff, Nat.reduceLT, Nat.reduceAdd, Nat.reduceMul, Nat.reduceSub, Nat.add_zero, Nat.zero_add, Int.reduceEq, Int.reduceLT]
        refine hK _ _ ?_; clear hK
        refine ⟨n - 1, by omega, rfl, by omega, ?_⟩ -- ROUND
        simp only [go_sem, Nat.reduceEqDiff, Nat.reduceLT, Nat.reduceAdd, Nat.reduceMul, Nat.reduceSub, Nat.add_zero, Nat.zero_add, Int.reduceEq, Int.reduceLT]
        rw [i64w (by omega) (by omega), show ((l.length - n : Nat) : Int) + 1 = ((l.length - (n - 1) : Nat) : Int) by omega]
    · refine AWP.exit (Then.exit (Then.exit (InBlock.same ?_)))
      refine AWP.stepR [4] fun K hK => ?_
      simp only [go_sem, Nat.reduceEqDiff, Nat.reduceLT, Nat.reduceAdd, Nat.reduceMul, Nat.reduceSub, Nat.add_zero, Nat.zero_add, Int.reduceEq, Int.reduceLT]
      refine hK _ _ _ (by simp only [go_sem, Nat.reduceEqDiff, Nat.reduceLT, Nat.reduceAdd, Nat.reduceMul, Nat.reduceSub, Nat.add_zero, Nat.zero_add, Int.reduceEq, Int.reduceLT]; rfl) ?_; clear hK
      refine AWP.ret (?_)
      exact Fin.plain (.inr rfl) rfl rfl hok (Grew.refl _) ⟨rfl, rfl⟩

theorem eqFl_same {P : Program} {xs : Array Value} : ∀ fs : List Field, (∀ f ∈ fs, ∃ v, partV P f.type xs f.offset = some v ∧ eqS P f.type v v = some true) → eqFl P xs xs fs = some true := by
  intro fs
  induction fs with
  | nil => intro _; rfl
  | cons f fs ih =>
    intro h
    obtain ⟨v, h1, h2⟩ := h f (List.mem_cons_self ..)
    have h3 := ih fun g hg => h g (List.mem_cons_of_mem _ hg)
    unfold eqFl
    simp only [h1, h2, h3, ite_self]
theorem eqS_9 (s : ByteArray) : eqS Try.prog 9 (.string s) (.string s) = some true := by
  show some (s.toList == s.toList) = some true; simp
theorem eqS_3 (n : Int) : eqS Try.prog 3 (.int .i64 n) (.int .i64 n) = some true := by
  show (if IntKind.i64 = IntKind.i64 then some (n == n) else none) = some true; simp
theorem eqS_4 (n : Bool) : eqS Try.prog 4 (.bool n) (.bool n) = some true := by
  show some (n == n) = some true; simp
theorem shw_ne (x : Shw) : binV Try.prog .neq 63 (.agg (shwC x).toArray) (.agg (shwC x).toArray) = some (.bool false) := by
  obtain ⟨fs, hfs, hall⟩ : ∃ fs : Array Field, Try.prog.underlying 63 = some (.struct fs) ∧ ∀ f ∈ fs.toList, ∃ v, partV Try.prog f.type (shwC x).toArray f.offset = some v ∧ eqS Try.prog f.type v v = some true := by
    refine ⟨_, Try.underlying63, fun f hf => ?_⟩
    simp only [List.mem_cons, List.not_mem_nil, or_false] at hf
    rcases hf with rfl | rfl | rfl | rfl | rfl
    · exact ⟨.string x.name, by kernel_rfl, eqS_9 _⟩
    · exact ⟨.int .i64 x.id, by kernel_rfl, eqS_3 _⟩
    · exact ⟨.int .i64 x.size, by kernel_rfl, eqS_3 _⟩
    · exact ⟨.bool x.marker, by kernel_rfl, eqS_4 _⟩
    · exact ⟨.bool x.latest, by kernel_rfl, eqS_4 _⟩
  have h : eqV Try.prog 63 (.agg (shwC x).toArray) (.agg (shwC x).toArray) = some true := by
    simp only [eqV, hfs]
    rw [if_pos ⟨by kernel_rfl, by kernel_rfl⟩]
    exact eqFl_same _ hall
  simp only [binV, h, Option.map_some, Bool.not_true]
theorem sameS65_spec (v w : Value) (l : List Shw) (M : Mem) (hok : Ok M) (hv : Row_ M v l.length (l.flatMap shwC)) (hw : Row_ M w l.length (l.flatMap shwC)) (hl : l.length ≤ 1000000) :
    ∃ r M', ACall Try.prog 65 #[v, w] M r M' ∧ r = .bool true ∧ M' = M := by
  refine ACall.fin (args := [v, w]) (k := 26) (rs := [.tmp 4]) Try.func65 rfl rfl rfl (Nat.le_of_ble_eq_true rfl) ?_
  refine AWP.stepR [0, 1] fun K hK => ?_
  simp only [go_sem, Nat.reduceEqDiff, Nat.reduceLT, Nat.reduceAdd, Nat.reduceMul, Nat.reduceSub, Nat.add_zero, Nat.zero_add, Int.reduceEq, Int.reduceLT]
  refine hK _ _ _ (by simp only [go_sem, Nat.reduceEqDiff, Nat.reduceLT, Nat.reduceAdd, Nat.reduceMul, Nat.reduceSub, Nat.add_zero, Nat.zero_add, Int.reduceEq, Int.reduceLT]; rfl) ?_; clear hK
  refine AWP.seq ?_
  refine AWP.stepR [0, 1, 10] fun K hK => ?_
  simp only [go_sem, Nat.reduceEqDiff, Nat.reduceLT, Nat.reduceAdd, Nat.reduceMul, Nat.reduceSub, Nat.add_zero, Nat.zero_add, Int.reduceEq, Int.reduceLT, hv.len es_27, hw.len es_27]
  refine hK _ _ _ (by simp only [go_sem, Nat.reduceEqDiff, Nat.reduceLT, Nat.reduceAdd, Nat.reduceMul, Nat.reduceSub, Nat.add_zero, Nat.zero_add, Int.reduceEq, Int.reduceLT]; rfl) ?_; clear hK
  refine AWP.cond_split rfl (fun h10 => ?_) fun h10 => ?_
  · simp at h10
  · refine AWP.skip ?_
    refine AWP.seq ?_
    refine AWP.stepR [0, 1, 5] fun K hK => ?_
    simp only [go_sem, Nat.reduceEqDiff, Nat.reduceLT, Nat.reduceAdd, Nat.reduceMul, Nat.reduceSub, Nat.add_zero, Nat.zero_add, Int.reduceEq, Int.reduceLT]
    refine hK _ _ _ (by simp only [go_sem, Nat.reduceEqDiff, Nat.reduceLT, Nat.reduceAdd, Nat.reduceMul, Nat.reduceSub, Nat.add_zero, Nat.zero_add, Int.reduceEq, Int.reduceLT]; rfl) ?_; clear hK
    refine AWP.block ?_ -- b0
    refine AWP.loopK [0, 1, 5] (fun n e M0 => M0 = M ∧ n ≤ l.length ∧ e = [(0, v), (1, w), (5, .int .i64 ((l.length - n : Nat) : Int))]) l.length ?_ fun n e M0 hI => ?_ -- LOOP
    · simp only [go_sem, Nat.reduceEqDiff, Nat.reduceLT, Nat.reduceAdd, Nat.reduceMul, Nat.reduceSub, Nat.add_zero, Nat.zero_add, Int.reduceEq, Int.reduceLT, true_and, Nat.le_refl]
      simp
    obtain ⟨rfl, hn, rfl⟩ := hI
    refine AWP.seq ?_
    refine AWP.stepR [0, 1, 5, 14] fun K hK => ?_
    simp only [go_sem, Nat.reduceEqDiff, Nat.reduceLT, Nat.reduceAdd, Nat.reduceMul, Nat.reduceSub, Nat.add_zero, Nat.zero_add, Int.reduceEq, Int.reduceLT, hv.len es_27]
    refine hK _ _ _ (by simp only [go_sem, Nat.reduceEqDiff, Nat.reduceLT, Nat.reduceAdd, Nat.reduceMul, Nat.reduceSub, Nat.add_zero, Nat.zero_add, Int.reduceEq, Int.reduceLT]; rfl) ?_; clear hK
    refine AWP.cond_split rfl (fun h14 => ?_) fun h14 => ?_
    · have hlt : l.length - n < l.length := by simpa using h14
      obtain ⟨b, q, ha, hd⟩ := hv.at (flatMap_len shwC_len _) es_27 hlt
      have hd := (hd M0 (Grew.refl _)).2
      rw [flatMap_at shwC_len _ _ hlt] at hd
      obtain ⟨b', q', ha', hd'⟩ := hw.at (flatMap_len shwC_len _) es_27 hlt
      have hd' := (hd' M0 (Grew.refl _)).2
      rw [flatMap_at shwC_len _ _ hlt] at hd'
      generalize l[l.length - n] = x at hd hd'
      have hne := shw_ne x
      refine AWP.skip ?_
      refine AWP.seq ?_
      refine AWP.block ?_ -- b1
      refine AWP.stepD hmo [0, 1, 2, 3, 4, 5, 6, 7, 8] [0, 0, 3, 7, 0, 0, 48, 112, 255] [] [] (by kernel_rfl) [0, 1, 5, 25] fun K hK => ?_
      simp only [go_sem, Nat.reduceEqDiff, Nat.reduceLT, Nat.reduceAdd, Nat.reduceMul, Nat.reduceSub, Nat.add_zero, Nat.zero_add, Int.reduceEq, Int.reduceLT, ha, ha', hd, hd', ld_63, hne]
      refine hK _ _ _ (by simp only [go_sem, Nat.reduceEqDiff, Nat.reduceLT, Nat.reduceAdd, Nat.reduceMul, Nat.reduceSub, Nat.add_zero, Nat.zero_add, Int.reduceEq, Int.reduceLT]; rfl) ?_; clear hK
      refine AWP.cond_split rfl (fun h25 => ?_) fun h25 => ?_
      · simp at h25
      · refine AWP.skip ?_
        refine AWP.lastR fun K hK => ?_
        simp only [go_sem, Nat.reduceEqDiff, Nat.reduceLT, Nat.reduceAdd, Nat.reduceMul, Nat.reduceSub, Nat.add_zero, Nat.zero_add, Int.reduceEq, Int.reduceLT]
        refine hK _ _ ?_; clear hK
        refine ⟨n - 1, by omega, rfl, by omega, ?_⟩ -- ROUND
        simp only [go_sem, Nat.reduceEqDiff, Nat.reduceLT, Nat.reduceAdd, Nat.reduceMul, Nat.reduceSub, Nat.add_zero, Nat.zero_add, Int.reduceEq, Int.reduceLT]
        rw [i64w (by omega) (by omega), show ((l.length - n : Nat) : Int) + 1 = ((l.length - (n - 1) : Nat) : Int) by omega]
    · refine AWP.exit (Then.exit (Then.exit (InBlock.same ?_)))
      refine AWP.stepR [4] fun K hK => ?_
      simp only [go_sem, Nat.reduceEqDiff, Nat.reduceLT, Nat.reduceAdd, Nat.reduceMul, Nat.reduceSub, Nat.add_zero, Nat.zero_add, Int.reduceEq, Int.reduceLT]
      refine hK _ _ _ (by simp only [go_sem, Nat.reduceEqDiff, Nat.reduceLT, Nat.reduceAdd, Nat.reduceMul, Nat.reduceSub, Nat.add_zero, Nat.zero_add, Int.reduceEq, Int.reduceLT]; rfl) ?_; clear hK
      refine AWP.ret (?_)
      exact Fin.plain (.inr rfl) rfl rfl hok (Grew.refl _) ⟨rfl, rfl⟩

theorem bq_4b (a b : Bool) : binV Try.prog .eql 4 (.bool a) (.bool b) = some (.bool (a == b)) := rfl
theorem bnq_4b (a b : Bool) : binV Try.prog .neq 4 (.bool a) (.bool b) = some (.bool (!(a == b))) := rfl
theorem beqB (b : Bool) : (b == b) = true := by cases b <;> rfl
theorem bne_i (n : Int) : (n != n) = false := by simp
theorem bseq (s : ByteArray) : (s.toList == s.toList) = true := by simp
/-- a listing's cells -/
def lsC (vn vp : Value) (x : ByteArray) (m : Bool) : List Value := [vn, vp, .string x, .bool m]
theorem same64_spec (vn vp wn wp : Value) (x : ByteArray) (m : Bool) (n p : List ByteArray) (M : Mem) (hok : Ok M) (h1 : Row_ M vn n.length (n.map .string)) (h2 : Row_ M vp p.length (p.map .string)) (h3 : Row_ M wn n.length (n.map .string)) (h4 : Row_ M wp p.length (p.map .string)) (hn : n.length ≤ 1000000) (hp : p.length ≤ 1000000) :
    ∃ r M', ACall Try.prog 64 #[.agg (lsC vn vp x m).toArray, .agg (lsC wn wp x m).toArray] M r M' ∧ r = .bool true ∧ M' = M := by
  refine ACall.fin (args := [.agg (lsC vn vp x m).toArray, .agg (lsC wn wp x m).toArray]) (k := 31) (rs := [.tmp 4]) Try.func64 rfl rfl rfl (Nat.le_of_ble_eq_true rfl) ?_
  refine AWP.stepR [2, 3] fun K hK => ?_
  simp only [go_sem, Nat.reduceEqDiff, Nat.reduceLT, Nat.reduceAdd, Nat.reduceMul, Nat.reduceSub, Nat.add_zero, Nat.zero_add, Int.reduceEq, Int.reduceLT]
  refine hK _ _ _ (by simp only [go_sem, Nat.reduceEqDiff, Nat.reduceLT, Nat.reduceAdd, Nat.reduceMul, Nat.reduceSub, Nat.add_zero, Nat.zero_add, Int.reduceEq, Int.reduceLT]; rfl) ?_; clear hK
  obtain ⟨M1, hM1, hg1, hh1, hh2, hn1⟩ := box2g M (lsC vn vp x m) (lsC wn wp x m) 26 26
  change AWP _ _ _ ⟨_, ((M.bump 2).put M.next ⟨lsC vn vp x m, 26, true⟩).put (M.next + 1) ⟨lsC wn wp x m, 26, true⟩⟩ _
  rw [hM1]
  obtain ⟨ra, Ma, hca, hra, hMa⟩ := sameT98_spec vn wn n M1 (hg1.ok hok) (h1.grew hg1) (h3.grew hg1) hn
  rw [hra, hMa] at hca
  obtain ⟨rb, Mb, hcb, hrb, hMb⟩ := sameT98_spec vp wp p M1 (hg1.ok hok) (h2.grew hg1) (h4.grew hg1) hp
  rw [hrb, hMb] at hcb
  refine AWP.stepR [4] fun K hK => ?_
  simp only [go_sem, Nat.reduceEqDiff, Nat.reduceLT, Nat.reduceAdd, Nat.reduceMul, Nat.reduceSub, Nat.add_zero, Nat.zero_add, Int.reduceEq, Int.reduceLT, ld_24, hh1.ld, hh2.ld, lsC]
  refine ⟨_, _, hca, ?_⟩
  try simp only [go_sem, Nat.reduceEqDiff, Nat.reduceLT, Nat.reduceAdd, Nat.reduceMul, Nat.reduceSub, Nat.add_zero, Nat.zero_add, Int.reduceEq, Int.reduceLT, ld_24, hh1.ld, hh2.ld, lsC]
  refine ⟨_, _, hcb, ?_⟩
  try simp only [go_sem, Nat.reduceEqDiff, Nat.reduceLT, Nat.reduceAdd, Nat.reduceMul, Nat.reduceSub, Nat.add_zero, Nat.zero_add, Int.reduceEq, Int.reduceLT, ld_9, ld_4, hh1.ld, hh2.ld, lsC, bq_4b, beqB, bseq]
  refine hK _ _ _ (by simp only [go_sem, Nat.reduceEqDiff, Nat.reduceLT, Nat.reduceAdd, Nat.reduceMul, Nat.reduceSub, Nat.add_zero, Nat.zero_add, Int.reduceEq, Int.reduceLT]; rfl) ?_; clear hK
  refine AWP.ret (?_)
  exact Fin.plain (.inr rfl) rfl rfl hok hg1 ⟨rfl, rfl⟩

theorem ldA_sub {M : Mem} {i o n : Nat} {blk : Blk} (h : Has M i blk) (hl : o + n ≤ blk.cells.length) : ldA M.get i o n = some (.agg ((blk.cells.drop o).take n).toArray) := by
  rw [ldA_at h.1, if_pos hl]
theorem same19_spec (q : Rep) (vb vm vt vn vp vs wb wm wt wn wp ws : Value) (M : Mem) (hok : Ok M) (h : RepR M q vb vm vt vn vp vs) (h' : RepR M q wb wm wt wn wp ws) (hb : q.body.length ≤ 1000000) (hm : q.meta_.length ≤ 1000000) (ht : q.tags.length ≤ 1000000) (hn : q.names.length ≤ 1000000) (hp : q.prefixes.length ≤ 1000000) (hs : q.shown.length ≤ 1000000) :
    ∃ r M', ACall Try.prog 19 #[.agg (repC q vb vm vt vn vp vs).toArray, .agg (repC q wb wm wt wn wp ws).toArray] M r M' ∧ r = .bool true ∧ M' = M := by
  refine ACall.fin (args := [.agg (repC q vb vm vt vn vp vs).toArray, .agg (repC q wb wm wt wn wp ws).toArray]) (k := 99) (rs := [.tmp 4]) Try.func19 rfl rfl rfl (Nat.le_of_ble_eq_true rfl) ?_
  refine AWP.stepR [2, 3] fun K hK => ?_
  simp only [go_sem, Nat.reduceEqDiff, Nat.reduceLT, Nat.reduceAdd, Nat.reduceMul, Nat.reduceSub, Nat.add_zero, Nat.zero_add, Int.reduceEq, Int.reduceLT]
  refine hK _ _ _ (by simp only [go_sem, Nat.reduceEqDiff, Nat.reduceLT, Nat.reduceAdd, Nat.reduceMul, Nat.reduceSub, Nat.add_zero, Nat.zero_add, Int.reduceEq, Int.reduceLT]; rfl) ?_; clear hK
  obtain ⟨M1, hM1, hg1, hh1, hh2, hn1⟩ := box2g M (repC q vb vm vt vn vp vs) (repC q wb wm wt wn wp ws) 29 29
  change AWP _ _ _ ⟨_, ((M.bump 2).put M.next ⟨repC q vb vm vt vn vp vs, 29, true⟩).put (M.next + 1) ⟨repC q wb wm wt wn wp ws, 29, true⟩⟩ _
  rw [hM1]
  have ok1 := hg1.ok hok
  have call : ∀ (v w : Value) (l : List Int), RowB M v l → RowB M w l → l.length ≤ 1000000 → ACall Try.prog 14 #[v, w] M1 (.bool true) M1 := fun v w l hv hw hl => by
    obtain ⟨r, M', hc, hr, hM⟩ := same14_spec v w l l M1 ok1 (hv.grew hg1) (hw.grew hg1) (by omega)
    rw [hr, hM] at hc
    simpa using hc
  have cb := call vb wb q.body h.body h'.body hb
  have cm := call vm wm q.meta_ h.meta_ h'.meta_ hm
  have ct := call vt wt q.tags h.tags h'.tags ht
  obtain ⟨rl, Ml, cl, hrl, hMl⟩ := same64_spec vn vp wn wp q.next q.more q.names q.prefixes M1 ok1 (h.names.grew hg1) (h.prefixes.grew hg1) (h'.names.grew hg1) (h'.prefixes.grew hg1) hn hp
  rw [hrl, hMl] at cl
  obtain ⟨rs, Ms, cs, hrs, hMs⟩ := sameS65_spec vs ws q.shown M1 ok1 (h.shown.grew hg1) (h'.shown.grew hg1) hs
  rw [hrs, hMs] at cs
  have l1 : ldA M1.get M.next 9 4 = some (.agg #[vn, vp, .string q.next, .bool q.more]) := by
    rw [ldA_sub hh1 (by rw [repC_len]; decide)]; rfl
  have l2 : ldA M1.get (M.next + 1) 9 4 = some (.agg #[wn, wp, .string q.next, .bool q.more]) := by
    rw [ldA_sub hh2 (by rw [repC_len]; decide)]; rfl
  refine AWP.seq ?_
  refine AWP.stepR [2, 3, 65] fun K hK => ?_
  simp -implicitDefEqProofs only [go_sem, Nat.reduceEqDiff, Nat.reduceLT, Nat.reduceAdd, Nat.reduceMul, Nat.reduceSub, Nat.add_zero, Nat.zero_add, Int.reduceEq, Int.reduceLT, ld_22, ld_3, ld_4, hh1.ld, hh2.ld, repC, bnq_4b, beqB, bne_i, Bool.not_true]
  refine hK _ _ _ (by simp only [go_sem, Nat.reduceEqDiff, Nat.reduceLT, Nat.reduceAdd, Nat.reduceMul, Nat.reduceSub, Nat.add_zero, Nat.zero_add, Int.reduceEq, Int.reduceLT]; rfl) ?_; clear hK
  refine AWP.cond_split rfl (fun h65 => ?_) fun h65 => ?_
  · cases h65
  · refine AWP.skip ?_
    refine AWP.stepR [4] fun K hK => ?_
    simp -implicitDefEqProofs only [go_sem, Nat.reduceEqDiff, Nat.reduceLT, Nat.reduceAdd, Nat.reduceMul, Nat.reduceSub, Nat.add_zero, Nat.zero_add, Int.reduceEq, Int.reduceLT, ld_23, hh1.ld, hh2.ld, repC]
    refine ⟨_, _, cb, ?_⟩
    try simp -implicitDefEqProofs only [go_sem, Nat.reduceEqDiff, Nat.reduceLT, Nat.reduceAdd, Nat.reduceMul, Nat.reduceSub, Nat.add_zero, Nat.zero_add, Int.reduceEq, Int.reduceLT, ld_23, hh1.ld, hh2.ld, repC]
    refine ⟨_, _, cm, ?_⟩
    try simp -implicitDefEqProofs only [go_sem, Nat.reduceEqDiff, Nat.reduceLT, Nat.reduceAdd, Nat.reduceMul, Nat.reduceSub, Nat.add_zero, Nat.zero_add, Int.reduceEq, Int.reduceLT, ld_23, hh1.ld, hh2.ld, repC]
    refine ⟨_, _, ct, ?_⟩
    try simp -implicitDefEqProofs only [go_sem, Nat.reduceEqDiff, Nat.reduceLT, Nat.reduceAdd, Nat.reduceMul, Nat.reduceSub, Nat.add_zero, Nat.zero_add, Int.reduceEq, Int.reduceLT, ld_26, l1, l2]
    refine ⟨_, _, cl, ?_⟩
    try simp -implicitDefEqProofs only [go_sem, Nat.reduceEqDiff, Nat.reduceLT, Nat.reduceAdd, Nat.reduceMul, Nat.reduceSub, Nat.add_zero, Nat.zero_add, Int.reduceEq, Int.reduceLT, ld_27, hh1.ld, hh2.ld, repC]
    refine ⟨_, _, cs, ?_⟩
    refine hK _ _ _ (by simp only [go_sem, Nat.reduceEqDiff, Nat.reduceLT, Nat.reduceAdd, Nat.reduceMul, Nat.reduceSub, Nat.add_zero, Nat.zero_add, Int.reduceEq, Int.reduceLT]; rfl) ?_; clear hK
    refine AWP.ret (?_)
    exact Fin.plain (.inr rfl) rfl rfl hok hg1 ⟨rfl, rfl⟩
end Go.Proofs.Ythheaehpnleiaaa.AX

/- Answers there and back, in plain words: no program in sight. -/
namespace Go.Proofs.Ythheaehpnleiaaa.AX
open Go Go.Proofs
set_option maxRecDepth 4000
set_option linter.unusedVariables false
set_option linter.unusedSimpArgs false

theorem sB_strOf {l : List Int} (h : BytB l) : sB (strOf l) = l := by
  unfold strOf sB
  simp only [List.map_map]
  have : ∀ x ∈ l, ((fun b : UInt8 => (b.toNat : Int)) ∘ fun n : Int => UInt8.ofNat n.toNat) x = x := fun x hx => by
    have := h x hx
    simp only [Function.comp_apply, UInt8.toNat_ofNat']
    omega
  rw [List.map_congr_left this]; simp
theorem flag2_bits (n : Int) (h : 0 ≤ n) (h' : n < 4) : flagF [bitF n 0, bitF n 1] 2 = n := by
  have : n = 0 ∨ n = 1 ∨ n = 2 ∨ n = 3 := by omega
  rcases this with rfl | rfl | rfl | rfl <;> decide
theorem flag3_bits (n : Int) (h : 0 ≤ n) (h' : n < 8) : flagF [bitF n 0, bitF n 1, bitF n 2] 3 = n := by
  have : n = 0 ∨ n = 1 ∨ n = 2 ∨ n = 3 ∨ n = 4 ∨ n = 5 ∨ n = 6 ∨ n = 7 := by omega
  rcases this with rfl | rfl | rfl | rfl | rfl | rfl | rfl | rfl <;> decide
theorem texts_form (l : List ByteArray) : textsF l l.length = putB (l.map sB).length 4 ++ ((l.map sB).map longB).flatten := by
  rw [textsF, List.take_length, List.length_map, List.map_map]; rfl
end Go.Proofs.Ythheaehpnleiaaa.AX

/- Answers back and there, in plain words: no program in sight. -/
namespace Go.Proofs.Ythheaehpnleiaaa.AX
open Go Go.Proofs
set_option maxRecDepth 4000
set_option linter.unusedVariables false
set_option linter.unusedSimpArgs false

theorem failS_code {s : Rs} {c : Int} (hc : c ≠ 0) : (failS s c).code ≠ 0 := by
  unfold failS
  split
  · exact hc
  · assumption
theorem endS_zero {s : Rs} (h : (endS s).code = 0) : s.code = 0 ∧ s.b = [] := by
  unfold endS at h
  split at h
  · exact absurd h (failS_code (by decide))
  · rename_i h2
    exact ⟨h, List.eq_nil_of_length_eq_zero (by omega)⟩
theorem flagsS_out {s : Rs} {t : Int} (hb : BytB s.b) (h : (flagsS s t).1.code = 0) : s.b = (flagsS s t).2 :: (flagsS s t).1.b ∧ 0 ≤ (flagsS s t).2 ∧ (flagsS s t).2 < t ∧ BytB (flagsS s t).1.b := by
  have hr := numS_b1 hb
  unfold flagsS at h ⊢
  split at h
  · exact absurd h (failS_code (by decide))
  · rename_i h2
    rw [if_neg h2]
    obtain ⟨_, e, h3⟩ := numS_out (k := 1) hb h
    have e : s.b = putB (numS s 1).2 1 ++ (numS s 1).1.b := e
    rw [putB_1 _ hr.1 hr.2] at e
    exact ⟨e, hr.1, by omega, h3⟩
theorem countS_out {s : Rs} (hb : BytB s.b) (h : (countS s).1.code = 0) : s.b = putB (countS s).2 4 ++ (countS s).1.b ∧ 0 ≤ (countS s).2 ∧ BytB (countS s).1.b := by
  have hr := numS_b4 hb
  unfold countS at h ⊢
  split at h
  · exact absurd h (failS_code (by decide))
  · rename_i h2
    rw [if_neg h2]
    obtain ⟨_, e, h3⟩ := numS_out (k := 4) hb h
    exact ⟨e, hr.1, h3⟩
theorem textS_out {s : Rs} (hb : BytB s.b) (h : (textS s).1.code = 0) : s.b = longB (textS s).2 ++ (textS s).1.b ∧ BytB (textS s).1.b ∧ BytB (textS s).2 := by
  have hby := textS_bytes hb
  refine ⟨?_, hby⟩
  have hz : (capS (numS s 4)).code = 0 := Classical.byContradiction fun hn => by rw [textS, if_pos hn] at h; exact hn h
  have e1 : capS (numS s 4) = (numS s 4).1 := by
    unfold capS at hz ⊢
    split
    · rename_i h2; rw [if_pos h2] at hz; exact absurd hz (failS_code (by decide))
    · rfl
  rw [textS, e1] at h
  rw [textS, e1]
  rw [e1] at hz
  rw [if_neg (by simpa using hz)] at h ⊢
  obtain ⟨_, e, _⟩ := numS_out (k := 4) hb hz
  have e : s.b = putB (numS s 4).2 4 ++ (numS s 4).1.b := e
  obtain ⟨_, e2, e3⟩ := takeS_out h
  rw [longB, e3, List.append_assoc, ← e2]
  exact e
theorem manyS_out {α : Type} (f : Rs → Rs × α) (B : α → List Int) (hf : ∀ s : Rs, BytB s.b → BytB (f s).1.b) (ho : ∀ s : Rs, BytB s.b → (f s).1.code = 0 → s.b = B (f s).2 ++ (f s).1.b) {s : Rs} (hb : BytB s.b) (h : (manyS f s).1.code = 0) :
    s.b = putB (manyS f s).2.length 4 ++ (((manyS f s).2.map B).flatten ++ (manyS f s).1.b) ∧ BytB (manyS f s).1.b := by
  have h1 : (countS s).1.code = 0 := loopP_code f h
  obtain ⟨e1, e2, e3⟩ := countS_out hb h1
  obtain ⟨g1, g2⟩ := loopP_out f B (fun _ => True) hf (fun s hb hc _ => ho s hb hc) _ _ e3 h fun _ _ => trivial
  refine ⟨?_, loopP_keep f (fun s => BytB s.b) hf _ _ e3⟩
  rw [manyS, g2, ← g1, Int.toNat_of_nonneg e2]
  exact e1
theorem shwS_out {s : Rs} (hb : BytB s.b) (h : (shwS s).1.code = 0) : s.b = shwB (shwS s).2 ++ (shwS s).1.b := by
  have c3 : (numS (numS (textS s).1 6).1 6).1.code = 0 := Classical.byContradiction fun hn => flagsS_bad hn 4 h
  have c2 : (numS (textS s).1 6).1.code = 0 := Classical.byContradiction fun hn => numS_bad hn 6 c3
  have c1 : (textS s).1.code = 0 := Classical.byContradiction fun hn => numS_bad hn 6 c2
  obtain ⟨e1, b1, b1'⟩ := textS_out hb c1
  obtain ⟨_, e2, b2⟩ := numS_out (k := 6) b1 c2
  have e2 : (textS s).1.b = putB (numS (textS s).1 6).2 6 ++ (numS (textS s).1 6).1.b := e2
  have b2 : BytB (numS (textS s).1 6).1.b := b2
  obtain ⟨_, e3, b3⟩ := numS_out (k := 6) b2 c3
  have e3 : (numS (textS s).1 6).1.b = putB (numS (numS (textS s).1 6).1 6).2 6 ++ (numS (numS (textS s).1 6).1 6).1.b := e3
  have b3 : BytB (numS (numS (textS s).1 6).1 6).1.b := b3
  obtain ⟨e4, r1, r2, b4⟩ := flagsS_out b3 h
  simp only [shwB, shwS, sB_strOf b1', flag2_bits _ r1 r2, List.append_assoc, List.cons_append, List.nil_append]
  rw [← e4, ← e3, ← e2, ← e1]
theorem loopP_small {α : Type} (f : Rs → Rs × α) (sz : α → Nat) (hf : ∀ s : Rs, sz (f s).2 ≤ s.b.length ∧ (f s).1.b.length ≤ s.b.length) : ∀ (c : Nat) (s : Rs) (a : α), a ∈ (loopP f c s).2 → sz a ≤ s.b.length := by
  intro c
  induction c with
  | zero => intro s a h; cases h
  | succ c ih =>
    intro s a h
    rw [loopP] at h
    split at h
    · rcases List.mem_cons.1 h with rfl | h
      · exact (hf s).1
      · exact Nat.le_trans (ih _ a h) (hf s).2
    · cases h
theorem manyS_small {α : Type} (f : Rs → Rs × α) (sz : α → Nat) (hf : ∀ s : Rs, sz (f s).2 ≤ s.b.length ∧ (f s).1.b.length ≤ s.b.length) {s : Rs} {a : α} (h : a ∈ (manyS f s).2) : sz a ≤ s.b.length :=
  Nat.le_trans (loopP_small f sz hf _ _ a h) (countS_len s)
theorem manyS_len {α : Type} (f : Rs → Rs × α) {L : Nat} (hf : ∀ s : Rs, (f s).1.b.length ≤ s.b.length) {s : Rs} (h : s.b.length ≤ L) : (manyS f s).1.b.length ≤ L :=
  loopP_keep f (fun s => s.b.length ≤ L) (fun s hs => Nat.le_trans (hf s) hs) _ _ (Nat.le_trans (countS_len s) h)
theorem strOf_size (l : List Int) : (strOf l).size = l.length := by
  show ((l.map fun n => UInt8.ofNat n.toNat).toArray).size = _
  simp

/-- an answer's bytes, once more from what was read -/
theorem replyS_out {s : Rs} (hb : BytB s.b) (h : (replyS s).1.code = 0) (r : List Int) (hr : (replyS s).1.b = r) : [114, 101, 49] ++ s.b = replyB (replyS s).2 ++ r := by
  simp only [replyS] at h hr ⊢
  generalize hs0 : sevS (flagsS s 8).1 7 = s0 at h hr ⊢
  have z1 := h
  have z2 := Classical.byContradiction fun hn => textS_bad hn z1
  have z3 := Classical.byContradiction fun hn => manyS_bad shwS hn z2
  have z4 := Classical.byContradiction fun hn => textS_bad hn z3
  have z5 := Classical.byContradiction fun hn => manyS_bad textS hn z4
  have z6 := Classical.byContradiction fun hn => manyS_bad textS hn z5
  have z7 := Classical.byContradiction fun hn => textS_bad hn z6
  have z8 := Classical.byContradiction fun hn => textS_bad hn z7
  have zs : ∀ k, k ≤ 7 → (sevS (flagsS s 8).1 (7 - k)).code = 0 := fun k => by
    induction k with
    | zero => intro _; rw [Nat.sub_zero, hs0]; exact z8
    | succ k ih =>
      intro hk
      have := ih (by omega)
      rw [show 7 - k = (7 - (k + 1)) + 1 by omega] at this
      exact Classical.byContradiction fun hn => numS_bad hn 6 this
  obtain ⟨e0, r1, r2, b0⟩ := flagsS_out hb (zs 7 (Nat.le_refl _))
  have hs : ∀ k, k < 7 → BytB (sevS (flagsS s 8).1 k).b → (sevS (flagsS s 8).1 k).b = putB (sevN (flagsS s 8).1 k) 6 ++ (sevS (flagsS s 8).1 (k + 1)).b ∧ BytB (sevS (flagsS s 8).1 (k + 1)).b := fun k hk hbk => by
    have hz := zs (7 - (k + 1)) (by omega)
    rw [show 7 - (7 - (k + 1)) = k + 1 by omega] at hz
    obtain ⟨_, e, b'⟩ := numS_out (k := 6) hbk hz
    exact ⟨e, b'⟩
  obtain ⟨i0, j0⟩ := hs 0 (by omega) b0
  obtain ⟨i1, j1⟩ := hs 1 (by omega) j0
  obtain ⟨i2, j2⟩ := hs 2 (by omega) j1
  obtain ⟨i3, j3⟩ := hs 3 (by omega) j2
  obtain ⟨i4, j4⟩ := hs 4 (by omega) j3
  obtain ⟨i5, j5⟩ := hs 5 (by omega) j4
  obtain ⟨i6, j6⟩ := hs 6 (by omega) j5
  rw [hs0] at i6 j6
  have i0 : (flagsS s 8).1.b = _ := i0
  obtain ⟨a1, c1, d1⟩ := textS_out j6 z7
  obtain ⟨a2, c2, d2⟩ := textS_out c1 z6
  obtain ⟨a3, c3⟩ := manyS_out textS longB (fun s h => (textS_bytes h).1) (fun s hb hc => (textS_out hb hc).1) c2 z5
  obtain ⟨a4, c4⟩ := manyS_out textS longB (fun s h => (textS_bytes h).1) (fun s hb hc => (textS_out hb hc).1) c3 z4
  obtain ⟨a5, c5, d5⟩ := textS_out c4 z3
  obtain ⟨a6, c6⟩ := manyS_out shwS shwB (fun s h => shwS_bytes h) (fun s hb hc => shwS_out hb hc) c5 z2
  obtain ⟨a7, c7, d7⟩ := textS_out c6 z1
  rw [hr] at a7
  have hm : ∀ (s : Rs), BytB s.b → ((manyS textS s).2.map strOf).map sB = (manyS textS s).2 := fun s hs => by
    rw [List.map_map]
    have : ∀ x ∈ (manyS textS s).2, (sB ∘ strOf) x = x := fun x hx => sB_strOf (by
      have key : ∀ (c : Nat) (s : Rs), BytB s.b → ∀ x ∈ (loopP textS c s).2, BytB x := fun c => by
        induction c with
        | zero => intro s _ x hx; cases hx
        | succ c ih =>
          intro s hs x hx
          rw [loopP] at hx
          split at hx
          · rcases List.mem_cons.1 hx with rfl | hx
            · exact (textS_bytes hs).2
            · exact ih _ (textS_bytes hs).1 x hx
          · cases hx
      exact key _ _ (countS_bytes hs) x hx)
    rw [List.map_congr_left this, List.map_id']
  rw [replyB, shownF, midB, numsF, headB]
  simp only [texts_form, hm _ c2, hm _ c3, sB_strOf d5, flag3_bits _ r1 r2]
  rw [List.take_length, show ∀ x : Rep, (repN x).take 7 = repN x from fun _ => rfl]
  simp only [repN, List.map_cons, List.map_nil, List.flatten_cons, List.flatten_nil, List.append_nil, List.append_assoc, List.cons_append, List.nil_append]
  rw [← a7, ← a6, ← a5, ← a4, ← a3, ← a2, ← a1, ← i6, ← i5, ← i4, ← i3, ← i2, ← i1, ← i0, ← e0]

theorem lt_of_reply {s : Rs} (hl : s.b.length ≤ 4000) (h2 : (endS (replyS s).1).code = 0) : Lt (replyS s).2 := by
  obtain ⟨w1, w2, w3⟩ := replyS_few hl h2
  simp only [replyS] at w1 w2 w3 ⊢
  have k0 : (flagsS s 8).1.b.length ≤ 4000 := Nat.le_trans (flagsS_len s 8) hl
  have k1 : ∀ k, (sevS (flagsS s 8).1 k).b.length ≤ 4000 := fun k => by
    induction k with
    | zero => exact k0
    | succ k ih => exact Nat.le_trans (numS_len _ 6) ih
  have k1 := k1 7
  generalize sevS (flagsS s 8).1 7 = s0 at k1 w1 w2 w3 ⊢
  have ht := fun s : Rs => textS_len s
  have q1 := ht s0
  have q2 := ht (textS s0).1
  have q3 : (manyS textS (textS (textS s0).1).1).1.b.length ≤ 4000 := manyS_len textS (fun s => (ht s).1) (by omega)
  have q4 : (manyS textS (manyS textS (textS (textS s0).1).1).1).1.b.length ≤ 4000 := manyS_len textS (fun s => (ht s).1) q3
  have q5 := ht (manyS textS (manyS textS (textS (textS s0).1).1).1).1
  have q6 : (manyS shwS (textS (manyS textS (manyS textS (textS (textS s0).1).1).1).1).1).1.b.length ≤ 4000 := manyS_len shwS shwS_len (by omega)
  have q7 := ht (manyS shwS (textS (manyS textS (manyS textS (textS (textS s0).1).1).1).1).1).1
  have p1 := q7.2; have p2 := q1.2; have p3 := q2.2; have p5 := q5.2
  have m1 : ∀ x, x ∈ (manyS textS (textS (textS s0).1).1).2 → x.length ≤ 4000 := fun x hx => by
    have := manyS_small textS List.length (fun s => ⟨(ht s).2, (ht s).1⟩) hx
    omega
  have m2 : ∀ x, x ∈ (manyS textS (manyS textS (textS (textS s0).1).1).1).2 → x.length ≤ 4000 := fun x hx => by
    have := manyS_small textS List.length (fun s => ⟨(ht s).2, (ht s).1⟩) hx
    omega
  have m3 : ∀ x : Shw, x ∈ (manyS shwS (textS (manyS textS (manyS textS (textS (textS s0).1).1).1).1).1).2 → x.name.size ≤ 4000 := fun x hx => by
    have := manyS_small shwS (fun x => x.name.size) (fun s => ⟨by simp only [shwS, strOf_size]; exact (ht s).2, shwS_len s⟩) hx
    omega
  have g1 : (textS (manyS shwS (textS (manyS textS (manyS textS (textS (textS s0).1).1).1).1).1).1).2.length ≤ 10000 := by omega
  have g2 : (textS s0).2.length ≤ 10000 := by omega
  have g3 : (textS (textS s0).1).2.length ≤ 10000 := by omega
  have g5 : (textS (manyS textS (manyS textS (textS (textS s0).1).1).1).1).2.length ≤ 10000 := by omega
  clear q1 q2 q3 q4 q5 q6 q7 p1 p2 p3 p5 k0
  generalize (textS (manyS shwS (textS (manyS textS (manyS textS (textS (textS s0).1).1).1).1).1).1).2 = xb at g1 ⊢
  generalize (manyS shwS (textS (manyS textS (manyS textS (textS (textS s0).1).1).1).1).1).2 = xs at m3 w3 ⊢
  generalize (textS (manyS textS (manyS textS (textS (textS s0).1).1).1).1).2 = xn at g5 ⊢
  generalize (manyS textS (manyS textS (textS (textS s0).1).1).1).2 = xp at m2 w2 ⊢
  generalize (manyS textS (textS (textS s0).1).1).2 = xm at m1 w1 ⊢
  generalize (textS (textS s0).1).2 = xt at g3 ⊢
  generalize (textS s0).2 = xx at g2 ⊢
  refine ⟨g1, g2, g3, w1, w2, by rw [strOf_size]; exact g5, w3, fun x hx => ?_, fun x hx => ?_, fun x hx => Nat.le_trans (m3 x hx) (by decide)⟩
  · obtain ⟨y, hy, rfl⟩ := List.mem_map.1 hx
    rw [strOf_size]; exact Nat.le_trans (m1 y hy) (by decide)
  · obtain ⟨y, hy, rfl⟩ := List.mem_map.1 hx
    rw [strOf_size]; exact Nat.le_trans (m2 y hy) (by decide)

theorem put_getR {b : List Int} (hb : BytB b) (h : (getR b).2 = 0) : checkF (getR b).1 = 0 ∧ replyB (getR b).1 = b ∧ (b.length ≤ 4000 → Lt (getR b).1) := by
  by_cases h1 : (takeS ⟨b, 0⟩ 3).2 = [114, 101, 49]
  · have hg : getR b = if (endS (replyS (takeS ⟨b, 0⟩ 3).1).1).code ≠ 0 then (zR, (endS (replyS (takeS ⟨b, 0⟩ 3).1).1).code) else if checkF (replyS (takeS ⟨b, 0⟩ 3).1).2 = 0 then ((replyS (takeS ⟨b, 0⟩ 3).1).2, 0) else (zR, checkF (replyS (takeS ⟨b, 0⟩ 3).1).2) := by rw [getR, if_pos h1]
    by_cases h2 : (endS (replyS (takeS ⟨b, 0⟩ 3).1).1).code = 0
    · rw [if_neg (by simpa using h2)] at hg
      by_cases h3 : checkF (replyS (takeS ⟨b, 0⟩ 3).1).2 = 0
      · rw [if_pos h3] at hg
        rw [hg]
        obtain ⟨y1, y2⟩ := endS_zero h2
        have t3 : (takeS ⟨b, 0⟩ 3).1.code = 0 := Classical.byContradiction fun hn => by
          have : (replyS (takeS ⟨b, 0⟩ 3).1).1.code ≠ 0 := textS_bad (manyS_bad shwS (textS_bad (manyS_bad textS (manyS_bad textS (textS_bad (textS_bad (by
            have g := flagsS_bad hn 8
            have : ∀ k, (sevS (flagsS (takeS ⟨b, 0⟩ 3).1 8).1 k).code ≠ 0 := fun k => by
              induction k with
              | zero => exact g
              | succ k ih => exact numS_bad ih 6
            exact this 7)))))))
          exact this y1
        obtain ⟨_, e, _⟩ := takeS_out t3
        have hb5 := (takeS_bytes (s := ⟨b, 0⟩) hb 3).1
        have hl := (takeS_len ⟨b, 0⟩ 3).1
        rw [h1] at e
        have e : b = [114, 101, 49] ++ (takeS ⟨b, 0⟩ 3).1.b := e
        have ho := replyS_out hb5 y1 [] y2
        refine ⟨h3, by rw [← e, List.append_nil] at ho; exact ho.symm, fun hlb => ?_⟩
        have hl : (takeS ⟨b, 0⟩ 3).1.b.length ≤ 4000 := Nat.le_trans hl hlb
        exact lt_of_reply hl h2
      · rw [hg, if_neg h3] at h
        dsimp only at h
        exact absurd h h3
    · rw [hg, if_pos h2] at h
      dsimp only at h
      exact absurd h h2
  · rw [getR, if_neg h1] at h
    cases h
end Go.Proofs.Ythheaehpnleiaaa.AX

/- The law's function 'ReplyReads': it answers 'true'. -/
namespace Go.Proofs.Ythheaehpnleiaaa.AX
open Go Go.Proofs
set_option maxRecDepth 100000
set_option linter.unusedVariables false
set_option linter.unusedSimpArgs false

theorem getR_err {b : List Int} (h : (getR b).2 ≠ 0) : (getR b).1 = zR := by
  by_cases h1 : (takeS ⟨b, 0⟩ 3).2 = [114, 101, 49]
  · have hg : getR b = if (endS (replyS (takeS ⟨b, 0⟩ 3).1).1).code ≠ 0 then (zR, (endS (replyS (takeS ⟨b, 0⟩ 3).1).1).code) else if checkF (replyS (takeS ⟨b, 0⟩ 3).1).2 = 0 then ((replyS (takeS ⟨b, 0⟩ 3).1).2, 0) else (zR, checkF (replyS (takeS ⟨b, 0⟩ 3).1).2) := by rw [getR, if_pos h1]
    by_cases h2 : (endS (replyS (takeS ⟨b, 0⟩ 3).1).1).code = 0
    · rw [if_neg (by simpa using h2)] at hg
      by_cases h3 : checkF (replyS (takeS ⟨b, 0⟩ 3).1).2 = 0
      · rw [hg, if_pos h3] at h
        exact absurd rfl h
      · rw [hg, if_neg h3]
    · rw [hg, if_pos h2]
  · rw [getR, if_neg h1]
theorem zR_lt : Lt zR := ⟨by decide, by decide, by decide, by decide, by decide, by decide, by decide, fun s h => (by cases h), fun s h => (by cases h), fun s h => (by cases h)⟩
theorem getR_lt {b : List Int} (hb : BytB b) (hl : b.length ≤ 4000) : Lt (getR b).1 := by
  by_cases h : (getR b).2 = 0
  · exact (put_getR hb h).2.2 hl
  · rw [getR_err h]; exact zR_lt
theorem few_of_len {b : List Int} (hl : b.length ≤ 4000) : (endS (replyS (takeS ⟨b, 0⟩ 3).1).1).code = 0 → (replyS (takeS ⟨b, 0⟩ 3).1).2.names.length ≤ 1000 ∧ (replyS (takeS ⟨b, 0⟩ 3).1).2.prefixes.length ≤ 1000 ∧ (replyS (takeS ⟨b, 0⟩ 3).1).2.shown.length ≤ 1000 :=
  replyS_few (Nat.le_trans (takeS_len ⟨b, 0⟩ 3).1 hl)
theorem RepR.ones {M : Mem} {q : Rep} {vb vm vt vn vp vs : Value} (h : RepR M q vb vm vt vn vp vs) : oneCells (repC q vb vm vt vn vp vs) = true := by
  simp only [oneCells, repC, List.all_cons, List.all_nil, h.body.one, h.meta_.one, h.tags.one, h.names.one, h.prefixes.one, h.shown.one]; rfl

theorem RepR.within {M M1 : Mem} {q : Rep} {vb vm vt vn vp vs : Value} (h : RepR M q vb vm vt vn vp vs) (hw : Within M.get M1.get) (hn : M.next ≤ M1.next) : RepR M1 q vb vm vt vn vp vs :=
  ⟨h.body.within hw hn, h.meta_.within hw hn, h.tags.within hw hn, h.names.within hw hn, h.prefixes.within hw hn, h.shown.within hw hn⟩

theorem law4_spec (v : Value) (b : List Int) (M : Mem) (hok : Ok M) (hv : RowB M v b) (hbk : Byt b) (hE : b = [] ∨ RowE M v b.length (cB b) 5) :
    ∃ r M', ACall Try.prog 4 #[v] M r M' ∧ r = .bool true ∧ M' = M := by
  have hb : BytB b := hbk
  refine ACall.fin (args := [v]) (k := 32) (rs := [.tmp 2]) Try.func4 rfl rfl rfl (Nat.le_of_ble_eq_true rfl) ?_
  refine AWP.stepR [0] fun K hK => ?_
  simp only [go_sem, Nat.reduceEqDiff, Nat.reduceLT, Nat.reduceAdd, Nat.reduceMul, Nat.reduceSub, Nat.add_zero, Nat.zero_add, Int.reduceEq, Int.reduceLT]
  refine hK _ _ _ (by simp only [go_sem, Nat.reduceEqDiff, Nat.reduceLT, Nat.reduceAdd, Nat.reduceMul, Nat.reduceSub, Nat.add_zero, Nat.zero_add, Int.reduceEq, Int.reduceLT]; rfl) ?_; clear hK
  refine AWP.seq ?_
  refine AWP.stepR [0, 9] fun K hK => ?_
  simp only [go_sem, Nat.reduceEqDiff, Nat.reduceLT, Nat.reduceAdd, Nat.reduceMul, Nat.reduceSub, Nat.add_zero, Nat.zero_add, Int.reduceEq, Int.reduceLT, hv.len es_23]
  refine hK _ _ _ (by simp only [go_sem, Nat.reduceEqDiff, Nat.reduceLT, Nat.reduceAdd, Nat.reduceMul, Nat.reduceSub, Nat.add_zero, Nat.zero_add, Int.reduceEq, Int.reduceLT]; rfl) ?_; clear hK
  refine AWP.cond_split rfl (fun h9 => ?_) fun h9 => ?_
  · refine AWP.stepR [2] fun K hK => ?_
    simp only [go_sem, Nat.reduceEqDiff, Nat.reduceLT, Nat.reduceAdd, Nat.reduceMul, Nat.reduceSub, Nat.add_zero, Nat.zero_add, Int.reduceEq, Int.reduceLT]
    refine ⟨_, _, works11_spec _, ?_⟩
    refine hK _ _ _ (by simp only [go_sem, Nat.reduceEqDiff, Nat.reduceLT, Nat.reduceAdd, Nat.reduceMul, Nat.reduceSub, Nat.add_zero, Nat.zero_add, Int.reduceEq, Int.reduceLT]; rfl) ?_; clear hK
    refine AWP.ret (Then.ret (?_))
    exact Fin.plain (.inr rfl) rfl rfl hok (Grew.refl _) ⟨rfl, rfl⟩
  · have hl : b.length ≤ 4000 := by simp at h9; omega
    refine AWP.skip ?_
    obtain ⟨r2, X2, hc2, hx2, q, vb, vm, vt, vn, vp, vs, rfl, hR, hq⟩ := get17_spec v b (M.bump 1) (((Grew.refl M).bump 1).ok hok) (hv.grew ((Grew.refl M).bump 1)) hb (by omega) (few_of_len hl)
    refine AWP.stepR [0, 3, 4] fun K hK => ?_
    simp only [go_sem, Nat.reduceEqDiff, Nat.reduceLT, Nat.reduceAdd, Nat.reduceMul, Nat.reduceSub, Nat.add_zero, Nat.zero_add, Int.reduceEq, Int.reduceLT]
    refine ⟨_, _, hc2, ?_⟩
    try simp only [go_sem, Nat.reduceEqDiff, Nat.reduceLT, Nat.reduceAdd, Nat.reduceMul, Nat.reduceSub, Nat.add_zero, Nat.zero_add, Int.reduceEq, Int.reduceLT, extractV, st_29, st_fresh (M := X2) (i := M.next) (n := 17) (old := [.int .i64 0, .int .i64 0, .int .i64 0, .int .i64 0, .slice none 0 0, .slice none 0 0, .slice none 0 0, .int .i64 0, .bool false, .slice none 0 0, .slice none 0 0, .string ⟨#[]⟩, .bool false, .slice none 0 0, .int .i64 0, .int .i64 0, .bool false]) (vs := repC q vb vm vt vn vp vs) (e := 29) rfl rfl hR.ones]
    refine hK _ _ _ (by simp only [go_sem, Nat.reduceEqDiff, Nat.reduceLT, Nat.reduceAdd, Nat.reduceMul, Nat.reduceSub, Nat.add_zero, Nat.zero_add, Int.reduceEq, Int.reduceLT]; rfl) ?_; clear hK
    obtain ⟨M2, hM2, hg2, hk2⟩ := kept M X2 hx2 [.int .i64 0, .int .i64 0, .int .i64 0, .int .i64 0, .slice none 0 0, .slice none 0 0, .slice none 0 0, .int .i64 0, .bool false, .slice none 0 0, .slice none 0 0, .string ⟨#[]⟩, .bool false, .slice none 0 0, .int .i64 0, .int .i64 0, .bool false] (repC q vb vm vt vn vp vs) 29
    have hnone : X2.get M.next = none := none_keep (p := M.next + 1) hok (hx2.x _) (by omega)
    have hR := hR.within (Within.put2 hnone ⟨[.int .i64 0, .int .i64 0, .int .i64 0, .int .i64 0, .slice none 0 0, .slice none 0 0, .slice none 0 0, .int .i64 0, .bool false, .slice none 0 0, .slice none 0 0, .string ⟨#[]⟩, .bool false, .slice none 0 0, .int .i64 0, .int .i64 0, .bool false], 29, true⟩ ⟨repC q vb vm vt vn vp vs, 29, true⟩) (Nat.le_refl _)
    rw [hM2] at hR ⊢
    obtain ⟨r3, X3, hc3, hx3, q', wb, wm, wt, wn, wp, ws, rfl, hR', hq'⟩ := get18_spec v b (M2.bump 1) ((hg2.bump 1).ok hok) (hv.grew (hg2.bump 1)) (hE.imp id fun h => h.grew (hg2.bump 1)) hb hl
    refine AWP.stepR [3, 4, 5, 6] fun K hK => ?_
    simp only [go_sem, Nat.reduceEqDiff, Nat.reduceLT, Nat.reduceAdd, Nat.reduceMul, Nat.reduceSub, Nat.add_zero, Nat.zero_add, Int.reduceEq, Int.reduceLT]
    refine ⟨_, _, hc3, ?_⟩
    try simp only [go_sem, Nat.reduceEqDiff, Nat.reduceLT, Nat.reduceAdd, Nat.reduceMul, Nat.reduceSub, Nat.add_zero, Nat.zero_add, Int.reduceEq, Int.reduceLT, extractV, st_29, st_fresh (M := X3) (i := M2.next) (n := 17) (old := [.int .i64 0, .int .i64 0, .int .i64 0, .int .i64 0, .slice none 0 0, .slice none 0 0, .slice none 0 0, .int .i64 0, .bool false, .slice none 0 0, .slice none 0 0, .string ⟨#[]⟩, .bool false, .slice none 0 0, .int .i64 0, .int .i64 0, .bool false]) (vs := repC q' wb wm wt wn wp ws) (e := 29) rfl rfl hR'.ones]
    refine hK _ _ _ (by simp only [go_sem, Nat.reduceEqDiff, Nat.reduceLT, Nat.reduceAdd, Nat.reduceMul, Nat.reduceSub, Nat.add_zero, Nat.zero_add, Int.reduceEq, Int.reduceLT]; rfl) ?_; clear hK
    obtain ⟨M3, hM3, hg3, hk3⟩ := kept M2 X3 hx3 [.int .i64 0, .int .i64 0, .int .i64 0, .int .i64 0, .slice none 0 0, .slice none 0 0, .slice none 0 0, .int .i64 0, .bool false, .slice none 0 0, .slice none 0 0, .string ⟨#[]⟩, .bool false, .slice none 0 0, .int .i64 0, .int .i64 0, .bool false] (repC q' wb wm wt wn wp ws) 29
    have hnone : X3.get M2.next = none := none_keep (p := M2.next + 1) (hg2.ok hok) (hx3.x _) (by omega)
    have hR' := hR'.within (Within.put2 hnone ⟨[.int .i64 0, .int .i64 0, .int .i64 0, .int .i64 0, .slice none 0 0, .slice none 0 0, .slice none 0 0, .int .i64 0, .bool false, .slice none 0 0, .slice none 0 0, .string ⟨#[]⟩, .bool false, .slice none 0 0, .int .i64 0, .int .i64 0, .bool false], 29, true⟩ ⟨repC q' wb wm wt wn wp ws, 29, true⟩) (Nat.le_refl _)
    rw [hM3] at hR' ⊢
    have hR := hR.grew hg3
    have hk2 := hk2.grew hg3
    have hg := hg2.trans hg3
    subst hq; subst hq'
    have hL := getR_lt hb hl
    have b1 := hL.body; have b2 := hL.meta_; have b3 := hL.tags; have b4 := hL.names; have b5 := hL.prefixes; have b7 := hL.shown
    obtain ⟨r4, M4, hc4, hr4, hM4⟩ := same19_spec (getR b).1 vb vm vt vn vp vs wb wm wt wn wp ws M3 (hg.ok hok) hR hR' (by omega) (by omega) (by omega) (by omega) (by omega) (by omega)
    rw [hr4, hM4] at hc4
    refine AWP.stepR [2] fun K hK => ?_
    simp only [go_sem, Nat.reduceEqDiff, Nat.reduceLT, Nat.reduceAdd, Nat.reduceMul, Nat.reduceSub, Nat.add_zero, Nat.zero_add, Int.reduceEq, Int.reduceLT, ld_29, hk2.lda (repC_len ..), hk3.lda (repC_len ..)]
    refine ⟨_, _, hc4, ?_⟩
    try simp only [go_sem, Nat.reduceEqDiff, Nat.reduceLT, Nat.reduceAdd, Nat.reduceMul, Nat.reduceSub, Nat.add_zero, Nat.zero_add, Int.reduceEq, Int.reduceLT, show ((getR b).2 == (getR b).2) = true by simp]
    refine ⟨_, _, works11_spec _, ?_⟩
    refine hK _ _ _ (by simp only [go_sem, Nat.reduceEqDiff, Nat.reduceLT, Nat.reduceAdd, Nat.reduceMul, Nat.reduceSub, Nat.add_zero, Nat.zero_add, Int.reduceEq, Int.reduceLT]; rfl) ?_; clear hK
    refine AWP.ret (?_)
    exact Fin.plain (.inr rfl) rfl rfl hok hg ⟨rfl, rfl⟩
end Go.Proofs.Ythheaehpnleiaaa.AX
