/- A pair, a kid read with the other reader, by the program. -/
import Derived.Test.YthheaehpnleiaaaNodePuts31
import Derived.Test.YthheaehpnleiaaaNodePuts27
namespace Go.Proofs.Ythheaehpnleiaaa.AX
open Go Go.Proofs
set_option maxRecDepth 100000
set_option linter.unusedVariables false
set_option linter.unusedSimpArgs false

theorem kept (M M2 : Mem) (hg2 : Grew (M.bump 1) M2) (z cells : List Value) (e : TypeId) : ∃ M3, (M2.put M.next ⟨z, e, true⟩).put M.next ⟨cells, e, true⟩ = M3 ∧ Grew M M3 ∧ Has M3 M.next ⟨cells, e, true⟩ := by
  have hnx : M.next < M2.next := by have := hg2.next; rw [Mem.next_bump] at this; omega
  have hg : Grew M M2 := ((Grew.refl M).bump 1).trans hg2
  exact ⟨_, rfl, (hg.put (Nat.le_refl _) hnx _).put (Nat.le_refl _) hnx _, Has.put (show _ < (M2.put _ _).next from hnx) _⟩
theorem box3 (M : Mem) (a b c : List Value) (e f g : TypeId) : ∃ M1, (((M.bump 3).put M.next ⟨a, e, true⟩).put (M.next + 1) ⟨b, f, true⟩).put (M.next + 2) ⟨c, g, true⟩ = M1 ∧ Grew M M1 ∧ Has M1 M.next ⟨a, e, true⟩ ∧ Has M1 (M.next + 1) ⟨b, f, true⟩ ∧ Has M1 (M.next + 2) ⟨c, g, true⟩ ∧ M1.next = M.next + 3 := by
  have hlt1 : M.next < (M.bump 3).next := by rw [Mem.next_bump]; omega
  obtain ⟨hg1, hh1⟩ := mk_put ((Grew.refl M).bump 3) (Nat.le_refl _) hlt1 ⟨a, e, true⟩
  obtain ⟨hg2, hh2⟩ := mk_put hg1 (show M.next ≤ M.next + 1 by omega) (show M.next + 1 < ((M.bump 3).put M.next ⟨a, e, true⟩).next by rw [Mem.next_put, Mem.next_bump]; omega) ⟨b, f, true⟩
  obtain ⟨hg3, hh3⟩ := mk_put hg2 (show M.next ≤ M.next + 2 by omega) (show M.next + 2 < (((M.bump 3).put M.next ⟨a, e, true⟩).put (M.next + 1) ⟨b, f, true⟩).next by rw [Mem.next_put, Mem.next_put, Mem.next_bump]; omega) ⟨c, g, true⟩
  exact ⟨_, rfl, hg3, (hh1.put' (show M.next ≠ M.next + 1 by omega) _).put' (show M.next ≠ M.next + 2 by omega) _, hh2.put' (show M.next + 1 ≠ M.next + 2 by omega) _, hh3, rfl⟩
theorem bd_58b {a b : Value} (ha : a.oneCell' = true) (hb : b.oneCell' = true) : buildV Try.prog 58 [(0, a), (1, b)] = some (.agg #[a, b]) := by
  cases a <;> first | (simp [Value.oneCell'] at ha; done) | (cases b <;> first | (simp [Value.oneCell'] at hb; done) | rfl)
theorem bd_60b {a : Value} (ha : a.oneCell' = true) (x y : Int) : buildV Try.prog 60 [(0, a), (1, .int .i64 x), (2, .int .i64 y)] = some (.agg #[a, .int .i64 x, .int .i64 y]) := by
  cases a <;> first | (simp [Value.oneCell'] at ha; done) | rfl

theorem pair70_spec (v : Value) (s : Rs) (M0 M : Mem) (hok : Ok M) (hg0 : Grew M0 M) (hv : RdV M0 v s) (hb : BytB s.b) (hl : s.b.length ≤ 1000) :
    ∃ r M', ACall Try.prog 70 #[v] M r M' ∧ Grew M M' ∧ ∃ v' x, r = .tuple #[v', .agg (prC x).toArray] ∧ RdV M0 v' (prP s).1 ∧ RowB M0 x.kv x.key ∧ RowB M0 x.vv x.val ∧ prD x = (prP s).2 := by
  have hv0 := hv
  obtain ⟨vb, rfl, hvE⟩ := hv
  refine ACall.fin (args := [.agg (rdC vb s.code).toArray]) (k := 40) (rs := [.cell 2 86, .cell 3 58]) Try.func70 rfl rfl rfl (Nat.le_of_ble_eq_true rfl) ?_
  refine AWP.stepR [1, 2, 3] fun K hK => ?_
  simp only [go_sem, Nat.reduceEqDiff, Nat.reduceLT, Nat.reduceAdd, Nat.reduceMul, Nat.reduceSub, Nat.add_zero, Nat.zero_add, Int.reduceEq, Int.reduceLT]
  refine hK _ _ _ (by simp only [go_sem, Nat.reduceEqDiff, Nat.reduceLT, Nat.reduceAdd, Nat.reduceMul, Nat.reduceSub, Nat.add_zero, Nat.zero_add, Int.reduceEq, Int.reduceLT]; rfl) ?_; clear hK
  obtain ⟨M1, hM1, hg1, hh1, hh2, hh3, hn1⟩ := box3 M (rdC vb s.code) (rdC (.slice none 0 0) 0) [.slice none 0 0, .slice none 0 0] 86 86 58
  change AWP _ _ _ ⟨_, (((M.bump 3).put M.next ⟨rdC vb s.code, 86, true⟩).put (M.next + 1) ⟨rdC (.slice none 0 0) 0, 86, true⟩).put (M.next + 2) ⟨[.slice none 0 0, .slice none 0 0], 58, true⟩⟩ _
  rw [hM1]
  have g1 := hg0.trans hg1
  have hb1 := numS_bytes hb 1; have hl1 := numS_len s 1; have hn1b := numS_b1 hb
  have hb2 := numS_bytes hb1 1; have hl2 := numS_len (numS s 1).1 1; have hn2b := numS_b1 hb1
  have hl3 := takeS_len (numS (numS s 1).1 1).1 (numS s 1).2
  -- the key's length
  obtain ⟨r2, X2, hc2, hx2, v2, rfl, hv2⟩ := number94_spec _ s 1 M0 (M1.bump 1) ((hg1.bump 1).ok hok) (g1.bump 1) hv0 hb (by omega) (by omega)
  have hv2' := hv2
  obtain ⟨vb2, rfl, hE2⟩ := hv2
  refine AWP.stepR [2, 3, 4, 5] fun K hK => ?_
  simp only [go_sem, Nat.reduceEqDiff, Nat.reduceLT, Nat.reduceAdd, Nat.reduceMul, Nat.reduceSub, Nat.add_zero, Nat.zero_add, Int.reduceEq, Int.reduceLT, ld_86, hh1.lda (rdC_len ..)]
  refine ⟨_, _, hc2, ?_⟩
  try simp only [go_sem, Nat.reduceEqDiff, Nat.reduceLT, Nat.reduceAdd, Nat.reduceMul, Nat.reduceSub, Nat.add_zero, Nat.zero_add, Int.reduceEq, Int.reduceLT, extractV, st_fresh (M := X2) (i := M1.next) (n := 2) (old := [.slice none 0 0, .int .i64 0]) (vs := rdC vb2 (numS s 1).1.code) (e := 86) rfl rfl (rdC_one hE2.row.one)]
  refine hK _ _ _ (by simp only [go_sem, Nat.reduceEqDiff, Nat.reduceLT, Nat.reduceAdd, Nat.reduceMul, Nat.reduceSub, Nat.add_zero, Nat.zero_add, Int.reduceEq, Int.reduceLT]; rfl) ?_; clear hK
  obtain ⟨M2, hM2, hg2, hk2⟩ := kept M1 X2 hx2 [.slice none 0 0, .int .i64 0] (rdC vb2 (numS s 1).1.code) 86
  rw [hM2]
  have g2 := g1.trans hg2
  -- the value's
  obtain ⟨r3, X3, hc3, hx3, v3, rfl, hv3⟩ := number94_spec _ (numS s 1).1 1 M0 (M2.bump 1) (((hg1.trans hg2).bump 1).ok hok) (g2.bump 1) hv2' hb1 (by omega) (by omega)
  have hv3' := hv3
  obtain ⟨vb3, rfl, hE3⟩ := hv3
  refine AWP.stepR [2, 3, 5, 6, 7] fun K hK => ?_
  simp only [go_sem, Nat.reduceEqDiff, Nat.reduceLT, Nat.reduceAdd, Nat.reduceMul, Nat.reduceSub, Nat.add_zero, Nat.zero_add, Int.reduceEq, Int.reduceLT, ld_86, hk2.lda (rdC_len ..)]
  refine ⟨_, _, hc3, ?_⟩
  try simp only [go_sem, Nat.reduceEqDiff, Nat.reduceLT, Nat.reduceAdd, Nat.reduceMul, Nat.reduceSub, Nat.add_zero, Nat.zero_add, Int.reduceEq, Int.reduceLT, extractV, st_fresh (M := X3) (i := M2.next) (n := 2) (old := [.slice none 0 0, .int .i64 0]) (vs := rdC vb3 (numS (numS s 1).1 1).1.code) (e := 86) rfl rfl (rdC_one hE3.row.one)]
  refine hK _ _ _ (by simp only [go_sem, Nat.reduceEqDiff, Nat.reduceLT, Nat.reduceAdd, Nat.reduceMul, Nat.reduceSub, Nat.add_zero, Nat.zero_add, Int.reduceEq, Int.reduceLT]; rfl) ?_; clear hK
  obtain ⟨M3, hM3, hg3, hk3⟩ := kept M2 X3 hx3 [.slice none 0 0, .int .i64 0] (rdC vb3 (numS (numS s 1).1 1).1.code) 86
  rw [hM3]
  have g3 := g2.trans hg3
  -- the key
  obtain ⟨r4, X4, hc4, hx4, v4, u4, rfl, hv4, hu4⟩ := bytes57_spec _ (numS (numS s 1).1 1).1 (numS s 1).2 M0 (M3.bump 1) (((hg1.trans (hg2.trans hg3)).bump 1).ok hok) (g3.bump 1) hv3' (by omega)
  have hv4' := hv4
  obtain ⟨vb4, rfl, hE4⟩ := hv4
  refine AWP.stepR [2, 3, 7, 8, 9] fun K hK => ?_
  simp only [go_sem, Nat.reduceEqDiff, Nat.reduceLT, Nat.reduceAdd, Nat.reduceMul, Nat.reduceSub, Nat.add_zero, Nat.zero_add, Int.reduceEq, Int.reduceLT, ld_86, hk3.lda (rdC_len ..), i64w (n := (numS s 1).2) (by omega) (by omega)]
  refine ⟨_, _, hc4, ?_⟩
  try simp only [go_sem, Nat.reduceEqDiff, Nat.reduceLT, Nat.reduceAdd, Nat.reduceMul, Nat.reduceSub, Nat.add_zero, Nat.zero_add, Int.reduceEq, Int.reduceLT, extractV, st_fresh (M := X4) (i := M3.next) (n := 2) (old := [.slice none 0 0, .int .i64 0]) (vs := rdC vb4 (takeS (numS (numS s 1).1 1).1 (numS s 1).2).1.code) (e := 86) rfl rfl (rdC_one hE4.row.one)]
  refine hK _ _ _ (by simp only [go_sem, Nat.reduceEqDiff, Nat.reduceLT, Nat.reduceAdd, Nat.reduceMul, Nat.reduceSub, Nat.add_zero, Nat.zero_add, Int.reduceEq, Int.reduceLT]; rfl) ?_; clear hK
  obtain ⟨M4, hM4, hg4, hk4⟩ := kept M3 X4 hx4 [.slice none 0 0, .int .i64 0] (rdC vb4 (takeS (numS (numS s 1).1 1).1 (numS s 1).2).1.code) 86
  rw [hM4]
  have g4 := g3.trans hg4
  -- the value
  obtain ⟨r5, X5, hc5, hx5, v5, u5, rfl, hv5, hu5⟩ := bytes57_spec _ (takeS (numS (numS s 1).1 1).1 (numS s 1).2).1 (numS (numS s 1).1 1).2 M0 (M4.bump 1) (((hg1.trans (hg2.trans (hg3.trans hg4))).bump 1).ok hok) (g4.bump 1) hv4' (by omega)
  have hv5' := hv5
  obtain ⟨vb5, rfl, hE5⟩ := hv5
  refine AWP.stepR [2, 3, 9, 10, 11] fun K hK => ?_
  simp only [go_sem, Nat.reduceEqDiff, Nat.reduceLT, Nat.reduceAdd, Nat.reduceMul, Nat.reduceSub, Nat.add_zero, Nat.zero_add, Int.reduceEq, Int.reduceLT, ld_86, hk4.lda (rdC_len ..), i64w (n := (numS (numS s 1).1 1).2) (by omega) (by omega)]
  refine ⟨_, _, hc5, ?_⟩
  try simp only [go_sem, Nat.reduceEqDiff, Nat.reduceLT, Nat.reduceAdd, Nat.reduceMul, Nat.reduceSub, Nat.add_zero, Nat.zero_add, Int.reduceEq, Int.reduceLT, extractV, st_fresh (M := X5) (i := M4.next) (n := 2) (old := [.slice none 0 0, .int .i64 0]) (vs := rdC vb5 (takeS (takeS (numS (numS s 1).1 1).1 (numS s 1).2).1 (numS (numS s 1).1 1).2).1.code) (e := 86) rfl rfl (rdC_one hE5.row.one)]
  refine hK _ _ _ (by simp only [go_sem, Nat.reduceEqDiff, Nat.reduceLT, Nat.reduceAdd, Nat.reduceMul, Nat.reduceSub, Nat.add_zero, Nat.zero_add, Int.reduceEq, Int.reduceLT]; rfl) ?_; clear hK
  obtain ⟨M5, hM5, hg5, hk5⟩ := kept M4 X5 hx5 [.slice none 0 0, .int .i64 0] (rdC vb5 (takeS (takeS (numS (numS s 1).1 1).1 (numS s 1).2).1 (numS (numS s 1).1 1).2).1.code) 86
  rw [hM5]
  change Has M5 M4.next ⟨rdC vb5 (prP s).1.code, 86, true⟩ at hk5
  have hg25 := hg2.trans (hg3.trans (hg4.trans hg5))
  have hg15 := hg1.trans hg25
  have q2 := hh2.grew hg25
  have q3 := hh3.grew hg25
  have hone : oneCells [u4, u5] = true := by simp only [oneCells, List.all_cons, List.all_nil, hu4.one, hu5.one]; rfl
  obtain ⟨hgy, hhy⟩ := mk_put hg15 (Nat.le_succ _) q2.2 ⟨rdC vb5 (prP s).1.code, 86, true⟩
  have q3 := q3.put' (show M.next + 2 ≠ M.next + 1 by omega) ⟨rdC vb5 (prP s).1.code, 86, true⟩
  obtain ⟨hgz, hhz⟩ := mk_put hgy (show M.next ≤ M.next + 2 by omega) q3.2 ⟨[u4, u5], 58, true⟩
  have hhy := hhy.put' (show M.next + 1 ≠ M.next + 2 by omega) ⟨[u4, u5], 58, true⟩
  refine AWP.stepR [2, 3] fun K hK => ?_
  simp only [go_sem, Nat.reduceEqDiff, Nat.reduceLT, Nat.reduceAdd, Nat.reduceMul, Nat.reduceSub, Nat.add_zero, Nat.zero_add, Int.reduceEq, Int.reduceLT, ld_86, hk5.lda (rdC_len ..), bd_58b hu4.one hu5.one, st_86, st_58, st_all (n := 2) (vs := rdC vb5 (prP s).1.code) q2 rfl rfl rfl (rdC_one hE5.row.one), st_all (n := 2) (vs := [u4, u5]) q3 rfl rfl rfl hone]
  refine hK _ _ _ (by simp only [go_sem, Nat.reduceEqDiff, Nat.reduceLT, Nat.reduceAdd, Nat.reduceMul, Nat.reduceSub, Nat.add_zero, Nat.zero_add, Int.reduceEq, Int.reduceLT]; rfl) ?_; clear hK
  refine AWP.ret (?_)
  exact Fin.keep (v := .tuple #[.agg (rdC vb5 (prP s).1.code).toArray, .agg #[u4, u5]]) (.inr rfl) (by simp only [go_sem, Nat.reduceEqDiff, Nat.reduceLT, Nat.reduceAdd, Nat.reduceMul, Nat.reduceSub, Nat.add_zero, Nat.zero_add, Int.reduceEq, Int.reduceLT, retV, resV, ld_86, ld_58, hhy.lda (rdC_len ..), hhz.lda (show ([u4, u5] : List Value).length = 2 from rfl)] <;> rfl) ⟨hgz, _, ⟨u4, u5, (prP s).2.1, (prP s).2.2⟩, rfl, ⟨vb5, rfl, hE5⟩, hu4, hu5, rfl⟩

theorem kid71_spec (v : Value) (s : Rs) (M0 M : Mem) (hok : Ok M) (hg0 : Grew M0 M) (hv : RdV M0 v s) (hb : BytB s.b) (hl : s.b.length ≤ 1000) :
    ∃ r M', ACall Try.prog 71 #[v] M r M' ∧ Grew M M' ∧ ∃ v' x, r = .tuple #[v', .agg (kdC x).toArray] ∧ RdV M0 v' (kdP s).1 ∧ RowB M0 x.kv x.key ∧ kdD x = (kdP s).2 := by
  have hv0 := hv
  obtain ⟨vb, rfl, hvE⟩ := hv
  refine ACall.fin (args := [.agg (rdC vb s.code).toArray]) (k := 43) (rs := [.cell 2 86, .cell 3 60]) Try.func71 rfl rfl rfl (Nat.le_of_ble_eq_true rfl) ?_
  refine AWP.stepR [1, 2, 3] fun K hK => ?_
  simp only [go_sem, Nat.reduceEqDiff, Nat.reduceLT, Nat.reduceAdd, Nat.reduceMul, Nat.reduceSub, Nat.add_zero, Nat.zero_add, Int.reduceEq, Int.reduceLT]
  refine hK _ _ _ (by simp only [go_sem, Nat.reduceEqDiff, Nat.reduceLT, Nat.reduceAdd, Nat.reduceMul, Nat.reduceSub, Nat.add_zero, Nat.zero_add, Int.reduceEq, Int.reduceLT]; rfl) ?_; clear hK
  obtain ⟨M1, hM1, hg1, hh1, hh2, hh3, hn1⟩ := box3 M (rdC vb s.code) (rdC (.slice none 0 0) 0) [.slice none 0 0, .int .i64 0, .int .i64 0] 86 86 60
  change AWP _ _ _ ⟨_, (((M.bump 3).put M.next ⟨rdC vb s.code, 86, true⟩).put (M.next + 1) ⟨rdC (.slice none 0 0) 0, 86, true⟩).put (M.next + 2) ⟨[.slice none 0 0, .int .i64 0, .int .i64 0], 60, true⟩⟩ _
  rw [hM1]
  have g1 := hg0.trans hg1
  have hb1 := numS_bytes hb 1; have hl1 := numS_len s 1; have hn1b := numS_b1 hb
  have hb2 := numS_bytes hb1 2; have hl2 := numS_len (numS s 1).1 2; have hn2b := numS_b2 hb1
  have hb3 := numS_bytes hb2 8; have hl3 := numS_len (numS (numS s 1).1 2).1 8; have hn3b := numS_b8 hb2
  have hcap : 0 ≤ capE (numS (numS (numS s 1).1 2).1 8).2 ∧ capE (numS (numS (numS s 1).1 2).1 8).2 ≤ 4611686018427387904 := by unfold capE; split <;> omega
  -- the key's length
  obtain ⟨r2, X2, hc2, hx2, v2, rfl, hv2⟩ := number94_spec _ s 1 M0 (M1.bump 1) ((hg1.bump 1).ok hok) (g1.bump 1) hv0 hb (by omega) (by omega)
  have hv2' := hv2
  obtain ⟨vb2, rfl, hE2⟩ := hv2
  refine AWP.stepR [2, 3, 4, 5] fun K hK => ?_
  simp only [go_sem, Nat.reduceEqDiff, Nat.reduceLT, Nat.reduceAdd, Nat.reduceMul, Nat.reduceSub, Nat.add_zero, Nat.zero_add, Int.reduceEq, Int.reduceLT, ld_86, hh1.lda (rdC_len ..)]
  refine ⟨_, _, hc2, ?_⟩
  try simp only [go_sem, Nat.reduceEqDiff, Nat.reduceLT, Nat.reduceAdd, Nat.reduceMul, Nat.reduceSub, Nat.add_zero, Nat.zero_add, Int.reduceEq, Int.reduceLT, extractV, st_fresh (M := X2) (i := M1.next) (n := 2) (old := [.slice none 0 0, .int .i64 0]) (vs := rdC vb2 (numS s 1).1.code) (e := 86) rfl rfl (rdC_one hE2.row.one)]
  refine hK _ _ _ (by simp only [go_sem, Nat.reduceEqDiff, Nat.reduceLT, Nat.reduceAdd, Nat.reduceMul, Nat.reduceSub, Nat.add_zero, Nat.zero_add, Int.reduceEq, Int.reduceLT]; rfl) ?_; clear hK
  obtain ⟨M2, hM2, hg2, hk2⟩ := kept M1 X2 hx2 [.slice none 0 0, .int .i64 0] (rdC vb2 (numS s 1).1.code) 86
  rw [hM2]
  have g2 := g1.trans hg2
  -- the page
  obtain ⟨r3, X3, hc3, hx3, v3, rfl, hv3⟩ := number94_spec _ (numS s 1).1 2 M0 (M2.bump 1) (((hg1.trans hg2).bump 1).ok hok) (g2.bump 1) hv2' hb1 (by omega) (by omega)
  have hv3' := hv3
  obtain ⟨vb3, rfl, hE3⟩ := hv3
  refine AWP.stepR [2, 3, 5, 6, 7] fun K hK => ?_
  simp only [go_sem, Nat.reduceEqDiff, Nat.reduceLT, Nat.reduceAdd, Nat.reduceMul, Nat.reduceSub, Nat.add_zero, Nat.zero_add, Int.reduceEq, Int.reduceLT, ld_86, hk2.lda (rdC_len ..)]
  refine ⟨_, _, hc3, ?_⟩
  try simp only [go_sem, Nat.reduceEqDiff, Nat.reduceLT, Nat.reduceAdd, Nat.reduceMul, Nat.reduceSub, Nat.add_zero, Nat.zero_add, Int.reduceEq, Int.reduceLT, extractV, st_fresh (M := X3) (i := M2.next) (n := 2) (old := [.slice none 0 0, .int .i64 0]) (vs := rdC vb3 (numS (numS s 1).1 2).1.code) (e := 86) rfl rfl (rdC_one hE3.row.one)]
  refine hK _ _ _ (by simp only [go_sem, Nat.reduceEqDiff, Nat.reduceLT, Nat.reduceAdd, Nat.reduceMul, Nat.reduceSub, Nat.add_zero, Nat.zero_add, Int.reduceEq, Int.reduceLT]; rfl) ?_; clear hK
  obtain ⟨M3, hM3, hg3, hk3⟩ := kept M2 X3 hx3 [.slice none 0 0, .int .i64 0] (rdC vb3 (numS (numS s 1).1 2).1.code) 86
  rw [hM3]
  have g3 := g2.trans hg3
  -- the epoch
  obtain ⟨r4, X4, hc4, hx4, v4, rfl, hv4⟩ := number94_spec _ (numS (numS s 1).1 2).1 8 M0 (M3.bump 1) (((hg1.trans (hg2.trans hg3)).bump 1).ok hok) (g3.bump 1) hv3' hb2 (by omega) (by omega)
  have hv4' := hv4
  obtain ⟨vb4, rfl, hE4⟩ := hv4
  refine AWP.stepR [2, 3, 5, 7, 8, 9] fun K hK => ?_
  simp only [go_sem, Nat.reduceEqDiff, Nat.reduceLT, Nat.reduceAdd, Nat.reduceMul, Nat.reduceSub, Nat.add_zero, Nat.zero_add, Int.reduceEq, Int.reduceLT, ld_86, hk3.lda (rdC_len ..)]
  refine ⟨_, _, hc4, ?_⟩
  try simp only [go_sem, Nat.reduceEqDiff, Nat.reduceLT, Nat.reduceAdd, Nat.reduceMul, Nat.reduceSub, Nat.add_zero, Nat.zero_add, Int.reduceEq, Int.reduceLT, extractV, st_fresh (M := X4) (i := M3.next) (n := 2) (old := [.slice none 0 0, .int .i64 0]) (vs := rdC vb4 (numS (numS (numS s 1).1 2).1 8).1.code) (e := 86) rfl rfl (rdC_one hE4.row.one)]
  refine hK _ _ _ (by simp only [go_sem, Nat.reduceEqDiff, Nat.reduceLT, Nat.reduceAdd, Nat.reduceMul, Nat.reduceSub, Nat.add_zero, Nat.zero_add, Int.reduceEq, Int.reduceLT]; rfl) ?_; clear hK
  obtain ⟨M4, hM4, hg4, hk4⟩ := kept M3 X4 hx4 [.slice none 0 0, .int .i64 0] (rdC vb4 (numS (numS (numS s 1).1 2).1 8).1.code) 86
  rw [hM4]
  have g4 := g3.trans hg4
  refine AWP.seq ?_
  refine AWP.stepR [2, 3, 5, 7, 8, 9, 28] fun K hK => ?_
  simp only [go_sem, Nat.reduceEqDiff, Nat.reduceLT, Nat.reduceAdd, Nat.reduceMul, Nat.reduceSub, Nat.add_zero, Nat.zero_add, Int.reduceEq, Int.reduceLT]
  refine hK _ _ _ (by simp only [go_sem, Nat.reduceEqDiff, Nat.reduceLT, Nat.reduceAdd, Nat.reduceMul, Nat.reduceSub, Nat.add_zero, Nat.zero_add, Int.reduceEq, Int.reduceLT]; rfl) ?_; clear hK
  refine AWP.condT rfl [2, 3, 5, 7, 8, 9] [(2, .pointer (some ⟨M.next + 1, 0, none⟩)), (3, .pointer (some ⟨M.next + 2, 0, none⟩)), (5, .int .u64 (numS s 1).2), (7, .int .u64 (numS (numS s 1).1 2).2), (8, .pointer (some ⟨M3.next, 0, none⟩)), (9, .int .u64 (capE (numS (numS (numS s 1).1 2).1 8).2))] M4 (fun h28 => ?_) (fun h28 => ?_) ?_
  · have h := of_decide_eq_true h28
    refine AWP.lastR fun K hK => ?_
    simp only [go_sem, Nat.reduceEqDiff, Nat.reduceLT, Nat.reduceAdd, Nat.reduceMul, Nat.reduceSub, Nat.add_zero, Nat.zero_add, Int.reduceEq, Int.reduceLT]
    refine hK _ _ ?_; clear hK
    refine ⟨?_, rfl⟩
    simp only [go_sem, Nat.reduceEqDiff, Nat.reduceLT, Nat.reduceAdd, Nat.reduceMul, Nat.reduceSub, Nat.add_zero, Nat.zero_add, Int.reduceEq, Int.reduceLT]
    rw [capE, if_pos h]
  · have h := of_decide_eq_false h28
    refine AWP.skip ?_
    refine ⟨?_, rfl⟩
    simp only [go_sem, Nat.reduceEqDiff, Nat.reduceLT, Nat.reduceAdd, Nat.reduceMul, Nat.reduceSub, Nat.add_zero, Nat.zero_add, Int.reduceEq, Int.reduceLT]
    rw [capE, if_neg h]
  -- the key
  obtain ⟨r5, X5, hc5, hx5, v5, u5, rfl, hv5, hu5⟩ := bytes57_spec _ (numS (numS (numS s 1).1 2).1 8).1 (numS s 1).2 M0 (M4.bump 1) (((hg1.trans (hg2.trans (hg3.trans hg4))).bump 1).ok hok) (g4.bump 1) hv4' (by omega)
  obtain ⟨vb5, rfl, hE5⟩ := hv5
  refine AWP.stepR [2, 3, 7, 9, 10, 11] fun K hK => ?_
  simp only [go_sem, Nat.reduceEqDiff, Nat.reduceLT, Nat.reduceAdd, Nat.reduceMul, Nat.reduceSub, Nat.add_zero, Nat.zero_add, Int.reduceEq, Int.reduceLT, ld_86, hk4.lda (rdC_len ..), i64w (n := (numS s 1).2) (by omega) (by omega)]
  refine ⟨_, _, hc5, ?_⟩
  try simp only [go_sem, Nat.reduceEqDiff, Nat.reduceLT, Nat.reduceAdd, Nat.reduceMul, Nat.reduceSub, Nat.add_zero, Nat.zero_add, Int.reduceEq, Int.reduceLT, extractV, st_fresh (M := X5) (i := M4.next) (n := 2) (old := [.slice none 0 0, .int .i64 0]) (vs := rdC vb5 (takeS (numS (numS (numS s 1).1 2).1 8).1 (numS s 1).2).1.code) (e := 86) rfl rfl (rdC_one hE5.row.one)]
  refine hK _ _ _ (by simp only [go_sem, Nat.reduceEqDiff, Nat.reduceLT, Nat.reduceAdd, Nat.reduceMul, Nat.reduceSub, Nat.add_zero, Nat.zero_add, Int.reduceEq, Int.reduceLT]; rfl) ?_; clear hK
  obtain ⟨M5, hM5, hg5, hk5⟩ := kept M4 X5 hx5 [.slice none 0 0, .int .i64 0] (rdC vb5 (takeS (numS (numS (numS s 1).1 2).1 8).1 (numS s 1).2).1.code) 86
  rw [hM5]
  change Has M5 M4.next ⟨rdC vb5 (kdP s).1.code, 86, true⟩ at hk5
  have hg25 := hg2.trans (hg3.trans (hg4.trans hg5))
  have hg15 := hg1.trans hg25
  have q2 := hh2.grew hg25
  have q3 := hh3.grew hg25
  have hone : oneCells [u5, .int .i64 (numS (numS s 1).1 2).2, .int .i64 (capE (numS (numS (numS s 1).1 2).1 8).2)] = true := by simp only [oneCells, List.all_cons, List.all_nil, hu5.one]; rfl
  obtain ⟨hgy, hhy⟩ := mk_put hg15 (Nat.le_succ _) q2.2 ⟨rdC vb5 (kdP s).1.code, 86, true⟩
  have q3 := q3.put' (show M.next + 2 ≠ M.next + 1 by omega) ⟨rdC vb5 (kdP s).1.code, 86, true⟩
  obtain ⟨hgz, hhz⟩ := mk_put hgy (show M.next ≤ M.next + 2 by omega) q3.2 ⟨[u5, .int .i64 (numS (numS s 1).1 2).2, .int .i64 (capE (numS (numS (numS s 1).1 2).1 8).2)], 60, true⟩
  have hhy := hhy.put' (show M.next + 1 ≠ M.next + 2 by omega) ⟨[u5, .int .i64 (numS (numS s 1).1 2).2, .int .i64 (capE (numS (numS (numS s 1).1 2).1 8).2)], 60, true⟩
  refine AWP.stepR [2, 3] fun K hK => ?_
  simp only [go_sem, Nat.reduceEqDiff, Nat.reduceLT, Nat.reduceAdd, Nat.reduceMul, Nat.reduceSub, Nat.add_zero, Nat.zero_add, Int.reduceEq, Int.reduceLT, ld_86, hk5.lda (rdC_len ..), i64w (n := (numS (numS s 1).1 2).2) (by omega) (by omega), i64w (n := capE (numS (numS (numS s 1).1 2).1 8).2) (by omega) (by omega), bd_60b hu5.one, st_86, st_60, st_all (n := 2) (vs := rdC vb5 (kdP s).1.code) q2 rfl rfl rfl (rdC_one hE5.row.one), st_all (n := 3) (vs := [u5, .int .i64 (numS (numS s 1).1 2).2, .int .i64 (capE (numS (numS (numS s 1).1 2).1 8).2)]) q3 rfl rfl rfl hone]
  refine hK _ _ _ (by simp only [go_sem, Nat.reduceEqDiff, Nat.reduceLT, Nat.reduceAdd, Nat.reduceMul, Nat.reduceSub, Nat.add_zero, Nat.zero_add, Int.reduceEq, Int.reduceLT]; rfl) ?_; clear hK
  refine AWP.ret (?_)
  exact Fin.keep (v := .tuple #[.agg (rdC vb5 (kdP s).1.code).toArray, .agg #[u5, .int .i64 (numS (numS s 1).1 2).2, .int .i64 (capE (numS (numS (numS s 1).1 2).1 8).2)]]) (.inr rfl) (by simp only [go_sem, Nat.reduceEqDiff, Nat.reduceLT, Nat.reduceAdd, Nat.reduceMul, Nat.reduceSub, Nat.add_zero, Nat.zero_add, Int.reduceEq, Int.reduceLT, retV, resV, ld_86, ld_60, hhy.lda (rdC_len ..), hhz.lda (show ([u5, .int .i64 (numS (numS s 1).1 2).2, .int .i64 (capE (numS (numS (numS s 1).1 2).1 8).2)] : List Value).length = 3 from rfl)] <;> rfl) ⟨hgz, _, ⟨u5, (kdP s).2.1, (kdP s).2.2.1, (kdP s).2.2.2⟩, rfl, ⟨vb5, rfl, hE5⟩, hu5, rfl⟩
end Go.Proofs.Ythheaehpnleiaaa.AX
