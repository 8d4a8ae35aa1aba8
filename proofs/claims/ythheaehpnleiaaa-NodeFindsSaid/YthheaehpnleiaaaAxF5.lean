/- Texts with how many they are ahead. -/
import Derived.Test.YthheaehpnleiaaaAxF4
namespace Go.Proofs.Ythheaehpnleiaaa.AX
open Go Go.Proofs
set_option maxRecDepth 100000
set_option linter.unusedVariables false
set_option linter.unusedSimpArgs false

/-- a text's bytes -/
def sB (s : ByteArray) : List Int := s.data.toList.map fun b => (b.toNat : Int)
theorem sB_length (s : ByteArray) : (sB s).length = s.size := by rw [sB, List.length_map]; rfl
theorem sB_cells (s : ByteArray) : (s.data.toList.map fun b => Value.int .u8 b.toNat) = cB (sB s) := by rw [cB, sB, List.map_map]; rfl
def textsF (l : List ByteArray) (k : Nat) : List Int := putB l.length 4 ++ ((l.take k).map fun s => longB (sB s)).flatten
theorem textsF_zero (l : List ByteArray) : textsF l 0 = putB l.length 4 := by simp [textsF]
theorem textsF_succ (l : List ByteArray) {k : Nat} (h : k < l.length) : textsF l (k + 1) = textsF l k ++ longB (sB l[k]) := by
  rw [textsF, textsF, List.take_succ_eq_append_getElem h, List.map_append, List.flatten_append, ← List.append_assoc]
  show _ ++ [longB (sB l[k])].flatten = _
  rw [List.flatten_cons, List.flatten_nil, List.append_nil]
theorem textsF_le (l : List ByteArray) (hs : ∀ s, s ∈ l → s.size ≤ 1000) : ∀ k, k ≤ l.length → (textsF l k).length ≤ 4 + k * 1004 := by
  intro k
  induction k with
  | zero => intro _; rw [textsF_zero, putB_length]; omega
  | succ k ih =>
    intro h
    have h1 := ih (by omega)
    have h2 := hs _ (List.getElem_mem (show k < l.length by omega))
    rw [textsF_succ l (by omega), List.length_append, longB_length, sB_length]
    omega
theorem textsF_ne (l : List ByteArray) (k : Nat) : textsF l k ≠ [] := by intro h; have := congrArg List.length h; simp [textsF, putB_length] at this
theorem textsF_pos (l : List ByteArray) (k : Nat) : (textsF l k).length ≠ 0 := fun h => textsF_ne l k (List.eq_nil_of_length_eq_zero h)

theorem texts45_spec (v : Value) (l : List ByteArray) (M : Mem) (hok : Ok M) (hv : Row_ M v l.length (l.map .string)) (hn : l.length ≤ 1000) (hs : ∀ s, s ∈ l → s.size ≤ 1000) : ∃ r M', ACall Try.prog 45 #[v] M r M' ∧ Grew M M' ∧ OwnB M M' r (textsF l l.length) 5 := by
  refine ACall.fin (args := [v]) (k := 24) Try.func45 rfl rfl rfl (Nat.le_of_ble_eq_true rfl) ?_
  refine AWP.stepR [0] fun K hK => ?_ -- r0
  simp only [go_sem, Nat.reduceEqDiff, Nat.reduceLT, Nat.reduceAdd, Nat.reduceMul, Nat.reduceSub, Nat.add_zero, Nat.zero_add, Int.reduceEq, Int.reduceLT]
  refine hK _ _ _ (by simp only [go_sem, Nat.reduceEqDiff, Nat.reduceLT, Nat.reduceAdd, Nat.reduceMul, Nat.reduceSub, Nat.add_zero, Nat.zero_add, Int.reduceEq, Int.reduceLT]; rfl) ?_; clear hK
  obtain ⟨r1, M1, hc, hg1, ho1⟩ := put43_spec 4 l.length M hok (by omega) (by omega)
  refine AWP.stepR [0, 3] fun K hK => ?_ -- r1
  simp only [go_sem, Nat.reduceEqDiff, Nat.reduceLT, Nat.reduceAdd, Nat.reduceMul, Nat.reduceSub, Nat.add_zero, Nat.zero_add, Int.reduceEq, Int.reduceLT, hv.len es_24]
  rw [IntWalk.u64_in _ (by omega)]
  refine ⟨r1, M1, hc, ?_⟩
  refine hK _ _ _ (by simp only [go_sem, Nat.reduceEqDiff, Nat.reduceLT, Nat.reduceAdd, Nat.reduceMul, Nat.reduceSub, Nat.add_zero, Nat.zero_add, Int.reduceEq, Int.reduceLT]; rfl) ?_; clear hK
  refine AWP.seq ?_
  refine AWP.stepR [0, 3, 4] fun K hK => ?_ -- r2
  simp only [go_sem, Nat.reduceEqDiff, Nat.reduceLT, Nat.reduceAdd, Nat.reduceMul, Nat.reduceSub, Nat.add_zero, Nat.zero_add, Int.reduceEq, Int.reduceLT]
  refine hK _ _ _ (by simp only [go_sem, Nat.reduceEqDiff, Nat.reduceLT, Nat.reduceAdd, Nat.reduceMul, Nat.reduceSub, Nat.add_zero, Nat.zero_add, Int.reduceEq, Int.reduceLT]; rfl) ?_; clear hK
  refine AWP.block ?_ -- b0
  refine AWP.loopK [0, 3, 4] (fun n e M0 => n ≤ l.length ∧ Grew M M0 ∧ ∃ bv, e = [(0, v), (3, bv), (4, .int .i64 ((l.length - n : Nat) : Int))] ∧ OwnB M M0 bv (textsF l (l.length - n)) 5) l.length ?_ fun n e M0 hI => ?_ -- LOOP
  · simp only [go_sem, Nat.reduceEqDiff, Nat.reduceLT, Nat.reduceAdd, Nat.reduceMul, Nat.reduceSub, Nat.add_zero, Nat.zero_add, Int.reduceEq, Int.reduceLT, Nat.le_refl]
    exact ⟨hg1, r1, by simp, by rw [Nat.sub_self, textsF_zero]; exact ho1⟩
  obtain ⟨hn', hg, bv, rfl, hown⟩ := hI
  refine AWP.seq ?_
  refine AWP.stepR [0, 3, 4, 12] fun K hK => ?_ -- r3
  simp only [go_sem, Nat.reduceEqDiff, Nat.reduceLT, Nat.reduceAdd, Nat.reduceMul, Nat.reduceSub, Nat.add_zero, Nat.zero_add, Int.reduceEq, Int.reduceLT, hv.len es_24]
  refine hK _ _ _ (by simp only [go_sem, Nat.reduceEqDiff, Nat.reduceLT, Nat.reduceAdd, Nat.reduceMul, Nat.reduceSub, Nat.add_zero, Nat.zero_add, Int.reduceEq, Int.reduceLT]; rfl) ?_; clear hK
  refine AWP.cond_split rfl (fun h12 => ?_) fun h12 => ?_
  · have hlt : l.length - n < l.length := by simpa using h12
    obtain ⟨b, q, ha, hd⟩ := hv.at1 (by simp) es_24 hlt
    have hs1 := hs _ (List.getElem_mem hlt)
    have hst := textsF_succ l hlt
    have hle := textsF_le l hs (l.length - n + 1) (by omega)
    generalize hx : l[l.length - n] = x at hs1 hst
    rw [hst, List.length_append] at hle
    refine AWP.skip ?_
    refine AWP.seq ?_
    refine AWP.block ?_ -- b1
    have hlt0 : M0.next < (M0.bump 1).next := Nat.lt_succ_self _
    have hg2 := ((Grew.refl M0).bump 1).put (Nat.le_refl _) hlt0 ⟨cB (sB x), 5, true⟩
    have hh := Has.put hlt0 ⟨cB (sB x), 5, true⟩
    generalize hM2 : (M0.bump 1).put M0.next ⟨cB (sB x), 5, true⟩ = M2 at hg2 hh
    have hrow : RowB M2 (.slice (some ⟨M0.next, 0, none⟩) x.size unk) (sB x) := by rw [RowB, sB_length]; exact Row_.of hh
    obtain ⟨r3, M3, hc3, hg3, ho3⟩ := long44_spec _ _ M2 ((hg.trans hg2).ok hok) hrow (by rw [sB_length]; omega)
    obtain ⟨v4, M4, happ, ho4, hg4, hnx, hfr⟩ := Own.append ap_23_23 (hg.trans (hg2.trans hg3)) (hown.grew (hg2.trans hg3)) (by rw [cB_length, Nat.mul_one]) (ho3.row.content (by rw [cB_length, Nat.mul_one])) (cB_one _) (by omega)
    refine AWP.lastR fun K hK => ?_ -- r5
    have hd := hd M0 hg
    rw [show (l.map Value.string)[l.length - n]? = some (.string x) by simp [hlt, hx]] at hd
    simp only [go_sem, Nat.reduceEqDiff, Nat.reduceLT, Nat.reduceAdd, Nat.reduceMul, Nat.reduceSub, Nat.add_zero, Nat.zero_add, Int.reduceEq, Int.reduceLT, ha, ld_9, hd, sB_cells, hM2]
    refine ⟨r3, M3, hc3, ?_⟩
    simp only [go_sem, Nat.reduceEqDiff, Nat.reduceLT, Nat.reduceAdd, Nat.reduceMul, Nat.reduceSub, Nat.add_zero, Nat.zero_add, Int.reduceEq, Int.reduceLT, happ]
    refine hK _ _ ?_; clear hK
    refine AWP.lastR fun K hK => ?_ -- r4
    simp only [go_sem, Nat.reduceEqDiff, Nat.reduceLT, Nat.reduceAdd, Nat.reduceMul, Nat.reduceSub, Nat.add_zero, Nat.zero_add, Int.reduceEq, Int.reduceLT]
    refine hK _ _ ?_; clear hK
    refine ⟨n - 1, by omega, by omega, hg4, v4, ?_, ?_⟩ -- ROUND
    · simp only [go_sem, Nat.reduceEqDiff, Nat.reduceLT, Nat.reduceAdd, Nat.reduceMul, Nat.reduceSub, Nat.add_zero, Nat.zero_add, Int.reduceEq, Int.reduceLT]
      rw [i64w (by omega) (by omega), show ((l.length - n : Nat) : Int) + 1 = ((l.length - (n - 1) : Nat) : Int) by omega]
    · rw [show l.length - (n - 1) = l.length - n + 1 by omega, hst, OwnB, List.length_append, cB_append]
      exact ho4
  · refine AWP.exit (Then.exit (Then.exit (InBlock.same ?_))) -- x0
    have hn0 : n = 0 := by simp at h12; omega
    subst hn0
    refine AWP.stepR [2] fun K hK => ?_ -- r6
    simp only [go_sem, Nat.reduceEqDiff, Nat.reduceLT, Nat.reduceAdd, Nat.reduceMul, Nat.reduceSub, Nat.add_zero, Nat.zero_add, Int.reduceEq, Int.reduceLT]
    refine hK _ _ _ (by simp only [go_sem, Nat.reduceEqDiff, Nat.reduceLT, Nat.reduceAdd, Nat.reduceMul, Nat.reduceSub, Nat.add_zero, Nat.zero_add, Int.reduceEq, Int.reduceLT]; rfl) ?_; clear hK
    refine AWP.ret (?_)
    exact Fin.own (fun v => v) (.inr rfl) rfl hok hg hown (cB_plain _) (fun _ _ _ _ h => h) fun r M' hg' hr' ho' => ⟨hg', ho' (textsF_pos _ _)⟩

theorem texts41_spec (v : Value) (l : List ByteArray) (M : Mem) (hok : Ok M) (hv : Row_ M v l.length (l.map .string)) (hn : l.length ≤ 1000) (hs : ∀ s, s ∈ l → s.size ≤ 1000) : ∃ r M', ACall Try.prog 41 #[v] M r M' ∧ Grew M M' ∧ OwnB M M' r (textsF l l.length) 5 := by
  refine ACall.fin (args := [v]) (k := 24) Try.func41 rfl rfl rfl (Nat.le_of_ble_eq_true rfl) ?_
  refine AWP.stepR [0] fun K hK => ?_ -- r0
  simp only [go_sem, Nat.reduceEqDiff, Nat.reduceLT, Nat.reduceAdd, Nat.reduceMul, Nat.reduceSub, Nat.add_zero, Nat.zero_add, Int.reduceEq, Int.reduceLT]
  refine hK _ _ _ (by simp only [go_sem, Nat.reduceEqDiff, Nat.reduceLT, Nat.reduceAdd, Nat.reduceMul, Nat.reduceSub, Nat.add_zero, Nat.zero_add, Int.reduceEq, Int.reduceLT]; rfl) ?_; clear hK
  obtain ⟨r1, M1, hc, hg1, ho1⟩ := put39_spec 4 l.length M hok (by omega) (by omega) (by decide)
  refine AWP.stepR [0, 3] fun K hK => ?_ -- r1
  simp only [go_sem, Nat.reduceEqDiff, Nat.reduceLT, Nat.reduceAdd, Nat.reduceMul, Nat.reduceSub, Nat.add_zero, Nat.zero_add, Int.reduceEq, Int.reduceLT, hv.len es_24]
  rw [IntWalk.u64_in _ (by omega)]
  refine ⟨r1, M1, hc, ?_⟩
  refine hK _ _ _ (by simp only [go_sem, Nat.reduceEqDiff, Nat.reduceLT, Nat.reduceAdd, Nat.reduceMul, Nat.reduceSub, Nat.add_zero, Nat.zero_add, Int.reduceEq, Int.reduceLT]; rfl) ?_; clear hK
  refine AWP.seq ?_
  refine AWP.stepR [3, 10, 11, 12] fun K hK => ?_ -- r2
  simp only [go_sem, Nat.reduceEqDiff, Nat.reduceLT, Nat.reduceAdd, Nat.reduceMul, Nat.reduceSub, Nat.add_zero, Nat.zero_add, Int.reduceEq, Int.reduceLT, hv.len es_24]
  refine hK _ _ _ (by simp only [go_sem, Nat.reduceEqDiff, Nat.reduceLT, Nat.reduceAdd, Nat.reduceMul, Nat.reduceSub, Nat.add_zero, Nat.zero_add, Int.reduceEq, Int.reduceLT]; rfl) ?_; clear hK
  refine AWP.block ?_ -- b0
  refine AWP.loopK [3, 10, 11, 12] (fun n e M0 => n ≤ l.length ∧ Grew M M0 ∧ ∃ bv, e = [(3, bv), (10, v), (11, .int .i64 l.length), (12, .int .i64 ((l.length - n : Nat) : Int))] ∧ OwnB M M0 bv (textsF l (l.length - n)) 5) l.length ?_ fun n e M0 hI => ?_ -- LOOP
  · simp only [go_sem, Nat.reduceEqDiff, Nat.reduceLT, Nat.reduceAdd, Nat.reduceMul, Nat.reduceSub, Nat.add_zero, Nat.zero_add, Int.reduceEq, Int.reduceLT, Nat.le_refl]
    exact ⟨hg1, r1, by simp, by rw [Nat.sub_self, textsF_zero]; exact ho1⟩
  obtain ⟨hn', hg, bv, rfl, hown⟩ := hI
  refine AWP.stepR [3, 10, 11, 12, 13] fun K hK => ?_ -- r3
  simp only [go_sem, Nat.reduceEqDiff, Nat.reduceLT, Nat.reduceAdd, Nat.reduceMul, Nat.reduceSub, Nat.add_zero, Nat.zero_add, Int.reduceEq, Int.reduceLT]
  refine hK _ _ _ (by simp only [go_sem, Nat.reduceEqDiff, Nat.reduceLT, Nat.reduceAdd, Nat.reduceMul, Nat.reduceSub, Nat.add_zero, Nat.zero_add, Int.reduceEq, Int.reduceLT]; rfl) ?_; clear hK
  refine AWP.condS rfl (fun h13 => ?_) fun h13 => ?_
  · have hlt : l.length - n < l.length := by simpa using h13
    obtain ⟨b, q, ha, hd⟩ := hv.at1 (by simp) es_24 hlt
    have hs1 := hs _ (List.getElem_mem hlt)
    have hst := textsF_succ l hlt
    have hle := textsF_le l hs (l.length - n + 1) (by omega)
    generalize hx : l[l.length - n] = x at hs1 hst
    rw [hst, List.length_append] at hle
    refine AWP.skip ?_
    refine AWP.seq ?_
    refine AWP.block ?_ -- b1
    refine AWP.stepR [3, 5, 10, 11, 12] fun K hK => ?_ -- r4
    have hd := hd M0 hg
    rw [show (l.map Value.string)[l.length - n]? = some (.string x) by simp [hlt, hx]] at hd
    simp only [go_sem, Nat.reduceEqDiff, Nat.reduceLT, Nat.reduceAdd, Nat.reduceMul, Nat.reduceSub, Nat.add_zero, Nat.zero_add, Int.reduceEq, Int.reduceLT, ha, ld_9, hd]
    refine hK _ _ _ (by simp only [go_sem, Nat.reduceEqDiff, Nat.reduceLT, Nat.reduceAdd, Nat.reduceMul, Nat.reduceSub, Nat.add_zero, Nat.zero_add, Int.reduceEq, Int.reduceLT]; rfl) ?_; clear hK
    have hlt0 : M0.next < (M0.bump 2).next := by rw [Mem.next_bump]; omega
    have hg2 := ((Grew.refl M0).bump 2).put (Nat.le_refl _) hlt0 ⟨cB (sB x), 5, true⟩
    have hh := Has.put hlt0 ⟨cB (sB x), 5, true⟩
    have hnx : M0.next + 2 = ((M0.bump 2).put M0.next ⟨cB (sB x), 5, true⟩).next := rfl
    generalize hM2 : (M0.bump 2).put M0.next ⟨cB (sB x), 5, true⟩ = M2 at hg2 hh hnx
    have hrow : RowB M2 (.slice (some ⟨M0.next, 0, none⟩) x.size unk) (sB x) := by rw [RowB, sB_length]; exact Row_.of hh
    obtain ⟨r3, M3, hc3, hg3, ho3⟩ := long40_spec _ _ M2 ((hg.trans hg2).ok hok) hrow (by rw [sB_length]; omega)
    have hlt1 : M0.next + 1 < M3.next := by have := hg3.next; omega
    have hg4 := (hg2.trans hg3).put (Nat.le_succ _) hlt1 ⟨[bv, r3], 23, true⟩
    have hh4 := Has.put hlt1 ⟨[bv, r3], 23, true⟩
    have ho4 : OwnB M2 (M3.put (M0.next + 1) ⟨[bv, r3], 23, true⟩) r3 (longB (sB x)) 5 := ho3.put (by omega) _
    generalize hM4 : M3.put (M0.next + 1) ⟨[bv, r3], 23, true⟩ = M4 at hg4 hh4 ho4
    obtain ⟨r5, M5, hc5, hg5, ho5⟩ := join37_spec (.slice (some ⟨M0.next + 1, 0, none⟩) 2 2) [bv, r3] [textsF l (l.length - n), longB (sB x)] M4 ((hg.trans hg4).ok hok) (Row_.of hh4) (.cons (hown.row.grew hg4) (.cons ho4.row (.nil _))) (by simp only [List.flatten_cons, List.flatten_nil, List.append_nil, List.length_append]; omega) (by simp) (by simp [textsF_ne])
    refine AWP.lastR fun K hK => ?_ -- r5
    simp only [go_sem, Nat.reduceEqDiff, Nat.reduceLT, Nat.reduceAdd, Nat.reduceMul, Nat.reduceSub, Nat.add_zero, Nat.zero_add, Int.reduceEq, Int.reduceLT, sB_cells, hM2]
    refine ⟨r3, M3, hc3, ?_⟩
    simp only [go_sem, Nat.reduceEqDiff, Nat.reduceLT, Nat.reduceAdd, Nat.reduceMul, Nat.reduceSub, Nat.add_zero, Nat.zero_add, Int.reduceEq, Int.reduceLT, hown.row.one, ho3.row.one, hM4]
    refine ⟨r5, M5, hc5, ?_⟩
    refine hK _ _ ?_; clear hK
    refine AWP.lastR fun K hK => ?_ -- r6
    simp only [go_sem, Nat.reduceEqDiff, Nat.reduceLT, Nat.reduceAdd, Nat.reduceMul, Nat.reduceSub, Nat.add_zero, Nat.zero_add, Int.reduceEq, Int.reduceLT]
    refine hK _ _ ?_; clear hK
    refine ⟨n - 1, by omega, by omega, hg.trans (hg4.trans hg5), r5, ?_, ?_⟩ -- ROUND
    · simp only [go_sem, Nat.reduceEqDiff, Nat.reduceLT, Nat.reduceAdd, Nat.reduceMul, Nat.reduceSub, Nat.add_zero, Nat.zero_add, Int.reduceEq, Int.reduceLT]
      rw [i64w (by omega) (by omega), show ((l.length - n : Nat) : Int) + 1 = ((l.length - (n - 1) : Nat) : Int) by omega]
    · rw [show l.length - (n - 1) = l.length - n + 1 by omega, hst]
      rw [show [textsF l (l.length - n), longB (sB x)].flatten = textsF l (l.length - n) ++ longB (sB x) by simp] at ho5
      exact ho5.base (hg.trans hg4).next
  · refine AWP.exit (Then.exit (Then.exit (InBlock.same ?_))) -- x0
    have hn0 : n = 0 := by simp at h13; omega
    subst hn0
    refine AWP.stepR [2] fun K hK => ?_ -- r7
    simp only [go_sem, Nat.reduceEqDiff, Nat.reduceLT, Nat.reduceAdd, Nat.reduceMul, Nat.reduceSub, Nat.add_zero, Nat.zero_add, Int.reduceEq, Int.reduceLT]
    refine hK _ _ _ (by simp only [go_sem, Nat.reduceEqDiff, Nat.reduceLT, Nat.reduceAdd, Nat.reduceMul, Nat.reduceSub, Nat.add_zero, Nat.zero_add, Int.reduceEq, Int.reduceLT]; rfl) ?_; clear hK
    refine AWP.ret (?_)
    exact Fin.own (fun v => v) (.inr rfl) rfl hok hg hown (cB_plain _) (fun _ _ _ _ h => h) fun r M' hg' hr' ho' => ⟨hg', ho' (textsF_pos _ _)⟩
end Go.Proofs.Ythheaehpnleiaaa.AX
