/- A byte of yes and no; bytes with their length ahead. -/
import Derived.Test.YthheaehpnleiaaaAxF3
namespace Go.Proofs.Ythheaehpnleiaaa.AX
open Go Go.Proofs
set_option maxRecDepth 100000
set_option linter.unusedVariables false
set_option linter.unusedSimpArgs false

/-- yes and no as the bits of a byte -/
def flagF (bs : List Bool) : Nat → Int
  | 0 => 0
  | k + 1 => if bs[k]? = some true then IntKind.u8.wrap (BitVec.ofInt 8 (flagF bs k) ||| BitVec.ofInt 8 (IntKind.u8.wrap (1 * 2 ^ (min k 8)))).toNat else flagF bs k

theorem flag38_spec (v : Value) (bs : List Bool) (M : Mem) (hok : Ok M) (hv : Row_ M v bs.length (bs.map .bool)) (hn : bs.length ≤ 8) : ∃ r M', ACall Try.prog 38 #[v] M r M' ∧ Grew M M' ∧ OwnB M M' r [flagF bs bs.length] 5 := by
  refine ACall.fin (args := [v]) (k := 21) Try.func38 rfl rfl rfl (Nat.le_of_ble_eq_true rfl) ?_
  refine AWP.stepR [0] fun K hK => ?_ -- r0
  simp only [go_sem, Nat.reduceEqDiff, Nat.reduceLT, Nat.reduceAdd, Nat.reduceMul, Nat.reduceSub, Nat.add_zero, Nat.zero_add, Int.reduceEq, Int.reduceLT]
  refine hK _ _ _ (by simp only [go_sem, Nat.reduceEqDiff, Nat.reduceLT, Nat.reduceAdd, Nat.reduceMul, Nat.reduceSub, Nat.add_zero, Nat.zero_add, Int.reduceEq, Int.reduceLT]; rfl) ?_; clear hK
  refine AWP.stepR [0, 3] fun K hK => ?_ -- r1
  simp only [go_sem, Nat.reduceEqDiff, Nat.reduceLT, Nat.reduceAdd, Nat.reduceMul, Nat.reduceSub, Nat.add_zero, Nat.zero_add, Int.reduceEq, Int.reduceLT]
  refine hK _ _ _ (by simp only [go_sem, Nat.reduceEqDiff, Nat.reduceLT, Nat.reduceAdd, Nat.reduceMul, Nat.reduceSub, Nat.add_zero, Nat.zero_add, Int.reduceEq, Int.reduceLT]; rfl) ?_; clear hK
  refine AWP.seq ?_
  refine AWP.stepR [3, 6, 7, 8] fun K hK => ?_ -- r2
  simp only [go_sem, Nat.reduceEqDiff, Nat.reduceLT, Nat.reduceAdd, Nat.reduceMul, Nat.reduceSub, Nat.add_zero, Nat.zero_add, Int.reduceEq, Int.reduceLT, hv.len es_79]
  refine hK _ _ _ (by simp only [go_sem, Nat.reduceEqDiff, Nat.reduceLT, Nat.reduceAdd, Nat.reduceMul, Nat.reduceSub, Nat.add_zero, Nat.zero_add, Int.reduceEq, Int.reduceLT]; rfl) ?_; clear hK
  refine AWP.block ?_ -- b0
  refine AWP.loopK [3, 6, 7, 8] (fun n e M0 => M0 = M ∧ n ≤ bs.length ∧ e = [(3, .int .u8 (flagF bs (bs.length - n))), (6, v), (7, .int .i64 bs.length), (8, .int .i64 ((bs.length - n : Nat) : Int))]) bs.length ?_ fun n e M0 hI => ?_ -- LOOP
  · simp only [go_sem, Nat.reduceEqDiff, Nat.reduceLT, Nat.reduceAdd, Nat.reduceMul, Nat.reduceSub, Nat.add_zero, Nat.zero_add, Int.reduceEq, Int.reduceLT, Nat.le_refl, Nat.sub_self]
    exact rfl
  obtain ⟨rfl, hn', rfl⟩ := hI
  refine AWP.stepR [3, 6, 7, 8, 9] fun K hK => ?_ -- r3
  simp only [go_sem, Nat.reduceEqDiff, Nat.reduceLT, Nat.reduceAdd, Nat.reduceMul, Nat.reduceSub, Nat.add_zero, Nat.zero_add, Int.reduceEq, Int.reduceLT]
  refine hK _ _ _ (by simp only [go_sem, Nat.reduceEqDiff, Nat.reduceLT, Nat.reduceAdd, Nat.reduceMul, Nat.reduceSub, Nat.add_zero, Nat.zero_add, Int.reduceEq, Int.reduceLT]; rfl) ?_; clear hK
  refine AWP.condS rfl (fun h9 => ?_) fun h9 => ?_
  · have hlt : bs.length - n < bs.length := by simpa using h9
    obtain ⟨b, q, ha, hd⟩ := hv.at1 (by simp) es_79 hlt
    have hd := hd M0 (Grew.refl _)
    rw [show (bs.map Value.bool)[bs.length - n]? = some (.bool bs[bs.length - n]) by simp [hlt]] at hd
    have hs1 : bs.length - (n - 1) = bs.length - n + 1 := by omega
    refine AWP.skip ?_
    refine AWP.seq ?_
    refine AWP.block ?_ -- b1
    refine AWP.stepR [3, 4, 5, 6, 7, 8] fun K hK => ?_ -- r4
    simp only [go_sem, Nat.reduceEqDiff, Nat.reduceLT, Nat.reduceAdd, Nat.reduceMul, Nat.reduceSub, Nat.add_zero, Nat.zero_add, Int.reduceEq, Int.reduceLT, ha, ld_4, hd]
    refine hK _ _ _ (by simp only [go_sem, Nat.reduceEqDiff, Nat.reduceLT, Nat.reduceAdd, Nat.reduceMul, Nat.reduceSub, Nat.add_zero, Nat.zero_add, Int.reduceEq, Int.reduceLT]; rfl) ?_; clear hK
    refine AWP.stepR [3, 4, 6, 7, 8, 13] fun K hK => ?_ -- r5
    simp only [go_sem, Nat.reduceEqDiff, Nat.reduceLT, Nat.reduceAdd, Nat.reduceMul, Nat.reduceSub, Nat.add_zero, Nat.zero_add, Int.reduceEq, Int.reduceLT]
    refine hK _ _ _ (by simp only [go_sem, Nat.reduceEqDiff, Nat.reduceLT, Nat.reduceAdd, Nat.reduceMul, Nat.reduceSub, Nat.add_zero, Nat.zero_add, Int.reduceEq, Int.reduceLT]; rfl) ?_; clear hK
    refine AWP.cond_split rfl (fun h13 => ?_) fun h13 => ?_
    · have hneg : (((bs.length - n : Nat) : Int) < 0) = False := eq_false (by omega)
      refine AWP.lastR fun K hK => ?_ -- r6
      simp only [go_sem, Nat.reduceEqDiff, Nat.reduceLT, Nat.reduceAdd, Nat.reduceMul, Nat.reduceSub, Nat.add_zero, Nat.zero_add, Int.reduceEq, Int.reduceLT, hneg]
      refine hK _ _ ?_; clear hK
      refine AWP.lastR fun K hK => ?_ -- r7
      simp only [go_sem, Nat.reduceEqDiff, Nat.reduceLT, Nat.reduceAdd, Nat.reduceMul, Nat.reduceSub, Nat.add_zero, Nat.zero_add, Int.reduceEq, Int.reduceLT]
      refine hK _ _ ?_; clear hK
      refine ⟨n - 1, by omega, rfl, by omega, ?_⟩ -- ROUND
      simp only [go_sem, Nat.reduceEqDiff, Nat.reduceLT, Nat.reduceAdd, Nat.reduceMul, Nat.reduceSub, Nat.add_zero, Nat.zero_add, Int.reduceEq, Int.reduceLT]
      rw [i64w (by omega) (by omega), hs1, flagF, if_pos (by rw [List.getElem?_eq_getElem hlt, h13])]
      simp only [Int.toNat_natCast, Int.natCast_add, Int.cast_ofNat_Int]
      rfl
    · refine AWP.skip ?_
      refine AWP.lastR fun K hK => ?_ -- r7
      simp only [go_sem, Nat.reduceEqDiff, Nat.reduceLT, Nat.reduceAdd, Nat.reduceMul, Nat.reduceSub, Nat.add_zero, Nat.zero_add, Int.reduceEq, Int.reduceLT]
      refine hK _ _ ?_; clear hK
      refine ⟨n - 1, by omega, rfl, by omega, ?_⟩ -- ROUND
      simp only [go_sem, Nat.reduceEqDiff, Nat.reduceLT, Nat.reduceAdd, Nat.reduceMul, Nat.reduceSub, Nat.add_zero, Nat.zero_add, Int.reduceEq, Int.reduceLT]
      rw [i64w (by omega) (by omega), hs1, flagF, if_neg (by rw [List.getElem?_eq_getElem hlt, h13]; simp)]
      simp only [Int.natCast_add, Int.cast_ofNat_Int]
  · refine AWP.exit (Then.exit (Then.exit (InBlock.same ?_))) -- x0
    have hn0 : n = 0 := by simp at h9; omega
    subst hn0
    refine AWP.stepR [2] fun K hK => ?_ -- r8
    simp only [go_sem, Nat.reduceEqDiff, Nat.reduceLT, Nat.reduceAdd, Nat.reduceMul, Nat.reduceSub, Nat.add_zero, Nat.zero_add, Int.reduceEq, Int.reduceLT]
    refine hK _ _ _ (by simp only [go_sem, Nat.reduceEqDiff, Nat.reduceLT, Nat.reduceAdd, Nat.reduceMul, Nat.reduceSub, Nat.add_zero, Nat.zero_add, Int.reduceEq, Int.reduceLT]; rfl) ?_; clear hK
    refine AWP.ret (?_)
    have hlt0 : M0.next < (M0.bump 1).next := Nat.lt_succ_self _
    refine Fin.own (n := 1) (cells := cB [flagF bs bs.length]) (e := 5) (fun v => v) (.inr rfl) rfl hok (((Grew.refl M0).bump 1).put (Nat.le_refl _) hlt0 _) (.inr ⟨M0.next, _, ⟨cB [flagF bs bs.length], 5, true⟩, Nat.le_refl _, hlt0, rfl, ?_, rfl, rfl, .inr rfl⟩) (cB_plain _) (fun _ _ _ _ h => h) fun r M' hg' hr' ho' => ⟨hg', ho' (by decide)⟩
    rw [Mem.get_put, if_pos rfl]; rfl

def longB (l : List Int) : List Int := putB l.length 4 ++ l
theorem longB_length (l : List Int) : (longB l).length = 4 + l.length := by simp [longB, putB_length]
theorem longB_ne (l : List Int) : longB l ≠ [] := by intro h; have := congrArg List.length h; rw [longB_length] at this; simp at this

theorem long44_spec (v : Value) (l : List Int) (M : Mem) (hok : Ok M) (hv : RowB M v l) (hl : l.length ≤ 1099511627776) : ∃ r M', ACall Try.prog 44 #[v] M r M' ∧ Grew M M' ∧ OwnB M M' r (longB l) 5 := by
  refine ACall.fin (args := [v]) (k := 9) Try.func44 rfl rfl rfl (Nat.le_of_ble_eq_true rfl) ?_
  refine AWP.stepR [0] fun K hK => ?_ -- r0
  simp only [go_sem, Nat.reduceEqDiff, Nat.reduceLT, Nat.reduceAdd, Nat.reduceMul, Nat.reduceSub, Nat.add_zero, Nat.zero_add, Int.reduceEq, Int.reduceLT]
  refine hK _ _ _ (by simp only [go_sem, Nat.reduceEqDiff, Nat.reduceLT, Nat.reduceAdd, Nat.reduceMul, Nat.reduceSub, Nat.add_zero, Nat.zero_add, Int.reduceEq, Int.reduceLT]; rfl) ?_; clear hK
  obtain ⟨r1, M1, hc, hg, hown⟩ := put43_spec 4 l.length M hok (by omega) (by omega)
  refine AWP.stepR [2] fun K hK => ?_ -- r1
  simp only [go_sem, Nat.reduceEqDiff, Nat.reduceLT, Nat.reduceAdd, Nat.reduceMul, Nat.reduceSub, Nat.add_zero, Nat.zero_add, Int.reduceEq, Int.reduceLT, hv.len es_23]
  rw [IntWalk.u64_in _ (by omega)]
  refine ⟨r1, M1, hc, ?_⟩
  obtain ⟨v2, M2, happ, hown2, hg2, hnx, hfr⟩ := Own.append ap_23_23 hg hown (by rw [cB_length, Nat.mul_one]) ((hv.grew hg).content (by rw [cB_length, Nat.mul_one])) (cB_one _) (by rw [putB_length]; omega)
  simp only [happ, go_sem, Nat.reduceEqDiff, Nat.reduceLT, Nat.reduceAdd, Nat.reduceMul, Nat.reduceSub, Nat.add_zero, Nat.zero_add, Int.reduceEq, Int.reduceLT]
  refine hK _ _ _ (by simp only [go_sem, Nat.reduceEqDiff, Nat.reduceLT, Nat.reduceAdd, Nat.reduceMul, Nat.reduceSub, Nat.add_zero, Nat.zero_add, Int.reduceEq, Int.reduceLT]; rfl) ?_; clear hK
  refine AWP.ret (?_)
  rw [← cB_append, show (putB (l.length : Int) 4).length + l.length = (longB l).length by simp [longB]] at hown2
  exact Fin.own (fun v => v) (.inr rfl) rfl hok hg2 hown2 (cB_plain _) (fun _ _ _ _ h => h) fun r M' hg' hr' ho' => ⟨hg', ho' (by rw [longB_length]; omega)⟩

theorem long40_spec (v : Value) (l : List Int) (M : Mem) (hok : Ok M) (hv : RowB M v l) (hl : l.length ≤ 1000000000) : ∃ r M', ACall Try.prog 40 #[v] M r M' ∧ Grew M M' ∧ OwnB M M' r (longB l) 5 := by
  refine ACall.fin (args := [v]) (k := 10) Try.func40 rfl rfl rfl (Nat.le_of_ble_eq_true rfl) ?_
  refine AWP.stepR [0] fun K hK => ?_ -- r0
  simp only [go_sem, Nat.reduceEqDiff, Nat.reduceLT, Nat.reduceAdd, Nat.reduceMul, Nat.reduceSub, Nat.add_zero, Nat.zero_add, Int.reduceEq, Int.reduceLT]
  refine hK _ _ _ (by simp only [go_sem, Nat.reduceEqDiff, Nat.reduceLT, Nat.reduceAdd, Nat.reduceMul, Nat.reduceSub, Nat.add_zero, Nat.zero_add, Int.reduceEq, Int.reduceLT]; rfl) ?_; clear hK
  obtain ⟨r1, M1, hc, hg, hown⟩ := put39_spec 4 l.length (M.bump 1) (((Grew.refl M).bump 1).ok hok) (by omega) (by omega) (by decide)
  refine AWP.stepR [2] fun K hK => ?_ -- r1
  simp only [go_sem, Nat.reduceEqDiff, Nat.reduceLT, Nat.reduceAdd, Nat.reduceMul, Nat.reduceSub, Nat.add_zero, Nat.zero_add, Int.reduceEq, Int.reduceLT, hv.len es_23]
  rw [IntWalk.u64_in _ (by omega)]
  refine ⟨r1, M1, hc, ?_⟩
  have hlt : M.next < M1.next := by have := hg.next; rw [Mem.next_bump] at this; omega
  have hgb : Grew M M1 := ((Grew.refl M).bump 1).trans hg
  simp only [go_sem, Nat.reduceEqDiff, Nat.reduceLT, Nat.reduceAdd, Nat.reduceMul, Nat.reduceSub, Nat.add_zero, Nat.zero_add, Int.reduceEq, Int.reduceLT, hown.row.one, (hv.grew hgb).one]
  generalize hM2 : M1.put M.next ⟨[r1, v], 23, true⟩ = M2
  have hg2 : Grew M M2 := by rw [← hM2]; exact hgb.put (Nat.le_refl _) hlt _
  have hh : Has M2 M.next ⟨[r1, v], 23, true⟩ := by rw [← hM2]; exact Has.put hlt _
  have ho2 : OwnB (M.bump 1) M2 r1 (putB l.length 4) 5 := by rw [← hM2]; exact hown.put (by rw [Mem.next_bump]; omega) _
  obtain ⟨r3, M3, hc3, hg3, hown3⟩ := join37_spec (.slice (some ⟨M.next, 0, none⟩) 2 2) [r1, v] [putB l.length 4, l] M2 (hg2.ok hok) (Row_.of hh) (.cons ho2.row (.cons (hv.grew hg2) (.nil _))) (by simp [putB_length]; omega) (by simp) (by have := longB_ne l; simpa [longB] using this)
  refine ⟨r3, M3, hc3, ?_⟩
  refine hK _ _ _ (by simp only [go_sem, Nat.reduceEqDiff, Nat.reduceLT, Nat.reduceAdd, Nat.reduceMul, Nat.reduceSub, Nat.add_zero, Nat.zero_add, Int.reduceEq, Int.reduceLT]; rfl) ?_; clear hK
  refine AWP.ret (?_)
  rw [show [putB (l.length : Int) 4, l].flatten = longB l by simp [longB]] at hown3
  exact Fin.own (fun v => v) (.inr rfl) rfl hok (hg2.trans hg3) (hown3.base hg2.next) (cB_plain _) (fun _ _ _ _ h => h) fun r M' hg' hr' ho' => ⟨hg', ho' (by rw [longB_length]; omega)⟩
end Go.Proofs.Ythheaehpnleiaaa.AX
