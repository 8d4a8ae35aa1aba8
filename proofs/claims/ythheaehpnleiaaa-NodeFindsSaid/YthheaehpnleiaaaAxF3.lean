/- Rows of bytes, one behind the other; a byte of yes and no. -/
import Derived.Test.YthheaehpnleiaaaAxF2
namespace Go.Proofs.Ythheaehpnleiaaa.AX
open Go Go.Proofs
set_option maxRecDepth 100000
set_option linter.unusedVariables false
set_option linter.unusedSimpArgs false

def Parts (M : Mem) (vs : List Value) (ls : List (List Int)) : Prop := vs.length = ls.length ∧ ∀ (i : Nat) (v : Value) (l : List Int), vs[i]? = some v → ls[i]? = some l → RowB M v l
theorem Parts.grew {M M1 : Mem} {vs : List Value} {ls : List (List Int)} (h : Parts M vs ls) (hg : Grew M M1) : Parts M1 vs ls := ⟨h.1, fun i v l h1 h2 => (h.2 i v l h1 h2).grew hg⟩
theorem Parts.nil (M : Mem) : Parts M [] [] := ⟨rfl, fun i v l h => by simp at h⟩
theorem Parts.cons {M : Mem} {v : Value} {l : List Int} {vs : List Value} {ls : List (List Int)} (h : RowB M v l) (h' : Parts M vs ls) : Parts M (v :: vs) (l :: ls) := by
  refine ⟨by simp [h'.1], fun i v' l' h1 h2 => ?_⟩
  cases i with
  | zero => simp at h1 h2; subst h1 h2; exact h
  | succ i => simp at h1 h2; exact h'.2 i v' l' h1 h2
theorem take_flat (ls : List (List Int)) {i : Nat} (h : i < ls.length) : (ls.take (i + 1)).flatten = (ls.take i).flatten ++ ls[i] := by
  rw [List.take_succ_eq_append_getElem h, List.flatten_append]; simp
theorem flat_le (ls : List (List Int)) (i : Nat) : (ls.take i).flatten.length ≤ ls.flatten.length := by
  have := congrArg (fun l => l.flatten.length) (List.take_append_drop i ls)
  simp only [List.flatten_append, List.length_append] at this
  omega

theorem join37_spec (v : Value) (vs : List Value) (ls : List (List Int)) (M : Mem) (hok : Ok M) (hv : Row_ M v vs.length vs) (hp : Parts M vs ls) (hl : ls.flatten.length ≤ 1099511627776) (hn : vs.length ≤ 1099511627776) (hne : ls.flatten ≠ []) :
    ∃ r M', ACall Try.prog 37 #[v] M r M' ∧ Grew M M' ∧ OwnB M M' r ls.flatten 5 := by
  refine ACall.fin (args := [v]) (k := 33) Try.func37 rfl rfl rfl (Nat.le_of_ble_eq_true rfl) ?_
  refine AWP.stepR [0] fun K hK => ?_ -- r0
  simp only [go_sem, Nat.reduceEqDiff, Nat.reduceLT, Nat.reduceAdd, Nat.reduceMul, Nat.reduceSub, Nat.add_zero, Nat.zero_add, Int.reduceEq, Int.reduceLT]
  refine hK _ _ _ (by simp only [go_sem, Nat.reduceEqDiff, Nat.reduceLT, Nat.reduceAdd, Nat.reduceMul, Nat.reduceSub, Nat.add_zero, Nat.zero_add, Int.reduceEq, Int.reduceLT]; rfl) ?_; clear hK
  refine AWP.stepR [0, 3] fun K hK => ?_ -- r1
  simp only [go_sem, Nat.reduceEqDiff, Nat.reduceLT, Nat.reduceAdd, Nat.reduceMul, Nat.reduceSub, Nat.add_zero, Nat.zero_add, Int.reduceEq, Int.reduceLT]
  refine hK _ _ _ (by simp only [go_sem, Nat.reduceEqDiff, Nat.reduceLT, Nat.reduceAdd, Nat.reduceMul, Nat.reduceSub, Nat.add_zero, Nat.zero_add, Int.reduceEq, Int.reduceLT]; rfl) ?_; clear hK
  refine AWP.seq ?_
  refine AWP.stepR [0, 3, 9, 10, 11] fun K hK => ?_ -- r2
  simp only [go_sem, Nat.reduceEqDiff, Nat.reduceLT, Nat.reduceAdd, Nat.reduceMul, Nat.reduceSub, Nat.add_zero, Nat.zero_add, Int.reduceEq, Int.reduceLT, hv.len es_121]
  refine hK _ _ _ (by simp only [go_sem, Nat.reduceEqDiff, Nat.reduceLT, Nat.reduceAdd, Nat.reduceMul, Nat.reduceSub, Nat.add_zero, Nat.zero_add, Int.reduceEq, Int.reduceLT]; rfl) ?_; clear hK
  refine AWP.block ?_ -- b0
  refine AWP.loopK [0, 3, 9, 10, 11] (fun n e M0 => M0 = M ∧ n ≤ vs.length ∧ e = [(0, v), (3, .int .i64 ((ls.take (vs.length - n)).flatten.length : Nat)), (9, v), (10, .int .i64 vs.length), (11, .int .i64 ((vs.length - n : Nat) : Int))]) vs.length ?_ fun n e M0 hI => ?_ -- LOOP
  · simp only [go_sem, Nat.reduceEqDiff, Nat.reduceLT, Nat.reduceAdd, Nat.reduceMul, Nat.reduceSub, Nat.add_zero, Nat.zero_add, Int.reduceEq, Int.reduceLT, Nat.le_refl]
    simp
  obtain ⟨rfl, hn', rfl⟩ := hI
  refine AWP.stepR [0, 3, 9, 10, 11, 12] fun K hK => ?_ -- r3
  simp only [go_sem, Nat.reduceEqDiff, Nat.reduceLT, Nat.reduceAdd, Nat.reduceMul, Nat.reduceSub, Nat.add_zero, Nat.zero_add, Int.reduceEq, Int.reduceLT]
  refine hK _ _ _ (by simp only [go_sem, Nat.reduceEqDiff, Nat.reduceLT, Nat.reduceAdd, Nat.reduceMul, Nat.reduceSub, Nat.add_zero, Nat.zero_add, Int.reduceEq, Int.reduceLT]; rfl) ?_; clear hK
  refine AWP.condS rfl (fun h12 => ?_) fun h12 => ?_
  · have hlt : vs.length - n < vs.length := by simpa using h12
    have hlt' : vs.length - n < ls.length := by rw [← hp.1]; exact hlt
    obtain ⟨b, q, ha, hd⟩ := hv.at1 rfl es_121 hlt
    have hd := hd M0 (Grew.refl _)
    rw [List.getElem?_eq_getElem hlt] at hd
    have hx := hp.2 _ _ _ (List.getElem?_eq_getElem hlt) (List.getElem?_eq_getElem hlt')
    generalize vs[vs.length - n] = x at hd hx
    refine AWP.skip ?_
    refine AWP.seq ?_
    refine AWP.block ?_ -- b1
    refine AWP.stepR [0, 3, 5, 9, 10, 11] fun K hK => ?_ -- r4
    simp only [go_sem, Nat.reduceEqDiff, Nat.reduceLT, Nat.reduceAdd, Nat.reduceMul, Nat.reduceSub, Nat.add_zero, Nat.zero_add, Int.reduceEq, Int.reduceLT, ha, ld_23, hd]
    refine hK _ _ _ (by simp only [go_sem, Nat.reduceEqDiff, Nat.reduceLT, Nat.reduceAdd, Nat.reduceMul, Nat.reduceSub, Nat.add_zero, Nat.zero_add, Int.reduceEq, Int.reduceLT]; rfl) ?_; clear hK
    refine AWP.lastR fun K hK => ?_ -- r5
    simp only [go_sem, Nat.reduceEqDiff, Nat.reduceLT, Nat.reduceAdd, Nat.reduceMul, Nat.reduceSub, Nat.add_zero, Nat.zero_add, Int.reduceEq, Int.reduceLT, hx.len es_23]
    refine hK _ _ ?_; clear hK
    refine AWP.lastR fun K hK => ?_ -- r6
    simp only [go_sem, Nat.reduceEqDiff, Nat.reduceLT, Nat.reduceAdd, Nat.reduceMul, Nat.reduceSub, Nat.add_zero, Nat.zero_add, Int.reduceEq, Int.reduceLT]
    refine hK _ _ ?_; clear hK
    have hfl := take_flat ls hlt'
    have hfe : (ls.take (vs.length - n)).flatten.length + ls[vs.length - n].length = (ls.take (vs.length - n + 1)).flatten.length := by rw [hfl, List.length_append]
    have hfle := flat_le ls (vs.length - n + 1)
    refine ⟨n - 1, by omega, rfl, by omega, ?_⟩ -- ROUND
    simp only [go_sem, Nat.reduceEqDiff, Nat.reduceLT, Nat.reduceAdd, Nat.reduceMul, Nat.reduceSub, Nat.add_zero, Nat.zero_add, Int.reduceEq, Int.reduceLT]
    rw [i64w (by omega) (by omega), i64w (by omega) (by omega), show ((vs.length - n : Nat) : Int) + 1 = ((vs.length - (n - 1) : Nat) : Int) by omega,
      show (((ls.take (vs.length - n)).flatten.length : Nat) : Int) + ((ls[vs.length - n].length : Nat) : Int) = (((ls.take (vs.length - (n - 1))).flatten.length : Nat) : Int) by rw [show vs.length - (n - 1) = vs.length - n + 1 by omega]; omega]
  · refine AWP.exit (Then.exit (Then.exit (InBlock.same ?_))) -- x0
    have hn0 : n = 0 := by simp at h12; omega
    subst hn0
    rw [Nat.sub_zero, hp.1, List.take_length]
    have hms : (0 ≤ (0 : Int) ∧ (0 : Int) ≤ (ls.flatten.length : Int) ∧ (ls.flatten.length : Int) ≤ 281474976710656 ∧ ((1 : Nat) : Int) * (ls.flatten.length : Int) ≤ 281474976710656) = True := eq_true ⟨by omega, by omega, by omega, by omega⟩
    refine AWP.stepR [0, 6] fun K hK => ?_ -- r7
    simp only [go_sem, Nat.reduceEqDiff, Nat.reduceLT, Nat.reduceAdd, Nat.reduceMul, Nat.reduceSub, Nat.add_zero, Nat.zero_add, Int.reduceEq, Int.reduceLT, hms, Int.toNat_natCast, Int.toNat_zero]
    refine hK _ _ _ (by simp only [go_sem, Nat.reduceEqDiff, Nat.reduceLT, Nat.reduceAdd, Nat.reduceMul, Nat.reduceSub, Nat.add_zero, Nat.zero_add, Int.reduceEq, Int.reduceLT]; rfl) ?_; clear hK
    have hlt0 : M0.next < (M0.bump 1).next := Nat.lt_succ_self _
    generalize hM1 : (M0.bump 1).put M0.next ⟨zrow Try.prog 5 ls.flatten.length, 5, true⟩ = M1
    have hg1 : Grew M0 M1 := by rw [← hM1]; exact ((Grew.refl M0).bump 1).put (Nat.le_refl _) hlt0 _
    have ho1 : Own M0 M1 (.slice (some ⟨M0.next, 0, none⟩) 0 ls.flatten.length) 0 [] 5 := .inr ⟨M0.next, _, _, Nat.le_refl _, by rw [← hM1]; exact hlt0, rfl, by rw [← hM1, Mem.get_put, if_pos rfl], rfl, rfl, .inl ⟨rfl, rfl⟩⟩
    generalize Value.slice (some ⟨M0.next, 0, none⟩) 0 ls.flatten.length = b0 at ho1
    refine AWP.seq ?_
    refine AWP.stepR [6, 22, 23, 24] fun K hK => ?_ -- r8
    simp only [go_sem, Nat.reduceEqDiff, Nat.reduceLT, Nat.reduceAdd, Nat.reduceMul, Nat.reduceSub, Nat.add_zero, Nat.zero_add, Int.reduceEq, Int.reduceLT, hv.len es_121]
    refine hK _ _ _ (by simp only [go_sem, Nat.reduceEqDiff, Nat.reduceLT, Nat.reduceAdd, Nat.reduceMul, Nat.reduceSub, Nat.add_zero, Nat.zero_add, Int.reduceEq, Int.reduceLT]; rfl) ?_; clear hK
    refine AWP.block ?_ -- b2
    refine AWP.loopK [6, 22, 23, 24] (fun n e M2 => n ≤ vs.length ∧ Grew M0 M2 ∧ ∃ bv, e = [(6, bv), (22, v), (23, .int .i64 vs.length), (24, .int .i64 ((vs.length - n : Nat) : Int))] ∧ OwnB M0 M2 bv (ls.take (vs.length - n)).flatten 5) vs.length ?_ fun n e M2 hI => ?_ -- LOOP
    · simp only [go_sem, Nat.reduceEqDiff, Nat.reduceLT, Nat.reduceAdd, Nat.reduceMul, Nat.reduceSub, Nat.add_zero, Nat.zero_add, Int.reduceEq, Int.reduceLT, Nat.le_refl]
      exact ⟨hg1, b0, by simp, by rw [Nat.sub_self]; exact ho1⟩
    obtain ⟨hn', hg2, bv, rfl, ho2⟩ := hI
    refine AWP.stepR [6, 22, 23, 24, 25] fun K hK => ?_ -- r9
    simp only [go_sem, Nat.reduceEqDiff, Nat.reduceLT, Nat.reduceAdd, Nat.reduceMul, Nat.reduceSub, Nat.add_zero, Nat.zero_add, Int.reduceEq, Int.reduceLT]
    refine hK _ _ _ (by simp only [go_sem, Nat.reduceEqDiff, Nat.reduceLT, Nat.reduceAdd, Nat.reduceMul, Nat.reduceSub, Nat.add_zero, Nat.zero_add, Int.reduceEq, Int.reduceLT]; rfl) ?_; clear hK
    refine AWP.condS rfl (fun h25 => ?_) fun h25 => ?_
    · have hlt : vs.length - n < vs.length := by simpa using h25
      have hlt' : vs.length - n < ls.length := by rw [← hp.1]; exact hlt
      obtain ⟨b, q, ha, hd⟩ := hv.at1 rfl es_121 hlt
      have hd := hd M2 hg2
      rw [List.getElem?_eq_getElem hlt] at hd
      have hx := (hp.2 _ _ _ (List.getElem?_eq_getElem hlt) (List.getElem?_eq_getElem hlt')).grew hg2
      generalize vs[vs.length - n] = x at hd hx
      have hfl := take_flat ls hlt'
      have hfe : (ls.take (vs.length - n)).flatten.length + ls[vs.length - n].length = (ls.take (vs.length - n + 1)).flatten.length := by rw [hfl, List.length_append]
      have hfle := flat_le ls (vs.length - n + 1)
      refine AWP.skip ?_
      refine AWP.seq ?_
      refine AWP.block ?_ -- b3
      refine AWP.stepR [6, 8, 22, 23, 24] fun K hK => ?_ -- r10
      simp only [go_sem, Nat.reduceEqDiff, Nat.reduceLT, Nat.reduceAdd, Nat.reduceMul, Nat.reduceSub, Nat.add_zero, Nat.zero_add, Int.reduceEq, Int.reduceLT, ha, ld_23, hd]
      refine hK _ _ _ (by simp only [go_sem, Nat.reduceEqDiff, Nat.reduceLT, Nat.reduceAdd, Nat.reduceMul, Nat.reduceSub, Nat.add_zero, Nat.zero_add, Int.reduceEq, Int.reduceLT]; rfl) ?_; clear hK
      obtain ⟨v2, M3, happ, ho3, hg3, hnx, hfr⟩ := Own.append ap_23_23 hg2 ho2 (by rw [cB_length, Nat.mul_one]) (hx.content (by rw [cB_length, Nat.mul_one])) (cB_one _) (by omega)
      refine AWP.lastR fun K hK => ?_ -- r11
      simp only [go_sem, Nat.reduceEqDiff, Nat.reduceLT, Nat.reduceAdd, Nat.reduceMul, Nat.reduceSub, Nat.add_zero, Nat.zero_add, Int.reduceEq, Int.reduceLT, happ]
      refine hK _ _ ?_; clear hK
      refine AWP.lastR fun K hK => ?_ -- r12
      simp only [go_sem, Nat.reduceEqDiff, Nat.reduceLT, Nat.reduceAdd, Nat.reduceMul, Nat.reduceSub, Nat.add_zero, Nat.zero_add, Int.reduceEq, Int.reduceLT]
      refine hK _ _ ?_; clear hK
      refine ⟨n - 1, by omega, by omega, hg3, v2, ?_, ?_⟩ -- ROUND
      · simp only [go_sem, Nat.reduceEqDiff, Nat.reduceLT, Nat.reduceAdd, Nat.reduceMul, Nat.reduceSub, Nat.add_zero, Nat.zero_add, Int.reduceEq, Int.reduceLT]
        rw [i64w (by omega) (by omega), show ((vs.length - n : Nat) : Int) + 1 = ((vs.length - (n - 1) : Nat) : Int) by omega]
      · rw [hfe, ← cB_append, ← hfl] at ho3
        rw [show vs.length - (n - 1) = vs.length - n + 1 by omega]
        exact ho3
    · refine AWP.exit (Then.exit (Then.exit (InBlock.same ?_))) -- x2
      have hn0 : n = 0 := by simp at h25; omega
      subst hn0
      rw [Nat.sub_zero, hp.1, List.take_length] at ho2
      refine AWP.stepR [2] fun K hK => ?_ -- r13
      simp only [go_sem, Nat.reduceEqDiff, Nat.reduceLT, Nat.reduceAdd, Nat.reduceMul, Nat.reduceSub, Nat.add_zero, Nat.zero_add, Int.reduceEq, Int.reduceLT]
      refine hK _ _ _ (by simp only [go_sem, Nat.reduceEqDiff, Nat.reduceLT, Nat.reduceAdd, Nat.reduceMul, Nat.reduceSub, Nat.add_zero, Nat.zero_add, Int.reduceEq, Int.reduceLT]; rfl) ?_; clear hK
      refine AWP.ret (?_)
      exact Fin.own (fun v => v) (.inr rfl) rfl hok hg2 ho2 (cB_plain _) (fun _ _ _ _ h => h) fun r M' hg' hr' ho' => ⟨hg', ho' (by intro h; exact hne (List.eq_nil_of_length_eq_zero h))⟩
end Go.Proofs.Ythheaehpnleiaaa.AX
