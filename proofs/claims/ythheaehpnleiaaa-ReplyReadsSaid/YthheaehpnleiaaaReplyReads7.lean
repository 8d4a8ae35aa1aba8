/- Small functions: a bit, a number's range, like bytes. -/
import Derived.Test.YthheaehpnleiaaaReplyReads6
import Derived.Test.YthheaehpnleiaaaReplyReads5
namespace Go.Proofs.Ythheaehpnleiaaa.AX
open Go Go.Proofs
set_option maxRecDepth 100000
set_option linter.unusedVariables false
set_option linter.unusedSimpArgs false

theorem hmo : Try.prog.follows .mixedOrders = true := by kernel_rfl
def numOk (x : Int) : Bool := decide (0 ≤ x) && decide (x ≤ 1099511627776)
theorem small47_spec (x : Int) (M : Mem) (hok : Ok M) : ∃ r M', ACall Try.prog 47 #[.int .i64 x] M r M' ∧ r = .bool (numOk x) ∧ M' = M := by
  refine ACall.fin (args := [.int .i64 x]) (k := 9) Try.func47 rfl rfl rfl (Nat.le_of_ble_eq_true rfl) ?_
  refine AWP.stepR [0] fun K hK => ?_
  simp only [go_sem, Nat.reduceEqDiff, Nat.reduceLT, Nat.reduceAdd, Nat.reduceMul, Nat.reduceSub, Nat.add_zero, Nat.zero_add, Int.reduceEq, Int.reduceLT]
  refine hK _ _ _ (by simp only [go_sem, Nat.reduceEqDiff, Nat.reduceLT, Nat.reduceAdd, Nat.reduceMul, Nat.reduceSub, Nat.add_zero, Nat.zero_add, Int.reduceEq, Int.reduceLT]; rfl) ?_; clear hK
  refine AWP.stepX [2] [(2, .bool (numOk x))] M (fun K hK => ?_) ?_
  · cases h0 : decide (x ≥ 0) <;> simp only [go_sem, Nat.reduceEqDiff, Nat.reduceLT, Nat.reduceAdd, Nat.reduceMul, Nat.reduceSub, Nat.add_zero, Nat.zero_add, Int.reduceEq, Int.reduceLT, h0] <;> refine hK _ ?_ <;> simp only [go_sem, Nat.reduceEqDiff, Nat.reduceLT, Nat.reduceAdd, Nat.reduceMul, Nat.reduceSub, Nat.add_zero, Nat.zero_add, Int.reduceEq, Int.reduceLT, numOk, ge_iff_le] at h0 ⊢ <;> simp only [h0, Bool.true_and, Bool.false_and]
  · exact AWP.ret (Fin.plain (.inr rfl) rfl rfl hok (Grew.refl _) ⟨rfl, rfl⟩)

theorem small46_spec (v : Value) (l : List Int) (M : Mem) (hok : Ok M) (hv : Row_ M v l.length (l.map (.int .i64))) (hl : l.length ≤ 1000000) : ∃ r M', ACall Try.prog 46 #[v] M r M' ∧ r = .bool (l.all numOk) ∧ M' = M := by
  refine ACall.fin (args := [v]) (k := 18) Try.func46 rfl rfl rfl (Nat.le_of_ble_eq_true rfl) ?_
  refine AWP.stepR [0] fun K hK => ?_ -- r0
  simp only [go_sem, Nat.reduceEqDiff, Nat.reduceLT, Nat.reduceAdd, Nat.reduceMul, Nat.reduceSub, Nat.add_zero, Nat.zero_add, Int.reduceEq, Int.reduceLT]
  refine hK _ _ _ (by simp only [go_sem, Nat.reduceEqDiff, Nat.reduceLT, Nat.reduceAdd, Nat.reduceMul, Nat.reduceSub, Nat.add_zero, Nat.zero_add, Int.reduceEq, Int.reduceLT]; rfl) ?_; clear hK
  refine AWP.seq ?_
  refine AWP.stepR [5, 6, 7] fun K hK => ?_ -- r1
  simp only [go_sem, Nat.reduceEqDiff, Nat.reduceLT, Nat.reduceAdd, Nat.reduceMul, Nat.reduceSub, Nat.add_zero, Nat.zero_add, Int.reduceEq, Int.reduceLT, hv.len (P := Try.prog) (t := 66) (sz := 1) (by kernel_rfl)]
  refine hK _ _ _ (by simp only [go_sem, Nat.reduceEqDiff, Nat.reduceLT, Nat.reduceAdd, Nat.reduceMul, Nat.reduceSub, Nat.add_zero, Nat.zero_add, Int.reduceEq, Int.reduceLT]; rfl) ?_; clear hK
  refine AWP.block ?_ -- b0
  refine AWP.loopK [5, 6, 7] (fun n e M0 => M0 = M ∧ n ≤ l.length ∧ e = [(5, v), (6, .int .i64 l.length), (7, .int .i64 ((l.length - n : Nat) : Int))] ∧ (l.take (l.length - n)).all numOk = true) l.length ?_ fun n e M0 hI => ?_ -- LOOP
  · simp only [go_sem, Nat.reduceEqDiff, Nat.reduceLT, Nat.reduceAdd, Nat.reduceMul, Nat.reduceSub, Nat.add_zero, Nat.zero_add, Int.reduceEq, Int.reduceLT, true_and, Nat.le_refl]
    exact ⟨by simp, by simp⟩
  obtain ⟨rfl, hn, rfl, hall⟩ := hI
  refine AWP.stepR [5, 6, 7, 8] fun K hK => ?_ -- r2
  simp only [go_sem, Nat.reduceEqDiff, Nat.reduceLT, Nat.reduceAdd, Nat.reduceMul, Nat.reduceSub, Nat.add_zero, Nat.zero_add, Int.reduceEq, Int.reduceLT]
  refine hK _ _ _ (by simp only [go_sem, Nat.reduceEqDiff, Nat.reduceLT, Nat.reduceAdd, Nat.reduceMul, Nat.reduceSub, Nat.add_zero, Nat.zero_add, Int.reduceEq, Int.reduceLT]; rfl) ?_; clear hK
  refine AWP.condS rfl (fun h => ?_) fun h => ?_ -- if (tmp 8)
  · refine AWP.skip ?_
    have hlt : l.length - n < l.length := by simpa using h
    obtain ⟨b, q, ha, hd⟩ := hv.at1 (by simp) (P := Try.prog) (t := 66) (by kernel_rfl) hlt
    have hd := hd M0 (Grew.refl _)
    rw [show (l.map (Value.int .i64))[l.length - n]? = some (.int .i64 l[l.length - n]) by simp [hlt]] at hd
    generalize hxx : l[l.length - n] = x at hd
    refine AWP.seq ?_
    refine AWP.block ?_ -- b1
    refine AWP.stepR [4, 5, 6, 7] fun K hK => ?_ -- r3
    simp only [go_sem, Nat.reduceEqDiff, Nat.reduceLT, Nat.reduceAdd, Nat.reduceMul, Nat.reduceSub, Nat.add_zero, Nat.zero_add, Int.reduceEq, Int.reduceLT, ha, ld_3, hd]
    refine hK _ _ _ (by simp only [go_sem, Nat.reduceEqDiff, Nat.reduceLT, Nat.reduceAdd, Nat.reduceMul, Nat.reduceSub, Nat.add_zero, Nat.zero_add, Int.reduceEq, Int.reduceLT]; rfl) ?_; clear hK
    refine AWP.stepX [5, 6, 7, 16] [(5, v), (6, .int .i64 l.length), (7, .int .i64 ((l.length - n : Nat) : Int)), (16, .bool (!numOk x))] M0 (fun K hK => ?_) ?_ -- r4
    · cases h0 : decide (x < 0) <;> simp only [go_sem, Nat.reduceEqDiff, Nat.reduceLT, Nat.reduceAdd, Nat.reduceMul, Nat.reduceSub, Nat.add_zero, Nat.zero_add, Int.reduceEq, Int.reduceLT, h0] <;> refine hK _ ?_ <;> simp only [go_sem, Nat.reduceEqDiff, Nat.reduceLT, Nat.reduceAdd, Nat.reduceMul, Nat.reduceSub, Nat.add_zero, Nat.zero_add, Int.reduceEq, Int.reduceLT]
      · rw [show decide (x > 1099511627776) = !numOk x by rw [Bool.eq_iff_iff]; simp [numOk] at h0 ⊢; omega]
      · rw [show true = !numOk x by rw [Bool.eq_iff_iff]; simp [numOk] at h0 ⊢; omega]
    refine AWP.cond_split rfl (fun h => ?_) fun h => ?_ -- if (tmp 16)
    · refine AWP.stepR [2] fun K hK => ?_ -- r5
      simp only [go_sem, Nat.reduceEqDiff, Nat.reduceLT, Nat.reduceAdd, Nat.reduceMul, Nat.reduceSub, Nat.add_zero, Nat.zero_add, Int.reduceEq, Int.reduceLT]
      refine hK _ _ _ (by simp only [go_sem, Nat.reduceEqDiff, Nat.reduceLT, Nat.reduceAdd, Nat.reduceMul, Nat.reduceSub, Nat.add_zero, Nat.zero_add, Int.reduceEq, Int.reduceLT]; rfl) ?_; clear hK
      refine AWP.ret (InBlock.ret (Then.ret (Then.ret (InBlock.ret (Then.ret (?_))))))
      refine Fin.plain (.inr rfl) rfl rfl hok (Grew.refl _) ⟨?_, rfl⟩
      rw [show l.all numOk = false from List.all_eq_false.2 ⟨x, hxx ▸ List.getElem_mem hlt, by simpa using h⟩]
    · refine AWP.skip ?_
      refine AWP.lastR fun K hK => ?_ -- r6
      simp only [go_sem, Nat.reduceEqDiff, Nat.reduceLT, Nat.reduceAdd, Nat.reduceMul, Nat.reduceSub, Nat.add_zero, Nat.zero_add, Int.reduceEq, Int.reduceLT]
      refine hK _ _ ?_; clear hK
      refine ⟨n - 1, by omega, rfl, by omega, ?_, ?_⟩ -- ROUND
      · simp only [go_sem, Nat.reduceEqDiff, Nat.reduceLT, Nat.reduceAdd, Nat.reduceMul, Nat.reduceSub, Nat.add_zero, Nat.zero_add, Int.reduceEq, Int.reduceLT]
        rw [i64w (by omega) (by omega), show ((l.length - n : Nat) : Int) + 1 = ((l.length - (n - 1) : Nat) : Int) by omega]
      · rw [show l.length - (n - 1) = l.length - n + 1 by omega, List.take_succ_eq_append_getElem hlt, List.all_append, hall, hxx]
        simpa using h
  · refine AWP.exit (Then.exit (Then.exit (InBlock.same ?_))) -- x0
    refine AWP.stepR [2] fun K hK => ?_ -- r7
    simp only [go_sem, Nat.reduceEqDiff, Nat.reduceLT, Nat.reduceAdd, Nat.reduceMul, Nat.reduceSub, Nat.add_zero, Nat.zero_add, Int.reduceEq, Int.reduceLT]
    refine hK _ _ _ (by simp only [go_sem, Nat.reduceEqDiff, Nat.reduceLT, Nat.reduceAdd, Nat.reduceMul, Nat.reduceSub, Nat.add_zero, Nat.zero_add, Int.reduceEq, Int.reduceLT]; rfl) ?_; clear hK
    refine AWP.ret (?_)
    refine Fin.plain (.inr rfl) rfl rfl hok (Grew.refl _) ⟨?_, rfl⟩
    have hn0 : n = 0 := by simp at h; omega
    rw [hn0, Nat.sub_zero, List.take_length] at hall
    rw [hall]

theorem same14_spec (v w : Value) (l m : List Int) (M : Mem) (hok : Ok M) (hv : RowB M v l) (hw : RowB M w m) (hl : l.length ≤ 4611686018427387904) : ∃ r M', ACall Try.prog 14 #[v, w] M r M' ∧ r = .bool (l == m) ∧ M' = M := by
  refine ACall.fin (args := [v, w]) (k := 26) Try.func14 rfl rfl rfl (Nat.le_of_ble_eq_true rfl) ?_
  refine AWP.stepR [0, 1] fun K hK => ?_ -- r0
  simp only [go_sem, Nat.reduceEqDiff, Nat.reduceLT, Nat.reduceAdd, Nat.reduceMul, Nat.reduceSub, Nat.add_zero, Nat.zero_add, Int.reduceEq, Int.reduceLT]
  refine hK _ _ _ (by simp only [go_sem, Nat.reduceEqDiff, Nat.reduceLT, Nat.reduceAdd, Nat.reduceMul, Nat.reduceSub, Nat.add_zero, Nat.zero_add, Int.reduceEq, Int.reduceLT]; rfl) ?_; clear hK
  refine AWP.seq ?_
  refine AWP.stepR [0, 1, 10] fun K hK => ?_ -- r1
  simp only [go_sem, Nat.reduceEqDiff, Nat.reduceLT, Nat.reduceAdd, Nat.reduceMul, Nat.reduceSub, Nat.add_zero, Nat.zero_add, Int.reduceEq, Int.reduceLT, hv.len (P := Try.prog) (t := 23) (sz := 1) (by kernel_rfl), hw.len (P := Try.prog) (t := 23) (sz := 1) (by kernel_rfl)]
  refine hK _ _ _ (by simp only [go_sem, Nat.reduceEqDiff, Nat.reduceLT, Nat.reduceAdd, Nat.reduceMul, Nat.reduceSub, Nat.add_zero, Nat.zero_add, Int.reduceEq, Int.reduceLT]; rfl) ?_; clear hK
  refine AWP.cond_split rfl (fun h => ?_) fun h => ?_ -- if (tmp 10)
  · refine AWP.stepR [4] fun K hK => ?_ -- r2
    simp only [go_sem, Nat.reduceEqDiff, Nat.reduceLT, Nat.reduceAdd, Nat.reduceMul, Nat.reduceSub, Nat.add_zero, Nat.zero_add, Int.reduceEq, Int.reduceLT]
    refine hK _ _ _ (by simp only [go_sem, Nat.reduceEqDiff, Nat.reduceLT, Nat.reduceAdd, Nat.reduceMul, Nat.reduceSub, Nat.add_zero, Nat.zero_add, Int.reduceEq, Int.reduceLT]; rfl) ?_; clear hK
    refine AWP.ret (Then.ret (?_))
    refine Fin.plain (.inr rfl) rfl rfl hok (Grew.refl _) ⟨?_, rfl⟩
    rw [beq_eq_false_iff_ne.2]
    rintro rfl
    simp at h
  · have hlen : l.length = m.length := by simp at h; omega
    refine AWP.skip ?_
    refine AWP.seq ?_
    refine AWP.stepR [0, 1, 5] fun K hK => ?_ -- r3
    simp only [go_sem, Nat.reduceEqDiff, Nat.reduceLT, Nat.reduceAdd, Nat.reduceMul, Nat.reduceSub, Nat.add_zero, Nat.zero_add, Int.reduceEq, Int.reduceLT]
    refine hK _ _ _ (by simp only [go_sem, Nat.reduceEqDiff, Nat.reduceLT, Nat.reduceAdd, Nat.reduceMul, Nat.reduceSub, Nat.add_zero, Nat.zero_add, Int.reduceEq, Int.reduceLT]; rfl) ?_; clear hK
    refine AWP.block ?_ -- b0
    refine AWP.loopK [0, 1, 5] (fun n e M0 => M0 = M ∧ n ≤ l.length ∧ e = [(0, v), (1, w), (5, .int .i64 ((l.length - n : Nat) : Int))] ∧ l.take (l.length - n) = m.take (l.length - n)) l.length ?_ fun n e M0 hI => ?_ -- LOOP
    · simp only [go_sem, Nat.reduceEqDiff, Nat.reduceLT, Nat.reduceAdd, Nat.reduceMul, Nat.reduceSub, Nat.add_zero, Nat.zero_add, Int.reduceEq, Int.reduceLT, true_and, Nat.le_refl]
      exact ⟨by simp, by simp⟩
    obtain ⟨rfl, hn, rfl, hall⟩ := hI
    refine AWP.seq ?_
    refine AWP.stepR [0, 1, 5, 14] fun K hK => ?_ -- r4
    simp only [go_sem, Nat.reduceEqDiff, Nat.reduceLT, Nat.reduceAdd, Nat.reduceMul, Nat.reduceSub, Nat.add_zero, Nat.zero_add, Int.reduceEq, Int.reduceLT, hv.len (P := Try.prog) (t := 23) (sz := 1) (by kernel_rfl)]
    refine hK _ _ _ (by simp only [go_sem, Nat.reduceEqDiff, Nat.reduceLT, Nat.reduceAdd, Nat.reduceMul, Nat.reduceSub, Nat.add_zero, Nat.zero_add, Int.reduceEq, Int.reduceLT]; rfl) ?_; clear hK
    refine AWP.cond_split rfl (fun h => ?_) fun h => ?_ -- if (tmp 14)
    · have hlt : l.length - n < l.length := by simpa using h
      have hlt' : l.length - n < m.length := by omega
      obtain ⟨b, q, ha, hd⟩ := hv.at1 (by simp [cB]) (P := Try.prog) (t := 23) (by kernel_rfl) hlt
      have hd := hd M0 (Grew.refl _)
      rw [show (cB l)[l.length - n]? = some (.int .u8 l[l.length - n]) by simp [cB, hlt]] at hd
      obtain ⟨b', q', ha', hd'⟩ := hw.at1 (by simp [cB]) (P := Try.prog) (t := 23) (by kernel_rfl) hlt'
      have hd' := hd' M0 (Grew.refl _)
      rw [show (cB m)[l.length - n]? = some (.int .u8 m[l.length - n]) by simp [cB, hlt']] at hd'
      generalize hxx : l[l.length - n] = x at hd
      generalize hyy : m[l.length - n] = y at hd'
      refine AWP.skip ?_
      refine AWP.seq ?_
      refine AWP.block ?_ -- b1
      refine AWP.stepD hmo [0, 1, 2, 3, 4, 5, 6, 7, 8] [0, 0, 3, 7, 0, 0, 48, 112, 255] [] [] (by kernel_rfl) [0, 1, 5, 25] fun K hK => ?_ -- r6
      simp only [go_sem, Nat.reduceEqDiff, Nat.reduceLT, Nat.reduceAdd, Nat.reduceMul, Nat.reduceSub, Nat.add_zero, Nat.zero_add, Int.reduceEq, Int.reduceLT, ha, hd, ha', hd', ld_5]
      refine hK _ _ _ (by simp only [go_sem, Nat.reduceEqDiff, Nat.reduceLT, Nat.reduceAdd, Nat.reduceMul, Nat.reduceSub, Nat.add_zero, Nat.zero_add, Int.reduceEq, Int.reduceLT]; rfl) ?_; clear hK
      refine AWP.cond_split rfl (fun h25 => ?_) fun h25 => ?_
      · refine AWP.stepR [4] fun K hK => ?_ -- r7
        simp only [go_sem, Nat.reduceEqDiff, Nat.reduceLT, Nat.reduceAdd, Nat.reduceMul, Nat.reduceSub, Nat.add_zero, Nat.zero_add, Int.reduceEq, Int.reduceLT]
        refine hK _ _ _ (by simp only [go_sem, Nat.reduceEqDiff, Nat.reduceLT, Nat.reduceAdd, Nat.reduceMul, Nat.reduceSub, Nat.add_zero, Nat.zero_add, Int.reduceEq, Int.reduceLT]; rfl) ?_; clear hK
        refine AWP.ret (InBlock.ret (Then.ret (Then.ret (InBlock.ret (Then.ret ?_)))))
        refine Fin.plain (.inr rfl) rfl rfl hok (Grew.refl _) ⟨?_, rfl⟩
        rw [beq_eq_false_iff_ne.2]
        rintro rfl
        simp [← hxx, ← hyy] at h25
      · refine AWP.skip ?_
        refine AWP.lastR fun K hK => ?_ -- r5
        simp only [go_sem, Nat.reduceEqDiff, Nat.reduceLT, Nat.reduceAdd, Nat.reduceMul, Nat.reduceSub, Nat.add_zero, Nat.zero_add, Int.reduceEq, Int.reduceLT]
        refine hK _ _ ?_; clear hK
        refine ⟨n - 1, by omega, rfl, by omega, ?_, ?_⟩ -- ROUND
        · simp only [go_sem, Nat.reduceEqDiff, Nat.reduceLT, Nat.reduceAdd, Nat.reduceMul, Nat.reduceSub, Nat.add_zero, Nat.zero_add, Int.reduceEq, Int.reduceLT]
          rw [i64w (by omega) (by omega), show ((l.length - n : Nat) : Int) + 1 = ((l.length - (n - 1) : Nat) : Int) by omega]
        · rw [show l.length - (n - 1) = l.length - n + 1 by omega, List.take_succ_eq_append_getElem hlt, List.take_succ_eq_append_getElem hlt', hall, hxx, hyy]
          simp at h25
          rw [h25]
    · refine AWP.exit (Then.exit (Then.exit (InBlock.same ?_))) -- x0
      refine AWP.stepR [4] fun K hK => ?_ -- r8
      simp only [go_sem, Nat.reduceEqDiff, Nat.reduceLT, Nat.reduceAdd, Nat.reduceMul, Nat.reduceSub, Nat.add_zero, Nat.zero_add, Int.reduceEq, Int.reduceLT]
      refine hK _ _ _ (by simp only [go_sem, Nat.reduceEqDiff, Nat.reduceLT, Nat.reduceAdd, Nat.reduceMul, Nat.reduceSub, Nat.add_zero, Nat.zero_add, Int.reduceEq, Int.reduceLT]; rfl) ?_; clear hK
      refine AWP.ret (?_)
      refine Fin.plain (.inr rfl) rfl rfl hok (Grew.refl _) ⟨?_, rfl⟩
      have hn0 : n = 0 := by simp at h; omega
      rw [hn0, Nat.sub_zero, List.take_length, hlen, List.take_length] at hall
      rw [hall, beq_self_eq_true]
end Go.Proofs.Ythheaehpnleiaaa.AX

/- Numbers as bytes; bytes with their length ahead. -/
namespace Go.Proofs.Ythheaehpnleiaaa.AX
open Go Go.Proofs
set_option maxRecDepth 100000
set_option linter.unusedVariables false
set_option linter.unusedSimpArgs false

/-- a number in so many bytes, the highest first -/
def putB (n : Int) : Nat → List Int
  | 0 => []
  | s + 1 => putB (n / 256) s ++ [n % 256]
theorem putB_length (n : Int) (s : Nat) : (putB n s).length = s := by
  induction s generalizing n with
  | zero => rfl
  | succ s ih => simp [putB, ih]

end Go.Proofs.Ythheaehpnleiaaa.AX

/- Rows of bytes, one behind the other; a byte of yes and no. -/
namespace Go.Proofs.Ythheaehpnleiaaa.AX
open Go Go.Proofs
set_option maxRecDepth 100000
set_option linter.unusedVariables false
set_option linter.unusedSimpArgs false

def Parts (M : Mem) (vs : List Value) (ls : List (List Int)) : Prop := vs.length = ls.length ∧ ∀ (i : Nat) (v : Value) (l : List Int), vs[i]? = some v → ls[i]? = some l → RowB M v l
theorem Parts.grew {M M1 : Mem} {vs : List Value} {ls : List (List Int)} (h : Parts M vs ls) (hg : Grew M M1) : Parts M1 vs ls := ⟨h.1, fun i v l h1 h2 => (h.2 i v l h1 h2).grew hg⟩
theorem Parts.nil (M : Mem) : Parts M [] [] := ⟨rfl, fun i v l h => by simp at h⟩
theorem Parts.cons {M : Mem} {v : Value} {l : List Int} {vs : List Value} {ls : List (List Int)} (h : RowB M v l) (h' : Parts M vs ls) : Parts M (v :: vs) (l :: ls) := by
  refine ⟨by simp [h'.1], fun i v' l' h1 h2 => ?_⟩
  cases i with
  | zero => simp at h1 h2; subst h1 h2; exact h
  | succ i => simp at h1 h2; exact h'.2 i v' l' h1 h2
theorem take_flat (ls : List (List Int)) {i : Nat} (h : i < ls.length) : (ls.take (i + 1)).flatten = (ls.take i).flatten ++ ls[i] := by
  rw [List.take_succ_eq_append_getElem h, List.flatten_append]; simp
theorem flat_le (ls : List (List Int)) (i : Nat) : (ls.take i).flatten.length ≤ ls.flatten.length := by
  have := congrArg (fun l => l.flatten.length) (List.take_append_drop i ls)
  simp only [List.flatten_append, List.length_append] at this
  omega

end Go.Proofs.Ythheaehpnleiaaa.AX

/- A byte of yes and no; bytes with their length ahead. -/
namespace Go.Proofs.Ythheaehpnleiaaa.AX
open Go Go.Proofs
set_option maxRecDepth 100000
set_option linter.unusedVariables false
set_option linter.unusedSimpArgs false

/-- yes and no as the bits of a byte -/
def flagF (bs : List Bool) : Nat → Int
  | 0 => 0
  | k + 1 => if bs[k]? = some true then IntKind.u8.wrap (BitVec.ofInt 8 (flagF bs k) ||| BitVec.ofInt 8 (IntKind.u8.wrap (1 * 2 ^ (min k 8)))).toNat else flagF bs k

def longB (l : List Int) : List Int := putB l.length 4 ++ l
end Go.Proofs.Ythheaehpnleiaaa.AX

/- Texts with how many they are ahead. -/
namespace Go.Proofs.Ythheaehpnleiaaa.AX
open Go Go.Proofs
set_option maxRecDepth 100000
set_option linter.unusedVariables false
set_option linter.unusedSimpArgs false

/-- a text's bytes -/
def sB (s : ByteArray) : List Int := s.data.toList.map fun b => (b.toNat : Int)
def textsF (l : List ByteArray) (k : Nat) : List Int := putB l.length 4 ++ ((l.take k).map fun s => longB (sB s)).flatten
end Go.Proofs.Ythheaehpnleiaaa.AX

/- Answers as values; what is wrong with an answer. -/
namespace Go.Proofs.Ythheaehpnleiaaa.AX
open Go Go.Proofs
set_option maxRecDepth 100000
set_option linter.unusedVariables false
set_option linter.unusedSimpArgs false

structure Shw where
  name : ByteArray
  id : Int
  size : Int
  marker : Bool
  latest : Bool
def shwC (s : Shw) : List Value := [.string s.name, .int .i64 s.id, .int .i64 s.size, .bool s.marker, .bool s.latest]
structure Rep where
  code : Int
  id : Int
  seq : Int
  size : Int
  until_ : Int
  upload : Int
  count : Int
  body : List Int
  meta_ : List Int
  tags : List Int
  marker : Bool
  done : Bool
  more : Bool
  names : List ByteArray
  prefixes : List ByteArray
  next : ByteArray
  shown : List Shw
/-- an answer's cells, with its rows' values -/
def repC (r : Rep) (vb vm vt vn vp vs : Value) : List Value :=
  [.int .i64 r.code, .int .i64 r.id, .int .i64 r.seq, .int .i64 r.size, vb, vm, vt, .int .i64 r.until_, .bool r.marker, vn, vp, .string r.next, .bool r.more, vs, .int .i64 r.upload, .int .i64 r.count, .bool r.done]
structure RepR (M : Mem) (r : Rep) (vb vm vt vn vp vs : Value) : Prop where
  body : RowB M vb r.body
  meta_ : RowB M vm r.meta_
  tags : RowB M vt r.tags
  names : Row_ M vn r.names.length (r.names.map .string)
  prefixes : Row_ M vp r.prefixes.length (r.prefixes.map .string)
  shown : Row_ M vs r.shown.length (r.shown.flatMap shwC)
theorem RepR.grew {M M1 : Mem} {r : Rep} {vb vm vt vn vp vs : Value} (h : RepR M r vb vm vt vn vp vs) (hg : Grew M M1) : RepR M1 r vb vm vt vn vp vs :=
  ⟨h.body.grew hg, h.meta_.grew hg, h.tags.grew hg, h.names.grew hg, h.prefixes.grew hg, h.shown.grew hg⟩

theorem flatMap_len {α : Type} {f : α → List Value} {sz : Nat} (hf : ∀ a, (f a).length = sz) (l : List α) : (l.flatMap f).length = l.length * sz := by
  induction l with
  | nil => simp
  | cons a l ih => rw [List.flatMap_cons, List.length_append, ih, hf, List.length_cons, Nat.succ_mul]; omega
theorem flatMap_at {α : Type} {f : α → List Value} {sz : Nat} (hf : ∀ a, (f a).length = sz) : ∀ (l : List α) (i : Nat) (h : i < l.length), ((l.flatMap f).drop (i * sz)).take sz = f l[i] := by
  intro l
  induction l with
  | nil => intro i h; simp at h
  | cons a l ih =>
    intro i h
    rw [List.flatMap_cons]
    cases i with
    | zero => rw [Nat.zero_mul, List.drop_zero, List.take_append_of_le_length (by rw [hf]; exact Nat.le_refl _), List.take_of_length_le (by rw [hf]; exact Nat.le_refl _)]; rfl
    | succ i =>
      rw [show (i + 1) * sz = (f a).length + i * sz by rw [hf, Nat.succ_mul]; omega, ← List.drop_drop, List.drop_left]
      exact ih i (by simpa using h)
theorem flatMap_cell {α : Type} {f : α → List Value} {sz : Nat} (hf : ∀ a, (f a).length = sz) (l : List α) (i : Nat) (h : i < l.length) {j : Nat} (hj : j < sz) : (l.flatMap f)[i * sz + j]? = (f l[i])[j]? := by
  have := congrArg (fun l => l[j]?) (flatMap_at hf l i h)
  simp only [List.getElem?_take, List.getElem?_drop] at this
  rw [if_pos hj] at this
  exact this
theorem shwC_len (s : Shw) : (shwC s).length = 5 := rfl
theorem Has.ld {M : Mem} {i : Nat} {b : Blk} (h : Has M i b) (o : Nat) : ldS M.get i o = b.cells[o]? := ldS_at h.1 o
theorem st_fresh {M : Mem} {i n : Nat} {old vs : List Value} {e : TypeId} (h1 : old.length = n) (h2 : vs.length = n) (h3 : oneCells vs = true) :
    stV (M.put i ⟨old, e, true⟩) i 0 n (.agg vs.toArray) = some ((M.put i ⟨old, e, true⟩).put i ⟨vs, e, true⟩) := by
  rw [stV_at (by rw [Mem.get_put, if_pos rfl])]
  rw [if_pos ⟨rfl, by simpa [Value.cells] using h2, by simpa [Value.cells] using h3, by simp [h1]⟩]
  have : splice old 0 vs = vs := by simp [splice, h1, h2]
  simp only [Value.cells, this]

/-- the numbers of an answer -/
def repN (r : Rep) : List Int := [r.code, r.id, r.seq, r.size, r.until_, r.upload, r.count]
def shwOk (s : Shw) : Bool := numOk s.id && numOk s.size
def checkF (r : Rep) : Int := if (repN r).all numOk then (if r.shown.all shwOk then 0 else 2) else 2

theorem check15_spec (r : Rep) (vb vm vt vn vp vs : Value) (M : Mem) (hok : Ok M) (hr : RepR M r vb vm vt vn vp vs) (h1 : r.names.length ≤ 1000) (h2 : r.prefixes.length ≤ 1000) (h3 : r.shown.length ≤ 1000) :
    ∃ v M', ACall Try.prog 15 #[.agg (repC r vb vm vt vn vp vs).toArray] M v M' ∧ v = .int .i64 (checkF r) ∧ M' = M := by
  refine ACall.fin (args := [.agg (repC r vb vm vt vn vp vs).toArray]) (k := 55) Try.func15 rfl rfl rfl (Nat.le_of_ble_eq_true rfl) ?_
  refine AWP.stepR [1] fun K hK => ?_ -- r0
  simp only [go_sem, Nat.reduceEqDiff, Nat.reduceLT, Nat.reduceAdd, Nat.reduceMul, Nat.reduceSub, Nat.add_zero, Nat.zero_add, Int.reduceEq, Int.reduceLT]
  refine hK _ _ _ (by simp only [go_sem, Nat.reduceEqDiff, Nat.reduceLT, Nat.reduceAdd, Nat.reduceMul, Nat.reduceSub, Nat.add_zero, Nat.zero_add, Int.reduceEq, Int.reduceLT]; rfl) ?_; clear hK
  have hlt0 : M.next < (M.bump 1).next := Nat.lt_succ_self _
  have hg1 := ((Grew.refl M).bump 1).put (Nat.le_refl _) hlt0 ⟨repC r vb vm vt vn vp vs, 29, true⟩
  have hh1 := Has.put hlt0 ⟨repC r vb vm vt vn vp vs, 29, true⟩
  change AWP _ _ _ ⟨_, (M.bump 1).put M.next ⟨repC r vb vm vt vn vp vs, 29, true⟩⟩ _
  generalize hM1 : (M.bump 1).put M.next ⟨repC r vb vm vt vn vp vs, 29, true⟩ = M1 at hg1 hh1
  have hr := hr.grew hg1
  have hlt1 : M1.next < (M1.bump 1).next := Nat.lt_succ_self _
  have hg2 := ((Grew.refl M1).bump 1).put (Nat.le_refl _) hlt1 ⟨(repN r).map (Value.int .i64), 3, true⟩
  have hh2 := Has.put hlt1 ⟨(repN r).map (Value.int .i64), 3, true⟩
  generalize hM2 : (M1.bump 1).put M1.next ⟨(repN r).map (Value.int .i64), 3, true⟩ = M2 at hg2 hh2
  have hM2' : (M1.bump 1).put M1.next ⟨[.int .i64 r.code, .int .i64 r.id, .int .i64 r.seq, .int .i64 r.size, .int .i64 r.until_, .int .i64 r.upload, .int .i64 r.count], 3, true⟩ = M2 := hM2
  obtain ⟨r3, M3, hc3, hr3, hM3⟩ := small46_spec (.slice (some ⟨M1.next, 0, none⟩) 7 7) (repN r) M2 ((hg1.trans hg2).ok hok) (Row_.of hh2) (by simp [repN])
  rw [hr3, hM3] at hc3
  refine AWP.seq ?_
  refine AWP.stepR [1, 21] fun K hK => ?_ -- r1
  simp only [go_sem, Nat.reduceEqDiff, Nat.reduceLT, Nat.reduceAdd, Nat.reduceMul, Nat.reduceSub, Nat.add_zero, Nat.zero_add, Int.reduceEq, Int.reduceLT, ld_22, ld_3, hh1.ld, repC, hM2']
  refine ⟨_, _, hc3, ?_⟩
  refine hK _ _ _ (by simp only [go_sem, Nat.reduceEqDiff, Nat.reduceLT, Nat.reduceAdd, Nat.reduceMul, Nat.reduceSub, Nat.add_zero, Nat.zero_add, Int.reduceEq, Int.reduceLT]; rfl) ?_; clear hK
  have hh1 := hh1.grew hg2
  have hr := hr.grew hg2
  have hgm := hg1.trans hg2
  refine AWP.cond_split rfl (fun h21 => ?_) fun h21 => ?_
  · refine AWP.stepR [2] fun K hK => ?_ -- r2
    simp only [go_sem, Nat.reduceEqDiff, Nat.reduceLT, Nat.reduceAdd, Nat.reduceMul, Nat.reduceSub, Nat.add_zero, Nat.zero_add, Int.reduceEq, Int.reduceLT]
    refine hK _ _ _ (by simp only [go_sem, Nat.reduceEqDiff, Nat.reduceLT, Nat.reduceAdd, Nat.reduceMul, Nat.reduceSub, Nat.add_zero, Nat.zero_add, Int.reduceEq, Int.reduceLT]; rfl) ?_; clear hK
    refine AWP.ret (Then.ret (?_))
    exact Fin.plain (.inr rfl) rfl rfl hok hgm ⟨by rw [checkF, if_neg (by simpa using h21)], rfl⟩
  · refine AWP.skip ?_
    refine AWP.seq ?_
    have hn1 : decide ((r.names.length : Int) > 65536) = false := decide_eq_false (by omega)
    have hn2 : decide ((r.prefixes.length : Int) > 65536) = false := decide_eq_false (by omega)
    have hn3 : decide ((r.shown.length : Int) > 65536) = false := decide_eq_false (by omega)
    refine AWP.stepR [1, 39] fun K hK => ?_ -- r3
    simp only [go_sem, Nat.reduceEqDiff, Nat.reduceLT, Nat.reduceAdd, Nat.reduceMul, Nat.reduceSub, Nat.add_zero, Nat.zero_add, Int.reduceEq, Int.reduceLT, ld_24, ld_27, hh1.ld, repC, hr.names.len es_24, hr.prefixes.len es_24, hr.shown.len es_27, hn1, hn2, hn3]
    refine hK _ _ _ (by simp only [go_sem, Nat.reduceEqDiff, Nat.reduceLT, Nat.reduceAdd, Nat.reduceMul, Nat.reduceSub, Nat.add_zero, Nat.zero_add, Int.reduceEq, Int.reduceLT]; rfl) ?_; clear hK
    refine AWP.cond_split rfl (fun h39 => ?_) fun h39 => ?_
    · cases h39
    · refine AWP.skip ?_
      refine AWP.seq ?_
      refine AWP.stepR [41, 42, 43] fun K hK => ?_ -- r5
      simp only [go_sem, Nat.reduceEqDiff, Nat.reduceLT, Nat.reduceAdd, Nat.reduceMul, Nat.reduceSub, Nat.add_zero, Nat.zero_add, Int.reduceEq, Int.reduceLT, ld_27, hh1.ld, repC, hr.shown.len es_27]
      refine hK _ _ _ (by simp only [go_sem, Nat.reduceEqDiff, Nat.reduceLT, Nat.reduceAdd, Nat.reduceMul, Nat.reduceSub, Nat.add_zero, Nat.zero_add, Int.reduceEq, Int.reduceLT]; rfl) ?_; clear hK
      refine AWP.block ?_ -- b0
      refine AWP.loopK [41, 42, 43] (fun n e M0 => n ≤ r.shown.length ∧ Grew M2 M0 ∧ e = [(41, vs), (42, .int .i64 r.shown.length), (43, .int .i64 ((r.shown.length - n : Nat) : Int))] ∧ (r.shown.take (r.shown.length - n)).all shwOk = true) r.shown.length ?_ fun n e M0 hI => ?_ -- LOOP
      · simp only [go_sem, Nat.reduceEqDiff, Nat.reduceLT, Nat.reduceAdd, Nat.reduceMul, Nat.reduceSub, Nat.add_zero, Nat.zero_add, Int.reduceEq, Int.reduceLT, Nat.le_refl]
        exact ⟨Grew.refl _, by simp, by simp⟩
      obtain ⟨hn', hgl, rfl, hall⟩ := hI
      refine AWP.stepR [41, 42, 43, 44] fun K hK => ?_ -- r6
      simp only [go_sem, Nat.reduceEqDiff, Nat.reduceLT, Nat.reduceAdd, Nat.reduceMul, Nat.reduceSub, Nat.add_zero, Nat.zero_add, Int.reduceEq, Int.reduceLT]
      refine hK _ _ _ (by simp only [go_sem, Nat.reduceEqDiff, Nat.reduceLT, Nat.reduceAdd, Nat.reduceMul, Nat.reduceSub, Nat.add_zero, Nat.zero_add, Int.reduceEq, Int.reduceLT]; rfl) ?_; clear hK
      refine AWP.condS rfl (fun h44 => ?_) fun h44 => ?_
      · have hlt : r.shown.length - n < r.shown.length := by simpa using h44
        obtain ⟨b, q, ha, hd⟩ := hr.shown.at (flatMap_len shwC_len _) es_27 hlt
        have hd := (hd M0 hgl).2
        rw [flatMap_at shwC_len _ _ hlt] at hd
        generalize hx : r.shown[r.shown.length - n] = x at hd
        refine AWP.skip ?_
        refine AWP.seq ?_
        refine AWP.block ?_ -- b1
        refine AWP.stepR [4, 41, 42, 43] fun K hK => ?_ -- r7
        have hlt2 : M0.next < (M0.bump 1).next := Nat.lt_succ_self _
        simp only [go_sem, Nat.reduceEqDiff, Nat.reduceLT, Nat.reduceAdd, Nat.reduceMul, Nat.reduceSub, Nat.add_zero, Nat.zero_add, Int.reduceEq, Int.reduceLT, ha, ld_63, hd, st_fresh (M := M0.bump 1) (i := M0.next) (n := 5) (old := [.string ⟨#[]⟩, .int .i64 0, .int .i64 0, .bool false, .bool false]) (vs := shwC x) (e := 63) rfl rfl rfl]
        refine hK _ _ _ (by simp only [go_sem, Nat.reduceEqDiff, Nat.reduceLT, Nat.reduceAdd, Nat.reduceMul, Nat.reduceSub, Nat.add_zero, Nat.zero_add, Int.reduceEq, Int.reduceLT]; rfl) ?_; clear hK
        have hg4 := (((Grew.refl M0).bump 1).put (Nat.le_refl _) hlt2 ⟨[.string ⟨#[]⟩, .int .i64 0, .int .i64 0, .bool false, .bool false], 63, true⟩).put (Nat.le_refl _) hlt2 ⟨shwC x, 63, true⟩
        have hh4 : Has (((M0.bump 1).put M0.next ⟨[.string ⟨#[]⟩, .int .i64 0, .int .i64 0, .bool false, .bool false], 63, true⟩).put M0.next ⟨shwC x, 63, true⟩) M0.next ⟨shwC x, 63, true⟩ := Has.put (M := (M0.bump 1).put M0.next ⟨[.string ⟨#[]⟩, .int .i64 0, .int .i64 0, .bool false, .bool false], 63, true⟩) hlt2 _
        generalize ((M0.bump 1).put M0.next ⟨[.string ⟨#[]⟩, .int .i64 0, .int .i64 0, .bool false, .bool false], 63, true⟩).put M0.next ⟨shwC x, 63, true⟩ = M4 at hg4 hh4
        have hlt5 : M4.next < (M4.bump 1).next := Nat.lt_succ_self _
        have hg5 := ((Grew.refl M4).bump 1).put (Nat.le_refl _) hlt5 ⟨[x.id, x.size].map (Value.int .i64), 3, true⟩
        have hh5 := Has.put hlt5 ⟨[x.id, x.size].map (Value.int .i64), 3, true⟩
        generalize hM5 : (M4.bump 1).put M4.next ⟨[x.id, x.size].map (Value.int .i64), 3, true⟩ = M5 at hg5 hh5
        have hM5' : (M4.bump 1).put M4.next ⟨[.int .i64 x.id, .int .i64 x.size], 3, true⟩ = M5 := hM5
        have hgg := hgm.trans (hgl.trans (hg4.trans hg5))
        obtain ⟨r6, M6, hc6, hr6, hM6⟩ := small46_spec (.slice (some ⟨M4.next, 0, none⟩) 2 2) [x.id, x.size] M5 (hgg.ok hok) (Row_.of hh5) (by simp)
        rw [hr6, hM6] at hc6
        refine AWP.stepR [41, 42, 43, 53] fun K hK => ?_ -- r8
        simp only [go_sem, Nat.reduceEqDiff, Nat.reduceLT, Nat.reduceAdd, Nat.reduceMul, Nat.reduceSub, Nat.add_zero, Nat.zero_add, Int.reduceEq, Int.reduceLT, ld_3, hh4.ld, shwC, hM5']
        refine ⟨_, _, hc6, ?_⟩
        refine hK _ _ _ (by simp only [go_sem, Nat.reduceEqDiff, Nat.reduceLT, Nat.reduceAdd, Nat.reduceMul, Nat.reduceSub, Nat.add_zero, Nat.zero_add, Int.reduceEq, Int.reduceLT]; rfl) ?_; clear hK
        refine AWP.cond_split rfl (fun h53 => ?_) fun h53 => ?_
        · refine AWP.stepR [2] fun K hK => ?_ -- r9
          simp only [go_sem, Nat.reduceEqDiff, Nat.reduceLT, Nat.reduceAdd, Nat.reduceMul, Nat.reduceSub, Nat.add_zero, Nat.zero_add, Int.reduceEq, Int.reduceLT]
          refine hK _ _ _ (by simp only [go_sem, Nat.reduceEqDiff, Nat.reduceLT, Nat.reduceAdd, Nat.reduceMul, Nat.reduceSub, Nat.add_zero, Nat.zero_add, Int.reduceEq, Int.reduceLT]; rfl) ?_; clear hK
          refine AWP.ret (InBlock.ret (Then.ret (Then.ret (InBlock.ret (Then.ret (?_))))))
          refine Fin.plain (.inr rfl) rfl rfl hok hgg ⟨?_, rfl⟩
          have hf : r.shown.all shwOk = false := List.all_eq_false.2 ⟨x, hx ▸ List.getElem_mem hlt, by simp [shwOk] at h53 ⊢; rcases h53 with h | h <;> simp [h]⟩
          rw [checkF, hf]; simp
        · refine AWP.skip ?_
          refine AWP.lastR fun K hK => ?_ -- r10
          simp only [go_sem, Nat.reduceEqDiff, Nat.reduceLT, Nat.reduceAdd, Nat.reduceMul, Nat.reduceSub, Nat.add_zero, Nat.zero_add, Int.reduceEq, Int.reduceLT]
          refine hK _ _ ?_; clear hK
          refine ⟨n - 1, by omega, by omega, hgl.trans (hg4.trans hg5), ?_, ?_⟩ -- ROUND
          · simp only [go_sem, Nat.reduceEqDiff, Nat.reduceLT, Nat.reduceAdd, Nat.reduceMul, Nat.reduceSub, Nat.add_zero, Nat.zero_add, Int.reduceEq, Int.reduceLT]
            rw [i64w (by omega) (by omega), show ((r.shown.length - n : Nat) : Int) + 1 = ((r.shown.length - (n - 1) : Nat) : Int) by omega]
          · rw [show r.shown.length - (n - 1) = r.shown.length - n + 1 by omega, List.take_succ_eq_append_getElem hlt, List.all_append, hall, hx]
            simpa [shwOk] using h53
      · refine AWP.exit (Then.exit (Then.exit (InBlock.same ?_))) -- x0
        refine AWP.stepR [2] fun K hK => ?_ -- r11
        simp only [go_sem, Nat.reduceEqDiff, Nat.reduceLT, Nat.reduceAdd, Nat.reduceMul, Nat.reduceSub, Nat.add_zero, Nat.zero_add, Int.reduceEq, Int.reduceLT]
        refine hK _ _ _ (by simp only [go_sem, Nat.reduceEqDiff, Nat.reduceLT, Nat.reduceAdd, Nat.reduceMul, Nat.reduceSub, Nat.add_zero, Nat.zero_add, Int.reduceEq, Int.reduceLT]; rfl) ?_; clear hK
        refine AWP.ret (?_)
        refine Fin.plain (.inr rfl) rfl rfl hok (hgm.trans hgl) ⟨?_, rfl⟩
        have hn0 : n = 0 := by simp at h44; omega
        rw [hn0, Nat.sub_zero, List.take_length] at hall
        rw [checkF, if_pos (by simpa using h21), hall, if_pos rfl]
end Go.Proofs.Ythheaehpnleiaaa.AX

/- What is wrong with an answer, by the document. -/
namespace Go.Proofs.Ythheaehpnleiaaa.AX
open Go Go.Proofs
set_option maxRecDepth 100000
set_option linter.unusedVariables false
set_option linter.unusedSimpArgs false

theorem check16_spec (r : Rep) (vb vm vt vn vp vs : Value) (M : Mem) (hok : Ok M) (hr : RepR M r vb vm vt vn vp vs) (h1 : r.names.length ≤ 1000) (h2 : r.prefixes.length ≤ 1000) (h3 : r.shown.length ≤ 1000) :
    ∃ v M', ACall Try.prog 16 #[.agg (repC r vb vm vt vn vp vs).toArray] M v M' ∧ v = .int .i64 (checkF r) ∧ M' = M := by
  refine ACall.fin (args := [.agg (repC r vb vm vt vn vp vs).toArray]) (k := 76) Try.func16 rfl rfl rfl (Nat.le_of_ble_eq_true rfl) ?_
  refine AWP.stepR [1] fun K hK => ?_ -- r0
  simp only [go_sem, Nat.reduceEqDiff, Nat.reduceLT, Nat.reduceAdd, Nat.reduceMul, Nat.reduceSub, Nat.add_zero, Nat.zero_add, Int.reduceEq, Int.reduceLT]
  refine hK _ _ _ (by simp only [go_sem, Nat.reduceEqDiff, Nat.reduceLT, Nat.reduceAdd, Nat.reduceMul, Nat.reduceSub, Nat.add_zero, Nat.zero_add, Int.reduceEq, Int.reduceLT]; rfl) ?_; clear hK
  have hlt0 : M.next < (M.bump 1).next := Nat.lt_succ_self _
  have hg1 := ((Grew.refl M).bump 1).put (Nat.le_refl _) hlt0 ⟨repC r vb vm vt vn vp vs, 29, true⟩
  have hh1 := Has.put hlt0 ⟨repC r vb vm vt vn vp vs, 29, true⟩
  change AWP _ _ _ ⟨_, (M.bump 1).put M.next ⟨repC r vb vm vt vn vp vs, 29, true⟩⟩ _
  generalize hM1 : (M.bump 1).put M.next ⟨repC r vb vm vt vn vp vs, 29, true⟩ = M1 at hg1 hh1
  have hr := hr.grew hg1
  have hlt1 : M1.next < (M1.bump 1).next := Nat.lt_succ_self _
  have hg2 := ((Grew.refl M1).bump 1).put (Nat.le_refl _) hlt1 ⟨(repN r).map (Value.int .i64), 3, true⟩
  have hh2 := Has.put hlt1 ⟨(repN r).map (Value.int .i64), 3, true⟩
  generalize hM2 : (M1.bump 1).put M1.next ⟨(repN r).map (Value.int .i64), 3, true⟩ = M2 at hg2 hh2
  have hM2' : (M1.bump 1).put M1.next ⟨[.int .i64 r.code, .int .i64 r.id, .int .i64 r.seq, .int .i64 r.size, .int .i64 r.until_, .int .i64 r.upload, .int .i64 r.count], 3, true⟩ = M2 := hM2
  refine AWP.stepR [1, 3] fun K hK => ?_ -- r1
  simp only [go_sem, Nat.reduceEqDiff, Nat.reduceLT, Nat.reduceAdd, Nat.reduceMul, Nat.reduceSub, Nat.add_zero, Nat.zero_add, Int.reduceEq, Int.reduceLT, ld_22, ld_3, hh1.ld, repC, hM2']
  refine hK _ _ _ (by simp only [go_sem, Nat.reduceEqDiff, Nat.reduceLT, Nat.reduceAdd, Nat.reduceMul, Nat.reduceSub, Nat.add_zero, Nat.zero_add, Int.reduceEq, Int.reduceLT]; rfl) ?_; clear hK
  have hh1 := hh1.grew hg2
  have hr := hr.grew hg2
  have hgm := hg1.trans hg2
  have hrow : Row_ M2 (.slice (some ⟨M1.next, 0, none⟩) 7 7) (repN r).length ((repN r).map (Value.int .i64)) := Row_.of hh2
  generalize Value.slice (some ⟨M1.next, 0, none⟩) 7 7 = lv at hrow
  have hlen7 : (repN r).length = 7 := rfl
  generalize hns : repN r = ns at hrow hlen7
  refine AWP.seq ?_
  refine AWP.stepR [1, 3, 4] fun K hK => ?_ -- r2
  simp only [go_sem, Nat.reduceEqDiff, Nat.reduceLT, Nat.reduceAdd, Nat.reduceMul, Nat.reduceSub, Nat.add_zero, Nat.zero_add, Int.reduceEq, Int.reduceLT]
  refine hK _ _ _ (by simp only [go_sem, Nat.reduceEqDiff, Nat.reduceLT, Nat.reduceAdd, Nat.reduceMul, Nat.reduceSub, Nat.add_zero, Nat.zero_add, Int.reduceEq, Int.reduceLT]; rfl) ?_; clear hK
  refine AWP.block ?_ -- b0
  refine AWP.loopK [1, 3, 4] (fun n e M0 => n ≤ ns.length ∧ M0 = M2 ∧ e = [(1, .pointer (some ⟨M.next, 0, none⟩)), (3, lv), (4, .int .i64 ((ns.length - n : Nat) : Int))] ∧ (ns.take (ns.length - n)).all numOk = true) ns.length ?_ fun n e M0 hI => ?_ -- LOOP
  · simp only [go_sem, Nat.reduceEqDiff, Nat.reduceLT, Nat.reduceAdd, Nat.reduceMul, Nat.reduceSub, Nat.add_zero, Nat.zero_add, Int.reduceEq, Int.reduceLT, Nat.le_refl]
    exact ⟨by simp, by simp⟩
  obtain ⟨hn', rfl, rfl, hall⟩ := hI
  refine AWP.seq ?_
  refine AWP.stepR [1, 3, 4, 24] fun K hK => ?_ -- r3
  simp only [go_sem, Nat.reduceEqDiff, Nat.reduceLT, Nat.reduceAdd, Nat.reduceMul, Nat.reduceSub, Nat.add_zero, Nat.zero_add, Int.reduceEq, Int.reduceLT, hrow.len es_66]
  refine hK _ _ _ (by simp only [go_sem, Nat.reduceEqDiff, Nat.reduceLT, Nat.reduceAdd, Nat.reduceMul, Nat.reduceSub, Nat.add_zero, Nat.zero_add, Int.reduceEq, Int.reduceLT]; rfl) ?_; clear hK
  refine AWP.cond_split rfl (fun h24 => ?_) fun h24 => ?_
  · have hlt : ns.length - n < ns.length := by simpa using h24
    obtain ⟨b, q, ha, hd⟩ := hrow.at1 (by simp) es_66 hlt
    have hd := hd M0 (Grew.refl _)
    rw [show (ns.map (Value.int .i64))[ns.length - n]? = some (.int .i64 ns[ns.length - n]) by simp [hlt]] at hd
    generalize hxx : ns[ns.length - n] = x at hd
    obtain ⟨r3, M3, hc3, hr3, hM3⟩ := small47_spec x M0 (hgm.ok hok)
    rw [hr3, hM3] at hc3
    refine AWP.skip ?_
    refine AWP.seq ?_
    refine AWP.block ?_ -- b1
    refine AWP.stepR [1, 3, 4, 32] fun K hK => ?_ -- r5
    simp only [go_sem, Nat.reduceEqDiff, Nat.reduceLT, Nat.reduceAdd, Nat.reduceMul, Nat.reduceSub, Nat.add_zero, Nat.zero_add, Int.reduceEq, Int.reduceLT, ha, ld_3, hd]
    refine ⟨_, _, hc3, ?_⟩
    refine hK _ _ _ (by simp only [go_sem, Nat.reduceEqDiff, Nat.reduceLT, Nat.reduceAdd, Nat.reduceMul, Nat.reduceSub, Nat.add_zero, Nat.zero_add, Int.reduceEq, Int.reduceLT]; rfl) ?_; clear hK
    refine AWP.cond_split rfl (fun h32 => ?_) fun h32 => ?_
    · refine AWP.stepR [2] fun K hK => ?_ -- r6
      simp only [go_sem, Nat.reduceEqDiff, Nat.reduceLT, Nat.reduceAdd, Nat.reduceMul, Nat.reduceSub, Nat.add_zero, Nat.zero_add, Int.reduceEq, Int.reduceLT]
      refine hK _ _ _ (by simp only [go_sem, Nat.reduceEqDiff, Nat.reduceLT, Nat.reduceAdd, Nat.reduceMul, Nat.reduceSub, Nat.add_zero, Nat.zero_add, Int.reduceEq, Int.reduceLT]; rfl) ?_; clear hK
      refine AWP.ret (InBlock.ret (Then.ret (Then.ret (InBlock.ret (Then.ret (?_))))))
      refine Fin.plain (.inr rfl) rfl rfl hok hgm ⟨?_, rfl⟩
      have hf : (repN r).all numOk = false := hns ▸ List.all_eq_false.2 ⟨x, hxx ▸ List.getElem_mem hlt, by simpa using h32⟩
      rw [checkF, hf]; simp
    · refine AWP.skip ?_
      refine AWP.lastR fun K hK => ?_ -- r4
      simp only [go_sem, Nat.reduceEqDiff, Nat.reduceLT, Nat.reduceAdd, Nat.reduceMul, Nat.reduceSub, Nat.add_zero, Nat.zero_add, Int.reduceEq, Int.reduceLT]
      refine hK _ _ ?_; clear hK
      refine ⟨n - 1, by omega, by omega, rfl, ?_, ?_⟩ -- ROUND
      · simp only [go_sem, Nat.reduceEqDiff, Nat.reduceLT, Nat.reduceAdd, Nat.reduceMul, Nat.reduceSub, Nat.add_zero, Nat.zero_add, Int.reduceEq, Int.reduceLT]
        rw [i64w (by omega) (by omega), show ((ns.length - n : Nat) : Int) + 1 = ((ns.length - (n - 1) : Nat) : Int) by omega]
      · rw [show ns.length - (n - 1) = ns.length - n + 1 by omega, List.take_succ_eq_append_getElem hlt, List.all_append, hall, hxx]
        simpa using h32
  · refine AWP.exit (Then.exit (Then.exit (InBlock.same ?_))) -- x0
    have hn0 : n = 0 := by simp at h24; omega
    rw [hn0, Nat.sub_zero, List.take_length, ← hns] at hall
    have hn1 : decide ((r.names.length : Int) > 65536) = false := decide_eq_false (by omega)
    have hn2 : decide ((r.prefixes.length : Int) > 65536) = false := decide_eq_false (by omega)
    have hn3 : decide ((r.shown.length : Int) > 65536) = false := decide_eq_false (by omega)
    refine AWP.seq ?_
    refine AWP.stepR [1, 50] fun K hK => ?_ -- r7
    simp only [go_sem, Nat.reduceEqDiff, Nat.reduceLT, Nat.reduceAdd, Nat.reduceMul, Nat.reduceSub, Nat.add_zero, Nat.zero_add, Int.reduceEq, Int.reduceLT, ld_24, ld_27, hh1.ld, repC, hr.names.len es_24, hr.prefixes.len es_24, hr.shown.len es_27, hn1, hn2, hn3]
    refine hK _ _ _ (by simp only [go_sem, Nat.reduceEqDiff, Nat.reduceLT, Nat.reduceAdd, Nat.reduceMul, Nat.reduceSub, Nat.add_zero, Nat.zero_add, Int.reduceEq, Int.reduceLT]; rfl) ?_; clear hK
    refine AWP.cond_split rfl (fun h50 => ?_) fun h50 => ?_
    · cases h50
    · refine AWP.skip ?_
      refine AWP.seq ?_
      refine AWP.stepR [1, 5] fun K hK => ?_ -- r9
      simp only [go_sem, Nat.reduceEqDiff, Nat.reduceLT, Nat.reduceAdd, Nat.reduceMul, Nat.reduceSub, Nat.add_zero, Nat.zero_add, Int.reduceEq, Int.reduceLT]
      refine hK _ _ _ (by simp only [go_sem, Nat.reduceEqDiff, Nat.reduceLT, Nat.reduceAdd, Nat.reduceMul, Nat.reduceSub, Nat.add_zero, Nat.zero_add, Int.reduceEq, Int.reduceLT]; rfl) ?_; clear hK
      refine AWP.block ?_ -- b2
      refine AWP.loopK [1, 5] (fun n e M2 => n ≤ r.shown.length ∧ M2 = M0 ∧ e = [(1, .pointer (some ⟨M.next, 0, none⟩)), (5, .int .i64 ((r.shown.length - n : Nat) : Int))] ∧ (r.shown.take (r.shown.length - n)).all shwOk = true) r.shown.length ?_ fun n e M2 hI => ?_ -- LOOP
      · simp only [go_sem, Nat.reduceEqDiff, Nat.reduceLT, Nat.reduceAdd, Nat.reduceMul, Nat.reduceSub, Nat.add_zero, Nat.zero_add, Int.reduceEq, Int.reduceLT, Nat.le_refl]
        exact ⟨by simp, by simp⟩
      obtain ⟨hn', rfl, rfl, hall2⟩ := hI
      refine AWP.seq ?_
      refine AWP.stepR [1, 5, 55] fun K hK => ?_ -- r10
      simp only [go_sem, Nat.reduceEqDiff, Nat.reduceLT, Nat.reduceAdd, Nat.reduceMul, Nat.reduceSub, Nat.add_zero, Nat.zero_add, Int.reduceEq, Int.reduceLT, ld_27, hh1.ld, repC, hr.shown.len es_27]
      refine hK _ _ _ (by simp only [go_sem, Nat.reduceEqDiff, Nat.reduceLT, Nat.reduceAdd, Nat.reduceMul, Nat.reduceSub, Nat.add_zero, Nat.zero_add, Int.reduceEq, Int.reduceLT]; rfl) ?_; clear hK
      refine AWP.cond_split rfl (fun h55 => ?_) fun h55 => ?_
      · have hlt : r.shown.length - n < r.shown.length := by simpa using h55
        obtain ⟨b, q, ha, hd⟩ := hr.shown.at (flatMap_len shwC_len _) es_27 hlt
        have hd1 := (hd M2 (Grew.refl _)).1 1 (by decide)
        have hd2 := (hd M2 (Grew.refl _)).1 2 (by decide)
        rw [flatMap_cell shwC_len _ _ hlt (by decide)] at hd1 hd2
        generalize hx : r.shown[r.shown.length - n] = x at hd1 hd2
        obtain ⟨r3, M3, hc3, hr3, hM3⟩ := small47_spec x.id M2 (hgm.ok hok)
        rw [hr3, hM3] at hc3
        obtain ⟨r4, M4, hc4, hr4, hM4⟩ := small47_spec x.size M2 (hgm.ok hok)
        rw [hr4, hM4] at hc4
        refine AWP.skip ?_
        refine AWP.seq ?_
        refine AWP.block ?_ -- b3
        refine AWP.stepX [1, 5, 75] [(1, .pointer (some ⟨M.next, 0, none⟩)), (5, .int .i64 ((r.shown.length - n : Nat) : Int)), (75, .bool (!shwOk x))] M2 (fun K hK => ?_) ?_ -- r12
        · cases hid : numOk x.id
          · rw [hid] at hc3
            simp only [go_sem, Nat.reduceEqDiff, Nat.reduceLT, Nat.reduceAdd, Nat.reduceMul, Nat.reduceSub, Nat.add_zero, Nat.zero_add, Int.reduceEq, Int.reduceLT, ld_27, hh1.ld, repC, ha, ld_3, hd1, shwC]
            refine ⟨_, _, hc3, ?_⟩
            simp only [go_sem, Nat.reduceEqDiff, Nat.reduceLT, Nat.reduceAdd, Nat.reduceMul, Nat.reduceSub, Nat.add_zero, Nat.zero_add, Int.reduceEq, Int.reduceLT]
            refine hK _ (by simp only [go_sem, Nat.reduceEqDiff, Nat.reduceLT, Nat.reduceAdd, Nat.reduceMul, Nat.reduceSub, Nat.add_zero, Nat.zero_add, Int.reduceEq, Int.reduceLT, shwOk, hid, Bool.false_and])
          · rw [hid] at hc3
            simp only [go_sem, Nat.reduceEqDiff, Nat.reduceLT, Nat.reduceAdd, Nat.reduceMul, Nat.reduceSub, Nat.add_zero, Nat.zero_add, Int.reduceEq, Int.reduceLT, ld_27, hh1.ld, repC, ha, ld_3, hd1, hd2, shwC]
            refine ⟨_, _, hc3, ?_⟩
            simp only [go_sem, Nat.reduceEqDiff, Nat.reduceLT, Nat.reduceAdd, Nat.reduceMul, Nat.reduceSub, Nat.add_zero, Nat.zero_add, Int.reduceEq, Int.reduceLT, ld_27, hh1.ld, repC, ha, ld_3, hd1, hd2, shwC]
            refine ⟨_, _, hc4, ?_⟩
            refine hK _ (by simp only [go_sem, Nat.reduceEqDiff, Nat.reduceLT, Nat.reduceAdd, Nat.reduceMul, Nat.reduceSub, Nat.add_zero, Nat.zero_add, Int.reduceEq, Int.reduceLT, shwOk, hid])
        refine AWP.cond_split rfl (fun h75 => ?_) fun h75 => ?_
        · refine AWP.stepR [2] fun K hK => ?_ -- r13
          simp only [go_sem, Nat.reduceEqDiff, Nat.reduceLT, Nat.reduceAdd, Nat.reduceMul, Nat.reduceSub, Nat.add_zero, Nat.zero_add, Int.reduceEq, Int.reduceLT]
          refine hK _ _ _ (by simp only [go_sem, Nat.reduceEqDiff, Nat.reduceLT, Nat.reduceAdd, Nat.reduceMul, Nat.reduceSub, Nat.add_zero, Nat.zero_add, Int.reduceEq, Int.reduceLT]; rfl) ?_; clear hK
          refine AWP.ret (InBlock.ret (Then.ret (Then.ret (InBlock.ret (Then.ret (?_))))))
          refine Fin.plain (.inr rfl) rfl rfl hok hgm ⟨?_, rfl⟩
          have hf : r.shown.all shwOk = false := List.all_eq_false.2 ⟨x, hx ▸ List.getElem_mem hlt, by simpa using h75⟩
          rw [checkF, hf]; simp
        · refine AWP.skip ?_
          refine AWP.lastR fun K hK => ?_ -- r11
          simp only [go_sem, Nat.reduceEqDiff, Nat.reduceLT, Nat.reduceAdd, Nat.reduceMul, Nat.reduceSub, Nat.add_zero, Nat.zero_add, Int.reduceEq, Int.reduceLT]
          refine hK _ _ ?_; clear hK
          refine ⟨n - 1, by omega, by omega, rfl, ?_, ?_⟩ -- ROUND
          · simp only [go_sem, Nat.reduceEqDiff, Nat.reduceLT, Nat.reduceAdd, Nat.reduceMul, Nat.reduceSub, Nat.add_zero, Nat.zero_add, Int.reduceEq, Int.reduceLT]
            rw [i64w (by omega) (by omega), show ((r.shown.length - n : Nat) : Int) + 1 = ((r.shown.length - (n - 1) : Nat) : Int) by omega]
          · rw [show r.shown.length - (n - 1) = r.shown.length - n + 1 by omega, List.take_succ_eq_append_getElem hlt, List.all_append, hall2, hx]
            simpa using h75
      · refine AWP.exit (Then.exit (Then.exit (InBlock.same ?_))) -- x2
        refine AWP.stepR [2] fun K hK => ?_ -- r14
        simp only [go_sem, Nat.reduceEqDiff, Nat.reduceLT, Nat.reduceAdd, Nat.reduceMul, Nat.reduceSub, Nat.add_zero, Nat.zero_add, Int.reduceEq, Int.reduceLT]
        refine hK _ _ _ (by simp only [go_sem, Nat.reduceEqDiff, Nat.reduceLT, Nat.reduceAdd, Nat.reduceMul, Nat.reduceSub, Nat.add_zero, Nat.zero_add, Int.reduceEq, Int.reduceLT]; rfl) ?_; clear hK
        refine AWP.ret (?_)
        refine Fin.plain (.inr rfl) rfl rfl hok hgm ⟨?_, rfl⟩
        have hn0 : n = 0 := by simp at h55; omega
        rw [hn0, Nat.sub_zero, List.take_length] at hall2
        rw [checkF, if_pos hall, hall2, if_pos rfl]
end Go.Proofs.Ythheaehpnleiaaa.AX

/- An answer that is no more than is waited for. -/
namespace Go.Proofs.Ythheaehpnleiaaa.AX
open Go Go.Proofs
set_option maxRecDepth 100000
set_option linter.unusedVariables false
set_option linter.unusedSimpArgs false

def lightA (r : Rep) : Bool := decide (r.body.length ≤ 2000 ∧ r.meta_.length ≤ 300 ∧ r.tags.length ≤ 300 ∧ r.names.length ≤ 40 ∧ r.prefixes.length ≤ 40 ∧ r.next.size ≤ 300 ∧ r.shown.length ≤ 40)
def short (s : ByteArray) : Bool := decide (s.size ≤ 300)
def shortS (s : Shw) : Bool := decide (s.name.size ≤ 300)
def lightF (r : Rep) : Bool := lightA r && r.names.all short && r.prefixes.all short && r.shown.all shortS

end Go.Proofs.Ythheaehpnleiaaa.AX

/- An answer as bytes. -/
namespace Go.Proofs.Ythheaehpnleiaaa.AX
open Go Go.Proofs
set_option maxRecDepth 100000
set_option linter.unusedVariables false
set_option linter.unusedSimpArgs false

attribute [go_sem] implies_true false_implies true_implies Bool.false_eq_true List.any_cons List.any_nil Bool.or_false Bool.false_or Bool.and_false Bool.false_and Bool.true_or Bool.or_true and_true eq_self
theorem Has.lda {M : Mem} {i n : Nat} {cells : List Value} {e : TypeId} {w : Bool} (h : Has M i ⟨cells, e, w⟩) (hl : cells.length = n) : ldA M.get i 0 n = some (.agg cells.toArray) := by
  rw [ldA_at h.1, if_pos (by simp only; omega)]
  simp [← hl]
theorem mk_put {Mb M : Mem} (hg : Grew Mb M) {i : Nat} (h : Mb.next ≤ i) (hi : i < M.next) (b : Blk) : Grew Mb (M.put i b) ∧ Has (M.put i b) i b := ⟨hg.put h hi b, Has.put hi b⟩
theorem repC_len (r : Rep) (vb vm vt vn vp vs : Value) : (repC r vb vm vt vn vp vs).length = 17 := rfl

/-- what is ahead of the numbers -/
def headB (r : Rep) : List Int := [114, 101, 49, flagF [r.marker, r.done, r.more] 3]
def numsF (r : Rep) (k : Nat) : List Int := headB r ++ (((repN r).take k).map fun n => putB n 6).flatten
def midB (r : Rep) : List Int := [numsF r 7, longB r.meta_, longB r.tags, textsF r.names r.names.length, textsF r.prefixes r.prefixes.length, longB (sB r.next), putB r.shown.length 4].flatten
def shwB (s : Shw) : List Int := longB (sB s.name) ++ putB s.id 6 ++ putB s.size 6 ++ [flagF [s.marker, s.latest] 2]
def shownF (r : Rep) (k : Nat) : List Int := midB r ++ ((r.shown.take k).map shwB).flatten
def replyB (r : Rep) : List Int := shownF r r.shown.length ++ longB r.body
/-- what an answer's sizes are at most -/
structure Lt (r : Rep) : Prop where
  body : r.body.length ≤ 10000
  meta_ : r.meta_.length ≤ 10000
  tags : r.tags.length ≤ 10000
  names : r.names.length ≤ 1000
  prefixes : r.prefixes.length ≤ 1000
  next : r.next.size ≤ 10000
  shown : r.shown.length ≤ 1000
  nameS : ∀ s, s ∈ r.names → s.size ≤ 10000
  prefixS : ∀ s, s ∈ r.prefixes → s.size ≤ 10000
  shownS : ∀ s, s ∈ r.shown → s.name.size ≤ 10000
theorem Lt.of {r : Rep} (h : lightF r = true) : Lt r := by
  simp only [lightF, Bool.and_eq_true] at h
  obtain ⟨⟨⟨h1, h2⟩, h3⟩, h4⟩ := h
  have h1 := of_decide_eq_true h1
  have w : ∀ {a b c : Nat}, a ≤ b → b ≤ c → a ≤ c := fun h h' => Nat.le_trans h h'
  exact ⟨w h1.1 (by decide), w h1.2.1 (by decide), w h1.2.2.1 (by decide), w h1.2.2.2.1 (by decide), w h1.2.2.2.2.1 (by decide), w h1.2.2.2.2.2.1 (by decide), w h1.2.2.2.2.2.2 (by decide), fun s hs => w (of_decide_eq_true (List.all_eq_true.1 h2 s hs)) (by decide), fun s hs => w (of_decide_eq_true (List.all_eq_true.1 h3 s hs)) (by decide), fun s hs => w (of_decide_eq_true (List.all_eq_true.1 h4 s hs)) (by decide)⟩
end Go.Proofs.Ythheaehpnleiaaa.AX

/- Nodes as values; which of two rows of bytes stands ahead; how great a node is. -/
namespace Go.Proofs.Ythheaehpnleiaaa.AX
open Go Go.Proofs
set_option maxRecDepth 100000
set_option linter.unusedVariables false
set_option linter.unusedSimpArgs false

/-- is a row of bytes ahead of another one? -/
def lessB : List Int → List Int → Bool
  | [], [] => false
  | [], _ :: _ => true
  | _ :: _, [] => false
  | x :: xs, y :: ys => if x = y then lessB xs ys else decide (x < y)
structure Pr where
  kv : Value
  vv : Value
  key : List Int
  val : List Int
structure Kd where
  kv : Value
  key : List Int
  page : Int
  epoch : Int
def prC (p : Pr) : List Value := [p.kv, p.vv]
def kdC (k : Kd) : List Value := [k.kv, .int .i64 k.page, .int .i64 k.epoch]
structure Node where
  leaf : Bool
  pairs : List Pr
  kids : List Kd
def nodeC (leaf : Bool) (vp vk : Value) : List Value := [.bool leaf, vp, vk]
structure NodeR (M : Mem) (n : Node) (vp vk : Value) : Prop where
  pairs : Row_ M vp n.pairs.length (n.pairs.flatMap prC)
  kids : Row_ M vk n.kids.length (n.kids.flatMap kdC)
  pk : ∀ p, p ∈ n.pairs → RowB M p.kv p.key
  pv : ∀ p, p ∈ n.pairs → RowB M p.vv p.val
  kk : ∀ k, k ∈ n.kids → RowB M k.kv k.key
theorem NodeR.grew {M M1 : Mem} {n : Node} {vp vk : Value} (h : NodeR M n vp vk) (hg : Grew M M1) : NodeR M1 n vp vk :=
  ⟨h.pairs.grew hg, h.kids.grew hg, fun p hp => (h.pk p hp).grew hg, fun p hp => (h.pv p hp).grew hg, fun p hp => (h.kk p hp).grew hg⟩

theorem kdC_one {M : Mem} {k : Kd} (h : RowB M k.kv k.key) : oneCells (kdC k) = true := by
  simp only [oneCells, kdC, List.all_cons, List.all_nil, h.one]; rfl
theorem prC_one {M : Mem} {p : Pr} (h : RowB M p.kv p.key) (h' : RowB M p.vv p.val) : oneCells (prC p) = true := by
  simp only [oneCells, prC, List.all_cons, List.all_nil, h.one, h'.one]; rfl

/-- so much room things take -/
def prSz (p : Pr) : Int := 2 + (p.key.length : Int) + (p.val.length : Int)
def kdSz (k : Kd) : Int := 11 + (k.key.length : Int)
def sumF {α : Type} (f : α → Int) : List α → Int
  | [] => 0
  | a :: l => f a + sumF f l
def sizeF (n : Node) : Int := 3 + sumF prSz n.pairs + sumF kdSz n.kids
/-- a node that is no more than is waited for -/
structure Lt18 (n : Node) : Prop where
  pairs : n.pairs.length ≤ 1000
  kids : n.kids.length ≤ 1000
  pk : ∀ p, p ∈ n.pairs → p.key.length ≤ 1000
  pv : ∀ p, p ∈ n.pairs → p.val.length ≤ 1000
  kk : ∀ k, k ∈ n.kids → k.key.length ≤ 1000
end Go.Proofs.Ythheaehpnleiaaa.AX

/- What is wrong with a node's parts, by the document; whether it is no more than is waited for. -/
namespace Go.Proofs.Ythheaehpnleiaaa.AX
open Go Go.Proofs
set_option maxRecDepth 100000
set_option linter.unusedVariables false
set_option linter.unusedSimpArgs false

def prOk (p : Pr) : Bool := !(decide ((p.key.length : Int) > 64) || decide ((p.val.length : Int) > 160))
def kdRange (k : Kd) : Bool := ((decide (k.page < 0) || decide (k.page ≥ 4096)) || decide (k.epoch < 0)) || decide (k.epoch > 1099511627776)
def kdCode (k : Kd) : Int := if (k.key.length : Int) > 64 then 17 else if kdRange k = true then 2 else 0
def firstF : List Kd → Int
  | [] => 0
  | k :: l => if kdCode k = 0 then firstF l else kdCode k
def partsF (n : Node) : Int := if n.pairs.all prOk then firstF n.kids else 17

def prLt (p : Pr) : Bool := !(decide ((p.key.length : Int) > 300) || decide ((p.val.length : Int) > 300))
def kdLt (k : Kd) : Bool := !decide ((k.key.length : Int) > 300)
def numLt (n : Node) : Bool := !(decide ((n.pairs.length : Int) > 40) || decide ((n.kids.length : Int) > 60))
def lightN (n : Node) : Bool := numLt n && (n.pairs.all prLt && n.kids.all kdLt)
theorem Lt18.of {n : Node} (h : lightN n = true) : Lt18 n := by
  simp only [lightN, numLt, Bool.and_eq_true, Bool.not_eq_true', Bool.or_eq_false_iff, decide_eq_false_iff_not, List.all_eq_true, prLt, kdLt] at h
  obtain ⟨⟨h1, h2⟩, h3, h4⟩ := h
  exact ⟨by omega, by omega, fun p hp => by have := (h3 p hp).1; omega, fun p hp => by have := (h3 p hp).2; omega, fun p hp => by have := h4 p hp; omega⟩

end Go.Proofs.Ythheaehpnleiaaa.AX

/- What is wrong with a node, by the document. -/
namespace Go.Proofs.Ythheaehpnleiaaa.AX
open Go Go.Proofs
set_option maxRecDepth 100000
set_option linter.unusedVariables false
set_option linter.unusedSimpArgs false

/-- rows of bytes that rise -/
def risingB : List (List Int) → Bool
  | [] => true
  | x :: l => (match l with | [] => true | y :: _ => lessB x y) && risingB l
def formOk (n : Node) : Bool := (n.leaf && decide ((n.kids.length : Int) > 0)) || (!n.leaf && decide ((n.pairs.length : Int) > 0))
def checkN (n : Node) : Int := if formOk n = true then 4 else if partsF n = 0 then (if risingB (n.pairs.map Pr.key) && risingB (n.kids.map Kd.key) then (if sizeF n > 496 then 16 else 0) else 4) else partsF n

end Go.Proofs.Ythheaehpnleiaaa.AX
