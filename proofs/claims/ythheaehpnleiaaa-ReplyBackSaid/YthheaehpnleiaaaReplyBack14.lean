/- The other Get of answers: what stands ahead. -/
import Derived.Test.YthheaehpnleiaaaReplyBack11
import Derived.Test.YthheaehpnleiaaaReplyBack12
import Derived.Test.YthheaehpnleiaaaReplyBack13
import Derived.Test.YthheaehpnleiaaaReplyBack6
namespace Go.Proofs.Ythheaehpnleiaaa.AX
open Go Go.Proofs
set_option maxRecDepth 100000
set_option linter.unusedVariables false
set_option linter.unusedSimpArgs false

/-- bytes that are read cost bytes: there are not many things -/
theorem replyS_few {s : Rs} (hl : s.b.length ≤ 4000) (h : (endS (replyS s).1).code = 0) : (replyS s).2.names.length ≤ 1000 ∧ (replyS s).2.prefixes.length ≤ 1000 ∧ (replyS s).2.shown.length ≤ 1000 := by
  have k0 : (flagsS s 8).1.b.length ≤ 4000 := Nat.le_trans (flagsS_len s 8) hl
  have k1 : ∀ k, (sevS (flagsS s 8).1 k).b.length ≤ 4000 := fun k => by
    induction k with
    | zero => exact k0
    | succ k ih => exact Nat.le_trans (numS_len _ 6) ih
  have hm : ∀ {α : Type} (f : Rs → Rs × α) (hf : ∀ s, (f s).1.b.length ≤ s.b.length) (n : Nat) (s : Rs), (loopP f n s).1.b.length ≤ s.b.length := fun f hf n => by
    induction n with
    | zero => intro s; exact Nat.le_refl _
    | succ n ih =>
      intro s
      rw [loopP]
      split
      · exact Nat.le_trans (ih _) (hf s)
      · exact Nat.le_refl _
  have hM : ∀ {α : Type} (f : Rs → Rs × α) (hf : ∀ s, (f s).1.b.length ≤ s.b.length) (s : Rs), (manyS f s).1.b.length ≤ s.b.length := fun f hf s => Nat.le_trans (hm f hf _ _) (countS_len s)
  have ht : ∀ s : Rs, (textS s).1.b.length ≤ s.b.length := fun s => (textS_len s).1
  simp only [replyS] at h ⊢
  generalize hs0 : sevS (flagsS s 8).1 7 = s0 at h ⊢
  have q0 : s0.b.length ≤ 4000 := hs0 ▸ k1 7
  have q1 := ht s0
  have q2 := ht (textS s0).1
  generalize (textS (textS s0).1).1 = s2 at h q2 ⊢
  have q3 := hM textS ht s2
  have q4 := hM textS ht (manyS textS s2).1
  have q5 := ht (manyS textS (manyS textS s2).1).1
  have z1 := Classical.byContradiction fun hn => endS_bad hn h
  have z2 := Classical.byContradiction fun hn => textS_bad hn z1
  have z3 := Classical.byContradiction fun hn => manyS_bad shwS hn z2
  have z4 := Classical.byContradiction fun hn => textS_bad hn z3
  have z5 := Classical.byContradiction fun hn => manyS_bad textS hn z4
  have w0 := manyS_cost textS (fun s => textS_cost) z5
  have w1 := manyS_cost textS (fun s => textS_cost) z4
  have w2 := manyS_cost shwS (fun s => shwS_cost) z2
  rw [List.length_map, List.length_map]
  omega

end Go.Proofs.Ythheaehpnleiaaa.AX

/- The same answer twice is told to be the same. -/
namespace Go.Proofs.Ythheaehpnleiaaa.AX
open Go Go.Proofs
set_option maxRecDepth 100000
set_option linter.unusedVariables false
set_option linter.unusedSimpArgs false

theorem box2g (M : Mem) (a b : List Value) (e f : TypeId) : ∃ M1, ((M.bump 2).put M.next ⟨a, e, true⟩).put (M.next + 1) ⟨b, f, true⟩ = M1 ∧ Grew M M1 ∧ Has M1 M.next ⟨a, e, true⟩ ∧ Has M1 (M.next + 1) ⟨b, f, true⟩ ∧ M1.next = M.next + 2 := by
  have hlt1 : M.next < (M.bump 2).next := by rw [Mem.next_bump]; omega
  have hlt2 : M.next + 1 < (M.bump 2).next := by rw [Mem.next_bump]; omega
  obtain ⟨hg1, hh1⟩ := mk_put ((Grew.refl M).bump 2) (Nat.le_refl _) hlt1 ⟨a, e, true⟩
  obtain ⟨hg2, hh2⟩ := mk_put hg1 (show M.next ≤ M.next + 1 by omega) (show M.next + 1 < ((M.bump 2).put M.next ⟨a, e, true⟩).next from hlt2) ⟨b, f, true⟩
  exact ⟨_, rfl, hg2, hh1.put' (show M.next ≠ M.next + 1 by omega) _, hh2, rfl⟩
theorem sameT98_spec (v w : Value) (l : List ByteArray) (M : Mem) (hok : Ok M) (hv : Row_ M v l.length (l.map .string)) (hw : Row_ M w l.length (l.map .string)) (hl : l.length ≤ 1000000) :
    ∃ r M', ACall Try.prog 98 #[v, w] M r M' ∧ r = .bool true ∧ M' = M := by
  refine ACall.fin (args := [v, w]) (k := 26) (rs := [.tmp 4]) Try.func98 rfl rfl rfl (Nat.le_of_ble_eq_true rfl) ?_
  refine AWP.stepR [0, 1] fun K hK => ?_
  simp only [go_sem, Nat.reduceEqDiff, Nat.reduceLT, Nat.reduceAdd, Nat.reduceMul, Nat.reduceSub, Nat.add_zero, Nat.zero_add, Int.reduceEq, Int.reduceLT]
  refine hK _ _ _ (by simp only [go_sem, Nat.reduceEqDiff, Nat.reduceLT, Nat.reduceAdd, Nat.reduceMul, Nat.reduceSub, Nat.add_zero, Nat.zero_add, Int.reduceEq, Int.reduceLT]; rfl) ?_; clear hK
  refine AWP.seq ?_
  refine AWP.stepR [0, 1, 10] fun K hK => ?_
  simp only [go_sem, Nat.reduceEqDiff, Nat.reduceLT, Nat.reduceAdd, Nat.reduceMul, Nat.reduceSub, Nat.add_zero, Nat.zero_add, Int.reduceEq, Int.reduceLT, hv.len es_24, hw.len es_24]
  refine hK _ _ _ (by simp only [go_sem, Nat.reduceEqDiff, Nat.reduceLT, Nat.reduceAdd, Nat.reduceMul, Nat.reduceSub, Nat.add_zero, Nat.zero_add, Int.reduceEq, Int.reduceLT]; rfl) ?_; clear hK
  refine AWP.cond_split rfl (fun h10 => ?_) fun h10 => ?_
  · simp at h10
  · refine AWP.skip ?_
    refine AWP.seq ?_
    refine AWP.stepR [0, 1, 5] fun K hK => ?_
    simp only [go_sem, Nat.reduceEqDiff, Nat.reduceLT, Nat.reduceAdd, Nat.reduceMul, Nat.reduceSub, Nat.add_zero, Nat.zero_add, Int.reduceEq, Int.reduceLT]
    refine hK _ _ _ (by simp only [go_sem, Nat.reduceEqDiff, Nat.reduceLT, Nat.reduceAdd, Nat.reduceMul, Nat.reduceSub, Nat.add_zero, Nat.zero_add, Int.reduceEq, Int.reduceLT]; rfl) ?_; clear hK
    refine AWP.block ?_ -- b0
    refine AWP.loopK [0, 1, 5] (fun n e M0 => M0 = M ∧ n ≤ l.length ∧ e = [(0, v), (1, w), (5, .int .i64 ((l.length - n : Nat) : Int))]) l.length ?_ fun n e M0 hI => ?_ -- LOOP
    · simp only [go_sem, Nat.reduceEqDiff, Nat.reduceLT, Nat.reduceAdd, Nat.reduceMul, Nat.reduceSub, Nat.add_zero, Nat.zero_add, Int.reduceEq, Int.reduceLT, true_and, Nat.le_refl]
      simp
    obtain ⟨rfl, hn, rfl⟩ := hI
    refine AWP.seq ?_
    refine AWP.stepR [0, 1, 5, 14] fun K hK => ?_
    simp only [go_sem, Nat.reduceEqDiff, Nat.reduceLT, Nat.reduceAdd, Nat.reduceMul, Nat.reduceSub, Nat.add_zero, Nat.zero_add, Int.reduceEq, Int.reduceLT, hv.len es_24]
    refine hK _ _ _ (by simp only [go_sem, Nat.reduceEqDiff, Nat.reduceLT, Nat.reduceAdd, Nat.reduceMul, Nat.reduceSub, Nat.add_zero, Nat.zero_add, Int.reduceEq, Int.reduceLT]; rfl) ?_; clear hK
    refine AWP.cond_split rfl (fun h14 => ?_) fun h14 => ?_
    · have hlt : l.length - n < l.length := by simpa using h14
      obtain ⟨b, q, ha, hd⟩ := hv.at1 (by simp) es_24 hlt
      have hd := hd M0 (Grew.refl _)
      rw [show (l.map Value.string)[l.length - n]? = some (.string l[l.length - n]) by simp [hlt]] at hd
      obtain ⟨b', q', ha', hd'⟩ := hw.at1 (by simp) es_24 hlt
      have hd' := hd' M0 (Grew.refl _)
      rw [show (l.map Value.string)[l.length - n]? = some (.string l[l.length - n]) by simp [hlt]] at hd'
      generalize l[l.length - n] = x at hd hd'
      refine AWP.skip ?_
      refine AWP.seq ?_
      refine AWP.block ?_ -- b1
      refine AWP.stepD hmo [0, 1, 2, 3, 4, 5, 6, 7, 8] [0, 0, 3, 7, 0, 0, 48, 112, 255] [] [] (by kernel_rfl) [0, 1, 5, 25] fun K hK => ?_
      simp only [go_sem, Nat.reduceEqDiff, Nat.reduceLT, Nat.reduceAdd, Nat.reduceMul, Nat.reduceSub, Nat.add_zero, Nat.zero_add, Int.reduceEq, Int.reduceLT, ha, ha', hd, hd', ld_9]
      refine hK _ _ _ (by simp only [go_sem, Nat.reduceEqDiff, Nat.reduceLT, Nat.reduceAdd, Nat.reduceMul, Nat.reduceSub, Nat.add_zero, Nat.zero_add, Int.reduceEq, Int.reduceLT]; rfl) ?_; clear hK
      refine AWP.cond_split rfl (fun h25 => ?_) fun h25 => ?_
      · simp at h25
      · refine AWP.skip ?_
        refine AWP.lastR fun K hK => ?_
        simp only [go_sem, Nat.reduceEqDiff, Nat.reduceLT, Nat.reduceAdd, Nat.reduceMul, Nat.reduceSub, Nat.add_zero, Nat.zero_add, Int.reduceEq, Int.reduceLT]
        refine hK _ _ ?_; clear hK
        refine ⟨n - 1, by omega, rfl, by omega, ?_⟩ -- ROUND
        simp only [go_sem, Nat.reduceEqDiff, Nat.reduceLT, Nat.reduceAdd, Nat.reduceMul, Nat.reduceSub, Nat.add_zero, Nat.zero_add, Int.reduceEq, Int.reduceLT]
        rw [i64w (by omega) (by omega), show ((l.length - n : Nat) : Int) + 1 = ((l.length - (n - 1) : Nat) : Int) by omega]
    · refine AWP.exit (Then.exit (Then.exit (InBlock.same ?_)))
      refine AWP.stepR [4] fun K hK => ?_
      simp only [go_sem, Nat.reduceEqDiff, Nat.reduceLT, Nat.reduceAdd, Nat.reduceMul, Nat.reduceSub, Nat.add_zero, Nat.zero_add, Int.reduceEq, Int.reduceLT]
      refine hK _ _ _ (by simp only [go_sem, Nat.reduceEqDiff, Nat.reduceLT, Nat.reduceAdd, Nat.reduceMul, Nat.reduceSub, Nat.add_zero, Nat.zero_add, Int.reduceEq, Int.reduceLT]; rfl) ?_; clear hK
      refine AWP.ret (?_)
      exact Fin.plain (.inr rfl) rfl rfl hok (Grew.refl _) ⟨rfl, rfl⟩

theorem eqFl_same {P : Program} {xs : Array Value} : ∀ fs : List Field, (∀ f ∈ fs, ∃ v, partV P f.type xs f.offset = some v ∧ eqS P f.type v v = some true) → eqFl P xs xs fs = some true := by
  intro fs
  induction fs with
  | nil => intro _; rfl
  | cons f fs ih =>
    intro h
    obtain ⟨v, h1, h2⟩ := h f (List.mem_cons_self ..)
    have h3 := ih fun g hg => h g (List.mem_cons_of_mem _ hg)
    unfold eqFl
    simp only [h1, h2, h3, ite_self]
theorem eqS_9 (s : ByteArray) : eqS Try.prog 9 (.string s) (.string s) = some true := by
  show some (s.toList == s.toList) = some true; simp
theorem eqS_3 (n : Int) : eqS Try.prog 3 (.int .i64 n) (.int .i64 n) = some true := by
  show (if IntKind.i64 = IntKind.i64 then some (n == n) else none) = some true; simp
theorem eqS_4 (n : Bool) : eqS Try.prog 4 (.bool n) (.bool n) = some true := by
  show some (n == n) = some true; simp
theorem shw_ne (x : Shw) : binV Try.prog .neq 63 (.agg (shwC x).toArray) (.agg (shwC x).toArray) = some (.bool false) := by
  obtain ⟨fs, hfs, hall⟩ : ∃ fs : Array Field, Try.prog.underlying 63 = some (.struct fs) ∧ ∀ f ∈ fs.toList, ∃ v, partV Try.prog f.type (shwC x).toArray f.offset = some v ∧ eqS Try.prog f.type v v = some true := by
    refine ⟨_, Try.underlying63, fun f hf => ?_⟩
    simp only [List.mem_cons, List.not_mem_nil, or_false] at hf
    rcases hf with rfl | rfl | rfl | rfl | rfl
    · exact ⟨.string x.name, by kernel_rfl, eqS_9 _⟩
    · exact ⟨.int .i64 x.id, by kernel_rfl, eqS_3 _⟩
    · exact ⟨.int .i64 x.size, by kernel_rfl, eqS_3 _⟩
    · exact ⟨.bool x.marker, by kernel_rfl, eqS_4 _⟩
    · exact ⟨.bool x.latest, by kernel_rfl, eqS_4 _⟩
  have h : eqV Try.prog 63 (.agg (shwC x).toArray) (.agg (shwC x).toArray) = some true := by
    simp only [eqV, hfs]
    rw [if_pos ⟨by kernel_rfl, by kernel_rfl⟩]
    exact eqFl_same _ hall
  simp only [binV, h, Option.map_some, Bool.not_true]
theorem sameS65_spec (v w : Value) (l : List Shw) (M : Mem) (hok : Ok M) (hv : Row_ M v l.length (l.flatMap shwC)) (hw : Row_ M w l.length (l.flatMap shwC)) (hl : l.length ≤ 1000000) :
    ∃ r M', ACall Try.prog 65 #[v, w] M r M' ∧ r = .bool true ∧ M' = M := by
  refine ACall.fin (args := [v, w]) (k := 26) (rs := [.tmp 4]) Try.func65 rfl rfl rfl (Nat.le_of_ble_eq_true rfl) ?_
  refine AWP.stepR [0, 1] fun K hK => ?_
  simp only [go_sem, Nat.reduceEqDiff, Nat.reduceLT, Nat.reduceAdd, Nat.reduceMul, Nat.reduceSub, Nat.add_zero, Nat.zero_add, Int.reduceEq, Int.reduceLT]
  refine hK _ _ _ (by simp only [go_sem, Nat.reduceEqDiff, Nat.reduceLT, Nat.reduceAdd, Nat.reduceMul, Nat.reduceSub, Nat.add_zero, Nat.zero_add, Int.reduceEq, Int.reduceLT]; rfl) ?_; clear hK
  refine AWP.seq ?_
  refine AWP.stepR [0, 1, 10] fun K hK => ?_
  simp only [go_sem, Nat.reduceEqDiff, Nat.reduceLT, Nat.reduceAdd, Nat.reduceMul, Nat.reduceSub, Nat.add_zero, Nat.zero_add, Int.reduceEq, Int.reduceLT, hv.len es_27, hw.len es_27]
  refine hK _ _ _ (by simp only [go_sem, Nat.reduceEqDiff, Nat.reduceLT, Nat.reduceAdd, Nat.reduceMul, Nat.reduceSub, Nat.add_zero, Nat.zero_add, Int.reduceEq, Int.reduceLT]; rfl) ?_; clear hK
  refine AWP.cond_split rfl (fun h10 => ?_) fun h10 => ?_
  · simp at h10
  · refine AWP.skip ?_
    refine AWP.seq ?_
    refine AWP.stepR [0, 1, 5] fun K hK => ?_
    simp only [go_sem, Nat.reduceEqDiff, Nat.reduceLT, Nat.reduceAdd, Nat.reduceMul, Nat.reduceSub, Nat.add_zero, Nat.zero_add, Int.reduceEq, Int.reduceLT]
    refine hK _ _ _ (by simp only [go_sem, Nat.reduceEqDiff, Nat.reduceLT, Nat.reduceAdd, Nat.reduceMul, Nat.reduceSub, Nat.add_zero, Nat.zero_add, Int.reduceEq, Int.reduceLT]; rfl) ?_; clear hK
    refine AWP.block ?_ -- b0
    refine AWP.loopK [0, 1, 5] (fun n e M0 => M0 = M ∧ n ≤ l.length ∧ e = [(0, v), (1, w), (5, .int .i64 ((l.length - n : Nat) : Int))]) l.length ?_ fun n e M0 hI => ?_ -- LOOP
    · simp only [go_sem, Nat.reduceEqDiff, Nat.reduceLT, Nat.reduceAdd, Nat.reduceMul, Nat.reduceSub, Nat.add_zero, Nat.zero_add, Int.reduceEq, Int.reduceLT, true_and, Nat.le_refl]
      simp
    obtain ⟨rfl, hn, rfl⟩ := hI
    refine AWP.seq ?_
    refine AWP.stepR [0, 1, 5, 14] fun K hK => ?_
    simp only [go_sem, Nat.reduceEqDiff, Nat.reduceLT, Nat.reduceAdd, Nat.reduceMul, Nat.reduceSub, Nat.add_zero, Nat.zero_add, Int.reduceEq, Int.reduceLT, hv.len es_27]
    refine hK _ _ _ (by simp only [go_sem, Nat.reduceEqDiff, Nat.reduceLT, Nat.reduceAdd, Nat.reduceMul, Nat.reduceSub, Nat.add_zero, Nat.zero_add, Int.reduceEq, Int.reduceLT]; rfl) ?_; clear hK
    refine AWP.cond_split rfl (fun h14 => ?_) fun h14 => ?_
    · have hlt : l.length - n < l.length := by simpa using h14
      obtain ⟨b, q, ha, hd⟩ := hv.at (flatMap_len shwC_len _) es_27 hlt
      have hd := (hd M0 (Grew.refl _)).2
      rw [flatMap_at shwC_len _ _ hlt] at hd
      obtain ⟨b', q', ha', hd'⟩ := hw.at (flatMap_len shwC_len _) es_27 hlt
      have hd' := (hd' M0 (Grew.refl _)).2
      rw [flatMap_at shwC_len _ _ hlt] at hd'
      generalize l[l.length - n] = x at hd hd'
      have hne := shw_ne x
      refine AWP.skip ?_
      refine AWP.seq ?_
      refine AWP.block ?_ -- b1
      refine AWP.stepD hmo [0, 1, 2, 3, 4, 5, 6, 7, 8] [0, 0, 3, 7, 0, 0, 48, 112, 255] [] [] (by kernel_rfl) [0, 1, 5, 25] fun K hK => ?_
      simp only [go_sem, Nat.reduceEqDiff, Nat.reduceLT, Nat.reduceAdd, Nat.reduceMul, Nat.reduceSub, Nat.add_zero, Nat.zero_add, Int.reduceEq, Int.reduceLT, ha, ha', hd, hd', ld_63, hne]
      refine hK _ _ _ (by simp only [go_sem, Nat.reduceEqDiff, Nat.reduceLT, Nat.reduceAdd, Nat.reduceMul, Nat.reduceSub, Nat.add_zero, Nat.zero_add, Int.reduceEq, Int.reduceLT]; rfl) ?_; clear hK
      refine AWP.cond_split rfl (fun h25 => ?_) fun h25 => ?_
      · simp at h25
      · refine AWP.skip ?_
        refine AWP.lastR fun K hK => ?_
        simp only [go_sem, Nat.reduceEqDiff, Nat.reduceLT, Nat.reduceAdd, Nat.reduceMul, Nat.reduceSub, Nat.add_zero, Nat.zero_add, Int.reduceEq, Int.reduceLT]
        refine hK _ _ ?_; clear hK
        refine ⟨n - 1, by omega, rfl, by omega, ?_⟩ -- ROUND
        simp only [go_sem, Nat.reduceEqDiff, Nat.reduceLT, Nat.reduceAdd, Nat.reduceMul, Nat.reduceSub, Nat.add_zero, Nat.zero_add, Int.reduceEq, Int.reduceLT]
        rw [i64w (by omega) (by omega), show ((l.length - n : Nat) : Int) + 1 = ((l.length - (n - 1) : Nat) : Int) by omega]
    · refine AWP.exit (Then.exit (Then.exit (InBlock.same ?_)))
      refine AWP.stepR [4] fun K hK => ?_
      simp only [go_sem, Nat.reduceEqDiff, Nat.reduceLT, Nat.reduceAdd, Nat.reduceMul, Nat.reduceSub, Nat.add_zero, Nat.zero_add, Int.reduceEq, Int.reduceLT]
      refine hK _ _ _ (by simp only [go_sem, Nat.reduceEqDiff, Nat.reduceLT, Nat.reduceAdd, Nat.reduceMul, Nat.reduceSub, Nat.add_zero, Nat.zero_add, Int.reduceEq, Int.reduceLT]; rfl) ?_; clear hK
      refine AWP.ret (?_)
      exact Fin.plain (.inr rfl) rfl rfl hok (Grew.refl _) ⟨rfl, rfl⟩

theorem bq_4b (a b : Bool) : binV Try.prog .eql 4 (.bool a) (.bool b) = some (.bool (a == b)) := rfl
theorem bnq_4b (a b : Bool) : binV Try.prog .neq 4 (.bool a) (.bool b) = some (.bool (!(a == b))) := rfl
theorem beqB (b : Bool) : (b == b) = true := by cases b <;> rfl
theorem bne_i (n : Int) : (n != n) = false := by simp
theorem bseq (s : ByteArray) : (s.toList == s.toList) = true := by simp
/-- a listing's cells -/
def lsC (vn vp : Value) (x : ByteArray) (m : Bool) : List Value := [vn, vp, .string x, .bool m]
theorem same64_spec (vn vp wn wp : Value) (x : ByteArray) (m : Bool) (n p : List ByteArray) (M : Mem) (hok : Ok M) (h1 : Row_ M vn n.length (n.map .string)) (h2 : Row_ M vp p.length (p.map .string)) (h3 : Row_ M wn n.length (n.map .string)) (h4 : Row_ M wp p.length (p.map .string)) (hn : n.length ≤ 1000000) (hp : p.length ≤ 1000000) :
    ∃ r M', ACall Try.prog 64 #[.agg (lsC vn vp x m).toArray, .agg (lsC wn wp x m).toArray] M r M' ∧ r = .bool true ∧ M' = M := by
  refine ACall.fin (args := [.agg (lsC vn vp x m).toArray, .agg (lsC wn wp x m).toArray]) (k := 31) (rs := [.tmp 4]) Try.func64 rfl rfl rfl (Nat.le_of_ble_eq_true rfl) ?_
  refine AWP.stepR [2, 3] fun K hK => ?_
  simp only [go_sem, Nat.reduceEqDiff, Nat.reduceLT, Nat.reduceAdd, Nat.reduceMul, Nat.reduceSub, Nat.add_zero, Nat.zero_add, Int.reduceEq, Int.reduceLT]
  refine hK _ _ _ (by simp only [go_sem, Nat.reduceEqDiff, Nat.reduceLT, Nat.reduceAdd, Nat.reduceMul, Nat.reduceSub, Nat.add_zero, Nat.zero_add, Int.reduceEq, Int.reduceLT]; rfl) ?_; clear hK
  obtain ⟨M1, hM1, hg1, hh1, hh2, hn1⟩ := box2g M (lsC vn vp x m) (lsC wn wp x m) 26 26
  change AWP _ _ _ ⟨_, ((M.bump 2).put M.next ⟨lsC vn vp x m, 26, true⟩).put (M.next + 1) ⟨lsC wn wp x m, 26, true⟩⟩ _
  rw [hM1]
  obtain ⟨ra, Ma, hca, hra, hMa⟩ := sameT98_spec vn wn n M1 (hg1.ok hok) (h1.grew hg1) (h3.grew hg1) hn
  rw [hra, hMa] at hca
  obtain ⟨rb, Mb, hcb, hrb, hMb⟩ := sameT98_spec vp wp p M1 (hg1.ok hok) (h2.grew hg1) (h4.grew hg1) hp
  rw [hrb, hMb] at hcb
  refine AWP.stepR [4] fun K hK => ?_
  simp only [go_sem, Nat.reduceEqDiff, Nat.reduceLT, Nat.reduceAdd, Nat.reduceMul, Nat.reduceSub, Nat.add_zero, Nat.zero_add, Int.reduceEq, Int.reduceLT, ld_24, hh1.ld, hh2.ld, lsC]
  refine ⟨_, _, hca, ?_⟩
  try simp only [go_sem, Nat.reduceEqDiff, Nat.reduceLT, Nat.reduceAdd, Nat.reduceMul, Nat.reduceSub, Nat.add_zero, Nat.zero_add, Int.reduceEq, Int.reduceLT, ld_24, hh1.ld, hh2.ld, lsC]
  refine ⟨_, _, hcb, ?_⟩
  try simp only [go_sem, Nat.reduceEqDiff, Nat.reduceLT, Nat.reduceAdd, Nat.reduceMul, Nat.reduceSub, Nat.add_zero, Nat.zero_add, Int.reduceEq, Int.reduceLT, ld_9, ld_4, hh1.ld, hh2.ld, lsC, bq_4b, beqB, bseq]
  refine hK _ _ _ (by simp only [go_sem, Nat.reduceEqDiff, Nat.reduceLT, Nat.reduceAdd, Nat.reduceMul, Nat.reduceSub, Nat.add_zero, Nat.zero_add, Int.reduceEq, Int.reduceLT]; rfl) ?_; clear hK
  refine AWP.ret (?_)
  exact Fin.plain (.inr rfl) rfl rfl hok hg1 ⟨rfl, rfl⟩

theorem ldA_sub {M : Mem} {i o n : Nat} {blk : Blk} (h : Has M i blk) (hl : o + n ≤ blk.cells.length) : ldA M.get i o n = some (.agg ((blk.cells.drop o).take n).toArray) := by
  rw [ldA_at h.1, if_pos hl]
theorem same19_spec (q : Rep) (vb vm vt vn vp vs wb wm wt wn wp ws : Value) (M : Mem) (hok : Ok M) (h : RepR M q vb vm vt vn vp vs) (h' : RepR M q wb wm wt wn wp ws) (hb : q.body.length ≤ 1000000) (hm : q.meta_.length ≤ 1000000) (ht : q.tags.length ≤ 1000000) (hn : q.names.length ≤ 1000000) (hp : q.prefixes.length ≤ 1000000) (hs : q.shown.length ≤ 1000000) :
    ∃ r M', ACall Try.prog 19 #[.agg (repC q vb vm vt vn vp vs).toArray, .agg (repC q wb wm wt wn wp ws).toArray] M r M' ∧ r = .bool true ∧ M' = M := by
  refine ACall.fin (args := [.agg (repC q vb vm vt vn vp vs).toArray, .agg (repC q wb wm wt wn wp ws).toArray]) (k := 99) (rs := [.tmp 4]) Try.func19 rfl rfl rfl (Nat.le_of_ble_eq_true rfl) ?_
  refine AWP.stepR [2, 3] fun K hK => ?_
  simp only [go_sem, Nat.reduceEqDiff, Nat.reduceLT, Nat.reduceAdd, Nat.reduceMul, Nat.reduceSub, Nat.add_zero, Nat.zero_add, Int.reduceEq, Int.reduceLT]
  refine hK _ _ _ (by simp only [go_sem, Nat.reduceEqDiff, Nat.reduceLT, Nat.reduceAdd, Nat.reduceMul, Nat.reduceSub, Nat.add_zero, Nat.zero_add, Int.reduceEq, Int.reduceLT]; rfl) ?_; clear hK
  obtain ⟨M1, hM1, hg1, hh1, hh2, hn1⟩ := box2g M (repC q vb vm vt vn vp vs) (repC q wb wm wt wn wp ws) 29 29
  change AWP _ _ _ ⟨_, ((M.bump 2).put M.next ⟨repC q vb vm vt vn vp vs, 29, true⟩).put (M.next + 1) ⟨repC q wb wm wt wn wp ws, 29, true⟩⟩ _
  rw [hM1]
  have ok1 := hg1.ok hok
  have call : ∀ (v w : Value) (l : List Int), RowB M v l → RowB M w l → l.length ≤ 1000000 → ACall Try.prog 14 #[v, w] M1 (.bool true) M1 := fun v w l hv hw hl => by
    obtain ⟨r, M', hc, hr, hM⟩ := same14_spec v w l l M1 ok1 (hv.grew hg1) (hw.grew hg1) (by omega)
    rw [hr, hM] at hc
    simpa using hc
  have cb := call vb wb q.body h.body h'.body hb
  have cm := call vm wm q.meta_ h.meta_ h'.meta_ hm
  have ct := call vt wt q.tags h.tags h'.tags ht
  obtain ⟨rl, Ml, cl, hrl, hMl⟩ := same64_spec vn vp wn wp q.next q.more q.names q.prefixes M1 ok1 (h.names.grew hg1) (h.prefixes.grew hg1) (h'.names.grew hg1) (h'.prefixes.grew hg1) hn hp
  rw [hrl, hMl] at cl
  obtain ⟨rs, Ms, cs, hrs, hMs⟩ := sameS65_spec vs ws q.shown M1 ok1 (h.shown.grew hg1) (h'.shown.grew hg1) hs
  rw [hrs, hMs] at cs
  have l1 : ldA M1.get M.next 9 4 = some (.agg #[vn, vp, .string q.next, .bool q.more]) := by
    rw [ldA_sub hh1 (by rw [repC_len]; decide)]; rfl
  have l2 : ldA M1.get (M.next + 1) 9 4 = some (.agg #[wn, wp, .string q.next, .bool q.more]) := by
    rw [ldA_sub hh2 (by rw [repC_len]; decide)]; rfl
  refine AWP.seq ?_
  refine AWP.stepR [2, 3, 65] fun K hK => ?_
  simp -implicitDefEqProofs only [go_sem, Nat.reduceEqDiff, Nat.reduceLT, Nat.reduceAdd, Nat.reduceMul, Nat.reduceSub, Nat.add_zero, Nat.zero_add, Int.reduceEq, Int.reduceLT, ld_22, ld_3, ld_4, hh1.ld, hh2.ld, repC, bnq_4b, beqB, bne_i, Bool.not_true]
  refine hK _ _ _ (by simp only [go_sem, Nat.reduceEqDiff, Nat.reduceLT, Nat.reduceAdd, Nat.reduceMul, Nat.reduceSub, Nat.add_zero, Nat.zero_add, Int.reduceEq, Int.reduceLT]; rfl) ?_; clear hK
  refine AWP.cond_split rfl (fun h65 => ?_) fun h65 => ?_
  · cases h65
  · refine AWP.skip ?_
    refine AWP.stepR [4] fun K hK => ?_
    simp -implicitDefEqProofs only [go_sem, Nat.reduceEqDiff, Nat.reduceLT, Nat.reduceAdd, Nat.reduceMul, Nat.reduceSub, Nat.add_zero, Nat.zero_add, Int.reduceEq, Int.reduceLT, ld_23, hh1.ld, hh2.ld, repC]
    refine ⟨_, _, cb, ?_⟩
    try simp -implicitDefEqProofs only [go_sem, Nat.reduceEqDiff, Nat.reduceLT, Nat.reduceAdd, Nat.reduceMul, Nat.reduceSub, Nat.add_zero, Nat.zero_add, Int.reduceEq, Int.reduceLT, ld_23, hh1.ld, hh2.ld, repC]
    refine ⟨_, _, cm, ?_⟩
    try simp -implicitDefEqProofs only [go_sem, Nat.reduceEqDiff, Nat.reduceLT, Nat.reduceAdd, Nat.reduceMul, Nat.reduceSub, Nat.add_zero, Nat.zero_add, Int.reduceEq, Int.reduceLT, ld_23, hh1.ld, hh2.ld, repC]
    refine ⟨_, _, ct, ?_⟩
    try simp -implicitDefEqProofs only [go_sem, Nat.reduceEqDiff, Nat.reduceLT, Nat.reduceAdd, Nat.reduceMul, Nat.reduceSub, Nat.add_zero, Nat.zero_add, Int.reduceEq, Int.reduceLT, ld_26, l1, l2]
    refine ⟨_, _, cl, ?_⟩
    try simp -implicitDefEqProofs only [go_sem, Nat.reduceEqDiff, Nat.reduceLT, Nat.reduceAdd, Nat.reduceMul, Nat.reduceSub, Nat.add_zero, Nat.zero_add, Int.reduceEq, Int.reduceLT, ld_27, hh1.ld, hh2.ld, repC]
    refine ⟨_, _, cs, ?_⟩
    refine hK _ _ _ (by simp only [go_sem, Nat.reduceEqDiff, Nat.reduceLT, Nat.reduceAdd, Nat.reduceMul, Nat.reduceSub, Nat.add_zero, Nat.zero_add, Int.reduceEq, Int.reduceLT]; rfl) ?_; clear hK
    refine AWP.ret (?_)
    exact Fin.plain (.inr rfl) rfl rfl hok hg1 ⟨rfl, rfl⟩
end Go.Proofs.Ythheaehpnleiaaa.AX

/- Answers there and back, in plain words: no program in sight. -/
namespace Go.Proofs.Ythheaehpnleiaaa.AX
open Go Go.Proofs
set_option maxRecDepth 4000
set_option linter.unusedVariables false
set_option linter.unusedSimpArgs false

theorem strOf_sB (s : ByteArray) : strOf (sB s) = s := by
  unfold strOf sB
  rw [List.map_map]
  have : (fun n : Int => UInt8.ofNat n.toNat) ∘ (fun b : UInt8 => (b.toNat : Int)) = id := by
    funext b; simp
  rw [this, List.map_id]
theorem sB_strOf {l : List Int} (h : BytB l) : sB (strOf l) = l := by
  unfold strOf sB
  simp only [List.map_map]
  have : ∀ x ∈ l, ((fun b : UInt8 => (b.toNat : Int)) ∘ fun n : Int => UInt8.ofNat n.toNat) x = x := fun x hx => by
    have := h x hx
    simp only [Function.comp_apply, UInt8.toNat_ofNat']
    omega
  rw [List.map_congr_left this]; simp
theorem numS_in4 (n : Int) (h0 : 0 ≤ n) (h1 : n < 4294967296) (r : List Int) : numS ⟨putB n 4 ++ r, 0⟩ 4 = (⟨r, 0⟩, n) := numS_in 0 4 n h0 (by simpa using h1) r
theorem numS_in6 (n : Int) (h0 : 0 ≤ n) (h1 : n ≤ 1099511627776) (r : List Int) : numS ⟨putB n 6 ++ r, 0⟩ 6 = (⟨r, 0⟩, n) := numS_in 0 6 n h0 (by simp; omega) r
theorem textS_in (l r : List Int) (h : l.length ≤ 1000000) : textS ⟨longB l ++ r, 0⟩ = (⟨r, 0⟩, l) := by
  have e : numS ⟨longB l ++ r, 0⟩ 4 = (⟨l ++ r, 0⟩, (l.length : Int)) := by rw [longB, List.append_assoc]; exact numS_in4 _ (by omega) (by omega) _
  have c : capS (numS ⟨longB l ++ r, 0⟩ 4) = ⟨l ++ r, 0⟩ := by rw [e, capS, if_neg (by rintro ⟨_, h⟩; simp only at h; omega)]
  rw [textS, c, if_neg (by simp), e]
  exact takeS_inZ l r
theorem countS_in (n : Nat) (r : List Int) (h : n ≤ 65536) : countS ⟨putB n 4 ++ r, 0⟩ = (⟨r, 0⟩, (n : Int)) := by
  have e : numS ⟨putB n 4 ++ r, 0⟩ 4 = (⟨r, 0⟩, (n : Int)) := numS_in4 _ (by omega) (by omega) _
  rw [countS, e, if_neg (by simp only; omega)]
theorem manyS_in {α : Type} (f : Rs → Rs × α) (B : α → List Int) (l : List α) (r : List Int) (hl : l.length ≤ 65536) (hf : ∀ a, a ∈ l → ∀ r, f ⟨B a ++ r, 0⟩ = (⟨r, 0⟩, a)) : manyS f ⟨putB l.length 4 ++ ((l.map B).flatten ++ r), 0⟩ = (⟨r, 0⟩, l) := by
  rw [manyS, countS_in _ _ hl]
  simp only [Int.toNat_natCast]
  exact loopP_in f B l r hf
theorem flagsS_in (n t : Int) (h1 : n < t) (r : List Int) : flagsS ⟨n :: r, 0⟩ t = (⟨r, 0⟩, n) := by
  rw [flagsS, numS_in1, if_neg (by simp only; omega)]
theorem flag2 (a b : Bool) : flagF [a, b] 2 < 4 ∧ bitF (flagF [a, b] 2) 0 = a ∧ bitF (flagF [a, b] 2) 1 = b := by cases a <;> cases b <;> decide
theorem flag3 (a b c : Bool) : flagF [a, b, c] 3 < 8 ∧ bitF (flagF [a, b, c] 3) 0 = a ∧ bitF (flagF [a, b, c] 3) 1 = b ∧ bitF (flagF [a, b, c] 3) 2 = c := by cases a <;> cases b <;> cases c <;> decide
theorem flag2_bits (n : Int) (h : 0 ≤ n) (h' : n < 4) : flagF [bitF n 0, bitF n 1] 2 = n := by
  have : n = 0 ∨ n = 1 ∨ n = 2 ∨ n = 3 := by omega
  rcases this with rfl | rfl | rfl | rfl <;> decide
theorem flag3_bits (n : Int) (h : 0 ≤ n) (h' : n < 8) : flagF [bitF n 0, bitF n 1, bitF n 2] 3 = n := by
  have : n = 0 ∨ n = 1 ∨ n = 2 ∨ n = 3 ∨ n = 4 ∨ n = 5 ∨ n = 6 ∨ n = 7 := by omega
  rcases this with rfl | rfl | rfl | rfl | rfl | rfl | rfl | rfl <;> decide
theorem shwS_in (s : Shw) (hn : s.name.size ≤ 1000000) (h : shwOk s = true) (r : List Int) : shwS ⟨shwB s ++ r, 0⟩ = (⟨r, 0⟩, s) := by
  simp only [shwOk, numOk, Bool.and_eq_true, decide_eq_true_eq] at h
  obtain ⟨h1, h2⟩ := h
  obtain ⟨f1, f2, f3⟩ := flag2 s.marker s.latest
  have e1 : textS ⟨shwB s ++ r, 0⟩ = (⟨putB s.id 6 ++ (putB s.size 6 ++ (flagF [s.marker, s.latest] 2 :: r)), 0⟩, sB s.name) := by
    rw [shwB]
    simp only [List.append_assoc, List.cons_append, List.nil_append]
    exact textS_in _ _ (by rw [sB_length]; exact hn)
  have e2 := numS_in6 s.id h1.1 h1.2 (putB s.size 6 ++ (flagF [s.marker, s.latest] 2 :: r))
  have e3 := numS_in6 s.size h2.1 h2.2 (flagF [s.marker, s.latest] 2 :: r)
  have e4 := flagsS_in (flagF [s.marker, s.latest] 2) 4 f1 r
  simp only [shwS, e1, e2, e3, e4, strOf_sB, f2, f3]
theorem texts_form (l : List ByteArray) : textsF l l.length = putB (l.map sB).length 4 ++ ((l.map sB).map longB).flatten := by
  rw [textsF, List.take_length, List.length_map, List.map_map]; rfl
theorem getR_put {r : Rep} (hL : Lt r) (hc : checkF r = 0) : getR (replyB r) = (r, 0) := by
  obtain ⟨hn, hs⟩ := checkF_zero hc
  have hs := List.all_eq_true.1 hs
  simp only [repN, List.all_cons, List.all_nil, Bool.and_true, Bool.and_eq_true, numOk, decide_eq_true_eq] at hn
  obtain ⟨n0, n1, n2, n3, n4, n5, n6⟩ := hn
  obtain ⟨f1, f2, f3, f4⟩ := flag3 r.marker r.done r.more
  have b1 := hL.body; have b2 := hL.meta_; have b3 := hL.tags; have b4 := hL.names; have b5 := hL.prefixes; have b6 := hL.next; have b7 := hL.shown
  have e0 : replyB r = [114, 101, 49] ++ (flagF [r.marker, r.done, r.more] 3 :: (putB r.code 6 ++ (putB r.id 6 ++ (putB r.seq 6 ++ (putB r.size 6 ++ (putB r.until_ 6 ++ (putB r.upload 6 ++ (putB r.count 6 ++ (longB r.meta_ ++ (longB r.tags ++ (putB (r.names.map sB).length 4 ++ (((r.names.map sB).map longB).flatten ++ (putB (r.prefixes.map sB).length 4 ++ (((r.prefixes.map sB).map longB).flatten ++ (longB (sB r.next) ++ (putB r.shown.length 4 ++ ((r.shown.map shwB).flatten ++ (longB r.body ++ [])))))))))))))))))) := by
    rw [replyB, shownF, midB, numsF, headB, texts_form, texts_form, List.take_length, show (repN r).take 7 = repN r from rfl, repN]
    simp only [List.map_cons, List.map_nil, List.flatten_cons, List.flatten_nil, List.append_nil, List.append_assoc, List.cons_append, List.nil_append]
  have t0 : takeS ⟨replyB r, 0⟩ 3 = (⟨(replyB r).drop 3, 0⟩, [114, 101, 49]) := by
    rw [e0]; exact takeS_inZ [114, 101, 49] _
  have d0 := congrArg (List.drop 3) e0
  simp only [List.cons_append, List.nil_append, List.drop_succ_cons, List.drop_zero] at d0
  have hrep : replyS ⟨(replyB r).drop 3, 0⟩ = (⟨[], 0⟩, r) := by
    rw [d0]
    have g1 := fun R => flagsS_in (flagF [r.marker, r.done, r.more] 3) 8 f1 R
    have x0 := fun R => numS_in6 r.code n0.1 n0.2 R
    have x1 := fun R => numS_in6 r.id n1.1 n1.2 R
    have x2 := fun R => numS_in6 r.seq n2.1 n2.2 R
    have x3 := fun R => numS_in6 r.size n3.1 n3.2 R
    have x4 := fun R => numS_in6 r.until_ n4.1 n4.2 R
    have x5 := fun R => numS_in6 r.upload n5.1 n5.2 R
    have x6 := fun R => numS_in6 r.count n6.1 n6.2 R
    have y1 := fun R => textS_in r.meta_ R (by omega)
    have y2 := fun R => textS_in r.tags R (by omega)
    have y3 := fun R => textS_in (sB r.next) R (by rw [sB_length]; omega)
    have y4 := fun R => textS_in r.body R (by omega)
    have z1 := fun R => manyS_in textS longB (r.names.map sB) R (by rw [List.length_map]; omega) fun a ha R => by
      obtain ⟨s, hs, rfl⟩ := List.mem_map.1 ha
      exact textS_in _ R (by rw [sB_length]; have := hL.nameS s hs; omega)
    have z2 := fun R => manyS_in textS longB (r.prefixes.map sB) R (by rw [List.length_map]; omega) fun a ha R => by
      obtain ⟨s, hs, rfl⟩ := List.mem_map.1 ha
      exact textS_in _ R (by rw [sB_length]; have := hL.prefixS s hs; omega)
    have z3 := fun R => manyS_in shwS shwB r.shown R (by omega) fun a ha R => shwS_in a (by have := hL.shownS a ha; omega) (hs a ha) R
    have m1 : ∀ l : List ByteArray, (l.map sB).map strOf = l := fun l => by
      rw [List.map_map, show strOf ∘ sB = id from funext strOf_sB, List.map_id]
    simp only [replyS, sevN, sevS, g1, x0, x1, x2, x3, x4, x5, x6, y1, y2, y3, y4, z1, z2, z3, f2, f3, f4, m1, strOf_sB]
  rw [getR, t0, if_pos rfl]
  simp only [hrep]
  rw [show (endS ⟨[], 0⟩).code = 0 from rfl, if_neg (by simp), if_pos hc]
end Go.Proofs.Ythheaehpnleiaaa.AX

/- Answers back and there, in plain words: no program in sight. -/
namespace Go.Proofs.Ythheaehpnleiaaa.AX
open Go Go.Proofs
set_option maxRecDepth 4000
set_option linter.unusedVariables false
set_option linter.unusedSimpArgs false

theorem failS_code {s : Rs} {c : Int} (hc : c ≠ 0) : (failS s c).code ≠ 0 := by
  unfold failS
  split
  · exact hc
  · assumption
theorem endS_zero {s : Rs} (h : (endS s).code = 0) : s.code = 0 ∧ s.b = [] := by
  unfold endS at h
  split at h
  · exact absurd h (failS_code (by decide))
  · rename_i h2
    exact ⟨h, List.eq_nil_of_length_eq_zero (by omega)⟩
theorem flagsS_out {s : Rs} {t : Int} (hb : BytB s.b) (h : (flagsS s t).1.code = 0) : s.b = (flagsS s t).2 :: (flagsS s t).1.b ∧ 0 ≤ (flagsS s t).2 ∧ (flagsS s t).2 < t ∧ BytB (flagsS s t).1.b := by
  have hr := numS_b1 hb
  unfold flagsS at h ⊢
  split at h
  · exact absurd h (failS_code (by decide))
  · rename_i h2
    rw [if_neg h2]
    obtain ⟨_, e, h3⟩ := numS_out (k := 1) hb h
    have e : s.b = putB (numS s 1).2 1 ++ (numS s 1).1.b := e
    rw [putB_1 _ hr.1 hr.2] at e
    exact ⟨e, hr.1, by omega, h3⟩
theorem countS_out {s : Rs} (hb : BytB s.b) (h : (countS s).1.code = 0) : s.b = putB (countS s).2 4 ++ (countS s).1.b ∧ 0 ≤ (countS s).2 ∧ BytB (countS s).1.b := by
  have hr := numS_b4 hb
  unfold countS at h ⊢
  split at h
  · exact absurd h (failS_code (by decide))
  · rename_i h2
    rw [if_neg h2]
    obtain ⟨_, e, h3⟩ := numS_out (k := 4) hb h
    exact ⟨e, hr.1, h3⟩
theorem textS_out {s : Rs} (hb : BytB s.b) (h : (textS s).1.code = 0) : s.b = longB (textS s).2 ++ (textS s).1.b ∧ BytB (textS s).1.b ∧ BytB (textS s).2 := by
  have hby := textS_bytes hb
  refine ⟨?_, hby⟩
  have hz : (capS (numS s 4)).code = 0 := Classical.byContradiction fun hn => by rw [textS, if_pos hn] at h; exact hn h
  have e1 : capS (numS s 4) = (numS s 4).1 := by
    unfold capS at hz ⊢
    split
    · rename_i h2; rw [if_pos h2] at hz; exact absurd hz (failS_code (by decide))
    · rfl
  rw [textS, e1] at h
  rw [textS, e1]
  rw [e1] at hz
  rw [if_neg (by simpa using hz)] at h ⊢
  obtain ⟨_, e, _⟩ := numS_out (k := 4) hb hz
  have e : s.b = putB (numS s 4).2 4 ++ (numS s 4).1.b := e
  obtain ⟨_, e2, e3⟩ := takeS_out h
  rw [longB, e3, List.append_assoc, ← e2]
  exact e
theorem manyS_out {α : Type} (f : Rs → Rs × α) (B : α → List Int) (hf : ∀ s : Rs, BytB s.b → BytB (f s).1.b) (ho : ∀ s : Rs, BytB s.b → (f s).1.code = 0 → s.b = B (f s).2 ++ (f s).1.b) {s : Rs} (hb : BytB s.b) (h : (manyS f s).1.code = 0) :
    s.b = putB (manyS f s).2.length 4 ++ (((manyS f s).2.map B).flatten ++ (manyS f s).1.b) ∧ BytB (manyS f s).1.b := by
  have h1 : (countS s).1.code = 0 := loopP_code f h
  obtain ⟨e1, e2, e3⟩ := countS_out hb h1
  obtain ⟨g1, g2⟩ := loopP_out f B (fun _ => True) hf (fun s hb hc _ => ho s hb hc) _ _ e3 h fun _ _ => trivial
  refine ⟨?_, loopP_keep f (fun s => BytB s.b) hf _ _ e3⟩
  rw [manyS, g2, ← g1, Int.toNat_of_nonneg e2]
  exact e1
theorem shwS_out {s : Rs} (hb : BytB s.b) (h : (shwS s).1.code = 0) : s.b = shwB (shwS s).2 ++ (shwS s).1.b := by
  have c3 : (numS (numS (textS s).1 6).1 6).1.code = 0 := Classical.byContradiction fun hn => flagsS_bad hn 4 h
  have c2 : (numS (textS s).1 6).1.code = 0 := Classical.byContradiction fun hn => numS_bad hn 6 c3
  have c1 : (textS s).1.code = 0 := Classical.byContradiction fun hn => numS_bad hn 6 c2
  obtain ⟨e1, b1, b1'⟩ := textS_out hb c1
  obtain ⟨_, e2, b2⟩ := numS_out (k := 6) b1 c2
  have e2 : (textS s).1.b = putB (numS (textS s).1 6).2 6 ++ (numS (textS s).1 6).1.b := e2
  have b2 : BytB (numS (textS s).1 6).1.b := b2
  obtain ⟨_, e3, b3⟩ := numS_out (k := 6) b2 c3
  have e3 : (numS (textS s).1 6).1.b = putB (numS (numS (textS s).1 6).1 6).2 6 ++ (numS (numS (textS s).1 6).1 6).1.b := e3
  have b3 : BytB (numS (numS (textS s).1 6).1 6).1.b := b3
  obtain ⟨e4, r1, r2, b4⟩ := flagsS_out b3 h
  simp only [shwB, shwS, sB_strOf b1', flag2_bits _ r1 r2, List.append_assoc, List.cons_append, List.nil_append]
  rw [← e4, ← e3, ← e2, ← e1]
theorem loopP_small {α : Type} (f : Rs → Rs × α) (sz : α → Nat) (hf : ∀ s : Rs, sz (f s).2 ≤ s.b.length ∧ (f s).1.b.length ≤ s.b.length) : ∀ (c : Nat) (s : Rs) (a : α), a ∈ (loopP f c s).2 → sz a ≤ s.b.length := by
  intro c
  induction c with
  | zero => intro s a h; cases h
  | succ c ih =>
    intro s a h
    rw [loopP] at h
    split at h
    · rcases List.mem_cons.1 h with rfl | h
      · exact (hf s).1
      · exact Nat.le_trans (ih _ a h) (hf s).2
    · cases h
theorem manyS_small {α : Type} (f : Rs → Rs × α) (sz : α → Nat) (hf : ∀ s : Rs, sz (f s).2 ≤ s.b.length ∧ (f s).1.b.length ≤ s.b.length) {s : Rs} {a : α} (h : a ∈ (manyS f s).2) : sz a ≤ s.b.length :=
  Nat.le_trans (loopP_small f sz hf _ _ a h) (countS_len s)
theorem manyS_len {α : Type} (f : Rs → Rs × α) {L : Nat} (hf : ∀ s : Rs, (f s).1.b.length ≤ s.b.length) {s : Rs} (h : s.b.length ≤ L) : (manyS f s).1.b.length ≤ L :=
  loopP_keep f (fun s => s.b.length ≤ L) (fun s hs => Nat.le_trans (hf s) hs) _ _ (Nat.le_trans (countS_len s) h)
theorem strOf_size (l : List Int) : (strOf l).size = l.length := by
  show ((l.map fun n => UInt8.ofNat n.toNat).toArray).size = _
  simp

/-- an answer's bytes, once more from what was read -/
theorem replyS_out {s : Rs} (hb : BytB s.b) (h : (replyS s).1.code = 0) (r : List Int) (hr : (replyS s).1.b = r) : [114, 101, 49] ++ s.b = replyB (replyS s).2 ++ r := by
  simp only [replyS] at h hr ⊢
  generalize hs0 : sevS (flagsS s 8).1 7 = s0 at h hr ⊢
  have z1 := h
  have z2 := Classical.byContradiction fun hn => textS_bad hn z1
  have z3 := Classical.byContradiction fun hn => manyS_bad shwS hn z2
  have z4 := Classical.byContradiction fun hn => textS_bad hn z3
  have z5 := Classical.byContradiction fun hn => manyS_bad textS hn z4
  have z6 := Classical.byContradiction fun hn => manyS_bad textS hn z5
  have z7 := Classical.byContradiction fun hn => textS_bad hn z6
  have z8 := Classical.byContradiction fun hn => textS_bad hn z7
  have zs : ∀ k, k ≤ 7 → (sevS (flagsS s 8).1 (7 - k)).code = 0 := fun k => by
    induction k with
    | zero => intro _; rw [Nat.sub_zero, hs0]; exact z8
    | succ k ih =>
      intro hk
      have := ih (by omega)
      rw [show 7 - k = (7 - (k + 1)) + 1 by omega] at this
      exact Classical.byContradiction fun hn => numS_bad hn 6 this
  obtain ⟨e0, r1, r2, b0⟩ := flagsS_out hb (zs 7 (Nat.le_refl _))
  have hs : ∀ k, k < 7 → BytB (sevS (flagsS s 8).1 k).b → (sevS (flagsS s 8).1 k).b = putB (sevN (flagsS s 8).1 k) 6 ++ (sevS (flagsS s 8).1 (k + 1)).b ∧ BytB (sevS (flagsS s 8).1 (k + 1)).b := fun k hk hbk => by
    have hz := zs (7 - (k + 1)) (by omega)
    rw [show 7 - (7 - (k + 1)) = k + 1 by omega] at hz
    obtain ⟨_, e, b'⟩ := numS_out (k := 6) hbk hz
    exact ⟨e, b'⟩
  obtain ⟨i0, j0⟩ := hs 0 (by omega) b0
  obtain ⟨i1, j1⟩ := hs 1 (by omega) j0
  obtain ⟨i2, j2⟩ := hs 2 (by omega) j1
  obtain ⟨i3, j3⟩ := hs 3 (by omega) j2
  obtain ⟨i4, j4⟩ := hs 4 (by omega) j3
  obtain ⟨i5, j5⟩ := hs 5 (by omega) j4
  obtain ⟨i6, j6⟩ := hs 6 (by omega) j5
  rw [hs0] at i6 j6
  have i0 : (flagsS s 8).1.b = _ := i0
  obtain ⟨a1, c1, d1⟩ := textS_out j6 z7
  obtain ⟨a2, c2, d2⟩ := textS_out c1 z6
  obtain ⟨a3, c3⟩ := manyS_out textS longB (fun s h => (textS_bytes h).1) (fun s hb hc => (textS_out hb hc).1) c2 z5
  obtain ⟨a4, c4⟩ := manyS_out textS longB (fun s h => (textS_bytes h).1) (fun s hb hc => (textS_out hb hc).1) c3 z4
  obtain ⟨a5, c5, d5⟩ := textS_out c4 z3
  obtain ⟨a6, c6⟩ := manyS_out shwS shwB (fun s h => shwS_bytes h) (fun s hb hc => shwS_out hb hc) c5 z2
  obtain ⟨a7, c7, d7⟩ := textS_out c6 z1
  rw [hr] at a7
  have hm : ∀ (s : Rs), BytB s.b → ((manyS textS s).2.map strOf).map sB = (manyS textS s).2 := fun s hs => by
    rw [List.map_map]
    have : ∀ x ∈ (manyS textS s).2, (sB ∘ strOf) x = x := fun x hx => sB_strOf (by
      have key : ∀ (c : Nat) (s : Rs), BytB s.b → ∀ x ∈ (loopP textS c s).2, BytB x := fun c => by
        induction c with
        | zero => intro s _ x hx; cases hx
        | succ c ih =>
          intro s hs x hx
          rw [loopP] at hx
          split at hx
          · rcases List.mem_cons.1 hx with rfl | hx
            · exact (textS_bytes hs).2
            · exact ih _ (textS_bytes hs).1 x hx
          · cases hx
      exact key _ _ (countS_bytes hs) x hx)
    rw [List.map_congr_left this, List.map_id']
  rw [replyB, shownF, midB, numsF, headB]
  simp only [texts_form, hm _ c2, hm _ c3, sB_strOf d5, flag3_bits _ r1 r2]
  rw [List.take_length, show ∀ x : Rep, (repN x).take 7 = repN x from fun _ => rfl]
  simp only [repN, List.map_cons, List.map_nil, List.flatten_cons, List.flatten_nil, List.append_nil, List.append_assoc, List.cons_append, List.nil_append]
  rw [← a7, ← a6, ← a5, ← a4, ← a3, ← a2, ← a1, ← i6, ← i5, ← i4, ← i3, ← i2, ← i1, ← i0, ← e0]

theorem lt_of_reply {s : Rs} (hl : s.b.length ≤ 4000) (h2 : (endS (replyS s).1).code = 0) : Lt (replyS s).2 := by
  obtain ⟨w1, w2, w3⟩ := replyS_few hl h2
  simp only [replyS] at w1 w2 w3 ⊢
  have k0 : (flagsS s 8).1.b.length ≤ 4000 := Nat.le_trans (flagsS_len s 8) hl
  have k1 : ∀ k, (sevS (flagsS s 8).1 k).b.length ≤ 4000 := fun k => by
    induction k with
    | zero => exact k0
    | succ k ih => exact Nat.le_trans (numS_len _ 6) ih
  have k1 := k1 7
  generalize sevS (flagsS s 8).1 7 = s0 at k1 w1 w2 w3 ⊢
  have ht := fun s : Rs => textS_len s
  have q1 := ht s0
  have q2 := ht (textS s0).1
  have q3 : (manyS textS (textS (textS s0).1).1).1.b.length ≤ 4000 := manyS_len textS (fun s => (ht s).1) (by omega)
  have q4 : (manyS textS (manyS textS (textS (textS s0).1).1).1).1.b.length ≤ 4000 := manyS_len textS (fun s => (ht s).1) q3
  have q5 := ht (manyS textS (manyS textS (textS (textS s0).1).1).1).1
  have q6 : (manyS shwS (textS (manyS textS (manyS textS (textS (textS s0).1).1).1).1).1).1.b.length ≤ 4000 := manyS_len shwS shwS_len (by omega)
  have q7 := ht (manyS shwS (textS (manyS textS (manyS textS (textS (textS s0).1).1).1).1).1).1
  have p1 := q7.2; have p2 := q1.2; have p3 := q2.2; have p5 := q5.2
  have m1 : ∀ x, x ∈ (manyS textS (textS (textS s0).1).1).2 → x.length ≤ 4000 := fun x hx => by
    have := manyS_small textS List.length (fun s => ⟨(ht s).2, (ht s).1⟩) hx
    omega
  have m2 : ∀ x, x ∈ (manyS textS (manyS textS (textS (textS s0).1).1).1).2 → x.length ≤ 4000 := fun x hx => by
    have := manyS_small textS List.length (fun s => ⟨(ht s).2, (ht s).1⟩) hx
    omega
  have m3 : ∀ x : Shw, x ∈ (manyS shwS (textS (manyS textS (manyS textS (textS (textS s0).1).1).1).1).1).2 → x.name.size ≤ 4000 := fun x hx => by
    have := manyS_small shwS (fun x => x.name.size) (fun s => ⟨by simp only [shwS, strOf_size]; exact (ht s).2, shwS_len s⟩) hx
    omega
  have g1 : (textS (manyS shwS (textS (manyS textS (manyS textS (textS (textS s0).1).1).1).1).1).1).2.length ≤ 10000 := by omega
  have g2 : (textS s0).2.length ≤ 10000 := by omega
  have g3 : (textS (textS s0).1).2.length ≤ 10000 := by omega
  have g5 : (textS (manyS textS (manyS textS (textS (textS s0).1).1).1).1).2.length ≤ 10000 := by omega
  clear q1 q2 q3 q4 q5 q6 q7 p1 p2 p3 p5 k0
  generalize (textS (manyS shwS (textS (manyS textS (manyS textS (textS (textS s0).1).1).1).1).1).1).2 = xb at g1 ⊢
  generalize (manyS shwS (textS (manyS textS (manyS textS (textS (textS s0).1).1).1).1).1).2 = xs at m3 w3 ⊢
  generalize (textS (manyS textS (manyS textS (textS (textS s0).1).1).1).1).2 = xn at g5 ⊢
  generalize (manyS textS (manyS textS (textS (textS s0).1).1).1).2 = xp at m2 w2 ⊢
  generalize (manyS textS (textS (textS s0).1).1).2 = xm at m1 w1 ⊢
  generalize (textS (textS s0).1).2 = xt at g3 ⊢
  generalize (textS s0).2 = xx at g2 ⊢
  refine ⟨g1, g2, g3, w1, w2, by rw [strOf_size]; exact g5, w3, fun x hx => ?_, fun x hx => ?_, fun x hx => Nat.le_trans (m3 x hx) (by decide)⟩
  · obtain ⟨y, hy, rfl⟩ := List.mem_map.1 hx
    rw [strOf_size]; exact Nat.le_trans (m1 y hy) (by decide)
  · obtain ⟨y, hy, rfl⟩ := List.mem_map.1 hx
    rw [strOf_size]; exact Nat.le_trans (m2 y hy) (by decide)

theorem put_getR {b : List Int} (hb : BytB b) (h : (getR b).2 = 0) : checkF (getR b).1 = 0 ∧ replyB (getR b).1 = b ∧ (b.length ≤ 4000 → Lt (getR b).1) := by
  by_cases h1 : (takeS ⟨b, 0⟩ 3).2 = [114, 101, 49]
  · have hg : getR b = if (endS (replyS (takeS ⟨b, 0⟩ 3).1).1).code ≠ 0 then (zR, (endS (replyS (takeS ⟨b, 0⟩ 3).1).1).code) else if checkF (replyS (takeS ⟨b, 0⟩ 3).1).2 = 0 then ((replyS (takeS ⟨b, 0⟩ 3).1).2, 0) else (zR, checkF (replyS (takeS ⟨b, 0⟩ 3).1).2) := by rw [getR, if_pos h1]
    by_cases h2 : (endS (replyS (takeS ⟨b, 0⟩ 3).1).1).code = 0
    · rw [if_neg (by simpa using h2)] at hg
      by_cases h3 : checkF (replyS (takeS ⟨b, 0⟩ 3).1).2 = 0
      · rw [if_pos h3] at hg
        rw [hg]
        obtain ⟨y1, y2⟩ := endS_zero h2
        have t3 : (takeS ⟨b, 0⟩ 3).1.code = 0 := Classical.byContradiction fun hn => by
          have : (replyS (takeS ⟨b, 0⟩ 3).1).1.code ≠ 0 := textS_bad (manyS_bad shwS (textS_bad (manyS_bad textS (manyS_bad textS (textS_bad (textS_bad (by
            have g := flagsS_bad hn 8
            have : ∀ k, (sevS (flagsS (takeS ⟨b, 0⟩ 3).1 8).1 k).code ≠ 0 := fun k => by
              induction k with
              | zero => exact g
              | succ k ih => exact numS_bad ih 6
            exact this 7)))))))
          exact this y1
        obtain ⟨_, e, _⟩ := takeS_out t3
        have hb5 := (takeS_bytes (s := ⟨b, 0⟩) hb 3).1
        have hl := (takeS_len ⟨b, 0⟩ 3).1
        rw [h1] at e
        have e : b = [114, 101, 49] ++ (takeS ⟨b, 0⟩ 3).1.b := e
        have ho := replyS_out hb5 y1 [] y2
        refine ⟨h3, by rw [← e, List.append_nil] at ho; exact ho.symm, fun hlb => ?_⟩
        have hl : (takeS ⟨b, 0⟩ 3).1.b.length ≤ 4000 := Nat.le_trans hl hlb
        exact lt_of_reply hl h2
      · rw [hg, if_neg h3] at h
        dsimp only at h
        exact absurd h h3
    · rw [hg, if_pos h2] at h
      dsimp only at h
      exact absurd h h2
  · rw [getR, if_neg h1] at h
    cases h
end Go.Proofs.Ythheaehpnleiaaa.AX

/- The law's function 'ReplyReads': it answers 'true'. -/
namespace Go.Proofs.Ythheaehpnleiaaa.AX
open Go Go.Proofs
set_option maxRecDepth 100000
set_option linter.unusedVariables false
set_option linter.unusedSimpArgs false

theorem few_of_len {b : List Int} (hl : b.length ≤ 4000) : (endS (replyS (takeS ⟨b, 0⟩ 3).1).1).code = 0 → (replyS (takeS ⟨b, 0⟩ 3).1).2.names.length ≤ 1000 ∧ (replyS (takeS ⟨b, 0⟩ 3).1).2.prefixes.length ≤ 1000 ∧ (replyS (takeS ⟨b, 0⟩ 3).1).2.shown.length ≤ 1000 :=
  replyS_few (Nat.le_trans (takeS_len ⟨b, 0⟩ 3).1 hl)
theorem RepR.ones {M : Mem} {q : Rep} {vb vm vt vn vp vs : Value} (h : RepR M q vb vm vt vn vp vs) : oneCells (repC q vb vm vt vn vp vs) = true := by
  simp only [oneCells, repC, List.all_cons, List.all_nil, h.body.one, h.meta_.one, h.tags.one, h.names.one, h.prefixes.one, h.shown.one]; rfl

theorem RepR.within {M M1 : Mem} {q : Rep} {vb vm vt vn vp vs : Value} (h : RepR M q vb vm vt vn vp vs) (hw : Within M.get M1.get) (hn : M.next ≤ M1.next) : RepR M1 q vb vm vt vn vp vs :=
  ⟨h.body.within hw hn, h.meta_.within hw hn, h.tags.within hw hn, h.names.within hw hn, h.prefixes.within hw hn, h.shown.within hw hn⟩

end Go.Proofs.Ythheaehpnleiaaa.AX

/- The law's function 'ReplyBack': it answers 'true'. -/

namespace Go.Proofs.Ythheaehpnleiaaa.AX
open Go Go.Proofs
set_option maxRecDepth 100000
set_option linter.unusedVariables false
set_option linter.unusedSimpArgs false

theorem BytB.app {a b : List Int} (ha : BytB a) (hb : BytB b) : BytB (a ++ b) := fun x hx => (List.mem_append.1 hx).elim (ha x) (hb x)
theorem BytB.nil : BytB [] := fun x hx => by cases hx
theorem BytB.flat {α : Type} {B : α → List Int} {l : List α} (h : ∀ a, a ∈ l → BytB (B a)) : BytB (l.map B).flatten := fun x hx => by
  obtain ⟨y, hy, hx⟩ := List.mem_flatten.1 hx
  obtain ⟨a, ha, rfl⟩ := List.mem_map.1 hy
  exact h a ha x hx
theorem sB_byt (s : ByteArray) : BytB (sB s) := fun x hx => by
  obtain ⟨b, _, rfl⟩ := List.mem_map.1 hx
  have := b.toNat_lt; omega
theorem longB_byt {l : List Int} (h : BytB l) : BytB (longB l) := (putB_byt 4 _).app h
theorem flag_byt2 (a b : Bool) : BytB [flagF [a, b] 2] := fun x hx => by
  obtain rfl := List.mem_singleton.1 hx
  cases a <;> cases b <;> decide
theorem flag_byt3 (a b c : Bool) : BytB [114, 101, 49, flagF [a, b, c] 3] := fun x hx => by
  simp only [List.mem_cons, List.not_mem_nil, or_false] at hx
  rcases hx with rfl | rfl | rfl | rfl
  · decide
  · decide
  · decide
  · cases a <;> cases b <;> cases c <;> decide
theorem shwB_byt (s : Shw) : BytB (shwB s) := (((longB_byt (sB_byt _)).app (putB_byt 6 _)).app (putB_byt 6 _)).app (flag_byt2 _ _)
theorem textsF_byt (l : List ByteArray) : BytB (textsF l l.length) := by
  rw [texts_form]
  exact (putB_byt 4 _).app (BytB.flat fun a ha => longB_byt (by obtain ⟨s, _, rfl⟩ := List.mem_map.1 ha; exact sB_byt s))
theorem replyB_byt {r : Rep} (h1 : BytB r.body) (h2 : BytB r.meta_) (h3 : BytB r.tags) : BytB (replyB r) := by
  refine ((BytB.app ?_ (BytB.flat fun a _ => shwB_byt a)) : BytB (shownF r r.shown.length)).app (longB_byt h1)
  rw [midB]
  simp only [List.flatten_cons, List.flatten_nil, List.append_nil]
  exact ((flag_byt3 _ _ _).app (BytB.flat fun a _ => putB_byt 6 a)).app ((longB_byt h2).app ((longB_byt h3).app ((textsF_byt _).app ((textsF_byt _).app ((longB_byt (sB_byt _)).app (putB_byt 4 _))))))
theorem flatB_le {α : Type} {B : α → List Int} {K : Nat} : ∀ {l : List α}, (∀ a, a ∈ l → (B a).length ≤ K) → (l.map B).flatten.length ≤ l.length * K := by
  intro l
  induction l with
  | nil => intro _; simp
  | cons a l ih =>
    intro h
    have h1 := h a List.mem_cons_self
    have h2 := ih fun b hb => h b (List.mem_cons_of_mem _ hb)
    rw [List.map_cons, List.flatten_cons, List.length_append, List.length_cons, Nat.succ_mul]
    omega
theorem texts_le {l : List ByteArray} (h : ∀ s, s ∈ l → s.size ≤ 300) (hl : l.length ≤ 40) : (textsF l l.length).length ≤ 20000 := by
  rw [texts_form, List.length_append, putB_length]
  have := flatB_le (B := longB) (K := 304) (l := l.map sB) fun a ha => by
    obtain ⟨s, hs, rfl⟩ := List.mem_map.1 ha
    rw [longB_length, sB_length]; have := h s hs; omega
  rw [List.length_map] at this
  omega
theorem replyB_small {r : Rep} (h : lightF r = true) : (replyB r).length ≤ 1000000 := by
  simp only [lightF, Bool.and_eq_true] at h
  obtain ⟨⟨⟨h1, h2⟩, h3⟩, h4⟩ := h
  have h1 := of_decide_eq_true h1
  obtain ⟨a1, a2, a3, a4, a5, a6, a7⟩ := h1
  have t1 := texts_le (fun s hs => of_decide_eq_true (List.all_eq_true.1 h2 s hs)) a4
  have t2 := texts_le (fun s hs => of_decide_eq_true (List.all_eq_true.1 h3 s hs)) a5
  have t3 := flatB_le (B := shwB) (K := 317) (l := r.shown) fun a ha => by
    have := of_decide_eq_true (List.all_eq_true.1 h4 a ha)
    rw [shwB_length]; omega
  rw [replyB, shownF, midB, List.take_length]
  simp only [List.flatten_cons, List.flatten_nil, List.append_nil, List.length_append, longB_length, sB_length, putB_length, numsF_length r 7 (Nat.le_refl _)]
  omega
theorem few_of_put {r : Rep} (hL : Lt r) (hc : checkF r = 0) : (endS (replyS (takeS ⟨replyB r, 0⟩ 3).1).1).code = 0 → (replyS (takeS ⟨replyB r, 0⟩ 3).1).2.names.length ≤ 1000 ∧ (replyS (takeS ⟨replyB r, 0⟩ 3).1).2.prefixes.length ≤ 1000 ∧ (replyS (takeS ⟨replyB r, 0⟩ 3).1).2.shown.length ≤ 1000 := by
  intro h2
  have hp := getR_put hL hc
  generalize replyB r = b at hp h2
  have hr : (replyS (takeS ⟨b, 0⟩ 3).1).2 = r := by
    by_cases h1 : (takeS ⟨b, 0⟩ 3).2 = [114, 101, 49]
    · have hg : getR b = if (endS (replyS (takeS ⟨b, 0⟩ 3).1).1).code ≠ 0 then (zR, (endS (replyS (takeS ⟨b, 0⟩ 3).1).1).code) else if checkF (replyS (takeS ⟨b, 0⟩ 3).1).2 = 0 then ((replyS (takeS ⟨b, 0⟩ 3).1).2, 0) else (zR, checkF (replyS (takeS ⟨b, 0⟩ 3).1).2) := by rw [getR, if_pos h1]
      rw [if_neg (by simpa using h2)] at hg
      by_cases h3 : checkF (replyS (takeS ⟨b, 0⟩ 3).1).2 = 0
      · rw [if_pos h3] at hg
        rw [hg] at hp
        exact congrArg Prod.fst hp
      · rw [if_neg h3] at hg
        rw [hg] at hp
        exact absurd (congrArg Prod.snd hp) h3
    · rw [getR, if_neg h1] at hp
      exact absurd (congrArg Prod.snd hp) (by show ¬ ((4 : Int) = 0); decide)
  rw [hr]
  exact ⟨hL.names, hL.prefixes, hL.shown⟩
theorem law5_spec (r : Rep) (vb vm vt vn vp vs : Value) (v : Value) (b : List Int) (M : Mem) (hok : Ok M) (hr : RepR M r vb vm vt vn vp vs) (hB : Byt r.body ∧ Byt r.meta_ ∧ Byt r.tags) (hv : RowB M v b) (hbk : Byt b) :
    ∃ r_ M', ACall Try.prog 5 #[.agg (repC r vb vm vt vn vp vs).toArray, v] M r_ M' ∧ r_ = .bool true ∧ M' = M := by
  have hb : BytB b := hbk
  refine ACall.fin (args := [.agg (repC r vb vm vt vn vp vs).toArray, v]) (k := 65) (rs := [.tmp 4]) Try.func5 rfl rfl rfl (Nat.le_of_ble_eq_true rfl) ?_
  refine AWP.stepR [1, 2] fun K hK => ?_
  simp only [go_sem, Nat.reduceEqDiff, Nat.reduceLT, Nat.reduceAdd, Nat.reduceMul, Nat.reduceSub, Nat.add_zero, Nat.zero_add, Int.reduceEq, Int.reduceLT]
  refine hK _ _ _ (by simp only [go_sem, Nat.reduceEqDiff, Nat.reduceLT, Nat.reduceAdd, Nat.reduceMul, Nat.reduceSub, Nat.add_zero, Nat.zero_add, Int.reduceEq, Int.reduceLT]; rfl) ?_; clear hK
  have hlt1 : M.next < (M.bump 1).next := Nat.lt_succ_self _
  obtain ⟨hg1, hh1⟩ := mk_put ((Grew.refl M).bump 1) (Nat.le_refl _) hlt1 ⟨repC r vb vm vt vn vp vs, 29, true⟩
  change AWP _ _ _ ⟨_, (M.bump 1).put M.next ⟨repC r vb vm vt vn vp vs, 29, true⟩⟩ _
  generalize hM1 : (M.bump 1).put M.next ⟨repC r vb vm vt vn vp vs, 29, true⟩ = M1 at hg1 hh1
  have hr1 := hr.grew hg1
  obtain ⟨rl, Ml, hcl, hrl, hMl⟩ := light10_spec r vb vm vt vn vp vs M1 (hg1.ok hok) hr1
  rw [hrl, hMl] at hcl
  refine AWP.seq ?_
  refine AWP.stepX [1, 2, 20] [(1, v), (2, .pointer (some ⟨M.next, 0, none⟩)), (20, .bool (!(lightF r && !decide ((b.length : Int) > 4000))))] M1 (fun K hK => ?_) ?_
  · cases hl : lightF r
    · rw [hl] at hcl
      simp only [go_sem, Nat.reduceEqDiff, Nat.reduceLT, Nat.reduceAdd, Nat.reduceMul, Nat.reduceSub, Nat.add_zero, Nat.zero_add, Int.reduceEq, Int.reduceLT, ld_29, hh1.lda (repC_len ..)]
      refine ⟨_, _, hcl, ?_⟩
      refine hK _ ?_
      simp only [go_sem, Nat.reduceEqDiff, Nat.reduceLT, Nat.reduceAdd, Nat.reduceMul, Nat.reduceSub, Nat.add_zero, Nat.zero_add, Int.reduceEq, Int.reduceLT, hl, Bool.false_and, Bool.not_false]
    · rw [hl] at hcl
      simp only [go_sem, Nat.reduceEqDiff, Nat.reduceLT, Nat.reduceAdd, Nat.reduceMul, Nat.reduceSub, Nat.add_zero, Nat.zero_add, Int.reduceEq, Int.reduceLT, ld_29, hh1.lda (repC_len ..)]
      refine ⟨_, _, hcl, ?_⟩
      try simp only [go_sem, Nat.reduceEqDiff, Nat.reduceLT, Nat.reduceAdd, Nat.reduceMul, Nat.reduceSub, Nat.add_zero, Nat.zero_add, Int.reduceEq, Int.reduceLT, hv.len es_23]
      refine hK _ ?_
      simp only [go_sem, Nat.reduceEqDiff, Nat.reduceLT, Nat.reduceAdd, Nat.reduceMul, Nat.reduceSub, Nat.add_zero, Nat.zero_add, Int.reduceEq, Int.reduceLT, hl, Bool.true_and, Bool.not_not]
  refine AWP.cond_split rfl (fun h20 => ?_) fun h20 => ?_
  · refine AWP.stepR [4] fun K hK => ?_
    simp only [go_sem, Nat.reduceEqDiff, Nat.reduceLT, Nat.reduceAdd, Nat.reduceMul, Nat.reduceSub, Nat.add_zero, Nat.zero_add, Int.reduceEq, Int.reduceLT]
    refine ⟨_, _, works11_spec _, ?_⟩
    refine hK _ _ _ (by simp only [go_sem, Nat.reduceEqDiff, Nat.reduceLT, Nat.reduceAdd, Nat.reduceMul, Nat.reduceSub, Nat.add_zero, Nat.zero_add, Int.reduceEq, Int.reduceLT]; rfl) ?_; clear hK
    refine AWP.ret (Then.ret (?_))
    exact Fin.plain (.inr rfl) rfl rfl hok hg1 ⟨rfl, rfl⟩
  · have h20 : lightF r = true ∧ b.length ≤ 4000 := by
      simp only [Bool.not_eq_false', Bool.and_eq_true, Bool.not_eq_true', decide_eq_false_iff_not] at h20
      exact ⟨h20.1, by omega⟩
    obtain ⟨hlf, hl⟩ := h20
    have hL := Lt.of hlf
    refine AWP.skip ?_
    obtain ⟨ra, Ma, hca, hga, wa, rfl, hwa⟩ := put12_spec r vb vm vt vn vp vs M1 (hg1.ok hok) hr1 hL
    refine AWP.stepR [1, 2, 5, 6] fun K hK => ?_
    simp only [go_sem, Nat.reduceEqDiff, Nat.reduceLT, Nat.reduceAdd, Nat.reduceMul, Nat.reduceSub, Nat.add_zero, Nat.zero_add, Int.reduceEq, Int.reduceLT, ld_29, hh1.lda (repC_len ..)]
    refine ⟨_, _, hca, ?_⟩
    refine hK _ _ _ (by simp only [go_sem, Nat.reduceEqDiff, Nat.reduceLT, Nat.reduceAdd, Nat.reduceMul, Nat.reduceSub, Nat.add_zero, Nat.zero_add, Int.reduceEq, Int.reduceLT]; rfl) ?_; clear hK
    have hgA := hg1.trans hga
    have hrA := hr.grew hgA
    have hhA := hh1.grew hga
    refine AWP.seq ?_
    refine AWP.stepR [1, 2, 5, 28] fun K hK => ?_
    simp only [go_sem, Nat.reduceEqDiff, Nat.reduceLT, Nat.reduceAdd, Nat.reduceMul, Nat.reduceSub, Nat.add_zero, Nat.zero_add, Int.reduceEq, Int.reduceLT]
    refine hK _ _ _ (by simp only [go_sem, Nat.reduceEqDiff, Nat.reduceLT, Nat.reduceAdd, Nat.reduceMul, Nat.reduceSub, Nat.add_zero, Nat.zero_add, Int.reduceEq, Int.reduceLT]; rfl) ?_; clear hK
    refine AWP.cond_split rfl (fun h28 => ?_) fun h28 => ?_
    · have hck : checkF r = 0 := by simpa using h28
      rw [if_pos hck] at hwa
      have hgp := getR_put hL hck
      have hbp : BytB (replyB r) := replyB_byt hB.1 hB.2.1 hB.2.2
      obtain ⟨r1, X1, hc1, hx1, q, ub, um, ut, un, up, us, rfl, hQ, hq⟩ := get17_spec wa (replyB r) (Ma.bump 1) ((hgA.bump 1).ok hok) (hwa.grew ((Grew.refl _).bump 1)) hbp (replyB_small hlf) (few_of_put hL hck)
      rw [hgp] at hq
      rw [hgp] at hc1
      refine AWP.stepR [1, 2, 7, 8] fun K hK => ?_
      simp only [go_sem, Nat.reduceEqDiff, Nat.reduceLT, Nat.reduceAdd, Nat.reduceMul, Nat.reduceSub, Nat.add_zero, Nat.zero_add, Int.reduceEq, Int.reduceLT]
      refine ⟨_, _, hc1, ?_⟩
      try simp only [go_sem, Nat.reduceEqDiff, Nat.reduceLT, Nat.reduceAdd, Nat.reduceMul, Nat.reduceSub, Nat.add_zero, Nat.zero_add, Int.reduceEq, Int.reduceLT, extractV, st_29, st_fresh (M := X1) (i := Ma.next) (n := 17) (old := [.int .i64 0, .int .i64 0, .int .i64 0, .int .i64 0, .slice none 0 0, .slice none 0 0, .slice none 0 0, .int .i64 0, .bool false, .slice none 0 0, .slice none 0 0, .string ⟨#[]⟩, .bool false, .slice none 0 0, .int .i64 0, .int .i64 0, .bool false]) (vs := repC q ub um ut un up us) (e := 29) rfl rfl hQ.ones]
      refine hK _ _ _ (by simp only [go_sem, Nat.reduceEqDiff, Nat.reduceLT, Nat.reduceAdd, Nat.reduceMul, Nat.reduceSub, Nat.add_zero, Nat.zero_add, Int.reduceEq, Int.reduceLT]; rfl) ?_; clear hK
      obtain ⟨MX, hMX, hgX, hkX⟩ := kept Ma X1 hx1 [.int .i64 0, .int .i64 0, .int .i64 0, .int .i64 0, .slice none 0 0, .slice none 0 0, .slice none 0 0, .int .i64 0, .bool false, .slice none 0 0, .slice none 0 0, .string ⟨#[]⟩, .bool false, .slice none 0 0, .int .i64 0, .int .i64 0, .bool false] (repC q ub um ut un up us) 29
      have hnone : X1.get Ma.next = none := none_keep (p := Ma.next + 1) (hgA.ok hok) (hx1.x _) (by omega)
      have hQ := hQ.within (Within.put2 hnone ⟨[.int .i64 0, .int .i64 0, .int .i64 0, .int .i64 0, .slice none 0 0, .slice none 0 0, .slice none 0 0, .int .i64 0, .bool false, .slice none 0 0, .slice none 0 0, .string ⟨#[]⟩, .bool false, .slice none 0 0, .int .i64 0, .int .i64 0, .bool false], 29, true⟩ ⟨repC q ub um ut un up us, 29, true⟩) (Nat.le_refl _)
      rw [hMX] at hQ ⊢
      have hgx := hgA.trans hgX
      have hrX := hr.grew hgx
      have hhX := hhA.grew hgX
      obtain rfl : q = r := hq
      have b1 := hL.body; have b2 := hL.meta_; have b3 := hL.tags; have b4 := hL.names; have b5 := hL.prefixes; have b7 := hL.shown
      obtain ⟨r5, M5, hc5, hr5, hM5⟩ := same19_spec q vb vm vt vn vp vs ub um ut un up us MX (hgx.ok hok) hrX hQ (by omega) (by omega) (by omega) (by omega) (by omega) (by omega)
      rw [hr5, hM5] at hc5
      refine AWP.stepR [1, 41] fun K hK => ?_
      simp only [go_sem, Nat.reduceEqDiff, Nat.reduceLT, Nat.reduceAdd, Nat.reduceMul, Nat.reduceSub, Nat.add_zero, Nat.zero_add, Int.reduceEq, Int.reduceLT, show ((0 : Int) != 0) = false from rfl, ld_29, hhX.lda (repC_len ..), hkX.lda (repC_len ..)]
      refine ⟨_, _, hc5, ?_⟩
      refine hK _ _ _ (by simp only [go_sem, Nat.reduceEqDiff, Nat.reduceLT, Nat.reduceAdd, Nat.reduceMul, Nat.reduceSub, Nat.add_zero, Nat.zero_add, Int.reduceEq, Int.reduceLT]; rfl) ?_; clear hK
      refine AWP.cond_split rfl (fun h41 => ?_) fun h41 => ?_
      · cases h41
      · refine AWP.skip ?_
        clear hQ
        have hbx := hv.grew hgx
        obtain ⟨r2, X2, hc2, hx2, q, wb, wm, wt, wn, wp, ws, rfl, hQ, hq⟩ := get17_spec v b (MX.bump 1) ((hgx.bump 1).ok hok) (hv.grew (hgx.bump 1)) hb (by omega) (few_of_len hl)
        refine AWP.stepR [1, 9, 10] fun K hK => ?_
        simp only [go_sem, Nat.reduceEqDiff, Nat.reduceLT, Nat.reduceAdd, Nat.reduceMul, Nat.reduceSub, Nat.add_zero, Nat.zero_add, Int.reduceEq, Int.reduceLT]
        refine ⟨_, _, hc2, ?_⟩
        try simp only [go_sem, Nat.reduceEqDiff, Nat.reduceLT, Nat.reduceAdd, Nat.reduceMul, Nat.reduceSub, Nat.add_zero, Nat.zero_add, Int.reduceEq, Int.reduceLT, extractV, st_29, st_fresh (M := X2) (i := MX.next) (n := 17) (old := [.int .i64 0, .int .i64 0, .int .i64 0, .int .i64 0, .slice none 0 0, .slice none 0 0, .slice none 0 0, .int .i64 0, .bool false, .slice none 0 0, .slice none 0 0, .string ⟨#[]⟩, .bool false, .slice none 0 0, .int .i64 0, .int .i64 0, .bool false]) (vs := repC q wb wm wt wn wp ws) (e := 29) rfl rfl hQ.ones]
        refine hK _ _ _ (by simp only [go_sem, Nat.reduceEqDiff, Nat.reduceLT, Nat.reduceAdd, Nat.reduceMul, Nat.reduceSub, Nat.add_zero, Nat.zero_add, Int.reduceEq, Int.reduceLT]; rfl) ?_; clear hK
        obtain ⟨M2, hM2, hg2, hk2⟩ := kept MX X2 hx2 [.int .i64 0, .int .i64 0, .int .i64 0, .int .i64 0, .slice none 0 0, .slice none 0 0, .slice none 0 0, .int .i64 0, .bool false, .slice none 0 0, .slice none 0 0, .string ⟨#[]⟩, .bool false, .slice none 0 0, .int .i64 0, .int .i64 0, .bool false] (repC q wb wm wt wn wp ws) 29
        have hnone : X2.get MX.next = none := none_keep (p := MX.next + 1) (hgx.ok hok) (hx2.x _) (by omega)
        have hQ := hQ.within (Within.put2 hnone ⟨[.int .i64 0, .int .i64 0, .int .i64 0, .int .i64 0, .slice none 0 0, .slice none 0 0, .slice none 0 0, .int .i64 0, .bool false, .slice none 0 0, .slice none 0 0, .string ⟨#[]⟩, .bool false, .slice none 0 0, .int .i64 0, .int .i64 0, .bool false], 29, true⟩ ⟨repC q wb wm wt wn wp ws, 29, true⟩) (Nat.le_refl _)
        rw [hM2] at hQ ⊢
        have hgy := hgx.trans hg2
        refine AWP.seq ?_
        refine AWP.stepR [1, 9, 48] fun K hK => ?_
        simp only [go_sem, Nat.reduceEqDiff, Nat.reduceLT, Nat.reduceAdd, Nat.reduceMul, Nat.reduceSub, Nat.add_zero, Nat.zero_add, Int.reduceEq, Int.reduceLT]
        refine hK _ _ _ (by simp only [go_sem, Nat.reduceEqDiff, Nat.reduceLT, Nat.reduceAdd, Nat.reduceMul, Nat.reduceSub, Nat.add_zero, Nat.zero_add, Int.reduceEq, Int.reduceLT]; rfl) ?_; clear hK
        refine AWP.cond_split rfl (fun h48 => ?_) fun h48 => ?_
        · refine AWP.stepR [4] fun K hK => ?_
          simp only [go_sem, Nat.reduceEqDiff, Nat.reduceLT, Nat.reduceAdd, Nat.reduceMul, Nat.reduceSub, Nat.add_zero, Nat.zero_add, Int.reduceEq, Int.reduceLT]
          refine ⟨_, _, works11_spec _, ?_⟩
          refine hK _ _ _ (by simp only [go_sem, Nat.reduceEqDiff, Nat.reduceLT, Nat.reduceAdd, Nat.reduceMul, Nat.reduceSub, Nat.add_zero, Nat.zero_add, Int.reduceEq, Int.reduceLT]; rfl) ?_; clear hK
          refine AWP.ret (Then.ret (?_))
          exact Fin.plain (.inr rfl) rfl rfl hok hgy ⟨rfl, rfl⟩
        · have hz : (getR b).2 = 0 := by simpa using h48
          refine AWP.skip ?_
          subst hq
          obtain ⟨k1, k2, k3⟩ := put_getR hb hz
          obtain ⟨r3, X3, hc3, hx3, w, rfl, hw⟩ := put12_spec (getR b).1 wb wm wt wn wp ws M2 (hgy.ok hok) hQ (k3 hl)
          rw [if_pos k1, k2, k1] at *
          refine AWP.stepR [1, 11, 12] fun K hK => ?_
          simp only [go_sem, Nat.reduceEqDiff, Nat.reduceLT, Nat.reduceAdd, Nat.reduceMul, Nat.reduceSub, Nat.add_zero, Nat.zero_add, Int.reduceEq, Int.reduceLT, ld_29, hk2.lda (repC_len ..)]
          refine ⟨_, _, hc3, ?_⟩
          refine hK _ _ _ (by simp only [go_sem, Nat.reduceEqDiff, Nat.reduceLT, Nat.reduceAdd, Nat.reduceMul, Nat.reduceSub, Nat.add_zero, Nat.zero_add, Int.reduceEq, Int.reduceLT]; rfl) ?_; clear hK
          have hgz := hgy.trans hx3
          obtain ⟨r4, X4, hc4, hr4, hM4⟩ := same14_spec w v b b X3 (hgz.ok hok) hw (hv.grew hgz) (by omega)
          rw [hr4, hM4, beq_self_eq_true] at hc4
          refine AWP.stepR [4] fun K hK => ?_
          simp only [go_sem, Nat.reduceEqDiff, Nat.reduceLT, Nat.reduceAdd, Nat.reduceMul, Nat.reduceSub, Nat.add_zero, Nat.zero_add, Int.reduceEq, Int.reduceLT]
          refine ⟨_, _, hc4, ?_⟩
          refine ⟨_, _, works11_spec _, ?_⟩
          refine hK _ _ _ (by simp only [go_sem, Nat.reduceEqDiff, Nat.reduceLT, Nat.reduceAdd, Nat.reduceMul, Nat.reduceSub, Nat.add_zero, Nat.zero_add, Int.reduceEq, Int.reduceLT]; rfl) ?_; clear hK
          refine AWP.ret (?_)
          exact Fin.plain (.inr rfl) rfl rfl hok hgz ⟨rfl, rfl⟩
    · refine AWP.skip ?_
      have hgx := hgA
      generalize Ma = MX at hgx
      have hbx := hv.grew hgx
      obtain ⟨r2, X2, hc2, hx2, q, wb, wm, wt, wn, wp, ws, rfl, hQ, hq⟩ := get17_spec v b (MX.bump 1) ((hgx.bump 1).ok hok) (hv.grew (hgx.bump 1)) hb (by omega) (few_of_len hl)
      refine AWP.stepR [1, 9, 10] fun K hK => ?_
      simp only [go_sem, Nat.reduceEqDiff, Nat.reduceLT, Nat.reduceAdd, Nat.reduceMul, Nat.reduceSub, Nat.add_zero, Nat.zero_add, Int.reduceEq, Int.reduceLT]
      refine ⟨_, _, hc2, ?_⟩
      try simp only [go_sem, Nat.reduceEqDiff, Nat.reduceLT, Nat.reduceAdd, Nat.reduceMul, Nat.reduceSub, Nat.add_zero, Nat.zero_add, Int.reduceEq, Int.reduceLT, extractV, st_29, st_fresh (M := X2) (i := MX.next) (n := 17) (old := [.int .i64 0, .int .i64 0, .int .i64 0, .int .i64 0, .slice none 0 0, .slice none 0 0, .slice none 0 0, .int .i64 0, .bool false, .slice none 0 0, .slice none 0 0, .string ⟨#[]⟩, .bool false, .slice none 0 0, .int .i64 0, .int .i64 0, .bool false]) (vs := repC q wb wm wt wn wp ws) (e := 29) rfl rfl hQ.ones]
      refine hK _ _ _ (by simp only [go_sem, Nat.reduceEqDiff, Nat.reduceLT, Nat.reduceAdd, Nat.reduceMul, Nat.reduceSub, Nat.add_zero, Nat.zero_add, Int.reduceEq, Int.reduceLT]; rfl) ?_; clear hK
      obtain ⟨M2, hM2, hg2, hk2⟩ := kept MX X2 hx2 [.int .i64 0, .int .i64 0, .int .i64 0, .int .i64 0, .slice none 0 0, .slice none 0 0, .slice none 0 0, .int .i64 0, .bool false, .slice none 0 0, .slice none 0 0, .string ⟨#[]⟩, .bool false, .slice none 0 0, .int .i64 0, .int .i64 0, .bool false] (repC q wb wm wt wn wp ws) 29
      have hnone : X2.get MX.next = none := none_keep (p := MX.next + 1) (hgx.ok hok) (hx2.x _) (by omega)
      have hQ := hQ.within (Within.put2 hnone ⟨[.int .i64 0, .int .i64 0, .int .i64 0, .int .i64 0, .slice none 0 0, .slice none 0 0, .slice none 0 0, .int .i64 0, .bool false, .slice none 0 0, .slice none 0 0, .string ⟨#[]⟩, .bool false, .slice none 0 0, .int .i64 0, .int .i64 0, .bool false], 29, true⟩ ⟨repC q wb wm wt wn wp ws, 29, true⟩) (Nat.le_refl _)
      rw [hM2] at hQ ⊢
      have hgy := hgx.trans hg2
      refine AWP.seq ?_
      refine AWP.stepR [1, 9, 48] fun K hK => ?_
      simp only [go_sem, Nat.reduceEqDiff, Nat.reduceLT, Nat.reduceAdd, Nat.reduceMul, Nat.reduceSub, Nat.add_zero, Nat.zero_add, Int.reduceEq, Int.reduceLT]
      refine hK _ _ _ (by simp only [go_sem, Nat.reduceEqDiff, Nat.reduceLT, Nat.reduceAdd, Nat.reduceMul, Nat.reduceSub, Nat.add_zero, Nat.zero_add, Int.reduceEq, Int.reduceLT]; rfl) ?_; clear hK
      refine AWP.cond_split rfl (fun h48 => ?_) fun h48 => ?_
      · refine AWP.stepR [4] fun K hK => ?_
        simp only [go_sem, Nat.reduceEqDiff, Nat.reduceLT, Nat.reduceAdd, Nat.reduceMul, Nat.reduceSub, Nat.add_zero, Nat.zero_add, Int.reduceEq, Int.reduceLT]
        refine ⟨_, _, works11_spec _, ?_⟩
        refine hK _ _ _ (by simp only [go_sem, Nat.reduceEqDiff, Nat.reduceLT, Nat.reduceAdd, Nat.reduceMul, Nat.reduceSub, Nat.add_zero, Nat.zero_add, Int.reduceEq, Int.reduceLT]; rfl) ?_; clear hK
        refine AWP.ret (Then.ret (?_))
        exact Fin.plain (.inr rfl) rfl rfl hok hgy ⟨rfl, rfl⟩
      · have hz : (getR b).2 = 0 := by simpa using h48
        refine AWP.skip ?_
        subst hq
        obtain ⟨k1, k2, k3⟩ := put_getR hb hz
        obtain ⟨r3, X3, hc3, hx3, w, rfl, hw⟩ := put12_spec (getR b).1 wb wm wt wn wp ws M2 (hgy.ok hok) hQ (k3 hl)
        rw [if_pos k1, k2, k1] at *
        refine AWP.stepR [1, 11, 12] fun K hK => ?_
        simp only [go_sem, Nat.reduceEqDiff, Nat.reduceLT, Nat.reduceAdd, Nat.reduceMul, Nat.reduceSub, Nat.add_zero, Nat.zero_add, Int.reduceEq, Int.reduceLT, ld_29, hk2.lda (repC_len ..)]
        refine ⟨_, _, hc3, ?_⟩
        refine hK _ _ _ (by simp only [go_sem, Nat.reduceEqDiff, Nat.reduceLT, Nat.reduceAdd, Nat.reduceMul, Nat.reduceSub, Nat.add_zero, Nat.zero_add, Int.reduceEq, Int.reduceLT]; rfl) ?_; clear hK
        have hgz := hgy.trans hx3
        obtain ⟨r4, X4, hc4, hr4, hM4⟩ := same14_spec w v b b X3 (hgz.ok hok) hw (hv.grew hgz) (by omega)
        rw [hr4, hM4, beq_self_eq_true] at hc4
        refine AWP.stepR [4] fun K hK => ?_
        simp only [go_sem, Nat.reduceEqDiff, Nat.reduceLT, Nat.reduceAdd, Nat.reduceMul, Nat.reduceSub, Nat.add_zero, Nat.zero_add, Int.reduceEq, Int.reduceLT]
        refine ⟨_, _, hc4, ?_⟩
        refine ⟨_, _, works11_spec _, ?_⟩
        refine hK _ _ _ (by simp only [go_sem, Nat.reduceEqDiff, Nat.reduceLT, Nat.reduceAdd, Nat.reduceMul, Nat.reduceSub, Nat.add_zero, Nat.zero_add, Int.reduceEq, Int.reduceLT]; rfl) ?_; clear hK
        refine AWP.ret (?_)
        exact Fin.plain (.inr rfl) rfl rfl hok hgz ⟨rfl, rfl⟩
end Go.Proofs.Ythheaehpnleiaaa.AX
