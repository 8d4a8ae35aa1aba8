/- The other reader, by value: numbers and bytes, by the program. -/
import Derived.Test.YthheaehpnleiaaaNodePuts26
namespace Go.Proofs.Ythheaehpnleiaaa.AX
open Go Go.Proofs
set_option maxRecDepth 100000
set_option linter.unusedVariables false
set_option linter.unusedSimpArgs false

theorem slice_23h {M : Mem} {v : Value} {l : List Int} (h : RowE M v l.length (cB l) 5) {k : Nat} (hk : k ≤ l.length) :
    ∃ v', (∀ M1, Grew M M1 → sliceV Try.prog M1.get 23 v none (some (.int .i64 k)) none = some v') ∧ RowE M v' (l.take k).length (cB (l.take k)) 5 := by
  obtain ⟨i, hi, hs⟩ := Option.map_eq_some_iff.1 (show (Try.prog.info? 5).map (·.size) = some 1 by kernel_rfl)
  have ht : Try.prog.underlying 23 = some (.slice 5) := by kernel_rfl
  obtain ⟨b, o, c, blk, rfl, hcn, hb, he, h4, h5⟩ := h
  have hcs : Try.prog.cellsOf blk.elem = i.size := by rw [he]; exact cellsOf_eq hi
  rw [cB_length] at h4 h5
  have hbk2 : ∀ z y, k ≤ y → boundV (some (.int .i64 (k : Int))) z y = some k := fun z y hy => by
    simp only [boundV]; rw [if_pos ⟨by omega, by omega⟩]; simp
  refine ⟨.slice (some ⟨b, o, none⟩) k c, ?_, ⟨b, o, c, blk, by rw [List.length_take, Nat.min_eq_left hk], by rw [List.length_take]; omega, hb, he, ?_, ?_⟩⟩
  · intro M1 hg
    simp only [sliceV, ht, (hb.grew hg).1, hi, hcs, Option.isSome_some, Option.isNone_some, Option.isSome_none, Option.isNone_none, Bool.false_eq_true, and_false, not_false_eq_true, and_self, if_true, true_and, false_and, if_false]
    rw [show boundV none (if c = unk then l.length else c) (if c = unk then l.length else c) = some (if c = unk then l.length else c) from rfl]
    simp only
    rw [hbk2 _ (if c = unk then l.length else c) (by split <;> omega)]
    simp only [show boundV none 0 k = some 0 from rfl]
    congr 1
    split <;> simp_all
  · rw [cB_length, List.length_take]; omega
  · rw [cB_length, List.length_take, Nat.min_eq_left hk]
    have := congrArg (List.take k) h5
    rw [List.take_take, Nat.min_eq_left hk] at this
    rw [this, cB, cB, List.map_take]
theorem slice_23l {M : Mem} {v : Value} {l : List Int} (h : RowE M v l.length (cB l) 5) {k : Nat} (hk : k ≤ l.length) :
    ∃ v', (∀ M1, Grew M M1 → sliceV Try.prog M1.get 23 v (some (.int .i64 k)) none none = some v') ∧ RowE M v' (l.drop k).length (cB (l.drop k)) 5 := by
  obtain ⟨i, hi, hs⟩ := Option.map_eq_some_iff.1 (show (Try.prog.info? 5).map (·.size) = some 1 by kernel_rfl)
  have ht : Try.prog.underlying 23 = some (.slice 5) := by kernel_rfl
  obtain ⟨b, o, c, blk, rfl, hcn, hb, he, h4, h5⟩ := h
  have hcs : Try.prog.cellsOf blk.elem = i.size := by rw [he]; exact cellsOf_eq hi
  rw [cB_length] at h4 h5
  have hbk : ∀ y, k ≤ y → boundV (some (.int .i64 (k : Int))) 0 y = some k := fun y hy => by
    simp only [boundV]; rw [if_pos ⟨by omega, by omega⟩]; simp
  refine ⟨.slice (some ⟨b, o + k, none⟩) (l.length - k) (if c = unk then unk else c - k), ?_, ⟨b, o + k, _, blk, by rw [List.length_drop], by rw [List.length_drop]; split <;> omega, hb, he, ?_, ?_⟩⟩
  · intro M1 hg
    simp only [sliceV, ht, (hb.grew hg).1, hi, hcs, Option.isSome_none, Option.isNone_none, Bool.false_eq_true, false_and, not_false_eq_true, and_self, if_true, true_and]
    rw [show boundV none (if c = unk then l.length else c) (if c = unk then l.length else c) = some (if c = unk then l.length else c) from rfl]
    simp only [show ∀ y, boundV none l.length y = some l.length from fun _ => rfl, hbk l.length hk, hs, Nat.mul_one]
    congr 1
    split <;> simp_all
  · rw [cB_length, List.length_drop]; omega
  · rw [cB_length, List.length_drop]
    have := congrArg (List.drop k) h5
    rw [List.drop_take, List.drop_drop] at this
    rw [this, cB, cB, List.map_drop]
theorem slice_23lh {M : Mem} {v : Value} {l : List Int} (h : RowE M v l.length (cB l) 5) {j k : Nat} (hj : j ≤ k) (hk : k ≤ l.length) :
    ∃ v', (∀ M1, Grew M M1 → sliceV Try.prog M1.get 23 v (some (.int .i64 j)) (some (.int .i64 k)) none = some v') ∧ RowE M v' ((l.take k).drop j).length (cB ((l.take k).drop j)) 5 := by
  obtain ⟨i, hi, hs⟩ := Option.map_eq_some_iff.1 (show (Try.prog.info? 5).map (·.size) = some 1 by kernel_rfl)
  have ht : Try.prog.underlying 23 = some (.slice 5) := by kernel_rfl
  obtain ⟨b, o, c, blk, rfl, hcn, hb, he, h4, h5⟩ := h
  have hcs : Try.prog.cellsOf blk.elem = i.size := by rw [he]; exact cellsOf_eq hi
  rw [cB_length] at h4 h5
  have hbk2 : ∀ (k : Nat) (z y : Nat), k ≤ y → z ≤ k → boundV (some (.int .i64 (k : Int))) z y = some k := fun k z y hy hz => by
    simp only [boundV]; rw [if_pos ⟨by omega, by omega⟩]; simp
  have hbk3 : ∀ (k : Nat) (z y : Nat), k ≤ y → boundV (some (.int .i64 (k : Int))) z y = some k := fun k z y hy => by
    simp only [boundV]; rw [if_pos ⟨by omega, by omega⟩]; simp
  refine ⟨.slice (some ⟨b, o + j, none⟩) (k - j) (if c = unk then unk else c - j), ?_, ⟨b, o + j, _, blk, by rw [List.length_drop, List.length_take, Nat.min_eq_left hk], by rw [List.length_drop, List.length_take]; split <;> omega, hb, he, ?_, ?_⟩⟩
  · intro M1 hg
    simp only [sliceV, ht, (hb.grew hg).1, hi, hcs, Option.isSome_some, Option.isNone_some, Option.isSome_none, Option.isNone_none, Bool.false_eq_true, and_false, not_false_eq_true, and_self, if_true, true_and, false_and, if_false]
    rw [show boundV none (if c = unk then l.length else c) (if c = unk then l.length else c) = some (if c = unk then l.length else c) from rfl]
    simp only
    rw [hbk3 k _ (if c = unk then l.length else c) (by split <;> omega)]
    simp only
    rw [hbk3 j _ k hj]
    simp only [hs, Nat.mul_one]
    congr 1
    split <;> simp_all
  · rw [cB_length, List.length_drop, List.length_take]; omega
  · rw [cB_length, List.length_drop, List.length_take, Nat.min_eq_left hk]
    have := congrArg (fun x => (x.take k).drop j) h5
    simp only [List.take_take, Nat.min_eq_left hk, List.drop_take, List.drop_drop] at this
    rw [this, cB, cB, List.map_drop, List.map_take]
    rw [List.drop_take]

theorem get69_spec (v : Value) (l : List Int) (M : Mem) (hok : Ok M) (hv : RowB M v l) (hb : BytB l) (hl : l.length ≤ 8) : ∃ r M', ACall Try.prog 69 #[v] M r M' ∧ r = .int .u64 (numN l) ∧ M' = M := by
  refine ACall.fin (args := [v]) (k := 20) (rs := [.tmp 2]) Try.func69 rfl rfl rfl (Nat.le_of_ble_eq_true rfl) ?_
  refine AWP.stepR [0] fun K hK => ?_
  simp only [go_sem, Nat.reduceEqDiff, Nat.reduceLT, Nat.reduceAdd, Nat.reduceMul, Nat.reduceSub, Nat.add_zero, Nat.zero_add, Int.reduceEq, Int.reduceLT]
  refine hK _ _ _ (by simp only [go_sem, Nat.reduceEqDiff, Nat.reduceLT, Nat.reduceAdd, Nat.reduceMul, Nat.reduceSub, Nat.add_zero, Nat.zero_add, Int.reduceEq, Int.reduceLT]; rfl) ?_; clear hK
  refine AWP.stepR [0, 3] fun K hK => ?_
  simp only [go_sem, Nat.reduceEqDiff, Nat.reduceLT, Nat.reduceAdd, Nat.reduceMul, Nat.reduceSub, Nat.add_zero, Nat.zero_add, Int.reduceEq, Int.reduceLT]
  refine hK _ _ _ (by simp only [go_sem, Nat.reduceEqDiff, Nat.reduceLT, Nat.reduceAdd, Nat.reduceMul, Nat.reduceSub, Nat.add_zero, Nat.zero_add, Int.reduceEq, Int.reduceLT]; rfl) ?_; clear hK
  refine AWP.seq ?_
  refine AWP.stepR [0, 3, 4] fun K hK => ?_
  simp only [go_sem, Nat.reduceEqDiff, Nat.reduceLT, Nat.reduceAdd, Nat.reduceMul, Nat.reduceSub, Nat.add_zero, Nat.zero_add, Int.reduceEq, Int.reduceLT]
  refine hK _ _ _ (by simp only [go_sem, Nat.reduceEqDiff, Nat.reduceLT, Nat.reduceAdd, Nat.reduceMul, Nat.reduceSub, Nat.add_zero, Nat.zero_add, Int.reduceEq, Int.reduceLT]; rfl) ?_; clear hK
  refine AWP.block ?_ -- b0
  refine AWP.loopK [0, 3, 4] (fun n e M0 => M0 = M ∧ n ≤ l.length ∧ e = [(0, v), (3, .int .u64 (numN (l.take (l.length - n)))), (4, .int .i64 ((l.length - n : Nat) : Int))]) l.length ?_ fun n e M0 hI => ?_ -- LOOP
  · simp only [go_sem, Nat.reduceEqDiff, Nat.reduceLT, Nat.reduceAdd, Nat.reduceMul, Nat.reduceSub, Nat.add_zero, Nat.zero_add, Int.reduceEq, Int.reduceLT, true_and, Nat.le_refl]
    simp [numN]
  obtain ⟨rfl, hn, rfl⟩ := hI
  refine AWP.seq ?_
  refine AWP.stepR [0, 3, 4, 8] fun K hK => ?_
  simp only [go_sem, Nat.reduceEqDiff, Nat.reduceLT, Nat.reduceAdd, Nat.reduceMul, Nat.reduceSub, Nat.add_zero, Nat.zero_add, Int.reduceEq, Int.reduceLT, hv.len es_23]
  refine hK _ _ _ (by simp only [go_sem, Nat.reduceEqDiff, Nat.reduceLT, Nat.reduceAdd, Nat.reduceMul, Nat.reduceSub, Nat.add_zero, Nat.zero_add, Int.reduceEq, Int.reduceLT]; rfl) ?_; clear hK
  refine AWP.cond_split rfl (fun h8 => ?_) fun h8 => ?_
  · have hlt : l.length - n < l.length := by simpa using h8
    obtain ⟨b, q, ha, hd⟩ := hv.at1 (by simp [cB]) es_23 hlt
    have hd := hd M0 (Grew.refl _)
    rw [show (cB l)[l.length - n]? = some (.int .u8 l[l.length - n]) by simp [cB, hlt]] at hd
    have hx := hb _ (List.getElem_mem hlt)
    have hst := List.take_succ_eq_append_getElem hlt
    have hbd := numN_bound hb (l.length - n)
    have hp := pow256 (n := (l.take (l.length - n)).length) (by rw [List.length_take]; omega)
    generalize l[l.length - n] = x at hd hx hst
    refine AWP.skip ?_
    refine AWP.seq ?_
    refine AWP.block ?_ -- b1
    refine AWP.lastR fun K hK => ?_
    simp only [go_sem, Nat.reduceEqDiff, Nat.reduceLT, Nat.reduceAdd, Nat.reduceMul, Nat.reduceSub, Nat.add_zero, Nat.zero_add, Int.reduceEq, Int.reduceLT, ha, hd, ld_5]
    refine hK _ _ ?_; clear hK
    refine AWP.lastR fun K hK => ?_
    simp only [go_sem, Nat.reduceEqDiff, Nat.reduceLT, Nat.reduceAdd, Nat.reduceMul, Nat.reduceSub, Nat.add_zero, Nat.zero_add, Int.reduceEq, Int.reduceLT]
    refine hK _ _ ?_; clear hK
    refine ⟨n - 1, by omega, rfl, by omega, ?_⟩ -- ROUND
    simp only [go_sem, Nat.reduceEqDiff, Nat.reduceLT, Nat.reduceAdd, Nat.reduceMul, Nat.reduceSub, Nat.add_zero, Nat.zero_add, Int.reduceEq, Int.reduceLT]
    have e1 : IntKind.u64.wrap (IntKind.u64.wrap (numN (l.take (l.length - n)) * 256) + IntKind.u64.wrap x) = numN (l.take (l.length - (n - 1))) := by
      rw [u64w (n := x) hx.1 (by omega), u64w (n := numN (l.take (l.length - n)) * 256) (by omega) (by omega), u64w (by omega) (by omega), show l.length - (n - 1) = l.length - n + 1 by omega, hst, numN_snoc]
    have e2 : IntKind.i64.wrap (((l.length - n : Nat) : Int) + 1) = ((l.length - (n - 1) : Nat) : Int) := by rw [i64w (by omega) (by omega)]; omega
    rw [e1, e2]
  · refine AWP.exit (Then.exit (Then.exit (InBlock.same ?_)))
    have hn0 : n = 0 := by simp at h8; omega
    subst hn0
    rw [Nat.sub_zero, List.take_length]
    refine AWP.stepR [2] fun K hK => ?_
    simp only [go_sem, Nat.reduceEqDiff, Nat.reduceLT, Nat.reduceAdd, Nat.reduceMul, Nat.reduceSub, Nat.add_zero, Nat.zero_add, Int.reduceEq, Int.reduceLT]
    refine hK _ _ _ (by simp only [go_sem, Nat.reduceEqDiff, Nat.reduceLT, Nat.reduceAdd, Nat.reduceMul, Nat.reduceSub, Nat.add_zero, Nat.zero_add, Int.reduceEq, Int.reduceLT]; rfl) ?_; clear hK
    refine AWP.ret (?_)
    exact Fin.plain (.inr rfl) rfl rfl hok (Grew.refl _) ⟨rfl, rfl⟩

theorem bd_86 {v : Value} (h : v.oneCell' = true) : buildV Try.prog 86 [(0, v)] = some (.agg #[v, .int .i64 0]) := by
  cases v <;> first | rfl | (simp [Value.oneCell'] at h)
def rdC (v : Value) (c : Int) : List Value := [v, .int .i64 c]
theorem rdC_len (v : Value) (c : Int) : (rdC v c).length = 2 := rfl
theorem rdC_one {v : Value} {c : Int} (h : v.oneCell' = true) : oneCells (rdC v c) = true := by simp only [oneCells, rdC, List.all_cons, List.all_nil, h]; rfl
/-- two blocks: what was handed in, and a reader to come -/
theorem box2 (M : Mem) (v : Value) (c : Int) : ∃ M1, ((M.bump 2).put M.next ⟨rdC v c, 86, true⟩).put (M.next + 1) ⟨rdC (.slice none 0 0) 0, 86, true⟩ = M1 ∧ Grew M M1 ∧ Has M1 M.next ⟨rdC v c, 86, true⟩ ∧ Has M1 (M.next + 1) ⟨rdC (.slice none 0 0) 0, 86, true⟩ ∧ M1.next = M.next + 2 := by
  have hlt1 : M.next < (M.bump 2).next := by rw [Mem.next_bump]; omega
  have hlt2 : M.next + 1 < (M.bump 2).next := by rw [Mem.next_bump]; omega
  obtain ⟨hg1, hh1⟩ := mk_put ((Grew.refl M).bump 2) (Nat.le_refl _) hlt1 ⟨rdC v c, 86, true⟩
  obtain ⟨hg2, hh2⟩ := mk_put hg1 (show M.next ≤ M.next + 1 by omega) (show M.next + 1 < ((M.bump 2).put M.next ⟨rdC v c, 86, true⟩).next from hlt2) ⟨rdC (.slice none 0 0) 0, 86, true⟩
  exact ⟨_, rfl, hg2, hh1.put' (show M.next ≠ M.next + 1 by omega) _, hh2, rfl⟩

theorem fail93_spec (vb : Value) (s : Rs) (c : Int) (M : Mem) (hok : Ok M) (hv : RowE M vb s.b.length (cB s.b) 5) :
    ∃ r M', ACall Try.prog 93 #[.agg (rdC vb s.code).toArray, .int .i64 c] M r M' ∧ Grew M M' ∧ r = .agg (rdC vb (failS s c).code).toArray := by
  refine ACall.fin (args := [.agg (rdC vb s.code).toArray, .int .i64 c]) (k := 13) (rs := [.cell 4 86]) Try.func93 rfl rfl rfl (Nat.le_of_ble_eq_true rfl) ?_
  refine AWP.stepR [1, 2, 4] fun K hK => ?_
  simp only [go_sem, Nat.reduceEqDiff, Nat.reduceLT, Nat.reduceAdd, Nat.reduceMul, Nat.reduceSub, Nat.add_zero, Nat.zero_add, Int.reduceEq, Int.reduceLT]
  refine hK _ _ _ (by simp only [go_sem, Nat.reduceEqDiff, Nat.reduceLT, Nat.reduceAdd, Nat.reduceMul, Nat.reduceSub, Nat.add_zero, Nat.zero_add, Int.reduceEq, Int.reduceLT]; rfl) ?_; clear hK
  obtain ⟨M1, hM1, hg1, hh1, hh2, hn1⟩ := box2 M vb s.code
  change AWP _ _ _ ⟨_, ((M.bump 2).put M.next ⟨rdC vb s.code, 86, true⟩).put (M.next + 1) ⟨rdC (.slice none 0 0) 0, 86, true⟩⟩ _
  rw [hM1]
  have hlt3 : M1.next < (M1.bump 1).next := Nat.lt_succ_self _
  have h1 := hv.row.one
  refine AWP.stepR [1, 2, 4, 5] fun K hK => ?_
  simp only [go_sem, Nat.reduceEqDiff, Nat.reduceLT, Nat.reduceAdd, Nat.reduceMul, Nat.reduceSub, Nat.add_zero, Nat.zero_add, Int.reduceEq, Int.reduceLT, ld_86, hh1.lda (rdC_len ..), st_fresh (M := M1.bump 1) (i := M1.next) (n := 2) (old := [.slice none 0 0, .int .i64 0]) (vs := rdC vb s.code) (e := 86) rfl rfl (rdC_one h1)]
  refine hK _ _ _ (by simp only [go_sem, Nat.reduceEqDiff, Nat.reduceLT, Nat.reduceAdd, Nat.reduceMul, Nat.reduceSub, Nat.add_zero, Nat.zero_add, Int.reduceEq, Int.reduceLT]; rfl) ?_; clear hK
  have hg4 := (((Grew.refl M1).bump 1).put (Nat.le_refl _) hlt3 ⟨[.slice none 0 0, .int .i64 0], 86, true⟩).put (Nat.le_refl _) hlt3 ⟨rdC vb s.code, 86, true⟩
  have hh4 : Has (((M1.bump 1).put M1.next ⟨[.slice none 0 0, .int .i64 0], 86, true⟩).put M1.next ⟨rdC vb s.code, 86, true⟩) M1.next ⟨rdC vb s.code, 86, true⟩ := Has.put (M := (M1.bump 1).put M1.next ⟨[.slice none 0 0, .int .i64 0], 86, true⟩) hlt3 _
  generalize ((M1.bump 1).put M1.next ⟨[.slice none 0 0, .int .i64 0], 86, true⟩).put M1.next ⟨rdC vb s.code, 86, true⟩ = M4 at hg4 hh4
  have hh1 := hh1.grew hg4
  have hh2 := hh2.grew hg4
  have hgM := hg1.trans hg4
  refine AWP.seq ?_
  refine AWP.stepR [1, 4, 5, 9] fun K hK => ?_
  simp only [go_sem, Nat.reduceEqDiff, Nat.reduceLT, Nat.reduceAdd, Nat.reduceMul, Nat.reduceSub, Nat.add_zero, Nat.zero_add, Int.reduceEq, Int.reduceLT, ld_22, hh1.ld, rdC]
  refine hK _ _ _ (by simp only [go_sem, Nat.reduceEqDiff, Nat.reduceLT, Nat.reduceAdd, Nat.reduceMul, Nat.reduceSub, Nat.add_zero, Nat.zero_add, Int.reduceEq, Int.reduceLT]; rfl) ?_; clear hK
  refine AWP.condG rfl [1, 4, 5] [(1, .int .i64 c), (4, .pointer (some ⟨M.next + 1, 0, none⟩)), (5, .pointer (some ⟨M1.next, 0, none⟩))] (fun M' => Grew M M' ∧ Has M' (M.next + 1) ⟨rdC (.slice none 0 0) 0, 86, true⟩ ∧ Has M' M1.next ⟨rdC vb (failS s c).code, 86, true⟩) (fun h9 => ?_) (fun h9 => ?_) fun M5 hg5 => ?_
  · have h0 : s.code = 0 := by simpa using h9
    have fs : stV M4 M1.next 1 1 (.int .i64 c) = some (M4.put M1.next ⟨rdC vb c, 86, true⟩) := st_cellX hh4 rfl (show 1 < 2 by decide) rfl
    refine AWP.lastR fun K hK => ?_
    simp only [go_sem, Nat.reduceEqDiff, Nat.reduceLT, Nat.reduceAdd, Nat.reduceMul, Nat.reduceSub, Nat.add_zero, Nat.zero_add, Int.reduceEq, Int.reduceLT, st_22, fs]
    refine hK _ _ ?_; clear hK
    refine ⟨rfl, (mk_put hgM (by omega) hh4.2 _).1, hh2.put' (by omega) _, ?_⟩
    rw [failS, if_pos h0]
    exact Has.put hh4.2 _
  · have h0 : s.code ≠ 0 := by simpa using h9
    refine AWP.skip ?_
    refine ⟨rfl, hgM, hh2, ?_⟩
    rw [failS, if_neg h0]; exact hh4
  obtain ⟨hg5, hk2, hk4⟩ := hg5
  refine AWP.stepR [4] fun K hK => ?_
  simp only [go_sem, Nat.reduceEqDiff, Nat.reduceLT, Nat.reduceAdd, Nat.reduceMul, Nat.reduceSub, Nat.add_zero, Nat.zero_add, Int.reduceEq, Int.reduceLT, ld_86, hk4.lda (rdC_len ..), st_86, st_all (n := 2) (vs := rdC vb (failS s c).code) hk2 rfl rfl rfl (rdC_one h1)]
  refine hK _ _ _ (by simp only [go_sem, Nat.reduceEqDiff, Nat.reduceLT, Nat.reduceAdd, Nat.reduceMul, Nat.reduceSub, Nat.add_zero, Nat.zero_add, Int.reduceEq, Int.reduceLT]; rfl) ?_; clear hK
  obtain ⟨hgz, hhz⟩ := mk_put hg5 (Nat.le_succ _) hk2.2 ⟨rdC vb (failS s c).code, 86, true⟩
  refine AWP.ret (?_)
  exact Fin.keep (v := .agg (rdC vb (failS s c).code).toArray) (.inr rfl) (by simp only [go_sem, Nat.reduceEqDiff, Nat.reduceLT, Nat.reduceAdd, Nat.reduceMul, Nat.reduceSub, Nat.add_zero, Nat.zero_add, Int.reduceEq, Int.reduceLT, retV, resV, ld_86, hhz.lda (rdC_len ..)]) ⟨hgz, rfl⟩
end Go.Proofs.Ythheaehpnleiaaa.AX

/- The other reader, by value: bytes, numbers. -/
namespace Go.Proofs.Ythheaehpnleiaaa.AX
open Go Go.Proofs
set_option maxRecDepth 100000
set_option linter.unusedVariables false
set_option linter.unusedSimpArgs false

/-- a reader handed about by value -/
def RdV (M : Mem) (v : Value) (s : Rs) : Prop := ∃ vb, v = .agg (rdC vb s.code).toArray ∧ RowE M vb s.b.length (cB s.b) 5
theorem RdV.grew {M M1 : Mem} {v : Value} {s : Rs} (h : RdV M v s) (hg : Grew M M1) : RdV M1 v s := by
  obtain ⟨vb, h1, h2⟩ := h
  exact ⟨vb, h1, h2.grew hg⟩

theorem bytes57_spec (v : Value) (s : Rs) (k : Int) (M0 M : Mem) (hok : Ok M) (hg0 : Grew M0 M) (hv : RdV M0 v s) (hl : s.b.length ≤ 4611686018427387904) :
    ∃ r M', ACall Try.prog 57 #[v, .int .i64 k] M r M' ∧ Grew M M' ∧ ∃ v' w, r = .tuple #[v', w] ∧ RdV M0 v' (takeS s k).1 ∧ RowB M0 w (takeS s k).2 := by
  obtain ⟨vb, rfl, hv⟩ := hv
  refine ACall.fin (args := [.agg (rdC vb s.code).toArray, .int .i64 k]) (k := 30) (rs := [.cell 4 86, .tmp 5]) Try.func57 rfl rfl rfl (Nat.le_of_ble_eq_true rfl) ?_
  refine AWP.stepR [1, 2, 4] fun K hK => ?_
  simp only [go_sem, Nat.reduceEqDiff, Nat.reduceLT, Nat.reduceAdd, Nat.reduceMul, Nat.reduceSub, Nat.add_zero, Nat.zero_add, Int.reduceEq, Int.reduceLT]
  refine hK _ _ _ (by simp only [go_sem, Nat.reduceEqDiff, Nat.reduceLT, Nat.reduceAdd, Nat.reduceMul, Nat.reduceSub, Nat.add_zero, Nat.zero_add, Int.reduceEq, Int.reduceLT]; rfl) ?_; clear hK
  obtain ⟨M1, hM1, hg1, hh1, hh2, hn1⟩ := box2 M vb s.code
  change AWP _ _ _ ⟨_, ((M.bump 2).put M.next ⟨rdC vb s.code, 86, true⟩).put (M.next + 1) ⟨rdC (.slice none 0 0) 0, 86, true⟩⟩ _
  rw [hM1]
  have h1 := hv.row.one
  have hv1 := hv.grew (hg0.trans hg1)
  refine AWP.seq ?_
  refine AWP.stepR [1, 2, 4, 8] fun K hK => ?_
  simp only [go_sem, Nat.reduceEqDiff, Nat.reduceLT, Nat.reduceAdd, Nat.reduceMul, Nat.reduceSub, Nat.add_zero, Nat.zero_add, Int.reduceEq, Int.reduceLT, ld_22, hh1.ld, rdC]
  refine hK _ _ _ (by simp only [go_sem, Nat.reduceEqDiff, Nat.reduceLT, Nat.reduceAdd, Nat.reduceMul, Nat.reduceSub, Nat.add_zero, Nat.zero_add, Int.reduceEq, Int.reduceLT]; rfl) ?_; clear hK
  refine AWP.cond_split rfl (fun h8 => ?_) fun h8 => ?_
  · have h0 : s.code ≠ 0 := by simpa using h8
    refine AWP.stepR [4, 5] fun K hK => ?_
    simp only [go_sem, Nat.reduceEqDiff, Nat.reduceLT, Nat.reduceAdd, Nat.reduceMul, Nat.reduceSub, Nat.add_zero, Nat.zero_add, Int.reduceEq, Int.reduceLT, ld_86, hh1.lda (rdC_len ..), st_86, st_all (n := 2) (vs := rdC vb s.code) hh2 rfl rfl rfl (rdC_one h1)]
    refine hK _ _ _ (by simp only [go_sem, Nat.reduceEqDiff, Nat.reduceLT, Nat.reduceAdd, Nat.reduceMul, Nat.reduceSub, Nat.add_zero, Nat.zero_add, Int.reduceEq, Int.reduceLT]; rfl) ?_; clear hK
    obtain ⟨hgz, hhz⟩ := mk_put hg1 (Nat.le_succ _) hh2.2 ⟨rdC vb s.code, 86, true⟩
    refine AWP.ret (Then.ret (?_))
    refine Fin.keep (v := .tuple #[.agg (rdC vb s.code).toArray, .slice none 0 0]) (.inr rfl) (by simp only [go_sem, Nat.reduceEqDiff, Nat.reduceLT, Nat.reduceAdd, Nat.reduceMul, Nat.reduceSub, Nat.add_zero, Nat.zero_add, Int.reduceEq, Int.reduceLT, retV, resV, ld_86, hhz.lda (rdC_len ..)] <;> rfl) ⟨hgz, _, _, rfl, ?_, ?_⟩
    · rw [takeS, if_neg h0]; exact ⟨vb, rfl, hv⟩
    · rw [takeS, if_neg h0]; exact Row_.nil _
  · have h0 : s.code = 0 := by simpa using h8
    refine AWP.skip ?_
    refine AWP.seq ?_
    refine AWP.stepX [1, 2, 4, 18] [(1, .int .i64 k), (2, .pointer (some ⟨M.next, 0, none⟩)), (4, .pointer (some ⟨M.next + 1, 0, none⟩)), (18, .bool (decide (k < 0 ∨ k > s.b.length)))] M1 (fun K hK => ?_) ?_
    · by_cases hk : k < 0
      · simp only [go_sem, Nat.reduceEqDiff, Nat.reduceLT, Nat.reduceAdd, Nat.reduceMul, Nat.reduceSub, Nat.add_zero, Nat.zero_add, Int.reduceEq, Int.reduceLT, decide_eq_true hk]
        refine hK _ ?_
        simp only [go_sem, Nat.reduceEqDiff, Nat.reduceLT, Nat.reduceAdd, Nat.reduceMul, Nat.reduceSub, Nat.add_zero, Nat.zero_add, Int.reduceEq, Int.reduceLT, decide_eq_true (show k < 0 ∨ k > s.b.length from .inl hk)]
      · simp only [go_sem, Nat.reduceEqDiff, Nat.reduceLT, Nat.reduceAdd, Nat.reduceMul, Nat.reduceSub, Nat.add_zero, Nat.zero_add, Int.reduceEq, Int.reduceLT, ld_23, hh1.ld, rdC, decide_eq_false hk, hv.row.len es_23]
        refine hK _ ?_
        simp only [go_sem, Nat.reduceEqDiff, Nat.reduceLT, Nat.reduceAdd, Nat.reduceMul, Nat.reduceSub, Nat.add_zero, Nat.zero_add, Int.reduceEq, Int.reduceLT]
        rw [decide_eq_decide.2 (show (k < 0 ∨ k > s.b.length) ↔ k > s.b.length from ⟨fun h => h.resolve_left hk, .inr⟩)]
    refine AWP.cond_split rfl (fun h18 => ?_) fun h18 => ?_
    · have hbad : k < 0 ∨ k > s.b.length := of_decide_eq_true h18
      obtain ⟨r3, M3, hc3, hg3, rfl⟩ := fail93_spec vb s 3 M1 (hg1.ok hok) hv1
      have hh23 := hh2.grew hg3
      refine AWP.stepR [4, 5] fun K hK => ?_
      simp only [go_sem, Nat.reduceEqDiff, Nat.reduceLT, Nat.reduceAdd, Nat.reduceMul, Nat.reduceSub, Nat.add_zero, Nat.zero_add, Int.reduceEq, Int.reduceLT, ld_86, hh1.lda (rdC_len ..)]
      refine ⟨_, _, hc3, ?_⟩
      try simp only [go_sem, Nat.reduceEqDiff, Nat.reduceLT, Nat.reduceAdd, Nat.reduceMul, Nat.reduceSub, Nat.add_zero, Nat.zero_add, Int.reduceEq, Int.reduceLT, st_86, st_all (n := 2) (vs := rdC vb (failS s 3).code) hh23 rfl rfl rfl (rdC_one h1)]
      refine hK _ _ _ (by simp only [go_sem, Nat.reduceEqDiff, Nat.reduceLT, Nat.reduceAdd, Nat.reduceMul, Nat.reduceSub, Nat.add_zero, Nat.zero_add, Int.reduceEq, Int.reduceLT]; rfl) ?_; clear hK
      obtain ⟨hgz, hhz⟩ := mk_put (hg1.trans hg3) (Nat.le_succ _) hh23.2 ⟨rdC vb (failS s 3).code, 86, true⟩
      refine AWP.ret (Then.ret (?_))
      have e : takeS s k = (⟨s.b, 3⟩, []) := by rw [takeS, if_pos h0, if_pos hbad]
      have e2 : (failS s 3).code = 3 := by rw [failS, if_pos h0]
      refine Fin.keep (v := .tuple #[.agg (rdC vb (failS s 3).code).toArray, .slice none 0 0]) (.inr rfl) (by simp only [go_sem, Nat.reduceEqDiff, Nat.reduceLT, Nat.reduceAdd, Nat.reduceMul, Nat.reduceSub, Nat.add_zero, Nat.zero_add, Int.reduceEq, Int.reduceLT, retV, resV, ld_86, hhz.lda (rdC_len ..)] <;> rfl) ⟨hgz, _, _, rfl, ?_, ?_⟩
      · rw [e, e2]; exact ⟨vb, rfl, hv⟩
      · rw [e]; exact Row_.nil _
    · have hbad : ¬ (k < 0 ∨ k > s.b.length) := of_decide_eq_false h18
      obtain ⟨kn, rfl⟩ : ∃ kn : Nat, k = kn := ⟨k.toNat, by omega⟩
      have hkn : kn ≤ s.b.length := by omega
      obtain ⟨v2, f2, hr2⟩ := slice_23l hv hkn
      obtain ⟨v1, f1, hr1⟩ := slice_23h hv hkn
      obtain ⟨hgz, hhz⟩ := mk_put hg1 (Nat.le_succ _) hh2.2 ⟨rdC v2 0, 86, true⟩
      have hh1z := hh1.put' (show M.next ≠ M.next + 1 by omega) ⟨rdC v2 0, 86, true⟩
      have fs : stV M1 (M.next + 1) 0 2 (.agg #[v2, .int .i64 0]) = some (M1.put (M.next + 1) ⟨rdC v2 0, 86, true⟩) := st_all (n := 2) (vs := rdC v2 0) hh2 rfl rfl rfl (rdC_one hr2.row.one)
      generalize M1.put (M.next + 1) ⟨rdC v2 0, 86, true⟩ = M5 at hgz hhz hh1z fs
      refine AWP.skip ?_
      refine AWP.stepD hmo [0, 1, 2, 3, 4, 5, 6, 7, 8, 9, 10] [0, 1, 0, 7, 15, 0, 32, 0, 224, 31, 1023] [] [(6, 9), (8, 9)] (by kernel_rfl) [4, 5] fun K hK => ?_
      simp only [go_sem, Nat.reduceEqDiff, Nat.reduceLT, Nat.reduceAdd, Nat.reduceMul, Nat.reduceSub, Nat.add_zero, Nat.zero_add, Int.reduceEq, Int.reduceLT, ld_23, hh1.ld, hh1z.ld, rdC, Option.map_some, f1 M1 (hg0.trans hg1), f2 M1 (hg0.trans hg1), f1 M5 (hg0.trans hgz), bd_86 hr2.row.one, st_86, fs]
      refine hK _ _ _ (by simp only [go_sem, Nat.reduceEqDiff, Nat.reduceLT, Nat.reduceAdd, Nat.reduceMul, Nat.reduceSub, Nat.add_zero, Nat.zero_add, Int.reduceEq, Int.reduceLT]; rfl) ?_; clear hK
      refine AWP.ret (?_)
      have e : takeS s kn = (⟨s.b.drop kn, 0⟩, s.b.take kn) := by rw [takeS, if_pos h0, if_neg hbad]; simp
      refine Fin.keep (v := .tuple #[.agg (rdC v2 0).toArray, v1]) (.inr rfl) (by simp only [go_sem, Nat.reduceEqDiff, Nat.reduceLT, Nat.reduceAdd, Nat.reduceMul, Nat.reduceSub, Nat.add_zero, Nat.zero_add, Int.reduceEq, Int.reduceLT, retV, resV, ld_86, hhz.lda (rdC_len ..)] <;> rfl) ⟨hgz, _, _, rfl, ?_, ?_⟩
      · rw [e]; exact ⟨v2, rfl, hr2⟩
      · rw [e]; exact hr1.row

theorem number94_spec (v : Value) (s : Rs) (k : Int) (M0 M : Mem) (hok : Ok M) (hg0 : Grew M0 M) (hv : RdV M0 v s) (hb : BytB s.b) (hk : 0 ≤ k ∧ k ≤ 8) (hl : s.b.length ≤ 4611686018427387904) :
    ∃ r M', ACall Try.prog 94 #[v, .int .i64 k] M r M' ∧ Grew M M' ∧ ∃ v', r = .tuple #[v', .int .u64 (numS s k).2] ∧ RdV M0 v' (numS s k).1 := by
  have hv0 := hv
  obtain ⟨vb, rfl, hvE⟩ := hv
  refine ACall.fin (args := [.agg (rdC vb s.code).toArray, .int .i64 k]) (k := 17) (rs := [.cell 4 86, .tmp 5]) Try.func94 rfl rfl rfl (Nat.le_of_ble_eq_true rfl) ?_
  refine AWP.stepR [1, 2, 4] fun K hK => ?_
  simp only [go_sem, Nat.reduceEqDiff, Nat.reduceLT, Nat.reduceAdd, Nat.reduceMul, Nat.reduceSub, Nat.add_zero, Nat.zero_add, Int.reduceEq, Int.reduceLT]
  refine hK _ _ _ (by simp only [go_sem, Nat.reduceEqDiff, Nat.reduceLT, Nat.reduceAdd, Nat.reduceMul, Nat.reduceSub, Nat.add_zero, Nat.zero_add, Int.reduceEq, Int.reduceLT]; rfl) ?_; clear hK
  obtain ⟨M1, hM1, hg1, hh1, hh2, hn1⟩ := box2 M vb s.code
  change AWP _ _ _ ⟨_, ((M.bump 2).put M.next ⟨rdC vb s.code, 86, true⟩).put (M.next + 1) ⟨rdC (.slice none 0 0) 0, 86, true⟩⟩ _
  rw [hM1]
  have hgb := (Grew.refl M1).bump 1
  obtain ⟨r2, M2, hc2, hg2, w2, u2, rfl, ⟨vb2, rfl, hE2⟩, hu2⟩ := bytes57_spec _ s k M0 (M1.bump 1) ((hg1.bump 1).ok hok) (hg0.trans (hg1.trans hgb)) hv0 hl
  have hlen := (takeS_len s k).2.2 hk.1
  have hnx : M1.next < M2.next := by have := hg2.next; rw [Mem.next_bump] at this; omega
  have h1 := hE2.row.one
  refine AWP.stepR [4, 6, 7] fun K hK => ?_
  simp only [go_sem, Nat.reduceEqDiff, Nat.reduceLT, Nat.reduceAdd, Nat.reduceMul, Nat.reduceSub, Nat.add_zero, Nat.zero_add, Int.reduceEq, Int.reduceLT, ld_86, hh1.lda (rdC_len ..)]
  refine ⟨_, _, hc2, ?_⟩
  try simp only [go_sem, Nat.reduceEqDiff, Nat.reduceLT, Nat.reduceAdd, Nat.reduceMul, Nat.reduceSub, Nat.add_zero, Nat.zero_add, Int.reduceEq, Int.reduceLT, extractV, st_fresh (M := M2) (i := M1.next) (n := 2) (old := [.slice none 0 0, .int .i64 0]) (vs := rdC vb2 (takeS s k).1.code) (e := 86) rfl rfl (rdC_one h1)]
  refine hK _ _ _ (by simp only [go_sem, Nat.reduceEqDiff, Nat.reduceLT, Nat.reduceAdd, Nat.reduceMul, Nat.reduceSub, Nat.add_zero, Nat.zero_add, Int.reduceEq, Int.reduceLT]; rfl) ?_; clear hK
  have hg12 := hgb.trans hg2
  have hg3 : Grew M1 ((M2.put M1.next ⟨[.slice none 0 0, .int .i64 0], 86, true⟩).put M1.next ⟨rdC vb2 (takeS s k).1.code, 86, true⟩) := (hg12.put (Nat.le_refl _) hnx _).put (Nat.le_refl _) hnx _
  have hh3 : Has ((M2.put M1.next ⟨[.slice none 0 0, .int .i64 0], 86, true⟩).put M1.next ⟨rdC vb2 (takeS s k).1.code, 86, true⟩) M1.next ⟨rdC vb2 (takeS s k).1.code, 86, true⟩ := Has.put (show _ < (M2.put _ _).next from hnx) _
  generalize (M2.put M1.next ⟨[.slice none 0 0, .int .i64 0], 86, true⟩).put M1.next ⟨rdC vb2 (takeS s k).1.code, 86, true⟩ = M3 at hg3 hh3
  have hgM3 := hg1.trans hg3
  have hh23 := hh2.grew hg3
  obtain ⟨r4, M4, hc4, hr4, hM4⟩ := get69_spec u2 (takeS s k).2 M3 (hgM3.ok hok) (hu2.grew (hg0.trans hgM3)) (takeS_bytes hb k).2 (by omega)
  rw [hr4, hM4] at hc4
  refine AWP.stepD hmo [0, 1, 2, 3, 4] [0, 0, 2, 7, 15] [] [(0, 2)] (by kernel_rfl) [4, 5] fun K hK => ?_
  simp only [go_sem, Nat.reduceEqDiff, Nat.reduceLT, Nat.reduceAdd, Nat.reduceMul, Nat.reduceSub, Nat.add_zero, Nat.zero_add, Int.reduceEq, Int.reduceLT, ld_86, hh3.lda (rdC_len ..)]
  refine ⟨_, _, hc4, ?_⟩
  try simp only [go_sem, Nat.reduceEqDiff, Nat.reduceLT, Nat.reduceAdd, Nat.reduceMul, Nat.reduceSub, Nat.add_zero, Nat.zero_add, Int.reduceEq, Int.reduceLT, ld_86, hh3.lda (rdC_len ..), st_86, st_all (n := 2) (vs := rdC vb2 (takeS s k).1.code) hh23 rfl rfl rfl (rdC_one h1)]
  refine hK _ _ _ (by simp only [go_sem, Nat.reduceEqDiff, Nat.reduceLT, Nat.reduceAdd, Nat.reduceMul, Nat.reduceSub, Nat.add_zero, Nat.zero_add, Int.reduceEq, Int.reduceLT]; rfl) ?_; clear hK
  obtain ⟨hgz, hhz⟩ := mk_put hgM3 (Nat.le_succ _) hh23.2 ⟨rdC vb2 (takeS s k).1.code, 86, true⟩
  refine AWP.ret (?_)
  exact Fin.keep (v := .tuple #[.agg (rdC vb2 (takeS s k).1.code).toArray, .int .u64 (numS s k).2]) (.inr rfl) (by simp only [go_sem, Nat.reduceEqDiff, Nat.reduceLT, Nat.reduceAdd, Nat.reduceMul, Nat.reduceSub, Nat.add_zero, Nat.zero_add, Int.reduceEq, Int.reduceLT, retV, resV, ld_86, hhz.lda (rdC_len ..)] <;> rfl) ⟨hgz, _, rfl, vb2, rfl, hE2⟩
end Go.Proofs.Ythheaehpnleiaaa.AX
