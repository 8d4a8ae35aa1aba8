/- Copies of rows of pairs and kids. -/
import Derived.Test.YthheaehpnleiaaaNodePuts17
import Derived.Test.YthheaehpnleiaaaNodePuts6
namespace Go.Proofs.Ythheaehpnleiaaa.AX
open Go Go.Proofs
set_option maxRecDepth 100000
set_option linter.unusedVariables false
set_option linter.unusedSimpArgs false

theorem flatMap_drop {α : Type} {f : α → List Value} {sz : Nat} (hf : ∀ a, (f a).length = sz) : ∀ (l : List α) (i : Nat), (l.flatMap f).drop (i * sz) = (l.drop i).flatMap f := by
  intro l
  induction l with
  | nil => intro i; simp
  | cons a l ih =>
    intro i
    cases i with
    | zero => simp
    | succ i =>
      rw [List.flatMap_cons, show (i + 1) * sz = (f a).length + i * sz by rw [hf, Nat.succ_mul]; omega, ← List.drop_drop, List.drop_left, ih, List.drop_succ_cons]
theorem flatMap_take {α : Type} {f : α → List Value} {sz : Nat} (hf : ∀ a, (f a).length = sz) : ∀ (l : List α) (i : Nat), (l.flatMap f).take (i * sz) = (l.take i).flatMap f := by
  intro l
  induction l with
  | nil => intro i; simp
  | cons a l ih =>
    intro i
    cases i with
    | zero => simp
    | succ i =>
      rw [List.flatMap_cons, show (i + 1) * sz = (f a).length + i * sz by rw [hf, Nat.succ_mul]; omega, List.take_length_add_append, ih, List.take_succ_cons, List.flatMap_cons]
theorem flatMap_ones {α : Type} {f : α → List Value} {l : List α} (h : ∀ a, a ∈ l → oneCells (f a) = true) : oneCells (l.flatMap f) = true := by
  induction l with
  | nil => rfl
  | cons a l ih =>
    have h1 := h a List.mem_cons_self
    have h2 := ih fun b hb => h b (List.mem_cons_of_mem _ hb)
    simp only [oneCells] at h1 h2 ⊢
    rw [List.flatMap_cons, List.all_append, h1, h2]; rfl

theorem nn_41 (a : Addr) (n c : Nat) : binV Try.prog .eql 41 (.slice (some a) n c) (.slice none 0 0) = some (.bool false) := by
  simp only [binV, eqV, eq0, un_41, Option.map_some]
theorem bs0_41 (ev : Operand → Option Value) : allocA Try.prog ev (.buildSlice 41 0 #[]) = some (⟨[], 58, true⟩, fun id => .slice (some ⟨id, 0, none⟩) 0 0) :=
  bs_eq (P := Try.prog) (ps := []) rfl (sz := 2) (z := #[]) (r := #[]) un_41 (by kernel_rfl) (by simp) (by simp) (by simp [Instr.fill]) ⟨rfl, rfl, .inl (Nat.zero_mul _)⟩
theorem clone86_spec (v : Value) (l : List Pr) (M : Mem) (hok : Ok M) (hv : RowE M v l.length (l.flatMap prC) 58) (hp : ∀ p, p ∈ l → PrOk M p) (hl : l.length ≤ 1000) :
    ∃ r M', ACall Try.prog 86 #[v] M r M' ∧ Grew M M' ∧ Own M M' r l.length (l.flatMap prC) 58 := by
  obtain ⟨b, o, c, blk, rfl, hcn, hb, he, h4, h5⟩ := hv
  have hrow : Row_ M (.slice (some ⟨b, o, none⟩) l.length c) l.length (l.flatMap prC) := .inr ⟨b, o, c, blk, rfl, hb, h4, h5⟩
  refine ACall.fin (args := [.slice (some ⟨b, o, none⟩) l.length c]) (k := 8) Try.func86 rfl rfl rfl (Nat.le_of_ble_eq_true rfl) ?_
  refine AWP.stepR [0] fun K hK => ?_
  simp only [go_sem, Nat.reduceEqDiff, Nat.reduceLT, Nat.reduceAdd, Nat.reduceMul, Nat.reduceSub, Nat.add_zero, Nat.zero_add, Int.reduceEq, Int.reduceLT]
  refine hK _ _ _ (by simp only [go_sem, Nat.reduceEqDiff, Nat.reduceLT, Nat.reduceAdd, Nat.reduceMul, Nat.reduceSub, Nat.add_zero, Nat.zero_add, Int.reduceEq, Int.reduceLT]; rfl) ?_; clear hK
  refine AWP.seq ?_
  refine AWP.stepR [0, 4] fun K hK => ?_
  simp only [go_sem, Nat.reduceEqDiff, Nat.reduceLT, Nat.reduceAdd, Nat.reduceMul, Nat.reduceSub, Nat.add_zero, Nat.zero_add, Int.reduceEq, Int.reduceLT, nn_41]
  refine hK _ _ _ (by simp only [go_sem, Nat.reduceEqDiff, Nat.reduceLT, Nat.reduceAdd, Nat.reduceMul, Nat.reduceSub, Nat.add_zero, Nat.zero_add, Int.reduceEq, Int.reduceLT]; rfl) ?_; clear hK
  refine AWP.cond_split rfl (fun h4 => ?_) fun h4 => ?_
  · cases h4
  · refine AWP.skip ?_
    have hlt1 : M.next < (M.bump 1).next := Nat.lt_succ_self _
    obtain ⟨hg1, hh1⟩ := mk_put ((Grew.refl M).bump 1) (Nat.le_refl _) hlt1 ⟨[], 58, true⟩
    have hrow1 := hrow.grew hg1
    have ho : Own M ((M.bump 1).put M.next ⟨[], 58, true⟩) (.slice (some ⟨M.next, 0, none⟩) 0 0) 0 [] 58 := .inr ⟨M.next, 0, _, Nat.le_refl _, hlt1, rfl, hh1.1, rfl, rfl, .inl ⟨rfl, rfl⟩⟩
    obtain ⟨v2, M2, happ, ho2, hg2, hnx, hfr⟩ := Own.append ap_41_41 hg1 ho rfl (hrow1.content (flatMap_len prC_len l)) (flatMap_ones fun a ha => (hp a ha).one) (by omega)
    rw [Nat.zero_add, List.nil_append] at ho2
    refine AWP.stepR [2] fun K hK => ?_
    simp only [go_sem, Nat.reduceEqDiff, Nat.reduceLT, Nat.reduceAdd, Nat.reduceMul, Nat.reduceSub, Nat.add_zero, Nat.zero_add, Int.reduceEq, Int.reduceLT, bs0_41, happ]
    refine hK _ _ _ (by simp only [go_sem, Nat.reduceEqDiff, Nat.reduceLT, Nat.reduceAdd, Nat.reduceMul, Nat.reduceSub, Nat.add_zero, Nat.zero_add, Int.reduceEq, Int.reduceLT]; rfl) ?_; clear hK
    refine AWP.ret (?_)
    exact Fin.keep (.inr rfl) rfl ⟨hg2, ho2⟩

theorem nn_42 (a : Addr) (n c : Nat) : binV Try.prog .eql 42 (.slice (some a) n c) (.slice none 0 0) = some (.bool false) := by
  simp only [binV, eqV, eq0, un_42, Option.map_some]
theorem bs0_42 (ev : Operand → Option Value) : allocA Try.prog ev (.buildSlice 42 0 #[]) = some (⟨[], 60, true⟩, fun id => .slice (some ⟨id, 0, none⟩) 0 0) :=
  bs_eq (P := Try.prog) (ps := []) rfl (sz := 3) (z := #[]) (r := #[]) un_42 (by kernel_rfl) (by simp) (by simp) (by simp [Instr.fill]) ⟨rfl, rfl, .inl (Nat.zero_mul _)⟩
theorem clone88_spec (v : Value) (l : List Kd) (M : Mem) (hok : Ok M) (hv : RowE M v l.length (l.flatMap kdC) 60) (hp : ∀ p, p ∈ l → KdOk M p) (hl : l.length ≤ 1000) :
    ∃ r M', ACall Try.prog 88 #[v] M r M' ∧ Grew M M' ∧ Own M M' r l.length (l.flatMap kdC) 60 := by
  obtain ⟨b, o, c, blk, rfl, hcn, hb, he, h4, h5⟩ := hv
  have hrow : Row_ M (.slice (some ⟨b, o, none⟩) l.length c) l.length (l.flatMap kdC) := .inr ⟨b, o, c, blk, rfl, hb, h4, h5⟩
  refine ACall.fin (args := [.slice (some ⟨b, o, none⟩) l.length c]) (k := 8) Try.func88 rfl rfl rfl (Nat.le_of_ble_eq_true rfl) ?_
  refine AWP.stepR [0] fun K hK => ?_
  simp only [go_sem, Nat.reduceEqDiff, Nat.reduceLT, Nat.reduceAdd, Nat.reduceMul, Nat.reduceSub, Nat.add_zero, Nat.zero_add, Int.reduceEq, Int.reduceLT]
  refine hK _ _ _ (by simp only [go_sem, Nat.reduceEqDiff, Nat.reduceLT, Nat.reduceAdd, Nat.reduceMul, Nat.reduceSub, Nat.add_zero, Nat.zero_add, Int.reduceEq, Int.reduceLT]; rfl) ?_; clear hK
  refine AWP.seq ?_
  refine AWP.stepR [0, 4] fun K hK => ?_
  simp only [go_sem, Nat.reduceEqDiff, Nat.reduceLT, Nat.reduceAdd, Nat.reduceMul, Nat.reduceSub, Nat.add_zero, Nat.zero_add, Int.reduceEq, Int.reduceLT, nn_42]
  refine hK _ _ _ (by simp only [go_sem, Nat.reduceEqDiff, Nat.reduceLT, Nat.reduceAdd, Nat.reduceMul, Nat.reduceSub, Nat.add_zero, Nat.zero_add, Int.reduceEq, Int.reduceLT]; rfl) ?_; clear hK
  refine AWP.cond_split rfl (fun h4 => ?_) fun h4 => ?_
  · cases h4
  · refine AWP.skip ?_
    have hlt1 : M.next < (M.bump 1).next := Nat.lt_succ_self _
    obtain ⟨hg1, hh1⟩ := mk_put ((Grew.refl M).bump 1) (Nat.le_refl _) hlt1 ⟨[], 60, true⟩
    have hrow1 := hrow.grew hg1
    have ho : Own M ((M.bump 1).put M.next ⟨[], 60, true⟩) (.slice (some ⟨M.next, 0, none⟩) 0 0) 0 [] 60 := .inr ⟨M.next, 0, _, Nat.le_refl _, hlt1, rfl, hh1.1, rfl, rfl, .inl ⟨rfl, rfl⟩⟩
    obtain ⟨v2, M2, happ, ho2, hg2, hnx, hfr⟩ := Own.append ap_42_42 hg1 ho rfl (hrow1.content (flatMap_len kdC_len l)) (flatMap_ones fun a ha => (hp a ha).one) (by omega)
    rw [Nat.zero_add, List.nil_append] at ho2
    refine AWP.stepR [2] fun K hK => ?_
    simp only [go_sem, Nat.reduceEqDiff, Nat.reduceLT, Nat.reduceAdd, Nat.reduceMul, Nat.reduceSub, Nat.add_zero, Nat.zero_add, Int.reduceEq, Int.reduceLT, bs0_42, happ]
    refine hK _ _ _ (by simp only [go_sem, Nat.reduceEqDiff, Nat.reduceLT, Nat.reduceAdd, Nat.reduceMul, Nat.reduceSub, Nat.add_zero, Nat.zero_add, Int.reduceEq, Int.reduceLT]; rfl) ?_; clear hK
    refine AWP.ret (?_)
    exact Fin.keep (.inr rfl) rfl ⟨hg2, ho2⟩
end Go.Proofs.Ythheaehpnleiaaa.AX

/- Parts of a node. -/
namespace Go.Proofs.Ythheaehpnleiaaa.AX
open Go Go.Proofs
set_option maxRecDepth 100000
set_option linter.unusedVariables false
set_option linter.unusedSimpArgs false

theorem st_cell {M : Mem} {i o : Nat} {blk : Blk} {v : Value} (h : Has M i blk) (hrw : blk.rw = true) (ho : o < blk.cells.length) (hv : v.oneCell' = true) : stV M i o 1 v = some (M.put i ⟨blk.cells.set o v, blk.elem, blk.rw⟩) := by
  rw [stV_at h.1, one_cells hv, if_pos ⟨hrw, rfl, by simp [oneCells, hv], by omega⟩]
  congr 2
  have : splice blk.cells o [v] = blk.cells.set o v := by
    apply List.ext_getElem?
    intro j
    rw [splice_get (by simp; omega), List.getElem?_set]
    by_cases hj : o = j
    · subst hj; simp [ho]
    · rw [if_neg (by simp; omega), if_neg hj]
  simp [this]
theorem st_all {M : Mem} {i n : Nat} {blk : Blk} {vs : List Value} (h : Has M i blk) (hrw : blk.rw = true) (hl : blk.cells.length = n) (hv : vs.length = n) (ho : oneCells vs = true) : stV M i 0 n (.agg vs.toArray) = some (M.put i ⟨vs, blk.elem, blk.rw⟩) := by
  rw [stV_at h.1, if_pos ⟨hrw, by simpa [Value.cells] using hv, by simpa [Value.cells] using ho, by omega⟩]
  have : splice blk.cells 0 vs = vs := by simp [splice, hl, hv]
  simp only [Value.cells, this]
theorem Own.putA {M M1 : Mem} {v : Value} {n : Nat} {cells : List Value} {e : TypeId} (h : Own M M1 v n cells e) {j : Nat} (hj : j < M.next) (b : Blk) : Own M (M1.put j b) v n cells e := by
  rcases h with h | ⟨id, c, blk, h0, h1, h2, h3, h4⟩
  · exact .inl h
  · exact .inr ⟨id, c, blk, h0, h1, h2, by rw [Mem.get_put, if_neg (by omega)]; exact h3, h4⟩
theorem Own.one {M M1 : Mem} {v : Value} {n : Nat} {cells : List Value} {e : TypeId} (h : Own M M1 v n cells e) : v.oneCell' = true := h.row.one

/-- rows of a node that are new -/
structure NewN (M M1 : Mem) (n : Node) (vp vk : Value) : Prop where
  pairs : Own M M1 vp n.pairs.length (n.pairs.flatMap prC) 58
  kids : Own M M1 vk n.kids.length (n.kids.flatMap kdC) 60
theorem NewN.grew {M M1 M2 : Mem} {n : Node} {vp vk : Value} (h : NewN M M1 n vp vk) (hg : Grew M1 M2) : NewN M M2 n vp vk := ⟨h.pairs.grew hg, h.kids.grew hg⟩
theorem NewN.base {M M0 M1 : Mem} {n : Node} {vp vk : Value} (h : NewN M M1 n vp vk) (hn : M0.next ≤ M.next) : NewN M0 M1 n vp vk := ⟨h.pairs.base hn, h.kids.base hn⟩
theorem NewN.put {M M1 : Mem} {n : Node} {vp vk : Value} (h : NewN M M1 n vp vk) {j : Nat} (hj : j < M.next) (b : Blk) : NewN M (M1.put j b) n vp vk := ⟨h.pairs.putA hj b, h.kids.putA hj b⟩
theorem NewN.one {M M1 : Mem} {n : Node} {vp vk : Value} (h : NewN M M1 n vp vk) (b : Bool) : oneCells (nodeC b vp vk) = true := by
  simp only [oneCells, nodeC, List.all_cons, List.all_nil, h.pairs.one, h.kids.one]; rfl
theorem NewN.node {M M1 : Mem} {n : Node} {vp vk : Value} (h : NewN M M1 n vp vk) (h1 : ∀ p, p ∈ n.pairs → PrOk M1 p) (h2 : ∀ k, k ∈ n.kids → KdOk M1 k) : NodeR M1 n vp vk :=
  ⟨h.pairs.row, h.kids.row, fun p hp => (h1 p hp).1, fun p hp => (h1 p hp).2, h2⟩
/-- a node's rows lie in blocks of their elements' type -/
structure NodeE (M : Mem) (n : Node) (vp vk : Value) : Prop where
  pairs : n.pairs = [] ∨ RowE M vp n.pairs.length (n.pairs.flatMap prC) 58
  kids : n.kids = [] ∨ RowE M vk n.kids.length (n.kids.flatMap kdC) 60
theorem NodeE.grew {M M1 : Mem} {n : Node} {vp vk : Value} (h : NodeE M n vp vk) (hg : Grew M M1) : NodeE M1 n vp vk := ⟨h.pairs.imp id fun h => h.grew hg, h.kids.imp id fun h => h.grew hg⟩
theorem slice_pr {M : Mem} {v : Value} {l : List Pr} (h : RowE M v l.length (l.flatMap prC) 58) {a b : Nat} (h1 : a ≤ b) (h2 : b ≤ l.length) :
    ∃ v', (∀ M1, Grew M M1 → sliceV Try.prog M1.get 41 v (some (.int .i64 a)) (some (.int .i64 b)) none = some v' ∧ (a = 0 → sliceV Try.prog M1.get 41 v none (some (.int .i64 b)) none = some v') ∧ (b = l.length → sliceV Try.prog M1.get 41 v (some (.int .i64 a)) none none = some v')) ∧ RowE M v' ((l.drop a).take (b - a)).length (((l.drop a).take (b - a)).flatMap prC) 58 := by
  have hi : ∃ i, Try.prog.info? 58 = some i ∧ i.size = 2 := Option.map_eq_some_iff.1 (show (Try.prog.info? 58).map (·.size) = some 2 by kernel_rfl)
  obtain ⟨i, hi, hs⟩ := hi
  obtain ⟨v', h3, h4⟩ := h.slice (P := Try.prog) (t := 41) un_41 hi hs (flatMap_len prC_len l) h1 h2
  refine ⟨v', h3, ?_⟩
  rw [flatMap_drop prC_len, flatMap_take prC_len] at h4
  rw [show ((l.drop a).take (b - a)).length = b - a by rw [List.length_take, List.length_drop]; omega]
  exact h4
theorem slice_kd {M : Mem} {v : Value} {l : List Kd} (h : RowE M v l.length (l.flatMap kdC) 60) {a b : Nat} (h1 : a ≤ b) (h2 : b ≤ l.length) :
    ∃ v', (∀ M1, Grew M M1 → sliceV Try.prog M1.get 42 v (some (.int .i64 a)) (some (.int .i64 b)) none = some v' ∧ (a = 0 → sliceV Try.prog M1.get 42 v none (some (.int .i64 b)) none = some v') ∧ (b = l.length → sliceV Try.prog M1.get 42 v (some (.int .i64 a)) none none = some v')) ∧ RowE M v' ((l.drop a).take (b - a)).length (((l.drop a).take (b - a)).flatMap kdC) 60 := by
  have hi : ∃ i, Try.prog.info? 60 = some i ∧ i.size = 3 := Option.map_eq_some_iff.1 (show (Try.prog.info? 60).map (·.size) = some 3 by kernel_rfl)
  obtain ⟨i, hi, hs⟩ := hi
  obtain ⟨v', h3, h4⟩ := h.slice (P := Try.prog) (t := 42) un_42 hi hs (flatMap_len kdC_len l) h1 h2
  refine ⟨v', h3, ?_⟩
  rw [flatMap_drop kdC_len, flatMap_take kdC_len] at h4
  rw [show ((l.drop a).take (b - a)).length = b - a by rw [List.length_take, List.length_drop]; omega]
  exact h4
theorem mem_part {α : Type} {l : List α} {a b : Nat} {x : α} (h : x ∈ (l.drop a).take b) : x ∈ l := List.mem_of_mem_drop (List.mem_of_mem_take h)

theorem bd_44 (b : Bool) : buildV Try.prog 44 [(0, .bool b)] = some (.agg #[.bool b, .slice none 0 0, .slice none 0 0]) := by rfl
theorem bd_44z : buildV Try.prog 44 [] = some (.agg #[.bool false, .slice none 0 0, .slice none 0 0]) := by rfl
/-- a node's things from a place to a place -/
def partN (n : Node) (a b : Nat) : Node := if n.leaf then ⟨true, (n.pairs.drop a).take (b - a), []⟩ else ⟨false, [], (n.kids.drop a).take (b - a)⟩
def zN : List Value := [.bool false, .slice none 0 0, .slice none 0 0]

theorem part89_spec (n : Node) (vp vk : Value) (a b : Nat) (M : Mem) (hok : Ok M) (hr : NodeR M n vp vk) (hE : NodeE M n vp vk) (hab : a < b) (hb : b ≤ if n.leaf then n.pairs.length else n.kids.length) (hlp : n.pairs.length ≤ 1000) (hlk : n.kids.length ≤ 1000) :
    ∃ r M', ACall Try.prog 89 #[.agg (nodeC n.leaf vp vk).toArray, .int .i64 a, .int .i64 b] M r M' ∧ Grew M M' ∧ ∃ wp wk, r = .agg (nodeC (partN n a b).leaf wp wk).toArray ∧ NewN M M' (partN n a b) wp wk := by
  refine ACall.fin (args := [.agg (nodeC n.leaf vp vk).toArray, .int .i64 a, .int .i64 b]) (k := 32) (rs := [.cell 6 44]) Try.func89 rfl rfl rfl (Nat.le_of_ble_eq_true rfl) ?_
  refine AWP.stepR [1, 2, 3, 6] fun K hK => ?_
  simp only [go_sem, Nat.reduceEqDiff, Nat.reduceLT, Nat.reduceAdd, Nat.reduceMul, Nat.reduceSub, Nat.add_zero, Nat.zero_add, Int.reduceEq, Int.reduceLT]
  refine hK _ _ _ (by simp only [go_sem, Nat.reduceEqDiff, Nat.reduceLT, Nat.reduceAdd, Nat.reduceMul, Nat.reduceSub, Nat.add_zero, Nat.zero_add, Int.reduceEq, Int.reduceLT]; rfl) ?_; clear hK
  have hlt1 : M.next < (M.bump 2).next := by rw [Mem.next_bump]; omega
  have hlt2 : M.next + 1 < (M.bump 2).next := by rw [Mem.next_bump]; omega
  obtain ⟨hg1, hh1⟩ := mk_put ((Grew.refl M).bump 2) (Nat.le_refl _) hlt1 ⟨nodeC n.leaf vp vk, 44, true⟩
  obtain ⟨hg2, hh2⟩ := mk_put hg1 (show M.next ≤ M.next + 1 by omega) (show M.next + 1 < ((M.bump 2).put M.next ⟨nodeC n.leaf vp vk, 44, true⟩).next from hlt2) ⟨zN, 44, true⟩
  have hh1 := hh1.put' (show M.next ≠ M.next + 1 by omega) ⟨zN, 44, true⟩
  change AWP _ _ _ ⟨_, ((M.bump 2).put M.next ⟨nodeC n.leaf vp vk, 44, true⟩).put (M.next + 1) ⟨zN, 44, true⟩⟩ _
  clear hg1
  have hnx1 : (((M.bump 2).put M.next ⟨nodeC n.leaf vp vk, 44, true⟩).put (M.next + 1) ⟨zN, 44, true⟩).next = M.next + 2 := rfl
  generalize ((M.bump 2).put M.next ⟨nodeC n.leaf vp vk, 44, true⟩).put (M.next + 1) ⟨zN, 44, true⟩ = M1 at hg2 hh1 hh2 hnx1
  have hlt3 : M1.next < (M1.bump 1).next := Nat.lt_succ_self _
  refine AWP.stepR [1, 2, 3, 6, 7] fun K hK => ?_
  simp only [go_sem, Nat.reduceEqDiff, Nat.reduceLT, Nat.reduceAdd, Nat.reduceMul, Nat.reduceSub, Nat.add_zero, Nat.zero_add, Int.reduceEq, Int.reduceLT, ld_4, hh1.ld, nodeC, bd_44, st_fresh (M := M1.bump 1) (i := M1.next) (n := 3) (old := [.bool false, .slice none 0 0, .slice none 0 0]) (vs := [.bool n.leaf, .slice none 0 0, .slice none 0 0]) (e := 44) rfl rfl rfl]
  refine hK _ _ _ (by simp only [go_sem, Nat.reduceEqDiff, Nat.reduceLT, Nat.reduceAdd, Nat.reduceMul, Nat.reduceSub, Nat.add_zero, Nat.zero_add, Int.reduceEq, Int.reduceLT]; rfl) ?_; clear hK
  have hg4 := (((Grew.refl M1).bump 1).put (Nat.le_refl _) hlt3 ⟨zN, 44, true⟩).put (Nat.le_refl _) hlt3 ⟨nodeC n.leaf (.slice none 0 0) (.slice none 0 0), 44, true⟩
  have hh4 : Has (((M1.bump 1).put M1.next ⟨zN, 44, true⟩).put M1.next ⟨nodeC n.leaf (.slice none 0 0) (.slice none 0 0), 44, true⟩) M1.next ⟨nodeC n.leaf (.slice none 0 0) (.slice none 0 0), 44, true⟩ := Has.put (M := (M1.bump 1).put M1.next ⟨zN, 44, true⟩) hlt3 _
  change AWP _ _ _ ⟨_, ((M1.bump 1).put M1.next ⟨zN, 44, true⟩).put M1.next ⟨nodeC n.leaf (.slice none 0 0) (.slice none 0 0), 44, true⟩⟩ _
  generalize ((M1.bump 1).put M1.next ⟨zN, 44, true⟩).put M1.next ⟨nodeC n.leaf (.slice none 0 0) (.slice none 0 0), 44, true⟩ = M2 at hg4 hh4
  have hh1 := hh1.grew hg4
  have hh2 := hh2.grew hg4
  have hgM := hg2.trans hg4
  have hr2 := hr.grew hgM
  refine AWP.seq ?_
  refine AWP.stepR [1, 2, 3, 6, 7, 12] fun K hK => ?_
  simp only [go_sem, Nat.reduceEqDiff, Nat.reduceLT, Nat.reduceAdd, Nat.reduceMul, Nat.reduceSub, Nat.add_zero, Nat.zero_add, Int.reduceEq, Int.reduceLT, ld_4, hh1.ld, nodeC]
  refine hK _ _ _ (by simp only [go_sem, Nat.reduceEqDiff, Nat.reduceLT, Nat.reduceAdd, Nat.reduceMul, Nat.reduceSub, Nat.add_zero, Nat.zero_add, Int.reduceEq, Int.reduceLT]; rfl) ?_; clear hK
  refine AWP.cond_split rfl (fun h12 => ?_) fun h12 => ?_
  · rw [h12] at hb hh4
    simp only [if_true] at hb
    have hE2 := (hE.pairs).resolve_left (by rintro hh; rw [hh] at hb; simp at hb; omega)
    obtain ⟨w, hsl, hwE⟩ := slice_pr hE2 (Nat.le_of_lt hab) hb
    have hsl := (hsl M2 hgM).1
    have hpn : partN n a b = ⟨true, (n.pairs.drop a).take (b - a), []⟩ := by rw [partN, h12]; rfl
    rw [hpn]
    generalize hpart : (n.pairs.drop a).take (b - a) = part at hwE
    have hpl : part.length ≤ 1000 := by rw [← hpart, List.length_take, List.length_drop]; omega
    obtain ⟨v2, M3, happ, ho3, hg3, hnx3, hfr⟩ := Own.append ap_41_41 (Grew.refl M2) (Own.nil M2 M2 58) rfl ((hwE.grew hgM).row.content (flatMap_len prC_len part)) (flatMap_ones fun p hp => prC_one (hr2.pk p (mem_part (hpart ▸ hp))) (hr2.pv p (mem_part (hpart ▸ hp)))) (by omega)
    rw [Nat.zero_add, List.nil_append] at ho3
    have hh43 := hh4.grew hg3
    have hlt4 : M1.next < M3.next := hh43.2
    refine AWP.oneD' hmo [0, 1, 2, 3, 4, 5, 6, 7, 8, 9] [0, 1, 0, 4, 0, 0, 60, 127, 255, 511] [] [] (by kernel_rfl) fun K hK => ?_
    simp only [go_sem, Nat.reduceEqDiff, Nat.reduceLT, Nat.reduceAdd, Nat.reduceMul, Nat.reduceSub, Nat.add_zero, Nat.zero_add, Int.reduceEq, Int.reduceLT, ld_41, hh4.ld, hh1.ld, nodeC, Option.map_some, hsl, happ, st_41, st_cell hh43 rfl (show 1 < 3 by decide) ho3.one]
    refine hK _ _ ?_; clear hK
    have hg5 : Grew M (M3.put M1.next ⟨[.bool true, v2, .slice none 0 0], 44, true⟩) := (hgM.trans hg3).put (by omega) hlt4 _
    have hh5 : Has (M3.put M1.next ⟨[.bool true, v2, .slice none 0 0], 44, true⟩) M1.next ⟨[.bool true, v2, .slice none 0 0], 44, true⟩ := Has.put hlt4 _
    have hh25 : Has (M3.put M1.next ⟨[.bool true, v2, .slice none 0 0], 44, true⟩) (M.next + 1) ⟨zN, 44, true⟩ := (hh2.grew hg3).put' (by omega) _
    have ho5 : Own M2 (M3.put M1.next ⟨[.bool true, v2, .slice none 0 0], 44, true⟩) v2 part.length (part.flatMap prC) 58 := ho3.putA hh4.2 _
    change AWP _ _ _ ⟨_, M3.put M1.next ⟨[.bool true, v2, .slice none 0 0], 44, true⟩⟩ _
    generalize M3.put M1.next ⟨[.bool true, v2, .slice none 0 0], 44, true⟩ = M5 at hg5 hh5 hh25 ho5
    have hnew : NewN M2 M5 ⟨true, part, []⟩ v2 (.slice none 0 0) := ⟨ho5, Own.nil _ _ _⟩
    refine AWP.stepR [6] fun K hK => ?_
    simp only [go_sem, Nat.reduceEqDiff, Nat.reduceLT, Nat.reduceAdd, Nat.reduceMul, Nat.reduceSub, Nat.add_zero, Nat.zero_add, Int.reduceEq, Int.reduceLT, ld_44, hh5.lda (show ([.bool true, v2, .slice none 0 0] : List Value).length = 3 from rfl), st_44, st_all (n := 3) (vs := [.bool true, v2, .slice none 0 0]) hh25 rfl rfl rfl (hnew.one true)]
    refine hK _ _ _ (by simp only [go_sem, Nat.reduceEqDiff, Nat.reduceLT, Nat.reduceAdd, Nat.reduceMul, Nat.reduceSub, Nat.add_zero, Nat.zero_add, Int.reduceEq, Int.reduceLT]; rfl) ?_; clear hK
    have hg6 : Grew M (M5.put (M.next + 1) ⟨[.bool true, v2, .slice none 0 0], 44, true⟩) := hg5.put (by omega) hh25.2 _
    have hh6 : Has (M5.put (M.next + 1) ⟨[.bool true, v2, .slice none 0 0], 44, true⟩) (M.next + 1) ⟨[.bool true, v2, .slice none 0 0], 44, true⟩ := Has.put hh25.2 _
    refine AWP.ret (?_)
    refine Fin.keep (v := .agg (nodeC true v2 (.slice none 0 0)).toArray) (.inr rfl) (by simp only [go_sem, Nat.reduceEqDiff, Nat.reduceLT, Nat.reduceAdd, Nat.reduceMul, Nat.reduceSub, Nat.add_zero, Nat.zero_add, Int.reduceEq, Int.reduceLT, retV, resV, ld_44, hh6.lda (show ([.bool true, v2, .slice none 0 0] : List Value).length = 3 from rfl)]; rfl) ⟨hg6, v2, .slice none 0 0, rfl, ?_⟩
    have hnew6 := (hnew.put (show M.next + 1 < M2.next from hh2.2) ⟨[.bool true, v2, .slice none 0 0], 44, true⟩).base hgM.next
    exact hnew6
  · rw [h12] at hb hh4
    simp only [Bool.false_eq_true, if_false] at hb
    have hE2 := (hE.kids).resolve_left (by rintro hh; rw [hh] at hb; simp at hb; omega)
    obtain ⟨w, hsl, hwE⟩ := slice_kd hE2 (Nat.le_of_lt hab) hb
    have hsl := (hsl M2 hgM).1
    have hpn : partN n a b = ⟨false, [], (n.kids.drop a).take (b - a)⟩ := by rw [partN, h12]; rfl
    rw [hpn]
    generalize hpart : (n.kids.drop a).take (b - a) = part at hwE
    have hpl : part.length ≤ 1000 := by rw [← hpart, List.length_take, List.length_drop]; omega
    obtain ⟨v2, M3, happ, ho3, hg3, hnx3, hfr⟩ := Own.append ap_42_42 (Grew.refl M2) (Own.nil M2 M2 60) rfl ((hwE.grew hgM).row.content (flatMap_len kdC_len part)) (flatMap_ones fun p hp => kdC_one (hr2.kk p (mem_part (hpart ▸ hp)))) (by omega)
    rw [Nat.zero_add, List.nil_append] at ho3
    have hh43 := hh4.grew hg3
    have hlt4 : M1.next < M3.next := hh43.2
    refine AWP.oneD' hmo [0, 1, 2, 3, 4, 5, 6, 7, 8, 9] [0, 1, 0, 4, 0, 0, 60, 127, 255, 511] [] [] (by kernel_rfl) fun K hK => ?_
    simp only [go_sem, Nat.reduceEqDiff, Nat.reduceLT, Nat.reduceAdd, Nat.reduceMul, Nat.reduceSub, Nat.add_zero, Nat.zero_add, Int.reduceEq, Int.reduceLT, ld_42, hh4.ld, hh1.ld, nodeC, Option.map_some, hsl, happ, st_42, st_cell hh43 rfl (show 2 < 3 by decide) ho3.one]
    refine hK _ _ ?_; clear hK
    have hg5 : Grew M (M3.put M1.next ⟨[.bool false, .slice none 0 0, v2], 44, true⟩) := (hgM.trans hg3).put (by omega) hlt4 _
    have hh5 : Has (M3.put M1.next ⟨[.bool false, .slice none 0 0, v2], 44, true⟩) M1.next ⟨[.bool false, .slice none 0 0, v2], 44, true⟩ := Has.put hlt4 _
    have hh25 : Has (M3.put M1.next ⟨[.bool false, .slice none 0 0, v2], 44, true⟩) (M.next + 1) ⟨zN, 44, true⟩ := (hh2.grew hg3).put' (by omega) _
    have ho5 : Own M2 (M3.put M1.next ⟨[.bool false, .slice none 0 0, v2], 44, true⟩) v2 part.length (part.flatMap kdC) 60 := ho3.putA hh4.2 _
    change AWP _ _ _ ⟨_, M3.put M1.next ⟨[.bool false, .slice none 0 0, v2], 44, true⟩⟩ _
    generalize M3.put M1.next ⟨[.bool false, .slice none 0 0, v2], 44, true⟩ = M5 at hg5 hh5 hh25 ho5
    have hnew : NewN M2 M5 ⟨false, [], part⟩ (.slice none 0 0) v2 := ⟨Own.nil _ _ _, ho5⟩
    refine AWP.stepR [6] fun K hK => ?_
    simp only [go_sem, Nat.reduceEqDiff, Nat.reduceLT, Nat.reduceAdd, Nat.reduceMul, Nat.reduceSub, Nat.add_zero, Nat.zero_add, Int.reduceEq, Int.reduceLT, ld_44, hh5.lda (show ([.bool false, .slice none 0 0, v2] : List Value).length = 3 from rfl), st_44, st_all (n := 3) (vs := [.bool false, .slice none 0 0, v2]) hh25 rfl rfl rfl (hnew.one false)]
    refine hK _ _ _ (by simp only [go_sem, Nat.reduceEqDiff, Nat.reduceLT, Nat.reduceAdd, Nat.reduceMul, Nat.reduceSub, Nat.add_zero, Nat.zero_add, Int.reduceEq, Int.reduceLT]; rfl) ?_; clear hK
    have hg6 : Grew M (M5.put (M.next + 1) ⟨[.bool false, .slice none 0 0, v2], 44, true⟩) := hg5.put (by omega) hh25.2 _
    have hh6 : Has (M5.put (M.next + 1) ⟨[.bool false, .slice none 0 0, v2], 44, true⟩) (M.next + 1) ⟨[.bool false, .slice none 0 0, v2], 44, true⟩ := Has.put hh25.2 _
    refine AWP.ret (?_)
    refine Fin.keep (v := .agg (nodeC false (.slice none 0 0) v2).toArray) (.inr rfl) (by simp only [go_sem, Nat.reduceEqDiff, Nat.reduceLT, Nat.reduceAdd, Nat.reduceMul, Nat.reduceSub, Nat.add_zero, Nat.zero_add, Int.reduceEq, Int.reduceLT, retV, resV, ld_44, hh6.lda (show ([.bool false, .slice none 0 0, v2] : List Value).length = 3 from rfl)]; rfl) ⟨hg6, .slice none 0 0, v2, rfl, ?_⟩
    have hnew6 := (hnew.put (show M.next + 1 < M2.next from hh2.2) ⟨[.bool false, .slice none 0 0, v2], 44, true⟩).base hgM.next
    exact hnew6
end Go.Proofs.Ythheaehpnleiaaa.AX
