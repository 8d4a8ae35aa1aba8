/- A reader of bytes: its state, what it takes. -/
import Derived.Test.YthheaehpnleiaaaNodePuts11
import Derived.Test.YthheaehpnleiaaaNodePuts6
namespace Go.Proofs.Ythheaehpnleiaaa.AX
open Go Go.Proofs
set_option maxRecDepth 100000
set_option linter.unusedVariables false
set_option linter.unusedSimpArgs false

theorem st_cellX {M : Mem} {i o : Nat} {blk : Blk} {v : Value} (h : Has M i blk) (hrw : blk.rw = true) (ho : o < blk.cells.length) (hv : v.oneCell' = true) : stV M i o 1 v = some (M.put i ⟨blk.cells.set o v, blk.elem, blk.rw⟩) := by
  rw [stV_at h.1, one_cells hv, if_pos ⟨hrw, rfl, by simp [oneCells, hv], by omega⟩]
  congr 2
  have : splice blk.cells o [v] = blk.cells.set o v := by
    apply List.ext_getElem?
    intro j
    rw [splice_get (by simp; omega), List.getElem?_set]
    by_cases hj : o = j
    · subst hj; simp [ho]
    · rw [if_neg (by simp; omega), if_neg hj]
  simp [this]
theorem st_allX {M : Mem} {i n : Nat} {blk : Blk} {vs : List Value} (h : Has M i blk) (hrw : blk.rw = true) (hl : blk.cells.length = n) (hv : vs.length = n) (ho : oneCells vs = true) : stV M i 0 n (.agg vs.toArray) = some (M.put i ⟨vs, blk.elem, blk.rw⟩) := by
  rw [stV_at h.1, if_pos ⟨hrw, by simpa [Value.cells] using hv, by simpa [Value.cells] using ho, by omega⟩]
  have : splice blk.cells 0 vs = vs := by simp [splice, hl, hv]
  simp only [Value.cells, this]

/-! ### a memory in which one elder block may be another one -/
structure GrewX (p : Nat) (M M1 : Mem) : Prop where
  keep : ∀ i, i < M.next → i ≠ p → M1.get i = M.get i
  next : M.next ≤ M1.next
  ok : Ok M → Ok M1
theorem Grew.x {M M1 : Mem} (h : Grew M M1) (p : Nat) : GrewX p M M1 := ⟨fun i hi _ => h.keep i hi, h.next, h.ok⟩
theorem GrewX.trans {p : Nat} {M M1 M2 : Mem} (h : GrewX p M M1) (h' : GrewX p M1 M2) : GrewX p M M2 := ⟨fun i hi hp => (h'.keep i (Nat.lt_of_lt_of_le hi h.next) hp).trans (h.keep i hi hp), Nat.le_trans h.next h'.next, fun hok => h'.ok (h.ok hok)⟩
theorem GrewX.refl (p : Nat) (M : Mem) : GrewX p M M := (Grew.refl M).x p
theorem GrewX.put {p : Nat} {M M1 : Mem} (h : GrewX p M M1) (hp : p < M1.next) (b : Blk) : GrewX p M (M1.put p b) := ⟨fun j hj hjp => by rw [Mem.get_put, if_neg hjp]; exact h.keep j hj hjp, h.next, fun hok j b' hj => by
  rw [Mem.get_put] at hj
  by_cases hji : j = p
  · rw [hji]; exact hp
  · rw [if_neg hji] at hj; exact h.ok hok j b' hj⟩
/-- what stood there ahead of the block stays -/
theorem GrewX.grew {p : Nat} {M0 M M1 : Mem} (h0 : Grew M0 M) (h : GrewX p M M1) (hp : M0.next ≤ p) : Grew M0 M1 :=
  ⟨fun i hi => (h.keep i (Nat.lt_of_lt_of_le hi h0.next) (by omega)).trans (h0.keep i hi), Nat.le_trans h0.next h.next, fun hok => h.ok (h0.ok hok)⟩
theorem Has.x {p : Nat} {M M1 : Mem} {i : Nat} {b : Blk} (h : Has M i b) (hg : GrewX p M M1) (hi : i ≠ p) : Has M1 i b := ⟨(hg.keep i h.2 hi).trans h.1, Nat.lt_of_lt_of_le h.2 hg.next⟩
theorem Row_.x {p : Nat} {M M1 : Mem} {v : Value} {n : Nat} {cells : List Value} (h : Row_ M v n cells) (hg : GrewX p M M1) (ha : Apart v p) : Row_ M1 v n cells := by
  rcases h with h | ⟨b, o, c, blk, h1, h2, h3⟩
  · exact .inl h
  · exact .inr ⟨b, o, c, blk, h1, h2.x hg (by rintro rfl; exact ha _ _ _ h1), h3⟩
theorem RowE.x {p : Nat} {M M1 : Mem} {v : Value} {n : Nat} {cells : List Value} {e : TypeId} (h : RowE M v n cells e) (hg : GrewX p M M1) (ha : Apart v p) : RowE M1 v n cells e := by
  obtain ⟨b, o, c, blk, h1, h0, h2, h3⟩ := h
  exact ⟨b, o, c, blk, h1, h0, h2.x hg (by rintro rfl; exact ha _ _ _ h1), h3⟩
theorem Apart.nil (j : Nat) : Apart (.slice none 0 0) j := fun o n c h => by cases h

/-! ### parts of a row of bytes -/
theorem slice_23 {M : Mem} {v : Value} {l : List Int} (h : RowE M v l.length (cB l) 5) {k : Nat} (hk : k ≤ l.length) :
    (∃ v', sliceV Try.prog M.get 23 v none (some (.int .i64 k)) (some (.int .i64 k)) = some v' ∧ RowE M v' (l.take k).length (cB (l.take k)) 5 ∧ ∀ p, Apart v p → Apart v' p) ∧
    ∃ v', sliceV Try.prog M.get 23 v (some (.int .i64 k)) none none = some v' ∧ RowE M v' (l.drop k).length (cB (l.drop k)) 5 ∧ ∀ p, Apart v p → Apart v' p := by
  obtain ⟨i, hi, hs⟩ := Option.map_eq_some_iff.1 (show (Try.prog.info? 5).map (·.size) = some 1 by kernel_rfl)
  have ht : Try.prog.underlying 23 = some (.slice 5) := by kernel_rfl
  obtain ⟨b, o, c, blk, rfl, hcn, hb, he, h4, h5⟩ := h
  have hcs : Try.prog.cellsOf blk.elem = i.size := by rw [he]; exact cellsOf_eq hi
  rw [cB_length] at h4 h5
  have hapart : ∀ o' n' c' p, Apart (.slice (some ⟨b, o, none⟩) l.length c) p → Apart (.slice (some ⟨b, o', none⟩) n' c') p := fun o' n' c' p ha o2 n2 c2 h => by
    injection h with h1 _ _
    injection h1 with h1
    injection h1 with h1 _ _
    subst h1
    exact ha o l.length c rfl
  have hbk : ∀ y, k ≤ y → boundV (some (.int .i64 (k : Int))) 0 y = some k := fun y hy => by
    simp only [boundV]; rw [if_pos ⟨by omega, by omega⟩]; simp
  have hbk2 : ∀ z y, k ≤ y → boundV (some (.int .i64 (k : Int))) z y = some k := fun z y hy => by
    simp only [boundV]; rw [if_pos ⟨by omega, by omega⟩]; simp
  refine ⟨⟨.slice (some ⟨b, o, none⟩) k k, ?_, ⟨b, o, k, blk, by rw [List.length_take, Nat.min_eq_left hk], .inr (by rw [List.length_take]; omega), hb, he, ?_, ?_⟩, hapart _ _ _⟩,
    .slice (some ⟨b, o + k, none⟩) (l.length - k) (if c = unk then unk else c - k), ?_, ⟨b, o + k, _, blk, by rw [List.length_drop], by rw [List.length_drop]; split <;> omega, hb, he, ?_, ?_⟩, hapart _ _ _⟩
  · simp only [sliceV, ht, hb.1, hi, hcs, Option.isSome_some, Option.isNone_some, Option.isNone_none, Bool.false_eq_true, and_false, not_false_eq_true, and_self, if_true, true_and, false_and, if_false]
    rw [hbk2 _ (if c = unk then l.length else c) (by split <;> omega)]
    simp only
    rw [hbk2 _ k (Nat.le_refl _)]
    simp only [show boundV none 0 k = some 0 from rfl]
    simp
  · rw [cB_length, List.length_take]; omega
  · rw [cB_length, List.length_take, Nat.min_eq_left hk]
    have := congrArg (List.take k) h5
    rw [List.take_take, Nat.min_eq_left hk] at this
    rw [this, cB, cB, List.map_take]
  · simp only [sliceV, ht, hb.1, hi, hcs, Option.isSome_none, Option.isNone_none, Bool.false_eq_true, false_and, not_false_eq_true, and_self, if_true, true_and]
    rw [show boundV none (if c = unk then l.length else c) (if c = unk then l.length else c) = some (if c = unk then l.length else c) from rfl]
    simp only [show ∀ y, boundV none l.length y = some l.length from fun _ => rfl, hbk l.length hk, hs, Nat.mul_one]
    congr 1
    split <;> simp_all
  · rw [cB_length, List.length_drop]; omega
  · rw [cB_length, List.length_drop]
    have := congrArg (List.drop k) h5
    rw [List.drop_take, List.drop_drop] at this
    rw [this, cB, cB, List.map_drop]

/-! ### a reader -/
structure Rs where
  b : List Int
  code : Int
/-- a reader's state lies there -/
def RdS (M : Mem) (p : Nat) (D : Nat → Prop) (s : Rs) : Prop := ∃ vb, Has M p ⟨[vb, .int .i64 s.code], 123, true⟩ ∧ RowE M vb s.b.length (cB s.b) 5 ∧ D p ∧ ∀ j, D j → Apart vb j
def takeS (s : Rs) (k : Int) : Rs × List Int := if s.code = 0 then (if k < 0 ∨ k > s.b.length then (⟨s.b, 3⟩, []) else (⟨s.b.drop k.toNat, 0⟩, s.b.take k.toNat)) else (s, [])
theorem RdS.grew {M M1 : Mem} {p : Nat} {D : Nat → Prop} {s : Rs} (h : RdS M p D s) (hg : Grew M M1) : RdS M1 p D s := by
  obtain ⟨vb, h1, h2, h3⟩ := h
  exact ⟨vb, h1.grew hg, h2.grew hg, h3⟩
theorem RdS.lt {M : Mem} {p : Nat} {D : Nat → Prop} {s : Rs} (h : RdS M p D s) : p < M.next := by obtain ⟨vb, h1, _⟩ := h; exact h1.2
theorem take90_spec (p : Nat) (D : Nat → Prop) (s : Rs) (k : Int) (M : Mem) (hs : RdS M p D s) (hl : s.b.length ≤ 4611686018427387904) :
    ∃ r M', ACall Try.prog 90 #[.pointer (some ⟨p, 0, none⟩), .int .i64 k] M r M' ∧ GrewX p M M' ∧ RdS M' p D (takeS s k).1 ∧ RowB M' r (takeS s k).2 ∧ Apart r p := by
  obtain ⟨vb, hh, hv, hDp, hD⟩ := hs
  have hap := hD p hDp
  obtain ⟨bs, code⟩ := s
  simp only at hh hv hl
  refine ACall.fin (args := [.pointer (some ⟨p, 0, none⟩), .int .i64 k]) (k := 49) (rs := [.tmp 4]) Try.func90 rfl rfl rfl (Nat.le_of_ble_eq_true rfl) ?_
  refine AWP.stepR [0, 1] fun K hK => ?_
  simp only [go_sem, Nat.reduceEqDiff, Nat.reduceLT, Nat.reduceAdd, Nat.reduceMul, Nat.reduceSub, Nat.add_zero, Nat.zero_add, Int.reduceEq, Int.reduceLT]
  refine hK _ _ _ (by simp only [go_sem, Nat.reduceEqDiff, Nat.reduceLT, Nat.reduceAdd, Nat.reduceMul, Nat.reduceSub, Nat.add_zero, Nat.zero_add, Int.reduceEq, Int.reduceLT]; rfl) ?_; clear hK
  refine AWP.seq ?_
  obtain ⟨bad, hbd⟩ : ∃ bad, decide (code = 0 ∧ (k < 0 ∨ k > bs.length)) = bad := ⟨_, rfl⟩
  refine AWP.stepX [0, 1, 23] [(0, .pointer (some ⟨p, 0, none⟩)), (1, .int .i64 k), (23, .bool bad)] M (fun K hK => ?_) ?_
  · by_cases hc : code = 0
    · subst hc
      by_cases hk : k < 0
      · simp only [go_sem, Nat.reduceEqDiff, Nat.reduceLT, Nat.reduceAdd, Nat.reduceMul, Nat.reduceSub, Nat.add_zero, Nat.zero_add, Int.reduceEq, Int.reduceLT, ld_22, hh.ld, decide_eq_true hk, show ((0 : Int) == 0) = true from rfl]
        refine hK _ ?_
        simp only [go_sem, Nat.reduceEqDiff, Nat.reduceLT, Nat.reduceAdd, Nat.reduceMul, Nat.reduceSub, Nat.add_zero, Nat.zero_add, Int.reduceEq, Int.reduceLT]
        rw [← hbd, decide_eq_true (show (0 : Int) = 0 ∧ (k < 0 ∨ k > bs.length) from ⟨rfl, .inl hk⟩)]
      · simp only [go_sem, Nat.reduceEqDiff, Nat.reduceLT, Nat.reduceAdd, Nat.reduceMul, Nat.reduceSub, Nat.add_zero, Nat.zero_add, Int.reduceEq, Int.reduceLT, ld_22, ld_23, hh.ld, decide_eq_false hk, show ((0 : Int) == 0) = true from rfl, hv.row.len es_23]
        refine hK _ ?_
        simp only [go_sem, Nat.reduceEqDiff, Nat.reduceLT, Nat.reduceAdd, Nat.reduceMul, Nat.reduceSub, Nat.add_zero, Nat.zero_add, Int.reduceEq, Int.reduceLT]
        rw [← hbd, decide_eq_decide.2 (show (k > bs.length) ↔ ((0 : Int) = 0 ∧ (k < 0 ∨ k > bs.length)) from ⟨fun h => ⟨rfl, .inr h⟩, fun h => h.2.resolve_left hk⟩)]
    · simp only [go_sem, Nat.reduceEqDiff, Nat.reduceLT, Nat.reduceAdd, Nat.reduceMul, Nat.reduceSub, Nat.add_zero, Nat.zero_add, Int.reduceEq, Int.reduceLT, ld_22, hh.ld, show (code == 0) = false by simp [hc]]
      refine hK _ ?_
      simp only [go_sem, Nat.reduceEqDiff, Nat.reduceLT, Nat.reduceAdd, Nat.reduceMul, Nat.reduceSub, Nat.add_zero, Nat.zero_add, Int.reduceEq, Int.reduceLT]
      rw [← hbd, decide_eq_false (show ¬ (code = 0 ∧ (k < 0 ∨ k > bs.length)) from fun h => hc h.1)]
  by_cases hbad : code = 0 ∧ (k < 0 ∨ k > bs.length)
  · rw [← hbd, decide_eq_true hbad]
    refine AWP.cond_split rfl (fun h23 => ?_) fun h23 => ?_
    · have fs := st_cellX (o := 1) (v := .int .i64 3) hh rfl (show 1 < 2 by decide) rfl
      have fs : stV M p 1 1 (.int .i64 3) = some (M.put p ⟨[vb, .int .i64 3], 123, true⟩) := fs
      refine AWP.lastR fun K hK => ?_
      simp only [go_sem, Nat.reduceEqDiff, Nat.reduceLT, Nat.reduceAdd, Nat.reduceMul, Nat.reduceSub, Nat.add_zero, Nat.zero_add, Int.reduceEq, Int.reduceLT, st_22, fs]
      refine hK _ _ ?_; clear hK
      have hh2 : Has (M.put p ⟨[vb, .int .i64 3], 123, true⟩) p ⟨[vb, .int .i64 3], 123, true⟩ := Has.put hh.2 _
      have hg2 : GrewX p M (M.put p ⟨[vb, .int .i64 3], 123, true⟩) := (GrewX.refl p M).put hh.2 _
      refine AWP.seq ?_
      refine AWP.stepR [0, 1, 31] fun K hK => ?_
      simp only [go_sem, Nat.reduceEqDiff, Nat.reduceLT, Nat.reduceAdd, Nat.reduceMul, Nat.reduceSub, Nat.add_zero, Nat.zero_add, Int.reduceEq, Int.reduceLT, ld_22, hh2.ld, show ((3 : Int) != 0) = true from rfl]
      refine hK _ _ _ (by simp only [go_sem, Nat.reduceEqDiff, Nat.reduceLT, Nat.reduceAdd, Nat.reduceMul, Nat.reduceSub, Nat.add_zero, Nat.zero_add, Int.reduceEq, Int.reduceLT]; rfl) ?_; clear hK
      refine AWP.cond_split rfl (fun h31 => ?_) fun h31 => ?_
      · refine AWP.stepR [4] fun K hK => ?_
        simp only [go_sem, Nat.reduceEqDiff, Nat.reduceLT, Nat.reduceAdd, Nat.reduceMul, Nat.reduceSub, Nat.add_zero, Nat.zero_add, Int.reduceEq, Int.reduceLT]
        refine hK _ _ _ (by simp only [go_sem, Nat.reduceEqDiff, Nat.reduceLT, Nat.reduceAdd, Nat.reduceMul, Nat.reduceSub, Nat.add_zero, Nat.zero_add, Int.reduceEq, Int.reduceLT]; rfl) ?_; clear hK
        refine AWP.ret (Then.ret (?_))
        refine Fin.keep (.inr rfl) rfl ⟨hg2, ?_⟩
        have e : takeS ⟨bs, code⟩ k = (⟨bs, 3⟩, []) := by rw [takeS, if_pos hbad.1, if_pos hbad.2]
        rw [e]
        exact ⟨⟨vb, hh2, hv.x hg2 hap, hDp, hD⟩, Row_.nil _, Apart.nil p⟩
      · cases h31
    · cases h23
  · rw [← hbd, decide_eq_false hbad]
    refine AWP.cond_split rfl (fun h23 => ?_) fun h23 => ?_
    · cases h23
    · refine AWP.skip ?_
      refine AWP.seq ?_
      by_cases hc : code = 0
      · subst hc
        obtain ⟨kn, rfl⟩ : ∃ kn : Nat, k = kn := ⟨k.toNat, by omega⟩
        have hkn : kn ≤ bs.length := by omega
        obtain ⟨⟨v1, f1, hr1, ha1⟩, v2, f2, hr2, ha2⟩ := slice_23 hv hkn
        have fs : stV M p 0 1 v2 = some (M.put p ⟨[v2, .int .i64 0], 123, true⟩) := st_cellX (o := 0) hh rfl (show 0 < 2 by decide) hr2.row.one
        refine AWP.stepR [0, 1, 31] fun K hK => ?_
        simp only [go_sem, Nat.reduceEqDiff, Nat.reduceLT, Nat.reduceAdd, Nat.reduceMul, Nat.reduceSub, Nat.add_zero, Nat.zero_add, Int.reduceEq, Int.reduceLT, ld_22, hh.ld, show ((0 : Int) != 0) = false from rfl]
        refine hK _ _ _ (by simp only [go_sem, Nat.reduceEqDiff, Nat.reduceLT, Nat.reduceAdd, Nat.reduceMul, Nat.reduceSub, Nat.add_zero, Nat.zero_add, Int.reduceEq, Int.reduceLT]; rfl) ?_; clear hK
        refine AWP.cond_split rfl (fun h31 => ?_) fun h31 => ?_
        · cases h31
        · refine AWP.skip ?_
          refine AWP.stepR [0, 1, 5] fun K hK => ?_
          simp only [go_sem, Nat.reduceEqDiff, Nat.reduceLT, Nat.reduceAdd, Nat.reduceMul, Nat.reduceSub, Nat.add_zero, Nat.zero_add, Int.reduceEq, Int.reduceLT, ld_23, hh.ld, Option.map_some, f1]
          refine hK _ _ _ (by simp only [go_sem, Nat.reduceEqDiff, Nat.reduceLT, Nat.reduceAdd, Nat.reduceMul, Nat.reduceSub, Nat.add_zero, Nat.zero_add, Int.reduceEq, Int.reduceLT]; rfl) ?_; clear hK
          refine AWP.stepR [5] fun K hK => ?_
          simp only [go_sem, Nat.reduceEqDiff, Nat.reduceLT, Nat.reduceAdd, Nat.reduceMul, Nat.reduceSub, Nat.add_zero, Nat.zero_add, Int.reduceEq, Int.reduceLT, ld_23, hh.ld, Option.map_some, f2, st_23, fs]
          refine hK _ _ _ (by simp only [go_sem, Nat.reduceEqDiff, Nat.reduceLT, Nat.reduceAdd, Nat.reduceMul, Nat.reduceSub, Nat.add_zero, Nat.zero_add, Int.reduceEq, Int.reduceLT]; rfl) ?_; clear hK
          refine AWP.stepR [4] fun K hK => ?_
          simp only [go_sem, Nat.reduceEqDiff, Nat.reduceLT, Nat.reduceAdd, Nat.reduceMul, Nat.reduceSub, Nat.add_zero, Nat.zero_add, Int.reduceEq, Int.reduceLT]
          refine hK _ _ _ (by simp only [go_sem, Nat.reduceEqDiff, Nat.reduceLT, Nat.reduceAdd, Nat.reduceMul, Nat.reduceSub, Nat.add_zero, Nat.zero_add, Int.reduceEq, Int.reduceLT]; rfl) ?_; clear hK
          have hh2 : Has (M.put p ⟨[v2, .int .i64 0], 123, true⟩) p ⟨[v2, .int .i64 0], 123, true⟩ := Has.put hh.2 _
          have hg2 : GrewX p M (M.put p ⟨[v2, .int .i64 0], 123, true⟩) := (GrewX.refl p M).put hh.2 _
          refine AWP.ret (?_)
          refine Fin.keep (.inr rfl) rfl ⟨hg2, ?_⟩
          have e : takeS ⟨bs, 0⟩ kn = (⟨bs.drop kn, 0⟩, bs.take kn) := by rw [takeS, if_pos rfl, if_neg (by simpa using hbad)]; simp
          rw [e]
          exact ⟨⟨v2, hh2, hr2.x hg2 (ha2 p hap), hDp, fun j hj => ha2 j (hD j hj)⟩, hr1.row.x hg2 (ha1 p hap), ha1 p hap⟩
      · refine AWP.stepR [0, 1, 31] fun K hK => ?_
        simp only [go_sem, Nat.reduceEqDiff, Nat.reduceLT, Nat.reduceAdd, Nat.reduceMul, Nat.reduceSub, Nat.add_zero, Nat.zero_add, Int.reduceEq, Int.reduceLT, ld_22, hh.ld, show (code != 0) = true by simp [hc]]
        refine hK _ _ _ (by simp only [go_sem, Nat.reduceEqDiff, Nat.reduceLT, Nat.reduceAdd, Nat.reduceMul, Nat.reduceSub, Nat.add_zero, Nat.zero_add, Int.reduceEq, Int.reduceLT]; rfl) ?_; clear hK
        refine AWP.cond_split rfl (fun h31 => ?_) fun h31 => ?_
        · refine AWP.stepR [4] fun K hK => ?_
          simp only [go_sem, Nat.reduceEqDiff, Nat.reduceLT, Nat.reduceAdd, Nat.reduceMul, Nat.reduceSub, Nat.add_zero, Nat.zero_add, Int.reduceEq, Int.reduceLT]
          refine hK _ _ _ (by simp only [go_sem, Nat.reduceEqDiff, Nat.reduceLT, Nat.reduceAdd, Nat.reduceMul, Nat.reduceSub, Nat.add_zero, Nat.zero_add, Int.reduceEq, Int.reduceLT]; rfl) ?_; clear hK
          refine AWP.ret (Then.ret (?_))
          refine Fin.keep (.inr rfl) rfl ⟨GrewX.refl p M, ?_⟩
          have e : takeS ⟨bs, code⟩ k = (⟨bs, code⟩, []) := by rw [takeS, if_neg hc]
          rw [e]
          exact ⟨⟨vb, hh, hv, hDp, hD⟩, Row_.nil _, Apart.nil p⟩
        · cases h31
end Go.Proofs.Ythheaehpnleiaaa.AX

/- A reader of bytes: numbers, bytes. -/
namespace Go.Proofs.Ythheaehpnleiaaa.AX
open Go Go.Proofs
set_option maxRecDepth 100000
set_option linter.unusedVariables false
set_option linter.unusedSimpArgs false

def BytB (l : List Int) : Prop := ∀ x, x ∈ l → 0 ≤ x ∧ x < 256
/-- a number of bytes, the highest first -/
def numN (l : List Int) : Int := l.foldl (fun n c => n * 256 + c) 0
theorem numN_nil : numN [] = 0 := rfl
theorem numN_snoc (l : List Int) (c : Int) : numN (l ++ [c]) = numN l * 256 + c := by simp [numN, List.foldl_append]
theorem numN_bound {l : List Int} (h : BytB l) : ∀ n, 0 ≤ numN (l.take n) ∧ numN (l.take n) < 256 ^ (l.take n).length := by
  intro n
  induction n with
  | zero => simp [numN]
  | succ n ih =>
    by_cases hn : n < l.length
    · rw [List.take_succ_eq_append_getElem hn, numN_snoc]
      have := h l[n] (List.getElem_mem hn)
      rw [List.length_append, List.length_singleton, Int.pow_succ]
      omega
    · rw [List.take_of_length_le (by omega)] at ih ⊢; exact ih
theorem u64w {n : Int} (h : 0 ≤ n) (h' : n < 18446744073709551616) : IntKind.u64.wrap n = n := by simp [IntKind.wrap, IntKind.signed, IntKind.bits, IntKind.min, IntKind.max]; omega
theorem pow256 {n : Nat} (h : n ≤ 7) : (256 : Int) ^ n ≤ 72057594037927936 := by
  have : ∀ m, m ≤ 7 → (256 : Int) ^ m ≤ 72057594037927936 := by decide
  exact this n h
theorem or_low (n c : Int) (h0 : 0 ≤ n) (h1 : n < 72057594037927936) (h2 : 0 ≤ c) (h3 : c < 256) : ((BitVec.ofInt 64 (n * 256) ||| BitVec.ofInt 64 c).toNat : Int) = n * 256 + c := by
  rw [BitVec.toNat_or, BitVec.toNat_ofInt, BitVec.toNat_ofInt]
  have e1 : ((n * 256) % ((2 ^ 64 : Nat) : Int)).toNat = 2 ^ 8 * n.toNat := by
    rw [Int.emod_eq_of_lt (by omega) (by norm_cast; omega)]; omega
  have e2 : (c % ((2 ^ 64 : Nat) : Int)).toNat = c.toNat := by
    rw [Int.emod_eq_of_lt (by omega) (by norm_cast; omega)]
  rw [e1, e2, ← Nat.two_pow_add_eq_or_of_lt (by omega)]
  omega

theorem get99_spec (v : Value) (l : List Int) (M : Mem) (hok : Ok M) (hv : RowB M v l) (hb : BytB l) (hl : l.length ≤ 8) : ∃ r M', ACall Try.prog 99 #[v] M r M' ∧ r = .int .u64 (numN l) ∧ M' = M := by
  refine ACall.fin (args := [v]) (k := 19) (rs := [.tmp 2]) Try.func99 rfl rfl rfl (Nat.le_of_ble_eq_true rfl) ?_
  refine AWP.stepR [0] fun K hK => ?_
  simp only [go_sem, Nat.reduceEqDiff, Nat.reduceLT, Nat.reduceAdd, Nat.reduceMul, Nat.reduceSub, Nat.add_zero, Nat.zero_add, Int.reduceEq, Int.reduceLT]
  refine hK _ _ _ (by simp only [go_sem, Nat.reduceEqDiff, Nat.reduceLT, Nat.reduceAdd, Nat.reduceMul, Nat.reduceSub, Nat.add_zero, Nat.zero_add, Int.reduceEq, Int.reduceLT]; rfl) ?_; clear hK
  refine AWP.stepR [0, 3] fun K hK => ?_
  simp only [go_sem, Nat.reduceEqDiff, Nat.reduceLT, Nat.reduceAdd, Nat.reduceMul, Nat.reduceSub, Nat.add_zero, Nat.zero_add, Int.reduceEq, Int.reduceLT]
  refine hK _ _ _ (by simp only [go_sem, Nat.reduceEqDiff, Nat.reduceLT, Nat.reduceAdd, Nat.reduceMul, Nat.reduceSub, Nat.add_zero, Nat.zero_add, Int.reduceEq, Int.reduceLT]; rfl) ?_; clear hK
  refine AWP.seq ?_
  refine AWP.stepR [3, 6, 7, 8] fun K hK => ?_
  simp only [go_sem, Nat.reduceEqDiff, Nat.reduceLT, Nat.reduceAdd, Nat.reduceMul, Nat.reduceSub, Nat.add_zero, Nat.zero_add, Int.reduceEq, Int.reduceLT, hv.len es_23]
  refine hK _ _ _ (by simp only [go_sem, Nat.reduceEqDiff, Nat.reduceLT, Nat.reduceAdd, Nat.reduceMul, Nat.reduceSub, Nat.add_zero, Nat.zero_add, Int.reduceEq, Int.reduceLT]; rfl) ?_; clear hK
  refine AWP.block ?_ -- b0
  refine AWP.loopK [3, 6, 7, 8] (fun n e M0 => M0 = M ∧ n ≤ l.length ∧ e = [(3, .int .u64 (numN (l.take (l.length - n)))), (6, v), (7, .int .i64 l.length), (8, .int .i64 ((l.length - n : Nat) : Int))]) l.length ?_ fun n e M0 hI => ?_ -- LOOP
  · simp only [go_sem, Nat.reduceEqDiff, Nat.reduceLT, Nat.reduceAdd, Nat.reduceMul, Nat.reduceSub, Nat.add_zero, Nat.zero_add, Int.reduceEq, Int.reduceLT, true_and, Nat.le_refl]
    simp [numN]
  obtain ⟨rfl, hn, rfl⟩ := hI
  refine AWP.stepR [3, 6, 7, 8, 9] fun K hK => ?_
  simp only [go_sem, Nat.reduceEqDiff, Nat.reduceLT, Nat.reduceAdd, Nat.reduceMul, Nat.reduceSub, Nat.add_zero, Nat.zero_add, Int.reduceEq, Int.reduceLT]
  refine hK _ _ _ (by simp only [go_sem, Nat.reduceEqDiff, Nat.reduceLT, Nat.reduceAdd, Nat.reduceMul, Nat.reduceSub, Nat.add_zero, Nat.zero_add, Int.reduceEq, Int.reduceLT]; rfl) ?_; clear hK
  refine AWP.condS rfl (fun h9 => ?_) fun h9 => ?_
  · have hlt : l.length - n < l.length := by simpa using h9
    obtain ⟨b, q, ha, hd⟩ := hv.at1 (by simp [cB]) es_23 hlt
    have hd := hd M0 (Grew.refl _)
    rw [show (cB l)[l.length - n]? = some (.int .u8 l[l.length - n]) by simp [cB, hlt]] at hd
    have hx := hb _ (List.getElem_mem hlt)
    have hst := List.take_succ_eq_append_getElem hlt
    have hbd := numN_bound hb (l.length - n)
    have hp := pow256 (n := (l.take (l.length - n)).length) (by rw [List.length_take]; omega)
    generalize l[l.length - n] = x at hd hx hst
    refine AWP.skip ?_
    refine AWP.seq ?_
    refine AWP.block ?_ -- b1
    refine AWP.stepR [3, 5, 6, 7, 8] fun K hK => ?_
    simp only [go_sem, Nat.reduceEqDiff, Nat.reduceLT, Nat.reduceAdd, Nat.reduceMul, Nat.reduceSub, Nat.add_zero, Nat.zero_add, Int.reduceEq, Int.reduceLT, ha, hd, ld_5]
    refine hK _ _ _ (by simp only [go_sem, Nat.reduceEqDiff, Nat.reduceLT, Nat.reduceAdd, Nat.reduceMul, Nat.reduceSub, Nat.add_zero, Nat.zero_add, Int.reduceEq, Int.reduceLT]; rfl) ?_; clear hK
    refine AWP.lastR fun K hK => ?_
    simp only [go_sem, Nat.reduceEqDiff, Nat.reduceLT, Nat.reduceAdd, Nat.reduceMul, Nat.reduceSub, Nat.add_zero, Nat.zero_add, Int.reduceEq, Int.reduceLT]
    refine hK _ _ ?_; clear hK
    refine AWP.lastR fun K hK => ?_
    simp only [go_sem, Nat.reduceEqDiff, Nat.reduceLT, Nat.reduceAdd, Nat.reduceMul, Nat.reduceSub, Nat.add_zero, Nat.zero_add, Int.reduceEq, Int.reduceLT]
    refine hK _ _ ?_; clear hK
    refine ⟨n - 1, by omega, rfl, by omega, ?_⟩ -- ROUND
    simp only [go_sem, Nat.reduceEqDiff, Nat.reduceLT, Nat.reduceAdd, Nat.reduceMul, Nat.reduceSub, Nat.add_zero, Nat.zero_add, Int.reduceEq, Int.reduceLT]
    have e1 : IntKind.u64.wrap ((BitVec.ofInt 64 (IntKind.u64.wrap (numN (l.take (l.length - n)) * 256)) ||| BitVec.ofInt 64 (IntKind.u64.wrap x)).toNat : Int) = numN (l.take (l.length - (n - 1))) := by
      rw [u64w (n := x) hx.1 (by omega), u64w (n := numN (l.take (l.length - n)) * 256) (by omega) (by omega), or_low _ _ hbd.1 (by omega) hx.1 hx.2, u64w (by omega) (by omega), show l.length - (n - 1) = l.length - n + 1 by omega, hst, numN_snoc]
    have e2 : IntKind.i64.wrap (((l.length - n : Nat) : Int) + 1) = ((l.length - (n - 1) : Nat) : Int) := by rw [i64w (by omega) (by omega)]; omega
    have e3 : ∀ a b a' b' : Int, a = a' → b = b' → [(3, Value.int .u64 a), (6, v), (7, .int .i64 l.length), (8, .int .i64 b)] = [(3, Value.int .u64 a'), (6, v), (7, .int .i64 l.length), (8, .int .i64 b')] := by rintro _ _ _ _ rfl rfl; rfl
    exact e3 _ _ _ _ e1 e2
  · refine AWP.exit (Then.exit (Then.exit (InBlock.same ?_)))
    have hn0 : n = 0 := by simp at h9; omega
    subst hn0
    rw [Nat.sub_zero, List.take_length]
    refine AWP.stepR [2] fun K hK => ?_
    simp only [go_sem, Nat.reduceEqDiff, Nat.reduceLT, Nat.reduceAdd, Nat.reduceMul, Nat.reduceSub, Nat.add_zero, Nat.zero_add, Int.reduceEq, Int.reduceLT]
    refine hK _ _ _ (by simp only [go_sem, Nat.reduceEqDiff, Nat.reduceLT, Nat.reduceAdd, Nat.reduceMul, Nat.reduceSub, Nat.add_zero, Nat.zero_add, Int.reduceEq, Int.reduceLT]; rfl) ?_; clear hK
    refine AWP.ret (?_)
    exact Fin.plain (.inr rfl) rfl rfl hok (Grew.refl _) ⟨rfl, rfl⟩

/-! ### parts, one behind the other, in new memory -/
def CapOk (v : Value) : Prop := ∃ id n c, v = .slice (some ⟨id, 0, none⟩) n c ∧ (c = unk ∨ n ≤ c)
theorem CapOk.app {P : Program} {M M' : Mem} {t tx : TypeId} {s x v : Value} (hs : CapOk s) (h : appendE P M t tx s x = some (v, M')) : CapOk v := by
  have hg : ∀ N e c k w, grownE P N e c k = (v, w) → CapOk v := fun N e c k w h => by
    cases h; exact ⟨_, _, _, rfl, .inl rfl⟩
  unfold appendE at h
  repeat' split at h
  all_goals first | cases h; done | (simp only [Option.some.injEq, Prod.mk.injEq] at h; obtain ⟨rfl, _⟩ := h; exact hs) | (injection h with h; exact hg _ _ _ _ _ h)
theorem joinE37_spec (v : Value) (vs : List Value) (ls : List (List Int)) (M : Mem) (hok : Ok M) (hv : Row_ M v vs.length vs) (hp : Parts M vs ls) (hl : ls.flatten.length ≤ 1099511627776) (hn : vs.length ≤ 1099511627776) :
    ∃ r M', ACall Try.prog 37 #[v] M r M' ∧ Grew M M' ∧ OwnB M M' r ls.flatten 5 ∧ CapOk r := by
  refine ACall.fin (args := [v]) (k := 33) Try.func37 rfl rfl rfl (Nat.le_of_ble_eq_true rfl) ?_
  refine AWP.stepR [0] fun K hK => ?_ -- r0
  simp only [go_sem, Nat.reduceEqDiff, Nat.reduceLT, Nat.reduceAdd, Nat.reduceMul, Nat.reduceSub, Nat.add_zero, Nat.zero_add, Int.reduceEq, Int.reduceLT]
  refine hK _ _ _ (by simp only [go_sem, Nat.reduceEqDiff, Nat.reduceLT, Nat.reduceAdd, Nat.reduceMul, Nat.reduceSub, Nat.add_zero, Nat.zero_add, Int.reduceEq, Int.reduceLT]; rfl) ?_; clear hK
  refine AWP.stepR [0, 3] fun K hK => ?_ -- r1
  simp only [go_sem, Nat.reduceEqDiff, Nat.reduceLT, Nat.reduceAdd, Nat.reduceMul, Nat.reduceSub, Nat.add_zero, Nat.zero_add, Int.reduceEq, Int.reduceLT]
  refine hK _ _ _ (by simp only [go_sem, Nat.reduceEqDiff, Nat.reduceLT, Nat.reduceAdd, Nat.reduceMul, Nat.reduceSub, Nat.add_zero, Nat.zero_add, Int.reduceEq, Int.reduceLT]; rfl) ?_; clear hK
  refine AWP.seq ?_
  refine AWP.stepR [0, 3, 9, 10, 11] fun K hK => ?_ -- r2
  simp only [go_sem, Nat.reduceEqDiff, Nat.reduceLT, Nat.reduceAdd, Nat.reduceMul, Nat.reduceSub, Nat.add_zero, Nat.zero_add, Int.reduceEq, Int.reduceLT, hv.len es_121]
  refine hK _ _ _ (by simp only [go_sem, Nat.reduceEqDiff, Nat.reduceLT, Nat.reduceAdd, Nat.reduceMul, Nat.reduceSub, Nat.add_zero, Nat.zero_add, Int.reduceEq, Int.reduceLT]; rfl) ?_; clear hK
  refine AWP.block ?_ -- b0
  refine AWP.loopK [0, 3, 9, 10, 11] (fun n e M0 => M0 = M ∧ n ≤ vs.length ∧ e = [(0, v), (3, .int .i64 ((ls.take (vs.length - n)).flatten.length : Nat)), (9, v), (10, .int .i64 vs.length), (11, .int .i64 ((vs.length - n : Nat) : Int))]) vs.length ?_ fun n e M0 hI => ?_ -- LOOP
  · simp only [go_sem, Nat.reduceEqDiff, Nat.reduceLT, Nat.reduceAdd, Nat.reduceMul, Nat.reduceSub, Nat.add_zero, Nat.zero_add, Int.reduceEq, Int.reduceLT, Nat.le_refl]
    simp
  obtain ⟨rfl, hn', rfl⟩ := hI
  refine AWP.stepR [0, 3, 9, 10, 11, 12] fun K hK => ?_ -- r3
  simp only [go_sem, Nat.reduceEqDiff, Nat.reduceLT, Nat.reduceAdd, Nat.reduceMul, Nat.reduceSub, Nat.add_zero, Nat.zero_add, Int.reduceEq, Int.reduceLT]
  refine hK _ _ _ (by simp only [go_sem, Nat.reduceEqDiff, Nat.reduceLT, Nat.reduceAdd, Nat.reduceMul, Nat.reduceSub, Nat.add_zero, Nat.zero_add, Int.reduceEq, Int.reduceLT]; rfl) ?_; clear hK
  refine AWP.condS rfl (fun h12 => ?_) fun h12 => ?_
  · have hlt : vs.length - n < vs.length := by simpa using h12
    have hlt' : vs.length - n < ls.length := by rw [← hp.1]; exact hlt
    obtain ⟨b, q, ha, hd⟩ := hv.at1 rfl es_121 hlt
    have hd := hd M0 (Grew.refl _)
    rw [List.getElem?_eq_getElem hlt] at hd
    have hx := hp.2 _ _ _ (List.getElem?_eq_getElem hlt) (List.getElem?_eq_getElem hlt')
    generalize vs[vs.length - n] = x at hd hx
    refine AWP.skip ?_
    refine AWP.seq ?_
    refine AWP.block ?_ -- b1
    refine AWP.stepR [0, 3, 5, 9, 10, 11] fun K hK => ?_ -- r4
    simp only [go_sem, Nat.reduceEqDiff, Nat.reduceLT, Nat.reduceAdd, Nat.reduceMul, Nat.reduceSub, Nat.add_zero, Nat.zero_add, Int.reduceEq, Int.reduceLT, ha, ld_23, hd]
    refine hK _ _ _ (by simp only [go_sem, Nat.reduceEqDiff, Nat.reduceLT, Nat.reduceAdd, Nat.reduceMul, Nat.reduceSub, Nat.add_zero, Nat.zero_add, Int.reduceEq, Int.reduceLT]; rfl) ?_; clear hK
    refine AWP.lastR fun K hK => ?_ -- r5
    simp only [go_sem, Nat.reduceEqDiff, Nat.reduceLT, Nat.reduceAdd, Nat.reduceMul, Nat.reduceSub, Nat.add_zero, Nat.zero_add, Int.reduceEq, Int.reduceLT, hx.len es_23]
    refine hK _ _ ?_; clear hK
    refine AWP.lastR fun K hK => ?_ -- r6
    simp only [go_sem, Nat.reduceEqDiff, Nat.reduceLT, Nat.reduceAdd, Nat.reduceMul, Nat.reduceSub, Nat.add_zero, Nat.zero_add, Int.reduceEq, Int.reduceLT]
    refine hK _ _ ?_; clear hK
    have hfl := take_flat ls hlt'
    have hfe : (ls.take (vs.length - n)).flatten.length + ls[vs.length - n].length = (ls.take (vs.length - n + 1)).flatten.length := by rw [hfl, List.length_append]
    have hfle := flat_le ls (vs.length - n + 1)
    refine ⟨n - 1, by omega, rfl, by omega, ?_⟩ -- ROUND
    simp only [go_sem, Nat.reduceEqDiff, Nat.reduceLT, Nat.reduceAdd, Nat.reduceMul, Nat.reduceSub, Nat.add_zero, Nat.zero_add, Int.reduceEq, Int.reduceLT]
    rw [i64w (by omega) (by omega), i64w (by omega) (by omega), show ((vs.length - n : Nat) : Int) + 1 = ((vs.length - (n - 1) : Nat) : Int) by omega,
      show (((ls.take (vs.length - n)).flatten.length : Nat) : Int) + ((ls[vs.length - n].length : Nat) : Int) = (((ls.take (vs.length - (n - 1))).flatten.length : Nat) : Int) by rw [show vs.length - (n - 1) = vs.length - n + 1 by omega]; omega]
  · refine AWP.exit (Then.exit (Then.exit (InBlock.same ?_))) -- x0
    have hn0 : n = 0 := by simp at h12; omega
    subst hn0
    rw [Nat.sub_zero, hp.1, List.take_length]
    have hms : (0 ≤ (0 : Int) ∧ (0 : Int) ≤ (ls.flatten.length : Int) ∧ (ls.flatten.length : Int) ≤ 281474976710656 ∧ ((1 : Nat) : Int) * (ls.flatten.length : Int) ≤ 281474976710656) = True := eq_true ⟨by omega, by omega, by omega, by omega⟩
    refine AWP.stepR [0, 6] fun K hK => ?_ -- r7
    simp only [go_sem, Nat.reduceEqDiff, Nat.reduceLT, Nat.reduceAdd, Nat.reduceMul, Nat.reduceSub, Nat.add_zero, Nat.zero_add, Int.reduceEq, Int.reduceLT, hms, Int.toNat_natCast, Int.toNat_zero]
    refine hK _ _ _ (by simp only [go_sem, Nat.reduceEqDiff, Nat.reduceLT, Nat.reduceAdd, Nat.reduceMul, Nat.reduceSub, Nat.add_zero, Nat.zero_add, Int.reduceEq, Int.reduceLT]; rfl) ?_; clear hK
    have hlt0 : M0.next < (M0.bump 1).next := Nat.lt_succ_self _
    generalize hM1 : (M0.bump 1).put M0.next ⟨zrow Try.prog 5 ls.flatten.length, 5, true⟩ = M1
    have hg1 : Grew M0 M1 := by rw [← hM1]; exact ((Grew.refl M0).bump 1).put (Nat.le_refl _) hlt0 _
    have ho1 : Own M0 M1 (.slice (some ⟨M0.next, 0, none⟩) 0 ls.flatten.length) 0 [] 5 := .inr ⟨M0.next, _, _, Nat.le_refl _, by rw [← hM1]; exact hlt0, rfl, by rw [← hM1, Mem.get_put, if_pos rfl], rfl, rfl, .inl ⟨rfl, rfl⟩⟩
    have hcap0 : CapOk (.slice (some ⟨M0.next, 0, none⟩) 0 ls.flatten.length) := ⟨_, _, _, rfl, .inr (Nat.zero_le _)⟩
    generalize Value.slice (some ⟨M0.next, 0, none⟩) 0 ls.flatten.length = b0 at ho1 hcap0
    refine AWP.seq ?_
    refine AWP.stepR [6, 22, 23, 24] fun K hK => ?_ -- r8
    simp only [go_sem, Nat.reduceEqDiff, Nat.reduceLT, Nat.reduceAdd, Nat.reduceMul, Nat.reduceSub, Nat.add_zero, Nat.zero_add, Int.reduceEq, Int.reduceLT, hv.len es_121]
    refine hK _ _ _ (by simp only [go_sem, Nat.reduceEqDiff, Nat.reduceLT, Nat.reduceAdd, Nat.reduceMul, Nat.reduceSub, Nat.add_zero, Nat.zero_add, Int.reduceEq, Int.reduceLT]; rfl) ?_; clear hK
    refine AWP.block ?_ -- b2
    refine AWP.loopK [6, 22, 23, 24] (fun n e M2 => n ≤ vs.length ∧ Grew M0 M2 ∧ ∃ bv, e = [(6, bv), (22, v), (23, .int .i64 vs.length), (24, .int .i64 ((vs.length - n : Nat) : Int))] ∧ OwnB M0 M2 bv (ls.take (vs.length - n)).flatten 5 ∧ CapOk bv) vs.length ?_ fun n e M2 hI => ?_ -- LOOP
    · simp only [go_sem, Nat.reduceEqDiff, Nat.reduceLT, Nat.reduceAdd, Nat.reduceMul, Nat.reduceSub, Nat.add_zero, Nat.zero_add, Int.reduceEq, Int.reduceLT, Nat.le_refl]
      exact ⟨hg1, b0, by simp, by rw [Nat.sub_self]; exact ho1, hcap0⟩
    obtain ⟨hn', hg2, bv, rfl, ho2, hcap⟩ := hI
    refine AWP.stepR [6, 22, 23, 24, 25] fun K hK => ?_ -- r9
    simp only [go_sem, Nat.reduceEqDiff, Nat.reduceLT, Nat.reduceAdd, Nat.reduceMul, Nat.reduceSub, Nat.add_zero, Nat.zero_add, Int.reduceEq, Int.reduceLT]
    refine hK _ _ _ (by simp only [go_sem, Nat.reduceEqDiff, Nat.reduceLT, Nat.reduceAdd, Nat.reduceMul, Nat.reduceSub, Nat.add_zero, Nat.zero_add, Int.reduceEq, Int.reduceLT]; rfl) ?_; clear hK
    refine AWP.condS rfl (fun h25 => ?_) fun h25 => ?_
    · have hlt : vs.length - n < vs.length := by simpa using h25
      have hlt' : vs.length - n < ls.length := by rw [← hp.1]; exact hlt
      obtain ⟨b, q, ha, hd⟩ := hv.at1 rfl es_121 hlt
      have hd := hd M2 hg2
      rw [List.getElem?_eq_getElem hlt] at hd
      have hx := (hp.2 _ _ _ (List.getElem?_eq_getElem hlt) (List.getElem?_eq_getElem hlt')).grew hg2
      generalize vs[vs.length - n] = x at hd hx
      have hfl := take_flat ls hlt'
      have hfe : (ls.take (vs.length - n)).flatten.length + ls[vs.length - n].length = (ls.take (vs.length - n + 1)).flatten.length := by rw [hfl, List.length_append]
      have hfle := flat_le ls (vs.length - n + 1)
      refine AWP.skip ?_
      refine AWP.seq ?_
      refine AWP.block ?_ -- b3
      refine AWP.stepR [6, 8, 22, 23, 24] fun K hK => ?_ -- r10
      simp only [go_sem, Nat.reduceEqDiff, Nat.reduceLT, Nat.reduceAdd, Nat.reduceMul, Nat.reduceSub, Nat.add_zero, Nat.zero_add, Int.reduceEq, Int.reduceLT, ha, ld_23, hd]
      refine hK _ _ _ (by simp only [go_sem, Nat.reduceEqDiff, Nat.reduceLT, Nat.reduceAdd, Nat.reduceMul, Nat.reduceSub, Nat.add_zero, Nat.zero_add, Int.reduceEq, Int.reduceLT]; rfl) ?_; clear hK
      obtain ⟨v2, M3, happ, ho3, hg3, hnx, hfr⟩ := Own.append ap_23_23 hg2 ho2 (by rw [cB_length, Nat.mul_one]) (hx.content (by rw [cB_length, Nat.mul_one])) (cB_one _) (by omega)
      refine AWP.lastR fun K hK => ?_ -- r11
      simp only [go_sem, Nat.reduceEqDiff, Nat.reduceLT, Nat.reduceAdd, Nat.reduceMul, Nat.reduceSub, Nat.add_zero, Nat.zero_add, Int.reduceEq, Int.reduceLT, happ]
      refine hK _ _ ?_; clear hK
      refine AWP.lastR fun K hK => ?_ -- r12
      simp only [go_sem, Nat.reduceEqDiff, Nat.reduceLT, Nat.reduceAdd, Nat.reduceMul, Nat.reduceSub, Nat.add_zero, Nat.zero_add, Int.reduceEq, Int.reduceLT]
      refine hK _ _ ?_; clear hK
      refine ⟨n - 1, by omega, by omega, hg3, v2, ?_, ?_, CapOk.app hcap happ⟩ -- ROUND
      · simp only [go_sem, Nat.reduceEqDiff, Nat.reduceLT, Nat.reduceAdd, Nat.reduceMul, Nat.reduceSub, Nat.add_zero, Nat.zero_add, Int.reduceEq, Int.reduceLT]
        rw [i64w (by omega) (by omega), show ((vs.length - n : Nat) : Int) + 1 = ((vs.length - (n - 1) : Nat) : Int) by omega]
      · rw [hfe, ← cB_append, ← hfl] at ho3
        rw [show vs.length - (n - 1) = vs.length - n + 1 by omega]
        exact ho3
    · refine AWP.exit (Then.exit (Then.exit (InBlock.same ?_))) -- x2
      have hn0 : n = 0 := by simp at h25; omega
      subst hn0
      rw [Nat.sub_zero, hp.1, List.take_length] at ho2
      refine AWP.stepR [2] fun K hK => ?_ -- r13
      simp only [go_sem, Nat.reduceEqDiff, Nat.reduceLT, Nat.reduceAdd, Nat.reduceMul, Nat.reduceSub, Nat.add_zero, Nat.zero_add, Int.reduceEq, Int.reduceLT]
      refine hK _ _ _ (by simp only [go_sem, Nat.reduceEqDiff, Nat.reduceLT, Nat.reduceAdd, Nat.reduceMul, Nat.reduceSub, Nat.add_zero, Nat.zero_add, Int.reduceEq, Int.reduceLT]; rfl) ?_; clear hK
      refine AWP.ret (?_)
      exact Fin.keep (.inr rfl) rfl ⟨hg2, ho2, hcap⟩

theorem RowE.own {M M1 : Mem} {v : Value} {l : List Int} (h : OwnB M M1 v l 5) (hc : CapOk v) : RowE M1 v l.length (cB l) 5 := by
  obtain ⟨id, n, c, rfl, hn⟩ := hc
  rcases h with ⟨h, _⟩ | ⟨id', c', blk, h0, h1, h2, h3, h4, h5, h6⟩
  · cases h
  · cases h2
    refine ⟨_, 0, _, blk, rfl, hn, ⟨h3, h1⟩, h5, ?_, ?_⟩
    · rcases h6 with ⟨_, h6⟩ | h6
      · rw [h6]; simp
      · rw [h6]; omega
    · rcases h6 with ⟨_, h6⟩ | h6
      · rw [h6]; simp
      · rw [h6]; simp
theorem CapOk.apart {M M1 : Mem} {v : Value} {n : Nat} {cells : List Value} {e : TypeId} (h : Own M M1 v n cells e) {p : Nat} (hp : p < M.next) : Apart v p := h.apart (.inl hp)
end Go.Proofs.Ythheaehpnleiaaa.AX
