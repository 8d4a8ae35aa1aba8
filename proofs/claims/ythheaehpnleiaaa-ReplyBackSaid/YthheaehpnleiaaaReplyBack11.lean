/- Where a key stands: the program's answer and the document's. -/
import Derived.Test.YthheaehpnleiaaaReplyBack9
import Derived.Test.YthheaehpnleiaaaReplyBack5
import Derived.Test.YthheaehpnleiaaaReplyBack10
import Derived.Test.YthheaehpnleiaaaReplyBack8
namespace Go.Proofs.Ythheaehpnleiaaa.AX
open Go Go.Proofs
set_option maxRecDepth 100000
set_option linter.unusedVariables false
set_option linter.unusedSimpArgs false

/-- a node whose keys are bytes -/
structure NodeB (n : Node) : Prop where
  pk : ∀ p, p ∈ n.pairs → Byt p.key
  pv : ∀ p, p ∈ n.pairs → Byt p.val
  kk : ∀ k, k ∈ n.kids → Byt k.key
section
variable (n : Node) (vp vk kv : Value) (k : List Int) (M : Mem)

end
end Go.Proofs.Ythheaehpnleiaaa.AX

/- How great things are together; where they are cut; copies of rows. -/
namespace Go.Proofs.Ythheaehpnleiaaa.AX
open Go Go.Proofs
set_option maxRecDepth 100000
set_option linter.unusedVariables false
set_option linter.unusedSimpArgs false

def PrOk (M : Mem) (p : Pr) : Prop := RowB M p.kv p.key ∧ RowB M p.vv p.val
def KdOk (M : Mem) (k : Kd) : Prop := RowB M k.kv k.key
theorem PrOk.grew {M M1 : Mem} {p : Pr} (h : PrOk M p) (hg : Grew M M1) : PrOk M1 p := ⟨h.1.grew hg, h.2.grew hg⟩
theorem KdOk.grew {M M1 : Mem} {p : Kd} (h : KdOk M p) (hg : Grew M M1) : KdOk M1 p := Row_.grew h hg
theorem PrOk.one {M : Mem} {p : Pr} (h : PrOk M p) : oneCells (prC p) = true := prC_one h.1 h.2
theorem KdOk.one {M : Mem} {p : Kd} (h : KdOk M p) : oneCells (kdC p) = true := kdC_one h

end Go.Proofs.Ythheaehpnleiaaa.AX

/- Nodes that are the same are told to be; copies of rows. -/
namespace Go.Proofs.Ythheaehpnleiaaa.AX
open Go Go.Proofs
set_option maxRecDepth 100000
set_option linter.unusedVariables false
set_option linter.unusedSimpArgs false

def prD (p : Pr) : List Int × List Int := (p.key, p.val)
def kdD (k : Kd) : List Int × Int × Int := (k.key, k.page, k.epoch)

/-- nodes of which the same is known -/
structure SameN (n m : Node) : Prop where
  leaf : n.leaf = m.leaf
  pairs : n.pairs.map prD = m.pairs.map prD
  kids : n.kids.map kdD = m.kids.map kdD
end Go.Proofs.Ythheaehpnleiaaa.AX

/- Rows that lie in blocks of their elements' type; parts of them. -/
namespace Go.Proofs.Ythheaehpnleiaaa.AX
open Go Go.Proofs
set_option linter.unusedVariables false
set_option linter.unusedSimpArgs false

/-- a row that lies in a block of its elements' type -/
def RowE (M : Mem) (v : Value) (n : Nat) (cells : List Value) (e : TypeId) : Prop := ∃ b o c blk, v = .slice (some ⟨b, o, none⟩) n c ∧ (c = unk ∨ n ≤ c) ∧ Has M b blk ∧ blk.elem = e ∧ o + cells.length ≤ blk.cells.length ∧ (blk.cells.drop o).take cells.length = cells
theorem RowE.row {M : Mem} {v : Value} {n : Nat} {cells : List Value} {e : TypeId} (h : RowE M v n cells e) : Row_ M v n cells := by
  obtain ⟨b, o, c, blk, h1, _, h2, _, h4, h5⟩ := h
  exact .inr ⟨b, o, c, blk, h1, h2, h4, h5⟩
theorem RowE.grew {M M1 : Mem} {v : Value} {n : Nat} {cells : List Value} {e : TypeId} (h : RowE M v n cells e) (hg : Grew M M1) : RowE M1 v n cells e := by
  obtain ⟨b, o, c, blk, h1, h0, h2, h3⟩ := h
  exact ⟨b, o, c, blk, h1, h0, h2.grew hg, h3⟩
theorem RowE.slice {P : Program} {t e sz : Nat} {i : TypeInfo} (ht : P.underlying t = some (.slice e)) (hi : P.info? e = some i) (hs : i.size = sz) {M : Mem} {v : Value} {n : Nat} {cells : List Value} (h : RowE M v n cells e) (hl : cells.length = n * sz) {lo hi_ : Nat} (h1 : lo ≤ hi_) (h2 : hi_ ≤ n) :
    ∃ v', (∀ M1, Grew M M1 → sliceV P M1.get t v (some (.int .i64 lo)) (some (.int .i64 hi_)) none = some v' ∧ (lo = 0 → sliceV P M1.get t v none (some (.int .i64 hi_)) none = some v') ∧ (hi_ = n → sliceV P M1.get t v (some (.int .i64 lo)) none none = some v')) ∧ RowE M v' (hi_ - lo) ((cells.drop (lo * sz)).take ((hi_ - lo) * sz)) e := by
  obtain ⟨b, o, c, blk, rfl, hcn, hb, he, h4, h5⟩ := h
  subst hs
  have hcs : P.cellsOf blk.elem = i.size := by rw [he]; exact cellsOf_eq hi
  have hlo : lo * i.size ≤ hi_ * i.size := Nat.mul_le_mul_right _ h1
  have hhi : hi_ * i.size ≤ n * i.size := Nat.mul_le_mul_right _ h2
  have hsub : (hi_ - lo) * i.size = hi_ * i.size - lo * i.size := Nat.sub_mul _ _ _
  refine ⟨.slice (some ⟨b, o + lo * i.size, none⟩) (hi_ - lo) (if c = unk then unk else c - lo), fun M1 hg => ?_, b, o + lo * i.size, _, blk, rfl, by split <;> omega, hb, he, ?_, ?_⟩
  · have hget := (hb.grew hg).1
    have hb1 : boundV (some (.int .i64 hi_)) n (if c = unk then n else c) = some hi_ := by
      simp only [boundV]
      rw [if_pos ⟨by omega, by split <;> omega⟩]; simp
    have hb2 : ∀ y, lo ≤ y → boundV (some (.int .i64 lo)) 0 y = some lo := fun y hy => by
      simp only [boundV]
      rw [if_pos ⟨by omega, by omega⟩]; simp
    refine ⟨?_, fun h0 => ?_, fun h0 => ?_⟩
    · simp only [sliceV, ht, hget, hi, hcs, Option.isSome_none, Option.isNone_none, Bool.false_eq_true, false_and, not_false_eq_true, and_self, if_true, true_and]
      rw [show boundV none (if c = unk then n else c) (if c = unk then n else c) = some (if c = unk then n else c) from rfl]
      simp only [hb1, hb2 hi_ h1]
      congr 1
      split <;> simp_all
    · subst h0
      simp only [sliceV, ht, hget, hi, hcs, Option.isSome_none, Option.isNone_none, Bool.false_eq_true, false_and, not_false_eq_true, and_self, if_true, true_and]
      rw [show boundV none (if c = unk then n else c) (if c = unk then n else c) = some (if c = unk then n else c) from rfl]
      simp only [hb1, show boundV none 0 hi_ = some 0 from rfl]
      congr 1
      split <;> simp_all
    · subst h0
      simp only [sliceV, ht, hget, hi, hcs, Option.isSome_none, Option.isNone_none, Bool.false_eq_true, false_and, not_false_eq_true, and_self, if_true, true_and]
      rw [show boundV none (if c = unk then hi_ else c) (if c = unk then hi_ else c) = some (if c = unk then hi_ else c) from rfl]
      simp only [show ∀ y, boundV none hi_ y = some hi_ from fun _ => rfl, hb2 hi_ h1]
      congr 1
      split <;> simp_all
  · rw [List.length_take, List.length_drop]; omega
  · rw [List.length_take, List.length_drop, hl, hsub, Nat.min_eq_left (by omega)]
    conv => rhs; rw [← h5, hl]
    rw [List.drop_take, List.take_take, List.drop_drop, Nat.min_eq_left (by omega)]
end Go.Proofs.Ythheaehpnleiaaa.AX

/- Parts of a node. -/
namespace Go.Proofs.Ythheaehpnleiaaa.AX
open Go Go.Proofs
set_option maxRecDepth 100000
set_option linter.unusedVariables false
set_option linter.unusedSimpArgs false

theorem st_cell {M : Mem} {i o : Nat} {blk : Blk} {v : Value} (h : Has M i blk) (hrw : blk.rw = true) (ho : o < blk.cells.length) (hv : v.oneCell' = true) : stV M i o 1 v = some (M.put i ⟨blk.cells.set o v, blk.elem, blk.rw⟩) := by
  rw [stV_at h.1, one_cells hv, if_pos ⟨hrw, rfl, by simp [oneCells, hv], by omega⟩]
  congr 2
  have : splice blk.cells o [v] = blk.cells.set o v := by
    apply List.ext_getElem?
    intro j
    rw [splice_get (by simp; omega), List.getElem?_set]
    by_cases hj : o = j
    · subst hj; simp [ho]
    · rw [if_neg (by simp; omega), if_neg hj]
  simp [this]
theorem st_all {M : Mem} {i n : Nat} {blk : Blk} {vs : List Value} (h : Has M i blk) (hrw : blk.rw = true) (hl : blk.cells.length = n) (hv : vs.length = n) (ho : oneCells vs = true) : stV M i 0 n (.agg vs.toArray) = some (M.put i ⟨vs, blk.elem, blk.rw⟩) := by
  rw [stV_at h.1, if_pos ⟨hrw, by simpa [Value.cells] using hv, by simpa [Value.cells] using ho, by omega⟩]
  have : splice blk.cells 0 vs = vs := by simp [splice, hl, hv]
  simp only [Value.cells, this]
theorem Own.putA {M M1 : Mem} {v : Value} {n : Nat} {cells : List Value} {e : TypeId} (h : Own M M1 v n cells e) {j : Nat} (hj : j < M.next) (b : Blk) : Own M (M1.put j b) v n cells e := by
  rcases h with h | ⟨id, c, blk, h0, h1, h2, h3, h4⟩
  · exact .inl h
  · exact .inr ⟨id, c, blk, h0, h1, h2, by rw [Mem.get_put, if_neg (by omega)]; exact h3, h4⟩
theorem Own.one {M M1 : Mem} {v : Value} {n : Nat} {cells : List Value} {e : TypeId} (h : Own M M1 v n cells e) : v.oneCell' = true := h.row.one

/-- rows of a node that are new -/
structure NewN (M M1 : Mem) (n : Node) (vp vk : Value) : Prop where
  pairs : Own M M1 vp n.pairs.length (n.pairs.flatMap prC) 58
  kids : Own M M1 vk n.kids.length (n.kids.flatMap kdC) 60
theorem NewN.grew {M M1 M2 : Mem} {n : Node} {vp vk : Value} (h : NewN M M1 n vp vk) (hg : Grew M1 M2) : NewN M M2 n vp vk := ⟨h.pairs.grew hg, h.kids.grew hg⟩
theorem NewN.base {M M0 M1 : Mem} {n : Node} {vp vk : Value} (h : NewN M M1 n vp vk) (hn : M0.next ≤ M.next) : NewN M0 M1 n vp vk := ⟨h.pairs.base hn, h.kids.base hn⟩
theorem NewN.put {M M1 : Mem} {n : Node} {vp vk : Value} (h : NewN M M1 n vp vk) {j : Nat} (hj : j < M.next) (b : Blk) : NewN M (M1.put j b) n vp vk := ⟨h.pairs.putA hj b, h.kids.putA hj b⟩
theorem NewN.one {M M1 : Mem} {n : Node} {vp vk : Value} (h : NewN M M1 n vp vk) (b : Bool) : oneCells (nodeC b vp vk) = true := by
  simp only [oneCells, nodeC, List.all_cons, List.all_nil, h.pairs.one, h.kids.one]; rfl
theorem NewN.node {M M1 : Mem} {n : Node} {vp vk : Value} (h : NewN M M1 n vp vk) (h1 : ∀ p, p ∈ n.pairs → PrOk M1 p) (h2 : ∀ k, k ∈ n.kids → KdOk M1 k) : NodeR M1 n vp vk :=
  ⟨h.pairs.row, h.kids.row, fun p hp => (h1 p hp).1, fun p hp => (h1 p hp).2, h2⟩
/-- a node's rows lie in blocks of their elements' type -/
structure NodeE (M : Mem) (n : Node) (vp vk : Value) : Prop where
  pairs : n.pairs = [] ∨ RowE M vp n.pairs.length (n.pairs.flatMap prC) 58
  kids : n.kids = [] ∨ RowE M vk n.kids.length (n.kids.flatMap kdC) 60
theorem NodeE.grew {M M1 : Mem} {n : Node} {vp vk : Value} (h : NodeE M n vp vk) (hg : Grew M M1) : NodeE M1 n vp vk := ⟨h.pairs.imp id fun h => h.grew hg, h.kids.imp id fun h => h.grew hg⟩
end Go.Proofs.Ythheaehpnleiaaa.AX

/- A node in two parts, by the program. -/
namespace Go.Proofs.Ythheaehpnleiaaa.AX
open Go Go.Proofs
set_option maxRecDepth 100000
set_option linter.unusedVariables false
set_option linter.unusedSimpArgs false

def zeroN : Node := ⟨false, [], []⟩
theorem NewN.zero (M M' : Mem) : NewN M M' zeroN (.slice none 0 0) (.slice none 0 0) := ⟨Own.nil _ _ _, Own.nil _ _ _⟩

end Go.Proofs.Ythheaehpnleiaaa.AX

/- A node in two parts, by the document. -/
namespace Go.Proofs.Ythheaehpnleiaaa.AX
open Go Go.Proofs
set_option maxRecDepth 100000
set_option linter.unusedVariables false
set_option linter.unusedSimpArgs false

theorem AWP.condT {P : Program} {k : Nat} {c : Operand} {x y d : Code} {s : St} {Q : Exit → St → Prop} {t : Bool} (hc : aev s.env c = some (.bool t)) (live : List Nat) (e' : Env) (M' : Mem)
    (h : t = true → AWP P k x s (Then (fun s' => s'.env.keep live = e' ∧ s'.mem = M') Q)) (h' : t = false → AWP P k y s (Then (fun s' => s'.env.keep live = e' ∧ s'.mem = M') Q)) (hr : AWP P k d ⟨e', M'⟩ Q) : AWP P k (.cond c x y) s (Then (fun s' => AWP P k d s' Q) Q) := by
  have key : ∀ e s', Then (fun s' => s'.env.keep live = e' ∧ s'.mem = M') Q e s' → Then (fun s' => AWP P k d s' Q) Q e s' := by
    intro e s' hq
    cases e with
    | normal =>
      obtain ⟨h1, h2⟩ := hq
      refine AWP.keep live ?_
      rw [h1, h2]; exact hr
    | _ => exact hq
  exact AWP.cond_split hc (fun ht => (h ht).mono key) fun ht => (h' ht).mono key

/-- two ways that come to the same, but for the memory -/
theorem AWP.condG {P : Program} {k : Nat} {c : Operand} {x y d : Code} {s : St} {Q : Exit → St → Prop} {t : Bool} (hc : aev s.env c = some (.bool t)) (live : List Nat) (e' : Env) (J : Mem → Prop)
    (h : t = true → AWP P k x s (Then (fun s' => s'.env.keep live = e' ∧ J s'.mem) Q)) (h' : t = false → AWP P k y s (Then (fun s' => s'.env.keep live = e' ∧ J s'.mem) Q)) (hr : ∀ M', J M' → AWP P k d ⟨e', M'⟩ Q) : AWP P k (.cond c x y) s (Then (fun s' => AWP P k d s' Q) Q) := by
  have key : ∀ e s', Then (fun s' => s'.env.keep live = e' ∧ J s'.mem) Q e s' → Then (fun s' => AWP P k d s' Q) Q e s' := by
    intro e s' hq
    cases e with
    | normal =>
      obtain ⟨h1, h2⟩ := hq
      refine AWP.keep live ?_
      rw [h1]; exact hr _ h2
    | _ => exact hq
  exact AWP.cond_split hc (fun ht => (h ht).mono key) fun ht => (h' ht).mono key

end Go.Proofs.Ythheaehpnleiaaa.AX

/- The law's function 'NodeSplits': it answers 'true'. -/
namespace Go.Proofs.Ythheaehpnleiaaa.AX
open Go Go.Proofs
set_option maxRecDepth 100000
set_option linter.unusedVariables false
set_option linter.unusedSimpArgs false

/-! ### what a split's parts are like -/
theorem firstF_zero {l : List Kd} : firstF l = 0 ↔ ∀ k, k ∈ l → kdCode k = 0 := by
  induction l with
  | nil => simp [firstF]
  | cons a l ih =>
    rw [firstF]
    constructor
    · intro h
      split at h
      · rename_i h0
        intro k hk
        rcases List.mem_cons.1 hk with rfl | hk
        · exact h0
        · exact ih.1 h k hk
      · rename_i h0; exact absurd h h0
    · intro h
      rw [if_pos (h a List.mem_cons_self)]
      exact ih.2 fun k hk => h k (List.mem_cons_of_mem _ hk)
theorem partsF_zero {n : Node} : partsF n = 0 ↔ (∀ p, p ∈ n.pairs → prOk p = true) ∧ ∀ k, k ∈ n.kids → kdCode k = 0 := by
  unfold partsF
  split
  · rename_i h
    rw [firstF_zero]
    exact ⟨fun h2 => ⟨fun p hp => List.all_eq_true.1 h p hp, h2⟩, fun h2 => h2.2⟩
  · rename_i h
    constructor
    · intro h2; cases h2
    · intro h2
      exact absurd (List.all_eq_true.2 h2.1) h
/-- a node that may be, but for its size -/
structure FineN (n : Node) : Prop where
  form : formOk n = false
  parts : partsF n = 0
  rp : risingB (n.pairs.map Pr.key) = true
  rk : risingB (n.kids.map Kd.key) = true
theorem fine_of {n : Node} (h : checkN n = 0 ∨ checkN n = 16) : FineN n := by
  have hfirst : ∀ l : List Kd, firstF l = 0 ∨ firstF l = 17 ∨ firstF l = 2 := by
    intro l
    induction l with
    | nil => exact .inl rfl
    | cons a l ih =>
      rw [firstF]
      split
      · exact ih
      · unfold kdCode at *
        split at *
        · exact .inr (.inl (by simp_all))
        · split at *
          · exact .inr (.inr (by simp_all))
          · simp_all
  have hparts : partsF n = 0 ∨ partsF n = 17 ∨ partsF n = 2 := by
    unfold partsF
    split
    · exact hfirst _
    · exact .inr (.inl rfl)
  unfold checkN at h
  split at h
  · omega
  · rename_i hf
    split at h
    · rename_i hp
      split at h
      · rename_i hr
        rw [Bool.and_eq_true] at hr
        exact ⟨by simpa using hf, hp, hr.1, hr.2⟩
      · omega
    · omega
end Go.Proofs.Ythheaehpnleiaaa.AX

/- A reader of bytes: its state, what it takes. -/
namespace Go.Proofs.Ythheaehpnleiaaa.AX
open Go Go.Proofs
set_option maxRecDepth 100000
set_option linter.unusedVariables false
set_option linter.unusedSimpArgs false

theorem st_cellX {M : Mem} {i o : Nat} {blk : Blk} {v : Value} (h : Has M i blk) (hrw : blk.rw = true) (ho : o < blk.cells.length) (hv : v.oneCell' = true) : stV M i o 1 v = some (M.put i ⟨blk.cells.set o v, blk.elem, blk.rw⟩) := by
  rw [stV_at h.1, one_cells hv, if_pos ⟨hrw, rfl, by simp [oneCells, hv], by omega⟩]
  congr 2
  have : splice blk.cells o [v] = blk.cells.set o v := by
    apply List.ext_getElem?
    intro j
    rw [splice_get (by simp; omega), List.getElem?_set]
    by_cases hj : o = j
    · subst hj; simp [ho]
    · rw [if_neg (by simp; omega), if_neg hj]
  simp [this]
structure GrewX (p : Nat) (M M1 : Mem) : Prop where
  keep : ∀ i, i < M.next → i ≠ p → M1.get i = M.get i
  next : M.next ≤ M1.next
  ok : Ok M → Ok M1
theorem Grew.x {M M1 : Mem} (h : Grew M M1) (p : Nat) : GrewX p M M1 := ⟨fun i hi _ => h.keep i hi, h.next, h.ok⟩
theorem GrewX.trans {p : Nat} {M M1 M2 : Mem} (h : GrewX p M M1) (h' : GrewX p M1 M2) : GrewX p M M2 := ⟨fun i hi hp => (h'.keep i (Nat.lt_of_lt_of_le hi h.next) hp).trans (h.keep i hi hp), Nat.le_trans h.next h'.next, fun hok => h'.ok (h.ok hok)⟩
theorem GrewX.refl (p : Nat) (M : Mem) : GrewX p M M := (Grew.refl M).x p
theorem GrewX.put {p : Nat} {M M1 : Mem} (h : GrewX p M M1) (hp : p < M1.next) (b : Blk) : GrewX p M (M1.put p b) := ⟨fun j hj hjp => by rw [Mem.get_put, if_neg hjp]; exact h.keep j hj hjp, h.next, fun hok j b' hj => by
  rw [Mem.get_put] at hj
  by_cases hji : j = p
  · rw [hji]; exact hp
  · rw [if_neg hji] at hj; exact h.ok hok j b' hj⟩
/-- what stood there ahead of the block stays -/
theorem GrewX.grew {p : Nat} {M0 M M1 : Mem} (h0 : Grew M0 M) (h : GrewX p M M1) (hp : M0.next ≤ p) : Grew M0 M1 :=
  ⟨fun i hi => (h.keep i (Nat.lt_of_lt_of_le hi h0.next) (by omega)).trans (h0.keep i hi), Nat.le_trans h0.next h.next, fun hok => h.ok (h0.ok hok)⟩
theorem Has.x {p : Nat} {M M1 : Mem} {i : Nat} {b : Blk} (h : Has M i b) (hg : GrewX p M M1) (hi : i ≠ p) : Has M1 i b := ⟨(hg.keep i h.2 hi).trans h.1, Nat.lt_of_lt_of_le h.2 hg.next⟩
theorem Row_.x {p : Nat} {M M1 : Mem} {v : Value} {n : Nat} {cells : List Value} (h : Row_ M v n cells) (hg : GrewX p M M1) (ha : Apart v p) : Row_ M1 v n cells := by
  rcases h with h | ⟨b, o, c, blk, h1, h2, h3⟩
  · exact .inl h
  · exact .inr ⟨b, o, c, blk, h1, h2.x hg (by rintro rfl; exact ha _ _ _ h1), h3⟩
theorem RowE.x {p : Nat} {M M1 : Mem} {v : Value} {n : Nat} {cells : List Value} {e : TypeId} (h : RowE M v n cells e) (hg : GrewX p M M1) (ha : Apart v p) : RowE M1 v n cells e := by
  obtain ⟨b, o, c, blk, h1, h0, h2, h3⟩ := h
  exact ⟨b, o, c, blk, h1, h0, h2.x hg (by rintro rfl; exact ha _ _ _ h1), h3⟩
theorem Apart.nil (j : Nat) : Apart (.slice none 0 0) j := fun o n c h => by cases h

/-! ### parts of a row of bytes -/
theorem slice_23 {M : Mem} {v : Value} {l : List Int} (h : RowE M v l.length (cB l) 5) {k : Nat} (hk : k ≤ l.length) :
    (∃ v', sliceV Try.prog M.get 23 v none (some (.int .i64 k)) (some (.int .i64 k)) = some v' ∧ RowE M v' (l.take k).length (cB (l.take k)) 5 ∧ ∀ p, Apart v p → Apart v' p) ∧
    ∃ v', sliceV Try.prog M.get 23 v (some (.int .i64 k)) none none = some v' ∧ RowE M v' (l.drop k).length (cB (l.drop k)) 5 ∧ ∀ p, Apart v p → Apart v' p := by
  obtain ⟨i, hi, hs⟩ := Option.map_eq_some_iff.1 (show (Try.prog.info? 5).map (·.size) = some 1 by kernel_rfl)
  have ht : Try.prog.underlying 23 = some (.slice 5) := by kernel_rfl
  obtain ⟨b, o, c, blk, rfl, hcn, hb, he, h4, h5⟩ := h
  have hcs : Try.prog.cellsOf blk.elem = i.size := by rw [he]; exact cellsOf_eq hi
  rw [cB_length] at h4 h5
  have hapart : ∀ o' n' c' p, Apart (.slice (some ⟨b, o, none⟩) l.length c) p → Apart (.slice (some ⟨b, o', none⟩) n' c') p := fun o' n' c' p ha o2 n2 c2 h => by
    injection h with h1 _ _
    injection h1 with h1
    injection h1 with h1 _ _
    subst h1
    exact ha o l.length c rfl
  have hbk : ∀ y, k ≤ y → boundV (some (.int .i64 (k : Int))) 0 y = some k := fun y hy => by
    simp only [boundV]; rw [if_pos ⟨by omega, by omega⟩]; simp
  have hbk2 : ∀ z y, k ≤ y → boundV (some (.int .i64 (k : Int))) z y = some k := fun z y hy => by
    simp only [boundV]; rw [if_pos ⟨by omega, by omega⟩]; simp
  refine ⟨⟨.slice (some ⟨b, o, none⟩) k k, ?_, ⟨b, o, k, blk, by rw [List.length_take, Nat.min_eq_left hk], .inr (by rw [List.length_take]; omega), hb, he, ?_, ?_⟩, hapart _ _ _⟩,
    .slice (some ⟨b, o + k, none⟩) (l.length - k) (if c = unk then unk else c - k), ?_, ⟨b, o + k, _, blk, by rw [List.length_drop], by rw [List.length_drop]; split <;> omega, hb, he, ?_, ?_⟩, hapart _ _ _⟩
  · simp only [sliceV, ht, hb.1, hi, hcs, Option.isSome_some, Option.isNone_some, Option.isNone_none, Bool.false_eq_true, and_false, not_false_eq_true, and_self, if_true, true_and, false_and, if_false]
    rw [hbk2 _ (if c = unk then l.length else c) (by split <;> omega)]
    simp only
    rw [hbk2 _ k (Nat.le_refl _)]
    simp only [show boundV none 0 k = some 0 from rfl]
    simp
  · rw [cB_length, List.length_take]; omega
  · rw [cB_length, List.length_take, Nat.min_eq_left hk]
    have := congrArg (List.take k) h5
    rw [List.take_take, Nat.min_eq_left hk] at this
    rw [this, cB, cB, List.map_take]
  · simp only [sliceV, ht, hb.1, hi, hcs, Option.isSome_none, Option.isNone_none, Bool.false_eq_true, false_and, not_false_eq_true, and_self, if_true, true_and]
    rw [show boundV none (if c = unk then l.length else c) (if c = unk then l.length else c) = some (if c = unk then l.length else c) from rfl]
    simp only [show ∀ y, boundV none l.length y = some l.length from fun _ => rfl, hbk l.length hk, hs, Nat.mul_one]
    congr 1
    split <;> simp_all
  · rw [cB_length, List.length_drop]; omega
  · rw [cB_length, List.length_drop]
    have := congrArg (List.drop k) h5
    rw [List.drop_take, List.drop_drop] at this
    rw [this, cB, cB, List.map_drop]

/-! ### a reader -/
structure Rs where
  b : List Int
  code : Int
/-- a reader's state lies there -/
def RdS (M : Mem) (p : Nat) (D : Nat → Prop) (s : Rs) : Prop := ∃ vb, Has M p ⟨[vb, .int .i64 s.code], 123, true⟩ ∧ RowE M vb s.b.length (cB s.b) 5 ∧ D p ∧ ∀ j, D j → Apart vb j
def takeS (s : Rs) (k : Int) : Rs × List Int := if s.code = 0 then (if k < 0 ∨ k > s.b.length then (⟨s.b, 3⟩, []) else (⟨s.b.drop k.toNat, 0⟩, s.b.take k.toNat)) else (s, [])
theorem RdS.grew {M M1 : Mem} {p : Nat} {D : Nat → Prop} {s : Rs} (h : RdS M p D s) (hg : Grew M M1) : RdS M1 p D s := by
  obtain ⟨vb, h1, h2, h3⟩ := h
  exact ⟨vb, h1.grew hg, h2.grew hg, h3⟩
theorem RdS.lt {M : Mem} {p : Nat} {D : Nat → Prop} {s : Rs} (h : RdS M p D s) : p < M.next := by obtain ⟨vb, h1, _⟩ := h; exact h1.2
theorem take90_spec (p : Nat) (D : Nat → Prop) (s : Rs) (k : Int) (M : Mem) (hs : RdS M p D s) (hl : s.b.length ≤ 4611686018427387904) :
    ∃ r M', ACall Try.prog 90 #[.pointer (some ⟨p, 0, none⟩), .int .i64 k] M r M' ∧ GrewX p M M' ∧ RdS M' p D (takeS s k).1 ∧ RowB M' r (takeS s k).2 ∧ Apart r p := by
  obtain ⟨vb, hh, hv, hDp, hD⟩ := hs
  have hap := hD p hDp
  obtain ⟨bs, code⟩ := s
  simp only at hh hv hl
  refine ACall.fin (args := [.pointer (some ⟨p, 0, none⟩), .int .i64 k]) (k := 49) (rs := [.tmp 4]) Try.func90 rfl rfl rfl (Nat.le_of_ble_eq_true rfl) ?_
  refine AWP.stepR [0, 1] fun K hK => ?_
  simp only [go_sem, Nat.reduceEqDiff, Nat.reduceLT, Nat.reduceAdd, Nat.reduceMul, Nat.reduceSub, Nat.add_zero, Nat.zero_add, Int.reduceEq, Int.reduceLT]
  refine hK _ _ _ (by simp only [go_sem, Nat.reduceEqDiff, Nat.reduceLT, Nat.reduceAdd, Nat.reduceMul, Nat.reduceSub, Nat.add_zero, Nat.zero_add, Int.reduceEq, Int.reduceLT]; rfl) ?_; clear hK
  refine AWP.seq ?_
  obtain ⟨bad, hbd⟩ : ∃ bad, decide (code = 0 ∧ (k < 0 ∨ k > bs.length)) = bad := ⟨_, rfl⟩
  refine AWP.stepX [0, 1, 23] [(0, .pointer (some ⟨p, 0, none⟩)), (1, .int .i64 k), (23, .bool bad)] M (fun K hK => ?_) ?_
  · by_cases hc : code = 0
    · subst hc
      by_cases hk : k < 0
      · simp only [go_sem, Nat.reduceEqDiff, Nat.reduceLT, Nat.reduceAdd, Nat.reduceMul, Nat.reduceSub, Nat.add_zero, Nat.zero_add, Int.reduceEq, Int.reduceLT, ld_22, hh.ld, decide_eq_true hk, show ((0 : Int) == 0) = true from rfl]
        refine hK _ ?_
        simp only [go_sem, Nat.reduceEqDiff, Nat.reduceLT, Nat.reduceAdd, Nat.reduceMul, Nat.reduceSub, Nat.add_zero, Nat.zero_add, Int.reduceEq, Int.reduceLT]
        rw [← hbd, decide_eq_true (show (0 : Int) = 0 ∧ (k < 0 ∨ k > bs.length) from ⟨rfl, .inl hk⟩)]
      · simp only [go_sem, Nat.reduceEqDiff, Nat.reduceLT, Nat.reduceAdd, Nat.reduceMul, Nat.reduceSub, Nat.add_zero, Nat.zero_add, Int.reduceEq, Int.reduceLT, ld_22, ld_23, hh.ld, decide_eq_false hk, show ((0 : Int) == 0) = true from rfl, hv.row.len es_23]
        refine hK _ ?_
        simp only [go_sem, Nat.reduceEqDiff, Nat.reduceLT, Nat.reduceAdd, Nat.reduceMul, Nat.reduceSub, Nat.add_zero, Nat.zero_add, Int.reduceEq, Int.reduceLT]
        rw [← hbd, decide_eq_decide.2 (show (k > bs.length) ↔ ((0 : Int) = 0 ∧ (k < 0 ∨ k > bs.length)) from ⟨fun h => ⟨rfl, .inr h⟩, fun h => h.2.resolve_left hk⟩)]
    · simp only [go_sem, Nat.reduceEqDiff, Nat.reduceLT, Nat.reduceAdd, Nat.reduceMul, Nat.reduceSub, Nat.add_zero, Nat.zero_add, Int.reduceEq, Int.reduceLT, ld_22, hh.ld, show (code == 0) = false by simp [hc]]
      refine hK _ ?_
      simp only [go_sem, Nat.reduceEqDiff, Nat.reduceLT, Nat.reduceAdd, Nat.reduceMul, Nat.reduceSub, Nat.add_zero, Nat.zero_add, Int.reduceEq, Int.reduceLT]
      rw [← hbd, decide_eq_false (show ¬ (code = 0 ∧ (k < 0 ∨ k > bs.length)) from fun h => hc h.1)]
  by_cases hbad : code = 0 ∧ (k < 0 ∨ k > bs.length)
  · rw [← hbd, decide_eq_true hbad]
    refine AWP.cond_split rfl (fun h23 => ?_) fun h23 => ?_
    · have fs := st_cellX (o := 1) (v := .int .i64 3) hh rfl (show 1 < 2 by decide) rfl
      have fs : stV M p 1 1 (.int .i64 3) = some (M.put p ⟨[vb, .int .i64 3], 123, true⟩) := fs
      refine AWP.lastR fun K hK => ?_
      simp only [go_sem, Nat.reduceEqDiff, Nat.reduceLT, Nat.reduceAdd, Nat.reduceMul, Nat.reduceSub, Nat.add_zero, Nat.zero_add, Int.reduceEq, Int.reduceLT, st_22, fs]
      refine hK _ _ ?_; clear hK
      have hh2 : Has (M.put p ⟨[vb, .int .i64 3], 123, true⟩) p ⟨[vb, .int .i64 3], 123, true⟩ := Has.put hh.2 _
      have hg2 : GrewX p M (M.put p ⟨[vb, .int .i64 3], 123, true⟩) := (GrewX.refl p M).put hh.2 _
      refine AWP.seq ?_
      refine AWP.stepR [0, 1, 31] fun K hK => ?_
      simp only [go_sem, Nat.reduceEqDiff, Nat.reduceLT, Nat.reduceAdd, Nat.reduceMul, Nat.reduceSub, Nat.add_zero, Nat.zero_add, Int.reduceEq, Int.reduceLT, ld_22, hh2.ld, show ((3 : Int) != 0) = true from rfl]
      refine hK _ _ _ (by simp only [go_sem, Nat.reduceEqDiff, Nat.reduceLT, Nat.reduceAdd, Nat.reduceMul, Nat.reduceSub, Nat.add_zero, Nat.zero_add, Int.reduceEq, Int.reduceLT]; rfl) ?_; clear hK
      refine AWP.cond_split rfl (fun h31 => ?_) fun h31 => ?_
      · refine AWP.stepR [4] fun K hK => ?_
        simp only [go_sem, Nat.reduceEqDiff, Nat.reduceLT, Nat.reduceAdd, Nat.reduceMul, Nat.reduceSub, Nat.add_zero, Nat.zero_add, Int.reduceEq, Int.reduceLT]
        refine hK _ _ _ (by simp only [go_sem, Nat.reduceEqDiff, Nat.reduceLT, Nat.reduceAdd, Nat.reduceMul, Nat.reduceSub, Nat.add_zero, Nat.zero_add, Int.reduceEq, Int.reduceLT]; rfl) ?_; clear hK
        refine AWP.ret (Then.ret (?_))
        refine Fin.keep (.inr rfl) rfl ⟨hg2, ?_⟩
        have e : takeS ⟨bs, code⟩ k = (⟨bs, 3⟩, []) := by rw [takeS, if_pos hbad.1, if_pos hbad.2]
        rw [e]
        exact ⟨⟨vb, hh2, hv.x hg2 hap, hDp, hD⟩, Row_.nil _, Apart.nil p⟩
      · cases h31
    · cases h23
  · rw [← hbd, decide_eq_false hbad]
    refine AWP.cond_split rfl (fun h23 => ?_) fun h23 => ?_
    · cases h23
    · refine AWP.skip ?_
      refine AWP.seq ?_
      by_cases hc : code = 0
      · subst hc
        obtain ⟨kn, rfl⟩ : ∃ kn : Nat, k = kn := ⟨k.toNat, by omega⟩
        have hkn : kn ≤ bs.length := by omega
        obtain ⟨⟨v1, f1, hr1, ha1⟩, v2, f2, hr2, ha2⟩ := slice_23 hv hkn
        have fs : stV M p 0 1 v2 = some (M.put p ⟨[v2, .int .i64 0], 123, true⟩) := st_cellX (o := 0) hh rfl (show 0 < 2 by decide) hr2.row.one
        refine AWP.stepR [0, 1, 31] fun K hK => ?_
        simp only [go_sem, Nat.reduceEqDiff, Nat.reduceLT, Nat.reduceAdd, Nat.reduceMul, Nat.reduceSub, Nat.add_zero, Nat.zero_add, Int.reduceEq, Int.reduceLT, ld_22, hh.ld, show ((0 : Int) != 0) = false from rfl]
        refine hK _ _ _ (by simp only [go_sem, Nat.reduceEqDiff, Nat.reduceLT, Nat.reduceAdd, Nat.reduceMul, Nat.reduceSub, Nat.add_zero, Nat.zero_add, Int.reduceEq, Int.reduceLT]; rfl) ?_; clear hK
        refine AWP.cond_split rfl (fun h31 => ?_) fun h31 => ?_
        · cases h31
        · refine AWP.skip ?_
          refine AWP.stepR [0, 1, 5] fun K hK => ?_
          simp only [go_sem, Nat.reduceEqDiff, Nat.reduceLT, Nat.reduceAdd, Nat.reduceMul, Nat.reduceSub, Nat.add_zero, Nat.zero_add, Int.reduceEq, Int.reduceLT, ld_23, hh.ld, Option.map_some, f1]
          refine hK _ _ _ (by simp only [go_sem, Nat.reduceEqDiff, Nat.reduceLT, Nat.reduceAdd, Nat.reduceMul, Nat.reduceSub, Nat.add_zero, Nat.zero_add, Int.reduceEq, Int.reduceLT]; rfl) ?_; clear hK
          refine AWP.stepR [5] fun K hK => ?_
          simp only [go_sem, Nat.reduceEqDiff, Nat.reduceLT, Nat.reduceAdd, Nat.reduceMul, Nat.reduceSub, Nat.add_zero, Nat.zero_add, Int.reduceEq, Int.reduceLT, ld_23, hh.ld, Option.map_some, f2, st_23, fs]
          refine hK _ _ _ (by simp only [go_sem, Nat.reduceEqDiff, Nat.reduceLT, Nat.reduceAdd, Nat.reduceMul, Nat.reduceSub, Nat.add_zero, Nat.zero_add, Int.reduceEq, Int.reduceLT]; rfl) ?_; clear hK
          refine AWP.stepR [4] fun K hK => ?_
          simp only [go_sem, Nat.reduceEqDiff, Nat.reduceLT, Nat.reduceAdd, Nat.reduceMul, Nat.reduceSub, Nat.add_zero, Nat.zero_add, Int.reduceEq, Int.reduceLT]
          refine hK _ _ _ (by simp only [go_sem, Nat.reduceEqDiff, Nat.reduceLT, Nat.reduceAdd, Nat.reduceMul, Nat.reduceSub, Nat.add_zero, Nat.zero_add, Int.reduceEq, Int.reduceLT]; rfl) ?_; clear hK
          have hh2 : Has (M.put p ⟨[v2, .int .i64 0], 123, true⟩) p ⟨[v2, .int .i64 0], 123, true⟩ := Has.put hh.2 _
          have hg2 : GrewX p M (M.put p ⟨[v2, .int .i64 0], 123, true⟩) := (GrewX.refl p M).put hh.2 _
          refine AWP.ret (?_)
          refine Fin.keep (.inr rfl) rfl ⟨hg2, ?_⟩
          have e : takeS ⟨bs, 0⟩ kn = (⟨bs.drop kn, 0⟩, bs.take kn) := by rw [takeS, if_pos rfl, if_neg (by simpa using hbad)]; simp
          rw [e]
          exact ⟨⟨v2, hh2, hr2.x hg2 (ha2 p hap), hDp, fun j hj => ha2 j (hD j hj)⟩, hr1.row.x hg2 (ha1 p hap), ha1 p hap⟩
      · refine AWP.stepR [0, 1, 31] fun K hK => ?_
        simp only [go_sem, Nat.reduceEqDiff, Nat.reduceLT, Nat.reduceAdd, Nat.reduceMul, Nat.reduceSub, Nat.add_zero, Nat.zero_add, Int.reduceEq, Int.reduceLT, ld_22, hh.ld, show (code != 0) = true by simp [hc]]
        refine hK _ _ _ (by simp only [go_sem, Nat.reduceEqDiff, Nat.reduceLT, Nat.reduceAdd, Nat.reduceMul, Nat.reduceSub, Nat.add_zero, Nat.zero_add, Int.reduceEq, Int.reduceLT]; rfl) ?_; clear hK
        refine AWP.cond_split rfl (fun h31 => ?_) fun h31 => ?_
        · refine AWP.stepR [4] fun K hK => ?_
          simp only [go_sem, Nat.reduceEqDiff, Nat.reduceLT, Nat.reduceAdd, Nat.reduceMul, Nat.reduceSub, Nat.add_zero, Nat.zero_add, Int.reduceEq, Int.reduceLT]
          refine hK _ _ _ (by simp only [go_sem, Nat.reduceEqDiff, Nat.reduceLT, Nat.reduceAdd, Nat.reduceMul, Nat.reduceSub, Nat.add_zero, Nat.zero_add, Int.reduceEq, Int.reduceLT]; rfl) ?_; clear hK
          refine AWP.ret (Then.ret (?_))
          refine Fin.keep (.inr rfl) rfl ⟨GrewX.refl p M, ?_⟩
          have e : takeS ⟨bs, code⟩ k = (⟨bs, code⟩, []) := by rw [takeS, if_neg hc]
          rw [e]
          exact ⟨⟨vb, hh, hv, hDp, hD⟩, Row_.nil _, Apart.nil p⟩
        · cases h31
end Go.Proofs.Ythheaehpnleiaaa.AX

/- A reader of bytes: numbers, bytes. -/
namespace Go.Proofs.Ythheaehpnleiaaa.AX
open Go Go.Proofs
set_option maxRecDepth 100000
set_option linter.unusedVariables false
set_option linter.unusedSimpArgs false

def BytB (l : List Int) : Prop := ∀ x, x ∈ l → 0 ≤ x ∧ x < 256
/-- a number of bytes, the highest first -/
def numN (l : List Int) : Int := l.foldl (fun n c => n * 256 + c) 0
theorem numN_nil : numN [] = 0 := rfl
theorem numN_snoc (l : List Int) (c : Int) : numN (l ++ [c]) = numN l * 256 + c := by simp [numN, List.foldl_append]
theorem numN_bound {l : List Int} (h : BytB l) : ∀ n, 0 ≤ numN (l.take n) ∧ numN (l.take n) < 256 ^ (l.take n).length := by
  intro n
  induction n with
  | zero => simp [numN]
  | succ n ih =>
    by_cases hn : n < l.length
    · rw [List.take_succ_eq_append_getElem hn, numN_snoc]
      have := h l[n] (List.getElem_mem hn)
      rw [List.length_append, List.length_singleton, Int.pow_succ]
      omega
    · rw [List.take_of_length_le (by omega)] at ih ⊢; exact ih
theorem u64w {n : Int} (h : 0 ≤ n) (h' : n < 18446744073709551616) : IntKind.u64.wrap n = n := by simp [IntKind.wrap, IntKind.signed, IntKind.bits, IntKind.min, IntKind.max]; omega
theorem pow256 {n : Nat} (h : n ≤ 7) : (256 : Int) ^ n ≤ 72057594037927936 := by
  have : ∀ m, m ≤ 7 → (256 : Int) ^ m ≤ 72057594037927936 := by decide
  exact this n h
theorem or_low (n c : Int) (h0 : 0 ≤ n) (h1 : n < 72057594037927936) (h2 : 0 ≤ c) (h3 : c < 256) : ((BitVec.ofInt 64 (n * 256) ||| BitVec.ofInt 64 c).toNat : Int) = n * 256 + c := by
  rw [BitVec.toNat_or, BitVec.toNat_ofInt, BitVec.toNat_ofInt]
  have e1 : ((n * 256) % ((2 ^ 64 : Nat) : Int)).toNat = 2 ^ 8 * n.toNat := by
    rw [Int.emod_eq_of_lt (by omega) (by norm_cast; omega)]; omega
  have e2 : (c % ((2 ^ 64 : Nat) : Int)).toNat = c.toNat := by
    rw [Int.emod_eq_of_lt (by omega) (by norm_cast; omega)]
  rw [e1, e2, ← Nat.two_pow_add_eq_or_of_lt (by omega)]
  omega

theorem get99_spec (v : Value) (l : List Int) (M : Mem) (hok : Ok M) (hv : RowB M v l) (hb : BytB l) (hl : l.length ≤ 8) : ∃ r M', ACall Try.prog 99 #[v] M r M' ∧ r = .int .u64 (numN l) ∧ M' = M := by
  refine ACall.fin (args := [v]) (k := 19) (rs := [.tmp 2]) Try.func99 rfl rfl rfl (Nat.le_of_ble_eq_true rfl) ?_
  refine AWP.stepR [0] fun K hK => ?_
  simp only [go_sem, Nat.reduceEqDiff, Nat.reduceLT, Nat.reduceAdd, Nat.reduceMul, Nat.reduceSub, Nat.add_zero, Nat.zero_add, Int.reduceEq, Int.reduceLT]
  refine hK _ _ _ (by simp only [go_sem, Nat.reduceEqDiff, Nat.reduceLT, Nat.reduceAdd, Nat.reduceMul, Nat.reduceSub, Nat.add_zero, Nat.zero_add, Int.reduceEq, Int.reduceLT]; rfl) ?_; clear hK
  refine AWP.stepR [0, 3] fun K hK => ?_
  simp only [go_sem, Nat.reduceEqDiff, Nat.reduceLT, Nat.reduceAdd, Nat.reduceMul, Nat.reduceSub, Nat.add_zero, Nat.zero_add, Int.reduceEq, Int.reduceLT]
  refine hK _ _ _ (by simp only [go_sem, Nat.reduceEqDiff, Nat.reduceLT, Nat.reduceAdd, Nat.reduceMul, Nat.reduceSub, Nat.add_zero, Nat.zero_add, Int.reduceEq, Int.reduceLT]; rfl) ?_; clear hK
  refine AWP.seq ?_
  refine AWP.stepR [3, 6, 7, 8] fun K hK => ?_
  simp only [go_sem, Nat.reduceEqDiff, Nat.reduceLT, Nat.reduceAdd, Nat.reduceMul, Nat.reduceSub, Nat.add_zero, Nat.zero_add, Int.reduceEq, Int.reduceLT, hv.len es_23]
  refine hK _ _ _ (by simp only [go_sem, Nat.reduceEqDiff, Nat.reduceLT, Nat.reduceAdd, Nat.reduceMul, Nat.reduceSub, Nat.add_zero, Nat.zero_add, Int.reduceEq, Int.reduceLT]; rfl) ?_; clear hK
  refine AWP.block ?_ -- b0
  refine AWP.loopK [3, 6, 7, 8] (fun n e M0 => M0 = M ∧ n ≤ l.length ∧ e = [(3, .int .u64 (numN (l.take (l.length - n)))), (6, v), (7, .int .i64 l.length), (8, .int .i64 ((l.length - n : Nat) : Int))]) l.length ?_ fun n e M0 hI => ?_ -- LOOP
  · simp only [go_sem, Nat.reduceEqDiff, Nat.reduceLT, Nat.reduceAdd, Nat.reduceMul, Nat.reduceSub, Nat.add_zero, Nat.zero_add, Int.reduceEq, Int.reduceLT, true_and, Nat.le_refl]
    simp [numN]
  obtain ⟨rfl, hn, rfl⟩ := hI
  refine AWP.stepR [3, 6, 7, 8, 9] fun K hK => ?_
  simp only [go_sem, Nat.reduceEqDiff, Nat.reduceLT, Nat.reduceAdd, Nat.reduceMul, Nat.reduceSub, Nat.add_zero, Nat.zero_add, Int.reduceEq, Int.reduceLT]
  refine hK _ _ _ (by simp only [go_sem, Nat.reduceEqDiff, Nat.reduceLT, Nat.reduceAdd, Nat.reduceMul, Nat.reduceSub, Nat.add_zero, Nat.zero_add, Int.reduceEq, Int.reduceLT]; rfl) ?_; clear hK
  refine AWP.condS rfl (fun h9 => ?_) fun h9 => ?_
  · have hlt : l.length - n < l.length := by simpa using h9
    obtain ⟨b, q, ha, hd⟩ := hv.at1 (by simp [cB]) es_23 hlt
    have hd := hd M0 (Grew.refl _)
    rw [show (cB l)[l.length - n]? = some (.int .u8 l[l.length - n]) by simp [cB, hlt]] at hd
    have hx := hb _ (List.getElem_mem hlt)
    have hst := List.take_succ_eq_append_getElem hlt
    have hbd := numN_bound hb (l.length - n)
    have hp := pow256 (n := (l.take (l.length - n)).length) (by rw [List.length_take]; omega)
    generalize l[l.length - n] = x at hd hx hst
    refine AWP.skip ?_
    refine AWP.seq ?_
    refine AWP.block ?_ -- b1
    refine AWP.stepR [3, 5, 6, 7, 8] fun K hK => ?_
    simp only [go_sem, Nat.reduceEqDiff, Nat.reduceLT, Nat.reduceAdd, Nat.reduceMul, Nat.reduceSub, Nat.add_zero, Nat.zero_add, Int.reduceEq, Int.reduceLT, ha, hd, ld_5]
    refine hK _ _ _ (by simp only [go_sem, Nat.reduceEqDiff, Nat.reduceLT, Nat.reduceAdd, Nat.reduceMul, Nat.reduceSub, Nat.add_zero, Nat.zero_add, Int.reduceEq, Int.reduceLT]; rfl) ?_; clear hK
    refine AWP.lastR fun K hK => ?_
    simp only [go_sem, Nat.reduceEqDiff, Nat.reduceLT, Nat.reduceAdd, Nat.reduceMul, Nat.reduceSub, Nat.add_zero, Nat.zero_add, Int.reduceEq, Int.reduceLT]
    refine hK _ _ ?_; clear hK
    refine AWP.lastR fun K hK => ?_
    simp only [go_sem, Nat.reduceEqDiff, Nat.reduceLT, Nat.reduceAdd, Nat.reduceMul, Nat.reduceSub, Nat.add_zero, Nat.zero_add, Int.reduceEq, Int.reduceLT]
    refine hK _ _ ?_; clear hK
    refine ⟨n - 1, by omega, rfl, by omega, ?_⟩ -- ROUND
    simp only [go_sem, Nat.reduceEqDiff, Nat.reduceLT, Nat.reduceAdd, Nat.reduceMul, Nat.reduceSub, Nat.add_zero, Nat.zero_add, Int.reduceEq, Int.reduceLT]
    have e1 : IntKind.u64.wrap ((BitVec.ofInt 64 (IntKind.u64.wrap (numN (l.take (l.length - n)) * 256)) ||| BitVec.ofInt 64 (IntKind.u64.wrap x)).toNat : Int) = numN (l.take (l.length - (n - 1))) := by
      rw [u64w (n := x) hx.1 (by omega), u64w (n := numN (l.take (l.length - n)) * 256) (by omega) (by omega), or_low _ _ hbd.1 (by omega) hx.1 hx.2, u64w (by omega) (by omega), show l.length - (n - 1) = l.length - n + 1 by omega, hst, numN_snoc]
    have e2 : IntKind.i64.wrap (((l.length - n : Nat) : Int) + 1) = ((l.length - (n - 1) : Nat) : Int) := by rw [i64w (by omega) (by omega)]; omega
    have e3 : ∀ a b a' b' : Int, a = a' → b = b' → [(3, Value.int .u64 a), (6, v), (7, .int .i64 l.length), (8, .int .i64 b)] = [(3, Value.int .u64 a'), (6, v), (7, .int .i64 l.length), (8, .int .i64 b')] := by rintro _ _ _ _ rfl rfl; rfl
    exact e3 _ _ _ _ e1 e2
  · refine AWP.exit (Then.exit (Then.exit (InBlock.same ?_)))
    have hn0 : n = 0 := by simp at h9; omega
    subst hn0
    rw [Nat.sub_zero, List.take_length]
    refine AWP.stepR [2] fun K hK => ?_
    simp only [go_sem, Nat.reduceEqDiff, Nat.reduceLT, Nat.reduceAdd, Nat.reduceMul, Nat.reduceSub, Nat.add_zero, Nat.zero_add, Int.reduceEq, Int.reduceLT]
    refine hK _ _ _ (by simp only [go_sem, Nat.reduceEqDiff, Nat.reduceLT, Nat.reduceAdd, Nat.reduceMul, Nat.reduceSub, Nat.add_zero, Nat.zero_add, Int.reduceEq, Int.reduceLT]; rfl) ?_; clear hK
    refine AWP.ret (?_)
    exact Fin.plain (.inr rfl) rfl rfl hok (Grew.refl _) ⟨rfl, rfl⟩

/-! ### parts, one behind the other, in new memory -/
def CapOk (v : Value) : Prop := ∃ id n c, v = .slice (some ⟨id, 0, none⟩) n c ∧ (c = unk ∨ n ≤ c)
theorem CapOk.app {P : Program} {M M' : Mem} {t tx : TypeId} {s x v : Value} (hs : CapOk s) (h : appendE P M t tx s x = some (v, M')) : CapOk v := by
  have hg : ∀ N e c k w, grownE P N e c k = (v, w) → CapOk v := fun N e c k w h => by
    cases h; exact ⟨_, _, _, rfl, .inl rfl⟩
  unfold appendE at h
  repeat' split at h
  all_goals first | cases h; done | (simp only [Option.some.injEq, Prod.mk.injEq] at h; obtain ⟨rfl, _⟩ := h; exact hs) | (injection h with h; exact hg _ _ _ _ _ h)
theorem joinE37_spec (v : Value) (vs : List Value) (ls : List (List Int)) (M : Mem) (hok : Ok M) (hv : Row_ M v vs.length vs) (hp : Parts M vs ls) (hl : ls.flatten.length ≤ 1099511627776) (hn : vs.length ≤ 1099511627776) :
    ∃ r M', ACall Try.prog 37 #[v] M r M' ∧ Grew M M' ∧ OwnB M M' r ls.flatten 5 ∧ CapOk r := by
  refine ACall.fin (args := [v]) (k := 33) Try.func37 rfl rfl rfl (Nat.le_of_ble_eq_true rfl) ?_
  refine AWP.stepR [0] fun K hK => ?_ -- r0
  simp only [go_sem, Nat.reduceEqDiff, Nat.reduceLT, Nat.reduceAdd, Nat.reduceMul, Nat.reduceSub, Nat.add_zero, Nat.zero_add, Int.reduceEq, Int.reduceLT]
  refine hK _ _ _ (by simp only [go_sem, Nat.reduceEqDiff, Nat.reduceLT, Nat.reduceAdd, Nat.reduceMul, Nat.reduceSub, Nat.add_zero, Nat.zero_add, Int.reduceEq, Int.reduceLT]; rfl) ?_; clear hK
  refine AWP.stepR [0, 3] fun K hK => ?_ -- r1
  simp only [go_sem, Nat.reduceEqDiff, Nat.reduceLT, Nat.reduceAdd, Nat.reduceMul, Nat.reduceSub, Nat.add_zero, Nat.zero_add, Int.reduceEq, Int.reduceLT]
  refine hK _ _ _ (by simp only [go_sem, Nat.reduceEqDiff, Nat.reduceLT, Nat.reduceAdd, Nat.reduceMul, Nat.reduceSub, Nat.add_zero, Nat.zero_add, Int.reduceEq, Int.reduceLT]; rfl) ?_; clear hK
  refine AWP.seq ?_
  refine AWP.stepR [0, 3, 9, 10, 11] fun K hK => ?_ -- r2
  simp only [go_sem, Nat.reduceEqDiff, Nat.reduceLT, Nat.reduceAdd, Nat.reduceMul, Nat.reduceSub, Nat.add_zero, Nat.zero_add, Int.reduceEq, Int.reduceLT, hv.len es_121]
  refine hK _ _ _ (by simp only [go_sem, Nat.reduceEqDiff, Nat.reduceLT, Nat.reduceAdd, Nat.reduceMul, Nat.reduceSub, Nat.add_zero, Nat.zero_add, Int.reduceEq, Int.reduceLT]; rfl) ?_; clear hK
  refine AWP.block ?_ -- b0
  refine AWP.loopK [0, 3, 9, 10, 11] (fun n e M0 => M0 = M ∧ n ≤ vs.length ∧ e = [(0, v), (3, .int .i64 ((ls.take (vs.length - n)).flatten.length : Nat)), (9, v), (10, .int .i64 vs.length), (11, .int .i64 ((vs.length - n : Nat) : Int))]) vs.length ?_ fun n e M0 hI => ?_ -- LOOP
  · simp only [go_sem, Nat.reduceEqDiff, Nat.reduceLT, Nat.reduceAdd, Nat.reduceMul, Nat.reduceSub, Nat.add_zero, Nat.zero_add, Int.reduceEq, Int.reduceLT, Nat.le_refl]
    simp
  obtain ⟨rfl, hn', rfl⟩ := hI
  refine AWP.stepR [0, 3, 9, 10, 11, 12] fun K hK => ?_ -- r3
  simp only [go_sem, Nat.reduceEqDiff, Nat.reduceLT, Nat.reduceAdd, Nat.reduceMul, Nat.reduceSub, Nat.add_zero, Nat.zero_add, Int.reduceEq, Int.reduceLT]
  refine hK _ _ _ (by simp only [go_sem, Nat.reduceEqDiff, Nat.reduceLT, Nat.reduceAdd, Nat.reduceMul, Nat.reduceSub, Nat.add_zero, Nat.zero_add, Int.reduceEq, Int.reduceLT]; rfl) ?_; clear hK
  refine AWP.condS rfl (fun h12 => ?_) fun h12 => ?_
  · have hlt : vs.length - n < vs.length := by simpa using h12
    have hlt' : vs.length - n < ls.length := by rw [← hp.1]; exact hlt
    obtain ⟨b, q, ha, hd⟩ := hv.at1 rfl es_121 hlt
    have hd := hd M0 (Grew.refl _)
    rw [List.getElem?_eq_getElem hlt] at hd
    have hx := hp.2 _ _ _ (List.getElem?_eq_getElem hlt) (List.getElem?_eq_getElem hlt')
    generalize vs[vs.length - n] = x at hd hx
    refine AWP.skip ?_
    refine AWP.seq ?_
    refine AWP.block ?_ -- b1
    refine AWP.stepR [0, 3, 5, 9, 10, 11] fun K hK => ?_ -- r4
    simp only [go_sem, Nat.reduceEqDiff, Nat.reduceLT, Nat.reduceAdd, Nat.reduceMul, Nat.reduceSub, Nat.add_zero, Nat.zero_add, Int.reduceEq, Int.reduceLT, ha, ld_23, hd]
    refine hK _ _ _ (by simp only [go_sem, Nat.reduceEqDiff, Nat.reduceLT, Nat.reduceAdd, Nat.reduceMul, Nat.reduceSub, Nat.add_zero, Nat.zero_add, Int.reduceEq, Int.reduceLT]; rfl) ?_; clear hK
    refine AWP.lastR fun K hK => ?_ -- r5
    simp only [go_sem, Nat.reduceEqDiff, Nat.reduceLT, Nat.reduceAdd, Nat.reduceMul, Nat.reduceSub, Nat.add_zero, Nat.zero_add, Int.reduceEq, Int.reduceLT, hx.len es_23]
    refine hK _ _ ?_; clear hK
    refine AWP.lastR fun K hK => ?_ -- r6
    simp only [go_sem, Nat.reduceEqDiff, Nat.reduceLT, Nat.reduceAdd, Nat.reduceMul, Nat.reduceSub, Nat.add_zero, Nat.zero_add, Int.reduceEq, Int.reduceLT]
    refine hK _ _ ?_; clear hK
    have hfl := take_flat ls hlt'
    have hfe : (ls.take (vs.length - n)).flatten.length + ls[vs.length - n].length = (ls.take (vs.length - n + 1)).flatten.length := by rw [hfl, List.length_append]
    have hfle := flat_le ls (vs.length - n + 1)
    refine ⟨n - 1, by omega, rfl, by omega, ?_⟩ -- ROUND
    simp only [go_sem, Nat.reduceEqDiff, Nat.reduceLT, Nat.reduceAdd, Nat.reduceMul, Nat.reduceSub, Nat.add_zero, Nat.zero_add, Int.reduceEq, Int.reduceLT]
    rw [i64w (by omega) (by omega), i64w (by omega) (by omega), show ((vs.length - n : Nat) : Int) + 1 = ((vs.length - (n - 1) : Nat) : Int) by omega,
      show (((ls.take (vs.length - n)).flatten.length : Nat) : Int) + ((ls[vs.length - n].length : Nat) : Int) = (((ls.take (vs.length - (n - 1))).flatten.length : Nat) : Int) by rw [show vs.length - (n - 1) = vs.length - n + 1 by omega]; omega]
  · refine AWP.exit (Then.exit (Then.exit (InBlock.same ?_))) -- x0
    have hn0 : n = 0 := by simp at h12; omega
    subst hn0
    rw [Nat.sub_zero, hp.1, List.take_length]
    have hms : (0 ≤ (0 : Int) ∧ (0 : Int) ≤ (ls.flatten.length : Int) ∧ (ls.flatten.length : Int) ≤ 281474976710656 ∧ ((1 : Nat) : Int) * (ls.flatten.length : Int) ≤ 281474976710656) = True := eq_true ⟨by omega, by omega, by omega, by omega⟩
    refine AWP.stepR [0, 6] fun K hK => ?_ -- r7
    simp only [go_sem, Nat.reduceEqDiff, Nat.reduceLT, Nat.reduceAdd, Nat.reduceMul, Nat.reduceSub, Nat.add_zero, Nat.zero_add, Int.reduceEq, Int.reduceLT, hms, Int.toNat_natCast, Int.toNat_zero]
    refine hK _ _ _ (by simp only [go_sem, Nat.reduceEqDiff, Nat.reduceLT, Nat.reduceAdd, Nat.reduceMul, Nat.reduceSub, Nat.add_zero, Nat.zero_add, Int.reduceEq, Int.reduceLT]; rfl) ?_; clear hK
    have hlt0 : M0.next < (M0.bump 1).next := Nat.lt_succ_self _
    generalize hM1 : (M0.bump 1).put M0.next ⟨zrow Try.prog 5 ls.flatten.length, 5, true⟩ = M1
    have hg1 : Grew M0 M1 := by rw [← hM1]; exact ((Grew.refl M0).bump 1).put (Nat.le_refl _) hlt0 _
    have ho1 : Own M0 M1 (.slice (some ⟨M0.next, 0, none⟩) 0 ls.flatten.length) 0 [] 5 := .inr ⟨M0.next, _, _, Nat.le_refl _, by rw [← hM1]; exact hlt0, rfl, by rw [← hM1, Mem.get_put, if_pos rfl], rfl, rfl, .inl ⟨rfl, rfl⟩⟩
    have hcap0 : CapOk (.slice (some ⟨M0.next, 0, none⟩) 0 ls.flatten.length) := ⟨_, _, _, rfl, .inr (Nat.zero_le _)⟩
    generalize Value.slice (some ⟨M0.next, 0, none⟩) 0 ls.flatten.length = b0 at ho1 hcap0
    refine AWP.seq ?_
    refine AWP.stepR [6, 22, 23, 24] fun K hK => ?_ -- r8
    simp only [go_sem, Nat.reduceEqDiff, Nat.reduceLT, Nat.reduceAdd, Nat.reduceMul, Nat.reduceSub, Nat.add_zero, Nat.zero_add, Int.reduceEq, Int.reduceLT, hv.len es_121]
    refine hK _ _ _ (by simp only [go_sem, Nat.reduceEqDiff, Nat.reduceLT, Nat.reduceAdd, Nat.reduceMul, Nat.reduceSub, Nat.add_zero, Nat.zero_add, Int.reduceEq, Int.reduceLT]; rfl) ?_; clear hK
    refine AWP.block ?_ -- b2
    refine AWP.loopK [6, 22, 23, 24] (fun n e M2 => n ≤ vs.length ∧ Grew M0 M2 ∧ ∃ bv, e = [(6, bv), (22, v), (23, .int .i64 vs.length), (24, .int .i64 ((vs.length - n : Nat) : Int))] ∧ OwnB M0 M2 bv (ls.take (vs.length - n)).flatten 5 ∧ CapOk bv) vs.length ?_ fun n e M2 hI => ?_ -- LOOP
    · simp only [go_sem, Nat.reduceEqDiff, Nat.reduceLT, Nat.reduceAdd, Nat.reduceMul, Nat.reduceSub, Nat.add_zero, Nat.zero_add, Int.reduceEq, Int.reduceLT, Nat.le_refl]
      exact ⟨hg1, b0, by simp, by rw [Nat.sub_self]; exact ho1, hcap0⟩
    obtain ⟨hn', hg2, bv, rfl, ho2, hcap⟩ := hI
    refine AWP.stepR [6, 22, 23, 24, 25] fun K hK => ?_ -- r9
    simp only [go_sem, Nat.reduceEqDiff, Nat.reduceLT, Nat.reduceAdd, Nat.reduceMul, Nat.reduceSub, Nat.add_zero, Nat.zero_add, Int.reduceEq, Int.reduceLT]
    refine hK _ _ _ (by simp only [go_sem, Nat.reduceEqDiff, Nat.reduceLT, Nat.reduceAdd, Nat.reduceMul, Nat.reduceSub, Nat.add_zero, Nat.zero_add, Int.reduceEq, Int.reduceLT]; rfl) ?_; clear hK
    refine AWP.condS rfl (fun h25 => ?_) fun h25 => ?_
    · have hlt : vs.length - n < vs.length := by simpa using h25
      have hlt' : vs.length - n < ls.length := by rw [← hp.1]; exact hlt
      obtain ⟨b, q, ha, hd⟩ := hv.at1 rfl es_121 hlt
      have hd := hd M2 hg2
      rw [List.getElem?_eq_getElem hlt] at hd
      have hx := (hp.2 _ _ _ (List.getElem?_eq_getElem hlt) (List.getElem?_eq_getElem hlt')).grew hg2
      generalize vs[vs.length - n] = x at hd hx
      have hfl := take_flat ls hlt'
      have hfe : (ls.take (vs.length - n)).flatten.length + ls[vs.length - n].length = (ls.take (vs.length - n + 1)).flatten.length := by rw [hfl, List.length_append]
      have hfle := flat_le ls (vs.length - n + 1)
      refine AWP.skip ?_
      refine AWP.seq ?_
      refine AWP.block ?_ -- b3
      refine AWP.stepR [6, 8, 22, 23, 24] fun K hK => ?_ -- r10
      simp only [go_sem, Nat.reduceEqDiff, Nat.reduceLT, Nat.reduceAdd, Nat.reduceMul, Nat.reduceSub, Nat.add_zero, Nat.zero_add, Int.reduceEq, Int.reduceLT, ha, ld_23, hd]
      refine hK _ _ _ (by simp only [go_sem, Nat.reduceEqDiff, Nat.reduceLT, Nat.reduceAdd, Nat.reduceMul, Nat.reduceSub, Nat.add_zero, Nat.zero_add, Int.reduceEq, Int.reduceLT]; rfl) ?_; clear hK
      obtain ⟨v2, M3, happ, ho3, hg3, hnx, hfr⟩ := Own.append ap_23_23 hg2 ho2 (by rw [cB_length, Nat.mul_one]) (hx.content (by rw [cB_length, Nat.mul_one])) (cB_one _) (by omega)
      refine AWP.lastR fun K hK => ?_ -- r11
      simp only [go_sem, Nat.reduceEqDiff, Nat.reduceLT, Nat.reduceAdd, Nat.reduceMul, Nat.reduceSub, Nat.add_zero, Nat.zero_add, Int.reduceEq, Int.reduceLT, happ]
      refine hK _ _ ?_; clear hK
      refine AWP.lastR fun K hK => ?_ -- r12
      simp only [go_sem, Nat.reduceEqDiff, Nat.reduceLT, Nat.reduceAdd, Nat.reduceMul, Nat.reduceSub, Nat.add_zero, Nat.zero_add, Int.reduceEq, Int.reduceLT]
      refine hK _ _ ?_; clear hK
      refine ⟨n - 1, by omega, by omega, hg3, v2, ?_, ?_, CapOk.app hcap happ⟩ -- ROUND
      · simp only [go_sem, Nat.reduceEqDiff, Nat.reduceLT, Nat.reduceAdd, Nat.reduceMul, Nat.reduceSub, Nat.add_zero, Nat.zero_add, Int.reduceEq, Int.reduceLT]
        rw [i64w (by omega) (by omega), show ((vs.length - n : Nat) : Int) + 1 = ((vs.length - (n - 1) : Nat) : Int) by omega]
      · rw [hfe, ← cB_append, ← hfl] at ho3
        rw [show vs.length - (n - 1) = vs.length - n + 1 by omega]
        exact ho3
    · refine AWP.exit (Then.exit (Then.exit (InBlock.same ?_))) -- x2
      have hn0 : n = 0 := by simp at h25; omega
      subst hn0
      rw [Nat.sub_zero, hp.1, List.take_length] at ho2
      refine AWP.stepR [2] fun K hK => ?_ -- r13
      simp only [go_sem, Nat.reduceEqDiff, Nat.reduceLT, Nat.reduceAdd, Nat.reduceMul, Nat.reduceSub, Nat.add_zero, Nat.zero_add, Int.reduceEq, Int.reduceLT]
      refine hK _ _ _ (by simp only [go_sem, Nat.reduceEqDiff, Nat.reduceLT, Nat.reduceAdd, Nat.reduceMul, Nat.reduceSub, Nat.add_zero, Nat.zero_add, Int.reduceEq, Int.reduceLT]; rfl) ?_; clear hK
      refine AWP.ret (?_)
      exact Fin.keep (.inr rfl) rfl ⟨hg2, ho2, hcap⟩

theorem RowE.own {M M1 : Mem} {v : Value} {l : List Int} (h : OwnB M M1 v l 5) (hc : CapOk v) : RowE M1 v l.length (cB l) 5 := by
  obtain ⟨id, n, c, rfl, hn⟩ := hc
  rcases h with ⟨h, _⟩ | ⟨id', c', blk, h0, h1, h2, h3, h4, h5, h6⟩
  · cases h
  · cases h2
    refine ⟨_, 0, _, blk, rfl, hn, ⟨h3, h1⟩, h5, ?_, ?_⟩
    · rcases h6 with ⟨_, h6⟩ | h6
      · rw [h6]; simp
      · rw [h6]; omega
    · rcases h6 with ⟨_, h6⟩ | h6
      · rw [h6]; simp
      · rw [h6]; simp
theorem CapOk.apart {M M1 : Mem} {v : Value} {n : Nat} {cells : List Value} {e : TypeId} (h : Own M M1 v n cells e) {p : Nat} (hp : p < M.next) : Apart v p := h.apart (.inl hp)
end Go.Proofs.Ythheaehpnleiaaa.AX

/- The reader's methods. -/
namespace Go.Proofs.Ythheaehpnleiaaa.AX
open Go Go.Proofs
set_option maxRecDepth 100000
set_option linter.unusedVariables false
set_option linter.unusedSimpArgs false

def numS (s : Rs) (k : Int) : Rs × Int := ((takeS s k).1, numN (takeS s k).2)
def failS (s : Rs) (c : Int) : Rs := if s.code = 0 then ⟨s.b, c⟩ else s
theorem takeS_bytes {s : Rs} (h : BytB s.b) (k : Int) : BytB (takeS s k).1.b ∧ BytB (takeS s k).2 := by
  unfold takeS
  split
  · split
    · exact ⟨h, fun x hx => by cases hx⟩
    · exact ⟨fun x hx => h x (List.mem_of_mem_drop hx), fun x hx => h x (List.mem_of_mem_take hx)⟩
  · exact ⟨h, fun x hx => by cases hx⟩
theorem takeS_len (s : Rs) (k : Int) : (takeS s k).1.b.length ≤ s.b.length ∧ (takeS s k).2.length ≤ s.b.length ∧ (0 ≤ k → ((takeS s k).2.length : Int) ≤ k) := by
  unfold takeS
  split
  · split
    · exact ⟨Nat.le_refl _, by simp, fun h => by simpa using h⟩
    · exact ⟨by simp only [List.length_drop]; omega, by simp only [List.length_take]; omega, fun h => by simp only [List.length_take]; omega⟩
  · exact ⟨Nat.le_refl _, by simp, fun h => by simpa using h⟩

theorem Within.put {M : Mem} {j : Nat} (h : M.get j = none) (b : Blk) : Within M.get (M.put j b).get := fun i c hi => by
  rw [Mem.get_put, if_neg (by rintro rfl; rw [h] at hi; cases hi)]; exact hi
theorem Ok.put {M : Mem} (hok : Ok M) {j : Nat} (hj : j < M.next) (b : Blk) : Ok (M.put j b) := fun i c hi => by
  rw [Mem.get_put] at hi
  by_cases hij : i = j
  · rw [hij]; exact hj
  · rw [if_neg hij] at hi; exact hok i c hi
theorem Row_.within {M M1 : Mem} {v : Value} {n : Nat} {cells : List Value} (h : Row_ M v n cells) (hw : Within M.get M1.get) (hn : M.next ≤ M1.next) : Row_ M1 v n cells := by
  rcases h with h | ⟨b, o, c, blk, h1, h2, h3⟩
  · exact .inl h
  · exact .inr ⟨b, o, c, blk, h1, ⟨hw _ _ h2.1, Nat.lt_of_lt_of_le h2.2 hn⟩, h3⟩
theorem RowE.within {M M1 : Mem} {v : Value} {n : Nat} {cells : List Value} {e : TypeId} (h : RowE M v n cells e) (hw : Within M.get M1.get) (hn : M.next ≤ M1.next) : RowE M1 v n cells e := by
  obtain ⟨b, o, c, blk, h1, h0, h2, h3⟩ := h
  exact ⟨b, o, c, blk, h1, h0, ⟨hw _ _ h2.1, Nat.lt_of_lt_of_le h2.2 hn⟩, h3⟩
theorem RdS.within {M M1 : Mem} {p : Nat} {D : Nat → Prop} {s : Rs} (h : RdS M p D s) (hw : Within M.get M1.get) (hn : M.next ≤ M1.next) : RdS M1 p D s := by
  obtain ⟨vb, h1, h2, h3⟩ := h
  exact ⟨vb, ⟨hw _ _ h1.1, Nat.lt_of_lt_of_le h1.2 hn⟩, h2.within hw hn, h3⟩

theorem number66_spec (p : Nat) (D : Nat → Prop) (s : Rs) (k : Int) (M : Mem) (hok : Ok M) (hs : RdS M p D s) (hl : s.b.length ≤ 4611686018427387904) (hb : BytB s.b) (hk : 0 ≤ k ∧ k ≤ 8) :
    ∃ r M', ACall Try.prog 66 #[.pointer (some ⟨p, 0, none⟩), .int .i64 k] M r M' ∧ GrewX p M M' ∧ RdS M' p D (numS s k).1 ∧ r = .int .u64 (numS s k).2 := by
  refine ACall.fin (args := [.pointer (some ⟨p, 0, none⟩), .int .i64 k]) (k := 9) (rs := [.tmp 4]) Try.func66 rfl rfl rfl (Nat.le_of_ble_eq_true rfl) ?_
  obtain ⟨r1, M1, hc1, hg1, hs1, hr1, ha1⟩ := take90_spec p D s k M hs hl
  have hlen := (takeS_len s k).2.2 hk.1
  obtain ⟨r2, M2, hc2, hr2, hM2⟩ := get99_spec r1 (takeS s k).2 M1 (hg1.ok hok) hr1 (takeS_bytes hb k).2 (by omega)
  rw [hr2, hM2] at hc2
  refine AWP.stepR [0, 1] fun K hK => ?_
  simp only [go_sem, Nat.reduceEqDiff, Nat.reduceLT, Nat.reduceAdd, Nat.reduceMul, Nat.reduceSub, Nat.add_zero, Nat.zero_add, Int.reduceEq, Int.reduceLT]
  refine hK _ _ _ (by simp only [go_sem, Nat.reduceEqDiff, Nat.reduceLT, Nat.reduceAdd, Nat.reduceMul, Nat.reduceSub, Nat.add_zero, Nat.zero_add, Int.reduceEq, Int.reduceLT]; rfl) ?_; clear hK
  refine AWP.stepR [4] fun K hK => ?_
  simp only [go_sem, Nat.reduceEqDiff, Nat.reduceLT, Nat.reduceAdd, Nat.reduceMul, Nat.reduceSub, Nat.add_zero, Nat.zero_add, Int.reduceEq, Int.reduceLT]
  refine ⟨_, _, hc1, ?_⟩
  refine ⟨_, _, hc2, ?_⟩
  refine hK _ _ _ (by simp only [go_sem, Nat.reduceEqDiff, Nat.reduceLT, Nat.reduceAdd, Nat.reduceMul, Nat.reduceSub, Nat.add_zero, Nat.zero_add, Int.reduceEq, Int.reduceLT]; rfl) ?_; clear hK
  refine AWP.ret (?_)
  exact Fin.keep (.inr rfl) rfl ⟨hg1, hs1, rfl⟩

theorem bytes49_spec (p : Nat) (D : Nat → Prop) (s : Rs) (k : Int) (M : Mem) (hok : Ok M) (hs : RdS M p D s) (hl : s.b.length ≤ 1000000000) :
    ∃ r M', ACall Try.prog 49 #[.pointer (some ⟨p, 0, none⟩), .int .i64 k] M r M' ∧ GrewX p M M' ∧ RdS M' p D (takeS s k).1 ∧ OwnB M M' r (takeS s k).2 5 := by
  refine ACall.fin (args := [.pointer (some ⟨p, 0, none⟩), .int .i64 k]) (k := 10) (rs := [.tmp 4]) Try.func49 rfl rfl rfl (Nat.le_of_ble_eq_true rfl) ?_
  have hgb := (Grew.refl M).bump 1
  obtain ⟨r1, M1, hc1, hg1, hs1, hr1, ha1⟩ := take90_spec p D s k (M.bump 1) (hs.grew hgb) (by omega)
  have hlt : M.next < M1.next := by have := hg1.next; rw [Mem.next_bump] at this; omega
  have hp := hs.lt
  have hnone : M1.get M.next = none := by
    rw [hg1.keep M.next (by rw [Mem.next_bump]; omega) (by omega), Mem.get_bump]
    cases h : M.get M.next with
    | none => rfl
    | some b => have := hok _ _ h; omega
  have hw : Within M1.get (M1.put M.next ⟨[r1], 23, true⟩).get := Within.put hnone _
  have hok2 : Ok (M1.put M.next ⟨[r1], 23, true⟩) := (Grew.refl M1 |>.ok (hg1.ok (hgb.ok hok))).put hlt _
  have hh2 : Has (M1.put M.next ⟨[r1], 23, true⟩) M.next ⟨[r1], 23, true⟩ := Has.put hlt _
  have hs2 := hs1.within hw (Nat.le_refl _)
  have hr2 := hr1.within hw (Nat.le_refl _)
  have hlen := (takeS_len s k).2.1
  obtain ⟨r3, M3, hc3, hg3, ho3, hcap⟩ := joinE37_spec (.slice (some ⟨M.next, 0, none⟩) 1 1) [r1] [(takeS s k).2] (M1.put M.next ⟨[r1], 23, true⟩) hok2 (Row_.of hh2) (.cons hr2 (.nil _)) (by simp; omega) (by simp)
  rw [show [(takeS s k).2].flatten = (takeS s k).2 by simp] at ho3
  refine AWP.stepR [0, 1] fun K hK => ?_
  simp only [go_sem, Nat.reduceEqDiff, Nat.reduceLT, Nat.reduceAdd, Nat.reduceMul, Nat.reduceSub, Nat.add_zero, Nat.zero_add, Int.reduceEq, Int.reduceLT]
  refine hK _ _ _ (by simp only [go_sem, Nat.reduceEqDiff, Nat.reduceLT, Nat.reduceAdd, Nat.reduceMul, Nat.reduceSub, Nat.add_zero, Nat.zero_add, Int.reduceEq, Int.reduceLT]; rfl) ?_; clear hK
  refine AWP.stepR [4] fun K hK => ?_
  simp only [go_sem, Nat.reduceEqDiff, Nat.reduceLT, Nat.reduceAdd, Nat.reduceMul, Nat.reduceSub, Nat.add_zero, Nat.zero_add, Int.reduceEq, Int.reduceLT]
  refine ⟨_, _, hc1, ?_⟩
  try simp only [go_sem, Nat.reduceEqDiff, Nat.reduceLT, Nat.reduceAdd, Nat.reduceMul, Nat.reduceSub, Nat.add_zero, Nat.zero_add, Int.reduceEq, Int.reduceLT, hr1.one]
  refine ⟨_, _, hc3, ?_⟩
  refine hK _ _ _ (by simp only [go_sem, Nat.reduceEqDiff, Nat.reduceLT, Nat.reduceAdd, Nat.reduceMul, Nat.reduceSub, Nat.add_zero, Nat.zero_add, Int.reduceEq, Int.reduceLT]; rfl) ?_; clear hK
  refine AWP.ret (?_)
  refine Fin.keep (.inr rfl) rfl ⟨⟨fun i hi hip => ?_, ?_, fun _ => hg3.ok hok2⟩, hs2.grew hg3, ho3.base (by simp only [Mem.next_put]; omega)⟩
  · rw [hg3.keep i (by simp only [Mem.next_put]; omega), Mem.get_put, if_neg (by omega)]
    exact hg1.keep i (by rw [Mem.next_bump]; omega) hip
  · show M.next ≤ M3.next
    have := hg3.next; simp only [Mem.next_put] at this; omega

theorem bd_123 {v : Value} (h : v.oneCell' = true) : buildV Try.prog 123 [(0, v)] = some (.agg #[v, .int .i64 0]) := by
  cases v <;> first | rfl | (simp [Value.oneCell'] at h)
theorem read48_spec (v : Value) (l : List Int) (M : Mem) (hok : Ok M) (hv : RowB M v l) (hl : l.length ≤ 1000000000) :
    ∃ r M', ACall Try.prog 48 #[v] M r M' ∧ Grew M M' ∧ ∃ p, r = .pointer (some ⟨p, 0, none⟩) ∧ p = M.next + 1 ∧ RdS M' p (fun j => j ≤ M.next + 1 ∨ M'.next ≤ j) ⟨l, 0⟩ := by
  refine ACall.fin (args := [v]) (k := 8) (rs := [.tmp 2]) Try.func48 rfl rfl rfl (Nat.le_of_ble_eq_true rfl) ?_
  have hgb := (Grew.refl M).bump 2
  have hlt1 : M.next < (M.bump 2).next := by rw [Mem.next_bump]; omega
  obtain ⟨hg1, hh1⟩ := mk_put hgb (Nat.le_refl _) hlt1 ⟨[v], 23, true⟩
  obtain ⟨r2, M2, hc2, hg2, ho2, hcap⟩ := joinE37_spec (.slice (some ⟨M.next, 0, none⟩) 1 1) [v] [l] ((M.bump 2).put M.next ⟨[v], 23, true⟩) (hg1.ok hok) (Row_.of hh1) (.cons (hv.grew hg1) (.nil _)) (by simp; omega) (by simp)
  rw [show [l].flatten = l by simp] at ho2
  have hE := RowE.own ho2 hcap
  have hlt2 : M.next + 1 < M2.next := by have := hg2.next; simp only [Mem.next_put, Mem.next_bump] at this; omega
  obtain ⟨hg3, hh3⟩ := mk_put (hg1.trans hg2) (show M.next ≤ M.next + 1 by omega) hlt2 ⟨[r2, .int .i64 0], 123, true⟩
  have ha : Apart r2 (M.next + 1) := ho2.apart (.inl (by simp only [Mem.next_put, Mem.next_bump]; omega))
  have hE3 : RowE (M2.put (M.next + 1) ⟨[r2, .int .i64 0], 123, true⟩) r2 l.length (cB l) 5 := hE.x (p := M.next + 1) ((GrewX.refl _ _).put hlt2 _) ha
  refine AWP.stepR [0] fun K hK => ?_
  simp only [go_sem, Nat.reduceEqDiff, Nat.reduceLT, Nat.reduceAdd, Nat.reduceMul, Nat.reduceSub, Nat.add_zero, Nat.zero_add, Int.reduceEq, Int.reduceLT]
  refine hK _ _ _ (by simp only [go_sem, Nat.reduceEqDiff, Nat.reduceLT, Nat.reduceAdd, Nat.reduceMul, Nat.reduceSub, Nat.add_zero, Nat.zero_add, Int.reduceEq, Int.reduceLT]; rfl) ?_; clear hK
  refine AWP.stepR [2] fun K hK => ?_
  simp only [go_sem, Nat.reduceEqDiff, Nat.reduceLT, Nat.reduceAdd, Nat.reduceMul, Nat.reduceSub, Nat.add_zero, Nat.zero_add, Int.reduceEq, Int.reduceLT, hv.one]
  refine ⟨_, _, hc2, ?_⟩
  try simp only [go_sem, Nat.reduceEqDiff, Nat.reduceLT, Nat.reduceAdd, Nat.reduceMul, Nat.reduceSub, Nat.add_zero, Nat.zero_add, Int.reduceEq, Int.reduceLT, bd_123 ho2.row.one]
  refine hK _ _ _ (by simp only [go_sem, Nat.reduceEqDiff, Nat.reduceLT, Nat.reduceAdd, Nat.reduceMul, Nat.reduceSub, Nat.add_zero, Nat.zero_add, Int.reduceEq, Int.reduceLT]; rfl) ?_; clear hK
  refine AWP.ret (?_)
  refine Fin.keep (.inr rfl) rfl ⟨hg3, M.next + 1, rfl, rfl, r2, hh3, hE3, .inl (Nat.le_refl _), fun j hj => ?_⟩
  rcases hj with hj | hj
  · exact ho2.apart (.inl (by simp only [Mem.next_put, Mem.next_bump]; omega))
  · exact ho2.apart (.inr (by simpa only [Mem.next_put] using hj))

theorem code55_spec (p : Nat) (D : Nat → Prop) (s : Rs) (M : Mem) (hok : Ok M) (hs : RdS M p D s) : ∃ r M', ACall Try.prog 55 #[.pointer (some ⟨p, 0, none⟩)] M r M' ∧ r = .int .i64 s.code ∧ M' = M := by
  obtain ⟨vb, hh, hv, hDp, hD⟩ := hs
  refine ACall.fin (args := [.pointer (some ⟨p, 0, none⟩)]) (k := 7) (rs := [.tmp 2]) Try.func55 rfl rfl rfl (Nat.le_of_ble_eq_true rfl) ?_
  refine AWP.stepR [0] fun K hK => ?_
  simp only [go_sem, Nat.reduceEqDiff, Nat.reduceLT, Nat.reduceAdd, Nat.reduceMul, Nat.reduceSub, Nat.add_zero, Nat.zero_add, Int.reduceEq, Int.reduceLT]
  refine hK _ _ _ (by simp only [go_sem, Nat.reduceEqDiff, Nat.reduceLT, Nat.reduceAdd, Nat.reduceMul, Nat.reduceSub, Nat.add_zero, Nat.zero_add, Int.reduceEq, Int.reduceLT]; rfl) ?_; clear hK
  refine AWP.stepR [2] fun K hK => ?_
  simp only [go_sem, Nat.reduceEqDiff, Nat.reduceLT, Nat.reduceAdd, Nat.reduceMul, Nat.reduceSub, Nat.add_zero, Nat.zero_add, Int.reduceEq, Int.reduceLT, ld_22, hh.ld]
  refine hK _ _ _ (by simp only [go_sem, Nat.reduceEqDiff, Nat.reduceLT, Nat.reduceAdd, Nat.reduceMul, Nat.reduceSub, Nat.add_zero, Nat.zero_add, Int.reduceEq, Int.reduceLT]; rfl) ?_; clear hK
  refine AWP.ret (?_)
  exact Fin.plain (.inr rfl) rfl rfl hok (Grew.refl _) ⟨rfl, rfl⟩
end Go.Proofs.Ythheaehpnleiaaa.AX

/- A node as a page, by the program. -/
namespace Go.Proofs.Ythheaehpnleiaaa.AX
open Go Go.Proofs
set_option maxRecDepth 100000
set_option linter.unusedVariables false
set_option linter.unusedSimpArgs false

def headN (n : Node) : List Int := (if n.leaf then 1 else 0) :: putB ((n.pairs.length : Int) + n.kids.length) 2
def pairN (p : Pr) : List Int := [(p.key.length : Int), (p.val.length : Int)] ++ (p.key ++ p.val)
def kidN (k : Kd) : List Int := [(k.key.length : Int)] ++ (putB k.page 2 ++ (putB k.epoch 8 ++ k.key))
def pairsN (n : Node) (i : Nat) : List Int := headN n ++ ((n.pairs.take i).map pairN).flatten
def kidsN (n : Node) (j : Nat) : List Int := pairsN n n.pairs.length ++ ((n.kids.take j).map kidN).flatten
/-- a node's page -/
def nodeB (n : Node) : List Int := kidsN n n.kids.length ++ List.replicate (496 - sizeF n).toNat 0
theorem flat_pairs (l : List Pr) : (((l.map pairN).flatten.length : Nat) : Int) = sumF prSz l := by
  induction l with
  | nil => rfl
  | cons a l ih => rw [List.map_cons, List.flatten_cons, List.length_append, sumF, ← ih, pairN, prSz]; simp; omega
theorem flat_kids (l : List Kd) : (((l.map kidN).flatten.length : Nat) : Int) = sumF kdSz l := by
  induction l with
  | nil => rfl
  | cons a l ih => rw [List.map_cons, List.flatten_cons, List.length_append, sumF, ← ih, kidN, kdSz]; simp [putB_length]; omega
theorem headN_length (n : Node) : (headN n).length = 3 := by simp [headN, putB_length]
theorem pairsN_length (n : Node) (i : Nat) : ((pairsN n i).length : Int) = 3 + sumF prSz (n.pairs.take i) := by
  rw [pairsN, List.length_append, headN_length, Int.natCast_add, flat_pairs]; rfl
theorem kidsN_length (n : Node) (j : Nat) : ((kidsN n j).length : Int) = 3 + sumF prSz n.pairs + sumF kdSz (n.kids.take j) := by
  rw [kidsN, List.length_append, Int.natCast_add, flat_kids, pairsN_length, List.take_length]
theorem kidsN_all (n : Node) : ((kidsN n n.kids.length).length : Int) = sizeF n := by rw [kidsN_length, List.take_length, sizeF]
theorem putOk {n : Node} (h : checkN n = 0) : FineN n ∧ sizeF n ≤ 496 := by
  have hf := fine_of (.inl h)
  refine ⟨hf, ?_⟩
  unfold checkN at h
  rw [hf.form, if_neg (by decide), if_pos hf.parts, hf.rp, hf.rk, if_pos (by rfl)] at h
  split at h
  · cases h
  · omega
theorem Row_.zero {M : Mem} {j k : Nat} {n : Nat} {e : TypeId} (h : Has M j ⟨cB (List.replicate n 0), e, true⟩) : RowB M (.slice (some ⟨j, 0, none⟩) n k) (List.replicate n 0) := by
  rw [RowB, List.length_replicate]
  exact .inr ⟨j, 0, k, _, rfl, h, by simp [cB_length], by rw [List.drop_zero, List.take_of_length_le (by rw [cB_length]; simp)]⟩

end Go.Proofs.Ythheaehpnleiaaa.AX

/- What a function holds that reads with a reader: its reader, its variables, its rows. -/
namespace Go.Proofs.Ythheaehpnleiaaa.AX
open Go Go.Proofs
set_option maxRecDepth 100000
set_option linter.unusedVariables false
set_option linter.unusedSimpArgs false

/-- a row that is held -/
structure Rw where
  v : Value
  n : Nat
  cells : List Value
  e : TypeId
/-- two rows that lie in no one block -/
def Sep (v w : Value) : Prop := ∀ j o n c, w = .slice (some ⟨j, o, none⟩) n c → Apart v j
theorem Sep.symm {v w : Value} (h : Sep v w) : Sep w v := fun j o n c hv o2 n2 c2 hw => h j o2 n2 c2 hw o n c hv
theorem Sep.nil (v : Value) : Sep v (.slice none 0 0) := fun j o n c h => by cases h
/-- the base of a number -/
def baseN (N : Nat) : Mem := ⟨N, .nil⟩

structure Lo (N : Nat) (M : Mem) (p : Nat) (D : Nat → Prop) (s : Rs) (fx : Mm) (R : Rw → Prop) : Prop where
  ok : Ok M
  next : N ≤ M.next
  pN : p < N
  rd : RdS M p D s
  hD : ∀ j, N ≤ j → D j
  fx : ∀ i b, fx i = some b → Has M i b ∧ i ≠ p ∧ D i ∧ ∀ r, R r → Apart r.v i
  rows : ∀ r, R r → Own (baseN N) M r.v r.n r.cells r.e
  sep : ∀ a b, R a → R b → a = b ∨ Sep a.v b.v

section
variable {N : Nat} {M M1 : Mem} {p : Nat} {D : Nat → Prop} {s s' : Rs} {fx : Mm} {R : Rw → Prop}
theorem Own.within {Mb : Mem} {v : Value} {n : Nat} {cells : List Value} {e : TypeId} (h : Own Mb M v n cells e) (hw : ∀ i b, Mb.next ≤ i → M.get i = some b → M1.get i = some b) (hn : M.next ≤ M1.next) : Own Mb M1 v n cells e := by
  rcases h with h | ⟨id, c, blk, h0, h1, h2, h3, h4⟩
  · exact .inl h
  · exact .inr ⟨id, c, blk, h0, Nat.lt_of_lt_of_le h1 hn, h2, hw _ _ h0 h3, h4⟩
theorem Lo.within (h : Lo N M p D s fx R) (hw : Within M.get M1.get) (hn : M.next ≤ M1.next) (hok : Ok M1) : Lo N M1 p D s fx R :=
  ⟨hok, Nat.le_trans h.next hn, h.pN, h.rd.within hw hn, h.hD, fun i b hi => let ⟨h1, h2⟩ := h.fx i b hi; ⟨⟨hw _ _ h1.1, Nat.lt_of_lt_of_le h1.2 hn⟩, h2⟩, fun r hr => (h.rows r hr).within (fun i b _ hi => hw i b hi) hn, h.sep⟩
theorem Lo.grow (h : Lo N M p D s fx R) (hg : Grew M M1) : Lo N M1 p D s fx R := h.within (hg.within h.ok) hg.next (hg.ok h.ok)
/-- the reader has read -/
theorem Lo.rdr (h : Lo N M p D s fx R) (hg : GrewX p M M1) (hs : RdS M1 p D s') : Lo N M1 p D s' fx R := by
  refine ⟨hg.ok h.ok, Nat.le_trans h.next hg.next, h.pN, hs, h.hD, fun i b hi => ?_, fun r hr => ?_, h.sep⟩
  · obtain ⟨h1, h2, h3⟩ := h.fx i b hi
    exact ⟨h1.x hg h2, h2, h3⟩
  · have h1 := h.rows r hr
    rcases h1 with h1 | ⟨id, c, blk, h0, h1, h2, h3, h4⟩
    · exact .inl h1
    · refine .inr ⟨id, c, blk, h0, Nat.lt_of_lt_of_le h1 hg.next, h2, ?_, h4⟩
      have : N ≤ id := h0
      have hp := h.pN
      rw [hg.keep id h1 (by omega)]; exact h3
/-- a variable more -/
theorem Lo.new (h : Lo N M p D s fx R) {j : Nat} (hj : j < M.next) (hN : N ≤ j) (hnone : M.get j = none) (hrows : ∀ r, R r → Apart r.v j) (b : Blk) : Lo N (M.put j b) p D s (updM fx j b) R := by
  have hw := Within.put hnone b
  have hp := h.pN
  have h1 := h.within hw (Nat.le_refl _) (h.ok.put hj b)
  refine ⟨h1.ok, h1.next, h1.pN, h1.rd, h1.hD, fun i b' hi => ?_, h1.rows, h1.sep⟩
  unfold updM at hi
  split at hi
  · rename_i hij
    cases hi
    subst hij
    exact ⟨Has.put hj b, by omega, h.hD _ hN, hrows⟩
  · exact h1.fx i b' hi
/-- a variable set -/
theorem Lo.set (h : Lo N M p D s fx R) {j : Nat} {b0 : Blk} (hj : fx j = some b0) (b : Blk) : Lo N (M.put j b) p D s (updM fx j b) R := by
  obtain ⟨h1, h2, h3, h4⟩ := h.fx j b0 hj
  have hx : GrewX j M (M.put j b) := (GrewX.refl j M).put h1.2 b
  obtain ⟨vb, g1, g2, g3, g4⟩ := h.rd
  refine ⟨hx.ok h.ok, h.next, h.pN, ⟨vb, g1.x hx (Ne.symm h2), g2.x hx (g4 j h3), g3, g4⟩, h.hD, fun i b' hi => ?_, fun r hr => ?_, h.sep⟩
  · unfold updM at hi
    split at hi
    · rename_i hij
      cases hi
      subst hij
      exact ⟨Has.put h1.2 b, h2, h3, h4⟩
    · rename_i hij
      obtain ⟨q1, q2⟩ := h.fx i b' hi
      exact ⟨q1.x hx hij, q2⟩
  · have ha := h4 r hr
    rcases h.rows r hr with q | ⟨id, c, blk, q0, q1, q2, q3, q4⟩
    · exact .inl q
    · exact .inr ⟨id, c, blk, q0, q1, q2, by rw [Mem.get_put, if_neg (by rintro rfl; exact ha _ _ _ q2)]; exact q3, q4⟩
/-- a row more -/
theorem Lo.add (h : Lo N M p D s fx R) {Mb : Mem} {r : Rw} (ho : Own Mb M r.v r.n r.cells r.e) (hb : N ≤ Mb.next) (hfx : ∀ i b, fx i = some b → Apart r.v i) (hs : ∀ a, R a → Sep a.v r.v) : Lo N M p D s fx (fun x => x = r ∨ R x) := by
  refine ⟨h.ok, h.next, h.pN, h.rd, h.hD, fun i b hi => ?_, fun x hx => ?_, fun a b ha hb' => ?_⟩
  · obtain ⟨h1, h2, h3, h4⟩ := h.fx i b hi
    refine ⟨h1, h2, h3, fun x hx => ?_⟩
    rcases hx with rfl | hx
    · exact hfx i b hi
    · exact h4 x hx
  · rcases hx with rfl | hx
    · exact ho.base hb
    · exact h.rows x hx
  · rcases ha with rfl | ha <;> rcases hb' with rfl | hb'
    · exact .inl rfl
    · exact .inr (hs b hb').symm
    · exact .inr (hs a ha)
    · exact h.sep a b ha hb'
/-- fewer are held -/
theorem Lo.less (h : Lo N M p D s fx R) {fx' : Mm} {R' : Rw → Prop} (hf : ∀ i b, fx' i = some b → fx i = some b) (hR : ∀ r, R' r → R r) : Lo N M p D s fx' R' :=
  ⟨h.ok, h.next, h.pN, h.rd, h.hD, fun i b hi => let ⟨h1, h2, h3, h4⟩ := h.fx i b (hf i b hi); ⟨h1, h2, h3, fun r hr => h4 r (hR r hr)⟩, fun r hr => h.rows r (hR r hr), fun a b ha hb => h.sep a b (hR a ha) (hR b hb)⟩
/-- a row that was made since is apart from all that is held -/
theorem own_sep {Mb : Mem} {v w : Value} {n m : Nat} {cells cells' : List Value} {e e' : TypeId} (h : Own Mb M1 v n cells e) {M0 : Mem} (h' : Own M0 M w m cells' e') (hn : M.next ≤ Mb.next) : Sep w v := by
  intro j o k c hv o2 k2 c2 hw
  rcases h with ⟨rfl, _⟩ | ⟨id, c', blk, h0, h1, h2, _⟩
  · cases hv
  · rcases h' with ⟨rfl, _⟩ | ⟨id', c'', blk', g0, g1, g2, _⟩
    · cases hw
    · rw [hv] at h2; rw [hw] at g2
      cases h2; cases g2
      omega
theorem Ok.grown {P : Program} {M M' : Mem} {e : TypeId} {c : List Value} {k : Nat} {v : Value} (hok : Ok M) (h : grownE P M e c k = (v, M')) : Ok M' := by
  cases h
  intro i b hi
  have hi : (M.put M.next ⟨c, e, true⟩).get i = some b := hi
  rw [Mem.get_put] at hi
  show i < M.next + 1
  by_cases hii : i = M.next
  · omega
  · rw [if_neg hii] at hi; have := hok i b hi; omega
theorem Ok.del {M : Mem} (hok : Ok M) (j : Nat) : Ok (M.del j) := fun i b hi => by
  rw [Mem.get_del] at hi
  by_cases hij : i = j
  · rw [if_pos hij] at hi; cases hi
  · rw [if_neg hij] at hi; exact hok i b hi
theorem Ok.app {P : Program} {M M' : Mem} {t tx : TypeId} {s x v : Value} (hok : Ok M) (h : appendE P M t tx s x = some (v, M')) : Ok M' := by
  unfold appendE at h
  repeat' split at h
  all_goals first | cases h; done | (simp only [Option.some.injEq, Prod.mk.injEq] at h; obtain ⟨_, rfl⟩ := h; exact hok) | (injection h with h; first | exact hok.grown h | exact (hok.del _).grown h)
/-- an append to a held row -/
theorem Lo.append (h : Lo N M p D s fx R) {P : Program} {t tx e sz bytes : Nat} (hf : AppFacts P t tx e sz bytes) {v x : Value} {n k : Nat} {cells news : List Value} (hr : R ⟨v, n, cells, e⟩) (hl : cells.length = n * sz)
    (hx : contentV M.get sz x = some (k, news)) (hone : oneCells news = true) (hb : (n + k) * bytes ≤ 140737488355328) :
    ∃ v2 M2, appendE P M t tx v x = some (v2, M2) ∧ M.next ≤ M2.next ∧ (∀ j, j < N → M2.get j = M.get j) ∧ (∀ j, j < M.next → Apart v j → M2.get j = M.get j) ∧ Lo N M2 p D s fx (fun r => r = ⟨v2, n + k, cells ++ news, e⟩ ∨ (R r ∧ r ≠ ⟨v, n, cells, e⟩)) := by
  have hg : Grew (⟨N, M.tri⟩ : Mem) M := ⟨fun _ _ => rfl, h.next, fun _ => h.ok⟩
  have ho : Own (⟨N, M.tri⟩ : Mem) M v n cells e := h.rows _ hr
  obtain ⟨v2, M2, happ, ho2, hg2, hnx, hfr⟩ := Own.append hf hg ho hl hx hone hb
  have hok2 : Ok M2 := h.ok.app happ
  have hkeep : ∀ j, j < N → M2.get j = M.get j := fun j hj => hg2.keep j hj
  have hap : ∀ w, Sep v w → ∀ j o n c, w = .slice (some ⟨j, o, none⟩) n c → j < M.next → M2.get j = M.get j ∧ Apart v2 j := fun w hw j o n c hj hlt => hfr j hlt (hw j o n c hj)
  have hne : ∀ r, R r → r ≠ ⟨v, n, cells, e⟩ → Sep v r.v := fun r hrr hn => (h.sep _ _ hr hrr).resolve_left (fun hh => hn hh.symm)
  have hv2 : ∀ r, R r → r ≠ ⟨v, n, cells, e⟩ → Own (baseN N) M2 r.v r.n r.cells r.e ∧ Sep v2 r.v := fun r hrr hn => by
    have hs := hne r hrr hn
    rcases h.rows r hrr with q | ⟨id, c, blk, q0, q1, q2, q3, q4⟩
    · exact ⟨.inl q, fun j o n c hj => by rw [q.1] at hj; cases hj⟩
    · obtain ⟨f1, f2⟩ := hap r.v hs id 0 _ c q2 q1
      refine ⟨.inr ⟨id, c, blk, q0, Nat.lt_of_lt_of_le q1 hnx, q2, by rw [f1]; exact q3, q4⟩, fun j o n c hj => ?_⟩
      rw [q2] at hj
      cases hj
      exact f2
  obtain ⟨vb, g1, g2, g3, g4⟩ := h.rd
  have hp := h.pN
  have hvN : ∀ j, j < N → Apart v j := fun j hj => ho.apart (.inl hj)
  have hvb : ∀ b o n c, vb = .slice (some ⟨b, o, none⟩) n c → Apart v b := by
    intro b o n c hb
    rcases ho with ⟨rfl, _⟩ | ⟨id, c', blk, q0, q1, q2, _⟩
    · exact Apart.nil b
    · intro o2 n2 c2 hv
      rw [q2] at hv
      cases hv
      exact g4 b (h.hD b q0) _ _ _ hb
  refine ⟨v2, M2, happ, hnx, hkeep, fun j hj ha => (hfr j hj ha).1, hok2, Nat.le_trans h.next hnx, h.pN, ⟨vb, ⟨by rw [hkeep p hp]; exact g1.1, Nat.lt_of_lt_of_le g1.2 hnx⟩, ?_, g3, g4⟩, h.hD, fun i b hi => ?_, fun r hrr => ?_, fun a b ha hb' => ?_⟩
  · obtain ⟨b, o, c, blk, e1, e0, e2, e3⟩ := g2
    exact ⟨b, o, c, blk, e1, e0, ⟨by rw [(hfr b e2.2 (hvb _ _ _ _ e1)).1]; exact e2.1, Nat.lt_of_lt_of_le e2.2 hnx⟩, e3⟩
  · obtain ⟨f1, f2, f3, f4⟩ := h.fx i b hi
    have hvi := f4 _ hr
    obtain ⟨f5, f6⟩ := hfr i f1.2 hvi
    refine ⟨⟨by rw [f5]; exact f1.1, Nat.lt_of_lt_of_le f1.2 hnx⟩, f2, f3, fun r hrr => ?_⟩
    rcases hrr with rfl | ⟨hrr, _⟩
    · exact f6
    · exact f4 r hrr
  · rcases hrr with rfl | ⟨hrr, hn⟩
    · exact ho2
    · exact (hv2 r hrr hn).1
  · rcases ha with rfl | ⟨ha, hna⟩ <;> rcases hb' with rfl | ⟨hb', hnb⟩
    · exact .inl rfl
    · exact .inr (hv2 b hb' hnb).2
    · exact .inr (hv2 a ha hna).2.symm
    · exact h.sep a b ha hb'
end
end Go.Proofs.Ythheaehpnleiaaa.AX

/- A node read from a page: what is read, in plain words; and what is held while it is read. -/
namespace Go.Proofs.Ythheaehpnleiaaa.AX
open Go Go.Proofs
set_option maxRecDepth 100000
set_option linter.unusedVariables false
set_option linter.unusedSimpArgs false

section
variable {N : Nat} {M M1 : Mem} {p : Nat} {D : Nat → Prop} {s s' : Rs} {fx : Mm} {R R' : Rw → Prop}
theorem none_keep (hok : Ok M) (hg : GrewX p (M.bump 1) M1) (hp : p ≠ M.next) : M1.get M.next = none := by
  rw [hg.keep M.next (by rw [Mem.next_bump]; omega) (Ne.symm hp), Mem.get_bump]
  cases h : M.get M.next with
  | none => rfl
  | some b => have := hok _ _ h; omega
theorem Lo.bytes (h : Lo N M p D s fx R) (k : Int) (hl : s.b.length ≤ 1000) :
    ∃ r M', ACall Try.prog 49 #[.pointer (some ⟨p, 0, none⟩), .int .i64 k] M r M' ∧ GrewX p M M' ∧ OwnB M M' r (takeS s k).2 5 ∧ Lo N M' p D (takeS s k).1 fx (fun x => x = ⟨r, (takeS s k).2.length, cB (takeS s k).2, 5⟩ ∨ R x) := by
  obtain ⟨r, M', hc, hg, hs, ho⟩ := bytes49_spec p D s k M h.ok h.rd (by omega)
  exact ⟨r, M', hc, hg, ho, (h.rdr hg hs).add (r := ⟨r, (takeS s k).2.length, cB (takeS s k).2, 5⟩) ho h.next (fun i b hi => ho.apart (.inl (h.fx i b hi).1.2)) fun a ha => own_sep ho (h.rows a ha) (Nat.le_refl _)⟩
/-- a block of its own -/
theorem Lo.box (h : Lo N M p D s fx R) (hg : GrewX p (M.bump 1) M1) (h' : Lo N M1 p D s' fx R') (hR : ∀ r, R' r → R r ∨ Apart r.v M.next) (b : Blk) : M.next < M1.next ∧ Lo N (M1.put M.next b) p D s' (updM fx M.next b) R' := by
  have hp : p ≠ M.next := by have := h.pN; have := h.next; omega
  have hlt : M.next < M1.next := by have := hg.next; rw [Mem.next_bump] at this; omega
  refine ⟨hlt, h'.new hlt h.next (none_keep h.ok hg hp) (fun r hr => ?_) b⟩
  rcases hR r hr with hr | hr
  · exact (h.rows r hr).apart (.inr (Nat.le_refl _))
  · exact hr
end
theorem takeS_ok {s : Rs} {k : Int} (h : (takeS s k).1.code = 0) : s.code = 0 ∧ 0 ≤ k ∧ k ≤ s.b.length ∧ (takeS s k).1.b = s.b.drop k.toNat ∧ (takeS s k).2 = s.b.take k.toNat := by
  unfold takeS at h ⊢
  split at h
  · rename_i h0
    split at h
    · cases h
    · rename_i h1
      rw [if_pos h0, if_neg h1]
      exact ⟨h0, by omega, by omega, rfl, rfl⟩
  · rename_i h0; exact absurd h h0
theorem takeS_on {s : Rs} {k : Int} (h0 : s.code = 0) (h1 : 0 ≤ k) (h2 : k ≤ s.b.length) : takeS s k = (⟨s.b.drop k.toNat, 0⟩, s.b.take k.toNat) := by
  rw [takeS, if_pos h0, if_neg (by omega)]
theorem takeS_in (a b : List Int) {k : Nat} (hk : a.length = k) : takeS ⟨a ++ b, 0⟩ (k : Int) = (⟨b, 0⟩, a) := by
  rw [takeS_on rfl (by omega) (by simp; omega)]
  simp only [Int.toNat_natCast, ← hk, List.drop_left, List.take_left]
theorem numS_b {s : Rs} (hb : BytB s.b) {k : Nat} : 0 ≤ (numS s k).2 ∧ (numS s k).2 < 256 ^ k := by
  have h1 := (takeS_bytes hb k).2
  have h2 := (takeS_len s k).2.2 (by omega)
  have h3 := numN_bound h1 (takeS s k).2.length
  rw [List.take_length] at h3
  refine ⟨h3.1, Int.lt_of_lt_of_le h3.2 ?_⟩
  have : ∀ a b : Nat, a ≤ b → (256 : Int) ^ a ≤ 256 ^ b := fun a b h => by
    exact_mod_cast Nat.pow_le_pow_right (n := 256) (by omega) h
  exact this _ _ (by omega)
theorem numS_b1 {s : Rs} (hb : BytB s.b) : 0 ≤ (numS s 1).2 ∧ (numS s 1).2 < 256 := numS_b (k := 1) hb
theorem numS_bytes {s : Rs} (h : BytB s.b) (k : Int) : BytB (numS s k).1.b := (takeS_bytes h k).1
theorem numS_len (s : Rs) (k : Int) : (numS s k).1.b.length ≤ s.b.length := (takeS_len s k).1

def capE (e : Int) : Int := if 4611686018427387904 < e then 4611686018427387904 else e
abbrev PrP := List Int × List Int
abbrev KdP := List Int × Int × Int
def prP (s : Rs) : Rs × PrP := ((takeS (takeS (numS (numS s 1).1 1).1 (numS s 1).2).1 (numS (numS s 1).1 1).2).1, (takeS (numS (numS s 1).1 1).1 (numS s 1).2).2, (takeS (takeS (numS (numS s 1).1 1).1 (numS s 1).2).1 (numS (numS s 1).1 1).2).2)
def kdP (s : Rs) : Rs × KdP := ((takeS (numS (numS (numS s 1).1 2).1 8).1 (numS s 1).2).1, (takeS (numS (numS (numS s 1).1 2).1 8).1 (numS s 1).2).2, (numS (numS s 1).1 2).2, capE (numS (numS (numS s 1).1 2).1 8).2)
def loopP {α : Type} (f : Rs → Rs × α) : Nat → Rs → Rs × List α
  | 0, s => (s, [])
  | n + 1, s => if s.code = 0 then ((loopP f n (f s).1).1, (f s).2 :: (loopP f n (f s).1).2) else (s, [])
structure NodeP where
  leaf : Bool
  pairs : List PrP
  kids : List KdP
def NodeP.of (n : Node) : NodeP := ⟨n.leaf, n.pairs.map fun p => (p.key, p.val), n.kids.map fun k => (k.key, k.page, k.epoch)⟩
def NodeP.node (n : NodeP) : Node := ⟨n.leaf, n.pairs.map fun p => ⟨.slice none 0 0, .slice none 0 0, p.1, p.2⟩, n.kids.map fun k => ⟨.slice none 0 0, k.1, k.2.1, k.2.2⟩⟩
def zP : NodeP := ⟨false, [], []⟩
/-- the things of a page, behind its head -/
def thingsF (leaf : Bool) (n : Nat) (s : Rs) : Rs × NodeP := if leaf then ((loopP prP n s).1, ⟨true, (loopP prP n s).2, []⟩) else ((loopP kdP n s).1, ⟨false, [], (loopP kdP n s).2⟩)
def endF (x : Rs × NodeP) : NodeP × Int :=
  if x.1.code ≠ 0 then (zP, x.1.code)
  else if x.1.b = List.replicate x.1.b.length 0 then (if checkN x.2.node = 0 then (x.2, 0) else (zP, checkN x.2.node)) else (zP, 4)
/-- the node of a page, and what is wrong with it -/
def getF (b : List Int) : NodeP × Int :=
  if (b.length : Int) = 496 then
    (if (numS ⟨b, 0⟩ 1).2 > 1 then (zP, 4)
    else endF (thingsF ((numS ⟨b, 0⟩ 1).2 == 1) (numS (numS ⟨b, 0⟩ 1).1 2).2.toNat (numS (numS ⟨b, 0⟩ 1).1 2).1))
  else (zP, 17)

theorem of_sum {n : Node} : sumF prSz (NodeP.of n).node.pairs = sumF prSz n.pairs ∧ sumF kdSz (NodeP.of n).node.kids = sumF kdSz n.kids := by
  have h1 : ∀ l : List Pr, sumF prSz (l.map fun p => (⟨.slice none 0 0, .slice none 0 0, p.key, p.val⟩ : Pr)) = sumF prSz l := fun l => by
    induction l with
    | nil => rfl
    | cons a l ih => rw [List.map_cons, sumF, sumF, ih]; rfl
  have h2 : ∀ l : List Kd, sumF kdSz (l.map fun p => (⟨.slice none 0 0, p.key, p.page, p.epoch⟩ : Kd)) = sumF kdSz l := fun l => by
    induction l with
    | nil => rfl
    | cons a l ih => rw [List.map_cons, sumF, sumF, ih]; rfl
  refine ⟨?_, ?_⟩
  · rw [← h1 n.pairs]; simp [NodeP.node, NodeP.of, Function.comp_def]
  · rw [← h2 n.kids]; simp [NodeP.node, NodeP.of, Function.comp_def]
theorem of_check (n : Node) : checkN (NodeP.of n).node = checkN n := by
  have hf : ∀ l : List Kd, firstF (l.map fun p => (⟨.slice none 0 0, p.key, p.page, p.epoch⟩ : Kd)) = firstF l := fun l => by
    induction l with
    | nil => rfl
    | cons a l ih => rw [List.map_cons, firstF, firstF, ih]; rfl
  have hk : (NodeP.of n).node.kids = n.kids.map fun p => (⟨.slice none 0 0, p.key, p.page, p.epoch⟩ : Kd) := by simp [NodeP.node, NodeP.of, Function.comp_def]
  have hp : (NodeP.of n).node.pairs = n.pairs.map fun p => (⟨.slice none 0 0, .slice none 0 0, p.key, p.val⟩ : Pr) := by simp [NodeP.node, NodeP.of, Function.comp_def]
  have hparts : partsF (NodeP.of n).node = partsF n := by
    unfold partsF
    rw [hk, hf, hp, List.all_map]; rfl
  have hsz : sizeF (NodeP.of n).node = sizeF n := by rw [sizeF, sizeF, of_sum.1, of_sum.2]
  have hform : formOk (NodeP.of n).node = formOk n := by rw [formOk, formOk, hk, hp, List.length_map, List.length_map]; rfl
  have e1 : (NodeP.of n).node.pairs.map Pr.key = n.pairs.map Pr.key := by rw [hp, List.map_map]; rfl
  have e2 : (NodeP.of n).node.kids.map Kd.key = n.kids.map Kd.key := by rw [hk, List.map_map]; rfl
  unfold checkN
  rw [hparts, hsz, hform, e1, e2]
end Go.Proofs.Ythheaehpnleiaaa.AX

/- A node read from a page, by the program. -/
namespace Go.Proofs.Ythheaehpnleiaaa.AX
open Go Go.Proofs
set_option maxRecDepth 100000
set_option linter.unusedVariables false
set_option linter.unusedSimpArgs false

def HN (l : List Pr) (m : List Kd) (vp vk : Value) (r : Rw) : Prop := r = ⟨vp, l.length, l.flatMap prC, 58⟩ ∨ r = ⟨vk, m.length, m.flatMap kdC, 60⟩ ∨ (∃ x, x ∈ l ∧ (r = ⟨x.kv, x.key.length, cB x.key, 5⟩ ∨ r = ⟨x.vv, x.val.length, cB x.val, 5⟩)) ∨ ∃ x, x ∈ m ∧ r = ⟨x.kv, x.key.length, cB x.key, 5⟩
def GI (leaf : Bool) (cnt : Nat) (s0 : Rs) (c : Nat) (s : Rs) (l : List Pr) (m : List Kd) : Prop :=
  if leaf then m = [] ∧ loopP prP cnt s0 = ((loopP prP c s).1, l.map prD ++ (loopP prP c s).2) ∧ (s.code = 0 → sumF prSz l + s.b.length = 493)
  else l = [] ∧ loopP kdP cnt s0 = ((loopP kdP c s).1, m.map kdD ++ (loopP kdP c s).2) ∧ (s.code = 0 → sumF kdSz m + s.b.length = 493)
section
variable {N : Nat} {M : Mem} {p : Nat} {D : Nat → Prop} {s : Rs} {fx : Mm} {R : Rw → Prop} {l : List Pr} {m : List Kd} {vp vk : Value}
theorem Lo.node (h : Lo N M p D s fx R) (hR : ∀ r, HN l m vp vk r → R r) (leaf : Bool) : NodeR M ⟨leaf, l, m⟩ vp vk where
  pairs := (h.rows _ (hR _ (.inl rfl))).row
  kids := (h.rows _ (hR _ (.inr (.inl rfl)))).row
  pk := fun x hx => (h.rows _ (hR _ (.inr (.inr (.inl ⟨x, hx, .inl rfl⟩))))).row
  pv := fun x hx => (h.rows _ (hR _ (.inr (.inr (.inl ⟨x, hx, .inr rfl⟩))))).row
  kk := fun x hx => (h.rows _ (hR _ (.inr (.inr (.inr ⟨x, hx, rfl⟩))))).row
theorem Lo.none1 (h : Lo N M p D s fx R) : ∀ r, R r → R r ∨ Apart r.v M.next := fun r hr => .inl hr
end
theorem loopP_stop {α : Type} (f : Rs → Rs × α) {c : Nat} {s : Rs} (h : c = 0 ∨ s.code ≠ 0) : loopP f c s = (s, []) := by
  cases c with
  | zero => rfl
  | succ n => rw [loopP, if_neg (by omega)]
theorem loopP_step {α : Type} (f : Rs → Rs × α) {c : Nat} {s : Rs} (h : 0 < c) (h0 : s.code = 0) : loopP f c s = ((loopP f (c - 1) (f s).1).1, (f s).2 :: (loopP f (c - 1) (f s).1).2) := by
  cases c with
  | zero => omega
  | succ n => rw [loopP, if_pos h0, Nat.add_sub_cancel]
theorem GI.last {leaf : Bool} {cnt : Nat} {s0 : Rs} {c : Nat} {s : Rs} {l : List Pr} {m : List Kd} (h : GI leaf cnt s0 c s l m) (hc : c = 0 ∨ s.code ≠ 0) : thingsF leaf cnt s0 = (s, NodeP.of ⟨leaf, l, m⟩) := by
  cases leaf with
  | true =>
    obtain ⟨rfl, h2, h3⟩ := (show _ ∧ _ ∧ _ from h)
    rw [loopP_stop prP hc, List.append_nil] at h2
    rw [thingsF, if_pos rfl, h2]; rfl
  | false =>
    obtain ⟨rfl, h2, h3⟩ := (show _ ∧ _ ∧ _ from h)
    rw [loopP_stop kdP hc, List.append_nil] at h2
    rw [thingsF, if_neg (by decide), h2]; rfl
theorem sumF_mem {α : Type} {f : α → Int} {B : Int} : ∀ {l : List α}, (∀ a, a ∈ l → 1 ≤ f a) → sumF f l ≤ B → (l.length : Int) ≤ B ∧ ∀ a, a ∈ l → f a ≤ B := by
  intro l
  induction l generalizing B with
  | nil => intro _ h; exact ⟨by simpa [sumF] using h, fun a ha => by cases ha⟩
  | cons x l ih =>
    intro h1 h2
    rw [sumF] at h2
    have hx := h1 x List.mem_cons_self
    obtain ⟨h3, h4⟩ := ih (B := B - f x) (fun a ha => h1 a (List.mem_cons_of_mem _ ha)) (by omega)
    refine ⟨by rw [List.length_cons]; omega, fun a ha => ?_⟩
    rcases List.mem_cons.1 ha with rfl | ha
    · have : 0 ≤ (l.length : Int) := by omega
      omega
    · have := h4 a ha; omega
theorem GI.lt {leaf : Bool} {cnt : Nat} {s0 : Rs} {c : Nat} {s : Rs} {l : List Pr} {m : List Kd} (h : GI leaf cnt s0 c s l m) (h0 : s.code = 0) : Lt18 ⟨leaf, l, m⟩ ∧ sizeF ⟨leaf, l, m⟩ + s.b.length = 496 := by
  cases leaf with
  | true =>
    obtain ⟨rfl, h2, h3⟩ := (show _ ∧ _ ∧ _ from h)
    have h3 := h3 h0
    obtain ⟨g1, g2⟩ := sumF_mem (f := prSz) (B := 493) (l := l) (fun a _ => by unfold prSz; omega) (by omega)
    refine ⟨⟨by show l.length ≤ 1000; omega, by simp, fun p hp => ?_, fun p hp => ?_, fun p hp => by cases hp⟩, by simp only [sizeF, sumF]; omega⟩
    · have := g2 p hp; unfold prSz at this; omega
    · have := g2 p hp; unfold prSz at this; omega
  | false =>
    obtain ⟨rfl, h2, h3⟩ := (show _ ∧ _ ∧ _ from h)
    have h3 := h3 h0
    obtain ⟨g1, g2⟩ := sumF_mem (f := kdSz) (B := 493) (l := m) (fun a _ => by unfold kdSz; omega) (by omega)
    refine ⟨⟨by simp, by show m.length ≤ 1000; omega, fun p hp => (by cases hp), fun p hp => (by cases hp), fun p hp => ?_⟩, by simp only [sizeF, sumF]; omega⟩
    have := g2 p hp; unfold kdSz at this; omega
end Go.Proofs.Ythheaehpnleiaaa.AX

/- node.Get: the walk. -/
namespace Go.Proofs.Ythheaehpnleiaaa.AX
open Go Go.Proofs
set_option maxRecDepth 100000
set_option linter.unusedVariables false
set_option linter.unusedSimpArgs false

def ptr (i : Nat) : Value := .pointer (some ⟨i, 0, none⟩)
theorem updM_ne {m : Mm} {i j : Nat} {b : Blk} (h : i ≠ j) : updM m j b i = m i := by rw [updM, if_neg h]
theorem updM_eq {m : Mm} {i : Nat} {b : Blk} : updM m i b i = some b := by rw [updM, if_pos rfl]
theorem cntE (n : Int) (h : 0 ≤ n) : ∃ c : Nat, n = c := ⟨n.toNat, by omega⟩
end Go.Proofs.Ythheaehpnleiaaa.AX

/- There and back: a node's page read, a page read and written. No program here. -/
namespace Go.Proofs.Ythheaehpnleiaaa.AX
open Go Go.Proofs
set_option maxRecDepth 100000
set_option linter.unusedVariables false
set_option linter.unusedSimpArgs false

theorem numN_putB (s : Nat) : ∀ n : Int, 0 ≤ n → n < 256 ^ s → numN (putB n s) = n := by
  induction s with
  | zero => intro n h0 h1; simp at h1; rw [putB, numN_nil]; omega
  | succ s ih =>
    intro n h0 h1
    rw [Int.pow_succ] at h1
    rw [putB, numN_snoc, ih (n / 256) (by omega) (by omega)]; omega
theorem putB_numN : ∀ (k : Nat) (t : List Int), t.length = k → BytB t → putB (numN t) k = t := by
  intro k
  induction k with
  | zero => intro t h hb; rw [List.length_eq_zero_iff.1 h]; rfl
  | succ k ih =>
    intro t h hb
    have hne : t ≠ [] := by rintro rfl; simp at h
    obtain ⟨u, x, rfl⟩ : ∃ u x, t = u ++ [x] := ⟨t.dropLast, t.getLast hne, (List.dropLast_concat_getLast hne).symm⟩
    have hx := hb x (by simp)
    have hu : BytB u := fun y hy => hb y (by simp [hy])
    rw [numN_snoc, putB, show (numN u * 256 + x) / 256 = numN u by omega, show (numN u * 256 + x) % 256 = x by omega, ih u (by simpa using h) hu]
theorem putB_byt (s : Nat) : ∀ n : Int, BytB (putB n s) := by
  induction s with
  | zero => intro n x hx; cases hx
  | succ s ih =>
    intro n x hx
    rw [putB] at hx
    rcases List.mem_append.1 hx with hx | hx
    · exact ih _ x hx
    · rw [List.mem_singleton.1 hx]; omega
theorem numN_one (x : Int) : numN [x] = x := by simp [numN]
theorem numS_in (x k : Nat) (n : Int) (h0 : 0 ≤ n) (h1 : n < 256 ^ k) (r : List Int) : numS ⟨putB n k ++ r, 0⟩ (k : Int) = (⟨r, 0⟩, n) := by
  rw [numS, takeS_in _ _ (putB_length n k)]
  simp only [numN_putB k n h0 h1]
theorem numS_in1 (n : Int) (r : List Int) : numS ⟨n :: r, 0⟩ 1 = (⟨r, 0⟩, n) := by
  have := takeS_in [n] r (k := 1) rfl
  rw [numS, show (1 : Int) = ((1 : Nat) : Int) from rfl, show n :: r = [n] ++ r from rfl, this]
  simp only [numN_one]
theorem numS_in2 (n : Int) (h0 : 0 ≤ n) (h1 : n < 65536) (r : List Int) : numS ⟨putB n 2 ++ r, 0⟩ 2 = (⟨r, 0⟩, n) := numS_in 0 2 n h0 (by simpa using h1) r
theorem numS_in8 (n : Int) (h0 : 0 ≤ n) (h1 : n ≤ 1099511627776) (r : List Int) : numS ⟨putB n 8 ++ r, 0⟩ 8 = (⟨r, 0⟩, n) := numS_in 0 8 n h0 (by simp; omega) r
theorem takeS_inZ (a r : List Int) : takeS ⟨a ++ r, 0⟩ (a.length : Int) = (⟨r, 0⟩, a) := takeS_in a r rfl

def prB (p : PrP) : List Int := (p.1.length : Int) :: (p.2.length : Int) :: (p.1 ++ p.2)
def kdB (k : KdP) : List Int := (k.1.length : Int) :: (putB k.2.1 2 ++ (putB k.2.2 8 ++ k.1))
theorem prP_in (p : PrP) (r : List Int) : prP ⟨prB p ++ r, 0⟩ = (⟨r, 0⟩, p) := by
  obtain ⟨k, v⟩ := p
  have e : prB (k, v) ++ r = (k.length : Int) :: ((v.length : Int) :: (k ++ (v ++ r))) := by simp [prB]
  rw [e, prP]
  simp only [numS_in1, takeS_inZ]
theorem kdP_in (k : KdP) (hg : 0 ≤ k.2.1 ∧ k.2.1 < 65536) (he : 0 ≤ k.2.2 ∧ k.2.2 ≤ 1099511627776) (r : List Int) : kdP ⟨kdB k ++ r, 0⟩ = (⟨r, 0⟩, k) := by
  obtain ⟨a, g, e⟩ := k
  simp only at hg he
  have e1 : kdB (a, g, e) ++ r = (a.length : Int) :: (putB g 2 ++ (putB e 8 ++ (a ++ r))) := by simp [kdB]
  rw [e1, kdP]
  simp only [numS_in1, numS_in2 g hg.1 hg.2, numS_in8 e he.1 he.2, takeS_inZ]
  rw [capE, if_neg (by omega)]
theorem loopP_in {α : Type} (f : Rs → Rs × α) (B : α → List Int) : ∀ (l : List α) (r : List Int), (∀ a, a ∈ l → ∀ r, f ⟨B a ++ r, 0⟩ = (⟨r, 0⟩, a)) → loopP f l.length ⟨(l.map B).flatten ++ r, 0⟩ = (⟨r, 0⟩, l) := by
  intro l
  induction l with
  | nil => intro r _; rfl
  | cons a l ih =>
    intro r h
    rw [List.length_cons, loopP, if_pos rfl, List.map_cons, List.flatten_cons, List.append_assoc, h a List.mem_cons_self]
    simp only [ih r fun b hb => h b (List.mem_cons_of_mem _ hb)]
theorem pairN_eq (p : Pr) : pairN p = prB (p.key, p.val) := by simp [pairN, prB]
theorem kidN_eq (k : Kd) : kidN k = kdB (k.key, k.page, k.epoch) := by simp [kidN, kdB]
theorem nodeB_eq (n : Node) : nodeB n = (if n.leaf then 1 else 0) :: (putB ((n.pairs.length : Int) + n.kids.length) 2 ++ (((NodeP.of n).pairs.map prB).flatten ++ (((NodeP.of n).kids.map kdB).flatten ++ List.replicate (496 - sizeF n).toNat 0))) := by
  have e1 : (NodeP.of n).pairs.map prB = n.pairs.map pairN := by simp [NodeP.of, Function.comp_def, pairN_eq]
  have e2 : (NodeP.of n).kids.map kdB = n.kids.map kidN := by simp [NodeP.of, Function.comp_def, kidN_eq]
  rw [e1, e2, nodeB, kidsN, pairsN, headN, List.take_length, List.take_length]
  simp
theorem nodeB_length {n : Node} (h : sizeF n ≤ 496) : (nodeB n).length = 496 := by
  have := kidsN_all n
  have h0 : 0 ≤ sizeF n := by omega
  rw [nodeB, List.length_append, List.length_replicate]; omega
theorem node_form {n : Node} (h : formOk n = false) : (n.leaf = true → n.kids = []) ∧ (n.leaf = false → n.pairs = []) := by
  unfold formOk at h
  simp only [Bool.or_eq_false_iff, Bool.and_eq_false_iff, decide_eq_false_iff_not] at h
  obtain ⟨h1, h2⟩ := h
  refine ⟨fun hl => ?_, fun hl => ?_⟩
  · rcases h1 with h1 | h1
    · rw [hl] at h1; cases h1
    · exact List.length_eq_zero_iff.1 (by omega)
  · rcases h2 with h2 | h2
    · rw [hl] at h2; cases h2
    · exact List.length_eq_zero_iff.1 (by omega)
theorem kd_range {k : Kd} (h : kdCode k = 0) : k.key.length ≤ 64 ∧ 0 ≤ k.page ∧ k.page < 4096 ∧ 0 ≤ k.epoch ∧ k.epoch ≤ 1099511627776 := by
  unfold kdCode at h
  split at h
  · cases h
  · split at h
    · cases h
    · rename_i h1 h2; simp [kdRange] at h2; omega
/-- a node that may be is read as it was -/
theorem get_put {n : Node} (h : checkN n = 0) : getF (nodeB n) = (NodeP.of n, 0) := by
  obtain ⟨hf, hsz⟩ := putOk h
  have hlen := nodeB_length hsz
  obtain ⟨hpo, hko⟩ := partsF_zero.1 hf.parts
  obtain ⟨hfm1, hfm2⟩ := node_form hf.form
  obtain ⟨g1, _⟩ := sumF_mem (f := prSz) (B := 496) (l := n.pairs) (fun a _ => by unfold prSz; omega) (by
    have := (sumF_mem (f := kdSz) (B := sumF kdSz n.kids) (l := n.kids) (fun a _ => by unfold kdSz; omega) (by omega)).1
    have : 0 ≤ sumF kdSz n.kids := by omega
    unfold sizeF at hsz; omega)
  obtain ⟨g2, _⟩ := sumF_mem (f := kdSz) (B := 496) (l := n.kids) (fun a _ => by unfold kdSz; omega) (by
    have := (sumF_mem (f := prSz) (B := sumF prSz n.pairs) (l := n.pairs) (fun a _ => by unfold prSz; omega) (by omega)).1
    have : 0 ≤ sumF prSz n.pairs := by omega
    unfold sizeF at hsz; omega)
  have hcheck := of_check n
  rw [getF, if_pos (by omega), nodeB_eq]
  simp only [numS_in1, numS_in2 _ (show (0 : Int) ≤ (n.pairs.length : Int) + n.kids.length by omega) (by omega)]
  rw [if_neg (by split <;> omega)]
  generalize hz : (496 - sizeF n).toNat = z
  have hend : endF (⟨List.replicate z 0, 0⟩, NodeP.of n) = (NodeP.of n, 0) := by
    rw [endF, if_neg (by simp), if_pos (by simp), hcheck, if_pos h]
  rw [← hend]
  congr 1
  cases hleaf : n.leaf with
  | true =>
    have hk := hfm1 hleaf
    have e0 : (NodeP.of n).kids = [] := by simp [NodeP.of, hk]
    have e1 : (NodeP.of n).pairs.length = n.pairs.length := by simp [NodeP.of]
    have e2 : NodeP.of n = ⟨true, (NodeP.of n).pairs, []⟩ := by rw [← e0, ← hleaf]; rfl
    have e3 : ((n.pairs.length : Int) + n.kids.length).toNat = (NodeP.of n).pairs.length := by rw [e1, hk]; simp
    rw [e0, e3]
    simp only [List.map_nil, List.flatten_nil, List.nil_append, if_true, thingsF, show ((1 : Int) == 1) = true from rfl]
    rw [loopP_in prP prB _ _ fun a _ r => prP_in a r]
    simp only
    rw [← e2]
  | false =>
    have hk := hfm2 hleaf
    have e0 : (NodeP.of n).pairs = [] := by simp [NodeP.of, hk]
    have e1 : (NodeP.of n).kids.length = n.kids.length := by simp [NodeP.of]
    have e2 : NodeP.of n = ⟨false, [], (NodeP.of n).kids⟩ := by rw [← e0, ← hleaf]; rfl
    have e3 : ((n.pairs.length : Int) + n.kids.length).toNat = (NodeP.of n).kids.length := by rw [e1, hk]; simp
    rw [e0, e3]
    simp only [List.map_nil, List.flatten_nil, List.nil_append, Bool.false_eq_true, if_false, thingsF, show ((0 : Int) == 1) = false from rfl]
    rw [loopP_in kdP kdB _ _ fun a ha r => by
      obtain ⟨k, hk1, rfl⟩ := List.mem_map.1 (show a ∈ n.kids.map _ from ha)
      obtain ⟨_, q1, q2, q3, q4⟩ := kd_range (hko k hk1)
      exact kdP_in _ ⟨q1, by simp only; omega⟩ ⟨q3, q4⟩ r]
    simp only
    rw [← e2]

/-! ### a page read and written -/
theorem loopP_code {α : Type} (f : Rs → Rs × α) {c : Nat} {s : Rs} (h : (loopP f c s).1.code = 0) : s.code = 0 := by
  cases c with
  | zero => exact h
  | succ n =>
    rw [loopP] at h
    split at h
    · assumption
    · exact h
theorem numS_out {s : Rs} {k : Nat} (hb : BytB s.b) (h : (numS s k).1.code = 0) : s.code = 0 ∧ s.b = putB (numS s k).2 k ++ (numS s k).1.b ∧ BytB (numS s k).1.b := by
  obtain ⟨h1, h2, h3, h4, h5⟩ := takeS_ok (s := s) (k := (k : Int)) h
  have hbt := takeS_bytes hb (k : Int)
  refine ⟨h1, ?_, hbt.1⟩
  have e1 : (numS s (k : Int)).1.b = s.b.drop k := h4
  have e2 : (numS s (k : Int)).2 = numN (s.b.take k) := by show numN (takeS s k).2 = _; rw [h5]; rfl
  rw [e1, e2, putB_numN k _ (by rw [List.length_take]; omega) (fun x hx => hb x (List.mem_of_mem_take hx)), List.take_append_drop]
theorem takeS_out {s : Rs} {k : Int} (h : (takeS s k).1.code = 0) : s.code = 0 ∧ s.b = (takeS s k).2 ++ (takeS s k).1.b ∧ ((takeS s k).2.length : Int) = k := by
  obtain ⟨h1, h2, h3, h4, h5⟩ := takeS_ok h
  refine ⟨h1, by rw [h4, h5, List.take_append_drop], ?_⟩
  rw [h5, List.length_take]; omega
theorem putB_1 (n : Int) (h : 0 ≤ n) (h' : n < 256) : putB n 1 = [n] := by simp [putB]; omega
theorem loopP_out {α : Type} (f : Rs → Rs × α) (B : α → List Int) (T : α → Prop) (hf : ∀ s : Rs, BytB s.b → BytB (f s).1.b) (ho : ∀ s : Rs, BytB s.b → (f s).1.code = 0 → T (f s).2 → s.b = B (f s).2 ++ (f s).1.b) :
    ∀ (c : Nat) (s : Rs), BytB s.b → (loopP f c s).1.code = 0 → (∀ a, a ∈ (loopP f c s).2 → T a) → s.b = ((loopP f c s).2.map B).flatten ++ (loopP f c s).1.b ∧ (loopP f c s).2.length = c := by
  intro c
  induction c with
  | zero => intro s hb h _; exact ⟨by simp [loopP], rfl⟩
  | succ c ih =>
    intro s hb h hT
    have h0 := loopP_code f h
    rw [loopP, if_pos h0] at h hT ⊢
    simp only at h hT ⊢
    have h1 := loopP_code f h
    obtain ⟨g1, g2⟩ := ih (f s).1 (hf s hb) h fun a ha => hT a (List.mem_cons_of_mem _ ha)
    refine ⟨?_, by rw [List.length_cons, g2]⟩
    rw [List.map_cons, List.flatten_cons, List.append_assoc, ← g1]
    exact ho s hb h1 (hT _ List.mem_cons_self)
end Go.Proofs.Ythheaehpnleiaaa.AX

/- The law's function 'NodeBack': it answers 'true'. -/
namespace Go.Proofs.Ythheaehpnleiaaa.AX
open Go Go.Proofs
set_option maxRecDepth 100000
set_option linter.unusedVariables false
set_option linter.unusedSimpArgs false

theorem Within.put2 {M : Mem} {j : Nat} (h : M.get j = none) (b c : Blk) : Within M.get ((M.put j b).put j c).get := fun i d hi => by
  rw [Mem.get_put, if_neg (by rintro rfl; rw [h] at hi; cases hi), Mem.get_put, if_neg (by rintro rfl; rw [h] at hi; cases hi)]; exact hi
theorem NodeR.within {M M1 : Mem} {n : Node} {vp vk : Value} (h : NodeR M n vp vk) (hw : Within M.get M1.get) (hn : M.next ≤ M1.next) : NodeR M1 n vp vk :=
  ⟨h.pairs.within hw hn, h.kids.within hw hn, fun p hp => (h.pk p hp).within hw hn, fun p hp => (h.pv p hp).within hw hn, fun p hp => (h.kk p hp).within hw hn⟩
end Go.Proofs.Ythheaehpnleiaaa.AX

/- The other reader, by value: numbers and bytes, by the program. -/
namespace Go.Proofs.Ythheaehpnleiaaa.AX
open Go Go.Proofs
set_option maxRecDepth 100000
set_option linter.unusedVariables false
set_option linter.unusedSimpArgs false

def rdC (v : Value) (c : Int) : List Value := [v, .int .i64 c]
end Go.Proofs.Ythheaehpnleiaaa.AX

/- The other reader, by value: bytes, numbers. -/
namespace Go.Proofs.Ythheaehpnleiaaa.AX
open Go Go.Proofs
set_option maxRecDepth 100000
set_option linter.unusedVariables false
set_option linter.unusedSimpArgs false

/-- a reader handed about by value -/
def RdV (M : Mem) (v : Value) (s : Rs) : Prop := ∃ vb, v = .agg (rdC vb s.code).toArray ∧ RowE M vb s.b.length (cB s.b) 5
theorem RdV.grew {M M1 : Mem} {v : Value} {s : Rs} (h : RdV M v s) (hg : Grew M M1) : RdV M1 v s := by
  obtain ⟨vb, h1, h2⟩ := h
  exact ⟨vb, h1, h2.grew hg⟩

/-- a row of bytes whose block is known, or none -/
def RowN (M : Mem) (v : Value) (l : List Int) : Prop := (v = .slice none 0 0 ∧ l = []) ∨ RowE M v l.length (cB l) 5
theorem RowN.row {M : Mem} {v : Value} {l : List Int} (h : RowN M v l) : RowB M v l := by
  rcases h with ⟨rfl, rfl⟩ | h
  · exact Row_.nil _
  · exact h.row
end Go.Proofs.Ythheaehpnleiaaa.AX

/- A pair, a kid read with the other reader, by the program. -/
namespace Go.Proofs.Ythheaehpnleiaaa.AX
open Go Go.Proofs
set_option maxRecDepth 100000
set_option linter.unusedVariables false
set_option linter.unusedSimpArgs false

theorem kept (M M2 : Mem) (hg2 : Grew (M.bump 1) M2) (z cells : List Value) (e : TypeId) : ∃ M3, (M2.put M.next ⟨z, e, true⟩).put M.next ⟨cells, e, true⟩ = M3 ∧ Grew M M3 ∧ Has M3 M.next ⟨cells, e, true⟩ := by
  have hnx : M.next < M2.next := by have := hg2.next; rw [Mem.next_bump] at this; omega
  have hg : Grew M M2 := ((Grew.refl M).bump 1).trans hg2
  exact ⟨_, rfl, (hg.put (Nat.le_refl _) hnx _).put (Nat.le_refl _) hnx _, Has.put (show _ < (M2.put _ _).next from hnx) _⟩
end Go.Proofs.Ythheaehpnleiaaa.AX
