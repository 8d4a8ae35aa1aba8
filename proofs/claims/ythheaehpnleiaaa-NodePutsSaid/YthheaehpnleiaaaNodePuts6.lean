/- Rows that lie in blocks of their elements' type; parts of them. -/
import Derived.Test.YthheaehpnleiaaaNodePuts5
namespace Go.Proofs.Ythheaehpnleiaaa.AX
open Go Go.Proofs
set_option linter.unusedVariables false
set_option linter.unusedSimpArgs false

/-- a row that lies in a block of its elements' type -/
def RowE (M : Mem) (v : Value) (n : Nat) (cells : List Value) (e : TypeId) : Prop := ∃ b o c blk, v = .slice (some ⟨b, o, none⟩) n c ∧ (c = unk ∨ n ≤ c) ∧ Has M b blk ∧ blk.elem = e ∧ o + cells.length ≤ blk.cells.length ∧ (blk.cells.drop o).take cells.length = cells
theorem RowE.row {M : Mem} {v : Value} {n : Nat} {cells : List Value} {e : TypeId} (h : RowE M v n cells e) : Row_ M v n cells := by
  obtain ⟨b, o, c, blk, h1, _, h2, _, h4, h5⟩ := h
  exact .inr ⟨b, o, c, blk, h1, h2, h4, h5⟩
theorem RowE.grew {M M1 : Mem} {v : Value} {n : Nat} {cells : List Value} {e : TypeId} (h : RowE M v n cells e) (hg : Grew M M1) : RowE M1 v n cells e := by
  obtain ⟨b, o, c, blk, h1, h0, h2, h3⟩ := h
  exact ⟨b, o, c, blk, h1, h0, h2.grew hg, h3⟩
theorem RowE.slice {P : Program} {t e sz : Nat} {i : TypeInfo} (ht : P.underlying t = some (.slice e)) (hi : P.info? e = some i) (hs : i.size = sz) {M : Mem} {v : Value} {n : Nat} {cells : List Value} (h : RowE M v n cells e) (hl : cells.length = n * sz) {lo hi_ : Nat} (h1 : lo ≤ hi_) (h2 : hi_ ≤ n) :
    ∃ v', (∀ M1, Grew M M1 → sliceV P M1.get t v (some (.int .i64 lo)) (some (.int .i64 hi_)) none = some v' ∧ (lo = 0 → sliceV P M1.get t v none (some (.int .i64 hi_)) none = some v') ∧ (hi_ = n → sliceV P M1.get t v (some (.int .i64 lo)) none none = some v')) ∧ RowE M v' (hi_ - lo) ((cells.drop (lo * sz)).take ((hi_ - lo) * sz)) e := by
  obtain ⟨b, o, c, blk, rfl, hcn, hb, he, h4, h5⟩ := h
  subst hs
  have hcs : P.cellsOf blk.elem = i.size := by rw [he]; exact cellsOf_eq hi
  have hlo : lo * i.size ≤ hi_ * i.size := Nat.mul_le_mul_right _ h1
  have hhi : hi_ * i.size ≤ n * i.size := Nat.mul_le_mul_right _ h2
  have hsub : (hi_ - lo) * i.size = hi_ * i.size - lo * i.size := Nat.sub_mul _ _ _
  refine ⟨.slice (some ⟨b, o + lo * i.size, none⟩) (hi_ - lo) (if c = unk then unk else c - lo), fun M1 hg => ?_, b, o + lo * i.size, _, blk, rfl, by split <;> omega, hb, he, ?_, ?_⟩
  · have hget := (hb.grew hg).1
    have hb1 : boundV (some (.int .i64 hi_)) n (if c = unk then n else c) = some hi_ := by
      simp only [boundV]
      rw [if_pos ⟨by omega, by split <;> omega⟩]; simp
    have hb2 : ∀ y, lo ≤ y → boundV (some (.int .i64 lo)) 0 y = some lo := fun y hy => by
      simp only [boundV]
      rw [if_pos ⟨by omega, by omega⟩]; simp
    refine ⟨?_, fun h0 => ?_, fun h0 => ?_⟩
    · simp only [sliceV, ht, hget, hi, hcs, Option.isSome_none, Option.isNone_none, Bool.false_eq_true, false_and, not_false_eq_true, and_self, if_true, true_and]
      rw [show boundV none (if c = unk then n else c) (if c = unk then n else c) = some (if c = unk then n else c) from rfl]
      simp only [hb1, hb2 hi_ h1]
      congr 1
      split <;> simp_all
    · subst h0
      simp only [sliceV, ht, hget, hi, hcs, Option.isSome_none, Option.isNone_none, Bool.false_eq_true, false_and, not_false_eq_true, and_self, if_true, true_and]
      rw [show boundV none (if c = unk then n else c) (if c = unk then n else c) = some (if c = unk then n else c) from rfl]
      simp only [hb1, show boundV none 0 hi_ = some 0 from rfl]
      congr 1
      split <;> simp_all
    · subst h0
      simp only [sliceV, ht, hget, hi, hcs, Option.isSome_none, Option.isNone_none, Bool.false_eq_true, false_and, not_false_eq_true, and_self, if_true, true_and]
      rw [show boundV none (if c = unk then hi_ else c) (if c = unk then hi_ else c) = some (if c = unk then hi_ else c) from rfl]
      simp only [show ∀ y, boundV none hi_ y = some hi_ from fun _ => rfl, hb2 hi_ h1]
      congr 1
      split <;> simp_all
  · rw [List.length_take, List.length_drop]; omega
  · rw [List.length_take, List.length_drop, hl, hsub, Nat.min_eq_left (by omega)]
    conv => rhs; rw [← h5, hl]
    rw [List.drop_take, List.take_take, List.drop_drop, Nat.min_eq_left (by omega)]
end Go.Proofs.Ythheaehpnleiaaa.AX
