/- The layer, twenty-fifth part: what is made, as closed facts of its type; calls' operands. -/
import Derived.Test.YthheaehpnleiaaaAxY
namespace Go.Proofs.Ythheaehpnleiaaa.AX
open Go
set_option linter.unusedVariables false
set_option linter.unusedSimpArgs false

def numP : Nat → List Operand → List (Nat × Operand)
  | _, [] => []
  | i, x :: xs => (i, x) :: numP (i + 1) xs
def numV : Nat → List Value → List (Nat × Value)
  | _, [] => []
  | i, x :: xs => (i, x) :: numV (i + 1) xs
theorem evP_num {ev : Operand → Option Value} : ∀ {xs : List Operand} {vs : List Value} {i : Nat}, evL ev xs = some vs → evP ev (numP i xs) = some (numV i vs) ∧ vs.length = xs.length := by
  intro xs
  induction xs with
  | nil => intro vs i h; simp only [evL, Option.some.injEq] at h; subst h; exact ⟨rfl, rfl⟩
  | cons x xs ih =>
    intro vs i h
    simp only [evL] at h
    split at h
    · rename_i v us h1 h2
      cases h
      obtain ⟨h3, h4⟩ := ih (i := i + 1) h2
      exact ⟨by simp only [numP, evP, h1, h3, numV], by simp [h4]⟩
    · cases h
theorem one_cells {v : Value} (h : v.oneCell' = true) : v.cells = #[v] := by cases v <;> first | rfl | (simp [Value.oneCell'] at h)
theorem fill_num : ∀ (vs : List Value) (i : Nat) (cells : Array Value), vs.all Value.oneCell' = true → i + vs.length ≤ cells.size →
    ∃ r, Instr.fill (fun n => some (n * 1, 1)) cells (numV i vs) = some r ∧ r.size = cells.size ∧ ∀ j, r[j]? = if i ≤ j ∧ j < i + vs.length then vs[j - i]? else cells[j]? := by
  intro vs
  induction vs with
  | nil => intro i cells _ _; exact ⟨cells, rfl, rfl, fun j => by rw [if_neg (by simp only [List.length_nil]; omega)]⟩
  | cons v vs ih =>
    intro i cells h1 h2
    simp only [List.all_cons, Bool.and_eq_true] at h1
    simp only [List.length_cons] at h2
    obtain ⟨r, e1, e2, e3⟩ := ih (i + 1) (cells.setIfInBounds i v) h1.2 (by simp; omega)
    refine ⟨r, ?_, by simpa using e2, fun j => ?_⟩
    · simp only [numV, Instr.fill, one_cells h1.1, Nat.mul_one]
      rw [if_neg (by simp; omega)]
      simpa using e1
    · rw [e3]
      by_cases hj : j = i
      · subst hj
        rw [if_neg (by omega), if_pos (by simp)]
        simp [show j < cells.size by omega]
      · by_cases hj2 : i + 1 ≤ j ∧ j < i + 1 + vs.length
        · rw [if_pos hj2, if_pos (by simp; omega), show j - i = (j - (i + 1)) + 1 by omega, List.getElem?_cons_succ]
        · rw [if_neg hj2, if_neg (by simp; omega), Array.getElem?_setIfInBounds_ne (by omega)]

/-- what stands in for what is not looked into -/
def allocB (P : Program) (ev : Operand → Option Value) (op : Op) : Option (Blk × (Nat → Value)) := allocA P ev op
def bsR (fb : Option (Blk × (Nat → Value))) (e n : Nat) : Option (List Value) → Option (Blk × (Nat → Value))
  | some vs => bif vs.all Value.oneCell' then some (⟨vs, e, true⟩, rowTo n n) else fb
  | none => fb
theorem bsR_some {fb : Option (Blk × (Nat → Value))} {e n : Nat} {vs : List Value} : bsR fb e n (some vs) = bif vs.all Value.oneCell' then some (⟨vs, e, true⟩, rowTo n n) else fb := rfl
/-- a type's elements take one cell, of which the first is plain -/
def oneSz (P : Program) (t e b : TypeId) : Bool := match P.underlying t, P.info? e, zeroC P e with
  | some (.slice e'), some i, some z => Nat.beq e' e && Nat.beq i.size 1 && Nat.beq i.bytes b && Nat.beq z.size 1 && plains z
  | _, _, _ => false
theorem oneSz_spec {P : Program} {t e b : TypeId} (h : oneSz P t e b = true) : P.underlying t = some (.slice e) ∧ ∃ i z, P.info? e = some i ∧ i.size = 1 ∧ i.bytes = b ∧ zeroC P e = some z ∧ z.size = 1 ∧ plains z = true := by
  unfold oneSz at h
  split at h
  · rename_i e' i z h1 h2 h3
    simp only [beq_iff, Bool.and_eq_true, decide_eq_true_eq] at h
    obtain ⟨⟨⟨⟨rfl, a2⟩, a3⟩, a4⟩, a5⟩ := h
    exact ⟨h1, i, z, h2, a2, a3, h3, a4, a5⟩
  · cases h
theorem bs_dense {P : Program} {t e b n : Nat} (hk : oneSz P t e b = true) (xs : List Operand) (hn : xs.length = n) (hn' : n ≤ 16777216) (ev : Operand → Option Value) {parts : Array (Nat × Operand)} (hp : parts.toList = numP 0 xs) :
    allocA P ev (.buildSlice t n parts) = bsR (allocB P ev (.buildSlice t n parts)) e n (evL ev xs) := by
  obtain ⟨ht, i, z, hi, hs, _, hz, hz1, hz2⟩ := oneSz_spec hk
  cases hv : evL ev xs with
  | none => rfl
  | some vs =>
    rw [bsR_some]
    cases ho : vs.all Value.oneCell' with
    | false => rfl
    | true =>
      simp only [cond_true]
      obtain ⟨h1, h2⟩ := evP_num (i := 0) hv
      subst hn
      obtain ⟨r, e1, e2, e3⟩ := fill_num vs 0 ((Array.range (xs.length * 1)).map (z[· % z.size]!)) ho (by simp; omega)
      have hr : r.toList = vs := by
        refine List.ext_getElem? fun j => ?_
        rw [Array.getElem?_toList]
        have := e3 j
        by_cases hj : j < vs.length
        · rw [if_pos (by omega)] at this; simpa using this
        · rw [if_neg (by omega)] at this
          rw [List.getElem?_eq_none (by omega : vs.length ≤ j)]
          rw [this]
          simp; omega
      by_cases h0 : xs.length = 0
      · have hvs : vs = [] := List.eq_nil_of_length_eq_zero (by omega)
        subst hvs
        simp only [allocA, ht, hp, h1, hi, hs, Nat.mul_one, h0, Nat.zero_le, if_true, numV, Instr.fill]
        try simp [plains]
      · simp only [allocA, ht, hp, h1, hi, hs, Nat.mul_one, hn', if_true, h0, if_false, hz]
        simp only [Nat.mul_one] at e1 e2
        rw [e1]
        simp only [e2, Array.size_map, Array.size_range, hz2, hz1, true_and, false_or, ne_eq, Nat.succ_ne_zero, not_false_eq_true, if_true, hr]
        try simp
/-- noughts in a row -/
def zrow (P : Program) (e : TypeId) (n : Nat) : List Value := match zeroC P e with
  | some z => zcells z n
  | none => []
def msR (P : Program) (fb : Option (Blk × (Nat → Value))) (e b : Nat) : Option Value → Option Value → Option (Blk × (Nat → Value))
  | some (.int _ x), some (.int _ y) => if 0 ≤ x ∧ x ≤ y ∧ y ≤ 281474976710656 ∧ (b : Int) * y ≤ 281474976710656 then some (⟨zrow P e y.toNat, e, true⟩, rowTo x.toNat y.toNat) else fb
  | _, _ => fb
theorem msR_int (P : Program) (fb : Option (Blk × (Nat → Value))) (e b : Nat) (k k' : IntKind) (x y : Int) : msR P fb e b (some (.int k x)) (some (.int k' y)) = if 0 ≤ x ∧ x ≤ y ∧ y ≤ 281474976710656 ∧ (b : Int) * y ≤ 281474976710656 then some (⟨zrow P e y.toNat, e, true⟩, rowTo x.toNat y.toNat) else fb := rfl
theorem ms_dense {P : Program} {t e b : Nat} (hk : oneSz P t e b = true) (ev : Operand → Option Value) (l c : Operand) : allocA P ev (.makeSlice t l c) = msR P (allocB P ev (.makeSlice t l c)) e b (ev l) (ev c) := by
  obtain ⟨ht, i, z, hi, hs, hb, hz, hz1, hz2⟩ := oneSz_spec hk
  unfold msR
  split
  · rename_i k x k' y hl hc
    split
    · rename_i h
      have hzr : ∀ n, zrow P e n = zcells z n := fun n => by simp [zrow, hz]
      by_cases h0 : y.toNat = 0
      · simp only [allocA, ht, hl, hc, hi, hs, hb, Nat.mul_one, h, if_true, h0, and_self, true_or]
        simp [plains, zcells, hzr]
      · simp only [allocA, ht, hl, hc, hi, hs, hb, Nat.mul_one, h, if_true, h0, if_false, hz, hz1, hz2, and_self, ne_eq, Nat.succ_ne_zero, not_false_eq_true, or_true, hzr]
    · rfl
  · rfl
def csK (P : Program) (src dst e : TypeId) : Bool := match P.underlying src, P.underlying dst, P.underlying e with
  | some .string, some (.slice e'), some (.int .u8) => Nat.beq e' e && Nat.beq (P.cellsOf e) 1
  | _, _, _ => false
theorem cs_eq {P : Program} {src dst e : Nat} (h : csK P src dst e = true) (ev : Operand → Option Value) (x : Operand) : allocA P ev (.convert src dst x) = match ev x with
    | some (.string s) => some (⟨s.data.toList.map fun b => .int .u8 b.toNat, e, true⟩, rowTo s.size unk)
    | _ => none := by
  unfold csK at h
  split at h
  · rename_i e' h1 h2 h3
    simp only [beq_iff, Bool.and_eq_true, decide_eq_true_eq] at h
    obtain ⟨rfl, h4⟩ := h
    simp only [allocA, h1, h2]
    cases ev x with
    | none => rfl
    | some v => cases v <;> simp only [h3, h4, if_true]
  · cases h
theorem bx_eq (P : Program) (ev : Operand → Option Value) (t : TypeId) (x : Operand) : allocA P ev (.box t x) = match ev x with
    | some v => some (⟨v.cells.toList, t, true⟩, ptrTo)
    | none => none := rfl
theorem cat0 (l : List Value) : (#[] : Array Value) ++ l.toArray ++ #[] = l.toArray := by simp
theorem Row_.one {M : Mem} {v : Value} {n : Nat} {cells : List Value} (h : Row_ M v n cells) : v.oneCell' = true := by
  rcases h with ⟨_, _, rfl | ⟨_, _, _, rfl⟩⟩ | ⟨_, _, _, _, rfl, _⟩ <;> rfl
theorem Has.put {M : Mem} {i : Nat} (h : i < M.next) (b : Blk) : Has (M.put i b) i b := ⟨by rw [Mem.get_put, if_pos rfl], h⟩
theorem Has.put' {M : Mem} {i j : Nat} {b : Blk} (h : Has M i b) (hij : i ≠ j) (b' : Blk) : Has (M.put j b') i b := ⟨by rw [Mem.get_put, if_neg hij]; exact h.1, h.2⟩
theorem Own.put {Mb M : Mem} {v : Value} {n : Nat} {cells : List Value} {e : TypeId} (h : Own Mb M v n cells e) {i : Nat} (hi : i < Mb.next) (b : Blk) : Own Mb (M.put i b) v n cells e := by
  rcases h with h | ⟨id, c, blk, h0, h1, h2, h3, h4⟩
  · exact .inl h
  · exact .inr ⟨id, c, blk, h0, h1, h2, by rw [Mem.get_put, if_neg (by omega)]; exact h3, h4⟩
/-- what stands in a row just made -/
theorem Has.content {M : Mem} {i : Nat} {l : List Value} {e : TypeId} {w : Bool} (h : Has M i ⟨l, e, w⟩) (sz n c : Nat) (hl : l.length = n * sz) : contentV M.get sz (.slice (some ⟨i, 0, none⟩) n c) = some (n, l) := (Row_.of h).content hl
theorem binV_shr (P : Program) (t : TypeId) (k k' : IntKind) (a b : Int) : binV P .shr t (.int k a) (.int k' b) = intBin .shr k a b := by simp [binV]
theorem binV_shl (P : Program) (t : TypeId) (k k' : IntKind) (a b : Int) : binV P .shl t (.int k a) (.int k' b) = intBin .shl k a b := by simp [binV]
theorem get_bump' (M : Mem) (k : Nat) : (M.bump k).get = M.get := rfl
theorem all_nil' : ([] : List Value).all Value.oneCell' = true := rfl
theorem one_int (k : IntKind) (n : Int) : (Value.int k n).oneCell' = true := rfl
theorem one_bool (b : Bool) : (Value.bool b).oneCell' = true := rfl
theorem one_str (s : ByteArray) : (Value.string s).oneCell' = true := rfl
theorem one_slice (a : Option Addr) (n c : Nat) : (Value.slice a n c).oneCell' = true := rfl
attribute [go_sem] get_bump' msR_int binV_shr binV_shl bx_eq cat0 bsR_some all_nil' one_int one_bool one_str one_slice List.all_cons Bool.and_true Bool.true_and Mem.next_put Mem.next_bump Mem.next_del ptrTo rowTo
end Go.Proofs.Ythheaehpnleiaaa.AX
