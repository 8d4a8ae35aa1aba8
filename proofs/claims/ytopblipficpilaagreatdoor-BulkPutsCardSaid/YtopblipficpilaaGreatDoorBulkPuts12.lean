/- The layer: the quick machine: values, and what two of them come to. -/
import Derived.Test.YtopblipficpilaaGreatDoorBulkPuts11
namespace Go.Proofs.YtopblipficpilaaGreatDoor.AY
open Go
set_option linter.unusedVariables false
set_option linter.unusedSimpArgs false

theorem vNat_some {d : Ans} {f : IntKind → Nat → Ans} {v : Value} {r : Value × Mem} (h : vNat d f v = some r) : d = some r ∨ ∃ k n, v = .int k (Int.ofNat n) ∧ f k n = some r := by
  cases v <;> first | (exact .inl h) | skip
  rename_i k n
  cases n with
  | ofNat n => exact .inr ⟨k, n, rfl, h⟩
  | negSucc n => exact .inl h
theorem vBool_some {d : Ans} {f : Bool → Ans} {v : Value} {r : Value × Mem} (h : vBool d f v = some r) : d = some r ∨ ∃ b, v = .bool b ∧ f b = some r := by
  cases v <;> first | (exact .inl h) | skip
  exact .inr ⟨_, rfl, h⟩
theorem vPtr_some {d : Ans} {f : Nat → Nat → Ans} {v : Value} {r : Value × Mem} (h : vPtr d f v = some r) : d = some r ∨ ∃ b o, v = .pointer (some ⟨b, o, none⟩) ∧ f b o = some r := by
  cases v <;> first | (exact .inl h) | skip
  rename_i a
  cases a with
  | none => exact .inl h
  | some a =>
    obtain ⟨b, o, sp⟩ := a
    cases sp with
    | none => exact .inr ⟨b, o, rfl, h⟩
    | some _ => exact .inl h
theorem vSl_some {d : Ans} {f : Nat → Nat → Nat → Nat → Ans} {v : Value} {r : Value × Mem} (h : vSl d f v = some r) : d = some r ∨ ∃ b o n c, v = .slice (some ⟨b, o, none⟩) n c ∧ f b o n c = some r := by
  cases v <;> first | (exact .inl h) | skip
  rename_i a n c
  cases a with
  | none => exact .inl h
  | some a =>
    obtain ⟨b, o, sp⟩ := a
    cases sp with
    | none => exact .inr ⟨b, o, n, c, rfl, h⟩
    | some _ => exact .inl h
theorem vLen_some {d : Ans} {f : Nat → Ans} {v : Value} {r : Value × Mem} (h : vLen d f v = some r) : d = some r ∨ ∃ a n c, v = .slice a n c ∧ f n = some r := by
  cases v <;> first | (exact .inl h) | skip
  exact .inr ⟨_, _, _, rfl, h⟩
theorem vTup_some {d : Ans} {f : List Value → Ans} {v : Value} {r : Value × Mem} (h : vTup d f v = some r) : d = some r ∨ ∃ vs, v = .tuple vs ∧ f vs.toList = some r := by
  cases v <;> first | (exact .inl h) | skip
  exact .inr ⟨_, rfl, h⟩
theorem vOne_some {d k : Ans} {v : Value} {r : Value × Mem} (h : vOne d k v = some r) : d = some r ∨ (v.oneCell' = true ∧ v.cells = #[v] ∧ k = some r) := by
  cases v <;> first | (exact .inl h) | (exact .inr ⟨rfl, rfl, h⟩)
theorem oK_some {d : Ans} {k : KV} {o : Option Value} {r : Value × Mem} (h : oK d k o = some r) : (o = none ∧ d = some r) ∨ ∃ v, o = some v ∧ k v = some r := orec_some h
theorem oK_none {k : KV} {o : Option Value} {r : Value × Mem} (h : oK none k o = some r) : ∃ v, o = some v ∧ k v = some r := by
  rcases oK_some h with ⟨_, h⟩ | h
  · cases h
  · exact h
theorem kc_eq {a b : IntKind} (h : Nat.beq (kc a) (kc b) = true) : a = b := by
  cases a <;> cases b <;> first | rfl | (exact absurd h (by decide))
theorem zNN_some {d : Ans} {f : IntKind → Nat → Nat → Ans} {a b : Value} {r : Value × Mem} (h : zNN d f a b = some r) : d = some r ∨ ∃ k m n, a = .int k (Int.ofNat m) ∧ b = .int k (Int.ofNat n) ∧ f k m n = some r := by
  unfold zNN at h
  rcases vNat_some h with h | ⟨ka, m, rfl, h⟩
  · exact .inl h
  · rcases vNat_some (v := b) (by assumption) with h | ⟨kb, n, rfl, h⟩
    · exact .inl h
    · rcases brec_some h with ⟨_, h⟩ | ⟨hk, h⟩
      · exact .inl h
      · obtain rfl := kc_eq hk; exact .inr ⟨_, m, n, rfl, rfl, by assumption⟩
theorem zN2_some {d : Ans} {f : IntKind → Nat → Nat → Ans} {a b : Value} {r : Value × Mem} (h : zN2 d f a b = some r) : d = some r ∨ ∃ k k' m n, a = .int k (Int.ofNat m) ∧ b = .int k' (Int.ofNat n) ∧ f k m n = some r := by
  unfold zN2 at h
  rcases vNat_some h with h | ⟨ka, m, rfl, h⟩
  · exact .inl h
  · rcases vNat_some (v := b) (by assumption) with h | ⟨kb, n, rfl, h⟩
    · exact .inl h
    · exact .inr ⟨_, _, m, n, rfl, rfl, h⟩
theorem zFit_some {d : Ans} {k : KV} {ka : IntKind} {n : Nat} {r : Value × Mem} (h : zFit d k ka n = some r) : d = some r ∨ (n ≤ kmax ka ∧ k (.int ka (.ofNat n)) = some r) := by
  rcases brec_some h with ⟨_, h⟩ | ⟨hk, h⟩
  · exact .inl h
  · exact .inr ⟨Nat.le_of_ble_eq_true hk, h⟩
theorem wrap_fit {k : IntKind} {n : Nat} (h : n ≤ kmax k) : k.wrap (Int.ofNat n) = Int.ofNat n := by
  cases k <;> simp only [kmax] at h <;> simp [IntKind.wrap, IntKind.bits, IntKind.signed] <;> omega
theorem kmax_lt (k : IntKind) : kmax k < 2 ^ k.bits := by cases k <;> decide

theorem bv_nat {w m n : Nat} (hm : m < 2 ^ w) (hn : n < 2 ^ w) : (BitVec.ofInt w (Int.ofNat m)).toNat = m ∧ (BitVec.ofInt w (Int.ofNat n)).toNat = n := by
  constructor <;> (rw [show (Int.ofNat _ : Int) = ((_ : Nat) : Int) from rfl, BitVec.ofInt_natCast, BitVec.toNat_ofNat, Nat.mod_eq_of_lt (by assumption)])
theorem bits_ge (k : IntKind) : 8 ≤ k.bits := by cases k <;> decide

theorem slow_some {f : Value → Value → Option Value} {a b : Value} {k : KV} {r : Value × Mem} (h : zGen2 f a b k = some r) : ∃ v, f a b = some v ∧ k v = some r := oK_none h
theorem zBin_some {P : Program} {op : BinOp} {t : TypeId} {a b : Value} {k : KV} {r : Value × Mem} (h : (zBin P op t).run a b k = some r) : ∃ v, binV P op t a b = some v ∧ k v = some r := by
  cases op with
  | add =>
    rcases zNN_some h with h | ⟨ka, m, n, rfl, rfl, h⟩
    · exact slow_some h
    · rcases zFit_some h with h | ⟨h1, h⟩
      · exact slow_some h
      · refine ⟨_, ?_, h⟩
        simp only [binV, true_or, if_true, intBin]
        rw [show (Int.ofNat m + Int.ofNat n : Int) = Int.ofNat (Nat.add m n) from rfl, wrap_fit h1]
  | sub =>
    rcases zNN_some h with h | ⟨ka, m, n, rfl, rfl, h⟩
    · exact slow_some h
    · rcases brec_some h with ⟨_, h⟩ | ⟨hb, h⟩
      · exact slow_some h
      · rcases zFit_some h with h | ⟨h1, h⟩
        · exact slow_some h
        · refine ⟨_, ?_, h⟩
          have := Nat.le_of_ble_eq_true hb
          simp only [binV, true_or, if_true, intBin]
          rw [show (Int.ofNat m - Int.ofNat n : Int) = Int.ofNat (Nat.sub m n) by simp only [Int.ofNat_eq_natCast, Nat.sub_eq]; omega, wrap_fit h1]
  | mul =>
    rcases zNN_some h with h | ⟨ka, m, n, rfl, rfl, h⟩
    · exact slow_some h
    · rcases zFit_some h with h | ⟨h1, h⟩
      · exact slow_some h
      · refine ⟨_, ?_, h⟩
        simp only [binV, true_or, if_true, intBin]
        rw [show (Int.ofNat m * Int.ofNat n : Int) = Int.ofNat (Nat.mul m n) from rfl, wrap_fit h1]
  | quo =>
    rcases zNN_some h with h | ⟨ka, m, n, rfl, rfl, h⟩
    · exact slow_some h
    · rcases brec_some h with ⟨hb, h⟩ | ⟨_, h⟩
      · rcases zFit_some h with h | ⟨h1, h⟩
        · exact slow_some h
        · refine ⟨_, ?_, h⟩
          have hn : ¬ (Int.ofNat n = 0) := by
            intro h0
            have : n = 0 := by simpa using h0
            subst this; cases hb
          simp only [binV, true_or, if_true, intBin, hn, if_false]
          rw [show (Int.tdiv (Int.ofNat m) (Int.ofNat n) : Int) = Int.ofNat (Nat.div m n) from rfl, wrap_fit h1]
      · exact slow_some h
  | rem =>
    rcases zNN_some h with h | ⟨ka, m, n, rfl, rfl, h⟩
    · exact slow_some h
    · rcases brec_some h with ⟨hb, h⟩ | ⟨_, h⟩
      · refine ⟨_, ?_, h⟩
        have hn : ¬ (Int.ofNat n = 0) := by
          intro h0
          have : n = 0 := by simpa using h0
          subst this; cases hb
        simp only [binV, true_or, if_true, intBin, hn, if_false]
        rfl
      · exact slow_some h
  | and =>
    rcases zNN_some h with h | ⟨ka, m, n, rfl, rfl, h⟩
    · exact slow_some h
    · rcases brec_some h with ⟨_, h⟩ | ⟨hm, h⟩
      · exact slow_some h
      · rcases brec_some h with ⟨_, h⟩ | ⟨hn, h⟩
        · exact slow_some h
        · rcases zFit_some h with h | ⟨h1, h⟩
          · exact slow_some h
          · refine ⟨_, ?_, h⟩
            have h2 := Nat.lt_of_le_of_lt (Nat.le_of_ble_eq_true hm) (kmax_lt ka)
            have h3 := Nat.lt_of_le_of_lt (Nat.le_of_ble_eq_true hn) (kmax_lt ka)
            simp only [binV, true_or, if_true, intBin]
            rw [BitVec.toNat_and, (bv_nat h2 h3).1, (bv_nat h2 h3).2]
            exact congrArg some (congrArg _ (wrap_fit h1))
  | or =>
    rcases zNN_some h with h | ⟨ka, m, n, rfl, rfl, h⟩
    · exact slow_some h
    · rcases brec_some h with ⟨_, h⟩ | ⟨hm, h⟩
      · exact slow_some h
      · rcases brec_some h with ⟨_, h⟩ | ⟨hn, h⟩
        · exact slow_some h
        · rcases zFit_some h with h | ⟨h1, h⟩
          · exact slow_some h
          · refine ⟨_, ?_, h⟩
            have h2 := Nat.lt_of_le_of_lt (Nat.le_of_ble_eq_true hm) (kmax_lt ka)
            have h3 := Nat.lt_of_le_of_lt (Nat.le_of_ble_eq_true hn) (kmax_lt ka)
            simp only [binV, true_or, if_true, intBin]
            rw [BitVec.toNat_or, (bv_nat h2 h3).1, (bv_nat h2 h3).2]
            exact congrArg some (congrArg _ (wrap_fit h1))
  | xor =>
    rcases zNN_some h with h | ⟨ka, m, n, rfl, rfl, h⟩
    · exact slow_some h
    · rcases brec_some h with ⟨_, h⟩ | ⟨hm, h⟩
      · exact slow_some h
      · rcases brec_some h with ⟨_, h⟩ | ⟨hn, h⟩
        · exact slow_some h
        · rcases zFit_some h with h | ⟨h1, h⟩
          · exact slow_some h
          · refine ⟨_, ?_, h⟩
            have h2 := Nat.lt_of_le_of_lt (Nat.le_of_ble_eq_true hm) (kmax_lt ka)
            have h3 := Nat.lt_of_le_of_lt (Nat.le_of_ble_eq_true hn) (kmax_lt ka)
            simp only [binV, true_or, if_true, intBin]
            rw [BitVec.toNat_xor, (bv_nat h2 h3).1, (bv_nat h2 h3).2]
            exact congrArg some (congrArg _ (wrap_fit h1))
  | shl =>
    rcases zN2_some h with h | ⟨ka, kb, m, n, rfl, rfl, h⟩
    · exact slow_some h
    · rcases brec_some h with ⟨_, h⟩ | ⟨hb, h⟩
      · exact slow_some h
      · rcases zFit_some h with h | ⟨h1, h⟩
        · exact slow_some h
        · refine ⟨_, ?_, h⟩
          have h7 := Nat.le_of_ble_eq_true hb
          have h8 := bits_ge ka
          have hlt : ¬ (Int.ofNat n < 0) := by simp only [Int.ofNat_eq_natCast]; omega
          have hmin : min (Int.ofNat n).toNat ka.bits = n := by simp only [Int.ofNat_eq_natCast, Int.toNat_natCast]; omega
          simp only [binV, true_or, or_true, if_true, intBin, hlt, if_false, hmin]
          rw [show (Int.ofNat m * 2 ^ n : Int) = Int.ofNat (Nat.mul m (Nat.pow 2 n)) by
            show ((m : Int) * 2 ^ n) = ((m * 2 ^ n : Nat) : Int); simp, wrap_fit h1]
  | shr =>
    rcases zN2_some h with h | ⟨ka, kb, m, n, rfl, rfl, h⟩
    · exact slow_some h
    · rcases brec_some h with ⟨_, h⟩ | ⟨hb, h⟩
      · exact slow_some h
      · refine ⟨_, ?_, h⟩
        have h7 := Nat.le_of_ble_eq_true hb
        have h8 := bits_ge ka
        have hlt : ¬ (Int.ofNat n < 0) := by simp only [Int.ofNat_eq_natCast]; omega
        have hmin : min (Int.ofNat n).toNat ka.bits = n := by simp only [Int.ofNat_eq_natCast, Int.toNat_natCast]; omega
        simp only [binV, true_or, or_true, if_true, intBin, hlt, if_false, hmin]
        rw [show (Int.fdiv (Int.ofNat m) (2 ^ n) : Int) = Int.ofNat (Nat.div m (Nat.pow 2 n)) by
          show Int.fdiv (m : Int) (2 ^ n) = ((m / 2 ^ n : Nat) : Int)
          rw [show (2 ^ n : Int) = ((2 ^ n : Nat) : Int) by simp]; exact (Int.ofNat_fdiv m (2 ^ n)).symm]
  | andNot => exact slow_some h
  | eql =>
    rcases zNN_some h with h | ⟨ka, m, n, rfl, rfl, hz⟩
    · exact slow_some h
    · refine ⟨_, ?_, hz⟩
      simp only [binV, true_or, if_true, intBin, Option.some.injEq, Value.bool.injEq, beq_iff]
      by_cases hh : m = n <;> simp [hh] <;> omega
  | neq =>
    rcases zNN_some h with h | ⟨ka, m, n, rfl, rfl, hz⟩
    · exact slow_some h
    · refine ⟨_, ?_, hz⟩
      simp only [binV, true_or, if_true, intBin, Option.some.injEq, Value.bool.injEq, beq_iff]
      by_cases hh : m = n <;> simp [hh] <;> omega
  | lss =>
    rcases zNN_some h with h | ⟨ka, m, n, rfl, rfl, hz⟩
    · exact slow_some h
    · refine ⟨_, ?_, hz⟩
      simp only [binV, true_or, if_true, intBin, Option.some.injEq, Value.bool.injEq, ble_iff]
      by_cases hh : m < n <;> simp [hh, Nat.succ_le_iff]
  | leq =>
    rcases zNN_some h with h | ⟨ka, m, n, rfl, rfl, hz⟩
    · exact slow_some h
    · refine ⟨_, ?_, hz⟩
      simp only [binV, true_or, if_true, intBin, Option.some.injEq, Value.bool.injEq, ble_iff]
      by_cases hh : m ≤ n <;> simp [hh]
  | gtr =>
    rcases zNN_some h with h | ⟨ka, m, n, rfl, rfl, hz⟩
    · exact slow_some h
    · refine ⟨_, ?_, hz⟩
      simp only [binV, true_or, if_true, intBin, Option.some.injEq, Value.bool.injEq, ble_iff]
      by_cases hh : n < m <;> simp [hh, Nat.succ_le_iff]
  | geq =>
    rcases zNN_some h with h | ⟨ka, m, n, rfl, rfl, hz⟩
    · exact slow_some h
    · refine ⟨_, ?_, hz⟩
      simp only [binV, true_or, if_true, intBin, Option.some.injEq, Value.bool.injEq, ble_iff]
      by_cases hh : n ≤ m <;> simp [hh]
end Go.Proofs.YtopblipficpilaaGreatDoor.AY
