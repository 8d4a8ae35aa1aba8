/- Where a key stands among pairs, and among kids, that rise. -/
import Derived.Test.YthheaehpnleiaaaNodePuts14
namespace Go.Proofs.Ythheaehpnleiaaa.AX
open Go Go.Proofs
set_option maxRecDepth 100000
set_option linter.unusedVariables false
set_option linter.unusedSimpArgs false

theorem lessB_trans : ∀ {a b c : List Int}, lessB a b = true → lessB b c = true → lessB a c = true
  | [], [], c, h, _ => by simp [lessB] at h
  | [], _ :: _, [], _, h => by simp [lessB] at h
  | [], _ :: _, _ :: _, _, _ => rfl
  | _ :: _, [], _, h, _ => by simp [lessB] at h
  | _ :: _, _ :: _, [], _, h => by simp [lessB] at h
  | x :: a, y :: b, z :: c, h, h' => by
    simp only [lessB] at h h' ⊢
    by_cases h1 : x = y
    · subst h1
      rw [if_pos rfl] at h
      by_cases h2 : x = z
      · subst h2
        rw [if_pos rfl] at h' ⊢
        exact lessB_trans h h'
      · rw [if_neg h2] at h' ⊢; exact h'
    · rw [if_neg h1] at h
      by_cases h2 : y = z
      · subst h2; rw [if_neg h1]; exact h
      · rw [if_neg h2] at h'
        have e1 : x < y := by simpa using h
        have e2 : y < z := by simpa using h'
        rw [if_neg (by omega)]; simp; omega
theorem lessB_irrefl : ∀ (a : List Int), lessB a a = false
  | [] => rfl
  | x :: a => by rw [lessB, if_pos rfl]; exact lessB_irrefl a
theorem lessB_tri : ∀ (a b : List Int), lessB a b = true ∨ a = b ∨ lessB b a = true
  | [], [] => .inr (.inl rfl)
  | [], _ :: _ => .inl rfl
  | _ :: _, [] => .inr (.inr rfl)
  | x :: a, y :: b => by
    simp only [lessB]
    by_cases h : x = y
    · subst h
      rw [if_pos rfl, if_pos rfl]
      rcases lessB_tri a b with h | h | h
      · exact .inl h
      · exact .inr (.inl (by rw [h]))
      · exact .inr (.inr h)
    · rw [if_neg h, if_neg (Ne.symm h)]
      rcases Int.lt_or_gt_of_ne h with h | h
      · exact .inl (by simpa using h)
      · exact .inr (.inr (by simpa using h))
theorem lessB_not {a b : List Int} : lessB b a = false ↔ (lessB a b = true ∨ a = b) := by
  constructor
  · intro h
    rcases lessB_tri a b with h1 | h1 | h1
    · exact .inl h1
    · exact .inr h1
    · rw [h1] at h; cases h
  · rintro (h | rfl)
    · cases h2 : lessB b a with
      | false => rfl
      | true => have := lessB_trans h h2; rw [lessB_irrefl] at this; cases this
    · exact lessB_irrefl _

/-- how many stand ahead of a key -/
def posF : List (List Int) → List Int → Nat
  | [], _ => 0
  | x :: l, k => if lessB x k = true then posF l k + 1 else 0
theorem posF_le : ∀ (l : List (List Int)) (k : List Int), posF l k ≤ l.length
  | [], _ => Nat.le_refl _
  | x :: l, k => by
    have := posF_le l k
    rw [posF, List.length_cons]; split <;> omega
theorem posF_lt : ∀ {l : List (List Int)} {k : List Int} {i : Nat} (h : i < posF l k) (h' : i < l.length), lessB l[i] k = true
  | [], _, _, h, _ => by simp [posF] at h
  | x :: l, k, i, h, h' => by
    rw [posF] at h
    split at h
    · rename_i hx
      cases i with
      | zero => exact hx
      | succ i => exact posF_lt (l := l) (by omega) (by simpa using h')
    · omega
theorem posF_at : ∀ {l : List (List Int)} {k : List Int} (h : posF l k < l.length), lessB l[posF l k] k = false
  | [], _, h => by simp at h
  | x :: l, k, h => by
    by_cases hx : lessB x k = true
    · have e : posF (x :: l) k = posF l k + 1 := by rw [posF, if_pos hx]
      have h2 : posF l k < l.length := by rw [e] at h; simpa using h
      have := posF_at h2
      simp only [e, List.getElem_cons_succ]
      exact this
    · have e : posF (x :: l) k = 0 := by rw [posF, if_neg hx]
      simp only [e, List.getElem_cons_zero]
      simpa using hx
theorem risingB_next {l : List (List Int)} (h : risingB l = true) : ∀ {i : Nat} (hi : i + 1 < l.length), lessB l[i] l[i + 1] = true := by
  induction l with
  | nil => intro i hi; simp at hi
  | cons x l ih =>
    intro i hi
    cases l with
    | nil => simp at hi
    | cons y l =>
      rw [risingB_two, Bool.and_eq_true] at h
      cases i with
      | zero => exact h.1
      | succ i => exact ih h.2 (i := i) (by simpa using hi)
theorem less_pos {l : List (List Int)} (h : risingB l = true) (k : List Int) : ∀ {i : Nat} (hi : i < l.length), lessB l[i] k = decide (i < posF l k) := by
  have key : ∀ (d : Nat) (hi : posF l k + d < l.length), lessB (l[posF l k + d]) k = false := by
    intro d
    induction d with
    | zero => intro hi; exact posF_at hi
    | succ d ih =>
      intro hi
      cases h1 : lessB (l[posF l k + (d + 1)]) k with
      | false => rfl
      | true =>
        have h2 := risingB_next h (i := posF l k + d) hi
        have h3 := lessB_trans h2 h1
        rw [ih (by omega)] at h3; cases h3
  intro i hi
  by_cases hlt : i < posF l k
  · rw [posF_lt hlt hi, decide_eq_true hlt]
  · have e : posF l k + (i - posF l k) = i := by omega
    have := key (i - posF l k) (by omega)
    simp only [e] at this
    rw [this, decide_eq_false hlt]
def foundF (l : List (List Int)) (k : List Int) : Bool := decide (l[posF l k]? = some k)
/-- how many do not stand behind a key -/
def notF (l : List (List Int)) (k : List Int) : Nat := if foundF l k then posF l k + 1 else posF l k
theorem less_not {l : List (List Int)} (h : risingB l = true) (k : List Int) {i : Nat} (hi : i < l.length) : lessB k l[i] = decide (notF l k ≤ i) := by
  have hp := less_pos h k hi
  unfold notF foundF
  by_cases hf : l[posF l k]? = some k
  · rw [decide_eq_true hf, if_pos rfl]
    obtain ⟨h1, h2⟩ := List.getElem?_eq_some_iff.1 hf
    by_cases hlt : posF l k + 1 ≤ i
    · rw [decide_eq_true hlt]
      rw [decide_eq_false (by omega)] at hp
      rcases lessB_not.1 hp with h3 | h3
      · exact h3
      · -- two places with the same key
        exfalso
        have up : ∀ d (hd : posF l k + (d + 1) < l.length), lessB l[posF l k] (l[posF l k + (d + 1)]) = true := by
          intro d
          induction d with
          | zero => intro hd; exact risingB_next h hd
          | succ d ih => intro hd; exact lessB_trans (ih (by omega)) (risingB_next h (i := posF l k + (d + 1)) hd)
        have := up (i - posF l k - 1) (by omega)
        have e : posF l k + (i - posF l k - 1 + 1) = i := by omega
        simp only [e] at this
        rw [h2, ← h3, lessB_irrefl] at this
        cases this
    · rw [decide_eq_false hlt]
      by_cases hi2 : i < posF l k
      · rw [decide_eq_true hi2] at hp
        exact lessB_not.2 (.inl hp)
      · have : i = posF l k := by omega
        subst this
        exact lessB_not.2 (.inr h2)
  · rw [decide_eq_false hf, if_neg (by decide)]
    by_cases hlt : posF l k ≤ i
    · rw [decide_eq_true hlt]
      rw [decide_eq_false (by omega)] at hp
      rcases lessB_not.1 hp with h3 | h3
      · exact h3
      · exfalso
        by_cases hi2 : posF l k = i
        · subst hi2
          exact hf (by rw [List.getElem?_eq_getElem hi, ← h3])
        · have h4 := less_pos h k (i := i - 1) (by omega)
          rw [decide_eq_false (by omega)] at h4
          have h5 := risingB_next h (i := i - 1) (by omega)
          have e : i - 1 + 1 = i := by omega
          simp only [e] at h5
          rw [← h3] at h5
          rw [h4] at h5; cases h5
    · rw [decide_eq_false hlt]
      rw [decide_eq_true (by omega)] at hp
      exact lessB_not.2 (.inl hp)

/-! ### among Prs -/
theorem key73_spec (p : Pr) (M : Mem) (hok : Ok M) : ∃ r M', ACall Try.prog 73 #[.agg (prC p).toArray] M r M' ∧ r = p.kv ∧ Grew M M' := by
  refine ACall.fin (args := [.agg (prC p).toArray]) (k := 5) Try.func73 rfl rfl rfl (Nat.le_of_ble_eq_true rfl) ?_
  refine AWP.stepR [1] fun K hK => ?_
  simp only [go_sem, Nat.reduceEqDiff, Nat.reduceLT, Nat.reduceAdd, Nat.reduceMul, Nat.reduceSub, Nat.add_zero, Nat.zero_add, Int.reduceEq, Int.reduceLT]
  refine hK _ _ _ (by simp only [go_sem, Nat.reduceEqDiff, Nat.reduceLT, Nat.reduceAdd, Nat.reduceMul, Nat.reduceSub, Nat.add_zero, Nat.zero_add, Int.reduceEq, Int.reduceLT]; rfl) ?_; clear hK
  have hlt1 : M.next < (M.bump 1).next := Nat.lt_succ_self _
  obtain ⟨hg1, hh1⟩ := mk_put ((Grew.refl M).bump 1) (Nat.le_refl _) hlt1 ⟨prC p, 58, true⟩
  change AWP _ _ _ ⟨_, (M.bump 1).put M.next ⟨prC p, 58, true⟩⟩ _
  generalize hM1 : (M.bump 1).put M.next ⟨prC p, 58, true⟩ = M1 at hg1 hh1
  refine AWP.stepR [2] fun K hK => ?_
  simp only [go_sem, Nat.reduceEqDiff, Nat.reduceLT, Nat.reduceAdd, Nat.reduceMul, Nat.reduceSub, Nat.add_zero, Nat.zero_add, Int.reduceEq, Int.reduceLT, ld_23, hh1.ld, prC]
  refine hK _ _ _ (by simp only [go_sem, Nat.reduceEqDiff, Nat.reduceLT, Nat.reduceAdd, Nat.reduceMul, Nat.reduceSub, Nat.add_zero, Nat.zero_add, Int.reduceEq, Int.reduceLT]; rfl) ?_; clear hK
  refine AWP.ret (?_)
  exact Fin.keep (.inr rfl) rfl ⟨rfl, hg1⟩

theorem cmp102_spec (p : Pr) (kv : Value) (k : List Int) (g : Nat) (rw_ : Bool) (M : Mem) (hok : Ok M) (hg : Has M g ⟨[.func (.func 73) #[] #[]], 108, rw_⟩) (hp : RowB M p.kv p.key) (hk : RowB M kv k) :
    ∃ r M', ACall Try.prog 102 #[.agg (prC p).toArray, kv, .pointer (some ⟨g, 0, none⟩)] M r M' ∧ r = .int .i64 (cmpB p.key k) ∧ M' = M := by
  refine ACall.fin (args := [.agg (prC p).toArray, kv, .pointer (some ⟨g, 0, none⟩)]) (k := 11) Try.func102 rfl rfl rfl (Nat.le_of_ble_eq_true rfl) ?_
  refine AWP.stepR [1, 2, 3] fun K hK => ?_
  simp only [go_sem, Nat.reduceEqDiff, Nat.reduceLT, Nat.reduceAdd, Nat.reduceMul, Nat.reduceSub, Nat.add_zero, Nat.zero_add, Int.reduceEq, Int.reduceLT]
  refine hK _ _ _ (by simp only [go_sem, Nat.reduceEqDiff, Nat.reduceLT, Nat.reduceAdd, Nat.reduceMul, Nat.reduceSub, Nat.add_zero, Nat.zero_add, Int.reduceEq, Int.reduceLT]; rfl) ?_; clear hK
  have hlt1 : M.next < (M.bump 1).next := Nat.lt_succ_self _
  obtain ⟨hg1, hh1⟩ := mk_put ((Grew.refl M).bump 1) (Nat.le_refl _) hlt1 ⟨prC p, 58, true⟩
  change AWP _ _ _ ⟨_, (M.bump 1).put M.next ⟨prC p, 58, true⟩⟩ _
  generalize hM1 : (M.bump 1).put M.next ⟨prC p, 58, true⟩ = M1 at hg1 hh1
  have hg := hg.grew hg1
  obtain ⟨r2, M2, hc2, hr2, hg2⟩ := key73_spec p M1 (hg1.ok hok)
  rw [hr2] at hc2
  have hgg := hg1.trans hg2
  have hc3 := compare100_spec p.kv kv p.key k M2 (hp.grew hgg) (hk.grew hgg)
  refine AWP.stepR [5] fun K hK => ?_
  simp only [go_sem, Nat.reduceEqDiff, Nat.reduceLT, Nat.reduceAdd, Nat.reduceMul, Nat.reduceSub, Nat.add_zero, Nat.zero_add, Int.reduceEq, Int.reduceLT, ld_108, ld_58, hg.ld, hh1.lda (prC_len ..)]
  refine ⟨_, _, hc2, ?_⟩
  try simp only [go_sem, Nat.reduceEqDiff, Nat.reduceLT, Nat.reduceAdd, Nat.reduceMul, Nat.reduceSub, Nat.add_zero, Nat.zero_add, Int.reduceEq, Int.reduceLT]
  refine ⟨_, _, hc3, ?_⟩
  refine hK _ _ _ (by simp only [go_sem, Nat.reduceEqDiff, Nat.reduceLT, Nat.reduceAdd, Nat.reduceMul, Nat.reduceSub, Nat.add_zero, Nat.zero_add, Int.reduceEq, Int.reduceLT]; rfl) ?_; clear hK
  refine AWP.ret (?_)
  exact Fin.plain (.inr rfl) rfl rfl hok hgg ⟨rfl, rfl⟩

theorem search101_spec (v kv : Value) (l : List Pr) (k : List Int) (g : Nat) (rw_ : Bool) (M : Mem) (hok : Ok M) (hg : Has M g ⟨[.func (.func 73) #[] #[]], 108, rw_⟩) (hv : Row_ M v l.length (l.flatMap prC)) (hkey : ∀ p, p ∈ l → RowB M p.kv p.key)
    (hk : RowB M kv k) (hb : ∀ p, p ∈ l → Byt p.key) (hbk : Byt k) (hrise : risingB (l.map Pr.key) = true) (hl : l.length ≤ 1000) :
    ∃ r M', ACall Try.prog 101 #[v, kv, .func (.func 102) #[] #[.pointer (some ⟨g, 0, none⟩)]] M r M' ∧ r = .tuple #[.int .i64 (posF (l.map Pr.key) k), .bool (foundF (l.map Pr.key) k)] ∧ M' = M := by
  refine ACall.fin (args := [v, kv, .func (.func 102) #[] #[.pointer (some ⟨g, 0, none⟩)]]) (k := 49) Try.func101 rfl rfl rfl (Nat.le_of_ble_eq_true rfl) ?_
  have hcall : ∀ {i : Nat} (hi : i < l.length), ∃ b q, (∀ kk, indexAddrV Try.prog 41 v (.int kk i) = some (.pointer (some ⟨b, q, none⟩))) ∧ ldA M.get b q 2 = some (.agg (prC l[i]).toArray) ∧
      ACall Try.prog 102 #[.agg (prC l[i]).toArray, kv, .pointer (some ⟨g, 0, none⟩)] M (.int .i64 (cmpB l[i].key k)) M ∧ (cmpB l[i].key k < 0 ↔ i < posF (l.map Pr.key) k) ∧ (cmpB l[i].key k = 0 ↔ l[i].key = k) := by
    intro i hi
    obtain ⟨b, q, ha, hd⟩ := pr_at hv hi
    have hd := (hd M (Grew.refl _)).2.2
    obtain ⟨r2, M2, hc2, hr2, hM2⟩ := cmp102_spec l[i] kv k g rw_ M hok hg (hkey _ (List.getElem_mem hi)) hk
    rw [hr2, hM2] at hc2
    obtain ⟨e1, e2⟩ := cmpB_less (hb _ (List.getElem_mem hi)) hbk
    refine ⟨b, q, ha, hd, hc2, ?_, e2⟩
    have := less_pos hrise k (i := i) (by simpa using hi)
    rw [List.getElem_map] at this
    rw [e1, this, decide_eq_true_eq]
  have hple := posF_le (l.map Pr.key) k
  rw [List.length_map] at hple
  refine AWP.stepR [0, 1, 2] fun K hK => ?_
  simp only [go_sem, Nat.reduceEqDiff, Nat.reduceLT, Nat.reduceAdd, Nat.reduceMul, Nat.reduceSub, Nat.add_zero, Nat.zero_add, Int.reduceEq, Int.reduceLT]
  refine hK _ _ _ (by simp only [go_sem, Nat.reduceEqDiff, Nat.reduceLT, Nat.reduceAdd, Nat.reduceMul, Nat.reduceSub, Nat.add_zero, Nat.zero_add, Int.reduceEq, Int.reduceLT]; rfl) ?_; clear hK
  refine AWP.stepR [0, 1, 2, 8] fun K hK => ?_
  simp only [go_sem, Nat.reduceEqDiff, Nat.reduceLT, Nat.reduceAdd, Nat.reduceMul, Nat.reduceSub, Nat.add_zero, Nat.zero_add, Int.reduceEq, Int.reduceLT, hv.len es_41]
  refine hK _ _ _ (by simp only [go_sem, Nat.reduceEqDiff, Nat.reduceLT, Nat.reduceAdd, Nat.reduceMul, Nat.reduceSub, Nat.add_zero, Nat.zero_add, Int.reduceEq, Int.reduceLT]; rfl) ?_; clear hK
  refine AWP.stepR [0, 1, 2, 8, 9, 10] fun K hK => ?_
  simp only [go_sem, Nat.reduceEqDiff, Nat.reduceLT, Nat.reduceAdd, Nat.reduceMul, Nat.reduceSub, Nat.add_zero, Nat.zero_add, Int.reduceEq, Int.reduceLT]
  refine hK _ _ _ (by simp only [go_sem, Nat.reduceEqDiff, Nat.reduceLT, Nat.reduceAdd, Nat.reduceMul, Nat.reduceSub, Nat.add_zero, Nat.zero_add, Int.reduceEq, Int.reduceLT]; rfl) ?_; clear hK
  refine AWP.seq ?_
  refine AWP.block ?_ -- b0
  refine AWP.loopK [0, 1, 2, 8, 9, 10] (fun c e M0 => M0 = M ∧ ∃ i j : Nat, c = j - i ∧ i ≤ posF (l.map Pr.key) k ∧ posF (l.map Pr.key) k ≤ j ∧ j ≤ l.length ∧
    e = [(0, v), (1, kv), (2, .func (.func 102) #[] #[.pointer (some ⟨g, 0, none⟩)]), (8, .int .i64 l.length), (9, .int .i64 i), (10, .int .i64 j)]) l.length ?_ fun c e M0 hI => ?_ -- LOOP
  · simp only [go_sem, Nat.reduceEqDiff, Nat.reduceLT, Nat.reduceAdd, Nat.reduceMul, Nat.reduceSub, Nat.add_zero, Nat.zero_add, Int.reduceEq, Int.reduceLT, true_and]
    exact ⟨0, l.length, rfl, by omega, hple, by omega, rfl⟩
  obtain ⟨rfl, i, j, hc, hi, hj, hjl, rfl⟩ := hI
  refine AWP.seq ?_
  refine AWP.stepR [0, 1, 2, 8, 9, 10, 17] fun K hK => ?_
  simp only [go_sem, Nat.reduceEqDiff, Nat.reduceLT, Nat.reduceAdd, Nat.reduceMul, Nat.reduceSub, Nat.add_zero, Nat.zero_add, Int.reduceEq, Int.reduceLT]
  refine hK _ _ _ (by simp only [go_sem, Nat.reduceEqDiff, Nat.reduceLT, Nat.reduceAdd, Nat.reduceMul, Nat.reduceSub, Nat.add_zero, Nat.zero_add, Int.reduceEq, Int.reduceLT]; rfl) ?_; clear hK
  refine AWP.cond_split rfl (fun h17 => ?_) fun h17 => ?_
  · have hij : i < j := by simpa using h17
    have hh1 : ((i : Int) + j) / 2 = (((i + j) / 2 : Nat) : Int) := by omega
    generalize hmid : (i + j) / 2 = h at hh1
    have hhl : h < l.length := by omega
    obtain ⟨b, q, ha, hd, hcc, e1, e2⟩ := hcall hhl
    refine AWP.skip ?_
    refine AWP.block ?_ -- b1
    have hsh : IntKind.i64.wrap ((IntKind.u64.wrap (IntKind.i64.wrap ((i : Int) + j))).fdiv (2 ^ min (Int.toNat 1) 64)) = (h : Int) := by
      rw [i64w (n := (i : Int) + j) (by omega) (by omega)]
      have : IntKind.u64.wrap ((i : Int) + j) = (i : Int) + j := by simp [IntKind.wrap, IntKind.signed, IntKind.bits, IntKind.min, IntKind.max]; omega
      rw [this]
      have e3 : ((i : Int) + j).fdiv (2 ^ min (Int.toNat 1) 64) = h := by
        rw [Int.fdiv_eq_ediv_of_nonneg _ (by decide)]
        exact hh1
      rw [e3, i64w (by omega) (by omega)]
    refine AWP.stepR [0, 1, 2, 8, 9, 10, 11] fun K hK => ?_
    simp only [go_sem, Nat.reduceEqDiff, Nat.reduceLT, Nat.reduceAdd, Nat.reduceMul, Nat.reduceSub, Nat.add_zero, Nat.zero_add, Int.reduceEq, Int.reduceLT]
    refine hK _ _ _ (by simp only [go_sem, Nat.reduceEqDiff, Nat.reduceLT, Nat.reduceAdd, Nat.reduceMul, Nat.reduceSub, Nat.add_zero, Nat.zero_add, Int.reduceEq, Int.reduceLT]; rfl) ?_; clear hK
    rw [hsh]
    refine AWP.stepR [0, 1, 2, 8, 9, 10, 11, 31] fun K hK => ?_
    simp only [go_sem, Nat.reduceEqDiff, Nat.reduceLT, Nat.reduceAdd, Nat.reduceMul, Nat.reduceSub, Nat.add_zero, Nat.zero_add, Int.reduceEq, Int.reduceLT, ha, ld_58, hd]
    refine ⟨_, _, hcc, ?_⟩
    refine hK _ _ _ (by simp only [go_sem, Nat.reduceEqDiff, Nat.reduceLT, Nat.reduceAdd, Nat.reduceMul, Nat.reduceSub, Nat.add_zero, Nat.zero_add, Int.reduceEq, Int.reduceLT]; rfl) ?_; clear hK
    refine AWP.cond_split rfl (fun h31 => ?_) fun h31 => ?_
    · have hlt : h < posF (l.map Pr.key) k := e1.1 (by simpa using h31)
      refine AWP.lastR fun K hK => ?_
      simp only [go_sem, Nat.reduceEqDiff, Nat.reduceLT, Nat.reduceAdd, Nat.reduceMul, Nat.reduceSub, Nat.add_zero, Nat.zero_add, Int.reduceEq, Int.reduceLT]
      refine hK _ _ ?_; clear hK
      refine ⟨j - (h + 1), by omega, rfl, h + 1, j, rfl, by omega, hj, hjl, ?_⟩ -- ROUND
      simp only [go_sem, Nat.reduceEqDiff, Nat.reduceLT, Nat.reduceAdd, Nat.reduceMul, Nat.reduceSub, Nat.add_zero, Nat.zero_add, Int.reduceEq, Int.reduceLT]
      rw [i64w (by omega) (by omega)]; rfl
    · have hge : ¬ h < posF (l.map Pr.key) k := fun hh => by have := e1.2 hh; simp at h31; omega
      refine AWP.lastR fun K hK => ?_
      simp only [go_sem, Nat.reduceEqDiff, Nat.reduceLT, Nat.reduceAdd, Nat.reduceMul, Nat.reduceSub, Nat.add_zero, Nat.zero_add, Int.reduceEq, Int.reduceLT]
      refine hK _ _ ?_; clear hK
      refine ⟨h - i, by omega, rfl, i, h, rfl, hi, by omega, by omega, ?_⟩ -- ROUND
      simp only [go_sem, Nat.reduceEqDiff, Nat.reduceLT, Nat.reduceAdd, Nat.reduceMul, Nat.reduceSub, Nat.add_zero, Nat.zero_add, Int.reduceEq, Int.reduceLT]
  · refine AWP.exit (Then.exit (Then.exit (InBlock.same ?_)))
    have hpos : i = posF (l.map Pr.key) k := by simp at h17; omega
    have hfe : foundF (l.map Pr.key) k = decide (∃ h : i < l.length, l[i].key = k) := by
      unfold foundF
      rw [decide_eq_decide, ← hpos, List.getElem?_map]
      by_cases hil : i < l.length
      · rw [List.getElem?_eq_getElem hil]
        simp [hil]
      · rw [List.getElem?_eq_none (by omega)]
        simp [hil]
    rw [← hpos, hfe]
    by_cases hil : i < l.length
    · obtain ⟨b, q, ha, hd, hcc, e1, e2⟩ := hcall hil
      refine AWP.stepR [6, 7] fun K hK => ?_
      simp only [go_sem, Nat.reduceEqDiff, Nat.reduceLT, Nat.reduceAdd, Nat.reduceMul, Nat.reduceSub, Nat.add_zero, Nat.zero_add, Int.reduceEq, Int.reduceLT, decide_eq_true (show (i : Int) < (l.length : Int) by omega), ha, ld_58, hd]
      refine ⟨_, _, hcc, ?_⟩
      try simp only [go_sem, Nat.reduceEqDiff, Nat.reduceLT, Nat.reduceAdd, Nat.reduceMul, Nat.reduceSub, Nat.add_zero, Nat.zero_add, Int.reduceEq, Int.reduceLT]
      refine hK _ _ _ (by simp only [go_sem, Nat.reduceEqDiff, Nat.reduceLT, Nat.reduceAdd, Nat.reduceMul, Nat.reduceSub, Nat.add_zero, Nat.zero_add, Int.reduceEq, Int.reduceLT]; rfl) ?_; clear hK
      refine AWP.ret (?_)
      refine Fin.two (.inr rfl) rfl rfl rfl hok (Grew.refl _) ⟨?_, rfl⟩
      rw [show decide (∃ h : i < l.length, l[i].key = k) = (cmpB l[i].key k == 0) from Bool.eq_iff_iff.2 (by simp [hil, e2])]
    · refine AWP.stepR [6, 7] fun K hK => ?_
      simp only [go_sem, Nat.reduceEqDiff, Nat.reduceLT, Nat.reduceAdd, Nat.reduceMul, Nat.reduceSub, Nat.add_zero, Nat.zero_add, Int.reduceEq, Int.reduceLT, decide_eq_false (show ¬ (i : Int) < (l.length : Int) by omega)]
      refine hK _ _ _ (by simp only [go_sem, Nat.reduceEqDiff, Nat.reduceLT, Nat.reduceAdd, Nat.reduceMul, Nat.reduceSub, Nat.add_zero, Nat.zero_add, Int.reduceEq, Int.reduceLT]; rfl) ?_; clear hK
      refine AWP.ret (?_)
      refine Fin.two (.inr rfl) rfl rfl rfl hok (Grew.refl _) ⟨?_, rfl⟩
      rw [decide_eq_false (by rintro ⟨h, _⟩; exact hil h)]

theorem find83_spec (v kv : Value) (l : List Pr) (k : List Int) (M : Mem) (hok : Ok M) (hv : Row_ M v l.length (l.flatMap prC)) (hkey : ∀ p, p ∈ l → RowB M p.kv p.key)
    (hk : RowB M kv k) (hb : ∀ p, p ∈ l → Byt p.key) (hbk : Byt k) (hrise : risingB (l.map Pr.key) = true) (hl : l.length ≤ 1000) :
    ∃ r M', ACall Try.prog 83 #[v, kv, .func (.func 73) #[] #[]] M r M' ∧ r = .tuple #[.int .i64 (posF (l.map Pr.key) k), .bool (foundF (l.map Pr.key) k)] ∧ M' = M := by
  refine ACall.fin (args := [v, kv, .func (.func 73) #[] #[]]) (k := 14) Try.func83 rfl rfl rfl (Nat.le_of_ble_eq_true rfl) ?_
  refine AWP.stepR [0, 1, 5] fun K hK => ?_
  simp only [go_sem, Nat.reduceEqDiff, Nat.reduceLT, Nat.reduceAdd, Nat.reduceMul, Nat.reduceSub, Nat.add_zero, Nat.zero_add, Int.reduceEq, Int.reduceLT]
  refine hK _ _ _ (by simp only [go_sem, Nat.reduceEqDiff, Nat.reduceLT, Nat.reduceAdd, Nat.reduceMul, Nat.reduceSub, Nat.add_zero, Nat.zero_add, Int.reduceEq, Int.reduceLT]; rfl) ?_; clear hK
  have hlt1 : M.next < (M.bump 1).next := Nat.lt_succ_self _
  obtain ⟨hg1, hh1⟩ := mk_put ((Grew.refl M).bump 1) (Nat.le_refl _) hlt1 ⟨[.func (.func 73) #[] #[]], 108, true⟩
  change AWP _ _ _ ⟨_, (M.bump 1).put M.next ⟨[.func (.func 73) #[] #[]], 108, true⟩⟩ _
  generalize hM1 : (M.bump 1).put M.next ⟨[.func (.func 73) #[] #[]], 108, true⟩ = M1 at hg1 hh1
  obtain ⟨r2, M2, hc2, hr2, hM2⟩ := search101_spec v kv l k M.next true M1 (hg1.ok hok) hh1 (hv.grew hg1) (fun p hp => (hkey p hp).grew hg1) (hk.grew hg1) hb hbk hrise hl
  rw [hr2, hM2] at hc2
  refine AWP.stepR [6, 7] fun K hK => ?_
  simp only [go_sem, Nat.reduceEqDiff, Nat.reduceLT, Nat.reduceAdd, Nat.reduceMul, Nat.reduceSub, Nat.add_zero, Nat.zero_add, Int.reduceEq, Int.reduceLT]
  refine ⟨_, _, hc2, ?_⟩
  try simp only [go_sem, Nat.reduceEqDiff, Nat.reduceLT, Nat.reduceAdd, Nat.reduceMul, Nat.reduceSub, Nat.add_zero, Nat.zero_add, Int.reduceEq, Int.reduceLT, extractV]
  refine hK _ _ _ (by simp only [go_sem, Nat.reduceEqDiff, Nat.reduceLT, Nat.reduceAdd, Nat.reduceMul, Nat.reduceSub, Nat.add_zero, Nat.zero_add, Int.reduceEq, Int.reduceLT]; rfl) ?_; clear hK
  refine AWP.ret (?_)
  exact Fin.two (.inr rfl) rfl rfl rfl hok hg1 ⟨rfl, rfl⟩

/-! ### among Kds -/
theorem key75_spec (p : Kd) (M : Mem) (hok : Ok M) : ∃ r M', ACall Try.prog 75 #[.agg (kdC p).toArray] M r M' ∧ r = p.kv ∧ Grew M M' := by
  refine ACall.fin (args := [.agg (kdC p).toArray]) (k := 5) Try.func75 rfl rfl rfl (Nat.le_of_ble_eq_true rfl) ?_
  refine AWP.stepR [1] fun K hK => ?_
  simp only [go_sem, Nat.reduceEqDiff, Nat.reduceLT, Nat.reduceAdd, Nat.reduceMul, Nat.reduceSub, Nat.add_zero, Nat.zero_add, Int.reduceEq, Int.reduceLT]
  refine hK _ _ _ (by simp only [go_sem, Nat.reduceEqDiff, Nat.reduceLT, Nat.reduceAdd, Nat.reduceMul, Nat.reduceSub, Nat.add_zero, Nat.zero_add, Int.reduceEq, Int.reduceLT]; rfl) ?_; clear hK
  have hlt1 : M.next < (M.bump 1).next := Nat.lt_succ_self _
  obtain ⟨hg1, hh1⟩ := mk_put ((Grew.refl M).bump 1) (Nat.le_refl _) hlt1 ⟨kdC p, 60, true⟩
  change AWP _ _ _ ⟨_, (M.bump 1).put M.next ⟨kdC p, 60, true⟩⟩ _
  generalize hM1 : (M.bump 1).put M.next ⟨kdC p, 60, true⟩ = M1 at hg1 hh1
  refine AWP.stepR [2] fun K hK => ?_
  simp only [go_sem, Nat.reduceEqDiff, Nat.reduceLT, Nat.reduceAdd, Nat.reduceMul, Nat.reduceSub, Nat.add_zero, Nat.zero_add, Int.reduceEq, Int.reduceLT, ld_23, hh1.ld, kdC]
  refine hK _ _ _ (by simp only [go_sem, Nat.reduceEqDiff, Nat.reduceLT, Nat.reduceAdd, Nat.reduceMul, Nat.reduceSub, Nat.add_zero, Nat.zero_add, Int.reduceEq, Int.reduceLT]; rfl) ?_; clear hK
  refine AWP.ret (?_)
  exact Fin.keep (.inr rfl) rfl ⟨rfl, hg1⟩

theorem cmp104_spec (p : Kd) (kv : Value) (k : List Int) (g : Nat) (rw_ : Bool) (M : Mem) (hok : Ok M) (hg : Has M g ⟨[.func (.func 75) #[] #[]], 110, rw_⟩) (hp : RowB M p.kv p.key) (hk : RowB M kv k) :
    ∃ r M', ACall Try.prog 104 #[.agg (kdC p).toArray, kv, .pointer (some ⟨g, 0, none⟩)] M r M' ∧ r = .int .i64 (cmpB p.key k) ∧ M' = M := by
  refine ACall.fin (args := [.agg (kdC p).toArray, kv, .pointer (some ⟨g, 0, none⟩)]) (k := 11) Try.func104 rfl rfl rfl (Nat.le_of_ble_eq_true rfl) ?_
  refine AWP.stepR [1, 2, 3] fun K hK => ?_
  simp only [go_sem, Nat.reduceEqDiff, Nat.reduceLT, Nat.reduceAdd, Nat.reduceMul, Nat.reduceSub, Nat.add_zero, Nat.zero_add, Int.reduceEq, Int.reduceLT]
  refine hK _ _ _ (by simp only [go_sem, Nat.reduceEqDiff, Nat.reduceLT, Nat.reduceAdd, Nat.reduceMul, Nat.reduceSub, Nat.add_zero, Nat.zero_add, Int.reduceEq, Int.reduceLT]; rfl) ?_; clear hK
  have hlt1 : M.next < (M.bump 1).next := Nat.lt_succ_self _
  obtain ⟨hg1, hh1⟩ := mk_put ((Grew.refl M).bump 1) (Nat.le_refl _) hlt1 ⟨kdC p, 60, true⟩
  change AWP _ _ _ ⟨_, (M.bump 1).put M.next ⟨kdC p, 60, true⟩⟩ _
  generalize hM1 : (M.bump 1).put M.next ⟨kdC p, 60, true⟩ = M1 at hg1 hh1
  have hg := hg.grew hg1
  obtain ⟨r2, M2, hc2, hr2, hg2⟩ := key75_spec p M1 (hg1.ok hok)
  rw [hr2] at hc2
  have hgg := hg1.trans hg2
  have hc3 := compare100_spec p.kv kv p.key k M2 (hp.grew hgg) (hk.grew hgg)
  refine AWP.stepR [5] fun K hK => ?_
  simp only [go_sem, Nat.reduceEqDiff, Nat.reduceLT, Nat.reduceAdd, Nat.reduceMul, Nat.reduceSub, Nat.add_zero, Nat.zero_add, Int.reduceEq, Int.reduceLT, ld_110, ld_60, hg.ld, hh1.lda (kdC_len ..)]
  refine ⟨_, _, hc2, ?_⟩
  try simp only [go_sem, Nat.reduceEqDiff, Nat.reduceLT, Nat.reduceAdd, Nat.reduceMul, Nat.reduceSub, Nat.add_zero, Nat.zero_add, Int.reduceEq, Int.reduceLT]
  refine ⟨_, _, hc3, ?_⟩
  refine hK _ _ _ (by simp only [go_sem, Nat.reduceEqDiff, Nat.reduceLT, Nat.reduceAdd, Nat.reduceMul, Nat.reduceSub, Nat.add_zero, Nat.zero_add, Int.reduceEq, Int.reduceLT]; rfl) ?_; clear hK
  refine AWP.ret (?_)
  exact Fin.plain (.inr rfl) rfl rfl hok hgg ⟨rfl, rfl⟩

theorem search103_spec (v kv : Value) (l : List Kd) (k : List Int) (g : Nat) (rw_ : Bool) (M : Mem) (hok : Ok M) (hg : Has M g ⟨[.func (.func 75) #[] #[]], 110, rw_⟩) (hv : Row_ M v l.length (l.flatMap kdC)) (hkey : ∀ p, p ∈ l → RowB M p.kv p.key)
    (hk : RowB M kv k) (hb : ∀ p, p ∈ l → Byt p.key) (hbk : Byt k) (hrise : risingB (l.map Kd.key) = true) (hl : l.length ≤ 1000) :
    ∃ r M', ACall Try.prog 103 #[v, kv, .func (.func 104) #[] #[.pointer (some ⟨g, 0, none⟩)]] M r M' ∧ r = .tuple #[.int .i64 (posF (l.map Kd.key) k), .bool (foundF (l.map Kd.key) k)] ∧ M' = M := by
  refine ACall.fin (args := [v, kv, .func (.func 104) #[] #[.pointer (some ⟨g, 0, none⟩)]]) (k := 49) Try.func103 rfl rfl rfl (Nat.le_of_ble_eq_true rfl) ?_
  have hcall : ∀ {i : Nat} (hi : i < l.length), ∃ b q, (∀ kk, indexAddrV Try.prog 42 v (.int kk i) = some (.pointer (some ⟨b, q, none⟩))) ∧ ldA M.get b q 3 = some (.agg (kdC l[i]).toArray) ∧
      ACall Try.prog 104 #[.agg (kdC l[i]).toArray, kv, .pointer (some ⟨g, 0, none⟩)] M (.int .i64 (cmpB l[i].key k)) M ∧ (cmpB l[i].key k < 0 ↔ i < posF (l.map Kd.key) k) ∧ (cmpB l[i].key k = 0 ↔ l[i].key = k) := by
    intro i hi
    obtain ⟨b, q, ha, hd⟩ := kd_at hv hi
    have hd := (hd M (Grew.refl _)).2.2.2
    obtain ⟨r2, M2, hc2, hr2, hM2⟩ := cmp104_spec l[i] kv k g rw_ M hok hg (hkey _ (List.getElem_mem hi)) hk
    rw [hr2, hM2] at hc2
    obtain ⟨e1, e2⟩ := cmpB_less (hb _ (List.getElem_mem hi)) hbk
    refine ⟨b, q, ha, hd, hc2, ?_, e2⟩
    have := less_pos hrise k (i := i) (by simpa using hi)
    rw [List.getElem_map] at this
    rw [e1, this, decide_eq_true_eq]
  have hple := posF_le (l.map Kd.key) k
  rw [List.length_map] at hple
  refine AWP.stepR [0, 1, 2] fun K hK => ?_
  simp only [go_sem, Nat.reduceEqDiff, Nat.reduceLT, Nat.reduceAdd, Nat.reduceMul, Nat.reduceSub, Nat.add_zero, Nat.zero_add, Int.reduceEq, Int.reduceLT]
  refine hK _ _ _ (by simp only [go_sem, Nat.reduceEqDiff, Nat.reduceLT, Nat.reduceAdd, Nat.reduceMul, Nat.reduceSub, Nat.add_zero, Nat.zero_add, Int.reduceEq, Int.reduceLT]; rfl) ?_; clear hK
  refine AWP.stepR [0, 1, 2, 8] fun K hK => ?_
  simp only [go_sem, Nat.reduceEqDiff, Nat.reduceLT, Nat.reduceAdd, Nat.reduceMul, Nat.reduceSub, Nat.add_zero, Nat.zero_add, Int.reduceEq, Int.reduceLT, hv.len es_42]
  refine hK _ _ _ (by simp only [go_sem, Nat.reduceEqDiff, Nat.reduceLT, Nat.reduceAdd, Nat.reduceMul, Nat.reduceSub, Nat.add_zero, Nat.zero_add, Int.reduceEq, Int.reduceLT]; rfl) ?_; clear hK
  refine AWP.stepR [0, 1, 2, 8, 9, 10] fun K hK => ?_
  simp only [go_sem, Nat.reduceEqDiff, Nat.reduceLT, Nat.reduceAdd, Nat.reduceMul, Nat.reduceSub, Nat.add_zero, Nat.zero_add, Int.reduceEq, Int.reduceLT]
  refine hK _ _ _ (by simp only [go_sem, Nat.reduceEqDiff, Nat.reduceLT, Nat.reduceAdd, Nat.reduceMul, Nat.reduceSub, Nat.add_zero, Nat.zero_add, Int.reduceEq, Int.reduceLT]; rfl) ?_; clear hK
  refine AWP.seq ?_
  refine AWP.block ?_ -- b0
  refine AWP.loopK [0, 1, 2, 8, 9, 10] (fun c e M0 => M0 = M ∧ ∃ i j : Nat, c = j - i ∧ i ≤ posF (l.map Kd.key) k ∧ posF (l.map Kd.key) k ≤ j ∧ j ≤ l.length ∧
    e = [(0, v), (1, kv), (2, .func (.func 104) #[] #[.pointer (some ⟨g, 0, none⟩)]), (8, .int .i64 l.length), (9, .int .i64 i), (10, .int .i64 j)]) l.length ?_ fun c e M0 hI => ?_ -- LOOP
  · simp only [go_sem, Nat.reduceEqDiff, Nat.reduceLT, Nat.reduceAdd, Nat.reduceMul, Nat.reduceSub, Nat.add_zero, Nat.zero_add, Int.reduceEq, Int.reduceLT, true_and]
    exact ⟨0, l.length, rfl, by omega, hple, by omega, rfl⟩
  obtain ⟨rfl, i, j, hc, hi, hj, hjl, rfl⟩ := hI
  refine AWP.seq ?_
  refine AWP.stepR [0, 1, 2, 8, 9, 10, 17] fun K hK => ?_
  simp only [go_sem, Nat.reduceEqDiff, Nat.reduceLT, Nat.reduceAdd, Nat.reduceMul, Nat.reduceSub, Nat.add_zero, Nat.zero_add, Int.reduceEq, Int.reduceLT]
  refine hK _ _ _ (by simp only [go_sem, Nat.reduceEqDiff, Nat.reduceLT, Nat.reduceAdd, Nat.reduceMul, Nat.reduceSub, Nat.add_zero, Nat.zero_add, Int.reduceEq, Int.reduceLT]; rfl) ?_; clear hK
  refine AWP.cond_split rfl (fun h17 => ?_) fun h17 => ?_
  · have hij : i < j := by simpa using h17
    have hh1 : ((i : Int) + j) / 2 = (((i + j) / 2 : Nat) : Int) := by omega
    generalize hmid : (i + j) / 2 = h at hh1
    have hhl : h < l.length := by omega
    obtain ⟨b, q, ha, hd, hcc, e1, e2⟩ := hcall hhl
    refine AWP.skip ?_
    refine AWP.block ?_ -- b1
    have hsh : IntKind.i64.wrap ((IntKind.u64.wrap (IntKind.i64.wrap ((i : Int) + j))).fdiv (2 ^ min (Int.toNat 1) 64)) = (h : Int) := by
      rw [i64w (n := (i : Int) + j) (by omega) (by omega)]
      have : IntKind.u64.wrap ((i : Int) + j) = (i : Int) + j := by simp [IntKind.wrap, IntKind.signed, IntKind.bits, IntKind.min, IntKind.max]; omega
      rw [this]
      have e3 : ((i : Int) + j).fdiv (2 ^ min (Int.toNat 1) 64) = h := by
        rw [Int.fdiv_eq_ediv_of_nonneg _ (by decide)]
        exact hh1
      rw [e3, i64w (by omega) (by omega)]
    refine AWP.stepR [0, 1, 2, 8, 9, 10, 11] fun K hK => ?_
    simp only [go_sem, Nat.reduceEqDiff, Nat.reduceLT, Nat.reduceAdd, Nat.reduceMul, Nat.reduceSub, Nat.add_zero, Nat.zero_add, Int.reduceEq, Int.reduceLT]
    refine hK _ _ _ (by simp only [go_sem, Nat.reduceEqDiff, Nat.reduceLT, Nat.reduceAdd, Nat.reduceMul, Nat.reduceSub, Nat.add_zero, Nat.zero_add, Int.reduceEq, Int.reduceLT]; rfl) ?_; clear hK
    rw [hsh]
    refine AWP.stepR [0, 1, 2, 8, 9, 10, 11, 31] fun K hK => ?_
    simp only [go_sem, Nat.reduceEqDiff, Nat.reduceLT, Nat.reduceAdd, Nat.reduceMul, Nat.reduceSub, Nat.add_zero, Nat.zero_add, Int.reduceEq, Int.reduceLT, ha, ld_60, hd]
    refine ⟨_, _, hcc, ?_⟩
    refine hK _ _ _ (by simp only [go_sem, Nat.reduceEqDiff, Nat.reduceLT, Nat.reduceAdd, Nat.reduceMul, Nat.reduceSub, Nat.add_zero, Nat.zero_add, Int.reduceEq, Int.reduceLT]; rfl) ?_; clear hK
    refine AWP.cond_split rfl (fun h31 => ?_) fun h31 => ?_
    · have hlt : h < posF (l.map Kd.key) k := e1.1 (by simpa using h31)
      refine AWP.lastR fun K hK => ?_
      simp only [go_sem, Nat.reduceEqDiff, Nat.reduceLT, Nat.reduceAdd, Nat.reduceMul, Nat.reduceSub, Nat.add_zero, Nat.zero_add, Int.reduceEq, Int.reduceLT]
      refine hK _ _ ?_; clear hK
      refine ⟨j - (h + 1), by omega, rfl, h + 1, j, rfl, by omega, hj, hjl, ?_⟩ -- ROUND
      simp only [go_sem, Nat.reduceEqDiff, Nat.reduceLT, Nat.reduceAdd, Nat.reduceMul, Nat.reduceSub, Nat.add_zero, Nat.zero_add, Int.reduceEq, Int.reduceLT]
      rw [i64w (by omega) (by omega)]; rfl
    · have hge : ¬ h < posF (l.map Kd.key) k := fun hh => by have := e1.2 hh; simp at h31; omega
      refine AWP.lastR fun K hK => ?_
      simp only [go_sem, Nat.reduceEqDiff, Nat.reduceLT, Nat.reduceAdd, Nat.reduceMul, Nat.reduceSub, Nat.add_zero, Nat.zero_add, Int.reduceEq, Int.reduceLT]
      refine hK _ _ ?_; clear hK
      refine ⟨h - i, by omega, rfl, i, h, rfl, hi, by omega, by omega, ?_⟩ -- ROUND
      simp only [go_sem, Nat.reduceEqDiff, Nat.reduceLT, Nat.reduceAdd, Nat.reduceMul, Nat.reduceSub, Nat.add_zero, Nat.zero_add, Int.reduceEq, Int.reduceLT]
  · refine AWP.exit (Then.exit (Then.exit (InBlock.same ?_)))
    have hpos : i = posF (l.map Kd.key) k := by simp at h17; omega
    have hfe : foundF (l.map Kd.key) k = decide (∃ h : i < l.length, l[i].key = k) := by
      unfold foundF
      rw [decide_eq_decide, ← hpos, List.getElem?_map]
      by_cases hil : i < l.length
      · rw [List.getElem?_eq_getElem hil]
        simp [hil]
      · rw [List.getElem?_eq_none (by omega)]
        simp [hil]
    rw [← hpos, hfe]
    by_cases hil : i < l.length
    · obtain ⟨b, q, ha, hd, hcc, e1, e2⟩ := hcall hil
      refine AWP.stepR [6, 7] fun K hK => ?_
      simp only [go_sem, Nat.reduceEqDiff, Nat.reduceLT, Nat.reduceAdd, Nat.reduceMul, Nat.reduceSub, Nat.add_zero, Nat.zero_add, Int.reduceEq, Int.reduceLT, decide_eq_true (show (i : Int) < (l.length : Int) by omega), ha, ld_60, hd]
      refine ⟨_, _, hcc, ?_⟩
      try simp only [go_sem, Nat.reduceEqDiff, Nat.reduceLT, Nat.reduceAdd, Nat.reduceMul, Nat.reduceSub, Nat.add_zero, Nat.zero_add, Int.reduceEq, Int.reduceLT]
      refine hK _ _ _ (by simp only [go_sem, Nat.reduceEqDiff, Nat.reduceLT, Nat.reduceAdd, Nat.reduceMul, Nat.reduceSub, Nat.add_zero, Nat.zero_add, Int.reduceEq, Int.reduceLT]; rfl) ?_; clear hK
      refine AWP.ret (?_)
      refine Fin.two (.inr rfl) rfl rfl rfl hok (Grew.refl _) ⟨?_, rfl⟩
      rw [show decide (∃ h : i < l.length, l[i].key = k) = (cmpB l[i].key k == 0) from Bool.eq_iff_iff.2 (by simp [hil, e2])]
    · refine AWP.stepR [6, 7] fun K hK => ?_
      simp only [go_sem, Nat.reduceEqDiff, Nat.reduceLT, Nat.reduceAdd, Nat.reduceMul, Nat.reduceSub, Nat.add_zero, Nat.zero_add, Int.reduceEq, Int.reduceLT, decide_eq_false (show ¬ (i : Int) < (l.length : Int) by omega)]
      refine hK _ _ _ (by simp only [go_sem, Nat.reduceEqDiff, Nat.reduceLT, Nat.reduceAdd, Nat.reduceMul, Nat.reduceSub, Nat.add_zero, Nat.zero_add, Int.reduceEq, Int.reduceLT]; rfl) ?_; clear hK
      refine AWP.ret (?_)
      refine Fin.two (.inr rfl) rfl rfl rfl hok (Grew.refl _) ⟨?_, rfl⟩
      rw [decide_eq_false (by rintro ⟨h, _⟩; exact hil h)]

theorem find84_spec (v kv : Value) (l : List Kd) (k : List Int) (M : Mem) (hok : Ok M) (hv : Row_ M v l.length (l.flatMap kdC)) (hkey : ∀ p, p ∈ l → RowB M p.kv p.key)
    (hk : RowB M kv k) (hb : ∀ p, p ∈ l → Byt p.key) (hbk : Byt k) (hrise : risingB (l.map Kd.key) = true) (hl : l.length ≤ 1000) :
    ∃ r M', ACall Try.prog 84 #[v, kv, .func (.func 75) #[] #[]] M r M' ∧ r = .tuple #[.int .i64 (posF (l.map Kd.key) k), .bool (foundF (l.map Kd.key) k)] ∧ M' = M := by
  refine ACall.fin (args := [v, kv, .func (.func 75) #[] #[]]) (k := 14) Try.func84 rfl rfl rfl (Nat.le_of_ble_eq_true rfl) ?_
  refine AWP.stepR [0, 1, 5] fun K hK => ?_
  simp only [go_sem, Nat.reduceEqDiff, Nat.reduceLT, Nat.reduceAdd, Nat.reduceMul, Nat.reduceSub, Nat.add_zero, Nat.zero_add, Int.reduceEq, Int.reduceLT]
  refine hK _ _ _ (by simp only [go_sem, Nat.reduceEqDiff, Nat.reduceLT, Nat.reduceAdd, Nat.reduceMul, Nat.reduceSub, Nat.add_zero, Nat.zero_add, Int.reduceEq, Int.reduceLT]; rfl) ?_; clear hK
  have hlt1 : M.next < (M.bump 1).next := Nat.lt_succ_self _
  obtain ⟨hg1, hh1⟩ := mk_put ((Grew.refl M).bump 1) (Nat.le_refl _) hlt1 ⟨[.func (.func 75) #[] #[]], 110, true⟩
  change AWP _ _ _ ⟨_, (M.bump 1).put M.next ⟨[.func (.func 75) #[] #[]], 110, true⟩⟩ _
  generalize hM1 : (M.bump 1).put M.next ⟨[.func (.func 75) #[] #[]], 110, true⟩ = M1 at hg1 hh1
  obtain ⟨r2, M2, hc2, hr2, hM2⟩ := search103_spec v kv l k M.next true M1 (hg1.ok hok) hh1 (hv.grew hg1) (fun p hp => (hkey p hp).grew hg1) (hk.grew hg1) hb hbk hrise hl
  rw [hr2, hM2] at hc2
  refine AWP.stepR [6, 7] fun K hK => ?_
  simp only [go_sem, Nat.reduceEqDiff, Nat.reduceLT, Nat.reduceAdd, Nat.reduceMul, Nat.reduceSub, Nat.add_zero, Nat.zero_add, Int.reduceEq, Int.reduceLT]
  refine ⟨_, _, hc2, ?_⟩
  try simp only [go_sem, Nat.reduceEqDiff, Nat.reduceLT, Nat.reduceAdd, Nat.reduceMul, Nat.reduceSub, Nat.add_zero, Nat.zero_add, Int.reduceEq, Int.reduceLT, extractV]
  refine hK _ _ _ (by simp only [go_sem, Nat.reduceEqDiff, Nat.reduceLT, Nat.reduceAdd, Nat.reduceMul, Nat.reduceSub, Nat.add_zero, Nat.zero_add, Int.reduceEq, Int.reduceLT]; rfl) ?_; clear hK
  refine AWP.ret (?_)
  exact Fin.two (.inr rfl) rfl rfl rfl hok hg1 ⟨rfl, rfl⟩
end Go.Proofs.Ythheaehpnleiaaa.AX

/- Where a key stands: the program's answer and the document's. -/
namespace Go.Proofs.Ythheaehpnleiaaa.AX
open Go Go.Proofs
set_option maxRecDepth 100000
set_option linter.unusedVariables false
set_option linter.unusedSimpArgs false

/-- a node whose keys are bytes -/
structure NodeB (n : Node) : Prop where
  pk : ∀ p, p ∈ n.pairs → Byt p.key
  pv : ∀ p, p ∈ n.pairs → Byt p.val
  kk : ∀ k, k ∈ n.kids → Byt k.key
def wayF (l : List (List Int)) (k : List Int) : Nat := notF l k - 1

section
variable (n : Node) (vp vk kv : Value) (k : List Int) (M : Mem)

theorem find31_spec (hok : Ok M) (hr : NodeR M n vp vk) (hb : NodeB n) (hk : RowB M kv k) (hbk : Byt k) (hrise : risingB (n.pairs.map Pr.key) = true) (hl : n.pairs.length ≤ 1000) :
    ∃ r M', ACall Try.prog 31 #[.agg (nodeC n.leaf vp vk).toArray, kv] M r M' ∧ r = .tuple #[.int .i64 (posF (n.pairs.map Pr.key) k), .bool (foundF (n.pairs.map Pr.key) k)] ∧ M' = M := by
  refine ACall.fin (args := [.agg (nodeC n.leaf vp vk).toArray, kv]) (k := 12) Try.func31 rfl rfl rfl (Nat.le_of_ble_eq_true rfl) ?_
  refine AWP.stepR [1, 2] fun K hK => ?_
  simp only [go_sem, Nat.reduceEqDiff, Nat.reduceLT, Nat.reduceAdd, Nat.reduceMul, Nat.reduceSub, Nat.add_zero, Nat.zero_add, Int.reduceEq, Int.reduceLT]
  refine hK _ _ _ (by simp only [go_sem, Nat.reduceEqDiff, Nat.reduceLT, Nat.reduceAdd, Nat.reduceMul, Nat.reduceSub, Nat.add_zero, Nat.zero_add, Int.reduceEq, Int.reduceLT]; rfl) ?_; clear hK
  have hlt1 : M.next < (M.bump 1).next := Nat.lt_succ_self _
  obtain ⟨hg1, hh1⟩ := mk_put ((Grew.refl M).bump 1) (Nat.le_refl _) hlt1 ⟨nodeC n.leaf vp vk, 44, true⟩
  change AWP _ _ _ ⟨_, (M.bump 1).put M.next ⟨nodeC n.leaf vp vk, 44, true⟩⟩ _
  generalize hM1 : (M.bump 1).put M.next ⟨nodeC n.leaf vp vk, 44, true⟩ = M1 at hg1 hh1
  have hr := hr.grew hg1
  obtain ⟨r2, M2, hc2, hr2, hM2⟩ := find83_spec vp kv n.pairs k M1 (hg1.ok hok) hr.pairs hr.pk (hk.grew hg1) hb.pk hbk hrise hl
  rw [hr2, hM2] at hc2
  refine AWP.stepR [4, 5] fun K hK => ?_
  simp only [go_sem, Nat.reduceEqDiff, Nat.reduceLT, Nat.reduceAdd, Nat.reduceMul, Nat.reduceSub, Nat.add_zero, Nat.zero_add, Int.reduceEq, Int.reduceLT, ld_41, hh1.ld, nodeC]
  refine ⟨_, _, hc2, ?_⟩
  try simp only [go_sem, Nat.reduceEqDiff, Nat.reduceLT, Nat.reduceAdd, Nat.reduceMul, Nat.reduceSub, Nat.add_zero, Nat.zero_add, Int.reduceEq, Int.reduceLT, extractV]
  refine hK _ _ _ (by simp only [go_sem, Nat.reduceEqDiff, Nat.reduceLT, Nat.reduceAdd, Nat.reduceMul, Nat.reduceSub, Nat.add_zero, Nat.zero_add, Int.reduceEq, Int.reduceLT]; rfl) ?_; clear hK
  refine AWP.ret (?_)
  exact Fin.two (.inr rfl) rfl rfl rfl hok hg1 ⟨rfl, rfl⟩

theorem find32_spec (hok : Ok M) (hr : NodeR M n vp vk) (hk : RowB M kv k) (hL : Lt18 n) (hkl : k.length ≤ 1000) :
    ∃ r M', ACall Try.prog 32 #[.agg (nodeC n.leaf vp vk).toArray, kv] M r M' ∧ r = .tuple #[.int .i64 (posF (n.pairs.map Pr.key) k), .bool (foundF (n.pairs.map Pr.key) k)] ∧ M' = M := by
  refine ACall.fin (args := [.agg (nodeC n.leaf vp vk).toArray, kv]) (k := 40) Try.func32 rfl rfl rfl (Nat.le_of_ble_eq_true rfl) ?_
  refine AWP.stepR [1, 2] fun K hK => ?_
  simp only [go_sem, Nat.reduceEqDiff, Nat.reduceLT, Nat.reduceAdd, Nat.reduceMul, Nat.reduceSub, Nat.add_zero, Nat.zero_add, Int.reduceEq, Int.reduceLT]
  refine hK _ _ _ (by simp only [go_sem, Nat.reduceEqDiff, Nat.reduceLT, Nat.reduceAdd, Nat.reduceMul, Nat.reduceSub, Nat.add_zero, Nat.zero_add, Int.reduceEq, Int.reduceLT]; rfl) ?_; clear hK
  have hlt1 : M.next < (M.bump 1).next := Nat.lt_succ_self _
  obtain ⟨hg1, hh1⟩ := mk_put ((Grew.refl M).bump 1) (Nat.le_refl _) hlt1 ⟨nodeC n.leaf vp vk, 44, true⟩
  change AWP _ _ _ ⟨_, (M.bump 1).put M.next ⟨nodeC n.leaf vp vk, 44, true⟩⟩ _
  generalize hM1 : (M.bump 1).put M.next ⟨nodeC n.leaf vp vk, 44, true⟩ = M1 at hg1 hh1
  have hr := hr.grew hg1
  have hk := hk.grew hg1
  have hlp := hL.pairs
  obtain ⟨lf, ps, ks⟩ := n
  simp only at hlp hh1
  have hple := posF_le (ps.map Pr.key) k
  rw [List.length_map] at hple
  refine AWP.stepR [1, 2, 6] fun K hK => ?_
  simp only [go_sem, Nat.reduceEqDiff, Nat.reduceLT, Nat.reduceAdd, Nat.reduceMul, Nat.reduceSub, Nat.add_zero, Nat.zero_add, Int.reduceEq, Int.reduceLT]
  refine hK _ _ _ (by simp only [go_sem, Nat.reduceEqDiff, Nat.reduceLT, Nat.reduceAdd, Nat.reduceMul, Nat.reduceSub, Nat.add_zero, Nat.zero_add, Int.reduceEq, Int.reduceLT]; rfl) ?_; clear hK
  refine AWP.seq ?_
  refine AWP.block ?_ -- b0
  refine AWP.loopK [1, 2, 6] (fun c e M0 => M0 = M1 ∧ ∃ i : Nat, c = ps.length - i ∧ i ≤ posF (ps.map Pr.key) k ∧ e = [(1, kv), (2, .pointer (some ⟨M.next, 0, none⟩)), (6, .int .i64 i)]) ps.length ?_ fun c e M0 hI => ?_ -- LOOP
  · simp only [go_sem, Nat.reduceEqDiff, Nat.reduceLT, Nat.reduceAdd, Nat.reduceMul, Nat.reduceSub, Nat.add_zero, Nat.zero_add, Int.reduceEq, Int.reduceLT, true_and]
    exact ⟨0, rfl, by omega, rfl⟩
  obtain ⟨rfl, i, hc, hi, rfl⟩ := hI
  have hat : ∀ (hil : i < ps.length), ∃ b q, (∀ kk, indexAddrV Try.prog 41 vp (.int kk i) = some (.pointer (some ⟨b, q, none⟩))) ∧ ldS M0.get b q = some ps[i].kv ∧ RowB M0 ps[i].kv ps[i].key ∧ ps[i].key.length ≤ 1000 := by
    intro hil
    obtain ⟨b, q, ha, hd⟩ := pr_at hr.pairs hil
    exact ⟨b, q, ha, (hd M0 (Grew.refl _)).1, hr.pk _ (List.getElem_mem hil), hL.pk _ (List.getElem_mem hil)⟩
  have hlss : ∀ (hil : i < ps.length), lessB ps[i].key k = decide (i < posF (ps.map Pr.key) k) := by
    intro hil
    by_cases hlt : i < posF (ps.map Pr.key) k
    · have := posF_lt hlt (by simpa using hil)
      rw [List.getElem_map] at this
      rw [this, decide_eq_true hlt]
    · have he : i = posF (ps.map Pr.key) k := by omega
      have := posF_at (l := ps.map Pr.key) (k := k) (by rw [← he]; simpa using hil)
      simp only [← he, List.getElem_map] at this
      rw [this, decide_eq_false hlt]
  refine AWP.seq ?_
  refine AWP.stepX [1, 2, 6, 21] [(1, kv), (2, .pointer (some ⟨M.next, 0, none⟩)), (6, .int .i64 i), (21, .bool (decide (i < posF (ps.map Pr.key) k)))] M0 (fun K hK => ?_) ?_
  · by_cases hil : i < ps.length
    · obtain ⟨b, q, ha, hd, hkr, hkl2⟩ := hat hil
      obtain ⟨r2, M2, hc2, hr2, hM2⟩ := less77_spec ps[i].kv kv ps[i].key k M0 (hg1.ok hok) hkr hk (by omega)
      rw [hr2, hM2, hlss hil] at hc2
      simp only [go_sem, Nat.reduceEqDiff, Nat.reduceLT, Nat.reduceAdd, Nat.reduceMul, Nat.reduceSub, Nat.add_zero, Nat.zero_add, Int.reduceEq, Int.reduceLT, ld_41, hh1.ld, nodeC, hr.pairs.len es_41, decide_eq_true (show (i : Int) < (ps.length : Int) by omega), ha, hd, ld_23]
      refine ⟨_, _, hc2, ?_⟩
      refine hK _ ?_
      simp only [go_sem, Nat.reduceEqDiff, Nat.reduceLT, Nat.reduceAdd, Nat.reduceMul, Nat.reduceSub, Nat.add_zero, Nat.zero_add, Int.reduceEq, Int.reduceLT]
    · simp only [go_sem, Nat.reduceEqDiff, Nat.reduceLT, Nat.reduceAdd, Nat.reduceMul, Nat.reduceSub, Nat.add_zero, Nat.zero_add, Int.reduceEq, Int.reduceLT, ld_41, hh1.ld, nodeC, hr.pairs.len es_41, decide_eq_false (show ¬ (i : Int) < (ps.length : Int) by omega)]
      refine hK _ ?_
      simp only [go_sem, Nat.reduceEqDiff, Nat.reduceLT, Nat.reduceAdd, Nat.reduceMul, Nat.reduceSub, Nat.add_zero, Nat.zero_add, Int.reduceEq, Int.reduceLT, decide_eq_false (show ¬ i < posF (ps.map Pr.key) k by omega)]
  refine AWP.cond_split rfl (fun h21 => ?_) fun h21 => ?_
  · have hlt : i < posF (ps.map Pr.key) k := by simpa using h21
    refine AWP.skip ?_
    refine AWP.block ?_ -- b1
    refine AWP.lastR fun K hK => ?_
    simp only [go_sem, Nat.reduceEqDiff, Nat.reduceLT, Nat.reduceAdd, Nat.reduceMul, Nat.reduceSub, Nat.add_zero, Nat.zero_add, Int.reduceEq, Int.reduceLT]
    refine hK _ _ ?_; clear hK
    refine ⟨ps.length - (i + 1), by omega, rfl, i + 1, rfl, by omega, ?_⟩ -- ROUND
    simp only [go_sem, Nat.reduceEqDiff, Nat.reduceLT, Nat.reduceAdd, Nat.reduceMul, Nat.reduceSub, Nat.add_zero, Nat.zero_add, Int.reduceEq, Int.reduceLT]
    rw [i64w (by omega) (by omega)]; rfl
  · have he : i = posF (ps.map Pr.key) k := by simp at h21; omega
    have hfe : foundF (ps.map Pr.key) k = decide (∃ h : i < ps.length, ps[i].key = k) := by
      unfold foundF
      rw [decide_eq_decide, ← he, List.getElem?_map]
      by_cases hil : i < ps.length
      · rw [List.getElem?_eq_getElem hil]
        simp [hil]
      · rw [List.getElem?_eq_none (by omega)]
        simp [hil]
    rw [← he, hfe]
    refine AWP.exit (Then.exit (Then.exit (InBlock.same ?_)))
    by_cases hil : i < ps.length
    · obtain ⟨b, q, ha, hd, hkr, hkl2⟩ := hat hil
      obtain ⟨r2, M2, hc2, hr2, hM2⟩ := same14_spec ps[i].kv kv ps[i].key k M0 (hg1.ok hok) hkr hk (by omega)
      rw [hr2, hM2] at hc2
      refine AWP.stepR [4, 5] fun K hK => ?_
      simp only [go_sem, Nat.reduceEqDiff, Nat.reduceLT, Nat.reduceAdd, Nat.reduceMul, Nat.reduceSub, Nat.add_zero, Nat.zero_add, Int.reduceEq, Int.reduceLT, ld_41, hh1.ld, nodeC, hr.pairs.len es_41, decide_eq_true (show (i : Int) < (ps.length : Int) by omega), ha, hd, ld_23]
      refine ⟨_, _, hc2, ?_⟩
      refine hK _ _ _ (by simp only [go_sem, Nat.reduceEqDiff, Nat.reduceLT, Nat.reduceAdd, Nat.reduceMul, Nat.reduceSub, Nat.add_zero, Nat.zero_add, Int.reduceEq, Int.reduceLT]; rfl) ?_; clear hK
      refine AWP.ret (?_)
      refine Fin.two (.inr rfl) rfl rfl rfl hok hg1 ⟨?_, rfl⟩
      rw [show decide (∃ h : i < ps.length, ps[i].key = k) = (ps[i].key == k) from Bool.eq_iff_iff.2 (by simp [hil])]
    · refine AWP.stepR [4, 5] fun K hK => ?_
      simp only [go_sem, Nat.reduceEqDiff, Nat.reduceLT, Nat.reduceAdd, Nat.reduceMul, Nat.reduceSub, Nat.add_zero, Nat.zero_add, Int.reduceEq, Int.reduceLT, ld_41, hh1.ld, nodeC, hr.pairs.len es_41, decide_eq_false (show ¬ (i : Int) < (ps.length : Int) by omega)]
      refine hK _ _ _ (by simp only [go_sem, Nat.reduceEqDiff, Nat.reduceLT, Nat.reduceAdd, Nat.reduceMul, Nat.reduceSub, Nat.add_zero, Nat.zero_add, Int.reduceEq, Int.reduceLT]; rfl) ?_; clear hK
      refine AWP.ret (?_)
      refine Fin.two (.inr rfl) rfl rfl rfl hok hg1 ⟨?_, rfl⟩
      rw [decide_eq_false (by rintro ⟨h, _⟩; exact hil h)]

theorem way33_spec (hok : Ok M) (hr : NodeR M n vp vk) (hb : NodeB n) (hk : RowB M kv k) (hbk : Byt k) (hrise : risingB (n.kids.map Kd.key) = true) (hl : n.kids.length ≤ 1000) :
    ∃ r M', ACall Try.prog 33 #[.agg (nodeC n.leaf vp vk).toArray, kv] M r M' ∧ r = .int .i64 (wayF (n.kids.map Kd.key) k) ∧ M' = M := by
  refine ACall.fin (args := [.agg (nodeC n.leaf vp vk).toArray, kv]) (k := 19) Try.func33 rfl rfl rfl (Nat.le_of_ble_eq_true rfl) ?_
  have hple := posF_le (n.kids.map Kd.key) k
  rw [List.length_map] at hple
  refine AWP.stepR [1, 2] fun K hK => ?_
  simp only [go_sem, Nat.reduceEqDiff, Nat.reduceLT, Nat.reduceAdd, Nat.reduceMul, Nat.reduceSub, Nat.add_zero, Nat.zero_add, Int.reduceEq, Int.reduceLT]
  refine hK _ _ _ (by simp only [go_sem, Nat.reduceEqDiff, Nat.reduceLT, Nat.reduceAdd, Nat.reduceMul, Nat.reduceSub, Nat.add_zero, Nat.zero_add, Int.reduceEq, Int.reduceLT]; rfl) ?_; clear hK
  have hlt1 : M.next < (M.bump 1).next := Nat.lt_succ_self _
  obtain ⟨hg1, hh1⟩ := mk_put ((Grew.refl M).bump 1) (Nat.le_refl _) hlt1 ⟨nodeC n.leaf vp vk, 44, true⟩
  change AWP _ _ _ ⟨_, (M.bump 1).put M.next ⟨nodeC n.leaf vp vk, 44, true⟩⟩ _
  generalize hM1 : (M.bump 1).put M.next ⟨nodeC n.leaf vp vk, 44, true⟩ = M1 at hg1 hh1
  have hr := hr.grew hg1
  obtain ⟨r2, M2, hc2, hr2, hM2⟩ := find84_spec vk kv n.kids k M1 (hg1.ok hok) hr.kids hr.kk (hk.grew hg1) hb.kk hbk hrise hl
  rw [hr2, hM2] at hc2
  refine AWP.stepR [5, 6] fun K hK => ?_
  simp only [go_sem, Nat.reduceEqDiff, Nat.reduceLT, Nat.reduceAdd, Nat.reduceMul, Nat.reduceSub, Nat.add_zero, Nat.zero_add, Int.reduceEq, Int.reduceLT, ld_42, hh1.ld, nodeC]
  refine ⟨_, _, hc2, ?_⟩
  try simp only [go_sem, Nat.reduceEqDiff, Nat.reduceLT, Nat.reduceAdd, Nat.reduceMul, Nat.reduceSub, Nat.add_zero, Nat.zero_add, Int.reduceEq, Int.reduceLT, extractV]
  refine hK _ _ _ (by simp only [go_sem, Nat.reduceEqDiff, Nat.reduceLT, Nat.reduceAdd, Nat.reduceMul, Nat.reduceSub, Nat.add_zero, Nat.zero_add, Int.reduceEq, Int.reduceLT]; rfl) ?_; clear hK
  refine AWP.seq ?_
  refine AWP.stepR [5, 14] fun K hK => ?_
  simp only [go_sem, Nat.reduceEqDiff, Nat.reduceLT, Nat.reduceAdd, Nat.reduceMul, Nat.reduceSub, Nat.add_zero, Nat.zero_add, Int.reduceEq, Int.reduceLT]
  refine hK _ _ _ (by simp only [go_sem, Nat.reduceEqDiff, Nat.reduceLT, Nat.reduceAdd, Nat.reduceMul, Nat.reduceSub, Nat.add_zero, Nat.zero_add, Int.reduceEq, Int.reduceLT]; rfl) ?_; clear hK
  refine AWP.cond_split rfl (fun h14 => ?_) fun h14 => ?_
  · refine AWP.stepR [4] fun K hK => ?_
    simp only [go_sem, Nat.reduceEqDiff, Nat.reduceLT, Nat.reduceAdd, Nat.reduceMul, Nat.reduceSub, Nat.add_zero, Nat.zero_add, Int.reduceEq, Int.reduceLT]
    refine hK _ _ _ (by simp only [go_sem, Nat.reduceEqDiff, Nat.reduceLT, Nat.reduceAdd, Nat.reduceMul, Nat.reduceSub, Nat.add_zero, Nat.zero_add, Int.reduceEq, Int.reduceLT]; rfl) ?_; clear hK
    refine AWP.ret (Then.ret (?_))
    refine Fin.plain (.inr rfl) rfl rfl hok hg1 ⟨?_, rfl⟩
    rw [wayF, notF, h14, if_pos rfl, Nat.add_sub_cancel]
  · refine AWP.skip ?_
    refine AWP.stepR [4] fun K hK => ?_
    simp only [go_sem, Nat.reduceEqDiff, Nat.reduceLT, Nat.reduceAdd, Nat.reduceMul, Nat.reduceSub, Nat.add_zero, Nat.zero_add, Int.reduceEq, Int.reduceLT]
    refine hK _ _ _ (by simp only [go_sem, Nat.reduceEqDiff, Nat.reduceLT, Nat.reduceAdd, Nat.reduceMul, Nat.reduceSub, Nat.add_zero, Nat.zero_add, Int.reduceEq, Int.reduceLT]; rfl) ?_; clear hK
    refine AWP.ret (?_)
    refine Fin.plain (.inr rfl) rfl rfl hok hg1 ⟨?_, rfl⟩
    have hw : wayF (n.kids.map Kd.key) k = posF (n.kids.map Kd.key) k - 1 := by rw [wayF, notF, h14]; rfl
    rw [hw, i64w (n := (posF (n.kids.map Kd.key) k : Int) - 1) (by omega) (by omega)]
    congr 1
    split <;> omega

theorem way34_spec (hok : Ok M) (hr : NodeR M n vp vk) (hk : RowB M kv k) (hL : Lt18 n) (hkl : k.length ≤ 1000) (hrise : risingB (n.kids.map Kd.key) = true) :
    ∃ r M', ACall Try.prog 34 #[.agg (nodeC n.leaf vp vk).toArray, kv] M r M' ∧ r = .int .i64 (wayF (n.kids.map Kd.key) k) ∧ M' = M := by
  refine ACall.fin (args := [.agg (nodeC n.leaf vp vk).toArray, kv]) (k := 25) Try.func34 rfl rfl rfl (Nat.le_of_ble_eq_true rfl) ?_
  refine AWP.stepR [1, 2] fun K hK => ?_
  simp only [go_sem, Nat.reduceEqDiff, Nat.reduceLT, Nat.reduceAdd, Nat.reduceMul, Nat.reduceSub, Nat.add_zero, Nat.zero_add, Int.reduceEq, Int.reduceLT]
  refine hK _ _ _ (by simp only [go_sem, Nat.reduceEqDiff, Nat.reduceLT, Nat.reduceAdd, Nat.reduceMul, Nat.reduceSub, Nat.add_zero, Nat.zero_add, Int.reduceEq, Int.reduceLT]; rfl) ?_; clear hK
  have hlt1 : M.next < (M.bump 1).next := Nat.lt_succ_self _
  obtain ⟨hg1, hh1⟩ := mk_put ((Grew.refl M).bump 1) (Nat.le_refl _) hlt1 ⟨nodeC n.leaf vp vk, 44, true⟩
  change AWP _ _ _ ⟨_, (M.bump 1).put M.next ⟨nodeC n.leaf vp vk, 44, true⟩⟩ _
  generalize hM1 : (M.bump 1).put M.next ⟨nodeC n.leaf vp vk, 44, true⟩ = M1 at hg1 hh1
  have hr := hr.grew hg1
  have hk := hk.grew hg1
  have hlk := hL.kids
  obtain ⟨lf, ps, ks⟩ := n
  simp only at hlk hh1 hrise ⊢
  have hnl : notF (ks.map Kd.key) k ≤ ks.length := by
    have := posF_le (ks.map Kd.key) k
    rw [List.length_map] at this
    unfold notF foundF
    split
    · rename_i hf
      have := (List.getElem?_eq_some_iff.1 (of_decide_eq_true hf)).1
      rw [List.length_map] at this
      omega
    · exact this
  have hnot : ∀ {i : Nat} (hil : i < ks.length), lessB k ks[i].key = decide (notF (ks.map Kd.key) k ≤ i) := fun {i} hil => by
    have := less_not hrise k (i := i) (by simpa using hil)
    rwa [List.getElem_map] at this
  unfold wayF
  generalize notF (ks.map Kd.key) k = q0 at hnl hnot
  refine AWP.stepR [1, 2, 5] fun K hK => ?_
  simp only [go_sem, Nat.reduceEqDiff, Nat.reduceLT, Nat.reduceAdd, Nat.reduceMul, Nat.reduceSub, Nat.add_zero, Nat.zero_add, Int.reduceEq, Int.reduceLT]
  refine hK _ _ _ (by simp only [go_sem, Nat.reduceEqDiff, Nat.reduceLT, Nat.reduceAdd, Nat.reduceMul, Nat.reduceSub, Nat.add_zero, Nat.zero_add, Int.reduceEq, Int.reduceLT]; rfl) ?_; clear hK
  refine AWP.seq ?_
  refine AWP.stepR [1, 2, 5, 6] fun K hK => ?_
  simp only [go_sem, Nat.reduceEqDiff, Nat.reduceLT, Nat.reduceAdd, Nat.reduceMul, Nat.reduceSub, Nat.add_zero, Nat.zero_add, Int.reduceEq, Int.reduceLT]
  refine hK _ _ _ (by simp only [go_sem, Nat.reduceEqDiff, Nat.reduceLT, Nat.reduceAdd, Nat.reduceMul, Nat.reduceSub, Nat.add_zero, Nat.zero_add, Int.reduceEq, Int.reduceLT]; rfl) ?_; clear hK
  refine AWP.block ?_ -- b0
  refine AWP.loopK [1, 2, 5, 6] (fun c e M0 => M0 = M1 ∧ ∃ i : Nat, c = ks.length - i ∧ i ≤ ks.length ∧ e = [(1, kv), (2, .pointer (some ⟨M.next, 0, none⟩)), (5, .int .i64 ((min i q0 - 1 : Nat) : Int)), (6, .int .i64 i)]) ks.length ?_ fun c e M0 hI => ?_ -- LOOP
  · simp only [go_sem, Nat.reduceEqDiff, Nat.reduceLT, Nat.reduceAdd, Nat.reduceMul, Nat.reduceSub, Nat.add_zero, Nat.zero_add, Int.reduceEq, Int.reduceLT, true_and]
    exact ⟨0, rfl, by omega, by simp⟩
  obtain ⟨rfl, i, hc, hi, rfl⟩ := hI
  refine AWP.seq ?_
  refine AWP.stepR [1, 2, 5, 6, 11] fun K hK => ?_
  simp only [go_sem, Nat.reduceEqDiff, Nat.reduceLT, Nat.reduceAdd, Nat.reduceMul, Nat.reduceSub, Nat.add_zero, Nat.zero_add, Int.reduceEq, Int.reduceLT, ld_42, hh1.ld, nodeC, hr.kids.len es_42]
  refine hK _ _ _ (by simp only [go_sem, Nat.reduceEqDiff, Nat.reduceLT, Nat.reduceAdd, Nat.reduceMul, Nat.reduceSub, Nat.add_zero, Nat.zero_add, Int.reduceEq, Int.reduceLT]; rfl) ?_; clear hK
  refine AWP.cond_split rfl (fun h11 => ?_) fun h11 => ?_
  · have hil : i < ks.length := by simpa using h11
    obtain ⟨b, q, ha, hd⟩ := kd_at hr.kids hil
    have hd := (hd M0 (Grew.refl _)).1
    obtain ⟨r2, M2, hc2, hr2, hM2⟩ := less77_spec kv ks[i].kv k ks[i].key M0 (hg1.ok hok) hk (hr.kk _ (List.getElem_mem hil)) (by omega)
    rw [hr2, hM2, hnot hil] at hc2
    refine AWP.skip ?_
    refine AWP.seq ?_
    refine AWP.block ?_ -- b1
    refine AWP.stepR [1, 2, 5, 6, 22] fun K hK => ?_
    simp only [go_sem, Nat.reduceEqDiff, Nat.reduceLT, Nat.reduceAdd, Nat.reduceMul, Nat.reduceSub, Nat.add_zero, Nat.zero_add, Int.reduceEq, Int.reduceLT, ld_42, hh1.ld, nodeC, ha, hd, ld_23]
    refine ⟨_, _, hc2, ?_⟩
    refine hK _ _ _ (by simp only [go_sem, Nat.reduceEqDiff, Nat.reduceLT, Nat.reduceAdd, Nat.reduceMul, Nat.reduceSub, Nat.add_zero, Nat.zero_add, Int.reduceEq, Int.reduceLT]; rfl) ?_; clear hK
    refine AWP.cond_split rfl (fun h22 => ?_) fun h22 => ?_
    · have hlt : i < q0 := by simpa using h22
      refine AWP.lastR fun K hK => ?_
      simp only [go_sem, Nat.reduceEqDiff, Nat.reduceLT, Nat.reduceAdd, Nat.reduceMul, Nat.reduceSub, Nat.add_zero, Nat.zero_add, Int.reduceEq, Int.reduceLT]
      refine hK _ _ ?_; clear hK
      refine AWP.lastR fun K hK => ?_
      simp only [go_sem, Nat.reduceEqDiff, Nat.reduceLT, Nat.reduceAdd, Nat.reduceMul, Nat.reduceSub, Nat.add_zero, Nat.zero_add, Int.reduceEq, Int.reduceLT]
      refine hK _ _ ?_; clear hK
      refine ⟨ks.length - (i + 1), by omega, rfl, i + 1, rfl, by omega, ?_⟩ -- ROUND
      simp only [go_sem, Nat.reduceEqDiff, Nat.reduceLT, Nat.reduceAdd, Nat.reduceMul, Nat.reduceSub, Nat.add_zero, Nat.zero_add, Int.reduceEq, Int.reduceLT]
      rw [i64w (by omega) (by omega), show min (i + 1) q0 - 1 = i by omega]; rfl
    · have hge : ¬ i < q0 := by simpa using h22
      refine AWP.skip ?_
      refine AWP.lastR fun K hK => ?_
      simp only [go_sem, Nat.reduceEqDiff, Nat.reduceLT, Nat.reduceAdd, Nat.reduceMul, Nat.reduceSub, Nat.add_zero, Nat.zero_add, Int.reduceEq, Int.reduceLT]
      refine hK _ _ ?_; clear hK
      refine ⟨ks.length - (i + 1), by omega, rfl, i + 1, rfl, by omega, ?_⟩ -- ROUND
      simp only [go_sem, Nat.reduceEqDiff, Nat.reduceLT, Nat.reduceAdd, Nat.reduceMul, Nat.reduceSub, Nat.add_zero, Nat.zero_add, Int.reduceEq, Int.reduceLT]
      rw [i64w (by omega) (by omega), show min (i + 1) q0 = min i q0 by omega]; rfl
  · refine AWP.exit (Then.exit (Then.exit (InBlock.same ?_)))
    have he : i = ks.length := by simp at h11; omega
    refine AWP.stepR [4] fun K hK => ?_
    simp only [go_sem, Nat.reduceEqDiff, Nat.reduceLT, Nat.reduceAdd, Nat.reduceMul, Nat.reduceSub, Nat.add_zero, Nat.zero_add, Int.reduceEq, Int.reduceLT]
    refine hK _ _ _ (by simp only [go_sem, Nat.reduceEqDiff, Nat.reduceLT, Nat.reduceAdd, Nat.reduceMul, Nat.reduceSub, Nat.add_zero, Nat.zero_add, Int.reduceEq, Int.reduceLT]; rfl) ?_; clear hK
    refine AWP.ret (?_)
    refine Fin.plain (.inr rfl) rfl rfl hok hg1 ⟨?_, rfl⟩
    rw [show min i q0 = q0 by omega]
end
end Go.Proofs.Ythheaehpnleiaaa.AX
