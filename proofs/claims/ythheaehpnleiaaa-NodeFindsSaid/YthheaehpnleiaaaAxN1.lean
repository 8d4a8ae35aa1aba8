/- Nodes as values; which of two rows of bytes stands ahead; how great a node is. -/
import Derived.Test.YthheaehpnleiaaaAxT0
import Derived.Test.YthheaehpnleiaaaAxF9
namespace Go.Proofs.Ythheaehpnleiaaa.AX
open Go Go.Proofs
set_option maxRecDepth 100000
set_option linter.unusedVariables false
set_option linter.unusedSimpArgs false

/-- two plain values given back -/
theorem Fin.two {P : Program} {rs : List ResultVar} {M : Mem} {Φ : Value → Mem → Prop} {e : Exit} {s : St} {a b : Value} (he : e = .normal ∨ e = .ret) (hr : retV P rs s = some (.tuple #[a, b])) (ha : AX.plain a = true) (hb : AX.plain b = true) (hok : Ok M) (hg : Grew M s.mem) (h : Φ (.tuple #[a, b]) M) : Fin P rs M Φ e s := by
  refine ⟨he, _, _, M, hr, .inl ⟨fun i => i, Nat.le_refl _, fun i h1 h2 => h1, fun i j _ _ _ _ h => h, ?_, fun i b hi => .inl ⟨hi, hg.within hok i b hi⟩⟩, h⟩
  refine .tuple rfl fun i v v' h1 h2 => ?_
  rw [h1] at h2; cases h2
  match i with
  | 0 => simp at h1; subst h1; exact RN.plain ha
  | 1 => simp at h1; subst h1; exact RN.plain hb
  | i + 2 => simp at h1

/-- is a row of bytes ahead of another one? -/
def lessB : List Int → List Int → Bool
  | [], [] => false
  | [], _ :: _ => true
  | _ :: _, [] => false
  | x :: xs, y :: ys => if x = y then lessB xs ys else decide (x < y)
theorem lessB_nil (m : List Int) : lessB [] m = decide (0 < m.length) := by cases m <;> simp [lessB]
theorem lessB_nil' (l : List Int) : lessB l [] = false := by cases l <;> simp [lessB]

theorem less77_spec (v w : Value) (l m : List Int) (M : Mem) (hok : Ok M) (hv : RowB M v l) (hw : RowB M w m) (hl : l.length ≤ 4611686018427387904) : ∃ r M', ACall Try.prog 77 #[v, w] M r M' ∧ r = .bool (lessB l m) ∧ M' = M := by
  refine ACall.fin (args := [v, w]) (k := 41) Try.func77 rfl rfl rfl (Nat.le_of_ble_eq_true rfl) ?_
  refine AWP.stepR [0, 1] fun K hK => ?_ -- r0
  simp only [go_sem, Nat.reduceEqDiff, Nat.reduceLT, Nat.reduceAdd, Nat.reduceMul, Nat.reduceSub, Nat.add_zero, Nat.zero_add, Int.reduceEq, Int.reduceLT]
  refine hK _ _ _ (by simp only [go_sem, Nat.reduceEqDiff, Nat.reduceLT, Nat.reduceAdd, Nat.reduceMul, Nat.reduceSub, Nat.add_zero, Nat.zero_add, Int.reduceEq, Int.reduceLT]; rfl) ?_; clear hK
  refine AWP.seq ?_
  refine AWP.stepR [0, 1, 5] fun K hK => ?_ -- r1
  simp only [go_sem, Nat.reduceEqDiff, Nat.reduceLT, Nat.reduceAdd, Nat.reduceMul, Nat.reduceSub, Nat.add_zero, Nat.zero_add, Int.reduceEq, Int.reduceLT]
  refine hK _ _ _ (by simp only [go_sem, Nat.reduceEqDiff, Nat.reduceLT, Nat.reduceAdd, Nat.reduceMul, Nat.reduceSub, Nat.add_zero, Nat.zero_add, Int.reduceEq, Int.reduceLT]; rfl) ?_; clear hK
  refine AWP.block ?_ -- b0
  refine AWP.loopK [0, 1, 5] (fun n e M0 => M0 = M ∧ n ≤ l.length ∧ e = [(0, v), (1, w), (5, .int .i64 ((l.length - n : Nat) : Int))] ∧ l.length - n ≤ m.length ∧ lessB l m = lessB (l.drop (l.length - n)) (m.drop (l.length - n))) l.length ?_ fun n e M0 hI => ?_ -- LOOP
  · simp only [go_sem, Nat.reduceEqDiff, Nat.reduceLT, Nat.reduceAdd, Nat.reduceMul, Nat.reduceSub, Nat.add_zero, Nat.zero_add, Int.reduceEq, Int.reduceLT, true_and, Nat.le_refl]
    exact ⟨by simp, by simp, by simp⟩
  obtain ⟨rfl, hn, rfl, hk, hall⟩ := hI
  refine AWP.seq ?_
  refine AWP.stepR [0, 1, 5, 15] fun K hK => ?_ -- r2
  simp only [go_sem, Nat.reduceEqDiff, Nat.reduceLT, Nat.reduceAdd, Nat.reduceMul, Nat.reduceSub, Nat.add_zero, Nat.zero_add, Int.reduceEq, Int.reduceLT, hv.len es_23, hw.len es_23]
  by_cases h1 : l.length - n < l.length
  · rw [show decide (((l.length - n : Nat) : Int) < (l.length : Int)) = true from decide_eq_true (by omega)]
    simp only [go_sem, Nat.reduceEqDiff, Nat.reduceLT, Nat.reduceAdd, Nat.reduceMul, Nat.reduceSub, Nat.add_zero, Nat.zero_add, Int.reduceEq, Int.reduceLT, hv.len es_23, hw.len es_23]
    refine hK _ _ _ (by simp only [go_sem, Nat.reduceEqDiff, Nat.reduceLT, Nat.reduceAdd, Nat.reduceMul, Nat.reduceSub, Nat.add_zero, Nat.zero_add, Int.reduceEq, Int.reduceLT]; rfl) ?_; clear hK
    refine AWP.cond_split rfl (fun h15 => ?_) fun h15 => ?_
    · have hlt' : l.length - n < m.length := by simpa using h15
      obtain ⟨b, q, ha, hd⟩ := hv.at1 (by simp [cB]) es_23 h1
      have hd := hd M0 (Grew.refl _)
      rw [show (cB l)[l.length - n]? = some (.int .u8 l[l.length - n]) by simp [cB, h1]] at hd
      obtain ⟨b', q', ha', hd'⟩ := hw.at1 (by simp [cB]) es_23 hlt'
      have hd' := hd' M0 (Grew.refl _)
      rw [show (cB m)[l.length - n]? = some (.int .u8 m[l.length - n]) by simp [cB, hlt']] at hd'
      generalize hxx : l[l.length - n] = x at hd
      generalize hyy : m[l.length - n] = y at hd'
      have hdl : l.drop (l.length - n) = x :: l.drop (l.length - n + 1) := by rw [← hxx]; exact List.drop_eq_getElem_cons h1
      have hdm : m.drop (l.length - n) = y :: m.drop (l.length - n + 1) := by rw [← hyy]; exact List.drop_eq_getElem_cons hlt'
      rw [hdl, hdm] at hall
      refine AWP.skip ?_
      refine AWP.seq ?_
      refine AWP.block ?_ -- b1
      refine AWP.stepD hmo [0, 1, 2, 3, 4, 5, 6, 7, 8] [0, 0, 3, 7, 0, 0, 48, 112, 255] [] [] (by kernel_rfl) [0, 1, 5, 26] fun K hK => ?_ -- r4
      simp only [go_sem, Nat.reduceEqDiff, Nat.reduceLT, Nat.reduceAdd, Nat.reduceMul, Nat.reduceSub, Nat.add_zero, Nat.zero_add, Int.reduceEq, Int.reduceLT, ha, hd, ha', hd', ld_5]
      refine hK _ _ _ (by simp only [go_sem, Nat.reduceEqDiff, Nat.reduceLT, Nat.reduceAdd, Nat.reduceMul, Nat.reduceSub, Nat.add_zero, Nat.zero_add, Int.reduceEq, Int.reduceLT]; rfl) ?_; clear hK
      refine AWP.cond_split rfl (fun h26 => ?_) fun h26 => ?_
      · refine AWP.stepD hmo [0, 1, 2, 3, 4, 5, 6, 7, 8, 9] [0, 0, 3, 7, 0, 0, 48, 112, 255, 511] [] [] (by kernel_rfl) [4] fun K hK => ?_ -- r5
        simp only [go_sem, Nat.reduceEqDiff, Nat.reduceLT, Nat.reduceAdd, Nat.reduceMul, Nat.reduceSub, Nat.add_zero, Nat.zero_add, Int.reduceEq, Int.reduceLT, ha, hd, ha', hd', ld_5]
        refine hK _ _ _ (by simp only [go_sem, Nat.reduceEqDiff, Nat.reduceLT, Nat.reduceAdd, Nat.reduceMul, Nat.reduceSub, Nat.add_zero, Nat.zero_add, Int.reduceEq, Int.reduceLT]; rfl) ?_; clear hK
        refine AWP.ret (InBlock.ret (Then.ret (Then.ret (InBlock.ret (Then.ret (?_))))))
        refine Fin.plain (.inr rfl) rfl rfl hok (Grew.refl _) ⟨?_, rfl⟩
        rw [hall, lessB, if_neg (by simpa using h26)]
      · refine AWP.skip ?_
        refine AWP.lastR fun K hK => ?_ -- r3
        simp only [go_sem, Nat.reduceEqDiff, Nat.reduceLT, Nat.reduceAdd, Nat.reduceMul, Nat.reduceSub, Nat.add_zero, Nat.zero_add, Int.reduceEq, Int.reduceLT]
        refine hK _ _ ?_; clear hK
        refine ⟨n - 1, by omega, rfl, by omega, ?_, by omega, ?_⟩ -- ROUND
        · simp only [go_sem, Nat.reduceEqDiff, Nat.reduceLT, Nat.reduceAdd, Nat.reduceMul, Nat.reduceSub, Nat.add_zero, Nat.zero_add, Int.reduceEq, Int.reduceLT]
          rw [i64w (by omega) (by omega), show ((l.length - n : Nat) : Int) + 1 = ((l.length - (n - 1) : Nat) : Int) by omega]
        · rw [hall, lessB, if_pos (by simpa using h26), show l.length - (n - 1) = l.length - n + 1 by omega]
    · have hge : m.length ≤ l.length - n := by simpa using h15
      refine AWP.exit (Then.exit (Then.exit (InBlock.same ?_))) -- x0
      refine AWP.stepR [4] fun K hK => ?_ -- r6
      simp only [go_sem, Nat.reduceEqDiff, Nat.reduceLT, Nat.reduceAdd, Nat.reduceMul, Nat.reduceSub, Nat.add_zero, Nat.zero_add, Int.reduceEq, Int.reduceLT, hv.len es_23, hw.len es_23]
      refine hK _ _ _ (by simp only [go_sem, Nat.reduceEqDiff, Nat.reduceLT, Nat.reduceAdd, Nat.reduceMul, Nat.reduceSub, Nat.add_zero, Nat.zero_add, Int.reduceEq, Int.reduceLT]; rfl) ?_; clear hK
      refine AWP.ret (?_)
      refine Fin.plain (.inr rfl) rfl rfl hok (Grew.refl _) ⟨?_, rfl⟩
      rw [hall, List.drop_eq_nil_of_le hge, lessB_nil', decide_eq_false (by omega)]
  · rw [show decide (((l.length - n : Nat) : Int) < (l.length : Int)) = false from decide_eq_false (by omega)]
    simp only [go_sem, Nat.reduceEqDiff, Nat.reduceLT, Nat.reduceAdd, Nat.reduceMul, Nat.reduceSub, Nat.add_zero, Nat.zero_add, Int.reduceEq, Int.reduceLT, hv.len es_23, hw.len es_23]
    refine hK _ _ _ (by simp only [go_sem, Nat.reduceEqDiff, Nat.reduceLT, Nat.reduceAdd, Nat.reduceMul, Nat.reduceSub, Nat.add_zero, Nat.zero_add, Int.reduceEq, Int.reduceLT]; rfl) ?_; clear hK
    refine AWP.cond_split rfl (fun h15 => ?_) fun h15 => ?_
    · cases h15
    · refine AWP.exit (Then.exit (Then.exit (InBlock.same ?_))) -- x0
      refine AWP.stepR [4] fun K hK => ?_ -- r6
      simp only [go_sem, Nat.reduceEqDiff, Nat.reduceLT, Nat.reduceAdd, Nat.reduceMul, Nat.reduceSub, Nat.add_zero, Nat.zero_add, Int.reduceEq, Int.reduceLT, hv.len es_23, hw.len es_23]
      refine hK _ _ _ (by simp only [go_sem, Nat.reduceEqDiff, Nat.reduceLT, Nat.reduceAdd, Nat.reduceMul, Nat.reduceSub, Nat.add_zero, Nat.zero_add, Int.reduceEq, Int.reduceLT]; rfl) ?_; clear hK
      refine AWP.ret (?_)
      refine Fin.plain (.inr rfl) rfl rfl hok (Grew.refl _) ⟨?_, rfl⟩
      rw [hall, show l.length - n = l.length by omega, List.drop_length, lessB_nil, List.length_drop]
      congr 1
      rw [decide_eq_decide]; omega

/-! ### nodes -/
structure Pr where
  kv : Value
  vv : Value
  key : List Int
  val : List Int
structure Kd where
  kv : Value
  key : List Int
  page : Int
  epoch : Int
def prC (p : Pr) : List Value := [p.kv, p.vv]
def kdC (k : Kd) : List Value := [k.kv, .int .i64 k.page, .int .i64 k.epoch]
theorem prC_len (p : Pr) : (prC p).length = 2 := rfl
theorem kdC_len (k : Kd) : (kdC k).length = 3 := rfl
structure Node where
  leaf : Bool
  pairs : List Pr
  kids : List Kd
def nodeC (leaf : Bool) (vp vk : Value) : List Value := [.bool leaf, vp, vk]
theorem nodeC_len (leaf : Bool) (vp vk : Value) : (nodeC leaf vp vk).length = 3 := rfl
structure NodeR (M : Mem) (n : Node) (vp vk : Value) : Prop where
  pairs : Row_ M vp n.pairs.length (n.pairs.flatMap prC)
  kids : Row_ M vk n.kids.length (n.kids.flatMap kdC)
  pk : ∀ p, p ∈ n.pairs → RowB M p.kv p.key
  pv : ∀ p, p ∈ n.pairs → RowB M p.vv p.val
  kk : ∀ k, k ∈ n.kids → RowB M k.kv k.key
theorem NodeR.grew {M M1 : Mem} {n : Node} {vp vk : Value} (h : NodeR M n vp vk) (hg : Grew M M1) : NodeR M1 n vp vk :=
  ⟨h.pairs.grew hg, h.kids.grew hg, fun p hp => (h.pk p hp).grew hg, fun p hp => (h.pv p hp).grew hg, fun p hp => (h.kk p hp).grew hg⟩

theorem kdC_one {M : Mem} {k : Kd} (h : RowB M k.kv k.key) : oneCells (kdC k) = true := by
  simp only [oneCells, kdC, List.all_cons, List.all_nil, h.one]; rfl
theorem prC_one {M : Mem} {p : Pr} (h : RowB M p.kv p.key) (h' : RowB M p.vv p.val) : oneCells (prC p) = true := by
  simp only [oneCells, prC, List.all_cons, List.all_nil, h.one, h'.one]; rfl

/-- where a pair stands, and what stands there -/
theorem pr_at {M : Mem} {v : Value} {l : List Pr} (h : Row_ M v l.length (l.flatMap prC)) {i : Nat} (hi : i < l.length) : ∃ b q, (∀ k, indexAddrV Try.prog 41 v (.int k i) = some (.pointer (some ⟨b, q, none⟩))) ∧
    ∀ M1, Grew M M1 → ldS M1.get b q = some l[i].kv ∧ ldS M1.get b (q + 1) = some l[i].vv ∧ ldA M1.get b q 2 = some (.agg (prC l[i]).toArray) := by
  obtain ⟨b, q, h1, h2⟩ := h.at (flatMap_len prC_len l) es_41 hi
  refine ⟨b, q, h1, fun M1 hg => ?_⟩
  obtain ⟨h3, h4⟩ := h2 M1 hg
  have h5 := h3 0 (by omega)
  have h6 := h3 1 (by omega)
  rw [flatMap_cell prC_len l i hi (by omega)] at h5 h6
  rw [flatMap_at prC_len l i hi] at h4
  exact ⟨by simpa [prC] using h5, by simpa [prC] using h6, h4⟩
theorem kd_at {M : Mem} {v : Value} {l : List Kd} (h : Row_ M v l.length (l.flatMap kdC)) {i : Nat} (hi : i < l.length) : ∃ b q, (∀ k, indexAddrV Try.prog 42 v (.int k i) = some (.pointer (some ⟨b, q, none⟩))) ∧
    ∀ M1, Grew M M1 → ldS M1.get b q = some l[i].kv ∧ ldS M1.get b (q + 1) = some (.int .i64 l[i].page) ∧ ldS M1.get b (q + 2) = some (.int .i64 l[i].epoch) ∧ ldA M1.get b q 3 = some (.agg (kdC l[i]).toArray) := by
  obtain ⟨b, q, h1, h2⟩ := h.at (flatMap_len kdC_len l) es_42 hi
  refine ⟨b, q, h1, fun M1 hg => ?_⟩
  obtain ⟨h3, h4⟩ := h2 M1 hg
  have h5 := h3 0 (by omega)
  have h6 := h3 1 (by omega)
  have h7 := h3 2 (by omega)
  rw [flatMap_cell kdC_len l i hi (by omega)] at h5 h6 h7
  rw [flatMap_at kdC_len l i hi] at h4
  exact ⟨by simpa [kdC] using h5, by simpa [kdC] using h6, by simpa [kdC] using h7, h4⟩

/-- so much room things take -/
def prSz (p : Pr) : Int := 2 + (p.key.length : Int) + (p.val.length : Int)
def kdSz (k : Kd) : Int := 11 + (k.key.length : Int)
def sumF {α : Type} (f : α → Int) : List α → Int
  | [] => 0
  | a :: l => f a + sumF f l
theorem sumF_append {α : Type} (f : α → Int) (l m : List α) : sumF f (l ++ m) = sumF f l + sumF f m := by
  induction l with
  | nil => simp [sumF]
  | cons a l ih => rw [List.cons_append, sumF, sumF, ih]; omega
theorem sumF_take {α : Type} (f : α → Int) (l : List α) {i : Nat} (h : i < l.length) : sumF f (l.take (i + 1)) = sumF f (l.take i) + f l[i] := by
  rw [List.take_succ_eq_append_getElem h, sumF_append, sumF, sumF]; omega
theorem sumF_le {α : Type} {f : α → Int} {B : Int} (hB : 0 ≤ B) : ∀ {l : List α}, (∀ a, a ∈ l → 0 ≤ f a ∧ f a ≤ B) → 0 ≤ sumF f l ∧ sumF f l ≤ (l.length : Int) * B := by
  intro l
  induction l with
  | nil => intro _; simp [sumF]
  | cons a l ih =>
    intro h
    obtain ⟨h1, h2⟩ := ih fun b hb => h b (List.mem_cons_of_mem _ hb)
    obtain ⟨h3, h4⟩ := h a List.mem_cons_self
    rw [sumF, List.length_cons, Int.natCast_succ, Int.add_mul]; omega
def sizeF (n : Node) : Int := 3 + sumF prSz n.pairs + sumF kdSz n.kids
/-- a node that is no more than is waited for -/
structure Lt18 (n : Node) : Prop where
  pairs : n.pairs.length ≤ 40
  kids : n.kids.length ≤ 60
  pk : ∀ p, p ∈ n.pairs → p.key.length ≤ 300
  pv : ∀ p, p ∈ n.pairs → p.val.length ≤ 300
  kk : ∀ k, k ∈ n.kids → k.key.length ≤ 300
theorem Lt18.pr {n : Node} (h : Lt18 n) : ∀ p, p ∈ n.pairs → 0 ≤ prSz p ∧ prSz p ≤ 1000 := fun p hp => by
  have h1 := h.pk p hp; have h2 := h.pv p hp; unfold prSz; omega
theorem Lt18.kd {n : Node} (h : Lt18 n) : ∀ p, p ∈ n.kids → 0 ≤ kdSz p ∧ kdSz p ≤ 1000 := fun p hp => by
  have h1 := h.kk p hp; unfold kdSz; omega
theorem sum_take_le {α : Type} {f : α → Int} {l : List α} (h : ∀ a, a ∈ l → 0 ≤ f a ∧ f a ≤ 1000) (hl : l.length ≤ 60) (i : Nat) : 0 ≤ sumF f (l.take i) ∧ sumF f (l.take i) ≤ 60000 := by
  have := sumF_le (f := f) (B := 1000) (by omega) (l := l.take i) fun a ha => h a (List.mem_of_mem_take ha)
  have hl2 : (l.take i).length ≤ 60 := by rw [List.length_take]; omega
  omega
end Go.Proofs.Ythheaehpnleiaaa.AX
