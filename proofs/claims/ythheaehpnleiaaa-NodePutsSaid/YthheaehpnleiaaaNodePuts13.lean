/- Nodes as values; which of two rows of bytes stands ahead; how great a node is. -/
import Derived.Test.YthheaehpnleiaaaNodePuts7
import Derived.Test.YthheaehpnleiaaaNodePuts11
namespace Go.Proofs.Ythheaehpnleiaaa.AX
open Go Go.Proofs
set_option maxRecDepth 100000
set_option linter.unusedVariables false
set_option linter.unusedSimpArgs false

/-- two plain values given back -/
theorem Fin.two {P : Program} {rs : List ResultVar} {M : Mem} {Φ : Value → Mem → Prop} {e : Exit} {s : St} {a b : Value} (he : e = .normal ∨ e = .ret) (hr : retV P rs s = some (.tuple #[a, b])) (ha : AX.plain a = true) (hb : AX.plain b = true) (hok : Ok M) (hg : Grew M s.mem) (h : Φ (.tuple #[a, b]) M) : Fin P rs M Φ e s := by
  refine ⟨he, _, _, M, hr, .inl ⟨fun i => i, Nat.le_refl _, fun i h1 h2 => h1, fun i j _ _ _ _ h => h, ?_, fun i b hi => .inl ⟨hi, hg.within hok i b hi⟩⟩, h⟩
  refine .tuple rfl fun i v v' h1 h2 => ?_
  rw [h1] at h2; cases h2
  match i with
  | 0 => simp at h1; subst h1; exact RN.plain ha
  | 1 => simp at h1; subst h1; exact RN.plain hb
  | i + 2 => simp at h1

/-- is a row of bytes ahead of another one? -/
def lessB : List Int → List Int → Bool
  | [], [] => false
  | [], _ :: _ => true
  | _ :: _, [] => false
  | x :: xs, y :: ys => if x = y then lessB xs ys else decide (x < y)
theorem lessB_nil (m : List Int) : lessB [] m = decide (0 < m.length) := by cases m <;> simp [lessB]
theorem lessB_nil' (l : List Int) : lessB l [] = false := by cases l <;> simp [lessB]

theorem less77_spec (v w : Value) (l m : List Int) (M : Mem) (hok : Ok M) (hv : RowB M v l) (hw : RowB M w m) (hl : l.length ≤ 4611686018427387904) : ∃ r M', ACall Try.prog 77 #[v, w] M r M' ∧ r = .bool (lessB l m) ∧ M' = M := by
  refine ACall.fin (args := [v, w]) (k := 41) Try.func77 rfl rfl rfl (Nat.le_of_ble_eq_true rfl) ?_
  refine AWP.stepR [0, 1] fun K hK => ?_ -- r0
  simp only [go_sem, Nat.reduceEqDiff, Nat.reduceLT, Nat.reduceAdd, Nat.reduceMul, Nat.reduceSub, Nat.add_zero, Nat.zero_add, Int.reduceEq, Int.reduceLT]
  refine hK _ _ _ (by simp only [go_sem, Nat.reduceEqDiff, Nat.reduceLT, Nat.reduceAdd, Nat.reduceMul, Nat.reduceSub, Nat.add_zero, Nat.zero_add, Int.reduceEq, Int.reduceLT]; rfl) ?_; clear hK
  refine AWP.seq ?_
  refine AWP.stepR [0, 1, 5] fun K hK => ?_ -- r1
  simp only [go_sem, Nat.reduceEqDiff, Nat.reduceLT, Nat.reduceAdd, Nat.reduceMul, Nat.reduceSub, Nat.add_zero, Nat.zero_add, Int.reduceEq, Int.reduceLT]
  refine hK _ _ _ (by simp only [go_sem, Nat.reduceEqDiff, Nat.reduceLT, Nat.reduceAdd, Nat.reduceMul, Nat.reduceSub, Nat.add_zero, Nat.zero_add, Int.reduceEq, Int.reduceLT]; rfl) ?_; clear hK
  refine AWP.block ?_ -- b0
  refine AWP.loopK [0, 1, 5] (fun n e M0 => M0 = M ∧ n ≤ l.length ∧ e = [(0, v), (1, w), (5, .int .i64 ((l.length - n : Nat) : Int))] ∧ l.length - n ≤ m.length ∧ lessB l m = lessB (l.drop (l.length - n)) (m.drop (l.length - n))) l.length ?_ fun n e M0 hI => ?_ -- LOOP
  · simp only [go_sem, Nat.reduceEqDiff, Nat.reduceLT, Nat.reduceAdd, Nat.reduceMul, Nat.reduceSub, Nat.add_zero, Nat.zero_add, Int.reduceEq, Int.reduceLT, true_and, Nat.le_refl]
    exact ⟨by simp, by simp, by simp⟩
  obtain ⟨rfl, hn, rfl, hk, hall⟩ := hI
  refine AWP.seq ?_
  refine AWP.stepR [0, 1, 5, 15] fun K hK => ?_ -- r2
  simp only [go_sem, Nat.reduceEqDiff, Nat.reduceLT, Nat.reduceAdd, Nat.reduceMul, Nat.reduceSub, Nat.add_zero, Nat.zero_add, Int.reduceEq, Int.reduceLT, hv.len es_23, hw.len es_23]
  by_cases h1 : l.length - n < l.length
  · rw [show decide (((l.length - n : Nat) : Int) < (l.length : Int)) = true from decide_eq_true (by omega)]
    simp only [go_sem, Nat.reduceEqDiff, Nat.reduceLT, Nat.reduceAdd, Nat.reduceMul, Nat.reduceSub, Nat.add_zero, Nat.zero_add, Int.reduceEq, Int.reduceLT, hv.len es_23, hw.len es_23]
    refine hK _ _ _ (by simp only [go_sem, Nat.reduceEqDiff, Nat.reduceLT, Nat.reduceAdd, Nat.reduceMul, Nat.reduceSub, Nat.add_zero, Nat.zero_add, Int.reduceEq, Int.reduceLT]; rfl) ?_; clear hK
    refine AWP.cond_split rfl (fun h15 => ?_) fun h15 => ?_
    · have hlt' : l.length - n < m.length := by simpa using h15
      obtain ⟨b, q, ha, hd⟩ := hv.at1 (by simp [cB]) es_23 h1
      have hd := hd M0 (Grew.refl _)
      rw [show (cB l)[l.length - n]? = some (.int .u8 l[l.length - n]) by simp [cB, h1]] at hd
      obtain ⟨b', q', ha', hd'⟩ := hw.at1 (by simp [cB]) es_23 hlt'
      have hd' := hd' M0 (Grew.refl _)
      rw [show (cB m)[l.length - n]? = some (.int .u8 m[l.length - n]) by simp [cB, hlt']] at hd'
      generalize hxx : l[l.length - n] = x at hd
      generalize hyy : m[l.length - n] = y at hd'
      have hdl : l.drop (l.length - n) = x :: l.drop (l.length - n + 1) := by rw [← hxx]; exact List.drop_eq_getElem_cons h1
      have hdm : m.drop (l.length - n) = y :: m.drop (l.length - n + 1) := by rw [← hyy]; exact List.drop_eq_getElem_cons hlt'
      rw [hdl, hdm] at hall
      refine AWP.skip ?_
      refine AWP.seq ?_
      refine AWP.block ?_ -- b1
      refine AWP.stepD hmo [0, 1, 2, 3, 4, 5, 6, 7, 8] [0, 0, 3, 7, 0, 0, 48, 112, 255] [] [] (by kernel_rfl) [0, 1, 5, 26] fun K hK => ?_ -- r4
      simp only [go_sem, Nat.reduceEqDiff, Nat.reduceLT, Nat.reduceAdd, Nat.reduceMul, Nat.reduceSub, Nat.add_zero, Nat.zero_add, Int.reduceEq, Int.reduceLT, ha, hd, ha', hd', ld_5]
      refine hK _ _ _ (by simp only [go_sem, Nat.reduceEqDiff, Nat.reduceLT, Nat.reduceAdd, Nat.reduceMul, Nat.reduceSub, Nat.add_zero, Nat.zero_add, Int.reduceEq, Int.reduceLT]; rfl) ?_; clear hK
      refine AWP.cond_split rfl (fun h26 => ?_) fun h26 => ?_
      · refine AWP.stepD hmo [0, 1, 2, 3, 4, 5, 6, 7, 8, 9] [0, 0, 3, 7, 0, 0, 48, 112, 255, 511] [] [] (by kernel_rfl) [4] fun K hK => ?_ -- r5
        simp only [go_sem, Nat.reduceEqDiff, Nat.reduceLT, Nat.reduceAdd, Nat.reduceMul, Nat.reduceSub, Nat.add_zero, Nat.zero_add, Int.reduceEq, Int.reduceLT, ha, hd, ha', hd', ld_5]
        refine hK _ _ _ (by simp only [go_sem, Nat.reduceEqDiff, Nat.reduceLT, Nat.reduceAdd, Nat.reduceMul, Nat.reduceSub, Nat.add_zero, Nat.zero_add, Int.reduceEq, Int.reduceLT]; rfl) ?_; clear hK
        refine AWP.ret (InBlock.ret (Then.ret (Then.ret (InBlock.ret (Then.ret (?_))))))
        refine Fin.plain (.inr rfl) rfl rfl hok (Grew.refl _) ⟨?_, rfl⟩
        rw [hall, lessB, if_neg (by simpa using h26)]
      · refine AWP.skip ?_
        refine AWP.lastR fun K hK => ?_ -- r3
        simp only [go_sem, Nat.reduceEqDiff, Nat.reduceLT, Nat.reduceAdd, Nat.reduceMul, Nat.reduceSub, Nat.add_zero, Nat.zero_add, Int.reduceEq, Int.reduceLT]
        refine hK _ _ ?_; clear hK
        refine ⟨n - 1, by omega, rfl, by omega, ?_, by omega, ?_⟩ -- ROUND
        · simp only [go_sem, Nat.reduceEqDiff, Nat.reduceLT, Nat.reduceAdd, Nat.reduceMul, Nat.reduceSub, Nat.add_zero, Nat.zero_add, Int.reduceEq, Int.reduceLT]
          rw [i64w (by omega) (by omega), show ((l.length - n : Nat) : Int) + 1 = ((l.length - (n - 1) : Nat) : Int) by omega]
        · rw [hall, lessB, if_pos (by simpa using h26), show l.length - (n - 1) = l.length - n + 1 by omega]
    · have hge : m.length ≤ l.length - n := by simpa using h15
      refine AWP.exit (Then.exit (Then.exit (InBlock.same ?_))) -- x0
      refine AWP.stepR [4] fun K hK => ?_ -- r6
      simp only [go_sem, Nat.reduceEqDiff, Nat.reduceLT, Nat.reduceAdd, Nat.reduceMul, Nat.reduceSub, Nat.add_zero, Nat.zero_add, Int.reduceEq, Int.reduceLT, hv.len es_23, hw.len es_23]
      refine hK _ _ _ (by simp only [go_sem, Nat.reduceEqDiff, Nat.reduceLT, Nat.reduceAdd, Nat.reduceMul, Nat.reduceSub, Nat.add_zero, Nat.zero_add, Int.reduceEq, Int.reduceLT]; rfl) ?_; clear hK
      refine AWP.ret (?_)
      refine Fin.plain (.inr rfl) rfl rfl hok (Grew.refl _) ⟨?_, rfl⟩
      rw [hall, List.drop_eq_nil_of_le hge, lessB_nil', decide_eq_false (by omega)]
  · rw [show decide (((l.length - n : Nat) : Int) < (l.length : Int)) = false from decide_eq_false (by omega)]
    simp only [go_sem, Nat.reduceEqDiff, Nat.reduceLT, Nat.reduceAdd, Nat.reduceMul, Nat.reduceSub, Nat.add_zero, Nat.zero_add, Int.reduceEq, Int.reduceLT, hv.len es_23, hw.len es_23]
    refine hK _ _ _ (by simp only [go_sem, Nat.reduceEqDiff, Nat.reduceLT, Nat.reduceAdd, Nat.reduceMul, Nat.reduceSub, Nat.add_zero, Nat.zero_add, Int.reduceEq, Int.reduceLT]; rfl) ?_; clear hK
    refine AWP.cond_split rfl (fun h15 => ?_) fun h15 => ?_
    · cases h15
    · refine AWP.exit (Then.exit (Then.exit (InBlock.same ?_))) -- x0
      refine AWP.stepR [4] fun K hK => ?_ -- r6
      simp only [go_sem, Nat.reduceEqDiff, Nat.reduceLT, Nat.reduceAdd, Nat.reduceMul, Nat.reduceSub, Nat.add_zero, Nat.zero_add, Int.reduceEq, Int.reduceLT, hv.len es_23, hw.len es_23]
      refine hK _ _ _ (by simp only [go_sem, Nat.reduceEqDiff, Nat.reduceLT, Nat.reduceAdd, Nat.reduceMul, Nat.reduceSub, Nat.add_zero, Nat.zero_add, Int.reduceEq, Int.reduceLT]; rfl) ?_; clear hK
      refine AWP.ret (?_)
      refine Fin.plain (.inr rfl) rfl rfl hok (Grew.refl _) ⟨?_, rfl⟩
      rw [hall, show l.length - n = l.length by omega, List.drop_length, lessB_nil, List.length_drop]
      congr 1
      rw [decide_eq_decide]; omega

/-! ### nodes -/
structure Pr where
  kv : Value
  vv : Value
  key : List Int
  val : List Int
structure Kd where
  kv : Value
  key : List Int
  page : Int
  epoch : Int
def prC (p : Pr) : List Value := [p.kv, p.vv]
def kdC (k : Kd) : List Value := [k.kv, .int .i64 k.page, .int .i64 k.epoch]
theorem prC_len (p : Pr) : (prC p).length = 2 := rfl
theorem kdC_len (k : Kd) : (kdC k).length = 3 := rfl
structure Node where
  leaf : Bool
  pairs : List Pr
  kids : List Kd
def nodeC (leaf : Bool) (vp vk : Value) : List Value := [.bool leaf, vp, vk]
theorem nodeC_len (leaf : Bool) (vp vk : Value) : (nodeC leaf vp vk).length = 3 := rfl
structure NodeR (M : Mem) (n : Node) (vp vk : Value) : Prop where
  pairs : Row_ M vp n.pairs.length (n.pairs.flatMap prC)
  kids : Row_ M vk n.kids.length (n.kids.flatMap kdC)
  pk : ∀ p, p ∈ n.pairs → RowB M p.kv p.key
  pv : ∀ p, p ∈ n.pairs → RowB M p.vv p.val
  kk : ∀ k, k ∈ n.kids → RowB M k.kv k.key
theorem NodeR.grew {M M1 : Mem} {n : Node} {vp vk : Value} (h : NodeR M n vp vk) (hg : Grew M M1) : NodeR M1 n vp vk :=
  ⟨h.pairs.grew hg, h.kids.grew hg, fun p hp => (h.pk p hp).grew hg, fun p hp => (h.pv p hp).grew hg, fun p hp => (h.kk p hp).grew hg⟩

theorem kdC_one {M : Mem} {k : Kd} (h : RowB M k.kv k.key) : oneCells (kdC k) = true := by
  simp only [oneCells, kdC, List.all_cons, List.all_nil, h.one]; rfl
theorem prC_one {M : Mem} {p : Pr} (h : RowB M p.kv p.key) (h' : RowB M p.vv p.val) : oneCells (prC p) = true := by
  simp only [oneCells, prC, List.all_cons, List.all_nil, h.one, h'.one]; rfl

/-- where a pair stands, and what stands there -/
theorem pr_at {M : Mem} {v : Value} {l : List Pr} (h : Row_ M v l.length (l.flatMap prC)) {i : Nat} (hi : i < l.length) : ∃ b q, (∀ k, indexAddrV Try.prog 41 v (.int k i) = some (.pointer (some ⟨b, q, none⟩))) ∧
    ∀ M1, Grew M M1 → ldS M1.get b q = some l[i].kv ∧ ldS M1.get b (q + 1) = some l[i].vv ∧ ldA M1.get b q 2 = some (.agg (prC l[i]).toArray) := by
  obtain ⟨b, q, h1, h2⟩ := h.at (flatMap_len prC_len l) es_41 hi
  refine ⟨b, q, h1, fun M1 hg => ?_⟩
  obtain ⟨h3, h4⟩ := h2 M1 hg
  have h5 := h3 0 (by omega)
  have h6 := h3 1 (by omega)
  rw [flatMap_cell prC_len l i hi (by omega)] at h5 h6
  rw [flatMap_at prC_len l i hi] at h4
  exact ⟨by simpa [prC] using h5, by simpa [prC] using h6, h4⟩
theorem kd_at {M : Mem} {v : Value} {l : List Kd} (h : Row_ M v l.length (l.flatMap kdC)) {i : Nat} (hi : i < l.length) : ∃ b q, (∀ k, indexAddrV Try.prog 42 v (.int k i) = some (.pointer (some ⟨b, q, none⟩))) ∧
    ∀ M1, Grew M M1 → ldS M1.get b q = some l[i].kv ∧ ldS M1.get b (q + 1) = some (.int .i64 l[i].page) ∧ ldS M1.get b (q + 2) = some (.int .i64 l[i].epoch) ∧ ldA M1.get b q 3 = some (.agg (kdC l[i]).toArray) := by
  obtain ⟨b, q, h1, h2⟩ := h.at (flatMap_len kdC_len l) es_42 hi
  refine ⟨b, q, h1, fun M1 hg => ?_⟩
  obtain ⟨h3, h4⟩ := h2 M1 hg
  have h5 := h3 0 (by omega)
  have h6 := h3 1 (by omega)
  have h7 := h3 2 (by omega)
  rw [flatMap_cell kdC_len l i hi (by omega)] at h5 h6 h7
  rw [flatMap_at kdC_len l i hi] at h4
  exact ⟨by simpa [kdC] using h5, by simpa [kdC] using h6, by simpa [kdC] using h7, h4⟩

/-- so much room things take -/
def prSz (p : Pr) : Int := 2 + (p.key.length : Int) + (p.val.length : Int)
def kdSz (k : Kd) : Int := 11 + (k.key.length : Int)
def sumF {α : Type} (f : α → Int) : List α → Int
  | [] => 0
  | a :: l => f a + sumF f l
theorem sumF_append {α : Type} (f : α → Int) (l m : List α) : sumF f (l ++ m) = sumF f l + sumF f m := by
  induction l with
  | nil => simp [sumF]
  | cons a l ih => rw [List.cons_append, sumF, sumF, ih]; omega
theorem sumF_take {α : Type} (f : α → Int) (l : List α) {i : Nat} (h : i < l.length) : sumF f (l.take (i + 1)) = sumF f (l.take i) + f l[i] := by
  rw [List.take_succ_eq_append_getElem h, sumF_append, sumF, sumF]; omega
theorem sumF_le {α : Type} {f : α → Int} {B : Int} (hB : 0 ≤ B) : ∀ {l : List α}, (∀ a, a ∈ l → 0 ≤ f a ∧ f a ≤ B) → 0 ≤ sumF f l ∧ sumF f l ≤ (l.length : Int) * B := by
  intro l
  induction l with
  | nil => intro _; simp [sumF]
  | cons a l ih =>
    intro h
    obtain ⟨h1, h2⟩ := ih fun b hb => h b (List.mem_cons_of_mem _ hb)
    obtain ⟨h3, h4⟩ := h a List.mem_cons_self
    rw [sumF, List.length_cons, Int.natCast_succ, Int.add_mul]; omega
def sizeF (n : Node) : Int := 3 + sumF prSz n.pairs + sumF kdSz n.kids
/-- a node that is no more than is waited for -/
structure Lt18 (n : Node) : Prop where
  pairs : n.pairs.length ≤ 1000
  kids : n.kids.length ≤ 1000
  pk : ∀ p, p ∈ n.pairs → p.key.length ≤ 1000
  pv : ∀ p, p ∈ n.pairs → p.val.length ≤ 1000
  kk : ∀ k, k ∈ n.kids → k.key.length ≤ 1000
theorem Lt18.pr {n : Node} (h : Lt18 n) : ∀ p, p ∈ n.pairs → 0 ≤ prSz p ∧ prSz p ≤ 3000 := fun p hp => by
  have h1 := h.pk p hp; have h2 := h.pv p hp; unfold prSz; omega
theorem Lt18.kd {n : Node} (h : Lt18 n) : ∀ p, p ∈ n.kids → 0 ≤ kdSz p ∧ kdSz p ≤ 3000 := fun p hp => by
  have h1 := h.kk p hp; unfold kdSz; omega
theorem sum_take_le {α : Type} {f : α → Int} {l : List α} (h : ∀ a, a ∈ l → 0 ≤ f a ∧ f a ≤ 3000) (hl : l.length ≤ 1000) (i : Nat) : 0 ≤ sumF f (l.take i) ∧ sumF f (l.take i) ≤ 3000000 := by
  have := sumF_le (f := f) (B := 3000) (by omega) (l := l.take i) fun a ha => h a (List.mem_of_mem_take ha)
  have hl2 : (l.take i).length ≤ 1000 := by rw [List.length_take]; omega
  omega
end Go.Proofs.Ythheaehpnleiaaa.AX

/- How great a node is, by the document; what is wrong with its parts; whether it is no more than is waited for. -/
namespace Go.Proofs.Ythheaehpnleiaaa.AX
open Go Go.Proofs
set_option maxRecDepth 100000
set_option linter.unusedVariables false
set_option linter.unusedSimpArgs false

theorem size29_spec (n : Node) (vp vk : Value) (M : Mem) (hok : Ok M) (hr : NodeR M n vp vk) (hL : Lt18 n) : ∃ r M', ACall Try.prog 29 #[.agg (nodeC n.leaf vp vk).toArray] M r M' ∧ r = .int .i64 (sizeF n) ∧ M' = M := by
  refine ACall.fin (args := [.agg (nodeC n.leaf vp vk).toArray]) (k := 49) Try.func29 rfl rfl rfl (Nat.le_of_ble_eq_true rfl) ?_
  refine AWP.stepR [1] fun K hK => ?_
  simp only [go_sem, Nat.reduceEqDiff, Nat.reduceLT, Nat.reduceAdd, Nat.reduceMul, Nat.reduceSub, Nat.add_zero, Nat.zero_add, Int.reduceEq, Int.reduceLT]
  refine hK _ _ _ (by simp only [go_sem, Nat.reduceEqDiff, Nat.reduceLT, Nat.reduceAdd, Nat.reduceMul, Nat.reduceSub, Nat.add_zero, Nat.zero_add, Int.reduceEq, Int.reduceLT]; rfl) ?_; clear hK
  have hlt1 : M.next < (M.bump 1).next := Nat.lt_succ_self _
  obtain ⟨hg1, hh1⟩ := mk_put ((Grew.refl M).bump 1) (Nat.le_refl _) hlt1 ⟨nodeC n.leaf vp vk, 44, true⟩
  change AWP _ _ _ ⟨_, (M.bump 1).put M.next ⟨nodeC n.leaf vp vk, 44, true⟩⟩ _
  generalize hM1 : (M.bump 1).put M.next ⟨nodeC n.leaf vp vk, 44, true⟩ = M1 at hg1 hh1
  have hr := hr.grew hg1
  obtain ⟨lf, ps, ks⟩ := n
  have hlp := hL.pairs; have hlk := hL.kids
  have hsp := sum_take_le hL.pr (by simp only at hlp; simp only; omega)
  have hsk := sum_take_le hL.kd (by simp only at hlk; simp only; omega)
  simp only at hlp hlk hsp hsk hh1
  refine AWP.stepR [1, 3] fun K hK => ?_
  simp only [go_sem, Nat.reduceEqDiff, Nat.reduceLT, Nat.reduceAdd, Nat.reduceMul, Nat.reduceSub, Nat.add_zero, Nat.zero_add, Int.reduceEq, Int.reduceLT]
  refine hK _ _ _ (by simp only [go_sem, Nat.reduceEqDiff, Nat.reduceLT, Nat.reduceAdd, Nat.reduceMul, Nat.reduceSub, Nat.add_zero, Nat.zero_add, Int.reduceEq, Int.reduceLT]; rfl) ?_; clear hK
  refine AWP.seq ?_
  refine AWP.stepR [1, 3, 4] fun K hK => ?_
  simp only [go_sem, Nat.reduceEqDiff, Nat.reduceLT, Nat.reduceAdd, Nat.reduceMul, Nat.reduceSub, Nat.add_zero, Nat.zero_add, Int.reduceEq, Int.reduceLT]
  refine hK _ _ _ (by simp only [go_sem, Nat.reduceEqDiff, Nat.reduceLT, Nat.reduceAdd, Nat.reduceMul, Nat.reduceSub, Nat.add_zero, Nat.zero_add, Int.reduceEq, Int.reduceLT]; rfl) ?_; clear hK
  refine AWP.block ?_ -- b0
  refine AWP.loopK [1, 3, 4] (fun n e M0 => M0 = M1 ∧ n ≤ ps.length ∧ e = [(1, .pointer (some ⟨M.next, 0, none⟩)), (3, .int .i64 (3 + sumF prSz (ps.take (ps.length - n)))), (4, .int .i64 ((ps.length - n : Nat) : Int))]) ps.length ?_ fun n e M0 hI => ?_ -- LOOP
  · simp only [go_sem, Nat.reduceEqDiff, Nat.reduceLT, Nat.reduceAdd, Nat.reduceMul, Nat.reduceSub, Nat.add_zero, Nat.zero_add, Int.reduceEq, Int.reduceLT, true_and, Nat.le_refl]
    simp [sumF]
  obtain ⟨rfl, hn, rfl⟩ := hI
  refine AWP.seq ?_
  refine AWP.stepR [1, 3, 4, 10] fun K hK => ?_
  simp only [go_sem, Nat.reduceEqDiff, Nat.reduceLT, Nat.reduceAdd, Nat.reduceMul, Nat.reduceSub, Nat.add_zero, Nat.zero_add, Int.reduceEq, Int.reduceLT, ld_41, hh1.ld, nodeC, hr.pairs.len es_41]
  refine hK _ _ _ (by simp only [go_sem, Nat.reduceEqDiff, Nat.reduceLT, Nat.reduceAdd, Nat.reduceMul, Nat.reduceSub, Nat.add_zero, Nat.zero_add, Int.reduceEq, Int.reduceLT]; rfl) ?_; clear hK
  refine AWP.cond_split rfl (fun h10 => ?_) fun h10 => ?_
  · have hlt : ps.length - n < ps.length := by simpa using h10
    obtain ⟨b, q, ha, hd⟩ := pr_at hr.pairs hlt
    obtain ⟨hd1, hd2, _⟩ := hd M0 (Grew.refl _)
    have hk := hr.pk _ (List.getElem_mem hlt)
    have hv := hr.pv _ (List.getElem_mem hlt)
    have hs1 := hsp (ps.length - n)
    have hs2 := hsp (ps.length - n + 1)
    rw [sumF_take prSz ps hlt] at hs2
    have hb := hL.pk _ (List.getElem_mem hlt)
    have hb2 := hL.pv _ (List.getElem_mem hlt)
    have hst := sumF_take prSz ps hlt
    simp only at ha hd1 hd2 hk hv hb hb2 hst
    generalize ps[ps.length - n] = x at hd1 hd2 hk hv hs2 hb hb2 hst
    refine AWP.skip ?_
    refine AWP.seq ?_
    refine AWP.block ?_ -- b1
    refine AWP.oneD' hmo [0, 1, 2, 3, 4, 5, 6, 7, 8, 9, 10, 11, 12, 13, 14, 15, 16, 17, 18] [0, 1, 0, 4, 0, 28, 60, 124, 252, 511, 0, 1024, 0, 7168, 15360, 31744, 64512, 131071, 262143] [] [] (by kernel_rfl) fun K hK => ?_
    simp only [go_sem, Nat.reduceEqDiff, Nat.reduceLT, Nat.reduceAdd, Nat.reduceMul, Nat.reduceSub, Nat.add_zero, Nat.zero_add, Int.reduceEq, Int.reduceLT, ld_41, hh1.ld, nodeC, ha, hd1, hd2, ld_23, hk.len es_23, hv.len es_23]
    refine hK _ _ ?_; clear hK
    refine AWP.lastR fun K hK => ?_
    simp only [go_sem, Nat.reduceEqDiff, Nat.reduceLT, Nat.reduceAdd, Nat.reduceMul, Nat.reduceSub, Nat.add_zero, Nat.zero_add, Int.reduceEq, Int.reduceLT]
    refine hK _ _ ?_; clear hK
    refine ⟨n - 1, by omega, rfl, by omega, ?_⟩ -- ROUND
    simp only [go_sem, Nat.reduceEqDiff, Nat.reduceLT, Nat.reduceAdd, Nat.reduceMul, Nat.reduceSub, Nat.add_zero, Nat.zero_add, Int.reduceEq, Int.reduceLT]
    have hpx : prSz x = 2 + (x.key.length : Int) + (x.val.length : Int) := rfl
    rw [i64w (n := ((ps.length - n : Nat) : Int) + 1) (by omega) (by omega), i64w (n := 3 + sumF prSz (ps.take (ps.length - n)) + 2) (by omega) (by omega), i64w (n := 3 + sumF prSz (ps.take (ps.length - n)) + 2 + _) (by omega) (by omega), i64w (by omega) (by omega),
      show ((ps.length - n : Nat) : Int) + 1 = ((ps.length - (n - 1) : Nat) : Int) by omega, show ps.length - (n - 1) = ps.length - n + 1 by omega, hst]
    congr 4
    omega
  · refine AWP.exit (Then.exit (Then.exit (InBlock.same ?_)))
    have hn0 : n = 0 := by simp at h10; omega
    subst hn0
    rw [Nat.sub_zero, List.take_length]
    have hsum := hsp ps.length
    rw [List.take_length] at hsum
    refine AWP.seq ?_
    refine AWP.stepR [1, 3, 5] fun K hK => ?_
    simp only [go_sem, Nat.reduceEqDiff, Nat.reduceLT, Nat.reduceAdd, Nat.reduceMul, Nat.reduceSub, Nat.add_zero, Nat.zero_add, Int.reduceEq, Int.reduceLT]
    refine hK _ _ _ (by simp only [go_sem, Nat.reduceEqDiff, Nat.reduceLT, Nat.reduceAdd, Nat.reduceMul, Nat.reduceSub, Nat.add_zero, Nat.zero_add, Int.reduceEq, Int.reduceLT]; rfl) ?_; clear hK
    refine AWP.block ?_ -- b2
    refine AWP.loopK [1, 3, 5] (fun n e M2 => M2 = M0 ∧ n ≤ ks.length ∧ e = [(1, .pointer (some ⟨M.next, 0, none⟩)), (3, .int .i64 (3 + sumF prSz ps + sumF kdSz (ks.take (ks.length - n)))), (5, .int .i64 ((ks.length - n : Nat) : Int))]) ks.length ?_ fun n e M2 hI => ?_ -- LOOP
    · simp only [go_sem, Nat.reduceEqDiff, Nat.reduceLT, Nat.reduceAdd, Nat.reduceMul, Nat.reduceSub, Nat.add_zero, Nat.zero_add, Int.reduceEq, Int.reduceLT, true_and, Nat.le_refl]
      simp [sumF]
    obtain ⟨rfl, hn, rfl⟩ := hI
    refine AWP.seq ?_
    refine AWP.stepR [1, 3, 5, 35] fun K hK => ?_
    simp only [go_sem, Nat.reduceEqDiff, Nat.reduceLT, Nat.reduceAdd, Nat.reduceMul, Nat.reduceSub, Nat.add_zero, Nat.zero_add, Int.reduceEq, Int.reduceLT, ld_42, hh1.ld, nodeC, hr.kids.len es_42]
    refine hK _ _ _ (by simp only [go_sem, Nat.reduceEqDiff, Nat.reduceLT, Nat.reduceAdd, Nat.reduceMul, Nat.reduceSub, Nat.add_zero, Nat.zero_add, Int.reduceEq, Int.reduceLT]; rfl) ?_; clear hK
    refine AWP.cond_split rfl (fun h35 => ?_) fun h35 => ?_
    · have hlt : ks.length - n < ks.length := by simpa using h35
      obtain ⟨b, q, ha, hd⟩ := kd_at hr.kids hlt
      obtain ⟨hd1, _⟩ := hd M2 (Grew.refl _)
      have hk := hr.kk _ (List.getElem_mem hlt)
      have hs1 := hsk (ks.length - n)
      have hs2 := hsk (ks.length - n + 1)
      rw [sumF_take kdSz ks hlt] at hs2
      have hb := hL.kk _ (List.getElem_mem hlt)
      have hst := sumF_take kdSz ks hlt
      simp only at ha hd1 hk hb hst
      generalize ks[ks.length - n] = x at hd1 hk hs2 hb hst
      refine AWP.skip ?_
      refine AWP.seq ?_
      refine AWP.block ?_ -- b3
      refine AWP.lastR fun K hK => ?_
      simp only [go_sem, Nat.reduceEqDiff, Nat.reduceLT, Nat.reduceAdd, Nat.reduceMul, Nat.reduceSub, Nat.add_zero, Nat.zero_add, Int.reduceEq, Int.reduceLT, ld_42, hh1.ld, nodeC, ha, hd1, ld_23, hk.len es_23]
      refine hK _ _ ?_; clear hK
      refine AWP.lastR fun K hK => ?_
      simp only [go_sem, Nat.reduceEqDiff, Nat.reduceLT, Nat.reduceAdd, Nat.reduceMul, Nat.reduceSub, Nat.add_zero, Nat.zero_add, Int.reduceEq, Int.reduceLT]
      refine hK _ _ ?_; clear hK
      refine ⟨n - 1, by omega, rfl, by omega, ?_⟩ -- ROUND
      simp only [go_sem, Nat.reduceEqDiff, Nat.reduceLT, Nat.reduceAdd, Nat.reduceMul, Nat.reduceSub, Nat.add_zero, Nat.zero_add, Int.reduceEq, Int.reduceLT]
      have hpx : kdSz x = 11 + (x.key.length : Int) := rfl
      rw [i64w (n := ((ks.length - n : Nat) : Int) + 1) (by omega) (by omega), i64w (n := 3 + sumF prSz ps + sumF kdSz (ks.take (ks.length - n)) + 11) (by omega) (by omega), i64w (by omega) (by omega),
        show ((ks.length - n : Nat) : Int) + 1 = ((ks.length - (n - 1) : Nat) : Int) by omega, show ks.length - (n - 1) = ks.length - n + 1 by omega, hst]
      congr 4
      omega
    · refine AWP.exit (Then.exit (Then.exit (InBlock.same ?_)))
      refine AWP.stepR [2] fun K hK => ?_
      simp only [go_sem, Nat.reduceEqDiff, Nat.reduceLT, Nat.reduceAdd, Nat.reduceMul, Nat.reduceSub, Nat.add_zero, Nat.zero_add, Int.reduceEq, Int.reduceLT]
      refine hK _ _ _ (by simp only [go_sem, Nat.reduceEqDiff, Nat.reduceLT, Nat.reduceAdd, Nat.reduceMul, Nat.reduceSub, Nat.add_zero, Nat.zero_add, Int.reduceEq, Int.reduceLT]; rfl) ?_; clear hK
      refine AWP.ret (?_)
      refine Fin.plain (.inr rfl) rfl rfl hok hg1 ⟨?_, rfl⟩
      have hn0 : n = 0 := by simp at h35; omega
      rw [hn0, Nat.sub_zero, List.take_length, sizeF]

end Go.Proofs.Ythheaehpnleiaaa.AX

/- What is wrong with a node's parts, by the document; whether it is no more than is waited for. -/
namespace Go.Proofs.Ythheaehpnleiaaa.AX
open Go Go.Proofs
set_option maxRecDepth 100000
set_option linter.unusedVariables false
set_option linter.unusedSimpArgs false

def prOk (p : Pr) : Bool := !(decide ((p.key.length : Int) > 64) || decide ((p.val.length : Int) > 160))
def kdRange (k : Kd) : Bool := ((decide (k.page < 0) || decide (k.page ≥ 4096)) || decide (k.epoch < 0)) || decide (k.epoch > 1099511627776)
def kdCode (k : Kd) : Int := if (k.key.length : Int) > 64 then 17 else if kdRange k = true then 2 else 0
def firstF : List Kd → Int
  | [] => 0
  | k :: l => if kdCode k = 0 then firstF l else kdCode k
def partsF (n : Node) : Int := if n.pairs.all prOk then firstF n.kids else 17

theorem parts76_spec (n : Node) (vp vk : Value) (M : Mem) (hok : Ok M) (hr : NodeR M n vp vk) (hlp : n.pairs.length ≤ 1000) (hlk : n.kids.length ≤ 1000) : ∃ r M', ACall Try.prog 76 #[.agg (nodeC n.leaf vp vk).toArray] M r M' ∧ r = .int .i64 (partsF n) ∧ M' = M := by
  refine ACall.fin (args := [.agg (nodeC n.leaf vp vk).toArray]) (k := 65) Try.func76 rfl rfl rfl (Nat.le_of_ble_eq_true rfl) ?_
  refine AWP.stepR [1] fun K hK => ?_
  simp only [go_sem, Nat.reduceEqDiff, Nat.reduceLT, Nat.reduceAdd, Nat.reduceMul, Nat.reduceSub, Nat.add_zero, Nat.zero_add, Int.reduceEq, Int.reduceLT]
  refine hK _ _ _ (by simp only [go_sem, Nat.reduceEqDiff, Nat.reduceLT, Nat.reduceAdd, Nat.reduceMul, Nat.reduceSub, Nat.add_zero, Nat.zero_add, Int.reduceEq, Int.reduceLT]; rfl) ?_; clear hK
  have hlt1 : M.next < (M.bump 1).next := Nat.lt_succ_self _
  obtain ⟨hg1, hh1⟩ := mk_put ((Grew.refl M).bump 1) (Nat.le_refl _) hlt1 ⟨nodeC n.leaf vp vk, 44, true⟩
  change AWP _ _ _ ⟨_, (M.bump 1).put M.next ⟨nodeC n.leaf vp vk, 44, true⟩⟩ _
  generalize hM1 : (M.bump 1).put M.next ⟨nodeC n.leaf vp vk, 44, true⟩ = M1 at hg1 hh1
  have hr := hr.grew hg1
  obtain ⟨lf, ps, ks⟩ := n
  simp only at hlp hlk hh1
  refine AWP.seq ?_
  refine AWP.stepR [1, 3] fun K hK => ?_
  simp only [go_sem, Nat.reduceEqDiff, Nat.reduceLT, Nat.reduceAdd, Nat.reduceMul, Nat.reduceSub, Nat.add_zero, Nat.zero_add, Int.reduceEq, Int.reduceLT]
  refine hK _ _ _ (by simp only [go_sem, Nat.reduceEqDiff, Nat.reduceLT, Nat.reduceAdd, Nat.reduceMul, Nat.reduceSub, Nat.add_zero, Nat.zero_add, Int.reduceEq, Int.reduceLT]; rfl) ?_; clear hK
  refine AWP.block ?_ -- b0
  refine AWP.loopK [1, 3] (fun n e M0 => M0 = M1 ∧ n ≤ ps.length ∧ e = [(1, .pointer (some ⟨M.next, 0, none⟩)), (3, .int .i64 ((ps.length - n : Nat) : Int))] ∧ (ps.take (ps.length - n)).all prOk = true) ps.length ?_ fun n e M0 hI => ?_ -- LOOP
  · simp only [go_sem, Nat.reduceEqDiff, Nat.reduceLT, Nat.reduceAdd, Nat.reduceMul, Nat.reduceSub, Nat.add_zero, Nat.zero_add, Int.reduceEq, Int.reduceLT, true_and, Nat.le_refl]
    simp
  obtain ⟨rfl, hn, rfl, hall⟩ := hI
  refine AWP.seq ?_
  refine AWP.stepR [1, 3, 10] fun K hK => ?_
  simp only [go_sem, Nat.reduceEqDiff, Nat.reduceLT, Nat.reduceAdd, Nat.reduceMul, Nat.reduceSub, Nat.add_zero, Nat.zero_add, Int.reduceEq, Int.reduceLT, ld_41, hh1.ld, nodeC, hr.pairs.len es_41]
  refine hK _ _ _ (by simp only [go_sem, Nat.reduceEqDiff, Nat.reduceLT, Nat.reduceAdd, Nat.reduceMul, Nat.reduceSub, Nat.add_zero, Nat.zero_add, Int.reduceEq, Int.reduceLT]; rfl) ?_; clear hK
  refine AWP.cond_split rfl (fun h10 => ?_) fun h10 => ?_
  · have hlt : ps.length - n < ps.length := by simpa using h10
    obtain ⟨b, q, ha, hd⟩ := pr_at hr.pairs hlt
    obtain ⟨hd1, hd2, _⟩ := hd M0 (Grew.refl _)
    have hk := hr.pk _ (List.getElem_mem hlt)
    have hv := hr.pv _ (List.getElem_mem hlt)
    have hst := List.take_succ_eq_append_getElem hlt
    have hmem := List.getElem_mem hlt
    simp only at ha hd1 hd2 hk hv hst
    generalize ps[ps.length - n] = x at hd1 hd2 hk hv hst hmem
    refine AWP.skip ?_
    refine AWP.seq ?_
    refine AWP.block ?_ -- b1
    refine AWP.stepX [1, 3, 30] [(1, .pointer (some ⟨M.next, 0, none⟩)), (3, .int .i64 ((ps.length - n : Nat) : Int)), (30, .bool (!prOk x))] M0 (fun K hK => ?_) ?_
    · cases h64 : decide ((x.key.length : Int) > 64) <;> simp only [go_sem, Nat.reduceEqDiff, Nat.reduceLT, Nat.reduceAdd, Nat.reduceMul, Nat.reduceSub, Nat.add_zero, Nat.zero_add, Int.reduceEq, Int.reduceLT, ld_41, hh1.ld, nodeC, ha, hd1, hd2, ld_23, hk.len es_23, hv.len es_23, h64] <;> refine hK _ ?_ <;> simp only [go_sem, Nat.reduceEqDiff, Nat.reduceLT, Nat.reduceAdd, Nat.reduceMul, Nat.reduceSub, Nat.add_zero, Nat.zero_add, Int.reduceEq, Int.reduceLT, prOk, h64, Bool.or_false, Bool.or_true, Bool.false_or, Bool.true_or, Bool.not_not] <;> rfl
    refine AWP.cond_split rfl (fun h30 => ?_) fun h30 => ?_
    · refine AWP.stepR [2] fun K hK => ?_
      simp only [go_sem, Nat.reduceEqDiff, Nat.reduceLT, Nat.reduceAdd, Nat.reduceMul, Nat.reduceSub, Nat.add_zero, Nat.zero_add, Int.reduceEq, Int.reduceLT]
      refine hK _ _ _ (by simp only [go_sem, Nat.reduceEqDiff, Nat.reduceLT, Nat.reduceAdd, Nat.reduceMul, Nat.reduceSub, Nat.add_zero, Nat.zero_add, Int.reduceEq, Int.reduceLT]; rfl) ?_; clear hK
      refine AWP.ret (InBlock.ret (Then.ret (Then.ret (InBlock.ret (Then.ret (?_))))))
      refine Fin.plain (.inr rfl) rfl rfl hok hg1 ⟨?_, rfl⟩
      rw [partsF, if_neg]
      simp only [List.all_eq_true]
      intro hh
      rw [hh x hmem] at h30
      cases h30
    · refine AWP.skip ?_
      refine AWP.lastR fun K hK => ?_
      simp only [go_sem, Nat.reduceEqDiff, Nat.reduceLT, Nat.reduceAdd, Nat.reduceMul, Nat.reduceSub, Nat.add_zero, Nat.zero_add, Int.reduceEq, Int.reduceLT]
      refine hK _ _ ?_; clear hK
      refine ⟨n - 1, by omega, rfl, by omega, ?_, ?_⟩ -- ROUND
      · simp only [go_sem, Nat.reduceEqDiff, Nat.reduceLT, Nat.reduceAdd, Nat.reduceMul, Nat.reduceSub, Nat.add_zero, Nat.zero_add, Int.reduceEq, Int.reduceLT]
        rw [i64w (by omega) (by omega), show ((ps.length - n : Nat) : Int) + 1 = ((ps.length - (n - 1) : Nat) : Int) by omega]
      · rw [show ps.length - (n - 1) = ps.length - n + 1 by omega, hst, List.all_append, hall]
        simpa using h30
  · refine AWP.exit (Then.exit (Then.exit (InBlock.same ?_)))
    have hn0 : n = 0 := by simp at h10; omega
    subst hn0
    rw [Nat.sub_zero, List.take_length] at hall
    refine AWP.seq ?_
    refine AWP.stepR [1, 4] fun K hK => ?_
    simp only [go_sem, Nat.reduceEqDiff, Nat.reduceLT, Nat.reduceAdd, Nat.reduceMul, Nat.reduceSub, Nat.add_zero, Nat.zero_add, Int.reduceEq, Int.reduceLT]
    refine hK _ _ _ (by simp only [go_sem, Nat.reduceEqDiff, Nat.reduceLT, Nat.reduceAdd, Nat.reduceMul, Nat.reduceSub, Nat.add_zero, Nat.zero_add, Int.reduceEq, Int.reduceLT]; rfl) ?_; clear hK
    refine AWP.block ?_ -- b2
    refine AWP.loopK [1, 4] (fun n e M2 => Grew M0 M2 ∧ n ≤ ks.length ∧ e = [(1, .pointer (some ⟨M.next, 0, none⟩)), (4, .int .i64 ((ks.length - n : Nat) : Int))] ∧ firstF ks = firstF (ks.drop (ks.length - n))) ks.length ?_ fun n e M2 hI => ?_ -- LOOP
    · simp only [go_sem, Nat.reduceEqDiff, Nat.reduceLT, Nat.reduceAdd, Nat.reduceMul, Nat.reduceSub, Nat.add_zero, Nat.zero_add, Int.reduceEq, Int.reduceLT, Nat.le_refl]
      exact ⟨Grew.refl _, by simp⟩
    obtain ⟨hgl, hn, rfl, hf⟩ := hI
    have hh2 := hh1.grew hgl
    have hrl := hr.grew hgl
    refine AWP.seq ?_
    refine AWP.stepR [1, 4, 35] fun K hK => ?_
    simp only [go_sem, Nat.reduceEqDiff, Nat.reduceLT, Nat.reduceAdd, Nat.reduceMul, Nat.reduceSub, Nat.add_zero, Nat.zero_add, Int.reduceEq, Int.reduceLT, ld_42, hh2.ld, nodeC, hrl.kids.len es_42]
    refine hK _ _ _ (by simp only [go_sem, Nat.reduceEqDiff, Nat.reduceLT, Nat.reduceAdd, Nat.reduceMul, Nat.reduceSub, Nat.add_zero, Nat.zero_add, Int.reduceEq, Int.reduceLT]; rfl) ?_; clear hK
    refine AWP.cond_split rfl (fun h35 => ?_) fun h35 => ?_
    · have hlt : ks.length - n < ks.length := by simpa using h35
      obtain ⟨b, q, ha, hd⟩ := kd_at hrl.kids hlt
      have hd := (hd M2 (Grew.refl _)).2.2.2
      have hk := hrl.kk _ (List.getElem_mem hlt)
      rw [List.drop_eq_getElem_cons hlt] at hf
      try simp only at ha hd hk
      generalize ks[ks.length - n] = x at hd hk hf
      refine AWP.skip ?_
      refine AWP.seq ?_
      refine AWP.block ?_ -- b3
      have hlt2 : M2.next < (M2.bump 1).next := Nat.lt_succ_self _
      refine AWP.stepR [1, 4, 5] fun K hK => ?_
      simp only [go_sem, Nat.reduceEqDiff, Nat.reduceLT, Nat.reduceAdd, Nat.reduceMul, Nat.reduceSub, Nat.add_zero, Nat.zero_add, Int.reduceEq, Int.reduceLT, ld_42, hh2.lda, hh2.ld, nodeC, ha, ld_60, hd, st_fresh (M := M2.bump 1) (i := M2.next) (n := 3) (old := [.slice none 0 0, .int .i64 0, .int .i64 0]) (vs := kdC x) (e := 60) rfl rfl (kdC_one hk)]
      refine hK _ _ _ (by simp only [go_sem, Nat.reduceEqDiff, Nat.reduceLT, Nat.reduceAdd, Nat.reduceMul, Nat.reduceSub, Nat.add_zero, Nat.zero_add, Int.reduceEq, Int.reduceLT]; rfl) ?_; clear hK
      have hg4 := (((Grew.refl M2).bump 1).put (Nat.le_refl _) hlt2 ⟨[.slice none 0 0, .int .i64 0, .int .i64 0], 60, true⟩).put (Nat.le_refl _) hlt2 ⟨kdC x, 60, true⟩
      have hh4 : Has (((M2.bump 1).put M2.next ⟨[.slice none 0 0, .int .i64 0, .int .i64 0], 60, true⟩).put M2.next ⟨kdC x, 60, true⟩) M2.next ⟨kdC x, 60, true⟩ := Has.put (M := (M2.bump 1).put M2.next ⟨[.slice none 0 0, .int .i64 0, .int .i64 0], 60, true⟩) hlt2 _
      generalize ((M2.bump 1).put M2.next ⟨[.slice none 0 0, .int .i64 0, .int .i64 0], 60, true⟩).put M2.next ⟨kdC x, 60, true⟩ = M4 at hg4 hh4
      have hk := hk.grew hg4
      have hgg := hg1.trans (hgl.trans hg4)
      refine AWP.seq ?_
      refine AWP.stepR [1, 4, 5, 46] fun K hK => ?_
      simp only [go_sem, Nat.reduceEqDiff, Nat.reduceLT, Nat.reduceAdd, Nat.reduceMul, Nat.reduceSub, Nat.add_zero, Nat.zero_add, Int.reduceEq, Int.reduceLT, ld_23, hh4.ld, kdC, hk.len es_23]
      refine hK _ _ _ (by simp only [go_sem, Nat.reduceEqDiff, Nat.reduceLT, Nat.reduceAdd, Nat.reduceMul, Nat.reduceSub, Nat.add_zero, Nat.zero_add, Int.reduceEq, Int.reduceLT]; rfl) ?_; clear hK
      refine AWP.cond_split rfl (fun h46 => ?_) fun h46 => ?_
      · refine AWP.stepR [2] fun K hK => ?_
        simp only [go_sem, Nat.reduceEqDiff, Nat.reduceLT, Nat.reduceAdd, Nat.reduceMul, Nat.reduceSub, Nat.add_zero, Nat.zero_add, Int.reduceEq, Int.reduceLT]
        refine hK _ _ _ (by simp only [go_sem, Nat.reduceEqDiff, Nat.reduceLT, Nat.reduceAdd, Nat.reduceMul, Nat.reduceSub, Nat.add_zero, Nat.zero_add, Int.reduceEq, Int.reduceLT]; rfl) ?_; clear hK
        refine AWP.ret (Then.ret (InBlock.ret (Then.ret (Then.ret (InBlock.ret (Then.ret (?_)))))))
        refine Fin.plain (.inr rfl) rfl rfl hok hgg ⟨?_, rfl⟩
        have h46' : (x.key.length : Int) > 64 := by simpa using h46
        have hc : kdCode x = 17 := by rw [kdCode, if_pos h46']
        rw [partsF, if_pos hall, hf, firstF, hc, if_neg (by decide)]
      · refine AWP.skip ?_
        have h46' : ¬ (x.key.length : Int) > 64 := by simpa using h46
        refine AWP.stepX [1, 4, 64] [(1, .pointer (some ⟨M.next, 0, none⟩)), (4, .int .i64 ((ks.length - n : Nat) : Int)), (64, .bool (kdRange x))] M4 (fun K hK => ?_) ?_
        · cases a1 : decide (x.page < 0) <;> cases a2 : decide (x.page ≥ 4096) <;> cases a3 : decide (x.epoch < 0) <;> simp only [go_sem, Nat.reduceEqDiff, Nat.reduceLT, Nat.reduceAdd, Nat.reduceMul, Nat.reduceSub, Nat.add_zero, Nat.zero_add, Int.reduceEq, Int.reduceLT, ld_3, hh4.ld, kdC, a1, a2, a3] <;> refine hK _ ?_ <;> simp only [go_sem, Nat.reduceEqDiff, Nat.reduceLT, Nat.reduceAdd, Nat.reduceMul, Nat.reduceSub, Nat.add_zero, Nat.zero_add, Int.reduceEq, Int.reduceLT, kdRange, a1, a2, a3, Bool.or_false, Bool.or_true, Bool.false_or, Bool.true_or] <;> rfl
        refine AWP.cond_split rfl (fun h64 => ?_) fun h64 => ?_
        · refine AWP.stepR [2] fun K hK => ?_
          simp only [go_sem, Nat.reduceEqDiff, Nat.reduceLT, Nat.reduceAdd, Nat.reduceMul, Nat.reduceSub, Nat.add_zero, Nat.zero_add, Int.reduceEq, Int.reduceLT]
          refine hK _ _ _ (by simp only [go_sem, Nat.reduceEqDiff, Nat.reduceLT, Nat.reduceAdd, Nat.reduceMul, Nat.reduceSub, Nat.add_zero, Nat.zero_add, Int.reduceEq, Int.reduceLT]; rfl) ?_; clear hK
          refine AWP.ret (InBlock.ret (Then.ret (Then.ret (InBlock.ret (Then.ret (?_))))))
          refine Fin.plain (.inr rfl) rfl rfl hok hgg ⟨?_, rfl⟩
          have hc : kdCode x = 2 := by rw [kdCode, if_neg h46', if_pos h64]
          rw [partsF, if_pos hall, hf, firstF, hc, if_neg (by decide)]
        · refine AWP.skip ?_
          refine AWP.lastR fun K hK => ?_
          simp only [go_sem, Nat.reduceEqDiff, Nat.reduceLT, Nat.reduceAdd, Nat.reduceMul, Nat.reduceSub, Nat.add_zero, Nat.zero_add, Int.reduceEq, Int.reduceLT]
          refine hK _ _ ?_; clear hK
          refine ⟨n - 1, by omega, hgl.trans hg4, by omega, ?_, ?_⟩ -- ROUND
          · simp only [go_sem, Nat.reduceEqDiff, Nat.reduceLT, Nat.reduceAdd, Nat.reduceMul, Nat.reduceSub, Nat.add_zero, Nat.zero_add, Int.reduceEq, Int.reduceLT]
            rw [i64w (by omega) (by omega), show ((ks.length - n : Nat) : Int) + 1 = ((ks.length - (n - 1) : Nat) : Int) by omega]
          · have hc : kdCode x = 0 := by rw [kdCode, if_neg h46', h64]; rfl
            rw [hf, firstF, if_pos hc, show ks.length - (n - 1) = ks.length - n + 1 by omega]
    · refine AWP.exit (Then.exit (Then.exit (InBlock.same ?_)))
      refine AWP.stepR [2] fun K hK => ?_
      simp only [go_sem, Nat.reduceEqDiff, Nat.reduceLT, Nat.reduceAdd, Nat.reduceMul, Nat.reduceSub, Nat.add_zero, Nat.zero_add, Int.reduceEq, Int.reduceLT]
      refine hK _ _ _ (by simp only [go_sem, Nat.reduceEqDiff, Nat.reduceLT, Nat.reduceAdd, Nat.reduceMul, Nat.reduceSub, Nat.add_zero, Nat.zero_add, Int.reduceEq, Int.reduceLT]; rfl) ?_; clear hK
      refine AWP.ret (?_)
      refine Fin.plain (.inr rfl) rfl rfl hok (hg1.trans hgl) ⟨?_, rfl⟩
      have hn0 : n = 0 := by simp at h35; omega
      rw [partsF, if_pos hall, hf, hn0, Nat.sub_zero, List.drop_length, firstF]

/-! ### no more than is waited for -/
def prLt (p : Pr) : Bool := !(decide ((p.key.length : Int) > 300) || decide ((p.val.length : Int) > 300))
def kdLt (k : Kd) : Bool := !decide ((k.key.length : Int) > 300)
def numLt (n : Node) : Bool := !(decide ((n.pairs.length : Int) > 40) || decide ((n.kids.length : Int) > 60))
def lightN (n : Node) : Bool := numLt n && (n.pairs.all prLt && n.kids.all kdLt)
def lightV (n : Node) : Int := if lightN n then 0 else 1
theorem Lt18.of {n : Node} (h : lightN n = true) : Lt18 n := by
  simp only [lightN, numLt, Bool.and_eq_true, Bool.not_eq_true', Bool.or_eq_false_iff, decide_eq_false_iff_not, List.all_eq_true, prLt, kdLt] at h
  obtain ⟨⟨h1, h2⟩, h3, h4⟩ := h
  exact ⟨by omega, by omega, fun p hp => by have := (h3 p hp).1; omega, fun p hp => by have := (h3 p hp).2; omega, fun p hp => by have := h4 p hp; omega⟩

theorem light20_spec (n : Node) (vp vk : Value) (M : Mem) (hok : Ok M) (hr : NodeR M n vp vk) : ∃ r M', ACall Try.prog 20 #[.agg (nodeC n.leaf vp vk).toArray] M r M' ∧ r = .int .i64 (lightV n) ∧ M' = M := by
  refine ACall.fin (args := [.agg (nodeC n.leaf vp vk).toArray]) (k := 55) Try.func20 rfl rfl rfl (Nat.le_of_ble_eq_true rfl) ?_
  refine AWP.stepR [1] fun K hK => ?_
  simp only [go_sem, Nat.reduceEqDiff, Nat.reduceLT, Nat.reduceAdd, Nat.reduceMul, Nat.reduceSub, Nat.add_zero, Nat.zero_add, Int.reduceEq, Int.reduceLT]
  refine hK _ _ _ (by simp only [go_sem, Nat.reduceEqDiff, Nat.reduceLT, Nat.reduceAdd, Nat.reduceMul, Nat.reduceSub, Nat.add_zero, Nat.zero_add, Int.reduceEq, Int.reduceLT]; rfl) ?_; clear hK
  have hlt1 : M.next < (M.bump 1).next := Nat.lt_succ_self _
  obtain ⟨hg1, hh1⟩ := mk_put ((Grew.refl M).bump 1) (Nat.le_refl _) hlt1 ⟨nodeC n.leaf vp vk, 44, true⟩
  change AWP _ _ _ ⟨_, (M.bump 1).put M.next ⟨nodeC n.leaf vp vk, 44, true⟩⟩ _
  generalize hM1 : (M.bump 1).put M.next ⟨nodeC n.leaf vp vk, 44, true⟩ = M1 at hg1 hh1
  have hr := hr.grew hg1
  refine AWP.seq ?_
  refine AWP.stepX [1, 14] [(1, .pointer (some ⟨M.next, 0, none⟩)), (14, .bool (!numLt n))] M1 (fun K hK => ?_) ?_
  · cases h40 : decide ((n.pairs.length : Int) > 40) <;> simp only [go_sem, Nat.reduceEqDiff, Nat.reduceLT, Nat.reduceAdd, Nat.reduceMul, Nat.reduceSub, Nat.add_zero, Nat.zero_add, Int.reduceEq, Int.reduceLT, ld_41, ld_42, hh1.ld, nodeC, hr.pairs.len es_41, hr.kids.len es_42, h40] <;> refine hK _ ?_ <;> simp only [go_sem, Nat.reduceEqDiff, Nat.reduceLT, Nat.reduceAdd, Nat.reduceMul, Nat.reduceSub, Nat.add_zero, Nat.zero_add, Int.reduceEq, Int.reduceLT, numLt, h40, Bool.or_false, Bool.or_true, Bool.false_or, Bool.true_or, Bool.not_not] <;> rfl
  refine AWP.cond_split rfl (fun h14 => ?_) fun h14 => ?_
  · refine AWP.stepR [2] fun K hK => ?_
    simp only [go_sem, Nat.reduceEqDiff, Nat.reduceLT, Nat.reduceAdd, Nat.reduceMul, Nat.reduceSub, Nat.add_zero, Nat.zero_add, Int.reduceEq, Int.reduceLT]
    refine hK _ _ _ (by simp only [go_sem, Nat.reduceEqDiff, Nat.reduceLT, Nat.reduceAdd, Nat.reduceMul, Nat.reduceSub, Nat.add_zero, Nat.zero_add, Int.reduceEq, Int.reduceLT]; rfl) ?_; clear hK
    refine AWP.ret (Then.ret (?_))
    refine Fin.plain (.inr rfl) rfl rfl hok hg1 ⟨?_, rfl⟩
    rw [lightV, lightN, show numLt n = false by simpa using h14]; rfl
  · have h14 : numLt n = true := by simpa using h14
    have hlp : n.pairs.length ≤ 1000 := by simp [numLt] at h14; omega
    have hlk : n.kids.length ≤ 1000 := by simp [numLt] at h14; omega
    have hlight : lightV n = if n.pairs.all prLt && n.kids.all kdLt then 0 else 1 := by rw [lightV, lightN, h14, Bool.true_and]
    clear h14
    obtain ⟨lf, ps, ks⟩ := n
    simp only at hlp hlk hh1 hlight
    refine AWP.skip ?_
    refine AWP.seq ?_
    refine AWP.stepR [1, 3] fun K hK => ?_
    simp only [go_sem, Nat.reduceEqDiff, Nat.reduceLT, Nat.reduceAdd, Nat.reduceMul, Nat.reduceSub, Nat.add_zero, Nat.zero_add, Int.reduceEq, Int.reduceLT]
    refine hK _ _ _ (by simp only [go_sem, Nat.reduceEqDiff, Nat.reduceLT, Nat.reduceAdd, Nat.reduceMul, Nat.reduceSub, Nat.add_zero, Nat.zero_add, Int.reduceEq, Int.reduceLT]; rfl) ?_; clear hK
    refine AWP.block ?_ -- b0
    refine AWP.loopK [1, 3] (fun n e M0 => M0 = M1 ∧ n ≤ ps.length ∧ e = [(1, .pointer (some ⟨M.next, 0, none⟩)), (3, .int .i64 ((ps.length - n : Nat) : Int))] ∧ (ps.take (ps.length - n)).all prLt = true) ps.length ?_ fun n e M0 hI => ?_ -- LOOP
    · simp only [go_sem, Nat.reduceEqDiff, Nat.reduceLT, Nat.reduceAdd, Nat.reduceMul, Nat.reduceSub, Nat.add_zero, Nat.zero_add, Int.reduceEq, Int.reduceLT, true_and, Nat.le_refl]
      simp
    obtain ⟨rfl, hn, rfl, hall⟩ := hI
    refine AWP.seq ?_
    refine AWP.stepR [1, 3, 19] fun K hK => ?_
    simp only [go_sem, Nat.reduceEqDiff, Nat.reduceLT, Nat.reduceAdd, Nat.reduceMul, Nat.reduceSub, Nat.add_zero, Nat.zero_add, Int.reduceEq, Int.reduceLT, ld_41, hh1.ld, nodeC, hr.pairs.len es_41]
    refine hK _ _ _ (by simp only [go_sem, Nat.reduceEqDiff, Nat.reduceLT, Nat.reduceAdd, Nat.reduceMul, Nat.reduceSub, Nat.add_zero, Nat.zero_add, Int.reduceEq, Int.reduceLT]; rfl) ?_; clear hK
    refine AWP.cond_split rfl (fun h19 => ?_) fun h19 => ?_
    · have hlt : ps.length - n < ps.length := by simpa using h19
      obtain ⟨b, q, ha, hd⟩ := pr_at hr.pairs hlt
      obtain ⟨hd1, hd2, _⟩ := hd M0 (Grew.refl _)
      have hk := hr.pk _ (List.getElem_mem hlt)
      have hv := hr.pv _ (List.getElem_mem hlt)
      have hst := List.take_succ_eq_append_getElem hlt
      have hmem := List.getElem_mem hlt
      simp only at ha hd1 hd2 hk hv hst
      generalize ps[ps.length - n] = x at hd1 hd2 hk hv hst hmem
      refine AWP.skip ?_
      refine AWP.seq ?_
      refine AWP.block ?_ -- b1
      refine AWP.stepX [1, 3, 39] [(1, .pointer (some ⟨M.next, 0, none⟩)), (3, .int .i64 ((ps.length - n : Nat) : Int)), (39, .bool (!prLt x))] M0 (fun K hK => ?_) ?_
      · cases h64 : decide ((x.key.length : Int) > 300) <;> simp only [go_sem, Nat.reduceEqDiff, Nat.reduceLT, Nat.reduceAdd, Nat.reduceMul, Nat.reduceSub, Nat.add_zero, Nat.zero_add, Int.reduceEq, Int.reduceLT, ld_41, hh1.ld, nodeC, ha, hd1, hd2, ld_23, hk.len es_23, hv.len es_23, h64] <;> refine hK _ ?_ <;> simp only [go_sem, Nat.reduceEqDiff, Nat.reduceLT, Nat.reduceAdd, Nat.reduceMul, Nat.reduceSub, Nat.add_zero, Nat.zero_add, Int.reduceEq, Int.reduceLT, prLt, h64, Bool.or_false, Bool.or_true, Bool.false_or, Bool.true_or, Bool.not_not] <;> rfl
      refine AWP.cond_split rfl (fun h39 => ?_) fun h39 => ?_
      · refine AWP.stepR [2] fun K hK => ?_
        simp only [go_sem, Nat.reduceEqDiff, Nat.reduceLT, Nat.reduceAdd, Nat.reduceMul, Nat.reduceSub, Nat.add_zero, Nat.zero_add, Int.reduceEq, Int.reduceLT]
        refine hK _ _ _ (by simp only [go_sem, Nat.reduceEqDiff, Nat.reduceLT, Nat.reduceAdd, Nat.reduceMul, Nat.reduceSub, Nat.add_zero, Nat.zero_add, Int.reduceEq, Int.reduceLT]; rfl) ?_; clear hK
        refine AWP.ret (InBlock.ret (Then.ret (Then.ret (InBlock.ret (Then.ret (?_))))))
        refine Fin.plain (.inr rfl) rfl rfl hok hg1 ⟨?_, rfl⟩
        rw [hlight, if_neg]
        simp only [Bool.and_eq_true, List.all_eq_true]
        intro hh
        rw [hh.1 x hmem] at h39
        cases h39
      · refine AWP.skip ?_
        refine AWP.lastR fun K hK => ?_
        simp only [go_sem, Nat.reduceEqDiff, Nat.reduceLT, Nat.reduceAdd, Nat.reduceMul, Nat.reduceSub, Nat.add_zero, Nat.zero_add, Int.reduceEq, Int.reduceLT]
        refine hK _ _ ?_; clear hK
        refine ⟨n - 1, by omega, rfl, by omega, ?_, ?_⟩ -- ROUND
        · simp only [go_sem, Nat.reduceEqDiff, Nat.reduceLT, Nat.reduceAdd, Nat.reduceMul, Nat.reduceSub, Nat.add_zero, Nat.zero_add, Int.reduceEq, Int.reduceLT]
          rw [i64w (by omega) (by omega), show ((ps.length - n : Nat) : Int) + 1 = ((ps.length - (n - 1) : Nat) : Int) by omega]
        · rw [show ps.length - (n - 1) = ps.length - n + 1 by omega, hst, List.all_append, hall]
          simpa using h39
    · refine AWP.exit (Then.exit (Then.exit (InBlock.same ?_)))
      have hn0 : n = 0 := by simp at h19; omega
      subst hn0
      rw [Nat.sub_zero, List.take_length] at hall
      rw [hall, Bool.true_and] at hlight
      refine AWP.seq ?_
      refine AWP.stepR [1, 4] fun K hK => ?_
      simp only [go_sem, Nat.reduceEqDiff, Nat.reduceLT, Nat.reduceAdd, Nat.reduceMul, Nat.reduceSub, Nat.add_zero, Nat.zero_add, Int.reduceEq, Int.reduceLT]
      refine hK _ _ _ (by simp only [go_sem, Nat.reduceEqDiff, Nat.reduceLT, Nat.reduceAdd, Nat.reduceMul, Nat.reduceSub, Nat.add_zero, Nat.zero_add, Int.reduceEq, Int.reduceLT]; rfl) ?_; clear hK
      refine AWP.block ?_ -- b2
      refine AWP.loopK [1, 4] (fun n e M2 => M2 = M0 ∧ n ≤ ks.length ∧ e = [(1, .pointer (some ⟨M.next, 0, none⟩)), (4, .int .i64 ((ks.length - n : Nat) : Int))] ∧ (ks.take (ks.length - n)).all kdLt = true) ks.length ?_ fun n e M2 hI => ?_ -- LOOP
      · simp only [go_sem, Nat.reduceEqDiff, Nat.reduceLT, Nat.reduceAdd, Nat.reduceMul, Nat.reduceSub, Nat.add_zero, Nat.zero_add, Int.reduceEq, Int.reduceLT, true_and, Nat.le_refl]
        simp
      obtain ⟨rfl, hn, rfl, hall2⟩ := hI
      refine AWP.seq ?_
      refine AWP.stepR [1, 4, 44] fun K hK => ?_
      simp only [go_sem, Nat.reduceEqDiff, Nat.reduceLT, Nat.reduceAdd, Nat.reduceMul, Nat.reduceSub, Nat.add_zero, Nat.zero_add, Int.reduceEq, Int.reduceLT, ld_42, hh1.ld, nodeC, hr.kids.len es_42]
      refine hK _ _ _ (by simp only [go_sem, Nat.reduceEqDiff, Nat.reduceLT, Nat.reduceAdd, Nat.reduceMul, Nat.reduceSub, Nat.add_zero, Nat.zero_add, Int.reduceEq, Int.reduceLT]; rfl) ?_; clear hK
      refine AWP.cond_split rfl (fun h44 => ?_) fun h44 => ?_
      · have hlt : ks.length - n < ks.length := by simpa using h44
        obtain ⟨b, q, ha, hd⟩ := kd_at hr.kids hlt
        obtain ⟨hd1, _⟩ := hd M2 (Grew.refl _)
        have hk := hr.kk _ (List.getElem_mem hlt)
        have hst := List.take_succ_eq_append_getElem hlt
        have hmem := List.getElem_mem hlt
        simp only at ha hd1 hk hst
        generalize ks[ks.length - n] = x at hd1 hk hst hmem
        refine AWP.skip ?_
        refine AWP.seq ?_
        refine AWP.block ?_ -- b3
        refine AWP.stepR [1, 4, 54] fun K hK => ?_
        simp only [go_sem, Nat.reduceEqDiff, Nat.reduceLT, Nat.reduceAdd, Nat.reduceMul, Nat.reduceSub, Nat.add_zero, Nat.zero_add, Int.reduceEq, Int.reduceLT, ld_42, hh1.ld, nodeC, ha, hd1, ld_23, hk.len es_23]
        refine hK _ _ _ (by simp only [go_sem, Nat.reduceEqDiff, Nat.reduceLT, Nat.reduceAdd, Nat.reduceMul, Nat.reduceSub, Nat.add_zero, Nat.zero_add, Int.reduceEq, Int.reduceLT]; rfl) ?_; clear hK
        refine AWP.cond_split rfl (fun h54 => ?_) fun h54 => ?_
        · refine AWP.stepR [2] fun K hK => ?_
          simp only [go_sem, Nat.reduceEqDiff, Nat.reduceLT, Nat.reduceAdd, Nat.reduceMul, Nat.reduceSub, Nat.add_zero, Nat.zero_add, Int.reduceEq, Int.reduceLT]
          refine hK _ _ _ (by simp only [go_sem, Nat.reduceEqDiff, Nat.reduceLT, Nat.reduceAdd, Nat.reduceMul, Nat.reduceSub, Nat.add_zero, Nat.zero_add, Int.reduceEq, Int.reduceLT]; rfl) ?_; clear hK
          refine AWP.ret (InBlock.ret (Then.ret (Then.ret (InBlock.ret (Then.ret (?_))))))
          refine Fin.plain (.inr rfl) rfl rfl hok hg1 ⟨?_, rfl⟩
          rw [hlight, if_neg]
          simp only [List.all_eq_true]
          intro hh
          have := hh x hmem
          rw [kdLt, h54] at this
          cases this
        · refine AWP.skip ?_
          refine AWP.lastR fun K hK => ?_
          simp only [go_sem, Nat.reduceEqDiff, Nat.reduceLT, Nat.reduceAdd, Nat.reduceMul, Nat.reduceSub, Nat.add_zero, Nat.zero_add, Int.reduceEq, Int.reduceLT]
          refine hK _ _ ?_; clear hK
          refine ⟨n - 1, by omega, rfl, by omega, ?_, ?_⟩ -- ROUND
          · simp only [go_sem, Nat.reduceEqDiff, Nat.reduceLT, Nat.reduceAdd, Nat.reduceMul, Nat.reduceSub, Nat.add_zero, Nat.zero_add, Int.reduceEq, Int.reduceLT]
            rw [i64w (by omega) (by omega), show ((ks.length - n : Nat) : Int) + 1 = ((ks.length - (n - 1) : Nat) : Int) by omega]
          · rw [show ks.length - (n - 1) = ks.length - n + 1 by omega, hst, List.all_append, hall2]
            simp [kdLt] at h54 ⊢
            exact h54
      · refine AWP.exit (Then.exit (Then.exit (InBlock.same ?_)))
        refine AWP.stepR [2] fun K hK => ?_
        simp only [go_sem, Nat.reduceEqDiff, Nat.reduceLT, Nat.reduceAdd, Nat.reduceMul, Nat.reduceSub, Nat.add_zero, Nat.zero_add, Int.reduceEq, Int.reduceLT]
        refine hK _ _ _ (by simp only [go_sem, Nat.reduceEqDiff, Nat.reduceLT, Nat.reduceAdd, Nat.reduceMul, Nat.reduceSub, Nat.add_zero, Nat.zero_add, Int.reduceEq, Int.reduceLT]; rfl) ?_; clear hK
        refine AWP.ret (?_)
        refine Fin.plain (.inr rfl) rfl rfl hok hg1 ⟨?_, rfl⟩
        have hn0 : n = 0 := by simp at h44; omega
        rw [hn0, Nat.sub_zero, List.take_length] at hall2
        rw [hlight, hall2, if_pos rfl]
end Go.Proofs.Ythheaehpnleiaaa.AX

/- What is wrong with a node, by the document. -/
namespace Go.Proofs.Ythheaehpnleiaaa.AX
open Go Go.Proofs
set_option maxRecDepth 100000
set_option linter.unusedVariables false
set_option linter.unusedSimpArgs false

/-- rows of bytes that rise -/
def risingB : List (List Int) → Bool
  | [] => true
  | x :: l => (match l with | [] => true | y :: _ => lessB x y) && risingB l
theorem risingB_short {l : List (List Int)} (h : l.length ≤ 1) : risingB l = true := by
  match l, h with
  | [], _ => rfl
  | [x], _ => rfl
theorem risingB_two (x y : List Int) (l : List (List Int)) : risingB (x :: y :: l) = (lessB x y && risingB (y :: l)) := rfl
theorem risingB_at {l : List (List Int)} {i : Nat} (h1 : 1 ≤ i) (h : i < l.length) : risingB (l.drop (i - 1)) = (lessB (l[i - 1]'(by omega)) l[i] && risingB (l.drop i)) := by
  rw [List.drop_eq_getElem_cons (show i - 1 < l.length by omega), show i - 1 + 1 = i by omega, List.drop_eq_getElem_cons h, risingB_two]
def formOk (n : Node) : Bool := (n.leaf && decide ((n.kids.length : Int) > 0)) || (!n.leaf && decide ((n.pairs.length : Int) > 0))
def checkN (n : Node) : Int := if formOk n = true then 4 else if partsF n = 0 then (if risingB (n.pairs.map Pr.key) && risingB (n.kids.map Kd.key) then (if sizeF n > 496 then 16 else 0) else 4) else partsF n

theorem check27_spec (n : Node) (vp vk : Value) (M : Mem) (hok : Ok M) (hr : NodeR M n vp vk) (hL : Lt18 n) : ∃ r M', ACall Try.prog 27 #[.agg (nodeC n.leaf vp vk).toArray] M r M' ∧ r = .int .i64 (checkN n) ∧ M' = M := by
  refine ACall.fin (args := [.agg (nodeC n.leaf vp vk).toArray]) (k := 77) Try.func27 rfl rfl rfl (Nat.le_of_ble_eq_true rfl) ?_
  refine AWP.stepR [1] fun K hK => ?_
  simp only [go_sem, Nat.reduceEqDiff, Nat.reduceLT, Nat.reduceAdd, Nat.reduceMul, Nat.reduceSub, Nat.add_zero, Nat.zero_add, Int.reduceEq, Int.reduceLT]
  refine hK _ _ _ (by simp only [go_sem, Nat.reduceEqDiff, Nat.reduceLT, Nat.reduceAdd, Nat.reduceMul, Nat.reduceSub, Nat.add_zero, Nat.zero_add, Int.reduceEq, Int.reduceLT]; rfl) ?_; clear hK
  have hlt1 : M.next < (M.bump 1).next := Nat.lt_succ_self _
  obtain ⟨hg1, hh1⟩ := mk_put ((Grew.refl M).bump 1) (Nat.le_refl _) hlt1 ⟨nodeC n.leaf vp vk, 44, true⟩
  change AWP _ _ _ ⟨_, (M.bump 1).put M.next ⟨nodeC n.leaf vp vk, 44, true⟩⟩ _
  generalize hM1 : (M.bump 1).put M.next ⟨nodeC n.leaf vp vk, 44, true⟩ = M1 at hg1 hh1
  have hr := hr.grew hg1
  have hlp := hL.pairs; have hlk := hL.kids
  refine AWP.seq ?_
  refine AWP.stepX [1, 24] [(1, .pointer (some ⟨M.next, 0, none⟩)), (24, .bool (formOk n))] M1 (fun K hK => ?_) ?_
  · cases hlf : n.leaf <;> cases hk0 : decide ((n.kids.length : Int) > 0) <;> simp only [go_sem, Nat.reduceEqDiff, Nat.reduceLT, Nat.reduceAdd, Nat.reduceMul, Nat.reduceSub, Nat.add_zero, Nat.zero_add, Int.reduceEq, Int.reduceLT, ld_4, ld_41, ld_42, hh1.ld, nodeC, hr.pairs.len es_41, hr.kids.len es_42, hlf, hk0] <;> refine hK _ ?_ <;> simp only [go_sem, Nat.reduceEqDiff, Nat.reduceLT, Nat.reduceAdd, Nat.reduceMul, Nat.reduceSub, Nat.add_zero, Nat.zero_add, Int.reduceEq, Int.reduceLT, formOk, hlf, hk0, Bool.or_false, Bool.or_true, Bool.false_or, Bool.true_or, Bool.not_false, Bool.not_true, Bool.true_and, Bool.false_and] <;> rfl
  refine AWP.cond_split rfl (fun h24 => ?_) fun h24 => ?_
  · refine AWP.stepR [2] fun K hK => ?_
    simp only [go_sem, Nat.reduceEqDiff, Nat.reduceLT, Nat.reduceAdd, Nat.reduceMul, Nat.reduceSub, Nat.add_zero, Nat.zero_add, Int.reduceEq, Int.reduceLT]
    refine hK _ _ _ (by simp only [go_sem, Nat.reduceEqDiff, Nat.reduceLT, Nat.reduceAdd, Nat.reduceMul, Nat.reduceSub, Nat.add_zero, Nat.zero_add, Int.reduceEq, Int.reduceLT]; rfl) ?_; clear hK
    refine AWP.ret (Then.ret (?_))
    exact Fin.plain (.inr rfl) rfl rfl hok hg1 ⟨by rw [checkN, if_pos h24], rfl⟩
  · refine AWP.skip ?_
    refine AWP.seq ?_
    obtain ⟨r3, M3, hc3, hr3, hM3⟩ := parts76_spec n vp vk M1 (hg1.ok hok) hr (by omega) (by omega)
    rw [hr3, hM3] at hc3
    refine AWP.stepR [1, 3] fun K hK => ?_
    simp only [go_sem, Nat.reduceEqDiff, Nat.reduceLT, Nat.reduceAdd, Nat.reduceMul, Nat.reduceSub, Nat.add_zero, Nat.zero_add, Int.reduceEq, Int.reduceLT, ld_44, hh1.lda (nodeC_len ..)]
    refine ⟨_, _, hc3, ?_⟩
    refine hK _ _ _ (by simp only [go_sem, Nat.reduceEqDiff, Nat.reduceLT, Nat.reduceAdd, Nat.reduceMul, Nat.reduceSub, Nat.add_zero, Nat.zero_add, Int.reduceEq, Int.reduceLT]; rfl) ?_; clear hK
    refine AWP.stepR [1, 3, 28] fun K hK => ?_
    simp only [go_sem, Nat.reduceEqDiff, Nat.reduceLT, Nat.reduceAdd, Nat.reduceMul, Nat.reduceSub, Nat.add_zero, Nat.zero_add, Int.reduceEq, Int.reduceLT]
    refine hK _ _ _ (by simp only [go_sem, Nat.reduceEqDiff, Nat.reduceLT, Nat.reduceAdd, Nat.reduceMul, Nat.reduceSub, Nat.add_zero, Nat.zero_add, Int.reduceEq, Int.reduceLT]; rfl) ?_; clear hK
    refine AWP.cond_split rfl (fun h28 => ?_) fun h28 => ?_
    · refine AWP.stepR [2] fun K hK => ?_
      simp only [go_sem, Nat.reduceEqDiff, Nat.reduceLT, Nat.reduceAdd, Nat.reduceMul, Nat.reduceSub, Nat.add_zero, Nat.zero_add, Int.reduceEq, Int.reduceLT]
      refine hK _ _ _ (by simp only [go_sem, Nat.reduceEqDiff, Nat.reduceLT, Nat.reduceAdd, Nat.reduceMul, Nat.reduceSub, Nat.add_zero, Nat.zero_add, Int.reduceEq, Int.reduceLT]; rfl) ?_; clear hK
      refine AWP.ret (Then.ret (?_))
      exact Fin.plain (.inr rfl) rfl rfl hok hg1 ⟨by rw [checkN, if_neg (by simpa using h24), if_neg (by simpa using h28)], rfl⟩
    · have hchk : checkN n = if risingB (n.pairs.map Pr.key) && risingB (n.kids.map Kd.key) then (if sizeF n > 496 then 16 else 0) else 4 := by
        rw [checkN, if_neg (by simpa using h24), if_pos (by simpa using h28)]
      refine AWP.skip ?_
      refine AWP.seq ?_
      refine AWP.stepR [1, 4] fun K hK => ?_
      simp only [go_sem, Nat.reduceEqDiff, Nat.reduceLT, Nat.reduceAdd, Nat.reduceMul, Nat.reduceSub, Nat.add_zero, Nat.zero_add, Int.reduceEq, Int.reduceLT]
      refine hK _ _ _ (by simp only [go_sem, Nat.reduceEqDiff, Nat.reduceLT, Nat.reduceAdd, Nat.reduceMul, Nat.reduceSub, Nat.add_zero, Nat.zero_add, Int.reduceEq, Int.reduceLT]; rfl) ?_; clear hK
      refine AWP.block ?_ -- b0
      refine AWP.loopK [1, 4] (fun c e M0 => M0 = M1 ∧ ∃ i, 1 ≤ i ∧ i ≤ n.pairs.length + 1 ∧ c = n.pairs.length + 1 - i ∧ e = [(1, .pointer (some ⟨M.next, 0, none⟩)), (4, .int .i64 (i : Nat))] ∧ risingB (n.pairs.map Pr.key) = risingB ((n.pairs.map Pr.key).drop (i - 1))) n.pairs.length ?_ fun c e M0 hI => ?_ -- LOOP
      · simp only [go_sem, Nat.reduceEqDiff, Nat.reduceLT, Nat.reduceAdd, Nat.reduceMul, Nat.reduceSub, Nat.add_zero, Nat.zero_add, Int.reduceEq, Int.reduceLT, true_and]
        exact ⟨1, by omega, by omega, by omega, rfl, by simp⟩
      obtain ⟨rfl, i, hi1, hi2, hc, rfl, hrise⟩ := hI
      refine AWP.seq ?_
      refine AWP.stepR [1, 4, 34] fun K hK => ?_
      simp only [go_sem, Nat.reduceEqDiff, Nat.reduceLT, Nat.reduceAdd, Nat.reduceMul, Nat.reduceSub, Nat.add_zero, Nat.zero_add, Int.reduceEq, Int.reduceLT, ld_41, hh1.ld, nodeC, hr.pairs.len es_41]
      refine hK _ _ _ (by simp only [go_sem, Nat.reduceEqDiff, Nat.reduceLT, Nat.reduceAdd, Nat.reduceMul, Nat.reduceSub, Nat.add_zero, Nat.zero_add, Int.reduceEq, Int.reduceLT]; rfl) ?_; clear hK
      refine AWP.cond_split rfl (fun h34 => ?_) fun h34 => ?_
      · have hlt : i < n.pairs.length := by simpa using h34
        obtain ⟨b, q, ha, hd⟩ := pr_at hr.pairs hlt
        obtain ⟨hd1, _, _⟩ := hd M0 (Grew.refl _)
        obtain ⟨b', q', ha', hd'⟩ := pr_at hr.pairs (show i - 1 < n.pairs.length by omega)
        obtain ⟨hd1', _, _⟩ := hd' M0 (Grew.refl _)
        have hk := hr.pk _ (List.getElem_mem hlt)
        have hk' := hr.pk _ (List.getElem_mem (show i - 1 < n.pairs.length by omega))
        have hb' := hL.pk _ (List.getElem_mem (show i - 1 < n.pairs.length by omega))
        have hat := risingB_at (l := n.pairs.map Pr.key) hi1 (by simpa using hlt)
        simp only [List.getElem_map] at hat
        generalize n.pairs[i] = x at hd1 hk hat
        generalize n.pairs[i - 1] = y at hd1' hk' hat hb'
        obtain ⟨r5, M5, hc5, hr5, hM5⟩ := less77_spec y.kv x.kv y.key x.key M0 (hg1.ok hok) hk' hk (by omega)
        rw [hr5, hM5] at hc5
        refine AWP.skip ?_
        refine AWP.seq ?_
        refine AWP.block ?_ -- b1
        refine AWP.stepD hmo [0, 1, 2, 3, 4, 5, 6, 7, 8, 9, 10, 11, 12, 13, 14] [0, 1, 0, 4, 15, 31, 63, 0, 128, 0, 896, 1920, 3968, 8191, 16383] [] [] (by kernel_rfl) [1, 4, 51] fun K hK => ?_
        simp only [go_sem, Nat.reduceEqDiff, Nat.reduceLT, Nat.reduceAdd, Nat.reduceMul, Nat.reduceSub, Nat.add_zero, Nat.zero_add, Int.reduceEq, Int.reduceLT, ld_41, hh1.ld, nodeC, i64w (n := ((i - 1 : Nat) : Int)) (by omega) (by omega), show (i : Int) - 1 = ((i - 1 : Nat) : Int) by omega, ha, ha', hd1, hd1', ld_23]
        refine ⟨_, _, hc5, ?_⟩
        refine hK _ _ _ (by simp only [go_sem, Nat.reduceEqDiff, Nat.reduceLT, Nat.reduceAdd, Nat.reduceMul, Nat.reduceSub, Nat.add_zero, Nat.zero_add, Int.reduceEq, Int.reduceLT]; rfl) ?_; clear hK
        refine AWP.cond_split rfl (fun h51 => ?_) fun h51 => ?_
        · refine AWP.stepR [2] fun K hK => ?_
          simp only [go_sem, Nat.reduceEqDiff, Nat.reduceLT, Nat.reduceAdd, Nat.reduceMul, Nat.reduceSub, Nat.add_zero, Nat.zero_add, Int.reduceEq, Int.reduceLT]
          refine hK _ _ _ (by simp only [go_sem, Nat.reduceEqDiff, Nat.reduceLT, Nat.reduceAdd, Nat.reduceMul, Nat.reduceSub, Nat.add_zero, Nat.zero_add, Int.reduceEq, Int.reduceLT]; rfl) ?_; clear hK
          refine AWP.ret (InBlock.ret (Then.ret (Then.ret (InBlock.ret (Then.ret (?_))))))
          refine Fin.plain (.inr rfl) rfl rfl hok hg1 ⟨?_, rfl⟩
          rw [hchk, hrise, hat, show lessB y.key x.key = false by simpa using h51]; simp
        · refine AWP.skip ?_
          refine AWP.lastR fun K hK => ?_
          simp only [go_sem, Nat.reduceEqDiff, Nat.reduceLT, Nat.reduceAdd, Nat.reduceMul, Nat.reduceSub, Nat.add_zero, Nat.zero_add, Int.reduceEq, Int.reduceLT]
          refine hK _ _ ?_; clear hK
          refine ⟨c - 1, by omega, rfl, i + 1, by omega, by omega, by omega, ?_, ?_⟩ -- ROUND
          · simp only [go_sem, Nat.reduceEqDiff, Nat.reduceLT, Nat.reduceAdd, Nat.reduceMul, Nat.reduceSub, Nat.add_zero, Nat.zero_add, Int.reduceEq, Int.reduceLT]
            rw [i64w (by omega) (by omega)]; rfl
          · rw [hrise, hat, show lessB y.key x.key = true by simpa using h51, Bool.true_and, Nat.add_sub_cancel]
      · refine AWP.exit (Then.exit (Then.exit (InBlock.same ?_)))
        have hge : n.pairs.length ≤ i := by simpa using h34
        rw [risingB_short (l := (n.pairs.map Pr.key).drop (i - 1)) (by simp; omega)] at hrise
        rw [hrise, Bool.true_and] at hchk
        refine AWP.seq ?_
        refine AWP.stepR [1, 5] fun K hK => ?_
        simp only [go_sem, Nat.reduceEqDiff, Nat.reduceLT, Nat.reduceAdd, Nat.reduceMul, Nat.reduceSub, Nat.add_zero, Nat.zero_add, Int.reduceEq, Int.reduceLT]
        refine hK _ _ _ (by simp only [go_sem, Nat.reduceEqDiff, Nat.reduceLT, Nat.reduceAdd, Nat.reduceMul, Nat.reduceSub, Nat.add_zero, Nat.zero_add, Int.reduceEq, Int.reduceLT]; rfl) ?_; clear hK
        refine AWP.block ?_ -- b2
        refine AWP.loopK [1, 5] (fun c e M2 => M2 = M0 ∧ ∃ i, 1 ≤ i ∧ i ≤ n.kids.length + 1 ∧ c = n.kids.length + 1 - i ∧ e = [(1, .pointer (some ⟨M.next, 0, none⟩)), (5, .int .i64 (i : Nat))] ∧ risingB (n.kids.map Kd.key) = risingB ((n.kids.map Kd.key).drop (i - 1))) n.kids.length ?_ fun c e M2 hI => ?_ -- LOOP
        · simp only [go_sem, Nat.reduceEqDiff, Nat.reduceLT, Nat.reduceAdd, Nat.reduceMul, Nat.reduceSub, Nat.add_zero, Nat.zero_add, Int.reduceEq, Int.reduceLT, true_and]
          exact ⟨1, by omega, by omega, by omega, rfl, by simp⟩
        obtain ⟨rfl, j, hj1, hj2, hc, rfl, hrise2⟩ := hI
        refine AWP.seq ?_
        refine AWP.stepR [1, 5, 56] fun K hK => ?_
        simp only [go_sem, Nat.reduceEqDiff, Nat.reduceLT, Nat.reduceAdd, Nat.reduceMul, Nat.reduceSub, Nat.add_zero, Nat.zero_add, Int.reduceEq, Int.reduceLT, ld_42, hh1.ld, nodeC, hr.kids.len es_42]
        refine hK _ _ _ (by simp only [go_sem, Nat.reduceEqDiff, Nat.reduceLT, Nat.reduceAdd, Nat.reduceMul, Nat.reduceSub, Nat.add_zero, Nat.zero_add, Int.reduceEq, Int.reduceLT]; rfl) ?_; clear hK
        refine AWP.cond_split rfl (fun h56 => ?_) fun h56 => ?_
        · have hlt : j < n.kids.length := by simpa using h56
          obtain ⟨b, q, ha, hd⟩ := kd_at hr.kids hlt
          obtain ⟨hd1, _, _⟩ := hd M2 (Grew.refl _)
          obtain ⟨b', q', ha', hd'⟩ := kd_at hr.kids (show j - 1 < n.kids.length by omega)
          obtain ⟨hd1', _, _⟩ := hd' M2 (Grew.refl _)
          have hk := hr.kk _ (List.getElem_mem hlt)
          have hk' := hr.kk _ (List.getElem_mem (show j - 1 < n.kids.length by omega))
          have hb' := hL.kk _ (List.getElem_mem (show j - 1 < n.kids.length by omega))
          have hat := risingB_at (l := n.kids.map Kd.key) hj1 (by simpa using hlt)
          simp only [List.getElem_map] at hat
          generalize n.kids[j] = x at hd1 hk hat
          generalize n.kids[j - 1] = y at hd1' hk' hat hb'
          obtain ⟨r5, M5, hc5, hr5, hM5⟩ := less77_spec y.kv x.kv y.key x.key M2 (hg1.ok hok) hk' hk (by omega)
          rw [hr5, hM5] at hc5
          refine AWP.skip ?_
          refine AWP.seq ?_
          refine AWP.block ?_ -- b3
          refine AWP.stepD hmo [0, 1, 2, 3, 4, 5, 6, 7, 8, 9, 10, 11, 12, 13, 14] [0, 1, 0, 4, 15, 31, 63, 0, 128, 0, 896, 1920, 3968, 8191, 16383] [] [] (by kernel_rfl) [1, 5, 73] fun K hK => ?_
          simp only [go_sem, Nat.reduceEqDiff, Nat.reduceLT, Nat.reduceAdd, Nat.reduceMul, Nat.reduceSub, Nat.add_zero, Nat.zero_add, Int.reduceEq, Int.reduceLT, ld_42, hh1.ld, nodeC, i64w (n := ((j - 1 : Nat) : Int)) (by omega) (by omega), show (j : Int) - 1 = ((j - 1 : Nat) : Int) by omega, ha, ha', hd1, hd1', ld_23]
          refine ⟨_, _, hc5, ?_⟩
          refine hK _ _ _ (by simp only [go_sem, Nat.reduceEqDiff, Nat.reduceLT, Nat.reduceAdd, Nat.reduceMul, Nat.reduceSub, Nat.add_zero, Nat.zero_add, Int.reduceEq, Int.reduceLT]; rfl) ?_; clear hK
          refine AWP.cond_split rfl (fun h73 => ?_) fun h73 => ?_
          · refine AWP.stepR [2] fun K hK => ?_
            simp only [go_sem, Nat.reduceEqDiff, Nat.reduceLT, Nat.reduceAdd, Nat.reduceMul, Nat.reduceSub, Nat.add_zero, Nat.zero_add, Int.reduceEq, Int.reduceLT]
            refine hK _ _ _ (by simp only [go_sem, Nat.reduceEqDiff, Nat.reduceLT, Nat.reduceAdd, Nat.reduceMul, Nat.reduceSub, Nat.add_zero, Nat.zero_add, Int.reduceEq, Int.reduceLT]; rfl) ?_; clear hK
            refine AWP.ret (InBlock.ret (Then.ret (Then.ret (InBlock.ret (Then.ret (?_))))))
            refine Fin.plain (.inr rfl) rfl rfl hok hg1 ⟨?_, rfl⟩
            rw [hchk, hrise2, hat, show lessB y.key x.key = false by simpa using h73]; simp
          · refine AWP.skip ?_
            refine AWP.lastR fun K hK => ?_
            simp only [go_sem, Nat.reduceEqDiff, Nat.reduceLT, Nat.reduceAdd, Nat.reduceMul, Nat.reduceSub, Nat.add_zero, Nat.zero_add, Int.reduceEq, Int.reduceLT]
            refine hK _ _ ?_; clear hK
            refine ⟨c - 1, by omega, rfl, j + 1, by omega, by omega, by omega, ?_, ?_⟩ -- ROUND
            · simp only [go_sem, Nat.reduceEqDiff, Nat.reduceLT, Nat.reduceAdd, Nat.reduceMul, Nat.reduceSub, Nat.add_zero, Nat.zero_add, Int.reduceEq, Int.reduceLT]
              rw [i64w (by omega) (by omega)]; rfl
            · rw [hrise2, hat, show lessB y.key x.key = true by simpa using h73, Bool.true_and, Nat.add_sub_cancel]
        · refine AWP.exit (Then.exit (Then.exit (InBlock.same ?_)))
          have hge2 : n.kids.length ≤ j := by simpa using h56
          rw [risingB_short (l := (n.kids.map Kd.key).drop (j - 1)) (by simp; omega)] at hrise2
          rw [hrise2, if_pos rfl] at hchk
          obtain ⟨r6, M6, hc6, hr6, hM6⟩ := size29_spec n vp vk M2 (hg1.ok hok) hr hL
          rw [hr6, hM6] at hc6
          refine AWP.seq ?_
          refine AWP.stepR [76] fun K hK => ?_
          simp only [go_sem, Nat.reduceEqDiff, Nat.reduceLT, Nat.reduceAdd, Nat.reduceMul, Nat.reduceSub, Nat.add_zero, Nat.zero_add, Int.reduceEq, Int.reduceLT, ld_44, hh1.lda (nodeC_len ..)]
          refine ⟨_, _, hc6, ?_⟩
          refine hK _ _ _ (by simp only [go_sem, Nat.reduceEqDiff, Nat.reduceLT, Nat.reduceAdd, Nat.reduceMul, Nat.reduceSub, Nat.add_zero, Nat.zero_add, Int.reduceEq, Int.reduceLT]; rfl) ?_; clear hK
          refine AWP.cond_split rfl (fun h76 => ?_) fun h76 => ?_
          · refine AWP.stepR [2] fun K hK => ?_
            simp only [go_sem, Nat.reduceEqDiff, Nat.reduceLT, Nat.reduceAdd, Nat.reduceMul, Nat.reduceSub, Nat.add_zero, Nat.zero_add, Int.reduceEq, Int.reduceLT]
            refine hK _ _ _ (by simp only [go_sem, Nat.reduceEqDiff, Nat.reduceLT, Nat.reduceAdd, Nat.reduceMul, Nat.reduceSub, Nat.add_zero, Nat.zero_add, Int.reduceEq, Int.reduceLT]; rfl) ?_; clear hK
            refine AWP.ret (Then.ret (?_))
            exact Fin.plain (.inr rfl) rfl rfl hok hg1 ⟨by rw [hchk, if_pos (by simpa using h76)], rfl⟩
          · refine AWP.skip ?_
            refine AWP.stepR [2] fun K hK => ?_
            simp only [go_sem, Nat.reduceEqDiff, Nat.reduceLT, Nat.reduceAdd, Nat.reduceMul, Nat.reduceSub, Nat.add_zero, Nat.zero_add, Int.reduceEq, Int.reduceLT]
            refine hK _ _ _ (by simp only [go_sem, Nat.reduceEqDiff, Nat.reduceLT, Nat.reduceAdd, Nat.reduceMul, Nat.reduceSub, Nat.add_zero, Nat.zero_add, Int.reduceEq, Int.reduceLT]; rfl) ?_; clear hK
            refine AWP.ret (?_)
            exact Fin.plain (.inr rfl) rfl rfl hok hg1 ⟨by rw [hchk, if_neg (by simpa using h76)], rfl⟩
end Go.Proofs.Ythheaehpnleiaaa.AX
