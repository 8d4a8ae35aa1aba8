/- How great things are together; where they are cut; copies of rows. -/
import Derived.Test.YthheaehpnleiaaaNodePuts15
namespace Go.Proofs.Ythheaehpnleiaaa.AX
open Go Go.Proofs
set_option maxRecDepth 100000
set_option linter.unusedVariables false
set_option linter.unusedSimpArgs false

def PrOk (M : Mem) (p : Pr) : Prop := RowB M p.kv p.key ∧ RowB M p.vv p.val
def KdOk (M : Mem) (k : Kd) : Prop := RowB M k.kv k.key
theorem PrOk.grew {M M1 : Mem} {p : Pr} (h : PrOk M p) (hg : Grew M M1) : PrOk M1 p := ⟨h.1.grew hg, h.2.grew hg⟩
theorem KdOk.grew {M M1 : Mem} {p : Kd} (h : KdOk M p) (hg : Grew M M1) : KdOk M1 p := Row_.grew h hg
theorem PrOk.one {M : Mem} {p : Pr} (h : PrOk M p) : oneCells (prC p) = true := prC_one h.1 h.2
theorem KdOk.one {M : Mem} {p : Kd} (h : KdOk M p) : oneCells (kdC p) = true := kdC_one h

/-- the greater one of what stands ahead of a place, and of what stands behind it -/
def mostF {α : Type} (f : α → Int) (l : List α) (i : Nat) : Int := max (sumF f (l.take i)) (sumF f l - sumF f (l.take i))
/-- the best place so far, and what it comes to -/
def cutSt {α : Type} (f : α → Int) (l : List α) : Nat → Nat × Int
  | 0 => (1, sumF f l)
  | k + 1 => if mostF f l (k + 1) < (cutSt f l k).2 then (k + 1, mostF f l (k + 1)) else cutSt f l k
def cutF {α : Type} (f : α → Int) (l : List α) : Nat := (cutSt f l (l.length - 1)).1
theorem sumF_nonneg {α : Type} {f : α → Int} {l : List α} (h : ∀ a, a ∈ l → 0 ≤ f a) : 0 ≤ sumF f l := by
  induction l with
  | nil => simp [sumF]
  | cons a l ih =>
    have := h a List.mem_cons_self
    have := ih fun b hb => h b (List.mem_cons_of_mem _ hb)
    rw [sumF]; omega
theorem sumF_split {α : Type} (f : α → Int) (l : List α) (i : Nat) : sumF f (l.take i) + sumF f (l.drop i) = sumF f l := by rw [← sumF_append, List.take_append_drop]
theorem sumF_take_bound {α : Type} {f : α → Int} {l : List α} (h : ∀ a, a ∈ l → 0 ≤ f a) (i : Nat) : 0 ≤ sumF f (l.take i) ∧ sumF f (l.take i) ≤ sumF f l := by
  have h1 := sumF_nonneg (f := f) (l := l.take i) fun a ha => h a (List.mem_of_mem_take ha)
  have h2 := sumF_nonneg (f := f) (l := l.drop i) fun a ha => h a (List.mem_of_mem_drop ha)
  have := sumF_split f l i
  omega

/-! ### Prs -/
theorem size79_spec (p : Pr) (M : Mem) (hok : Ok M) (hp : PrOk M p) (hb : 0 ≤ prSz p ∧ prSz p ≤ 3000) : ∃ r M', ACall Try.prog 79 #[.agg (prC p).toArray] M r M' ∧ r = .int .i64 (prSz p) ∧ M' = M := by
  refine ACall.fin (args := [.agg (prC p).toArray]) (k := 11) Try.func79 rfl rfl rfl (Nat.le_of_ble_eq_true rfl) ?_
  refine AWP.stepR [1] fun K hK => ?_
  simp only [go_sem, Nat.reduceEqDiff, Nat.reduceLT, Nat.reduceAdd, Nat.reduceMul, Nat.reduceSub, Nat.add_zero, Nat.zero_add, Int.reduceEq, Int.reduceLT]
  refine hK _ _ _ (by simp only [go_sem, Nat.reduceEqDiff, Nat.reduceLT, Nat.reduceAdd, Nat.reduceMul, Nat.reduceSub, Nat.add_zero, Nat.zero_add, Int.reduceEq, Int.reduceLT]; rfl) ?_; clear hK
  have hlt1 : M.next < (M.bump 1).next := Nat.lt_succ_self _
  obtain ⟨hg1, hh1⟩ := mk_put ((Grew.refl M).bump 1) (Nat.le_refl _) hlt1 ⟨prC p, 58, true⟩
  change AWP _ _ _ ⟨_, (M.bump 1).put M.next ⟨prC p, 58, true⟩⟩ _
  generalize hM1 : (M.bump 1).put M.next ⟨prC p, 58, true⟩ = M1 at hg1 hh1
  have hp := hp.grew hg1
  refine AWP.stepR [2] fun K hK => ?_
  simp only [go_sem, Nat.reduceEqDiff, Nat.reduceLT, Nat.reduceAdd, Nat.reduceMul, Nat.reduceSub, Nat.add_zero, Nat.zero_add, Int.reduceEq, Int.reduceLT, ld_23, hh1.ld, prC, hp.1.len es_23, hp.2.len es_23]
  refine hK _ _ _ (by simp only [go_sem, Nat.reduceEqDiff, Nat.reduceLT, Nat.reduceAdd, Nat.reduceMul, Nat.reduceSub, Nat.add_zero, Nat.zero_add, Int.reduceEq, Int.reduceLT]; rfl) ?_; clear hK
  refine AWP.ret (?_)
  refine Fin.plain (.inr rfl) rfl rfl hok hg1 ⟨?_, rfl⟩
  unfold prSz at hb ⊢
  rw [i64w (n := 2 + (p.key.length : Int)) (by omega) (by omega), i64w (by omega) (by omega)]

theorem sum78_spec (v : Value) (l : List Pr) (M : Mem) (hok : Ok M) (hv : Row_ M v l.length (l.flatMap prC)) (hp : ∀ p, p ∈ l → PrOk M p) (hb : ∀ p, p ∈ l → 0 ≤ prSz p ∧ prSz p ≤ 3000) (hl : l.length ≤ 1000) :
    ∃ r M', ACall Try.prog 78 #[v, .func (.func 79) #[] #[]] M r M' ∧ r = .int .i64 (sumF prSz l) ∧ M' = M := by
  refine ACall.fin (args := [v, .func (.func 79) #[] #[]]) (k := 21) Try.func78 rfl rfl rfl (Nat.le_of_ble_eq_true rfl) ?_
  have hsp := sum_take_le hb hl
  refine AWP.stepR [0, 1] fun K hK => ?_
  simp only [go_sem, Nat.reduceEqDiff, Nat.reduceLT, Nat.reduceAdd, Nat.reduceMul, Nat.reduceSub, Nat.add_zero, Nat.zero_add, Int.reduceEq, Int.reduceLT]
  refine hK _ _ _ (by simp only [go_sem, Nat.reduceEqDiff, Nat.reduceLT, Nat.reduceAdd, Nat.reduceMul, Nat.reduceSub, Nat.add_zero, Nat.zero_add, Int.reduceEq, Int.reduceLT]; rfl) ?_; clear hK
  refine AWP.stepR [0, 1, 5] fun K hK => ?_
  simp only [go_sem, Nat.reduceEqDiff, Nat.reduceLT, Nat.reduceAdd, Nat.reduceMul, Nat.reduceSub, Nat.add_zero, Nat.zero_add, Int.reduceEq, Int.reduceLT]
  refine hK _ _ _ (by simp only [go_sem, Nat.reduceEqDiff, Nat.reduceLT, Nat.reduceAdd, Nat.reduceMul, Nat.reduceSub, Nat.add_zero, Nat.zero_add, Int.reduceEq, Int.reduceLT]; rfl) ?_; clear hK
  refine AWP.seq ?_
  refine AWP.stepR [1, 5, 8, 9, 10] fun K hK => ?_
  simp only [go_sem, Nat.reduceEqDiff, Nat.reduceLT, Nat.reduceAdd, Nat.reduceMul, Nat.reduceSub, Nat.add_zero, Nat.zero_add, Int.reduceEq, Int.reduceLT, hv.len es_41]
  refine hK _ _ _ (by simp only [go_sem, Nat.reduceEqDiff, Nat.reduceLT, Nat.reduceAdd, Nat.reduceMul, Nat.reduceSub, Nat.add_zero, Nat.zero_add, Int.reduceEq, Int.reduceLT]; rfl) ?_; clear hK
  refine AWP.block ?_ -- b0
  refine AWP.loopK [1, 5, 8, 9, 10] (fun n e M0 => Grew M M0 ∧ n ≤ l.length ∧ e = [(1, .func (.func 79) #[] #[]), (5, .int .i64 (sumF prSz (l.take (l.length - n)))), (8, v), (9, .int .i64 l.length), (10, .int .i64 ((l.length - n : Nat) : Int))]) l.length ?_ fun n e M0 hI => ?_ -- LOOP
  · simp only [go_sem, Nat.reduceEqDiff, Nat.reduceLT, Nat.reduceAdd, Nat.reduceMul, Nat.reduceSub, Nat.add_zero, Nat.zero_add, Int.reduceEq, Int.reduceLT, Nat.le_refl]
    exact ⟨Grew.refl _, by simp [sumF]⟩
  obtain ⟨hg0, hn, rfl⟩ := hI
  refine AWP.stepR [1, 5, 8, 9, 10, 11] fun K hK => ?_
  simp only [go_sem, Nat.reduceEqDiff, Nat.reduceLT, Nat.reduceAdd, Nat.reduceMul, Nat.reduceSub, Nat.add_zero, Nat.zero_add, Int.reduceEq, Int.reduceLT]
  refine hK _ _ _ (by simp only [go_sem, Nat.reduceEqDiff, Nat.reduceLT, Nat.reduceAdd, Nat.reduceMul, Nat.reduceSub, Nat.add_zero, Nat.zero_add, Int.reduceEq, Int.reduceLT]; rfl) ?_; clear hK
  refine AWP.condS rfl (fun h11 => ?_) fun h11 => ?_
  · have hlt : l.length - n < l.length := by simpa using h11
    obtain ⟨b, q, ha, hd⟩ := pr_at hv hlt
    have hd := (hd M0 hg0).2.2
    have hx := (hp _ (List.getElem_mem hlt)).grew hg0
    have hbx := hb _ (List.getElem_mem hlt)
    have hs1 := hsp (l.length - n)
    have hs2 := hsp (l.length - n + 1)
    have hst := sumF_take prSz l hlt
    generalize l[l.length - n] = x at hd hx hbx hst
    refine AWP.skip ?_
    refine AWP.seq ?_
    refine AWP.block ?_ -- b1
    have hlt2 : M0.next < (M0.bump 1).next := Nat.lt_succ_self _
    refine AWP.stepR [1, 5, 7, 8, 9, 10] fun K hK => ?_
    simp only [go_sem, Nat.reduceEqDiff, Nat.reduceLT, Nat.reduceAdd, Nat.reduceMul, Nat.reduceSub, Nat.add_zero, Nat.zero_add, Int.reduceEq, Int.reduceLT, ha, ld_58, hd, st_fresh (M := M0.bump 1) (i := M0.next) (n := 2) (old := [.slice none 0 0, .slice none 0 0]) (vs := prC x) (e := 58) rfl rfl hx.one]
    refine hK _ _ _ (by simp only [go_sem, Nat.reduceEqDiff, Nat.reduceLT, Nat.reduceAdd, Nat.reduceMul, Nat.reduceSub, Nat.add_zero, Nat.zero_add, Int.reduceEq, Int.reduceLT]; rfl) ?_; clear hK
    have hg4 := (((Grew.refl M0).bump 1).put (Nat.le_refl _) hlt2 ⟨[.slice none 0 0, .slice none 0 0], 58, true⟩).put (Nat.le_refl _) hlt2 ⟨prC x, 58, true⟩
    have hh4 : Has (((M0.bump 1).put M0.next ⟨[.slice none 0 0, .slice none 0 0], 58, true⟩).put M0.next ⟨prC x, 58, true⟩) M0.next ⟨prC x, 58, true⟩ := Has.put (M := (M0.bump 1).put M0.next ⟨[.slice none 0 0, .slice none 0 0], 58, true⟩) hlt2 _
    generalize ((M0.bump 1).put M0.next ⟨[.slice none 0 0, .slice none 0 0], 58, true⟩).put M0.next ⟨prC x, 58, true⟩ = M4 at hg4 hh4
    have hgg := hg0.trans hg4
    obtain ⟨r5, M5, hc5, hr5, hM5⟩ := size79_spec x M4 (hgg.ok hok) (hx.grew hg4) hbx
    rw [hr5, hM5] at hc5
    refine AWP.lastR fun K hK => ?_
    simp only [go_sem, Nat.reduceEqDiff, Nat.reduceLT, Nat.reduceAdd, Nat.reduceMul, Nat.reduceSub, Nat.add_zero, Nat.zero_add, Int.reduceEq, Int.reduceLT, ld_58, hh4.lda (prC_len ..)]
    refine ⟨_, _, hc5, ?_⟩
    refine hK _ _ ?_; clear hK
    refine AWP.lastR fun K hK => ?_
    simp only [go_sem, Nat.reduceEqDiff, Nat.reduceLT, Nat.reduceAdd, Nat.reduceMul, Nat.reduceSub, Nat.add_zero, Nat.zero_add, Int.reduceEq, Int.reduceLT]
    refine hK _ _ ?_; clear hK
    refine ⟨n - 1, by omega, hgg, by omega, ?_⟩ -- ROUND
    simp only [go_sem, Nat.reduceEqDiff, Nat.reduceLT, Nat.reduceAdd, Nat.reduceMul, Nat.reduceSub, Nat.add_zero, Nat.zero_add, Int.reduceEq, Int.reduceLT]
    rw [i64w (n := ((l.length - n : Nat) : Int) + 1) (by omega) (by omega), i64w (by omega) (by omega), show ((l.length - n : Nat) : Int) + 1 = ((l.length - (n - 1) : Nat) : Int) by omega, show l.length - (n - 1) = l.length - n + 1 by omega, hst]
  · refine AWP.exit (Then.exit (Then.exit (InBlock.same ?_)))
    have hn0 : n = 0 := by simp at h11; omega
    subst hn0
    rw [Nat.sub_zero, List.take_length]
    refine AWP.stepR [4] fun K hK => ?_
    simp only [go_sem, Nat.reduceEqDiff, Nat.reduceLT, Nat.reduceAdd, Nat.reduceMul, Nat.reduceSub, Nat.add_zero, Nat.zero_add, Int.reduceEq, Int.reduceLT]
    refine hK _ _ _ (by simp only [go_sem, Nat.reduceEqDiff, Nat.reduceLT, Nat.reduceAdd, Nat.reduceMul, Nat.reduceSub, Nat.add_zero, Nat.zero_add, Int.reduceEq, Int.reduceLT]; rfl) ?_; clear hK
    refine AWP.ret (?_)
    exact Fin.plain (.inr rfl) rfl rfl hok hg0 ⟨rfl, rfl⟩

theorem cut85_spec (v : Value) (l : List Pr) (M : Mem) (hok : Ok M) (hv : Row_ M v l.length (l.flatMap prC)) (hp : ∀ p, p ∈ l → PrOk M p) (hb : ∀ p, p ∈ l → 0 ≤ prSz p ∧ prSz p ≤ 3000) (hl : l.length ≤ 1000) :
    ∃ r M', ACall Try.prog 85 #[v, .func (.func 79) #[] #[]] M r M' ∧ r = .int .i64 (cutF prSz l) ∧ M' = M := by
  refine ACall.fin (args := [v, .func (.func 79) #[] #[]]) (k := 41) Try.func85 rfl rfl rfl (Nat.le_of_ble_eq_true rfl) ?_
  obtain ⟨r2, M2, hc2, hr2, hM2⟩ := sum78_spec v l M hok hv hp hb hl
  rw [hr2, hM2] at hc2
  have hbt := sumF_take_bound (f := prSz) (l := l) fun a ha => (hb a ha).1
  have hall := sum_take_le hb hl l.length
  rw [List.take_length] at hall
  refine AWP.stepR [0, 1] fun K hK => ?_
  simp only [go_sem, Nat.reduceEqDiff, Nat.reduceLT, Nat.reduceAdd, Nat.reduceMul, Nat.reduceSub, Nat.add_zero, Nat.zero_add, Int.reduceEq, Int.reduceLT]
  refine hK _ _ _ (by simp only [go_sem, Nat.reduceEqDiff, Nat.reduceLT, Nat.reduceAdd, Nat.reduceMul, Nat.reduceSub, Nat.add_zero, Nat.zero_add, Int.reduceEq, Int.reduceLT]; rfl) ?_; clear hK
  refine AWP.stepR [0, 1, 5, 6] fun K hK => ?_
  simp only [go_sem, Nat.reduceEqDiff, Nat.reduceLT, Nat.reduceAdd, Nat.reduceMul, Nat.reduceSub, Nat.add_zero, Nat.zero_add, Int.reduceEq, Int.reduceLT]
  refine ⟨_, _, hc2, ?_⟩
  refine hK _ _ _ (by simp only [go_sem, Nat.reduceEqDiff, Nat.reduceLT, Nat.reduceAdd, Nat.reduceMul, Nat.reduceSub, Nat.add_zero, Nat.zero_add, Int.reduceEq, Int.reduceLT]; rfl) ?_; clear hK
  refine AWP.stepR [0, 1, 5, 6, 7, 8] fun K hK => ?_
  simp only [go_sem, Nat.reduceEqDiff, Nat.reduceLT, Nat.reduceAdd, Nat.reduceMul, Nat.reduceSub, Nat.add_zero, Nat.zero_add, Int.reduceEq, Int.reduceLT]
  refine hK _ _ _ (by simp only [go_sem, Nat.reduceEqDiff, Nat.reduceLT, Nat.reduceAdd, Nat.reduceMul, Nat.reduceSub, Nat.add_zero, Nat.zero_add, Int.reduceEq, Int.reduceLT]; rfl) ?_; clear hK
  refine AWP.seq ?_
  refine AWP.stepR [0, 1, 5, 6, 7, 8, 9] fun K hK => ?_
  simp only [go_sem, Nat.reduceEqDiff, Nat.reduceLT, Nat.reduceAdd, Nat.reduceMul, Nat.reduceSub, Nat.add_zero, Nat.zero_add, Int.reduceEq, Int.reduceLT]
  refine hK _ _ _ (by simp only [go_sem, Nat.reduceEqDiff, Nat.reduceLT, Nat.reduceAdd, Nat.reduceMul, Nat.reduceSub, Nat.add_zero, Nat.zero_add, Int.reduceEq, Int.reduceLT]; rfl) ?_; clear hK
  refine AWP.block ?_ -- b0
  refine AWP.loopK [0, 1, 5, 6, 7, 8, 9] (fun c e M0 => M0 = M ∧ ∃ k : Nat, c = l.length - k ∧ (k + 1 ≤ l.length ∨ k = 0) ∧ e = [(0, v), (1, .func (.func 79) #[] #[]), (5, .int .i64 (sumF prSz l)), (6, .int .i64 (sumF prSz (l.take k))), (7, .int .i64 (cutSt prSz l k).1), (8, .int .i64 (cutSt prSz l k).2), (9, .int .i64 ((k + 1 : Nat) : Int))]) l.length ?_ fun c e M0 hI => ?_ -- LOOP
  · simp only [go_sem, Nat.reduceEqDiff, Nat.reduceLT, Nat.reduceAdd, Nat.reduceMul, Nat.reduceSub, Nat.add_zero, Nat.zero_add, Int.reduceEq, Int.reduceLT, true_and]
    exact ⟨0, rfl, .inr rfl, by simp [sumF, cutSt]⟩
  obtain ⟨rfl, k, hc, hk, rfl⟩ := hI
  refine AWP.seq ?_
  refine AWP.stepR [0, 1, 5, 6, 7, 8, 9, 18] fun K hK => ?_
  simp only [go_sem, Nat.reduceEqDiff, Nat.reduceLT, Nat.reduceAdd, Nat.reduceMul, Nat.reduceSub, Nat.add_zero, Nat.zero_add, Int.reduceEq, Int.reduceLT, hv.len es_41]
  refine hK _ _ _ (by simp only [go_sem, Nat.reduceEqDiff, Nat.reduceLT, Nat.reduceAdd, Nat.reduceMul, Nat.reduceSub, Nat.add_zero, Nat.zero_add, Int.reduceEq, Int.reduceLT]; rfl) ?_; clear hK
  refine AWP.cond_split rfl (fun h18 => ?_) fun h18 => ?_
  · have hlt : k < l.length := by simp at h18; omega
    have hlt1 : k + 1 < l.length := by simp at h18; omega
    obtain ⟨b, q, ha, hd⟩ := pr_at hv hlt
    have hd := (hd M0 (Grew.refl _)).2.2
    have hx := hp _ (List.getElem_mem hlt)
    have hbx := hb _ (List.getElem_mem hlt)
    have hs1 := hbt k
    have hs2 := hbt (k + 1)
    have hst := sumF_take prSz l hlt
    generalize l[k] = x at hd hx hbx hst
    obtain ⟨r5, M5, hc5, hr5, hM5⟩ := size79_spec x M0 hok hx hbx
    rw [hr5, hM5] at hc5
    refine AWP.skip ?_
    refine AWP.seq ?_
    refine AWP.block ?_ -- b1
    refine AWP.stepR [0, 1, 5, 6, 7, 8, 9] fun K hK => ?_
    simp only [go_sem, Nat.reduceEqDiff, Nat.reduceLT, Nat.reduceAdd, Nat.reduceMul, Nat.reduceSub, Nat.add_zero, Nat.zero_add, Int.reduceEq, Int.reduceLT, i64w (n := (k : Int)) (by omega) (by omega), show ((k + 1 : Nat) : Int) - 1 = (k : Int) by omega, ha, ld_58, hd]
    refine ⟨_, _, hc5, ?_⟩
    refine hK _ _ _ (by simp only [go_sem, Nat.reduceEqDiff, Nat.reduceLT, Nat.reduceAdd, Nat.reduceMul, Nat.reduceSub, Nat.add_zero, Nat.zero_add, Int.reduceEq, Int.reduceLT]; rfl) ?_; clear hK
    rw [i64w (n := sumF prSz (l.take k) + prSz x) (by omega) (by omega), ← hst]
    refine AWP.stepR [0, 1, 5, 6, 7, 8, 9, 10] fun K hK => ?_
    simp only [go_sem, Nat.reduceEqDiff, Nat.reduceLT, Nat.reduceAdd, Nat.reduceMul, Nat.reduceSub, Nat.add_zero, Nat.zero_add, Int.reduceEq, Int.reduceLT]
    refine hK _ _ _ (by simp only [go_sem, Nat.reduceEqDiff, Nat.reduceLT, Nat.reduceAdd, Nat.reduceMul, Nat.reduceSub, Nat.add_zero, Nat.zero_add, Int.reduceEq, Int.reduceLT]; rfl) ?_; clear hK
    rw [i64w (n := sumF prSz l - sumF prSz (l.take (k + 1))) (by omega) (by omega)]
    rw [show (if sumF prSz l - sumF prSz (l.take (k + 1)) > sumF prSz (l.take (k + 1)) then sumF prSz l - sumF prSz (l.take (k + 1)) else sumF prSz (l.take (k + 1))) = mostF prSz l (k + 1) by unfold mostF; split <;> omega]
    refine AWP.stepR [0, 1, 5, 6, 7, 8, 9, 10, 37] fun K hK => ?_
    simp only [go_sem, Nat.reduceEqDiff, Nat.reduceLT, Nat.reduceAdd, Nat.reduceMul, Nat.reduceSub, Nat.add_zero, Nat.zero_add, Int.reduceEq, Int.reduceLT]
    refine hK _ _ _ (by simp only [go_sem, Nat.reduceEqDiff, Nat.reduceLT, Nat.reduceAdd, Nat.reduceMul, Nat.reduceSub, Nat.add_zero, Nat.zero_add, Int.reduceEq, Int.reduceLT]; rfl) ?_; clear hK
    refine AWP.cond_split rfl (fun h37 => ?_) fun h37 => ?_
    · have hcs : cutSt prSz l (k + 1) = (k + 1, mostF prSz l (k + 1)) := by rw [cutSt, if_pos (by simpa using h37)]
      refine AWP.lastR fun K hK => ?_
      simp only [go_sem, Nat.reduceEqDiff, Nat.reduceLT, Nat.reduceAdd, Nat.reduceMul, Nat.reduceSub, Nat.add_zero, Nat.zero_add, Int.reduceEq, Int.reduceLT]
      refine hK _ _ ?_; clear hK
      refine AWP.lastR fun K hK => ?_
      simp only [go_sem, Nat.reduceEqDiff, Nat.reduceLT, Nat.reduceAdd, Nat.reduceMul, Nat.reduceSub, Nat.add_zero, Nat.zero_add, Int.reduceEq, Int.reduceLT]
      refine hK _ _ ?_; clear hK
      refine ⟨c - 1, by omega, rfl, k + 1, by omega, by omega, ?_⟩ -- ROUND
      simp only [go_sem, Nat.reduceEqDiff, Nat.reduceLT, Nat.reduceAdd, Nat.reduceMul, Nat.reduceSub, Nat.add_zero, Nat.zero_add, Int.reduceEq, Int.reduceLT, hcs]
      rw [i64w (by omega) (by omega)]; rfl
    · have hcs : cutSt prSz l (k + 1) = cutSt prSz l k := by rw [cutSt, if_neg (by simpa using h37)]
      refine AWP.skip ?_
      refine AWP.lastR fun K hK => ?_
      simp only [go_sem, Nat.reduceEqDiff, Nat.reduceLT, Nat.reduceAdd, Nat.reduceMul, Nat.reduceSub, Nat.add_zero, Nat.zero_add, Int.reduceEq, Int.reduceLT]
      refine hK _ _ ?_; clear hK
      refine ⟨c - 1, by omega, rfl, k + 1, by omega, by omega, ?_⟩ -- ROUND
      simp only [go_sem, Nat.reduceEqDiff, Nat.reduceLT, Nat.reduceAdd, Nat.reduceMul, Nat.reduceSub, Nat.add_zero, Nat.zero_add, Int.reduceEq, Int.reduceLT, hcs]
      rw [i64w (by omega) (by omega)]; rfl
  · refine AWP.exit (Then.exit (Then.exit (InBlock.same ?_)))
    refine AWP.stepR [4] fun K hK => ?_
    simp only [go_sem, Nat.reduceEqDiff, Nat.reduceLT, Nat.reduceAdd, Nat.reduceMul, Nat.reduceSub, Nat.add_zero, Nat.zero_add, Int.reduceEq, Int.reduceLT]
    refine hK _ _ _ (by simp only [go_sem, Nat.reduceEqDiff, Nat.reduceLT, Nat.reduceAdd, Nat.reduceMul, Nat.reduceSub, Nat.add_zero, Nat.zero_add, Int.reduceEq, Int.reduceLT]; rfl) ?_; clear hK
    refine AWP.ret (?_)
    refine Fin.plain (.inr rfl) rfl rfl hok (Grew.refl _) ⟨?_, rfl⟩
    have hk2 : k = l.length - 1 := by simp at h18; omega
    rw [cutF, ← hk2]

/-! ### Kds -/
theorem size81_spec (p : Kd) (M : Mem) (hok : Ok M) (hp : KdOk M p) (hb : 0 ≤ kdSz p ∧ kdSz p ≤ 3000) : ∃ r M', ACall Try.prog 81 #[.agg (kdC p).toArray] M r M' ∧ r = .int .i64 (kdSz p) ∧ M' = M := by
  refine ACall.fin (args := [.agg (kdC p).toArray]) (k := 7) Try.func81 rfl rfl rfl (Nat.le_of_ble_eq_true rfl) ?_
  refine AWP.stepR [1] fun K hK => ?_
  simp only [go_sem, Nat.reduceEqDiff, Nat.reduceLT, Nat.reduceAdd, Nat.reduceMul, Nat.reduceSub, Nat.add_zero, Nat.zero_add, Int.reduceEq, Int.reduceLT]
  refine hK _ _ _ (by simp only [go_sem, Nat.reduceEqDiff, Nat.reduceLT, Nat.reduceAdd, Nat.reduceMul, Nat.reduceSub, Nat.add_zero, Nat.zero_add, Int.reduceEq, Int.reduceLT]; rfl) ?_; clear hK
  have hlt1 : M.next < (M.bump 1).next := Nat.lt_succ_self _
  obtain ⟨hg1, hh1⟩ := mk_put ((Grew.refl M).bump 1) (Nat.le_refl _) hlt1 ⟨kdC p, 60, true⟩
  change AWP _ _ _ ⟨_, (M.bump 1).put M.next ⟨kdC p, 60, true⟩⟩ _
  generalize hM1 : (M.bump 1).put M.next ⟨kdC p, 60, true⟩ = M1 at hg1 hh1
  have hp := hp.grew hg1
  refine AWP.stepR [2] fun K hK => ?_
  simp only [go_sem, Nat.reduceEqDiff, Nat.reduceLT, Nat.reduceAdd, Nat.reduceMul, Nat.reduceSub, Nat.add_zero, Nat.zero_add, Int.reduceEq, Int.reduceLT, ld_23, hh1.ld, kdC, Row_.len hp es_23]
  refine hK _ _ _ (by simp only [go_sem, Nat.reduceEqDiff, Nat.reduceLT, Nat.reduceAdd, Nat.reduceMul, Nat.reduceSub, Nat.add_zero, Nat.zero_add, Int.reduceEq, Int.reduceLT]; rfl) ?_; clear hK
  refine AWP.ret (?_)
  refine Fin.plain (.inr rfl) rfl rfl hok hg1 ⟨?_, rfl⟩
  unfold kdSz at hb ⊢
  rw [i64w (by omega) (by omega)]

theorem sum80_spec (v : Value) (l : List Kd) (M : Mem) (hok : Ok M) (hv : Row_ M v l.length (l.flatMap kdC)) (hp : ∀ p, p ∈ l → KdOk M p) (hb : ∀ p, p ∈ l → 0 ≤ kdSz p ∧ kdSz p ≤ 3000) (hl : l.length ≤ 1000) :
    ∃ r M', ACall Try.prog 80 #[v, .func (.func 81) #[] #[]] M r M' ∧ r = .int .i64 (sumF kdSz l) ∧ M' = M := by
  refine ACall.fin (args := [v, .func (.func 81) #[] #[]]) (k := 21) Try.func80 rfl rfl rfl (Nat.le_of_ble_eq_true rfl) ?_
  have hsp := sum_take_le hb hl
  refine AWP.stepR [0, 1] fun K hK => ?_
  simp only [go_sem, Nat.reduceEqDiff, Nat.reduceLT, Nat.reduceAdd, Nat.reduceMul, Nat.reduceSub, Nat.add_zero, Nat.zero_add, Int.reduceEq, Int.reduceLT]
  refine hK _ _ _ (by simp only [go_sem, Nat.reduceEqDiff, Nat.reduceLT, Nat.reduceAdd, Nat.reduceMul, Nat.reduceSub, Nat.add_zero, Nat.zero_add, Int.reduceEq, Int.reduceLT]; rfl) ?_; clear hK
  refine AWP.stepR [0, 1, 5] fun K hK => ?_
  simp only [go_sem, Nat.reduceEqDiff, Nat.reduceLT, Nat.reduceAdd, Nat.reduceMul, Nat.reduceSub, Nat.add_zero, Nat.zero_add, Int.reduceEq, Int.reduceLT]
  refine hK _ _ _ (by simp only [go_sem, Nat.reduceEqDiff, Nat.reduceLT, Nat.reduceAdd, Nat.reduceMul, Nat.reduceSub, Nat.add_zero, Nat.zero_add, Int.reduceEq, Int.reduceLT]; rfl) ?_; clear hK
  refine AWP.seq ?_
  refine AWP.stepR [1, 5, 8, 9, 10] fun K hK => ?_
  simp only [go_sem, Nat.reduceEqDiff, Nat.reduceLT, Nat.reduceAdd, Nat.reduceMul, Nat.reduceSub, Nat.add_zero, Nat.zero_add, Int.reduceEq, Int.reduceLT, hv.len es_42]
  refine hK _ _ _ (by simp only [go_sem, Nat.reduceEqDiff, Nat.reduceLT, Nat.reduceAdd, Nat.reduceMul, Nat.reduceSub, Nat.add_zero, Nat.zero_add, Int.reduceEq, Int.reduceLT]; rfl) ?_; clear hK
  refine AWP.block ?_ -- b0
  refine AWP.loopK [1, 5, 8, 9, 10] (fun n e M0 => Grew M M0 ∧ n ≤ l.length ∧ e = [(1, .func (.func 81) #[] #[]), (5, .int .i64 (sumF kdSz (l.take (l.length - n)))), (8, v), (9, .int .i64 l.length), (10, .int .i64 ((l.length - n : Nat) : Int))]) l.length ?_ fun n e M0 hI => ?_ -- LOOP
  · simp only [go_sem, Nat.reduceEqDiff, Nat.reduceLT, Nat.reduceAdd, Nat.reduceMul, Nat.reduceSub, Nat.add_zero, Nat.zero_add, Int.reduceEq, Int.reduceLT, Nat.le_refl]
    exact ⟨Grew.refl _, by simp [sumF]⟩
  obtain ⟨hg0, hn, rfl⟩ := hI
  refine AWP.stepR [1, 5, 8, 9, 10, 11] fun K hK => ?_
  simp only [go_sem, Nat.reduceEqDiff, Nat.reduceLT, Nat.reduceAdd, Nat.reduceMul, Nat.reduceSub, Nat.add_zero, Nat.zero_add, Int.reduceEq, Int.reduceLT]
  refine hK _ _ _ (by simp only [go_sem, Nat.reduceEqDiff, Nat.reduceLT, Nat.reduceAdd, Nat.reduceMul, Nat.reduceSub, Nat.add_zero, Nat.zero_add, Int.reduceEq, Int.reduceLT]; rfl) ?_; clear hK
  refine AWP.condS rfl (fun h11 => ?_) fun h11 => ?_
  · have hlt : l.length - n < l.length := by simpa using h11
    obtain ⟨b, q, ha, hd⟩ := kd_at hv hlt
    have hd := (hd M0 hg0).2.2.2
    have hx := (hp _ (List.getElem_mem hlt)).grew hg0
    have hbx := hb _ (List.getElem_mem hlt)
    have hs1 := hsp (l.length - n)
    have hs2 := hsp (l.length - n + 1)
    have hst := sumF_take kdSz l hlt
    generalize l[l.length - n] = x at hd hx hbx hst
    refine AWP.skip ?_
    refine AWP.seq ?_
    refine AWP.block ?_ -- b1
    have hlt2 : M0.next < (M0.bump 1).next := Nat.lt_succ_self _
    refine AWP.stepR [1, 5, 7, 8, 9, 10] fun K hK => ?_
    simp only [go_sem, Nat.reduceEqDiff, Nat.reduceLT, Nat.reduceAdd, Nat.reduceMul, Nat.reduceSub, Nat.add_zero, Nat.zero_add, Int.reduceEq, Int.reduceLT, ha, ld_60, hd, st_fresh (M := M0.bump 1) (i := M0.next) (n := 3) (old := [.slice none 0 0, .int .i64 0, .int .i64 0]) (vs := kdC x) (e := 60) rfl rfl hx.one]
    refine hK _ _ _ (by simp only [go_sem, Nat.reduceEqDiff, Nat.reduceLT, Nat.reduceAdd, Nat.reduceMul, Nat.reduceSub, Nat.add_zero, Nat.zero_add, Int.reduceEq, Int.reduceLT]; rfl) ?_; clear hK
    have hg4 := (((Grew.refl M0).bump 1).put (Nat.le_refl _) hlt2 ⟨[.slice none 0 0, .int .i64 0, .int .i64 0], 60, true⟩).put (Nat.le_refl _) hlt2 ⟨kdC x, 60, true⟩
    have hh4 : Has (((M0.bump 1).put M0.next ⟨[.slice none 0 0, .int .i64 0, .int .i64 0], 60, true⟩).put M0.next ⟨kdC x, 60, true⟩) M0.next ⟨kdC x, 60, true⟩ := Has.put (M := (M0.bump 1).put M0.next ⟨[.slice none 0 0, .int .i64 0, .int .i64 0], 60, true⟩) hlt2 _
    generalize ((M0.bump 1).put M0.next ⟨[.slice none 0 0, .int .i64 0, .int .i64 0], 60, true⟩).put M0.next ⟨kdC x, 60, true⟩ = M4 at hg4 hh4
    have hgg := hg0.trans hg4
    obtain ⟨r5, M5, hc5, hr5, hM5⟩ := size81_spec x M4 (hgg.ok hok) (hx.grew hg4) hbx
    rw [hr5, hM5] at hc5
    refine AWP.lastR fun K hK => ?_
    simp only [go_sem, Nat.reduceEqDiff, Nat.reduceLT, Nat.reduceAdd, Nat.reduceMul, Nat.reduceSub, Nat.add_zero, Nat.zero_add, Int.reduceEq, Int.reduceLT, ld_60, hh4.lda (kdC_len ..)]
    refine ⟨_, _, hc5, ?_⟩
    refine hK _ _ ?_; clear hK
    refine AWP.lastR fun K hK => ?_
    simp only [go_sem, Nat.reduceEqDiff, Nat.reduceLT, Nat.reduceAdd, Nat.reduceMul, Nat.reduceSub, Nat.add_zero, Nat.zero_add, Int.reduceEq, Int.reduceLT]
    refine hK _ _ ?_; clear hK
    refine ⟨n - 1, by omega, hgg, by omega, ?_⟩ -- ROUND
    simp only [go_sem, Nat.reduceEqDiff, Nat.reduceLT, Nat.reduceAdd, Nat.reduceMul, Nat.reduceSub, Nat.add_zero, Nat.zero_add, Int.reduceEq, Int.reduceLT]
    rw [i64w (n := ((l.length - n : Nat) : Int) + 1) (by omega) (by omega), i64w (by omega) (by omega), show ((l.length - n : Nat) : Int) + 1 = ((l.length - (n - 1) : Nat) : Int) by omega, show l.length - (n - 1) = l.length - n + 1 by omega, hst]
  · refine AWP.exit (Then.exit (Then.exit (InBlock.same ?_)))
    have hn0 : n = 0 := by simp at h11; omega
    subst hn0
    rw [Nat.sub_zero, List.take_length]
    refine AWP.stepR [4] fun K hK => ?_
    simp only [go_sem, Nat.reduceEqDiff, Nat.reduceLT, Nat.reduceAdd, Nat.reduceMul, Nat.reduceSub, Nat.add_zero, Nat.zero_add, Int.reduceEq, Int.reduceLT]
    refine hK _ _ _ (by simp only [go_sem, Nat.reduceEqDiff, Nat.reduceLT, Nat.reduceAdd, Nat.reduceMul, Nat.reduceSub, Nat.add_zero, Nat.zero_add, Int.reduceEq, Int.reduceLT]; rfl) ?_; clear hK
    refine AWP.ret (?_)
    exact Fin.plain (.inr rfl) rfl rfl hok hg0 ⟨rfl, rfl⟩

theorem cut87_spec (v : Value) (l : List Kd) (M : Mem) (hok : Ok M) (hv : Row_ M v l.length (l.flatMap kdC)) (hp : ∀ p, p ∈ l → KdOk M p) (hb : ∀ p, p ∈ l → 0 ≤ kdSz p ∧ kdSz p ≤ 3000) (hl : l.length ≤ 1000) :
    ∃ r M', ACall Try.prog 87 #[v, .func (.func 81) #[] #[]] M r M' ∧ r = .int .i64 (cutF kdSz l) ∧ M' = M := by
  refine ACall.fin (args := [v, .func (.func 81) #[] #[]]) (k := 41) Try.func87 rfl rfl rfl (Nat.le_of_ble_eq_true rfl) ?_
  obtain ⟨r2, M2, hc2, hr2, hM2⟩ := sum80_spec v l M hok hv hp hb hl
  rw [hr2, hM2] at hc2
  have hbt := sumF_take_bound (f := kdSz) (l := l) fun a ha => (hb a ha).1
  have hall := sum_take_le hb hl l.length
  rw [List.take_length] at hall
  refine AWP.stepR [0, 1] fun K hK => ?_
  simp only [go_sem, Nat.reduceEqDiff, Nat.reduceLT, Nat.reduceAdd, Nat.reduceMul, Nat.reduceSub, Nat.add_zero, Nat.zero_add, Int.reduceEq, Int.reduceLT]
  refine hK _ _ _ (by simp only [go_sem, Nat.reduceEqDiff, Nat.reduceLT, Nat.reduceAdd, Nat.reduceMul, Nat.reduceSub, Nat.add_zero, Nat.zero_add, Int.reduceEq, Int.reduceLT]; rfl) ?_; clear hK
  refine AWP.stepR [0, 1, 5, 6] fun K hK => ?_
  simp only [go_sem, Nat.reduceEqDiff, Nat.reduceLT, Nat.reduceAdd, Nat.reduceMul, Nat.reduceSub, Nat.add_zero, Nat.zero_add, Int.reduceEq, Int.reduceLT]
  refine ⟨_, _, hc2, ?_⟩
  refine hK _ _ _ (by simp only [go_sem, Nat.reduceEqDiff, Nat.reduceLT, Nat.reduceAdd, Nat.reduceMul, Nat.reduceSub, Nat.add_zero, Nat.zero_add, Int.reduceEq, Int.reduceLT]; rfl) ?_; clear hK
  refine AWP.stepR [0, 1, 5, 6, 7, 8] fun K hK => ?_
  simp only [go_sem, Nat.reduceEqDiff, Nat.reduceLT, Nat.reduceAdd, Nat.reduceMul, Nat.reduceSub, Nat.add_zero, Nat.zero_add, Int.reduceEq, Int.reduceLT]
  refine hK _ _ _ (by simp only [go_sem, Nat.reduceEqDiff, Nat.reduceLT, Nat.reduceAdd, Nat.reduceMul, Nat.reduceSub, Nat.add_zero, Nat.zero_add, Int.reduceEq, Int.reduceLT]; rfl) ?_; clear hK
  refine AWP.seq ?_
  refine AWP.stepR [0, 1, 5, 6, 7, 8, 9] fun K hK => ?_
  simp only [go_sem, Nat.reduceEqDiff, Nat.reduceLT, Nat.reduceAdd, Nat.reduceMul, Nat.reduceSub, Nat.add_zero, Nat.zero_add, Int.reduceEq, Int.reduceLT]
  refine hK _ _ _ (by simp only [go_sem, Nat.reduceEqDiff, Nat.reduceLT, Nat.reduceAdd, Nat.reduceMul, Nat.reduceSub, Nat.add_zero, Nat.zero_add, Int.reduceEq, Int.reduceLT]; rfl) ?_; clear hK
  refine AWP.block ?_ -- b0
  refine AWP.loopK [0, 1, 5, 6, 7, 8, 9] (fun c e M0 => M0 = M ∧ ∃ k : Nat, c = l.length - k ∧ (k + 1 ≤ l.length ∨ k = 0) ∧ e = [(0, v), (1, .func (.func 81) #[] #[]), (5, .int .i64 (sumF kdSz l)), (6, .int .i64 (sumF kdSz (l.take k))), (7, .int .i64 (cutSt kdSz l k).1), (8, .int .i64 (cutSt kdSz l k).2), (9, .int .i64 ((k + 1 : Nat) : Int))]) l.length ?_ fun c e M0 hI => ?_ -- LOOP
  · simp only [go_sem, Nat.reduceEqDiff, Nat.reduceLT, Nat.reduceAdd, Nat.reduceMul, Nat.reduceSub, Nat.add_zero, Nat.zero_add, Int.reduceEq, Int.reduceLT, true_and]
    exact ⟨0, rfl, .inr rfl, by simp [sumF, cutSt]⟩
  obtain ⟨rfl, k, hc, hk, rfl⟩ := hI
  refine AWP.seq ?_
  refine AWP.stepR [0, 1, 5, 6, 7, 8, 9, 18] fun K hK => ?_
  simp only [go_sem, Nat.reduceEqDiff, Nat.reduceLT, Nat.reduceAdd, Nat.reduceMul, Nat.reduceSub, Nat.add_zero, Nat.zero_add, Int.reduceEq, Int.reduceLT, hv.len es_42]
  refine hK _ _ _ (by simp only [go_sem, Nat.reduceEqDiff, Nat.reduceLT, Nat.reduceAdd, Nat.reduceMul, Nat.reduceSub, Nat.add_zero, Nat.zero_add, Int.reduceEq, Int.reduceLT]; rfl) ?_; clear hK
  refine AWP.cond_split rfl (fun h18 => ?_) fun h18 => ?_
  · have hlt : k < l.length := by simp at h18; omega
    have hlt1 : k + 1 < l.length := by simp at h18; omega
    obtain ⟨b, q, ha, hd⟩ := kd_at hv hlt
    have hd := (hd M0 (Grew.refl _)).2.2.2
    have hx := hp _ (List.getElem_mem hlt)
    have hbx := hb _ (List.getElem_mem hlt)
    have hs1 := hbt k
    have hs2 := hbt (k + 1)
    have hst := sumF_take kdSz l hlt
    generalize l[k] = x at hd hx hbx hst
    obtain ⟨r5, M5, hc5, hr5, hM5⟩ := size81_spec x M0 hok hx hbx
    rw [hr5, hM5] at hc5
    refine AWP.skip ?_
    refine AWP.seq ?_
    refine AWP.block ?_ -- b1
    refine AWP.stepR [0, 1, 5, 6, 7, 8, 9] fun K hK => ?_
    simp only [go_sem, Nat.reduceEqDiff, Nat.reduceLT, Nat.reduceAdd, Nat.reduceMul, Nat.reduceSub, Nat.add_zero, Nat.zero_add, Int.reduceEq, Int.reduceLT, i64w (n := (k : Int)) (by omega) (by omega), show ((k + 1 : Nat) : Int) - 1 = (k : Int) by omega, ha, ld_60, hd]
    refine ⟨_, _, hc5, ?_⟩
    refine hK _ _ _ (by simp only [go_sem, Nat.reduceEqDiff, Nat.reduceLT, Nat.reduceAdd, Nat.reduceMul, Nat.reduceSub, Nat.add_zero, Nat.zero_add, Int.reduceEq, Int.reduceLT]; rfl) ?_; clear hK
    rw [i64w (n := sumF kdSz (l.take k) + kdSz x) (by omega) (by omega), ← hst]
    refine AWP.stepR [0, 1, 5, 6, 7, 8, 9, 10] fun K hK => ?_
    simp only [go_sem, Nat.reduceEqDiff, Nat.reduceLT, Nat.reduceAdd, Nat.reduceMul, Nat.reduceSub, Nat.add_zero, Nat.zero_add, Int.reduceEq, Int.reduceLT]
    refine hK _ _ _ (by simp only [go_sem, Nat.reduceEqDiff, Nat.reduceLT, Nat.reduceAdd, Nat.reduceMul, Nat.reduceSub, Nat.add_zero, Nat.zero_add, Int.reduceEq, Int.reduceLT]; rfl) ?_; clear hK
    rw [i64w (n := sumF kdSz l - sumF kdSz (l.take (k + 1))) (by omega) (by omega)]
    rw [show (if sumF kdSz l - sumF kdSz (l.take (k + 1)) > sumF kdSz (l.take (k + 1)) then sumF kdSz l - sumF kdSz (l.take (k + 1)) else sumF kdSz (l.take (k + 1))) = mostF kdSz l (k + 1) by unfold mostF; split <;> omega]
    refine AWP.stepR [0, 1, 5, 6, 7, 8, 9, 10, 37] fun K hK => ?_
    simp only [go_sem, Nat.reduceEqDiff, Nat.reduceLT, Nat.reduceAdd, Nat.reduceMul, Nat.reduceSub, Nat.add_zero, Nat.zero_add, Int.reduceEq, Int.reduceLT]
    refine hK _ _ _ (by simp only [go_sem, Nat.reduceEqDiff, Nat.reduceLT, Nat.reduceAdd, Nat.reduceMul, Nat.reduceSub, Nat.add_zero, Nat.zero_add, Int.reduceEq, Int.reduceLT]; rfl) ?_; clear hK
    refine AWP.cond_split rfl (fun h37 => ?_) fun h37 => ?_
    · have hcs : cutSt kdSz l (k + 1) = (k + 1, mostF kdSz l (k + 1)) := by rw [cutSt, if_pos (by simpa using h37)]
      refine AWP.lastR fun K hK => ?_
      simp only [go_sem, Nat.reduceEqDiff, Nat.reduceLT, Nat.reduceAdd, Nat.reduceMul, Nat.reduceSub, Nat.add_zero, Nat.zero_add, Int.reduceEq, Int.reduceLT]
      refine hK _ _ ?_; clear hK
      refine AWP.lastR fun K hK => ?_
      simp only [go_sem, Nat.reduceEqDiff, Nat.reduceLT, Nat.reduceAdd, Nat.reduceMul, Nat.reduceSub, Nat.add_zero, Nat.zero_add, Int.reduceEq, Int.reduceLT]
      refine hK _ _ ?_; clear hK
      refine ⟨c - 1, by omega, rfl, k + 1, by omega, by omega, ?_⟩ -- ROUND
      simp only [go_sem, Nat.reduceEqDiff, Nat.reduceLT, Nat.reduceAdd, Nat.reduceMul, Nat.reduceSub, Nat.add_zero, Nat.zero_add, Int.reduceEq, Int.reduceLT, hcs]
      rw [i64w (by omega) (by omega)]; rfl
    · have hcs : cutSt kdSz l (k + 1) = cutSt kdSz l k := by rw [cutSt, if_neg (by simpa using h37)]
      refine AWP.skip ?_
      refine AWP.lastR fun K hK => ?_
      simp only [go_sem, Nat.reduceEqDiff, Nat.reduceLT, Nat.reduceAdd, Nat.reduceMul, Nat.reduceSub, Nat.add_zero, Nat.zero_add, Int.reduceEq, Int.reduceLT]
      refine hK _ _ ?_; clear hK
      refine ⟨c - 1, by omega, rfl, k + 1, by omega, by omega, ?_⟩ -- ROUND
      simp only [go_sem, Nat.reduceEqDiff, Nat.reduceLT, Nat.reduceAdd, Nat.reduceMul, Nat.reduceSub, Nat.add_zero, Nat.zero_add, Int.reduceEq, Int.reduceLT, hcs]
      rw [i64w (by omega) (by omega)]; rfl
  · refine AWP.exit (Then.exit (Then.exit (InBlock.same ?_)))
    refine AWP.stepR [4] fun K hK => ?_
    simp only [go_sem, Nat.reduceEqDiff, Nat.reduceLT, Nat.reduceAdd, Nat.reduceMul, Nat.reduceSub, Nat.add_zero, Nat.zero_add, Int.reduceEq, Int.reduceLT]
    refine hK _ _ _ (by simp only [go_sem, Nat.reduceEqDiff, Nat.reduceLT, Nat.reduceAdd, Nat.reduceMul, Nat.reduceSub, Nat.add_zero, Nat.zero_add, Int.reduceEq, Int.reduceLT]; rfl) ?_; clear hK
    refine AWP.ret (?_)
    refine Fin.plain (.inr rfl) rfl rfl hok (Grew.refl _) ⟨?_, rfl⟩
    have hk2 : k = l.length - 1 := by simp at h18; omega
    rw [cutF, ← hk2]
end Go.Proofs.Ythheaehpnleiaaa.AX

/- Nodes that are the same are told to be; copies of rows. -/
namespace Go.Proofs.Ythheaehpnleiaaa.AX
open Go Go.Proofs
set_option maxRecDepth 100000
set_option linter.unusedVariables false
set_option linter.unusedSimpArgs false

def prD (p : Pr) : List Int × List Int := (p.key, p.val)
def kdD (k : Kd) : List Int × Int × Int := (k.key, k.page, k.epoch)

theorem samePairs82_true (v w : Value) (l m : List Pr) (M : Mem) (hok : Ok M) (hv : Row_ M v l.length (l.flatMap prC)) (hw : Row_ M w m.length (m.flatMap prC)) (hl : ∀ p, p ∈ l → PrOk M p) (hm : ∀ p, p ∈ m → PrOk M p)
    (hb : ∀ p, p ∈ l → p.key.length ≤ 1000 ∧ p.val.length ≤ 1000) (he : l.map prD = m.map prD) (hll : l.length ≤ 100000) : ∃ r M', ACall Try.prog 82 #[v, w] M r M' ∧ r = .bool true ∧ M' = M := by
  have hlen : m.length = l.length := by have := congrArg List.length he; simpa using this.symm
  refine ACall.fin (args := [v, w]) (k := 43) Try.func82 rfl rfl rfl (Nat.le_of_ble_eq_true rfl) ?_
  refine AWP.stepR [0, 1] fun K hK => ?_
  simp only [go_sem, Nat.reduceEqDiff, Nat.reduceLT, Nat.reduceAdd, Nat.reduceMul, Nat.reduceSub, Nat.add_zero, Nat.zero_add, Int.reduceEq, Int.reduceLT]
  refine hK _ _ _ (by simp only [go_sem, Nat.reduceEqDiff, Nat.reduceLT, Nat.reduceAdd, Nat.reduceMul, Nat.reduceSub, Nat.add_zero, Nat.zero_add, Int.reduceEq, Int.reduceLT]; rfl) ?_; clear hK
  refine AWP.seq ?_
  refine AWP.stepR [0, 1, 10] fun K hK => ?_
  simp only [go_sem, Nat.reduceEqDiff, Nat.reduceLT, Nat.reduceAdd, Nat.reduceMul, Nat.reduceSub, Nat.add_zero, Nat.zero_add, Int.reduceEq, Int.reduceLT, hv.len es_41, hw.len es_41, hlen, bne_self_eq_false]
  refine hK _ _ _ (by simp only [go_sem, Nat.reduceEqDiff, Nat.reduceLT, Nat.reduceAdd, Nat.reduceMul, Nat.reduceSub, Nat.add_zero, Nat.zero_add, Int.reduceEq, Int.reduceLT]; rfl) ?_; clear hK
  refine AWP.cond_split rfl (fun h10 => ?_) fun h10 => ?_
  · cases h10
  · refine AWP.skip ?_
    refine AWP.seq ?_
    refine AWP.stepR [0, 1, 5] fun K hK => ?_
    simp only [go_sem, Nat.reduceEqDiff, Nat.reduceLT, Nat.reduceAdd, Nat.reduceMul, Nat.reduceSub, Nat.add_zero, Nat.zero_add, Int.reduceEq, Int.reduceLT]
    refine hK _ _ _ (by simp only [go_sem, Nat.reduceEqDiff, Nat.reduceLT, Nat.reduceAdd, Nat.reduceMul, Nat.reduceSub, Nat.add_zero, Nat.zero_add, Int.reduceEq, Int.reduceLT]; rfl) ?_; clear hK
    refine AWP.block ?_ -- b0
    refine AWP.loopK [0, 1, 5] (fun n e M0 => M0 = M ∧ n ≤ l.length ∧ e = [(0, v), (1, w), (5, .int .i64 ((l.length - n : Nat) : Int))]) l.length ?_ fun n e M0 hI => ?_ -- LOOP
    · simp only [go_sem, Nat.reduceEqDiff, Nat.reduceLT, Nat.reduceAdd, Nat.reduceMul, Nat.reduceSub, Nat.add_zero, Nat.zero_add, Int.reduceEq, Int.reduceLT, true_and, Nat.le_refl]
      simp
    obtain ⟨rfl, hn, rfl⟩ := hI
    refine AWP.seq ?_
    refine AWP.stepR [0, 1, 5, 14] fun K hK => ?_
    simp only [go_sem, Nat.reduceEqDiff, Nat.reduceLT, Nat.reduceAdd, Nat.reduceMul, Nat.reduceSub, Nat.add_zero, Nat.zero_add, Int.reduceEq, Int.reduceLT, hv.len es_41]
    refine hK _ _ _ (by simp only [go_sem, Nat.reduceEqDiff, Nat.reduceLT, Nat.reduceAdd, Nat.reduceMul, Nat.reduceSub, Nat.add_zero, Nat.zero_add, Int.reduceEq, Int.reduceLT]; rfl) ?_; clear hK
    refine AWP.cond_split rfl (fun h14 => ?_) fun h14 => ?_
    · have hlt : l.length - n < l.length := by simpa using h14
      have hlt' : l.length - n < m.length := by omega
      obtain ⟨b, q, ha, hd⟩ := pr_at hv hlt
      obtain ⟨hd1, hd2, _⟩ := hd M0 (Grew.refl _)
      obtain ⟨b', q', ha', hd'⟩ := pr_at hw hlt'
      obtain ⟨hd1', hd2', _⟩ := hd' M0 (Grew.refl _)
      have hx := hl _ (List.getElem_mem hlt)
      have hy := hm _ (List.getElem_mem hlt')
      have hbx := hb _ (List.getElem_mem hlt)
      have hxy : prD l[l.length - n] = prD m[l.length - n] := by
        have := congrArg (fun z => z[l.length - n]?) he
        simpa [hlt, hlt'] using this
      generalize l[l.length - n] = x at hd1 hd2 hx hbx hxy
      generalize m[l.length - n] = y at hd1' hd2' hy hxy
      obtain ⟨r5, M5, hc5, hr5, hM5⟩ := same14_spec x.kv y.kv x.key y.key M0 hok hx.1 hy.1 (by omega)
      rw [hr5, hM5, show (x.key == y.key) = true by simpa [prD] using (Prod.mk.inj hxy).1] at hc5
      obtain ⟨r6, M6, hc6, hr6, hM6⟩ := same14_spec x.vv y.vv x.val y.val M0 hok hx.2 hy.2 (by omega)
      rw [hr6, hM6, show (x.val == y.val) = true by simpa [prD] using (Prod.mk.inj hxy).2] at hc6
      refine AWP.skip ?_
      refine AWP.seq ?_
      refine AWP.block ?_ -- b1
      refine AWP.stepD hmo [0, 1, 2, 3, 4, 5, 6, 7, 8, 9, 10, 11, 12, 13, 14, 15, 16, 17, 18, 19, 20, 21, 22, 23, 24, 25] [0, 0, 3, 7, 15, 0, 0, 96, 224, 480, 1023, 2047, 4095, 8191, 8191, 32767, 65535, 131071, 8191, 8191, 794623, 1843199, 3940351, 8388607, 16777215, 33554431] [] [] (by kernel_rfl) [0, 1, 5, 42] fun K hK => ?_
      simp only [go_sem, Nat.reduceEqDiff, Nat.reduceLT, Nat.reduceAdd, Nat.reduceMul, Nat.reduceSub, Nat.add_zero, Nat.zero_add, Int.reduceEq, Int.reduceLT, ha, ha', hd1, hd1', ld_23]
      refine ⟨_, _, hc5, ?_⟩
      try simp only [go_sem, Nat.reduceEqDiff, Nat.reduceLT, Nat.reduceAdd, Nat.reduceMul, Nat.reduceSub, Nat.add_zero, Nat.zero_add, Int.reduceEq, Int.reduceLT, ha, ha', hd2, hd2', ld_23]
      refine ⟨_, _, hc6, ?_⟩
      try simp only [go_sem, Nat.reduceEqDiff, Nat.reduceLT, Nat.reduceAdd, Nat.reduceMul, Nat.reduceSub, Nat.add_zero, Nat.zero_add, Int.reduceEq, Int.reduceLT]
      refine hK _ _ _ (by simp only [go_sem, Nat.reduceEqDiff, Nat.reduceLT, Nat.reduceAdd, Nat.reduceMul, Nat.reduceSub, Nat.add_zero, Nat.zero_add, Int.reduceEq, Int.reduceLT]; rfl) ?_; clear hK
      refine AWP.cond_split rfl (fun h42 => ?_) fun h42 => ?_
      · cases h42
      · refine AWP.skip ?_
        refine AWP.lastR fun K hK => ?_
        simp only [go_sem, Nat.reduceEqDiff, Nat.reduceLT, Nat.reduceAdd, Nat.reduceMul, Nat.reduceSub, Nat.add_zero, Nat.zero_add, Int.reduceEq, Int.reduceLT]
        refine hK _ _ ?_; clear hK
        refine ⟨n - 1, by omega, rfl, by omega, ?_⟩ -- ROUND
        simp only [go_sem, Nat.reduceEqDiff, Nat.reduceLT, Nat.reduceAdd, Nat.reduceMul, Nat.reduceSub, Nat.add_zero, Nat.zero_add, Int.reduceEq, Int.reduceLT]
        rw [i64w (by omega) (by omega), show ((l.length - n : Nat) : Int) + 1 = ((l.length - (n - 1) : Nat) : Int) by omega]
    · refine AWP.exit (Then.exit (Then.exit (InBlock.same ?_)))
      refine AWP.stepR [4] fun K hK => ?_
      simp only [go_sem, Nat.reduceEqDiff, Nat.reduceLT, Nat.reduceAdd, Nat.reduceMul, Nat.reduceSub, Nat.add_zero, Nat.zero_add, Int.reduceEq, Int.reduceLT]
      refine hK _ _ _ (by simp only [go_sem, Nat.reduceEqDiff, Nat.reduceLT, Nat.reduceAdd, Nat.reduceMul, Nat.reduceSub, Nat.add_zero, Nat.zero_add, Int.reduceEq, Int.reduceLT]; rfl) ?_; clear hK
      refine AWP.ret (?_)
      exact Fin.plain (.inr rfl) rfl rfl hok (Grew.refl _) ⟨rfl, rfl⟩

/-- nodes of which the same is known -/
structure SameN (n m : Node) : Prop where
  leaf : n.leaf = m.leaf
  pairs : n.pairs.map prD = m.pairs.map prD
  kids : n.kids.map kdD = m.kids.map kdD
theorem bnq_4 (a b : Bool) : binV Try.prog .neq 4 (.bool a) (.bool b) = some (.bool (!(a == b))) := by
  simp only [binV, eqV, eq0, un_4, Option.map_some]
theorem same30_true (n m : Node) (vp vk wp wk : Value) (M : Mem) (hok : Ok M) (hr : NodeR M n vp vk) (hs : NodeR M m wp wk) (hL : Lt18 n) (he : SameN n m) :
    ∃ r M', ACall Try.prog 30 #[.agg (nodeC n.leaf vp vk).toArray, .agg (nodeC m.leaf wp wk).toArray] M r M' ∧ r = .bool true ∧ M' = M := by
  refine ACall.fin (args := [.agg (nodeC n.leaf vp vk).toArray, .agg (nodeC m.leaf wp wk).toArray]) (k := 79) Try.func30 rfl rfl rfl (Nat.le_of_ble_eq_true rfl) ?_
  have hlk := hL.kids
  have hlp := hL.pairs
  have hlen : m.kids.length = n.kids.length := by have := congrArg List.length he.kids; simpa using this.symm
  have hleaf := he.leaf
  refine AWP.stepR [2, 3] fun K hK => ?_
  simp only [go_sem, Nat.reduceEqDiff, Nat.reduceLT, Nat.reduceAdd, Nat.reduceMul, Nat.reduceSub, Nat.add_zero, Nat.zero_add, Int.reduceEq, Int.reduceLT]
  refine hK _ _ _ (by simp only [go_sem, Nat.reduceEqDiff, Nat.reduceLT, Nat.reduceAdd, Nat.reduceMul, Nat.reduceSub, Nat.add_zero, Nat.zero_add, Int.reduceEq, Int.reduceLT]; rfl) ?_; clear hK
  have hlt1 : M.next < (M.bump 2).next := by rw [Mem.next_bump]; omega
  have hlt2 : M.next + 1 < (M.bump 2).next := by rw [Mem.next_bump]; omega
  obtain ⟨hg1, hh1⟩ := mk_put ((Grew.refl M).bump 2) (Nat.le_refl _) hlt1 ⟨nodeC n.leaf vp vk, 44, true⟩
  obtain ⟨hg2, hh2⟩ := mk_put hg1 (show M.next ≤ M.next + 1 by omega) (show M.next + 1 < ((M.bump 2).put M.next ⟨nodeC n.leaf vp vk, 44, true⟩).next from hlt2) ⟨nodeC m.leaf wp wk, 44, true⟩
  have hh1 := hh1.put' (show M.next ≠ M.next + 1 by omega) ⟨nodeC m.leaf wp wk, 44, true⟩
  change AWP _ _ _ ⟨_, ((M.bump 2).put M.next ⟨nodeC n.leaf vp vk, 44, true⟩).put (M.next + 1) ⟨nodeC m.leaf wp wk, 44, true⟩⟩ _
  clear hg1
  generalize ((M.bump 2).put M.next ⟨nodeC n.leaf vp vk, 44, true⟩).put (M.next + 1) ⟨nodeC m.leaf wp wk, 44, true⟩ = M1 at hg2 hh1 hh2
  have hr := hr.grew hg2
  have hs := hs.grew hg2
  obtain ⟨r5, M5, hc5, hr5, hM5⟩ := samePairs82_true vp wp n.pairs m.pairs M1 (hg2.ok hok) hr.pairs hs.pairs (fun p hp => ⟨hr.pk p hp, hr.pv p hp⟩) (fun p hp => ⟨hs.pk p hp, hs.pv p hp⟩) (fun p hp => ⟨by have := hL.pk p hp; omega, by have := hL.pv p hp; omega⟩) he.pairs (by omega)
  rw [hr5, hM5] at hc5
  refine AWP.seq ?_
  refine AWP.stepR [2, 3, 27] fun K hK => ?_
  simp only [go_sem, Nat.reduceEqDiff, Nat.reduceLT, Nat.reduceAdd, Nat.reduceMul, Nat.reduceSub, Nat.add_zero, Nat.zero_add, Int.reduceEq, Int.reduceLT, ld_4, ld_41, ld_42, hh1.ld, hh2.ld, nodeC, bnq_4, hleaf, show (m.leaf == m.leaf) = true by cases m.leaf <;> rfl, Bool.not_true]
  refine ⟨_, _, hc5, ?_⟩
  try simp only [go_sem, Nat.reduceEqDiff, Nat.reduceLT, Nat.reduceAdd, Nat.reduceMul, Nat.reduceSub, Nat.add_zero, Nat.zero_add, Int.reduceEq, Int.reduceLT, ld_42, hh1.ld, hh2.ld, nodeC, hr.kids.len es_42, hs.kids.len es_42, hlen, bne_self_eq_false]
  refine hK _ _ _ (by simp only [go_sem, Nat.reduceEqDiff, Nat.reduceLT, Nat.reduceAdd, Nat.reduceMul, Nat.reduceSub, Nat.add_zero, Nat.zero_add, Int.reduceEq, Int.reduceLT]; rfl) ?_; clear hK
  refine AWP.cond_split rfl (fun h27 => ?_) fun h27 => ?_
  · cases h27
  · refine AWP.skip ?_
    refine AWP.seq ?_
    refine AWP.stepR [2, 3, 5] fun K hK => ?_
    simp only [go_sem, Nat.reduceEqDiff, Nat.reduceLT, Nat.reduceAdd, Nat.reduceMul, Nat.reduceSub, Nat.add_zero, Nat.zero_add, Int.reduceEq, Int.reduceLT]
    refine hK _ _ _ (by simp only [go_sem, Nat.reduceEqDiff, Nat.reduceLT, Nat.reduceAdd, Nat.reduceMul, Nat.reduceSub, Nat.add_zero, Nat.zero_add, Int.reduceEq, Int.reduceLT]; rfl) ?_; clear hK
    refine AWP.block ?_ -- b0
    refine AWP.loopK [2, 3, 5] (fun c e M0 => M0 = M1 ∧ c ≤ n.kids.length ∧ e = [(2, .pointer (some ⟨M.next, 0, none⟩)), (3, .pointer (some ⟨M.next + 1, 0, none⟩)), (5, .int .i64 ((n.kids.length - c : Nat) : Int))]) n.kids.length ?_ fun c e M0 hI => ?_ -- LOOP
    · simp only [go_sem, Nat.reduceEqDiff, Nat.reduceLT, Nat.reduceAdd, Nat.reduceMul, Nat.reduceSub, Nat.add_zero, Nat.zero_add, Int.reduceEq, Int.reduceLT, true_and, Nat.le_refl]
      simp
    obtain ⟨rfl, hn, rfl⟩ := hI
    refine AWP.seq ?_
    refine AWP.stepR [2, 3, 5, 32] fun K hK => ?_
    simp only [go_sem, Nat.reduceEqDiff, Nat.reduceLT, Nat.reduceAdd, Nat.reduceMul, Nat.reduceSub, Nat.add_zero, Nat.zero_add, Int.reduceEq, Int.reduceLT, ld_42, hh1.ld, nodeC, hr.kids.len es_42]
    refine hK _ _ _ (by simp only [go_sem, Nat.reduceEqDiff, Nat.reduceLT, Nat.reduceAdd, Nat.reduceMul, Nat.reduceSub, Nat.add_zero, Nat.zero_add, Int.reduceEq, Int.reduceLT]; rfl) ?_; clear hK
    refine AWP.cond_split rfl (fun h32 => ?_) fun h32 => ?_
    · have hlt : n.kids.length - c < n.kids.length := by simpa using h32
      have hlt' : n.kids.length - c < m.kids.length := by omega
      obtain ⟨b, q, ha, hd⟩ := kd_at hr.kids hlt
      obtain ⟨hd1, hd2, hd3, _⟩ := hd M0 (Grew.refl _)
      obtain ⟨b', q', ha', hd'⟩ := kd_at hs.kids hlt'
      obtain ⟨hd1', hd2', hd3', _⟩ := hd' M0 (Grew.refl _)
      have hx := hr.kk _ (List.getElem_mem hlt)
      have hy := hs.kk _ (List.getElem_mem hlt')
      have hbx := hL.kk _ (List.getElem_mem hlt)
      have hxy : kdD n.kids[n.kids.length - c] = kdD m.kids[n.kids.length - c] := by
        have := congrArg (fun z => z[n.kids.length - c]?) he.kids
        simpa [hlt, hlt'] using this
      generalize n.kids[n.kids.length - c] = x at hd1 hd2 hd3 hx hbx hxy
      generalize m.kids[n.kids.length - c] = y at hd1' hd2' hd3' hy hxy
      simp only [kdD, Prod.mk.injEq] at hxy
      obtain ⟨e1, e2, e3⟩ := hxy
      rw [← e2] at hd2'
      rw [← e3] at hd3'
      obtain ⟨r6, M6, hc6, hr6, hM6⟩ := same14_spec x.kv y.kv x.key y.key M0 (hg2.ok hok) hx hy (by omega)
      rw [hr6, hM6, show (x.key == y.key) = true by simpa using e1] at hc6
      refine AWP.skip ?_
      refine AWP.seq ?_
      refine AWP.block ?_ -- b1
      refine AWP.stepD hmo [0, 1, 2, 3, 4, 5, 6, 7, 8, 9, 10, 11, 12, 13, 14, 15, 16, 17, 18, 19, 20, 21, 22, 23, 24, 25, 26, 27, 28, 29, 30, 31, 32, 33, 34, 35, 36, 37, 38, 39, 40, 41, 42, 43] [0, 1, 0, 7, 15, 31, 0, 64, 0, 448, 960, 1984, 4095, 8191, 16383, 32767, 16383, 131071, 262143, 524287, 16383, 1064959, 16383, 7356415, 15745023, 32522239, 67108863, 134217727, 268435455, 536870911, 1073741823, 536870911, 4294967295, 8589934591, 17179869183, 536870911, 34896609279, 536870911, 241055039487, 515932946431, 1065688760319, 2199023255551, 4398046511103, 8796093022207] [] [] (by kernel_rfl) [2, 3, 5, 78] fun K hK => ?_
      simp -implicitDefEqProofs only [go_sem, Nat.reduceEqDiff, Nat.reduceLT, Nat.reduceAdd, Nat.reduceMul, Nat.reduceSub, Nat.add_zero, Nat.zero_add, Int.reduceEq, Int.reduceLT, ld_42, ld_3, ld_23, hh1.ld, hh2.ld, nodeC, ha, ha', hd1, hd1', hd2, hd2', hd3, hd3', bne_self_eq_false]
      refine ⟨_, _, hc6, ?_⟩
      simp -implicitDefEqProofs only [go_sem, Nat.reduceEqDiff, Nat.reduceLT, Nat.reduceAdd, Nat.reduceMul, Nat.reduceSub, Nat.add_zero, Nat.zero_add, Int.reduceEq, Int.reduceLT]
      refine hK _ _ _ (by simp only [go_sem, Nat.reduceEqDiff, Nat.reduceLT, Nat.reduceAdd, Nat.reduceMul, Nat.reduceSub, Nat.add_zero, Nat.zero_add, Int.reduceEq, Int.reduceLT]; rfl) ?_; clear hK
      refine AWP.cond_split rfl (fun h78 => ?_) fun h78 => ?_
      · cases h78
      · refine AWP.skip ?_
        refine AWP.lastR fun K hK => ?_
        simp only [go_sem, Nat.reduceEqDiff, Nat.reduceLT, Nat.reduceAdd, Nat.reduceMul, Nat.reduceSub, Nat.add_zero, Nat.zero_add, Int.reduceEq, Int.reduceLT]
        refine hK _ _ ?_; clear hK
        refine ⟨c - 1, by omega, rfl, by omega, ?_⟩ -- ROUND
        simp only [go_sem, Nat.reduceEqDiff, Nat.reduceLT, Nat.reduceAdd, Nat.reduceMul, Nat.reduceSub, Nat.add_zero, Nat.zero_add, Int.reduceEq, Int.reduceLT]
        rw [i64w (by omega) (by omega), show ((n.kids.length - c : Nat) : Int) + 1 = ((n.kids.length - (c - 1) : Nat) : Int) by omega]
    · refine AWP.exit (Then.exit (Then.exit (InBlock.same ?_)))
      refine AWP.stepR [4] fun K hK => ?_
      simp only [go_sem, Nat.reduceEqDiff, Nat.reduceLT, Nat.reduceAdd, Nat.reduceMul, Nat.reduceSub, Nat.add_zero, Nat.zero_add, Int.reduceEq, Int.reduceLT]
      refine hK _ _ _ (by simp only [go_sem, Nat.reduceEqDiff, Nat.reduceLT, Nat.reduceAdd, Nat.reduceMul, Nat.reduceSub, Nat.add_zero, Nat.zero_add, Int.reduceEq, Int.reduceLT]; rfl) ?_; clear hK
      refine AWP.ret (?_)
      exact Fin.plain (.inr rfl) rfl rfl hok hg2 ⟨rfl, rfl⟩
end Go.Proofs.Ythheaehpnleiaaa.AX
