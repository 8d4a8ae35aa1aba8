/- Where a key stands: the program's answer and the document's. -/
import Derived.Test.YthheaehpnleiaaaAxN6
namespace Go.Proofs.Ythheaehpnleiaaa.AX
open Go Go.Proofs
set_option maxRecDepth 100000
set_option linter.unusedVariables false
set_option linter.unusedSimpArgs false

/-- a node whose keys are bytes -/
structure NodeB (n : Node) : Prop where
  pk : ∀ p, p ∈ n.pairs → Byt p.key
  pv : ∀ p, p ∈ n.pairs → Byt p.val
  kk : ∀ k, k ∈ n.kids → Byt k.key
def wayF (l : List (List Int)) (k : List Int) : Nat := notF l k - 1

section
variable (n : Node) (vp vk kv : Value) (k : List Int) (M : Mem)

theorem find31_spec (hok : Ok M) (hr : NodeR M n vp vk) (hb : NodeB n) (hk : RowB M kv k) (hbk : Byt k) (hrise : risingB (n.pairs.map Pr.key) = true) (hl : n.pairs.length ≤ 1000) :
    ∃ r M', ACall Try.prog 31 #[.agg (nodeC n.leaf vp vk).toArray, kv] M r M' ∧ r = .tuple #[.int .i64 (posF (n.pairs.map Pr.key) k), .bool (foundF (n.pairs.map Pr.key) k)] ∧ M' = M := by
  refine ACall.fin (args := [.agg (nodeC n.leaf vp vk).toArray, kv]) (k := 12) Try.func31 rfl rfl rfl (Nat.le_of_ble_eq_true rfl) ?_
  refine AWP.stepR [1, 2] fun K hK => ?_
  simp only [go_sem, Nat.reduceEqDiff, Nat.reduceLT, Nat.reduceAdd, Nat.reduceMul, Nat.reduceSub, Nat.add_zero, Nat.zero_add, Int.reduceEq, Int.reduceLT]
  refine hK _ _ _ (by simp only [go_sem, Nat.reduceEqDiff, Nat.reduceLT, Nat.reduceAdd, Nat.reduceMul, Nat.reduceSub, Nat.add_zero, Nat.zero_add, Int.reduceEq, Int.reduceLT]; rfl) ?_; clear hK
  have hlt1 : M.next < (M.bump 1).next := Nat.lt_succ_self _
  obtain ⟨hg1, hh1⟩ := mk_put ((Grew.refl M).bump 1) (Nat.le_refl _) hlt1 ⟨nodeC n.leaf vp vk, 44, true⟩
  change AWP _ _ _ ⟨_, (M.bump 1).put M.next ⟨nodeC n.leaf vp vk, 44, true⟩⟩ _
  generalize hM1 : (M.bump 1).put M.next ⟨nodeC n.leaf vp vk, 44, true⟩ = M1 at hg1 hh1
  have hr := hr.grew hg1
  obtain ⟨r2, M2, hc2, hr2, hM2⟩ := find83_spec vp kv n.pairs k M1 (hg1.ok hok) hr.pairs hr.pk (hk.grew hg1) hb.pk hbk hrise hl
  rw [hr2, hM2] at hc2
  refine AWP.stepR [4, 5] fun K hK => ?_
  simp only [go_sem, Nat.reduceEqDiff, Nat.reduceLT, Nat.reduceAdd, Nat.reduceMul, Nat.reduceSub, Nat.add_zero, Nat.zero_add, Int.reduceEq, Int.reduceLT, ld_41, hh1.ld, nodeC]
  refine ⟨_, _, hc2, ?_⟩
  simp only [go_sem, Nat.reduceEqDiff, Nat.reduceLT, Nat.reduceAdd, Nat.reduceMul, Nat.reduceSub, Nat.add_zero, Nat.zero_add, Int.reduceEq, Int.reduceLT, extractV]
  refine hK _ _ _ (by simp only [go_sem, Nat.reduceEqDiff, Nat.reduceLT, Nat.reduceAdd, Nat.reduceMul, Nat.reduceSub, Nat.add_zero, Nat.zero_add, Int.reduceEq, Int.reduceLT]; rfl) ?_; clear hK
  refine AWP.ret (?_)
  exact Fin.two (.inr rfl) rfl rfl rfl hok hg1 ⟨rfl, rfl⟩

theorem find32_spec (hok : Ok M) (hr : NodeR M n vp vk) (hk : RowB M kv k) (hL : Lt18 n) (hkl : k.length ≤ 1000) :
    ∃ r M', ACall Try.prog 32 #[.agg (nodeC n.leaf vp vk).toArray, kv] M r M' ∧ r = .tuple #[.int .i64 (posF (n.pairs.map Pr.key) k), .bool (foundF (n.pairs.map Pr.key) k)] ∧ M' = M := by
  refine ACall.fin (args := [.agg (nodeC n.leaf vp vk).toArray, kv]) (k := 40) Try.func32 rfl rfl rfl (Nat.le_of_ble_eq_true rfl) ?_
  refine AWP.stepR [1, 2] fun K hK => ?_
  simp only [go_sem, Nat.reduceEqDiff, Nat.reduceLT, Nat.reduceAdd, Nat.reduceMul, Nat.reduceSub, Nat.add_zero, Nat.zero_add, Int.reduceEq, Int.reduceLT]
  refine hK _ _ _ (by simp only [go_sem, Nat.reduceEqDiff, Nat.reduceLT, Nat.reduceAdd, Nat.reduceMul, Nat.reduceSub, Nat.add_zero, Nat.zero_add, Int.reduceEq, Int.reduceLT]; rfl) ?_; clear hK
  have hlt1 : M.next < (M.bump 1).next := Nat.lt_succ_self _
  obtain ⟨hg1, hh1⟩ := mk_put ((Grew.refl M).bump 1) (Nat.le_refl _) hlt1 ⟨nodeC n.leaf vp vk, 44, true⟩
  change AWP _ _ _ ⟨_, (M.bump 1).put M.next ⟨nodeC n.leaf vp vk, 44, true⟩⟩ _
  generalize hM1 : (M.bump 1).put M.next ⟨nodeC n.leaf vp vk, 44, true⟩ = M1 at hg1 hh1
  have hr := hr.grew hg1
  have hk := hk.grew hg1
  have hlp := hL.pairs
  obtain ⟨lf, ps, ks⟩ := n
  simp only at hlp hh1
  have hple := posF_le (ps.map Pr.key) k
  rw [List.length_map] at hple
  refine AWP.stepR [1, 2, 6] fun K hK => ?_
  simp only [go_sem, Nat.reduceEqDiff, Nat.reduceLT, Nat.reduceAdd, Nat.reduceMul, Nat.reduceSub, Nat.add_zero, Nat.zero_add, Int.reduceEq, Int.reduceLT]
  refine hK _ _ _ (by simp only [go_sem, Nat.reduceEqDiff, Nat.reduceLT, Nat.reduceAdd, Nat.reduceMul, Nat.reduceSub, Nat.add_zero, Nat.zero_add, Int.reduceEq, Int.reduceLT]; rfl) ?_; clear hK
  refine AWP.seq ?_
  refine AWP.block ?_ -- b0
  refine AWP.loopK [1, 2, 6] (fun c e M0 => M0 = M1 ∧ ∃ i : Nat, c = ps.length - i ∧ i ≤ posF (ps.map Pr.key) k ∧ e = [(1, kv), (2, .pointer (some ⟨M.next, 0, none⟩)), (6, .int .i64 i)]) ps.length ?_ fun c e M0 hI => ?_ -- LOOP
  · simp only [go_sem, Nat.reduceEqDiff, Nat.reduceLT, Nat.reduceAdd, Nat.reduceMul, Nat.reduceSub, Nat.add_zero, Nat.zero_add, Int.reduceEq, Int.reduceLT, true_and]
    exact ⟨0, rfl, by omega, rfl⟩
  obtain ⟨rfl, i, hc, hi, rfl⟩ := hI
  have hat : ∀ (hil : i < ps.length), ∃ b q, (∀ kk, indexAddrV Try.prog 41 vp (.int kk i) = some (.pointer (some ⟨b, q, none⟩))) ∧ ldS M0.get b q = some ps[i].kv ∧ RowB M0 ps[i].kv ps[i].key ∧ ps[i].key.length ≤ 300 := by
    intro hil
    obtain ⟨b, q, ha, hd⟩ := pr_at hr.pairs hil
    exact ⟨b, q, ha, (hd M0 (Grew.refl _)).1, hr.pk _ (List.getElem_mem hil), hL.pk _ (List.getElem_mem hil)⟩
  have hlss : ∀ (hil : i < ps.length), lessB ps[i].key k = decide (i < posF (ps.map Pr.key) k) := by
    intro hil
    by_cases hlt : i < posF (ps.map Pr.key) k
    · have := posF_lt hlt (by simpa using hil)
      rw [List.getElem_map] at this
      rw [this, decide_eq_true hlt]
    · have he : i = posF (ps.map Pr.key) k := by omega
      have := posF_at (l := ps.map Pr.key) (k := k) (by rw [← he]; simpa using hil)
      simp only [← he, List.getElem_map] at this
      rw [this, decide_eq_false hlt]
  refine AWP.seq ?_
  refine AWP.stepX [1, 2, 6, 21] [(1, kv), (2, .pointer (some ⟨M.next, 0, none⟩)), (6, .int .i64 i), (21, .bool (decide (i < posF (ps.map Pr.key) k)))] M0 (fun K hK => ?_) ?_
  · by_cases hil : i < ps.length
    · obtain ⟨b, q, ha, hd, hkr, hkl2⟩ := hat hil
      obtain ⟨r2, M2, hc2, hr2, hM2⟩ := less77_spec ps[i].kv kv ps[i].key k M0 (hg1.ok hok) hkr hk (by omega)
      rw [hr2, hM2, hlss hil] at hc2
      simp only [go_sem, Nat.reduceEqDiff, Nat.reduceLT, Nat.reduceAdd, Nat.reduceMul, Nat.reduceSub, Nat.add_zero, Nat.zero_add, Int.reduceEq, Int.reduceLT, ld_41, hh1.ld, nodeC, hr.pairs.len es_41, decide_eq_true (show (i : Int) < (ps.length : Int) by omega), ha, hd, ld_23]
      refine ⟨_, _, hc2, ?_⟩
      refine hK _ ?_
      simp only [go_sem, Nat.reduceEqDiff, Nat.reduceLT, Nat.reduceAdd, Nat.reduceMul, Nat.reduceSub, Nat.add_zero, Nat.zero_add, Int.reduceEq, Int.reduceLT]
    · simp only [go_sem, Nat.reduceEqDiff, Nat.reduceLT, Nat.reduceAdd, Nat.reduceMul, Nat.reduceSub, Nat.add_zero, Nat.zero_add, Int.reduceEq, Int.reduceLT, ld_41, hh1.ld, nodeC, hr.pairs.len es_41, decide_eq_false (show ¬ (i : Int) < (ps.length : Int) by omega)]
      refine hK _ ?_
      simp only [go_sem, Nat.reduceEqDiff, Nat.reduceLT, Nat.reduceAdd, Nat.reduceMul, Nat.reduceSub, Nat.add_zero, Nat.zero_add, Int.reduceEq, Int.reduceLT, decide_eq_false (show ¬ i < posF (ps.map Pr.key) k by omega)]
  refine AWP.cond_split rfl (fun h21 => ?_) fun h21 => ?_
  · have hlt : i < posF (ps.map Pr.key) k := by simpa using h21
    refine AWP.skip ?_
    refine AWP.block ?_ -- b1
    refine AWP.lastR fun K hK => ?_
    simp only [go_sem, Nat.reduceEqDiff, Nat.reduceLT, Nat.reduceAdd, Nat.reduceMul, Nat.reduceSub, Nat.add_zero, Nat.zero_add, Int.reduceEq, Int.reduceLT]
    refine hK _ _ ?_; clear hK
    refine ⟨ps.length - (i + 1), by omega, rfl, i + 1, rfl, by omega, ?_⟩ -- ROUND
    simp only [go_sem, Nat.reduceEqDiff, Nat.reduceLT, Nat.reduceAdd, Nat.reduceMul, Nat.reduceSub, Nat.add_zero, Nat.zero_add, Int.reduceEq, Int.reduceLT]
    rw [i64w (by omega) (by omega)]; rfl
  · have he : i = posF (ps.map Pr.key) k := by simp at h21; omega
    have hfe : foundF (ps.map Pr.key) k = decide (∃ h : i < ps.length, ps[i].key = k) := by
      unfold foundF
      rw [decide_eq_decide, ← he, List.getElem?_map]
      by_cases hil : i < ps.length
      · rw [List.getElem?_eq_getElem hil]
        simp [hil]
      · rw [List.getElem?_eq_none (by omega)]
        simp [hil]
    rw [← he, hfe]
    refine AWP.exit (Then.exit (Then.exit (InBlock.same ?_)))
    by_cases hil : i < ps.length
    · obtain ⟨b, q, ha, hd, hkr, hkl2⟩ := hat hil
      obtain ⟨r2, M2, hc2, hr2, hM2⟩ := same14_spec ps[i].kv kv ps[i].key k M0 (hg1.ok hok) hkr hk (by omega)
      rw [hr2, hM2] at hc2
      refine AWP.stepR [4, 5] fun K hK => ?_
      simp only [go_sem, Nat.reduceEqDiff, Nat.reduceLT, Nat.reduceAdd, Nat.reduceMul, Nat.reduceSub, Nat.add_zero, Nat.zero_add, Int.reduceEq, Int.reduceLT, ld_41, hh1.ld, nodeC, hr.pairs.len es_41, decide_eq_true (show (i : Int) < (ps.length : Int) by omega), ha, hd, ld_23]
      refine ⟨_, _, hc2, ?_⟩
      refine hK _ _ _ (by simp only [go_sem, Nat.reduceEqDiff, Nat.reduceLT, Nat.reduceAdd, Nat.reduceMul, Nat.reduceSub, Nat.add_zero, Nat.zero_add, Int.reduceEq, Int.reduceLT]; rfl) ?_; clear hK
      refine AWP.ret (?_)
      refine Fin.two (.inr rfl) rfl rfl rfl hok hg1 ⟨?_, rfl⟩
      rw [show decide (∃ h : i < ps.length, ps[i].key = k) = (ps[i].key == k) from Bool.eq_iff_iff.2 (by simp [hil])]
    · refine AWP.stepR [4, 5] fun K hK => ?_
      simp only [go_sem, Nat.reduceEqDiff, Nat.reduceLT, Nat.reduceAdd, Nat.reduceMul, Nat.reduceSub, Nat.add_zero, Nat.zero_add, Int.reduceEq, Int.reduceLT, ld_41, hh1.ld, nodeC, hr.pairs.len es_41, decide_eq_false (show ¬ (i : Int) < (ps.length : Int) by omega)]
      refine hK _ _ _ (by simp only [go_sem, Nat.reduceEqDiff, Nat.reduceLT, Nat.reduceAdd, Nat.reduceMul, Nat.reduceSub, Nat.add_zero, Nat.zero_add, Int.reduceEq, Int.reduceLT]; rfl) ?_; clear hK
      refine AWP.ret (?_)
      refine Fin.two (.inr rfl) rfl rfl rfl hok hg1 ⟨?_, rfl⟩
      rw [decide_eq_false (by rintro ⟨h, _⟩; exact hil h)]

theorem way33_spec (hok : Ok M) (hr : NodeR M n vp vk) (hb : NodeB n) (hk : RowB M kv k) (hbk : Byt k) (hrise : risingB (n.kids.map Kd.key) = true) (hl : n.kids.length ≤ 1000) :
    ∃ r M', ACall Try.prog 33 #[.agg (nodeC n.leaf vp vk).toArray, kv] M r M' ∧ r = .int .i64 (wayF (n.kids.map Kd.key) k) ∧ M' = M := by
  refine ACall.fin (args := [.agg (nodeC n.leaf vp vk).toArray, kv]) (k := 19) Try.func33 rfl rfl rfl (Nat.le_of_ble_eq_true rfl) ?_
  have hple := posF_le (n.kids.map Kd.key) k
  rw [List.length_map] at hple
  refine AWP.stepR [1, 2] fun K hK => ?_
  simp only [go_sem, Nat.reduceEqDiff, Nat.reduceLT, Nat.reduceAdd, Nat.reduceMul, Nat.reduceSub, Nat.add_zero, Nat.zero_add, Int.reduceEq, Int.reduceLT]
  refine hK _ _ _ (by simp only [go_sem, Nat.reduceEqDiff, Nat.reduceLT, Nat.reduceAdd, Nat.reduceMul, Nat.reduceSub, Nat.add_zero, Nat.zero_add, Int.reduceEq, Int.reduceLT]; rfl) ?_; clear hK
  have hlt1 : M.next < (M.bump 1).next := Nat.lt_succ_self _
  obtain ⟨hg1, hh1⟩ := mk_put ((Grew.refl M).bump 1) (Nat.le_refl _) hlt1 ⟨nodeC n.leaf vp vk, 44, true⟩
  change AWP _ _ _ ⟨_, (M.bump 1).put M.next ⟨nodeC n.leaf vp vk, 44, true⟩⟩ _
  generalize hM1 : (M.bump 1).put M.next ⟨nodeC n.leaf vp vk, 44, true⟩ = M1 at hg1 hh1
  have hr := hr.grew hg1
  obtain ⟨r2, M2, hc2, hr2, hM2⟩ := find84_spec vk kv n.kids k M1 (hg1.ok hok) hr.kids hr.kk (hk.grew hg1) hb.kk hbk hrise hl
  rw [hr2, hM2] at hc2
  refine AWP.stepR [5, 6] fun K hK => ?_
  simp only [go_sem, Nat.reduceEqDiff, Nat.reduceLT, Nat.reduceAdd, Nat.reduceMul, Nat.reduceSub, Nat.add_zero, Nat.zero_add, Int.reduceEq, Int.reduceLT, ld_42, hh1.ld, nodeC]
  refine ⟨_, _, hc2, ?_⟩
  simp only [go_sem, Nat.reduceEqDiff, Nat.reduceLT, Nat.reduceAdd, Nat.reduceMul, Nat.reduceSub, Nat.add_zero, Nat.zero_add, Int.reduceEq, Int.reduceLT, extractV]
  refine hK _ _ _ (by simp only [go_sem, Nat.reduceEqDiff, Nat.reduceLT, Nat.reduceAdd, Nat.reduceMul, Nat.reduceSub, Nat.add_zero, Nat.zero_add, Int.reduceEq, Int.reduceLT]; rfl) ?_; clear hK
  refine AWP.seq ?_
  refine AWP.stepR [5, 14] fun K hK => ?_
  simp only [go_sem, Nat.reduceEqDiff, Nat.reduceLT, Nat.reduceAdd, Nat.reduceMul, Nat.reduceSub, Nat.add_zero, Nat.zero_add, Int.reduceEq, Int.reduceLT]
  refine hK _ _ _ (by simp only [go_sem, Nat.reduceEqDiff, Nat.reduceLT, Nat.reduceAdd, Nat.reduceMul, Nat.reduceSub, Nat.add_zero, Nat.zero_add, Int.reduceEq, Int.reduceLT]; rfl) ?_; clear hK
  refine AWP.cond_split rfl (fun h14 => ?_) fun h14 => ?_
  · refine AWP.stepR [4] fun K hK => ?_
    simp only [go_sem, Nat.reduceEqDiff, Nat.reduceLT, Nat.reduceAdd, Nat.reduceMul, Nat.reduceSub, Nat.add_zero, Nat.zero_add, Int.reduceEq, Int.reduceLT]
    refine hK _ _ _ (by simp only [go_sem, Nat.reduceEqDiff, Nat.reduceLT, Nat.reduceAdd, Nat.reduceMul, Nat.reduceSub, Nat.add_zero, Nat.zero_add, Int.reduceEq, Int.reduceLT]; rfl) ?_; clear hK
    refine AWP.ret (Then.ret (?_))
    refine Fin.plain (.inr rfl) rfl rfl hok hg1 ⟨?_, rfl⟩
    rw [wayF, notF, h14, if_pos rfl, Nat.add_sub_cancel]
  · refine AWP.skip ?_
    refine AWP.stepR [4] fun K hK => ?_
    simp only [go_sem, Nat.reduceEqDiff, Nat.reduceLT, Nat.reduceAdd, Nat.reduceMul, Nat.reduceSub, Nat.add_zero, Nat.zero_add, Int.reduceEq, Int.reduceLT]
    refine hK _ _ _ (by simp only [go_sem, Nat.reduceEqDiff, Nat.reduceLT, Nat.reduceAdd, Nat.reduceMul, Nat.reduceSub, Nat.add_zero, Nat.zero_add, Int.reduceEq, Int.reduceLT]; rfl) ?_; clear hK
    refine AWP.ret (?_)
    refine Fin.plain (.inr rfl) rfl rfl hok hg1 ⟨?_, rfl⟩
    have hw : wayF (n.kids.map Kd.key) k = posF (n.kids.map Kd.key) k - 1 := by rw [wayF, notF, h14]; rfl
    rw [hw, i64w (n := (posF (n.kids.map Kd.key) k : Int) - 1) (by omega) (by omega)]
    congr 1
    split <;> omega

theorem way34_spec (hok : Ok M) (hr : NodeR M n vp vk) (hk : RowB M kv k) (hL : Lt18 n) (hkl : k.length ≤ 1000) (hrise : risingB (n.kids.map Kd.key) = true) :
    ∃ r M', ACall Try.prog 34 #[.agg (nodeC n.leaf vp vk).toArray, kv] M r M' ∧ r = .int .i64 (wayF (n.kids.map Kd.key) k) ∧ M' = M := by
  refine ACall.fin (args := [.agg (nodeC n.leaf vp vk).toArray, kv]) (k := 25) Try.func34 rfl rfl rfl (Nat.le_of_ble_eq_true rfl) ?_
  refine AWP.stepR [1, 2] fun K hK => ?_
  simp only [go_sem, Nat.reduceEqDiff, Nat.reduceLT, Nat.reduceAdd, Nat.reduceMul, Nat.reduceSub, Nat.add_zero, Nat.zero_add, Int.reduceEq, Int.reduceLT]
  refine hK _ _ _ (by simp only [go_sem, Nat.reduceEqDiff, Nat.reduceLT, Nat.reduceAdd, Nat.reduceMul, Nat.reduceSub, Nat.add_zero, Nat.zero_add, Int.reduceEq, Int.reduceLT]; rfl) ?_; clear hK
  have hlt1 : M.next < (M.bump 1).next := Nat.lt_succ_self _
  obtain ⟨hg1, hh1⟩ := mk_put ((Grew.refl M).bump 1) (Nat.le_refl _) hlt1 ⟨nodeC n.leaf vp vk, 44, true⟩
  change AWP _ _ _ ⟨_, (M.bump 1).put M.next ⟨nodeC n.leaf vp vk, 44, true⟩⟩ _
  generalize hM1 : (M.bump 1).put M.next ⟨nodeC n.leaf vp vk, 44, true⟩ = M1 at hg1 hh1
  have hr := hr.grew hg1
  have hk := hk.grew hg1
  have hlk := hL.kids
  obtain ⟨lf, ps, ks⟩ := n
  simp only at hlk hh1 hrise ⊢
  have hnl : notF (ks.map Kd.key) k ≤ ks.length := by
    have := posF_le (ks.map Kd.key) k
    rw [List.length_map] at this
    unfold notF foundF
    split
    · rename_i hf
      have := (List.getElem?_eq_some_iff.1 (of_decide_eq_true hf)).1
      rw [List.length_map] at this
      omega
    · exact this
  have hnot : ∀ {i : Nat} (hil : i < ks.length), lessB k ks[i].key = decide (notF (ks.map Kd.key) k ≤ i) := fun {i} hil => by
    have := less_not hrise k (i := i) (by simpa using hil)
    rwa [List.getElem_map] at this
  unfold wayF
  generalize notF (ks.map Kd.key) k = q0 at hnl hnot
  refine AWP.stepR [1, 2, 5] fun K hK => ?_
  simp only [go_sem, Nat.reduceEqDiff, Nat.reduceLT, Nat.reduceAdd, Nat.reduceMul, Nat.reduceSub, Nat.add_zero, Nat.zero_add, Int.reduceEq, Int.reduceLT]
  refine hK _ _ _ (by simp only [go_sem, Nat.reduceEqDiff, Nat.reduceLT, Nat.reduceAdd, Nat.reduceMul, Nat.reduceSub, Nat.add_zero, Nat.zero_add, Int.reduceEq, Int.reduceLT]; rfl) ?_; clear hK
  refine AWP.seq ?_
  refine AWP.stepR [1, 2, 5, 6] fun K hK => ?_
  simp only [go_sem, Nat.reduceEqDiff, Nat.reduceLT, Nat.reduceAdd, Nat.reduceMul, Nat.reduceSub, Nat.add_zero, Nat.zero_add, Int.reduceEq, Int.reduceLT]
  refine hK _ _ _ (by simp only [go_sem, Nat.reduceEqDiff, Nat.reduceLT, Nat.reduceAdd, Nat.reduceMul, Nat.reduceSub, Nat.add_zero, Nat.zero_add, Int.reduceEq, Int.reduceLT]; rfl) ?_; clear hK
  refine AWP.block ?_ -- b0
  refine AWP.loopK [1, 2, 5, 6] (fun c e M0 => M0 = M1 ∧ ∃ i : Nat, c = ks.length - i ∧ i ≤ ks.length ∧ e = [(1, kv), (2, .pointer (some ⟨M.next, 0, none⟩)), (5, .int .i64 ((min i q0 - 1 : Nat) : Int)), (6, .int .i64 i)]) ks.length ?_ fun c e M0 hI => ?_ -- LOOP
  · simp only [go_sem, Nat.reduceEqDiff, Nat.reduceLT, Nat.reduceAdd, Nat.reduceMul, Nat.reduceSub, Nat.add_zero, Nat.zero_add, Int.reduceEq, Int.reduceLT, true_and]
    exact ⟨0, rfl, by omega, by simp⟩
  obtain ⟨rfl, i, hc, hi, rfl⟩ := hI
  refine AWP.seq ?_
  refine AWP.stepR [1, 2, 5, 6, 11] fun K hK => ?_
  simp only [go_sem, Nat.reduceEqDiff, Nat.reduceLT, Nat.reduceAdd, Nat.reduceMul, Nat.reduceSub, Nat.add_zero, Nat.zero_add, Int.reduceEq, Int.reduceLT, ld_42, hh1.ld, nodeC, hr.kids.len es_42]
  refine hK _ _ _ (by simp only [go_sem, Nat.reduceEqDiff, Nat.reduceLT, Nat.reduceAdd, Nat.reduceMul, Nat.reduceSub, Nat.add_zero, Nat.zero_add, Int.reduceEq, Int.reduceLT]; rfl) ?_; clear hK
  refine AWP.cond_split rfl (fun h11 => ?_) fun h11 => ?_
  · have hil : i < ks.length := by simpa using h11
    obtain ⟨b, q, ha, hd⟩ := kd_at hr.kids hil
    have hd := (hd M0 (Grew.refl _)).1
    obtain ⟨r2, M2, hc2, hr2, hM2⟩ := less77_spec kv ks[i].kv k ks[i].key M0 (hg1.ok hok) hk (hr.kk _ (List.getElem_mem hil)) (by omega)
    rw [hr2, hM2, hnot hil] at hc2
    refine AWP.skip ?_
    refine AWP.seq ?_
    refine AWP.block ?_ -- b1
    refine AWP.stepR [1, 2, 5, 6, 22] fun K hK => ?_
    simp only [go_sem, Nat.reduceEqDiff, Nat.reduceLT, Nat.reduceAdd, Nat.reduceMul, Nat.reduceSub, Nat.add_zero, Nat.zero_add, Int.reduceEq, Int.reduceLT, ld_42, hh1.ld, nodeC, ha, hd, ld_23]
    refine ⟨_, _, hc2, ?_⟩
    refine hK _ _ _ (by simp only [go_sem, Nat.reduceEqDiff, Nat.reduceLT, Nat.reduceAdd, Nat.reduceMul, Nat.reduceSub, Nat.add_zero, Nat.zero_add, Int.reduceEq, Int.reduceLT]; rfl) ?_; clear hK
    refine AWP.cond_split rfl (fun h22 => ?_) fun h22 => ?_
    · have hlt : i < q0 := by simpa using h22
      refine AWP.lastR fun K hK => ?_
      simp only [go_sem, Nat.reduceEqDiff, Nat.reduceLT, Nat.reduceAdd, Nat.reduceMul, Nat.reduceSub, Nat.add_zero, Nat.zero_add, Int.reduceEq, Int.reduceLT]
      refine hK _ _ ?_; clear hK
      refine AWP.lastR fun K hK => ?_
      simp only [go_sem, Nat.reduceEqDiff, Nat.reduceLT, Nat.reduceAdd, Nat.reduceMul, Nat.reduceSub, Nat.add_zero, Nat.zero_add, Int.reduceEq, Int.reduceLT]
      refine hK _ _ ?_; clear hK
      refine ⟨ks.length - (i + 1), by omega, rfl, i + 1, rfl, by omega, ?_⟩ -- ROUND
      simp only [go_sem, Nat.reduceEqDiff, Nat.reduceLT, Nat.reduceAdd, Nat.reduceMul, Nat.reduceSub, Nat.add_zero, Nat.zero_add, Int.reduceEq, Int.reduceLT]
      rw [i64w (by omega) (by omega), show min (i + 1) q0 - 1 = i by omega]; rfl
    · have hge : ¬ i < q0 := by simpa using h22
      refine AWP.skip ?_
      refine AWP.lastR fun K hK => ?_
      simp only [go_sem, Nat.reduceEqDiff, Nat.reduceLT, Nat.reduceAdd, Nat.reduceMul, Nat.reduceSub, Nat.add_zero, Nat.zero_add, Int.reduceEq, Int.reduceLT]
      refine hK _ _ ?_; clear hK
      refine ⟨ks.length - (i + 1), by omega, rfl, i + 1, rfl, by omega, ?_⟩ -- ROUND
      simp only [go_sem, Nat.reduceEqDiff, Nat.reduceLT, Nat.reduceAdd, Nat.reduceMul, Nat.reduceSub, Nat.add_zero, Nat.zero_add, Int.reduceEq, Int.reduceLT]
      rw [i64w (by omega) (by omega), show min (i + 1) q0 = min i q0 by omega]; rfl
  · refine AWP.exit (Then.exit (Then.exit (InBlock.same ?_)))
    have he : i = ks.length := by simp at h11; omega
    refine AWP.stepR [4] fun K hK => ?_
    simp only [go_sem, Nat.reduceEqDiff, Nat.reduceLT, Nat.reduceAdd, Nat.reduceMul, Nat.reduceSub, Nat.add_zero, Nat.zero_add, Int.reduceEq, Int.reduceLT]
    refine hK _ _ _ (by simp only [go_sem, Nat.reduceEqDiff, Nat.reduceLT, Nat.reduceAdd, Nat.reduceMul, Nat.reduceSub, Nat.add_zero, Nat.zero_add, Int.reduceEq, Int.reduceLT]; rfl) ?_; clear hK
    refine AWP.ret (?_)
    refine Fin.plain (.inr rfl) rfl rfl hok hg1 ⟨?_, rfl⟩
    rw [show min i q0 = q0 by omega]
end
end Go.Proofs.Ythheaehpnleiaaa.AX
