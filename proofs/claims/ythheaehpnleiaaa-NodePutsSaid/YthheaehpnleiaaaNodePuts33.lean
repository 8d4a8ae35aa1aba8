/- The other Get: what it holds. -/
import Derived.Test.YthheaehpnleiaaaNodePuts32
import Derived.Test.YthheaehpnleiaaaNodePuts28
import Derived.Test.YthheaehpnleiaaaNodePuts29
namespace Go.Proofs.Ythheaehpnleiaaa.AX
open Go Go.Proofs
set_option maxRecDepth 100000
set_option linter.unusedVariables false
set_option linter.unusedSimpArgs false

theorem own_app {N : Nat} {M : Mem} {P : Program} {t tx e sz bytes : Nat} (hf : AppFacts P t tx e sz bytes) {v x : Value} {n k : Nat} {cells news : List Value} (hok : Ok M) (hN : N ≤ M.next) (h : Own (baseN N) M v n cells e) (hl : cells.length = n * sz)
    (hx : contentV M.get sz x = some (k, news)) (hone : oneCells news = true) (hb : (n + k) * bytes ≤ 140737488355328) :
    ∃ v2 M2, appendE P M t tx v x = some (v2, M2) ∧ Own (baseN N) M2 v2 (n + k) (cells ++ news) e ∧ Ok M2 ∧ M.next ≤ M2.next ∧ (∀ j, j < N → M2.get j = M.get j) ∧ ∀ j, j < M.next → Apart v j → M2.get j = M.get j ∧ Apart v2 j := by
  have hg : Grew (⟨N, M.tri⟩ : Mem) M := ⟨fun _ _ => rfl, hN, fun _ => hok⟩
  have ho : Own (⟨N, M.tri⟩ : Mem) M v n cells e := h
  obtain ⟨v2, M2, happ, ho2, hg2, hnx, hfr⟩ := Own.append hf hg ho hl hx hone hb
  exact ⟨v2, M2, happ, ho2, hok.app happ, hnx, fun j hj => hg2.keep j hj, hfr⟩
/-- two blocks from a call's results -/
theorem kept2 (M M2 : Mem) (hg2 : Grew (M.bump 2) M2) (z y cells cells' : List Value) (e f : TypeId) : ∃ M3, (((M2.put M.next ⟨z, e, true⟩).put (M.next + 1) ⟨y, f, true⟩).put M.next ⟨cells, e, true⟩).put (M.next + 1) ⟨cells', f, true⟩ = M3 ∧ Grew M M3 ∧ Has M3 M.next ⟨cells, e, true⟩ ∧ Has M3 (M.next + 1) ⟨cells', f, true⟩ := by
  have hnx : M.next + 1 < M2.next := by have := hg2.next; rw [Mem.next_bump] at this; omega
  have hg : Grew M M2 := ((Grew.refl M).bump 2).trans hg2
  have g1 := hg.put (Nat.le_refl _) (show M.next < M2.next by omega) ⟨z, e, true⟩
  have g2 := g1.put (Nat.le_succ _) (show M.next + 1 < (M2.put _ _).next from hnx) ⟨y, f, true⟩
  obtain ⟨g3, h3⟩ := mk_put g2 (Nat.le_refl _) (show M.next < ((M2.put _ _).put _ _).next by simp only [Mem.next_put]; omega) ⟨cells, e, true⟩
  obtain ⟨g4, h4⟩ := mk_put g3 (Nat.le_succ _) (show M.next + 1 < (((M2.put _ _).put _ _).put _ _).next by simp only [Mem.next_put]; omega) ⟨cells', f, true⟩
  exact ⟨_, rfl, g4, h3.put' (by omega) _, h4⟩
theorem st_fresh1 {M : Mem} {i j : Nat} (hij : j ≠ i) {n : Nat} {old vs : List Value} {e : TypeId} {b : Blk} (h1 : old.length = n) (h2 : vs.length = n) (h3 : oneCells vs = true) :
    stV ((M.put i ⟨old, e, true⟩).put j b) i 0 n (.agg vs.toArray) = some (((M.put i ⟨old, e, true⟩).put j b).put i ⟨vs, e, true⟩) := by
  rw [stV_at (by rw [Mem.get_put, if_neg (Ne.symm hij), Mem.get_put, if_pos rfl])]
  rw [if_pos ⟨rfl, by simpa [Value.cells] using h2, by simpa [Value.cells] using h3, by simp [h1]⟩]
  have : splice old 0 vs = vs := by simp [splice, h1, h2]
  simp only [Value.cells, this]

theorem get25_spec (v : Value) (b : List Int) (M : Mem) (hok : Ok M) (hv : RowB M v b) (hE : b.length = 496 → RowE M v b.length (cB b) 5) (hb : BytB b) (hlb : b.length ≤ 1000000) :
    ∃ r M', ACall Try.prog 25 #[v] M r M' ∧ Grew M M' ∧ ∃ n vp vk, r = .tuple #[.agg (nodeC n.leaf vp vk).toArray, .int .i64 (getF b).2] ∧ NodeR M' n vp vk ∧ NodeP.of n = (getF b).1 := by
  refine ACall.fin (args := [v]) (k := 98) (rs := [.cell 2 44, .tmp 3]) Try.func25 rfl rfl rfl (Nat.le_of_ble_eq_true rfl) ?_
  refine AWP.stepR [0, 2] fun K hK => ?_
  simp only [go_sem, Nat.reduceEqDiff, Nat.reduceLT, Nat.reduceAdd, Nat.reduceMul, Nat.reduceSub, Nat.add_zero, Nat.zero_add, Int.reduceEq, Int.reduceLT]
  refine hK _ _ _ (by simp only [go_sem, Nat.reduceEqDiff, Nat.reduceLT, Nat.reduceAdd, Nat.reduceMul, Nat.reduceSub, Nat.add_zero, Nat.zero_add, Int.reduceEq, Int.reduceLT]; rfl) ?_; clear hK
  have hlt1 : M.next < (M.bump 1).next := Nat.lt_succ_self _
  obtain ⟨hg1, hh1⟩ := mk_put ((Grew.refl M).bump 1) (Nat.le_refl _) hlt1 ⟨zN, 44, true⟩
  change AWP _ _ _ ⟨_, (M.bump 1).put M.next ⟨zN, 44, true⟩⟩ _
  generalize hM1 : (M.bump 1).put M.next ⟨zN, 44, true⟩ = M1 at hg1 hh1
  refine AWP.seq ?_
  refine AWP.stepR [0, 2, 16] fun K hK => ?_
  simp only [go_sem, Nat.reduceEqDiff, Nat.reduceLT, Nat.reduceAdd, Nat.reduceMul, Nat.reduceSub, Nat.add_zero, Nat.zero_add, Int.reduceEq, Int.reduceLT, hv.len es_23]
  refine hK _ _ _ (by simp only [go_sem, Nat.reduceEqDiff, Nat.reduceLT, Nat.reduceAdd, Nat.reduceMul, Nat.reduceSub, Nat.add_zero, Nat.zero_add, Int.reduceEq, Int.reduceLT]; rfl) ?_; clear hK
  refine AWP.cond_split rfl (fun h16 => ?_) fun h16 => ?_
  · have hne : ¬ (b.length : Int) = 496 := by simpa using h16
    refine AWP.stepR [2, 3] fun K hK => ?_
    simp only [go_sem, Nat.reduceEqDiff, Nat.reduceLT, Nat.reduceAdd, Nat.reduceMul, Nat.reduceSub, Nat.add_zero, Nat.zero_add, Int.reduceEq, Int.reduceLT, bd_44z, st_44, zN_all hh1 (vs := [.bool false, .slice none 0 0, .slice none 0 0]) rfl rfl]
    refine hK _ _ _ (by simp only [go_sem, Nat.reduceEqDiff, Nat.reduceLT, Nat.reduceAdd, Nat.reduceMul, Nat.reduceSub, Nat.add_zero, Nat.zero_add, Int.reduceEq, Int.reduceLT]; rfl) ?_; clear hK
    obtain ⟨hgz, hhz⟩ := mk_put hg1 (Nat.le_refl _) hh1.2 ⟨[.bool false, .slice none 0 0, .slice none 0 0], 44, true⟩
    refine AWP.ret (Then.ret (?_))
    refine Fin.keep (v := .tuple #[.agg zN.toArray, .int .i64 17]) (.inr rfl) (by simp only [go_sem, Nat.reduceEqDiff, Nat.reduceLT, Nat.reduceAdd, Nat.reduceMul, Nat.reduceSub, Nat.add_zero, Nat.zero_add, Int.reduceEq, Int.reduceLT, retV, resV, ld_44, hhz.lda (show ([.bool false, .slice none 0 0, .slice none 0 0] : List Value).length = 3 from rfl)]; rfl) ⟨hgz, ⟨false, [], []⟩, .slice none 0 0, .slice none 0 0, ?_, zNode _, ?_⟩
    · rw [getF, if_neg hne]; rfl
    · rw [getF, if_neg hne]; rfl
  · have hl496 : (b.length : Int) = 496 := by simpa using h16
    have hE := hE (by omega)
    have hlt0 : 0 < b.length := by omega
    obtain ⟨b0, q0, ha0, hd0⟩ := hv.at1 (by rw [cB_length]) es_23 hlt0
    have ha0 : ∀ k, indexAddrV Try.prog 23 v (.int k 0) = some (.pointer (some ⟨b0, q0, none⟩)) := ha0
    rw [show (cB b)[0]? = some (.int .u8 b[0]) by simp [cB, hlt0]] at hd0
    have hx0 := hb _ (List.getElem_mem hlt0)
    have hn0 : (numS ⟨b, 0⟩ 1).2 = b[0] := by
      rw [numS, takeS_on rfl (by omega) (by simp only; omega)]
      show numN (b.take 1) = _
      rw [show b.take 1 = [b[0]] by rw [List.take_one, List.head?_eq_getElem?, List.getElem?_eq_getElem hlt0]; rfl, numN_one]
    refine AWP.skip ?_
    refine AWP.seq ?_
    refine AWP.stepR [0, 2, 21] fun K hK => ?_
    simp only [go_sem, Nat.reduceEqDiff, Nat.reduceLT, Nat.reduceAdd, Nat.reduceMul, Nat.reduceSub, Nat.add_zero, Nat.zero_add, Int.reduceEq, Int.reduceLT, ha0, ld_5, hd0 M1 hg1]
    refine hK _ _ _ (by simp only [go_sem, Nat.reduceEqDiff, Nat.reduceLT, Nat.reduceAdd, Nat.reduceMul, Nat.reduceSub, Nat.add_zero, Nat.zero_add, Int.reduceEq, Int.reduceLT]; rfl) ?_; clear hK
    have hs1 : (numS ⟨b, 0⟩ 1).1 = ⟨b.drop 1, 0⟩ := numS_code rfl (by omega) (by simp only; omega)
    have hs2 : (numS ⟨b.drop 1, 0⟩ 2).1 = ⟨b.drop 3, 0⟩ := by rw [numS_code rfl (by omega) (by simp only [List.length_drop]; omega)]; simp
    have hs3 : (numS ⟨b.drop 1, 0⟩ 2).2 = numN ((b.take 3).drop 1) := by
      rw [numS, takeS_on rfl (by omega) (by simp only [List.length_drop]; omega)]
      show numN ((b.drop 1).take 2) = _
      rw [List.drop_take]
    have hgetF : getF b = if b[0] > 1 then (zP, 4) else endF (thingsF (b[0] == 1) (numN ((b.take 3).drop 1)).toNat ⟨b.drop 3, 0⟩) := by rw [getF, if_pos hl496, hn0, hs1, hs2, hs3]
    generalize hb0 : b[0] = x0 at hx0 hgetF hd0
    refine AWP.cond_split rfl (fun h21 => ?_) fun h21 => ?_
    · have hgt : x0 > 1 := by simpa using h21
      refine AWP.stepR [2, 3] fun K hK => ?_
      simp only [go_sem, Nat.reduceEqDiff, Nat.reduceLT, Nat.reduceAdd, Nat.reduceMul, Nat.reduceSub, Nat.add_zero, Nat.zero_add, Int.reduceEq, Int.reduceLT, bd_44z, st_44, zN_all hh1 (vs := [.bool false, .slice none 0 0, .slice none 0 0]) rfl rfl]
      refine hK _ _ _ (by simp only [go_sem, Nat.reduceEqDiff, Nat.reduceLT, Nat.reduceAdd, Nat.reduceMul, Nat.reduceSub, Nat.add_zero, Nat.zero_add, Int.reduceEq, Int.reduceLT]; rfl) ?_; clear hK
      obtain ⟨hgz, hhz⟩ := mk_put hg1 (Nat.le_refl _) hh1.2 ⟨[.bool false, .slice none 0 0, .slice none 0 0], 44, true⟩
      refine AWP.ret (Then.ret (?_))
      refine Fin.keep (v := .tuple #[.agg zN.toArray, .int .i64 4]) (.inr rfl) (by simp only [go_sem, Nat.reduceEqDiff, Nat.reduceLT, Nat.reduceAdd, Nat.reduceMul, Nat.reduceSub, Nat.add_zero, Nat.zero_add, Int.reduceEq, Int.reduceLT, retV, resV, ld_44, hhz.lda (show ([.bool false, .slice none 0 0, .slice none 0 0] : List Value).length = 3 from rfl)]; rfl) ⟨hgz, ⟨false, [], []⟩, .slice none 0 0, .slice none 0 0, ?_, zNode _, ?_⟩
      · rw [hgetF, if_pos hgt]; rfl
      · rw [hgetF, if_pos hgt]; rfl
    · have hgt : ¬ x0 > 1 := by simpa using h21
      rw [if_neg hgt] at hgetF
      refine AWP.skip ?_
      -- the node
      have hlt7 : M1.next < (M1.bump 1).next := Nat.lt_succ_self _
      refine AWP.stepR [0, 2, 4] fun K hK => ?_
      simp only [go_sem, Nat.reduceEqDiff, Nat.reduceLT, Nat.reduceAdd, Nat.reduceMul, Nat.reduceSub, Nat.add_zero, Nat.zero_add, Int.reduceEq, Int.reduceLT, ha0, ld_5, hd0 M1 hg1, hd0 _ (hg1.bump 1), bd_44, st_fresh (M := M1.bump 1) (i := M1.next) (n := 3) (old := [.bool false, .slice none 0 0, .slice none 0 0]) (vs := [.bool (x0 == 1), .slice none 0 0, .slice none 0 0]) (e := 44) rfl rfl rfl]
      refine hK _ _ _ (by simp only [go_sem, Nat.reduceEqDiff, Nat.reduceLT, Nat.reduceAdd, Nat.reduceMul, Nat.reduceSub, Nat.add_zero, Nat.zero_add, Int.reduceEq, Int.reduceLT]; rfl) ?_; clear hK
      obtain ⟨M4, hM4, hg4, hh4⟩ := kept M1 (M1.bump 1) (Grew.refl _) [.bool false, .slice none 0 0, .slice none 0 0] [.bool (x0 == 1), .slice none 0 0, .slice none 0 0] 44
      rw [hM4]
      have hg04 := hg1.trans hg4
      have hh24 := hh1.grew hg4
      -- the reader
      obtain ⟨v5, f5, hr5⟩ := slice_23l hE (k := 3) (by omega)
      have f5 : ∀ M1, Grew M M1 → sliceV Try.prog M1.get 23 v (some (.int .i64 3)) none none = some v5 := f5
      obtain ⟨v6, f6, hr6⟩ := slice_23lh hE (j := 1) (k := 3) (by omega) (by omega)
      have f6 : ∀ M1, Grew M M1 → sliceV Try.prog M1.get 23 v (some (.int .i64 1)) (some (.int .i64 3)) none = some v6 := f6
      refine AWP.stepR [0, 2, 4, 5] fun K hK => ?_
      simp only [go_sem, Nat.reduceEqDiff, Nat.reduceLT, Nat.reduceAdd, Nat.reduceMul, Nat.reduceSub, Nat.add_zero, Nat.zero_add, Int.reduceEq, Int.reduceLT, Option.map_some, f5 _ hg04, f5 _ (hg04.bump 1), bd_86 hr5.row.one, st_fresh (M := M4.bump 1) (i := M4.next) (n := 2) (old := [.slice none 0 0, .int .i64 0]) (vs := [v5, .int .i64 0]) (e := 86) rfl rfl (rdC_one hr5.row.one)]
      refine hK _ _ _ (by simp only [go_sem, Nat.reduceEqDiff, Nat.reduceLT, Nat.reduceAdd, Nat.reduceMul, Nat.reduceSub, Nat.add_zero, Nat.zero_add, Int.reduceEq, Int.reduceLT]; rfl) ?_; clear hK
      obtain ⟨M5, hM5, hg5, hh5⟩ := kept M4 (M4.bump 1) (Grew.refl _) [.slice none 0 0, .int .i64 0] [v5, .int .i64 0] 86
      rw [hM5]
      have hg05 := hg04.trans hg5
      have hh25 := hh24.grew hg5
      have hh45 := hh4.grew hg5
      -- the count
      have hbt : BytB ((b.take 3).drop 1) := fun x hx => hb x (List.mem_of_mem_take (List.mem_of_mem_drop hx))
      obtain ⟨r6, M6, hc6, hr6', hM6⟩ := get69_spec v6 ((b.take 3).drop 1) M5 (hg05.ok hok) (hr6.row.grew hg05) hbt (by simp only [List.length_drop, List.length_take]; omega)
      rw [hr6', hM6] at hc6
      have hcb := numN_bound hbt ((b.take 3).drop 1).length
      rw [List.take_length] at hcb
      rw [show ((b.take 3).drop 1).length = 2 by simp only [List.length_drop, List.length_take]; omega] at hcb
      have hcb : 0 ≤ numN ((b.take 3).drop 1) ∧ numN ((b.take 3).drop 1) < 65536 := hcb
      refine AWP.stepR [2, 4, 5, 6] fun K hK => ?_
      simp only [go_sem, Nat.reduceEqDiff, Nat.reduceLT, Nat.reduceAdd, Nat.reduceMul, Nat.reduceSub, Nat.add_zero, Nat.zero_add, Int.reduceEq, Int.reduceLT, Option.map_some, f6 _ hg05]
      refine ⟨_, _, hc6, ?_⟩
      try simp only [go_sem, Nat.reduceEqDiff, Nat.reduceLT, Nat.reduceAdd, Nat.reduceMul, Nat.reduceSub, Nat.add_zero, Nat.zero_add, Int.reduceEq, Int.reduceLT, i64w (n := numN ((b.take 3).drop 1)) (by omega) (by omega)]
      refine hK _ _ _ (by simp only [go_sem, Nat.reduceEqDiff, Nat.reduceLT, Nat.reduceAdd, Nat.reduceMul, Nat.reduceSub, Nat.add_zero, Nat.zero_add, Int.reduceEq, Int.reduceLT]; rfl) ?_; clear hK
      obtain ⟨cnt, hcnt⟩ := cntE _ hcb.1
      rw [hcnt] at hcb hgetF
      rw [hcnt]
      rw [Int.toNat_natCast] at hgetF
      have h12 := hh1.2; have h24 := hh4.2; have h45 := hh5.2
      generalize hleaf : (x0 == 1) = leaf at hgetF hh45
      have hI0 : GI leaf cnt ⟨b.drop 3, 0⟩ cnt ⟨b.drop 3, 0⟩ [] [] := by
        unfold GI
        split
        · exact ⟨rfl, by simp, fun _ => by simp only [sumF, List.length_drop]; omega⟩
        · exact ⟨rfl, by simp, fun _ => by simp only [sumF, List.length_drop]; omega⟩
      have hl493 : (⟨b.drop 3, 0⟩ : Rs).b.length ≤ 493 := by simp only [List.length_drop]; omega
      have hbb : BytB (⟨b.drop 3, 0⟩ : Rs).b := fun x hx => hb x (List.mem_of_mem_drop hx)
      change Has M5 M4.next ⟨rdC v5 (⟨b.drop 3, 0⟩ : Rs).code, 86, true⟩ at hh5
      change RowE M v5 (⟨b.drop 3, 0⟩ : Rs).b.length (cB (⟨b.drop 3, 0⟩ : Rs).b) 5 at hr5
      generalize (⟨b.drop 3, 0⟩ : Rs) = s0 at hI0 hgetF hbb hl493 hh5 hr5
      refine AWP.seq ?_
      refine AWP.stepR [2, 4, 5, 6, 7] fun K hK => ?_
      simp only [go_sem, Nat.reduceEqDiff, Nat.reduceLT, Nat.reduceAdd, Nat.reduceMul, Nat.reduceSub, Nat.add_zero, Nat.zero_add, Int.reduceEq, Int.reduceLT]
      refine hK _ _ _ (by simp only [go_sem, Nat.reduceEqDiff, Nat.reduceLT, Nat.reduceAdd, Nat.reduceMul, Nat.reduceSub, Nat.add_zero, Nat.zero_add, Int.reduceEq, Int.reduceLT]; rfl) ?_; clear hK
      refine AWP.block ?_ -- b0
      refine AWP.loopK [2, 4, 5, 6, 7] (fun c e M2 => c ≤ cnt ∧ Grew M M2 ∧ M5.next ≤ M2.next ∧ ∃ s l m vp vk vb, l.length + m.length ≤ cnt - c ∧ Has M2 M.next ⟨zN, 44, true⟩ ∧ Has M2 M1.next ⟨nodeC leaf vp vk, 44, true⟩ ∧ Has M2 M4.next ⟨rdC vb s.code, 86, true⟩ ∧ RowE M vb s.b.length (cB s.b) 5 ∧ Own (baseN M5.next) M2 vp l.length (l.flatMap prC) 58 ∧ Own (baseN M5.next) M2 vk m.length (m.flatMap kdC) 60 ∧ (if leaf then vk else vp) = .slice none 0 0 ∧ (∀ p, p ∈ l → RowB M p.kv p.key ∧ RowB M p.vv p.val) ∧ (∀ p, p ∈ m → RowB M p.kv p.key) ∧ GI leaf cnt s0 c s l m ∧ NodeB ⟨leaf, l, m⟩ ∧ BytB s.b ∧ s.b.length ≤ 493 ∧ e = [(2, .pointer (some ⟨M.next, 0, none⟩)), (4, .pointer (some ⟨M1.next, 0, none⟩)), (5, .pointer (some ⟨M4.next, 0, none⟩)), (6, .int .i64 cnt), (7, .int .i64 ((cnt - c : Nat) : Int))]) cnt ?_ fun c e M2 hI => ?_ -- LOOP
      · simp only [go_sem, Nat.reduceEqDiff, Nat.reduceLT, Nat.reduceAdd, Nat.reduceMul, Nat.reduceSub, Nat.add_zero, Nat.zero_add, Int.reduceEq, Int.reduceLT, Nat.le_refl]
        refine ⟨hg05, s0, [], [], .slice none 0 0, .slice none 0 0, v5, by simp, hh25, hh45, hh5, hr5, Own.nil _ _ _, Own.nil _ _ _, by split <;> rfl, fun p hp => (by cases hp), fun p hp => (by cases hp), hI0, ⟨fun p hp => (by cases hp), fun p hp => (by cases hp), fun p hp => (by cases hp)⟩, hbb, hl493, by simp⟩
      obtain ⟨hcc, hg0, hN, s, l, m, vp, vk, vb, hlm, hc2, hc4, hc5, hvb, hP, hK, hnil, hpk, hkk, hGI, hNB, hbs, hls, rfl⟩ := hI
      refine AWP.seq ?_
      refine AWP.stepX [2, 4, 5, 6, 7, 42] [(2, .pointer (some ⟨M.next, 0, none⟩)), (4, .pointer (some ⟨M1.next, 0, none⟩)), (5, .pointer (some ⟨M4.next, 0, none⟩)), (6, .int .i64 cnt), (7, .int .i64 ((cnt - c : Nat) : Int)), (42, .bool (decide (0 < c ∧ s.code = 0)))] M2 (fun K hK => ?_) ?_
      · by_cases h0 : 0 < c
        · simp only [go_sem, Nat.reduceEqDiff, Nat.reduceLT, Nat.reduceAdd, Nat.reduceMul, Nat.reduceSub, Nat.add_zero, Nat.zero_add, Int.reduceEq, Int.reduceLT, show decide (((cnt - c : Nat) : Int) < (cnt : Int)) = true by simp; omega, ld_22, hc5.ld, rdC]
          refine hK _ ?_
          simp only [go_sem, Nat.reduceEqDiff, Nat.reduceLT, Nat.reduceAdd, Nat.reduceMul, Nat.reduceSub, Nat.add_zero, Nat.zero_add, Int.reduceEq, Int.reduceLT]
          rw [show decide (0 < c ∧ s.code = 0) = (s.code == 0) by by_cases h : s.code = 0 <;> simp [h, h0]]
        · simp only [go_sem, Nat.reduceEqDiff, Nat.reduceLT, Nat.reduceAdd, Nat.reduceMul, Nat.reduceSub, Nat.add_zero, Nat.zero_add, Int.reduceEq, Int.reduceLT, show decide (((cnt - c : Nat) : Int) < (cnt : Int)) = false by simp; omega]
          refine hK _ ?_
          simp only [go_sem, Nat.reduceEqDiff, Nat.reduceLT, Nat.reduceAdd, Nat.reduceMul, Nat.reduceSub, Nat.add_zero, Nat.zero_add, Int.reduceEq, Int.reduceLT]
          rw [show decide (0 < c ∧ s.code = 0) = false by simp [h0]]
      refine AWP.cond_split rfl (fun h42 => ?_) fun h42 => ?_
      · have h42' : 0 < c ∧ s.code = 0 := by simpa using h42
        obtain ⟨h0, hcode⟩ := h42'
        refine AWP.skip ?_
        refine AWP.seq ?_
        refine AWP.block ?_ -- b1
        refine AWP.stepR [2, 4, 5, 6, 7, 46] fun K hK => ?_
        simp only [go_sem, Nat.reduceEqDiff, Nat.reduceLT, Nat.reduceAdd, Nat.reduceMul, Nat.reduceSub, Nat.add_zero, Nat.zero_add, Int.reduceEq, Int.reduceLT, ld_4, hc4.ld, nodeC]
        refine hK _ _ _ (by simp only [go_sem, Nat.reduceEqDiff, Nat.reduceLT, Nat.reduceAdd, Nat.reduceMul, Nat.reduceSub, Nat.add_zero, Nat.zero_add, Int.reduceEq, Int.reduceLT]; rfl) ?_; clear hK
        refine AWP.cond_split rfl (fun h46 => ?_) fun h46 => ?_
        · skip
          subst h46
          have hnil : vk = .slice none 0 0 := by simpa using hnil
          subst hnil
          obtain ⟨rx, X, hcx, hgx, v1, x, rfl, ⟨vb1, rfl, hE1⟩, hxk, hxv, hxd⟩ := pair70_spec (.agg (rdC vb s.code).toArray) s M (M2.bump 2) ((hg0.bump 2).ok hok) (hg0.bump 2) ⟨vb, rfl, hvb⟩ hbs (by omega)
          have h1 := hE1.row.one
          have h2 : oneCells (prC x) = true := prC_one hxk hxv
          obtain ⟨Y, hY, hgy, hy1, hy2⟩ := kept2 M2 X hgx [.slice none 0 0, .int .i64 0] [.slice none 0 0, .slice none 0 0] (rdC vb1 (prP s).1.code) (prC x) 86 58
          refine AWP.stepR [2, 4, 5, 6, 7, 8, 9] fun K hK => ?_
          simp only [go_sem, Nat.reduceEqDiff, Nat.reduceLT, Nat.reduceAdd, Nat.reduceMul, Nat.reduceSub, Nat.add_zero, Nat.zero_add, Int.reduceEq, Int.reduceLT, ld_86, hc5.lda (rdC_len ..)]
          refine ⟨_, _, hcx, ?_⟩
          try simp only [go_sem, Nat.reduceEqDiff, Nat.reduceLT, Nat.reduceAdd, Nat.reduceMul, Nat.reduceSub, Nat.add_zero, Nat.zero_add, Int.reduceEq, Int.reduceLT, extractV, st_fresh1 (M := X) (i := M2.next) (j := M2.next + 1) (by omega) (n := 2) (old := [.slice none 0 0, .int .i64 0]) (vs := rdC vb1 (prP s).1.code) (e := 86) rfl rfl (rdC_one h1), st_fresh1 (M := X.put M2.next ⟨[.slice none 0 0, .int .i64 0], 86, true⟩) (i := M2.next + 1) (j := M2.next) (by omega) (n := 2) (old := [.slice none 0 0, .slice none 0 0]) (vs := prC x) (e := 58) rfl rfl h2, hY]
          refine hK _ _ _ (by simp only [go_sem, Nat.reduceEqDiff, Nat.reduceLT, Nat.reduceAdd, Nat.reduceMul, Nat.reduceSub, Nat.add_zero, Nat.zero_add, Int.reduceEq, Int.reduceLT]; rfl) ?_; clear hK
          have hc2 := hc2.grew hgy; have hc4 := hc4.grew hgy; have hc5 := hc5.grew hgy
          have hgY : Grew M Y := hg0.trans hgy
          have hnY := hgy.next
          have hO := hP.grew hgy
          refine AWP.stepR [2, 4, 5, 6, 7, 9] fun K hK => ?_
          simp only [go_sem, Nat.reduceEqDiff, Nat.reduceLT, Nat.reduceAdd, Nat.reduceMul, Nat.reduceSub, Nat.add_zero, Nat.zero_add, Int.reduceEq, Int.reduceLT, ld_86, hy1.lda (rdC_len ..), st_86, st_all (n := 2) (vs := rdC vb1 (prP s).1.code) hc5 rfl rfl rfl (rdC_one h1)]
          refine hK _ _ _ (by simp only [go_sem, Nat.reduceEqDiff, Nat.reduceLT, Nat.reduceAdd, Nat.reduceMul, Nat.reduceSub, Nat.add_zero, Nat.zero_add, Int.reduceEq, Int.reduceLT]; rfl) ?_; clear hK
          have hc2 := hc2.put' (show M.next ≠ M4.next by omega) ⟨rdC vb1 (prP s).1.code, 86, true⟩
          have hc4 := hc4.put' (show M1.next ≠ M4.next by omega) ⟨rdC vb1 (prP s).1.code, 86, true⟩
          have hy2 := hy2.put' (show M2.next + 1 ≠ M4.next by omega) ⟨rdC vb1 (prP s).1.code, 86, true⟩
          have hO := hO.put (show M4.next < (baseN M5.next).next from h45) ⟨rdC vb1 (prP s).1.code, 86, true⟩
          obtain ⟨hgZ, hc5⟩ := mk_put hgY (show M.next ≤ M4.next by omega) hc5.2 ⟨rdC vb1 (prP s).1.code, 86, true⟩
          have hnZ : (Y.put M4.next ⟨rdC vb1 (prP s).1.code, 86, true⟩).next = Y.next := rfl
          generalize Y.put M4.next ⟨rdC vb1 (prP s).1.code, 86, true⟩ = Z at hc2 hc4 hy2 hO hgZ hc5 hnZ
          have hltZ : Z.next < (Z.bump 1).next := Nat.lt_succ_self _
          obtain ⟨hgW, hw⟩ := mk_put ((Grew.refl Z).bump 1) (Nat.le_refl _) hltZ ⟨prC x, 58, true⟩
          have hnW : ((Z.bump 1).put Z.next ⟨prC x, 58, true⟩).next = Z.next + 1 := rfl
          generalize hW : (Z.bump 1).put Z.next ⟨prC x, 58, true⟩ = W at hgW hw hnW
          have hW' : (Z.bump 1).put Z.next ⟨[x.kv, x.vv], 58, true⟩ = W := hW
          have hc2 := hc2.grew hgW; have hc5 := hc5.grew hgW; have hc4W := hc4.grew hgW
          have hgMW := hgZ.trans hgW
          obtain ⟨v2, U, happ, hO2, hokU, hnU, hkeep, _⟩ := own_app ap_41_41 (hgMW.ok hok) (show M5.next ≤ W.next by omega) (hO.grew hgW) (flatMap_len prC_len l) (hw.content 2 1 1 rfl) h2 (by omega)
          have hv2 := hO2.row.one
          have hgU : Grew M U := ⟨fun i hi => (hkeep i (by omega)).trans (hgMW.keep i hi), Nat.le_trans hgMW.next hnU, fun _ => hokU⟩
          have hk : ∀ j b, j < M5.next → Has W j b → Has U j b := fun j b hj h => ⟨(hkeep j hj).trans h.1, Nat.lt_of_lt_of_le h.2 hnU⟩
          have hc2 := hk _ _ (by omega) hc2; have hc5 := hk _ _ (by omega) hc5; have hc4U := hk _ _ (by omega) hc4W
          refine AWP.lastR fun K hK => ?_
          simp only [go_sem, Nat.reduceEqDiff, Nat.reduceLT, Nat.reduceAdd, Nat.reduceMul, Nat.reduceSub, Nat.add_zero, Nat.zero_add, Int.reduceEq, Int.reduceLT, ld_41, hc4.ld, nodeC, ld_58, hy2.lda (prC_len x), prC, bs1_41 hxk.one hxv.one, hW', happ, st_41, st_cell hc4U rfl (show 1 < 3 by decide) hv2]
          refine hK _ _ ?_; clear hK
          refine AWP.lastR fun K hK => ?_
          simp only [go_sem, Nat.reduceEqDiff, Nat.reduceLT, Nat.reduceAdd, Nat.reduceMul, Nat.reduceSub, Nat.add_zero, Nat.zero_add, Int.reduceEq, Int.reduceLT]
          refine hK _ _ ?_; clear hK
          obtain ⟨hgV, hc4⟩ := mk_put hgU (show M.next ≤ M1.next by omega) hc4U.2 ⟨[.bool true, v2, .slice none 0 0], 44, true⟩
          have hc2 := hc2.put' (show M.next ≠ M1.next by omega) ⟨[.bool true, v2, .slice none 0 0], 44, true⟩; have hc5 := hc5.put' (show M4.next ≠ M1.next by omega) ⟨[.bool true, v2, .slice none 0 0], 44, true⟩
          have hO2 := hO2.put (show M1.next < (baseN M5.next).next from (by show M1.next < M5.next; omega)) ⟨[.bool true, v2, .slice none 0 0], 44, true⟩
          change Then _ _ _ ⟨_, U.put M1.next ⟨[.bool true, v2, .slice none 0 0], 44, true⟩⟩
          refine ⟨c - 1, by omega, by omega, hgV, (by show M5.next ≤ U.next; omega), (prP s).1, l ++ [x], m, v2, .slice none 0 0, vb1, by simp; omega, hc2, hc4, hc5, hE1, by simpa using hO2, ?_, rfl, fun p hp => ?_, hkk, hGI.stepP h0 hcode hxd, ⟨?_, ?_, hNB.kk⟩, (prP_bytes hbs).1, Nat.le_trans (prP_le s) hls, ?_⟩ -- ROUND
          · have hm : m = [] := (show _ ∧ _ from hGI).1
            subst hm; exact Own.nil _ _ _
          · rcases List.mem_append.1 hp with hp | hp
            · exact hpk p hp
            · rw [List.mem_singleton.1 hp]; exact ⟨hxk, hxv⟩
          · intro q hq; rcases List.mem_append.1 hq with hq | hq
            · exact hNB.pk q hq
            · rw [List.mem_singleton.1 hq, show x.key = (prP s).2.1 from congrArg Prod.fst hxd]; exact (prP_bytes hbs).2.1
          · intro q hq; rcases List.mem_append.1 hq with hq | hq
            · exact hNB.pv q hq
            · rw [List.mem_singleton.1 hq, show x.val = (prP s).2.2 from congrArg Prod.snd hxd]; exact (prP_bytes hbs).2.2
          · simp only [go_sem, Nat.reduceEqDiff, Nat.reduceLT, Nat.reduceAdd, Nat.reduceMul, Nat.reduceSub, Nat.add_zero, Nat.zero_add, Int.reduceEq, Int.reduceLT]
            rw [i64w (by omega) (by omega), show ((cnt - c : Nat) : Int) + 1 = ((cnt - (c - 1) : Nat) : Int) by omega]
        · skip
          subst h46
          have hnil : vp = .slice none 0 0 := by simpa using hnil
          subst hnil
          obtain ⟨rx, X, hcx, hgx, v1, x, rfl, ⟨vb1, rfl, hE1⟩, hxk, hxd⟩ := kid71_spec (.agg (rdC vb s.code).toArray) s M (M2.bump 2) ((hg0.bump 2).ok hok) (hg0.bump 2) ⟨vb, rfl, hvb⟩ hbs (by omega)
          have h1 := hE1.row.one
          have h2 : oneCells (kdC x) = true := kdC_one hxk
          obtain ⟨Y, hY, hgy, hy1, hy2⟩ := kept2 M2 X hgx [.slice none 0 0, .int .i64 0] [.slice none 0 0, .int .i64 0, .int .i64 0] (rdC vb1 (kdP s).1.code) (kdC x) 86 60
          refine AWP.stepR [2, 4, 5, 6, 7, 10, 11] fun K hK => ?_
          simp only [go_sem, Nat.reduceEqDiff, Nat.reduceLT, Nat.reduceAdd, Nat.reduceMul, Nat.reduceSub, Nat.add_zero, Nat.zero_add, Int.reduceEq, Int.reduceLT, ld_86, hc5.lda (rdC_len ..)]
          refine ⟨_, _, hcx, ?_⟩
          try simp only [go_sem, Nat.reduceEqDiff, Nat.reduceLT, Nat.reduceAdd, Nat.reduceMul, Nat.reduceSub, Nat.add_zero, Nat.zero_add, Int.reduceEq, Int.reduceLT, extractV, st_fresh1 (M := X) (i := M2.next) (j := M2.next + 1) (by omega) (n := 2) (old := [.slice none 0 0, .int .i64 0]) (vs := rdC vb1 (kdP s).1.code) (e := 86) rfl rfl (rdC_one h1), st_fresh1 (M := X.put M2.next ⟨[.slice none 0 0, .int .i64 0], 86, true⟩) (i := M2.next + 1) (j := M2.next) (by omega) (n := 3) (old := [.slice none 0 0, .int .i64 0, .int .i64 0]) (vs := kdC x) (e := 60) rfl rfl h2, hY]
          refine hK _ _ _ (by simp only [go_sem, Nat.reduceEqDiff, Nat.reduceLT, Nat.reduceAdd, Nat.reduceMul, Nat.reduceSub, Nat.add_zero, Nat.zero_add, Int.reduceEq, Int.reduceLT]; rfl) ?_; clear hK
          have hc2 := hc2.grew hgy; have hc4 := hc4.grew hgy; have hc5 := hc5.grew hgy
          have hgY : Grew M Y := hg0.trans hgy
          have hnY := hgy.next
          have hO := hK.grew hgy
          refine AWP.stepR [2, 4, 5, 6, 7, 11] fun K hK => ?_
          simp only [go_sem, Nat.reduceEqDiff, Nat.reduceLT, Nat.reduceAdd, Nat.reduceMul, Nat.reduceSub, Nat.add_zero, Nat.zero_add, Int.reduceEq, Int.reduceLT, ld_86, hy1.lda (rdC_len ..), st_86, st_all (n := 2) (vs := rdC vb1 (kdP s).1.code) hc5 rfl rfl rfl (rdC_one h1)]
          refine hK _ _ _ (by simp only [go_sem, Nat.reduceEqDiff, Nat.reduceLT, Nat.reduceAdd, Nat.reduceMul, Nat.reduceSub, Nat.add_zero, Nat.zero_add, Int.reduceEq, Int.reduceLT]; rfl) ?_; clear hK
          have hc2 := hc2.put' (show M.next ≠ M4.next by omega) ⟨rdC vb1 (kdP s).1.code, 86, true⟩
          have hc4 := hc4.put' (show M1.next ≠ M4.next by omega) ⟨rdC vb1 (kdP s).1.code, 86, true⟩
          have hy2 := hy2.put' (show M2.next + 1 ≠ M4.next by omega) ⟨rdC vb1 (kdP s).1.code, 86, true⟩
          have hO := hO.put (show M4.next < (baseN M5.next).next from h45) ⟨rdC vb1 (kdP s).1.code, 86, true⟩
          obtain ⟨hgZ, hc5⟩ := mk_put hgY (show M.next ≤ M4.next by omega) hc5.2 ⟨rdC vb1 (kdP s).1.code, 86, true⟩
          have hnZ : (Y.put M4.next ⟨rdC vb1 (kdP s).1.code, 86, true⟩).next = Y.next := rfl
          generalize Y.put M4.next ⟨rdC vb1 (kdP s).1.code, 86, true⟩ = Z at hc2 hc4 hy2 hO hgZ hc5 hnZ
          have hltZ : Z.next < (Z.bump 1).next := Nat.lt_succ_self _
          obtain ⟨hgW, hw⟩ := mk_put ((Grew.refl Z).bump 1) (Nat.le_refl _) hltZ ⟨kdC x, 60, true⟩
          have hnW : ((Z.bump 1).put Z.next ⟨kdC x, 60, true⟩).next = Z.next + 1 := rfl
          generalize hW : (Z.bump 1).put Z.next ⟨kdC x, 60, true⟩ = W at hgW hw hnW
          have hW' : (Z.bump 1).put Z.next ⟨[x.kv, .int .i64 x.page, .int .i64 x.epoch], 60, true⟩ = W := hW
          have hc2 := hc2.grew hgW; have hc5 := hc5.grew hgW; have hc4W := hc4.grew hgW
          have hgMW := hgZ.trans hgW
          obtain ⟨v2, U, happ, hO2, hokU, hnU, hkeep, _⟩ := own_app ap_42_42 (hgMW.ok hok) (show M5.next ≤ W.next by omega) (hO.grew hgW) (flatMap_len kdC_len m) (hw.content 3 1 1 rfl) h2 (by omega)
          have hv2 := hO2.row.one
          have hgU : Grew M U := ⟨fun i hi => (hkeep i (by omega)).trans (hgMW.keep i hi), Nat.le_trans hgMW.next hnU, fun _ => hokU⟩
          have hk : ∀ j b, j < M5.next → Has W j b → Has U j b := fun j b hj h => ⟨(hkeep j hj).trans h.1, Nat.lt_of_lt_of_le h.2 hnU⟩
          have hc2 := hk _ _ (by omega) hc2; have hc5 := hk _ _ (by omega) hc5; have hc4U := hk _ _ (by omega) hc4W
          refine AWP.lastR fun K hK => ?_
          simp only [go_sem, Nat.reduceEqDiff, Nat.reduceLT, Nat.reduceAdd, Nat.reduceMul, Nat.reduceSub, Nat.add_zero, Nat.zero_add, Int.reduceEq, Int.reduceLT, ld_42, hc4.ld, nodeC, ld_60, hy2.lda (kdC_len x), kdC, bs1_42 hxk.one x.page x.epoch, hW', happ, st_42, st_cell hc4U rfl (show 2 < 3 by decide) hv2]
          refine hK _ _ ?_; clear hK
          refine AWP.lastR fun K hK => ?_
          simp only [go_sem, Nat.reduceEqDiff, Nat.reduceLT, Nat.reduceAdd, Nat.reduceMul, Nat.reduceSub, Nat.add_zero, Nat.zero_add, Int.reduceEq, Int.reduceLT]
          refine hK _ _ ?_; clear hK
          obtain ⟨hgV, hc4⟩ := mk_put hgU (show M.next ≤ M1.next by omega) hc4U.2 ⟨[.bool false, .slice none 0 0, v2], 44, true⟩
          have hc2 := hc2.put' (show M.next ≠ M1.next by omega) ⟨[.bool false, .slice none 0 0, v2], 44, true⟩; have hc5 := hc5.put' (show M4.next ≠ M1.next by omega) ⟨[.bool false, .slice none 0 0, v2], 44, true⟩
          have hO2 := hO2.put (show M1.next < (baseN M5.next).next from (by show M1.next < M5.next; omega)) ⟨[.bool false, .slice none 0 0, v2], 44, true⟩
          change Then _ _ _ ⟨_, U.put M1.next ⟨[.bool false, .slice none 0 0, v2], 44, true⟩⟩
          refine ⟨c - 1, by omega, by omega, hgV, (by show M5.next ≤ U.next; omega), (kdP s).1, l, m ++ [x], .slice none 0 0, v2, vb1, by simp; omega, hc2, hc4, hc5, hE1, ?_, by simpa using hO2, rfl, hpk, fun p hp => ?_, hGI.stepK h0 hcode hxd, ⟨hNB.pk, hNB.pv, ?_⟩, (kdP_bytes hbs).1, Nat.le_trans (kdP_le s) hls, ?_⟩ -- ROUND
          · have hm : l = [] := (show _ ∧ _ from hGI).1
            subst hm; exact Own.nil _ _ _
          · rcases List.mem_append.1 hp with hp | hp
            · exact hkk p hp
            · rw [List.mem_singleton.1 hp]; exact hxk
          · intro q hq; rcases List.mem_append.1 hq with hq | hq
            · exact hNB.kk q hq
            · rw [List.mem_singleton.1 hq, show x.key = (kdP s).2.1 from congrArg Prod.fst hxd]; exact (kdP_bytes hbs).2
          · simp only [go_sem, Nat.reduceEqDiff, Nat.reduceLT, Nat.reduceAdd, Nat.reduceMul, Nat.reduceSub, Nat.add_zero, Nat.zero_add, Int.reduceEq, Int.reduceLT]
            rw [i64w (by omega) (by omega), show ((cnt - c : Nat) : Int) + 1 = ((cnt - (c - 1) : Nat) : Int) by omega]
      · refine AWP.exit (Then.exit (Then.exit (InBlock.same ?_)))
        have hstop : c = 0 ∨ s.code ≠ 0 := by have := of_decide_eq_false h42; omega
        rw [hGI.last hstop] at hgetF
        have hnode : ∀ M', Grew M M' → Own (baseN M5.next) M' vp l.length (l.flatMap prC) 58 → Own (baseN M5.next) M' vk m.length (m.flatMap kdC) 60 → NodeR M' ⟨leaf, l, m⟩ vp vk := fun M' hg a b => ⟨a.row, b.row, fun p hp => (hpk p hp).1.grew hg, fun p hp => (hpk p hp).2.grew hg, fun p hp => (hkk p hp).grew hg⟩
        refine AWP.seq ?_
        refine AWP.stepR [2, 4, 5, 73] fun K hK => ?_
        simp only [go_sem, Nat.reduceEqDiff, Nat.reduceLT, Nat.reduceAdd, Nat.reduceMul, Nat.reduceSub, Nat.add_zero, Nat.zero_add, Int.reduceEq, Int.reduceLT, ld_22, hc5.ld, rdC]
        refine hK _ _ _ (by simp only [go_sem, Nat.reduceEqDiff, Nat.reduceLT, Nat.reduceAdd, Nat.reduceMul, Nat.reduceSub, Nat.add_zero, Nat.zero_add, Int.reduceEq, Int.reduceLT]; rfl) ?_; clear hK
        refine AWP.cond_split rfl (fun h73 => ?_) fun h73 => ?_
        · have hcode : s.code ≠ 0 := by simpa using h73
          have hF : getF b = (zP, s.code) := by rw [hgetF, endF, if_pos hcode]
          obtain ⟨hgz, hhz⟩ := mk_put hg0 (Nat.le_refl _) hc2.2 ⟨[.bool false, .slice none 0 0, .slice none 0 0], 44, true⟩
          have hc5z := hc5.put' (show M4.next ≠ M.next by omega) ⟨[.bool false, .slice none 0 0, .slice none 0 0], 44, true⟩
          refine AWP.stepD hmo [0, 1, 2, 3, 4] [0, 0, 2, 1, 15] [] [(2, 3)] (by kernel_rfl) [2, 3] fun K hK => ?_
          simp only [go_sem, Nat.reduceEqDiff, Nat.reduceLT, Nat.reduceAdd, Nat.reduceMul, Nat.reduceSub, Nat.add_zero, Nat.zero_add, Int.reduceEq, Int.reduceLT, bd_44z, ld_22, hc5.ld, hc5z.ld, rdC, st_44, zN_all hc2 (vs := [.bool false, .slice none 0 0, .slice none 0 0]) rfl rfl]
          refine hK _ _ _ (by simp only [go_sem, Nat.reduceEqDiff, Nat.reduceLT, Nat.reduceAdd, Nat.reduceMul, Nat.reduceSub, Nat.add_zero, Nat.zero_add, Int.reduceEq, Int.reduceLT]; rfl) ?_; clear hK
          refine AWP.ret (Then.ret (?_))
          refine Fin.keep (v := .tuple #[.agg zN.toArray, .int .i64 s.code]) (.inr rfl) (by simp only [go_sem, Nat.reduceEqDiff, Nat.reduceLT, Nat.reduceAdd, Nat.reduceMul, Nat.reduceSub, Nat.add_zero, Nat.zero_add, Int.reduceEq, Int.reduceLT, retV, resV, ld_44, hhz.lda (show ([.bool false, .slice none 0 0, .slice none 0 0] : List Value).length = 3 from rfl)] <;> rfl) ⟨hgz, ⟨false, [], []⟩, .slice none 0 0, .slice none 0 0, by rw [hF]; rfl, zNode _, by rw [hF]; rfl⟩
        · have hcode : s.code = 0 := by simpa using h73
          obtain ⟨hLt, hsz⟩ := hGI.lt hcode
          refine AWP.skip ?_
          refine AWP.seq ?_
          refine AWP.stepR [2, 4, 5, 12] fun K hK => ?_
          simp only [go_sem, Nat.reduceEqDiff, Nat.reduceLT, Nat.reduceAdd, Nat.reduceMul, Nat.reduceSub, Nat.add_zero, Nat.zero_add, Int.reduceEq, Int.reduceLT]
          refine hK _ _ _ (by simp only [go_sem, Nat.reduceEqDiff, Nat.reduceLT, Nat.reduceAdd, Nat.reduceMul, Nat.reduceSub, Nat.add_zero, Nat.zero_add, Int.reduceEq, Int.reduceLT]; rfl) ?_; clear hK
          refine AWP.block ?_ -- b2
          refine AWP.loopK [2, 4, 5, 12] (fun n e M3 => M3 = M2 ∧ n ≤ s.b.length ∧ (∀ x, x ∈ s.b.take (s.b.length - n) → x = 0) ∧ e = [(2, .pointer (some ⟨M.next, 0, none⟩)), (4, .pointer (some ⟨M1.next, 0, none⟩)), (5, .pointer (some ⟨M4.next, 0, none⟩)), (12, .int .i64 ((s.b.length - n : Nat) : Int))]) s.b.length ?_ fun n e M3 hI => ?_ -- LOOP
          · simp only [go_sem, Nat.reduceEqDiff, Nat.reduceLT, Nat.reduceAdd, Nat.reduceMul, Nat.reduceSub, Nat.add_zero, Nat.zero_add, Int.reduceEq, Int.reduceLT, true_and, Nat.le_refl]
            simp
          obtain ⟨rfl, hn', hz, rfl⟩ := hI
          refine AWP.seq ?_
          refine AWP.stepR [2, 4, 5, 12, 81] fun K hK => ?_
          simp only [go_sem, Nat.reduceEqDiff, Nat.reduceLT, Nat.reduceAdd, Nat.reduceMul, Nat.reduceSub, Nat.add_zero, Nat.zero_add, Int.reduceEq, Int.reduceLT, ld_23, hc5.ld, rdC, hvb.row.len es_23]
          refine hK _ _ _ (by simp only [go_sem, Nat.reduceEqDiff, Nat.reduceLT, Nat.reduceAdd, Nat.reduceMul, Nat.reduceSub, Nat.add_zero, Nat.zero_add, Int.reduceEq, Int.reduceLT]; rfl) ?_; clear hK
          refine AWP.cond_split rfl (fun h81 => ?_) fun h81 => ?_
          · have hlt : s.b.length - n < s.b.length := by simpa using h81
            obtain ⟨bb, q, ha, hd⟩ := hvb.row.at1 (by rw [cB_length]) es_23 hlt
            have hd := hd M3 hg0
            rw [show (cB s.b)[s.b.length - n]? = some (.int .u8 s.b[s.b.length - n]) by simp [cB, hlt]] at hd
            have hxm := List.getElem_mem hlt
            have hst := List.take_succ_eq_append_getElem hlt
            generalize s.b[s.b.length - n] = x at hd hxm hst
            refine AWP.skip ?_
            refine AWP.seq ?_
            refine AWP.block ?_ -- b3
            refine AWP.stepR [2, 4, 5, 12, 89] fun K hK => ?_
            simp only [go_sem, Nat.reduceEqDiff, Nat.reduceLT, Nat.reduceAdd, Nat.reduceMul, Nat.reduceSub, Nat.add_zero, Nat.zero_add, Int.reduceEq, Int.reduceLT, ld_23, hc5.ld, rdC, ha, ld_5, hd]
            refine hK _ _ _ (by simp only [go_sem, Nat.reduceEqDiff, Nat.reduceLT, Nat.reduceAdd, Nat.reduceMul, Nat.reduceSub, Nat.add_zero, Nat.zero_add, Int.reduceEq, Int.reduceLT]; rfl) ?_; clear hK
            refine AWP.cond_split rfl (fun h89 => ?_) fun h89 => ?_
            · have hx0 : x ≠ 0 := by simpa using h89
              have hns : s.b ≠ List.replicate s.b.length 0 := fun h => hx0 (by rw [h] at hxm; exact List.eq_of_mem_replicate hxm)
              have hF : getF b = (zP, 4) := by rw [hgetF, endF, if_neg (by simpa using hcode), if_neg hns]
              refine AWP.stepR [2, 3] fun K hK => ?_
              simp only [go_sem, Nat.reduceEqDiff, Nat.reduceLT, Nat.reduceAdd, Nat.reduceMul, Nat.reduceSub, Nat.add_zero, Nat.zero_add, Int.reduceEq, Int.reduceLT, bd_44z, st_44, zN_all hc2 (vs := [.bool false, .slice none 0 0, .slice none 0 0]) rfl rfl]
              refine hK _ _ _ (by simp only [go_sem, Nat.reduceEqDiff, Nat.reduceLT, Nat.reduceAdd, Nat.reduceMul, Nat.reduceSub, Nat.add_zero, Nat.zero_add, Int.reduceEq, Int.reduceLT]; rfl) ?_; clear hK
              obtain ⟨hgz, hhz⟩ := mk_put hg0 (Nat.le_refl _) hc2.2 ⟨[.bool false, .slice none 0 0, .slice none 0 0], 44, true⟩
              refine AWP.ret (InBlock.ret (Then.ret (Then.ret (InBlock.ret (Then.ret (?_))))))
              refine Fin.keep (v := .tuple #[.agg zN.toArray, .int .i64 4]) (.inr rfl) (by simp only [go_sem, Nat.reduceEqDiff, Nat.reduceLT, Nat.reduceAdd, Nat.reduceMul, Nat.reduceSub, Nat.add_zero, Nat.zero_add, Int.reduceEq, Int.reduceLT, retV, resV, ld_44, hhz.lda (show ([.bool false, .slice none 0 0, .slice none 0 0] : List Value).length = 3 from rfl)] <;> rfl) ⟨hgz, ⟨false, [], []⟩, .slice none 0 0, .slice none 0 0, by rw [hF]; rfl, zNode _, by rw [hF]; rfl⟩
            · have hx0 : x = 0 := by simpa using h89
              refine AWP.skip ?_
              refine AWP.lastR fun K hK => ?_
              simp only [go_sem, Nat.reduceEqDiff, Nat.reduceLT, Nat.reduceAdd, Nat.reduceMul, Nat.reduceSub, Nat.add_zero, Nat.zero_add, Int.reduceEq, Int.reduceLT]
              refine hK _ _ ?_; clear hK
              refine ⟨n - 1, by omega, rfl, by omega, ?_, ?_⟩ -- ROUND
              · rw [show s.b.length - (n - 1) = s.b.length - n + 1 by omega, hst]
                intro y hy
                rcases List.mem_append.1 hy with hy | hy
                · exact hz y hy
                · rw [List.mem_singleton.1 hy, hx0]
              · simp only [go_sem, Nat.reduceEqDiff, Nat.reduceLT, Nat.reduceAdd, Nat.reduceMul, Nat.reduceSub, Nat.add_zero, Nat.zero_add, Int.reduceEq, Int.reduceLT]
                rw [i64w (by omega) (by omega), show ((s.b.length - n : Nat) : Int) + 1 = ((s.b.length - (n - 1) : Nat) : Int) by omega]
          · refine AWP.exit (Then.exit (Then.exit (InBlock.same ?_)))
            have hn0 : n = 0 := by simp at h81; omega
            subst hn0
            rw [Nat.sub_zero, List.take_length] at hz
            have hns : s.b = List.replicate s.b.length 0 := List.eq_replicate_iff.2 ⟨rfl, hz⟩
            have hF : getF b = if checkN ⟨leaf, l, m⟩ = 0 then (NodeP.of ⟨leaf, l, m⟩, 0) else (zP, checkN ⟨leaf, l, m⟩) := by rw [hgetF, endF, if_neg (by simpa using hcode), if_pos hns, of_check]
            have hn2 := hnode M3 hg0 hP hK
            obtain ⟨r8, M8', hc8, hr8, hM8'⟩ := check27_spec ⟨leaf, l, m⟩ vp vk M3 (hg0.ok hok) hn2 hLt
            rw [hr8, hM8'] at hc8
            refine AWP.seq ?_
            refine AWP.stepR [2, 4, 13] fun K hK => ?_
            simp only [go_sem, Nat.reduceEqDiff, Nat.reduceLT, Nat.reduceAdd, Nat.reduceMul, Nat.reduceSub, Nat.add_zero, Nat.zero_add, Int.reduceEq, Int.reduceLT, ld_44, hc4.lda (nodeC_len ..)]
            refine ⟨_, _, hc8, ?_⟩
            refine hK _ _ _ (by simp only [go_sem, Nat.reduceEqDiff, Nat.reduceLT, Nat.reduceAdd, Nat.reduceMul, Nat.reduceSub, Nat.add_zero, Nat.zero_add, Int.reduceEq, Int.reduceLT]; rfl) ?_; clear hK
            refine AWP.stepR [2, 4, 13, 94] fun K hK => ?_
            simp only [go_sem, Nat.reduceEqDiff, Nat.reduceLT, Nat.reduceAdd, Nat.reduceMul, Nat.reduceSub, Nat.add_zero, Nat.zero_add, Int.reduceEq, Int.reduceLT]
            refine hK _ _ _ (by simp only [go_sem, Nat.reduceEqDiff, Nat.reduceLT, Nat.reduceAdd, Nat.reduceMul, Nat.reduceSub, Nat.add_zero, Nat.zero_add, Int.reduceEq, Int.reduceLT]; rfl) ?_; clear hK
            refine AWP.cond_split rfl (fun h94 => ?_) fun h94 => ?_
            · have hck0 : checkN ⟨leaf, l, m⟩ ≠ 0 := by simpa using h94
              rw [if_neg hck0] at hF
              refine AWP.stepR [2, 3] fun K hK => ?_
              simp only [go_sem, Nat.reduceEqDiff, Nat.reduceLT, Nat.reduceAdd, Nat.reduceMul, Nat.reduceSub, Nat.add_zero, Nat.zero_add, Int.reduceEq, Int.reduceLT, bd_44z, st_44, zN_all hc2 (vs := [.bool false, .slice none 0 0, .slice none 0 0]) rfl rfl]
              refine hK _ _ _ (by simp only [go_sem, Nat.reduceEqDiff, Nat.reduceLT, Nat.reduceAdd, Nat.reduceMul, Nat.reduceSub, Nat.add_zero, Nat.zero_add, Int.reduceEq, Int.reduceLT]; rfl) ?_; clear hK
              obtain ⟨hgz, hhz⟩ := mk_put hg0 (Nat.le_refl _) hc2.2 ⟨[.bool false, .slice none 0 0, .slice none 0 0], 44, true⟩
              refine AWP.ret (Then.ret (?_))
              refine Fin.keep (v := .tuple #[.agg zN.toArray, .int .i64 (checkN ⟨leaf, l, m⟩)]) (.inr rfl) (by simp only [go_sem, Nat.reduceEqDiff, Nat.reduceLT, Nat.reduceAdd, Nat.reduceMul, Nat.reduceSub, Nat.add_zero, Nat.zero_add, Int.reduceEq, Int.reduceLT, retV, resV, ld_44, hhz.lda (show ([.bool false, .slice none 0 0, .slice none 0 0] : List Value).length = 3 from rfl)] <;> rfl) ⟨hgz, ⟨false, [], []⟩, .slice none 0 0, .slice none 0 0, by rw [hF]; rfl, zNode _, by rw [hF]; rfl⟩
            · have hck0 : checkN ⟨leaf, l, m⟩ = 0 := by simpa using h94
              rw [if_pos hck0] at hF
              have hones : oneCells (nodeC leaf vp vk) = true := by simp only [oneCells, nodeC, List.all_cons, List.all_nil, hn2.pairs.one, hn2.kids.one]; rfl
              refine AWP.skip ?_
              refine AWP.stepR [2, 3] fun K hK => ?_
              simp only [go_sem, Nat.reduceEqDiff, Nat.reduceLT, Nat.reduceAdd, Nat.reduceMul, Nat.reduceSub, Nat.add_zero, Nat.zero_add, Int.reduceEq, Int.reduceLT, ld_44, hc4.lda (nodeC_len ..), st_44, zN_all hc2 (vs := nodeC leaf vp vk) rfl hones]
              refine hK _ _ _ (by simp only [go_sem, Nat.reduceEqDiff, Nat.reduceLT, Nat.reduceAdd, Nat.reduceMul, Nat.reduceSub, Nat.add_zero, Nat.zero_add, Int.reduceEq, Int.reduceLT]; rfl) ?_; clear hK
              obtain ⟨hgz, hhz⟩ := mk_put hg0 (Nat.le_refl _) hc2.2 ⟨nodeC leaf vp vk, 44, true⟩
              refine AWP.ret (?_)
              refine Fin.keep (v := .tuple #[.agg (nodeC leaf vp vk).toArray, .int .i64 0]) (.inr rfl) (by simp only [go_sem, Nat.reduceEqDiff, Nat.reduceLT, Nat.reduceAdd, Nat.reduceMul, Nat.reduceSub, Nat.add_zero, Nat.zero_add, Int.reduceEq, Int.reduceLT, retV, resV, ld_44, hhz.lda (nodeC_len ..)] <;> rfl) ⟨hgz, ⟨leaf, l, m⟩, vp, vk, by rw [hF], hnode _ hgz (hP.put (show M.next < M5.next by omega) _) (hK.put (show M.next < M5.next by omega) _), by rw [hF]⟩
end Go.Proofs.Ythheaehpnleiaaa.AX
