/- A node as a page, by the document. -/
import Derived.Test.YthheaehpnleiaaaNodePuts24
import Derived.Test.YthheaehpnleiaaaNodePuts19
import Derived.Test.YthheaehpnleiaaaNodePuts12
namespace Go.Proofs.Ythheaehpnleiaaa.AX
open Go Go.Proofs
set_option maxRecDepth 100000
set_option linter.unusedVariables false
set_option linter.unusedSimpArgs false

/-- two ways that come to the same, but for a value and the memory -/
theorem AWP.condE {P : Program} {k : Nat} {c : Operand} {x y d : Code} {s : St} {Q : Exit → St → Prop} {t : Bool} (hc : aev s.env c = some (.bool t)) (live : List Nat) (e' : Value → Env) (J : Value → Mem → Prop)
    (h : t = true → AWP P k x s (Then (fun s' => ∃ v, s'.env.keep live = e' v ∧ J v s'.mem) Q)) (h' : t = false → AWP P k y s (Then (fun s' => ∃ v, s'.env.keep live = e' v ∧ J v s'.mem) Q)) (hr : ∀ v M', J v M' → AWP P k d ⟨e' v, M'⟩ Q) : AWP P k (.cond c x y) s (Then (fun s' => AWP P k d s' Q) Q) := by
  have key : ∀ e s', Then (fun s' => ∃ v, s'.env.keep live = e' v ∧ J v s'.mem) Q e s' → Then (fun s' => AWP P k d s' Q) Q e s' := by
    intro e s' hq
    cases e with
    | normal =>
      obtain ⟨v, h1, h2⟩ := hq
      refine AWP.keep live ?_
      rw [h1]; exact hr _ _ h2
    | _ => exact hq
  exact AWP.cond_split hc (fun ht => (h ht).mono key) fun ht => (h' ht).mono key
/-- bytes behind a row of its own: what else lies there stays -/
theorem app_has {M1 M3 : Mem} {bv rv : Value} {l m : List Int} (hg : Grew M1 M3) (ho : OwnB M1 M3 bv l 5) (hr : RowB M3 rv m) (hlen : l.length + m.length ≤ 1099511627776) :
    ∃ v M4, appendE Try.prog M3 23 23 bv rv = some (v, M4) ∧ OwnB M1 M4 v (l ++ m) 5 ∧ Grew M1 M4 ∧ ∀ j b, Has M3 j b → Apart bv j → Has M4 j b ∧ Apart v j := by
  obtain ⟨v, M4, h1, h2, h3, h4, h5⟩ := Own.app hg ho hr hlen
  exact ⟨v, M4, h1, h2, h3, fun j b hj ha => ⟨⟨(h5 j hj.2 ha).1.trans hj.1, Nat.lt_of_lt_of_le hj.2 h4⟩, (h5 j hj.2 ha).2⟩⟩
theorem one_own {M1 M : Mem} (hg : Grew M1 M) (x : Int) : ∃ M', (M.bump 1).put M.next ⟨[.int .u8 x], 5, true⟩ = M' ∧ Grew M1 M' ∧ Grew M M' ∧ Has M' M.next ⟨cB [x], 5, true⟩ ∧ OwnB M1 M' (.slice (some ⟨M.next, 0, none⟩) 1 1) [x] 5 := by
  have hlt : M.next < (M.bump 1).next := Nat.lt_succ_self _
  obtain ⟨h1, h2⟩ := mk_put ((Grew.refl M).bump 1) (Nat.le_refl _) hlt ⟨cB [x], 5, true⟩
  exact ⟨_, rfl, hg.trans h1, h1, h2, .inr ⟨M.next, 1, _, hg.next, h2.2, rfl, h2.1, rfl, rfl, .inr rfl⟩⟩

theorem put23_spec (n : Node) (vp vk : Value) (M : Mem) (hok : Ok M) (hr : NodeR M n vp vk) (hL : Lt18 n) :
    ∃ r M', ACall Try.prog 23 #[.agg (nodeC n.leaf vp vk).toArray] M r M' ∧ Grew M M' ∧ ∃ bv, r = .tuple #[bv, .int .i64 (checkN n)] ∧ RowB M' bv (putV n) := by
  refine ACall.fin (args := [.agg (nodeC n.leaf vp vk).toArray]) (k := 103) (rs := [.tmp 2, .tmp 3]) Try.func23 rfl rfl rfl (Nat.le_of_ble_eq_true rfl) ?_
  have hlp := hL.pairs; have hlk := hL.kids
  refine AWP.stepR [1] fun K hK => ?_
  simp only [go_sem, Nat.reduceEqDiff, Nat.reduceLT, Nat.reduceAdd, Nat.reduceMul, Nat.reduceSub, Nat.add_zero, Nat.zero_add, Int.reduceEq, Int.reduceLT]
  refine hK _ _ _ (by simp only [go_sem, Nat.reduceEqDiff, Nat.reduceLT, Nat.reduceAdd, Nat.reduceMul, Nat.reduceSub, Nat.add_zero, Nat.zero_add, Int.reduceEq, Int.reduceLT]; rfl) ?_; clear hK
  have hlt1 : M.next < (M.bump 1).next := Nat.lt_succ_self _
  obtain ⟨hg1, hh1⟩ := mk_put ((Grew.refl M).bump 1) (Nat.le_refl _) hlt1 ⟨nodeC n.leaf vp vk, 44, true⟩
  change AWP _ _ _ ⟨_, (M.bump 1).put M.next ⟨nodeC n.leaf vp vk, 44, true⟩⟩ _
  generalize hM1 : (M.bump 1).put M.next ⟨nodeC n.leaf vp vk, 44, true⟩ = M1 at hg1 hh1
  have hr := hr.grew hg1
  obtain ⟨r2, M2, hc2, hr2, hM2⟩ := check27_spec n vp vk M1 (hg1.ok hok) hr hL
  rw [hr2, hM2] at hc2
  refine AWP.seq ?_
  refine AWP.stepR [1, 4] fun K hK => ?_
  simp only [go_sem, Nat.reduceEqDiff, Nat.reduceLT, Nat.reduceAdd, Nat.reduceMul, Nat.reduceSub, Nat.add_zero, Nat.zero_add, Int.reduceEq, Int.reduceLT, ld_44, hh1.lda (nodeC_len ..)]
  refine ⟨_, _, hc2, ?_⟩
  refine hK _ _ _ (by simp only [go_sem, Nat.reduceEqDiff, Nat.reduceLT, Nat.reduceAdd, Nat.reduceMul, Nat.reduceSub, Nat.add_zero, Nat.zero_add, Int.reduceEq, Int.reduceLT]; rfl) ?_; clear hK
  refine AWP.stepR [1, 4, 13] fun K hK => ?_
  simp only [go_sem, Nat.reduceEqDiff, Nat.reduceLT, Nat.reduceAdd, Nat.reduceMul, Nat.reduceSub, Nat.add_zero, Nat.zero_add, Int.reduceEq, Int.reduceLT]
  refine hK _ _ _ (by simp only [go_sem, Nat.reduceEqDiff, Nat.reduceLT, Nat.reduceAdd, Nat.reduceMul, Nat.reduceSub, Nat.add_zero, Nat.zero_add, Int.reduceEq, Int.reduceLT]; rfl) ?_; clear hK
  refine AWP.cond_split rfl (fun h13 => ?_) fun h13 => ?_
  · refine AWP.stepR [2, 3] fun K hK => ?_
    simp only [go_sem, Nat.reduceEqDiff, Nat.reduceLT, Nat.reduceAdd, Nat.reduceMul, Nat.reduceSub, Nat.add_zero, Nat.zero_add, Int.reduceEq, Int.reduceLT]
    refine hK _ _ _ (by simp only [go_sem, Nat.reduceEqDiff, Nat.reduceLT, Nat.reduceAdd, Nat.reduceMul, Nat.reduceSub, Nat.add_zero, Nat.zero_add, Int.reduceEq, Int.reduceLT]; rfl) ?_; clear hK
    refine AWP.ret (Then.ret (?_))
    refine Fin.keep (.inr rfl) rfl ⟨hg1, _, rfl, ?_⟩
    rw [putV, if_neg (by simpa using h13)]
    exact Row_.nil _
  · have hck : checkN n = 0 := by simpa using h13
    obtain ⟨hfine, hsz⟩ := putOk hck
    obtain ⟨hpo, hko⟩ := partsF_zero.1 hfine.parts
    rw [hck, putV, if_pos hck]
    refine AWP.skip ?_
    have hb1 : ∀ i, 0 ≤ sumF prSz (n.pairs.take i) ∧ sumF prSz (n.pairs.take i) ≤ 3000000 := sum_take_le hL.pr hlp
    have hb2 : ∀ i, 0 ≤ sumF kdSz (n.kids.take i) ∧ sumF kdSz (n.kids.take i) ≤ 3000000 := sum_take_le hL.kd hlk
    have hb1a := hb1 n.pairs.length
    rw [List.take_length] at hb1a
    obtain ⟨Ma, hMa, hga, hga', hha, hoa⟩ := one_own (Grew.refl M1) 0
    refine AWP.stepR [1, 5] fun K hK => ?_
    simp only [go_sem, Nat.reduceEqDiff, Nat.reduceLT, Nat.reduceAdd, Nat.reduceMul, Nat.reduceSub, Nat.add_zero, Nat.zero_add, Int.reduceEq, Int.reduceLT, hMa]
    refine hK _ _ _ (by simp only [go_sem, Nat.reduceEqDiff, Nat.reduceLT, Nat.reduceAdd, Nat.reduceMul, Nat.reduceSub, Nat.add_zero, Nat.zero_add, Int.reduceEq, Int.reduceLT]; rfl) ?_; clear hK
    refine AWP.seq ?_
    refine AWP.stepR [1, 5, 17] fun K hK => ?_
    simp only [go_sem, Nat.reduceEqDiff, Nat.reduceLT, Nat.reduceAdd, Nat.reduceMul, Nat.reduceSub, Nat.add_zero, Nat.zero_add, Int.reduceEq, Int.reduceLT, ld_4, (hh1.grew hga).ld, nodeC]
    refine hK _ _ _ (by simp only [go_sem, Nat.reduceEqDiff, Nat.reduceLT, Nat.reduceAdd, Nat.reduceMul, Nat.reduceSub, Nat.add_zero, Nat.zero_add, Int.reduceEq, Int.reduceLT]; rfl) ?_; clear hK
    refine AWP.condE rfl [1, 5] (fun v => [(1, .pointer (some ⟨M.next, 0, none⟩)), (5, v)]) (fun v M' => Grew M1 M' ∧ OwnB M1 M' v [if n.leaf then 1 else 0] 5) (fun h17 => ?_) (fun h17 => ?_) fun rb Mb hJ => ?_
    · obtain ⟨Mb, hMb, hgb, _, hhb, hob⟩ := one_own hga 1
      refine AWP.lastR fun K hK => ?_
      simp only [go_sem, Nat.reduceEqDiff, Nat.reduceLT, Nat.reduceAdd, Nat.reduceMul, Nat.reduceSub, Nat.add_zero, Nat.zero_add, Int.reduceEq, Int.reduceLT, hMb]
      refine hK _ _ ?_; clear hK
      refine ⟨.slice (some ⟨Ma.next, 0, none⟩) 1 1, by simp only [go_sem, Nat.reduceEqDiff, Nat.reduceLT, Nat.reduceAdd, Nat.reduceMul, Nat.reduceSub, Nat.add_zero, Nat.zero_add, Int.reduceEq, Int.reduceLT], hgb, ?_⟩
      rw [h17]; exact hob
    · refine AWP.skip ?_
      refine ⟨.slice (some ⟨M1.next, 0, none⟩) 1 1, by simp only [go_sem, Nat.reduceEqDiff, Nat.reduceLT, Nat.reduceAdd, Nat.reduceMul, Nat.reduceSub, Nat.add_zero, Nat.zero_add, Int.reduceEq, Int.reduceLT], hga, ?_⟩
      rw [h17]; exact hoa
    obtain ⟨hgb, hob⟩ := hJ
    -- the count
    have hhB := hh1.grew hgb
    obtain ⟨rc, Mc, hcc, hgc, hoc⟩ := put43_spec 2 ((n.pairs.length : Int) + n.kids.length) Mb ((hg1.trans hgb).ok hok) (by omega) (by omega)
    obtain ⟨rd, Md, happ, hod, hgd, _⟩ := app_has (hgb.trans hgc) (hob.grew hgc) hoc.row (by simp [putB_length])
    have hod : OwnB M1 Md rd (headN n) 5 := hod
    refine AWP.stepR [1, 5] fun K hK => ?_
    simp only [go_sem, Nat.reduceEqDiff, Nat.reduceLT, Nat.reduceAdd, Nat.reduceMul, Nat.reduceSub, Nat.add_zero, Nat.zero_add, Int.reduceEq, Int.reduceLT, ld_41, ld_42, hhB.ld, nodeC, hr.pairs.len es_41, hr.kids.len es_42, i64w (n := (n.pairs.length : Int) + n.kids.length) (by omega) (by omega), u64w (n := (n.pairs.length : Int) + n.kids.length) (by omega) (by omega)]
    refine ⟨_, _, hcc, ?_⟩
    try simp only [go_sem, Nat.reduceEqDiff, Nat.reduceLT, Nat.reduceAdd, Nat.reduceMul, Nat.reduceSub, Nat.add_zero, Nat.zero_add, Int.reduceEq, Int.reduceLT, happ]
    refine hK _ _ _ (by simp only [go_sem, Nat.reduceEqDiff, Nat.reduceLT, Nat.reduceAdd, Nat.reduceMul, Nat.reduceSub, Nat.add_zero, Nat.zero_add, Int.reduceEq, Int.reduceLT]; rfl) ?_; clear hK
    clear hhB hob hoc hcc hgc hoa hha hga hga' hgb happ
    refine AWP.seq ?_
    refine AWP.stepR [1, 5, 6] fun K hK => ?_
    simp only [go_sem, Nat.reduceEqDiff, Nat.reduceLT, Nat.reduceAdd, Nat.reduceMul, Nat.reduceSub, Nat.add_zero, Nat.zero_add, Int.reduceEq, Int.reduceLT]
    refine hK _ _ _ (by simp only [go_sem, Nat.reduceEqDiff, Nat.reduceLT, Nat.reduceAdd, Nat.reduceMul, Nat.reduceSub, Nat.add_zero, Nat.zero_add, Int.reduceEq, Int.reduceLT]; rfl) ?_; clear hK
    refine AWP.block ?_ -- b0
    refine AWP.loopK [1, 5, 6] (fun k e M2 => k ≤ n.pairs.length ∧ Grew M1 M2 ∧ ∃ bv, e = [(1, .pointer (some ⟨M.next, 0, none⟩)), (5, bv), (6, .int .i64 ((n.pairs.length - k : Nat) : Int))] ∧ OwnB M1 M2 bv (pairsN n (n.pairs.length - k)) 5) n.pairs.length ?_ fun k e M2 hI => ?_ -- LOOP
    · simp only [go_sem, Nat.reduceEqDiff, Nat.reduceLT, Nat.reduceAdd, Nat.reduceMul, Nat.reduceSub, Nat.add_zero, Nat.zero_add, Int.reduceEq, Int.reduceLT, Nat.le_refl]
      exact ⟨hgd, rd, by simp, by rw [Nat.sub_self]; simpa [pairsN] using hod⟩
    obtain ⟨hn', hgl, bv, rfl, hown⟩ := hI
    have hhL := hh1.grew hgl
    refine AWP.seq ?_
    refine AWP.stepR [1, 5, 6, 34] fun K hK => ?_
    simp only [go_sem, Nat.reduceEqDiff, Nat.reduceLT, Nat.reduceAdd, Nat.reduceMul, Nat.reduceSub, Nat.add_zero, Nat.zero_add, Int.reduceEq, Int.reduceLT, ld_41, hhL.ld, nodeC, hr.pairs.len es_41]
    refine hK _ _ _ (by simp only [go_sem, Nat.reduceEqDiff, Nat.reduceLT, Nat.reduceAdd, Nat.reduceMul, Nat.reduceSub, Nat.add_zero, Nat.zero_add, Int.reduceEq, Int.reduceLT]; rfl) ?_; clear hK
    refine AWP.cond_split rfl (fun h34 => ?_) fun h34 => ?_
    · have hlt : n.pairs.length - k < n.pairs.length := by simpa using h34
      obtain ⟨b, q, ha, hd⟩ := pr_at hr.pairs hlt
      have hd := (hd M2 hgl).2.2
      have hst := pairsN_succ n hlt
      have hpl := pairsN_length n (n.pairs.length - k + 1)
      have hpb := hb1 (n.pairs.length - k + 1)
      have hxk := hr.pk _ (List.getElem_mem hlt)
      have hxv := hr.pv _ (List.getElem_mem hlt)
      have hxo := hpo _ (List.getElem_mem hlt)
      generalize n.pairs[n.pairs.length - k] = x at hd hst hxk hxv hxo
      have hx1 : x.key.length ≤ 64 ∧ x.val.length ≤ 160 := by simp [prOk] at hxo; omega
      have hlen : ((pairsN n (n.pairs.length - k + 1)).length : Int) = (pairsN n (n.pairs.length - k)).length + 2 + x.key.length + x.val.length := by rw [hst, List.length_append, pairN]; simp; omega
      refine AWP.skip ?_
      refine AWP.seq ?_
      refine AWP.block ?_ -- b1
      have hlt2 : M2.next < (M2.bump 1).next := Nat.lt_succ_self _
      refine AWP.stepR [1, 5, 6, 7] fun K hK => ?_
      simp only [go_sem, Nat.reduceEqDiff, Nat.reduceLT, Nat.reduceAdd, Nat.reduceMul, Nat.reduceSub, Nat.add_zero, Nat.zero_add, Int.reduceEq, Int.reduceLT, ld_41, hhL.ld, nodeC, ha, ld_58, hd, st_fresh (M := M2.bump 1) (i := M2.next) (n := 2) (old := [.slice none 0 0, .slice none 0 0]) (vs := prC x) (e := 58) rfl rfl (prC_one hxk hxv)]
      refine hK _ _ _ (by simp only [go_sem, Nat.reduceEqDiff, Nat.reduceLT, Nat.reduceAdd, Nat.reduceMul, Nat.reduceSub, Nat.add_zero, Nat.zero_add, Int.reduceEq, Int.reduceLT]; rfl) ?_; clear hK
      have hg4 := (((Grew.refl M2).bump 1).put (Nat.le_refl _) hlt2 ⟨[.slice none 0 0, .slice none 0 0], 58, true⟩).put (Nat.le_refl _) hlt2 ⟨prC x, 58, true⟩
      have hh4 : Has (((M2.bump 1).put M2.next ⟨[.slice none 0 0, .slice none 0 0], 58, true⟩).put M2.next ⟨prC x, 58, true⟩) M2.next ⟨prC x, 58, true⟩ := Has.put (M := (M2.bump 1).put M2.next ⟨[.slice none 0 0, .slice none 0 0], 58, true⟩) hlt2 _
      generalize ((M2.bump 1).put M2.next ⟨[.slice none 0 0, .slice none 0 0], 58, true⟩).put M2.next ⟨prC x, 58, true⟩ = M4 at hg4 hh4
      have hap := hown.apart (j := M2.next) (.inr (Nat.le_refl _))
      have hg14 := hgl.trans hg4
      -- the lengths
      obtain ⟨hgx, hhx⟩ := mk_put ((Grew.refl M4).bump 1) (Nat.le_refl _) (Nat.lt_succ_self _ : M4.next < (M4.bump 1).next) ⟨cB [(x.key.length : Int), (x.val.length : Int)], 5, true⟩
      have hX1 : (M4.bump 1).put M4.next ⟨[.int .u8 (x.key.length : Int), .int .u8 (x.val.length : Int)], 5, true⟩ = (M4.bump 1).put M4.next ⟨cB [(x.key.length : Int), (x.val.length : Int)], 5, true⟩ := rfl
      generalize (M4.bump 1).put M4.next ⟨cB [(x.key.length : Int), (x.val.length : Int)], 5, true⟩ = X1 at hgx hhx hX1
      obtain ⟨v2, X2, happ2, ho2, hg2, hf2⟩ := app_has (rv := .slice (some ⟨M4.next, 0, none⟩) 2 2) (m := [(x.key.length : Int), (x.val.length : Int)]) (hg14.trans hgx) ((hown.grew hg4).grew hgx) (Row_.of hhx) (by simp; omega)
      obtain ⟨hh42, hap2⟩ := hf2 _ _ (hh4.grew hgx) hap
      refine AWP.stepR [1, 5, 6, 7] fun K hK => ?_
      simp only [go_sem, Nat.reduceEqDiff, Nat.reduceLT, Nat.reduceAdd, Nat.reduceMul, Nat.reduceSub, Nat.add_zero, Nat.zero_add, Int.reduceEq, Int.reduceLT, ld_23, hh4.ld, prC, hxk.len es_23, hxv.len es_23, u8w (n := (x.key.length : Int)) (by omega) (by omega), u8w (n := (x.val.length : Int)) (by omega) (by omega), hX1, happ2]
      refine hK _ _ _ (by simp only [go_sem, Nat.reduceEqDiff, Nat.reduceLT, Nat.reduceAdd, Nat.reduceMul, Nat.reduceSub, Nat.add_zero, Nat.zero_add, Int.reduceEq, Int.reduceLT]; rfl) ?_; clear hK
      -- the key
      obtain ⟨v3, X3, happ3, ho3, hg3, hf3⟩ := app_has hg2 ho2 (hxk.grew hg2) (by simp; omega)
      obtain ⟨hh43, hap3⟩ := hf3 _ _ hh42 hap2
      refine AWP.stepR [1, 5, 6, 7] fun K hK => ?_
      simp only [go_sem, Nat.reduceEqDiff, Nat.reduceLT, Nat.reduceAdd, Nat.reduceMul, Nat.reduceSub, Nat.add_zero, Nat.zero_add, Int.reduceEq, Int.reduceLT, ld_23, hh42.ld, prC, happ3]
      refine hK _ _ _ (by simp only [go_sem, Nat.reduceEqDiff, Nat.reduceLT, Nat.reduceAdd, Nat.reduceMul, Nat.reduceSub, Nat.add_zero, Nat.zero_add, Int.reduceEq, Int.reduceLT]; rfl) ?_; clear hK
      obtain ⟨v4, X4, happ4, ho4, hg4', hf4⟩ := app_has hg3 ho3 (hxv.grew hg3) (by simp; omega)
      refine AWP.lastR fun K hK => ?_
      simp only [go_sem, Nat.reduceEqDiff, Nat.reduceLT, Nat.reduceAdd, Nat.reduceMul, Nat.reduceSub, Nat.add_zero, Nat.zero_add, Int.reduceEq, Int.reduceLT, ld_23, hh43.ld, prC, happ4]
      refine hK _ _ ?_; clear hK
      refine AWP.lastR fun K hK => ?_
      simp only [go_sem, Nat.reduceEqDiff, Nat.reduceLT, Nat.reduceAdd, Nat.reduceMul, Nat.reduceSub, Nat.add_zero, Nat.zero_add, Int.reduceEq, Int.reduceLT]
      refine hK _ _ ?_; clear hK
      refine ⟨k - 1, by omega, by omega, hg4', v4, ?_, ?_⟩ -- ROUND
      · simp only [go_sem, Nat.reduceEqDiff, Nat.reduceLT, Nat.reduceAdd, Nat.reduceMul, Nat.reduceSub, Nat.add_zero, Nat.zero_add, Int.reduceEq, Int.reduceLT]
        rw [i64w (by omega) (by omega), show ((n.pairs.length - k : Nat) : Int) + 1 = ((n.pairs.length - (k - 1) : Nat) : Int) by omega]
      · rw [show n.pairs.length - (k - 1) = n.pairs.length - k + 1 by omega, hst, pairN, show pairsN n (n.pairs.length - k) ++ ([(x.key.length : Int), (x.val.length : Int)] ++ (x.key ++ x.val)) = pairsN n (n.pairs.length - k) ++ [(x.key.length : Int), (x.val.length : Int)] ++ x.key ++ x.val by simp]
        exact ho4
    · refine AWP.exit (Then.exit (Then.exit (InBlock.same ?_)))
      have hk0 : k = 0 := by simp at h34; omega
      subst hk0
      have hown : OwnB M1 M2 bv (pairsN n n.pairs.length) 5 := hown
      have hgD := hgl
      refine AWP.seq ?_
      refine AWP.stepR [1, 5, 8] fun K hK => ?_
      simp only [go_sem, Nat.reduceEqDiff, Nat.reduceLT, Nat.reduceAdd, Nat.reduceMul, Nat.reduceSub, Nat.add_zero, Nat.zero_add, Int.reduceEq, Int.reduceLT]
      refine hK _ _ _ (by simp only [go_sem, Nat.reduceEqDiff, Nat.reduceLT, Nat.reduceAdd, Nat.reduceMul, Nat.reduceSub, Nat.add_zero, Nat.zero_add, Int.reduceEq, Int.reduceLT]; rfl) ?_; clear hK
      refine AWP.block ?_ -- b2
      refine AWP.loopK [1, 5, 8] (fun k e M3 => k ≤ n.kids.length ∧ Grew M1 M3 ∧ ∃ bv, e = [(1, .pointer (some ⟨M.next, 0, none⟩)), (5, bv), (8, .int .i64 ((n.kids.length - k : Nat) : Int))] ∧ OwnB M1 M3 bv (kidsN n (n.kids.length - k)) 5) n.kids.length ?_ fun k e M3 hI => ?_ -- LOOP
      · simp only [go_sem, Nat.reduceEqDiff, Nat.reduceLT, Nat.reduceAdd, Nat.reduceMul, Nat.reduceSub, Nat.add_zero, Nat.zero_add, Int.reduceEq, Int.reduceLT, Nat.le_refl]
        exact ⟨hgD, bv, by simp, by rw [Nat.sub_self]; simpa [kidsN] using hown⟩
      obtain ⟨hn', hgl, bv2, rfl, hown2⟩ := hI
      have hhL := hh1.grew hgl
      refine AWP.seq ?_
      refine AWP.stepR [1, 5, 8, 65] fun K hK => ?_
      simp only [go_sem, Nat.reduceEqDiff, Nat.reduceLT, Nat.reduceAdd, Nat.reduceMul, Nat.reduceSub, Nat.add_zero, Nat.zero_add, Int.reduceEq, Int.reduceLT, ld_42, hhL.ld, nodeC, hr.kids.len es_42]
      refine hK _ _ _ (by simp only [go_sem, Nat.reduceEqDiff, Nat.reduceLT, Nat.reduceAdd, Nat.reduceMul, Nat.reduceSub, Nat.add_zero, Nat.zero_add, Int.reduceEq, Int.reduceLT]; rfl) ?_; clear hK
      refine AWP.cond_split rfl (fun h65 => ?_) fun h65 => ?_
      · have hlt : n.kids.length - k < n.kids.length := by simpa using h65
        obtain ⟨b, q, ha, hd⟩ := kd_at hr.kids hlt
        have hd := (hd M3 hgl).2.2.2
        have hst := kidsN_succ n hlt
        have hpl := kidsN_length n (n.kids.length - k + 1)
        have hpb := hb2 (n.kids.length - k + 1)
        have hxk := hr.kk _ (List.getElem_mem hlt)
        have hxo := hko _ (List.getElem_mem hlt)
        generalize n.kids[n.kids.length - k] = x at hd hst hxk hxo
        have hx1 : x.key.length ≤ 64 ∧ 0 ≤ x.page ∧ x.page < 4096 ∧ 0 ≤ x.epoch ∧ x.epoch ≤ 1099511627776 := by
          unfold kdCode at hxo
          split at hxo
          · cases hxo
          · split at hxo
            · cases hxo
            · rename_i h1 h2; simp [kdRange] at h2; omega
        have hlen : ((kidsN n (n.kids.length - k + 1)).length : Int) = (kidsN n (n.kids.length - k)).length + 11 + x.key.length := by rw [hst, List.length_append, kidN]; simp [putB_length]; omega
        refine AWP.skip ?_
        refine AWP.seq ?_
        refine AWP.block ?_ -- b3
        have hlt2 : M3.next < (M3.bump 1).next := Nat.lt_succ_self _
        refine AWP.stepR [1, 5, 8, 9] fun K hK => ?_
        simp only [go_sem, Nat.reduceEqDiff, Nat.reduceLT, Nat.reduceAdd, Nat.reduceMul, Nat.reduceSub, Nat.add_zero, Nat.zero_add, Int.reduceEq, Int.reduceLT, ld_42, hhL.ld, nodeC, ha, ld_60, hd, st_fresh (M := M3.bump 1) (i := M3.next) (n := 3) (old := [.slice none 0 0, .int .i64 0, .int .i64 0]) (vs := kdC x) (e := 60) rfl rfl (kdC_one hxk)]
        refine hK _ _ _ (by simp only [go_sem, Nat.reduceEqDiff, Nat.reduceLT, Nat.reduceAdd, Nat.reduceMul, Nat.reduceSub, Nat.add_zero, Nat.zero_add, Int.reduceEq, Int.reduceLT]; rfl) ?_; clear hK
        have hg4 := (((Grew.refl M3).bump 1).put (Nat.le_refl _) hlt2 ⟨[.slice none 0 0, .int .i64 0, .int .i64 0], 60, true⟩).put (Nat.le_refl _) hlt2 ⟨kdC x, 60, true⟩
        have hh4 : Has (((M3.bump 1).put M3.next ⟨[.slice none 0 0, .int .i64 0, .int .i64 0], 60, true⟩).put M3.next ⟨kdC x, 60, true⟩) M3.next ⟨kdC x, 60, true⟩ := Has.put (M := (M3.bump 1).put M3.next ⟨[.slice none 0 0, .int .i64 0, .int .i64 0], 60, true⟩) hlt2 _
        generalize ((M3.bump 1).put M3.next ⟨[.slice none 0 0, .int .i64 0, .int .i64 0], 60, true⟩).put M3.next ⟨kdC x, 60, true⟩ = M4 at hg4 hh4
        have hap := hown2.apart (j := M3.next) (.inr (Nat.le_refl _))
        have hg14 := hgl.trans hg4
        -- the length
        obtain ⟨X1, hX1, _, hgx, hhx, _⟩ := one_own (Grew.refl M4) (x.key.length : Int)
        obtain ⟨v2, X2, happ2, ho2, hg2, hf2⟩ := app_has (rv := .slice (some ⟨M4.next, 0, none⟩) 1 1) (m := [(x.key.length : Int)]) (hg14.trans hgx) ((hown2.grew hg4).grew hgx) (Row_.of hhx) (by simp; omega)
        obtain ⟨hh42, hap2⟩ := hf2 _ _ (hh4.grew hgx) hap
        refine AWP.stepR [1, 5, 8, 9] fun K hK => ?_
        simp only [go_sem, Nat.reduceEqDiff, Nat.reduceLT, Nat.reduceAdd, Nat.reduceMul, Nat.reduceSub, Nat.add_zero, Nat.zero_add, Int.reduceEq, Int.reduceLT, ld_23, hh4.ld, kdC, hxk.len es_23, u8w (n := (x.key.length : Int)) (by omega) (by omega), hX1, happ2]
        refine hK _ _ _ (by simp only [go_sem, Nat.reduceEqDiff, Nat.reduceLT, Nat.reduceAdd, Nat.reduceMul, Nat.reduceSub, Nat.add_zero, Nat.zero_add, Int.reduceEq, Int.reduceLT]; rfl) ?_; clear hK
        -- the page
        obtain ⟨rp, Xp, hcp, hgp, hop⟩ := put43_spec 2 x.page X2 ((hg1.trans hg2).ok hok) (by omega) (by omega)
        obtain ⟨v3, X3, happ3, ho3, hg3, hf3⟩ := app_has (hg2.trans hgp) (ho2.grew hgp) hop.row (by simp [putB_length]; omega)
        obtain ⟨hh43, hap3⟩ := hf3 _ _ (hh42.grew hgp) hap2
        refine AWP.stepR [1, 5, 8, 9] fun K hK => ?_
        simp only [go_sem, Nat.reduceEqDiff, Nat.reduceLT, Nat.reduceAdd, Nat.reduceMul, Nat.reduceSub, Nat.add_zero, Nat.zero_add, Int.reduceEq, Int.reduceLT, ld_3, hh42.ld, kdC, u64w (n := x.page) (by omega) (by omega)]
        refine ⟨_, _, hcp, ?_⟩
        try simp only [go_sem, Nat.reduceEqDiff, Nat.reduceLT, Nat.reduceAdd, Nat.reduceMul, Nat.reduceSub, Nat.add_zero, Nat.zero_add, Int.reduceEq, Int.reduceLT, happ3]
        refine hK _ _ _ (by simp only [go_sem, Nat.reduceEqDiff, Nat.reduceLT, Nat.reduceAdd, Nat.reduceMul, Nat.reduceSub, Nat.add_zero, Nat.zero_add, Int.reduceEq, Int.reduceLT]; rfl) ?_; clear hK
        -- the epoch
        obtain ⟨re, Xe, hce, hge, hoe⟩ := put43_spec 8 x.epoch X3 ((hg1.trans hg3).ok hok) (by omega) (by omega)
        obtain ⟨v4, X4, happ4, ho4, hg4', hf4⟩ := app_has (hg3.trans hge) (ho3.grew hge) hoe.row (by simp [putB_length]; omega)
        obtain ⟨hh44, hap4⟩ := hf4 _ _ (hh43.grew hge) hap3
        refine AWP.stepR [1, 5, 8, 9] fun K hK => ?_
        simp only [go_sem, Nat.reduceEqDiff, Nat.reduceLT, Nat.reduceAdd, Nat.reduceMul, Nat.reduceSub, Nat.add_zero, Nat.zero_add, Int.reduceEq, Int.reduceLT, ld_3, hh43.ld, kdC, u64w (n := x.epoch) (by omega) (by omega)]
        refine ⟨_, _, hce, ?_⟩
        try simp only [go_sem, Nat.reduceEqDiff, Nat.reduceLT, Nat.reduceAdd, Nat.reduceMul, Nat.reduceSub, Nat.add_zero, Nat.zero_add, Int.reduceEq, Int.reduceLT, happ4]
        refine hK _ _ _ (by simp only [go_sem, Nat.reduceEqDiff, Nat.reduceLT, Nat.reduceAdd, Nat.reduceMul, Nat.reduceSub, Nat.add_zero, Nat.zero_add, Int.reduceEq, Int.reduceLT]; rfl) ?_; clear hK
        -- the key
        obtain ⟨v5, X5, happ5, ho5, hg5, hf5⟩ := app_has hg4' ho4 (hxk.grew hg4') (by simp [putB_length]; omega)
        refine AWP.lastR fun K hK => ?_
        simp only [go_sem, Nat.reduceEqDiff, Nat.reduceLT, Nat.reduceAdd, Nat.reduceMul, Nat.reduceSub, Nat.add_zero, Nat.zero_add, Int.reduceEq, Int.reduceLT, ld_23, hh44.ld, kdC, happ5]
        refine hK _ _ ?_; clear hK
        refine AWP.lastR fun K hK => ?_
        simp only [go_sem, Nat.reduceEqDiff, Nat.reduceLT, Nat.reduceAdd, Nat.reduceMul, Nat.reduceSub, Nat.add_zero, Nat.zero_add, Int.reduceEq, Int.reduceLT]
        refine hK _ _ ?_; clear hK
        refine ⟨k - 1, by omega, by omega, hg5, v5, ?_, ?_⟩ -- ROUND
        · simp only [go_sem, Nat.reduceEqDiff, Nat.reduceLT, Nat.reduceAdd, Nat.reduceMul, Nat.reduceSub, Nat.add_zero, Nat.zero_add, Int.reduceEq, Int.reduceLT]
          rw [i64w (by omega) (by omega), show ((n.kids.length - k : Nat) : Int) + 1 = ((n.kids.length - (k - 1) : Nat) : Int) by omega]
        · rw [show n.kids.length - (k - 1) = n.kids.length - k + 1 by omega, hst, kidN, show kidsN n (n.kids.length - k) ++ ([(x.key.length : Int)] ++ (putB x.page 2 ++ (putB x.epoch 8 ++ x.key))) = kidsN n (n.kids.length - k) ++ [(x.key.length : Int)] ++ putB x.page 2 ++ putB x.epoch 8 ++ x.key by simp]
          exact ho5
      · refine AWP.exit (Then.exit (Then.exit (InBlock.same ?_)))
        have hk0 : k = 0 := by simp at h65; omega
        subst hk0
        have hown2 : OwnB M1 M3 bv2 (kidsN n n.kids.length) 5 := hown2
        have hall := kidsN_all n
        have hkl : (kidsN n n.kids.length).length ≤ 496 := by omega
        refine AWP.seq ?_
        refine AWP.block ?_ -- b4
        refine AWP.loopK [5] (fun k e M5 => Grew M1 M5 ∧ k ≤ 496 - (kidsN n n.kids.length).length ∧ ∃ bv, e = [(5, bv)] ∧ OwnB M1 M5 bv (kidsN n n.kids.length ++ List.replicate (496 - (kidsN n n.kids.length).length - k) 0) 5) (496 - (kidsN n n.kids.length).length) ?_ fun k e M5 hI => ?_ -- LOOP
        · simp only [go_sem, Nat.reduceEqDiff, Nat.reduceLT, Nat.reduceAdd, Nat.reduceMul, Nat.reduceSub, Nat.add_zero, Nat.zero_add, Int.reduceEq, Int.reduceLT, Nat.le_refl]
          exact ⟨hgl, bv2, by simp, by rw [Nat.sub_self]; simpa using hown2⟩
        obtain ⟨hg5, hk, bv3, rfl, hown3⟩ := hI
        have hlen3 : (kidsN n n.kids.length ++ List.replicate (496 - (kidsN n n.kids.length).length - k) 0).length = 496 - k := by simp; omega
        refine AWP.seq ?_
        refine AWP.stepR [5, 98] fun K hK => ?_
        simp only [go_sem, Nat.reduceEqDiff, Nat.reduceLT, Nat.reduceAdd, Nat.reduceMul, Nat.reduceSub, Nat.add_zero, Nat.zero_add, Int.reduceEq, Int.reduceLT, hown3.row.len es_23]
        refine hK _ _ _ (by simp only [go_sem, Nat.reduceEqDiff, Nat.reduceLT, Nat.reduceAdd, Nat.reduceMul, Nat.reduceSub, Nat.add_zero, Nat.zero_add, Int.reduceEq, Int.reduceLT]; rfl) ?_; clear hK
        refine AWP.cond_split rfl (fun h98 => ?_) fun h98 => ?_
        · have hk1 : 0 < k := by rw [hlen3] at h98; simp at h98; omega
          obtain ⟨X1, hX1, _, hgx, hhx, _⟩ := one_own (Grew.refl M5) 0
          obtain ⟨v2, X2, happ2, ho2, hg2, hf2⟩ := app_has (rv := .slice (some ⟨M5.next, 0, none⟩) 1 1) (m := [0]) (hg5.trans hgx) (hown3.grew hgx) (Row_.of hhx) (by rw [hlen3]; simp; omega)
          refine AWP.skip ?_
          refine AWP.block ?_ -- b5
          refine AWP.lastR fun K hK => ?_
          simp only [go_sem, Nat.reduceEqDiff, Nat.reduceLT, Nat.reduceAdd, Nat.reduceMul, Nat.reduceSub, Nat.add_zero, Nat.zero_add, Int.reduceEq, Int.reduceLT, hX1, happ2]
          refine hK _ _ ?_; clear hK
          refine ⟨k - 1, by omega, hg2, by omega, v2, by simp only [go_sem, Nat.reduceEqDiff, Nat.reduceLT, Nat.reduceAdd, Nat.reduceMul, Nat.reduceSub, Nat.add_zero, Nat.zero_add, Int.reduceEq, Int.reduceLT], ?_⟩ -- ROUND
          rw [List.append_assoc] at ho2
          rw [show 496 - (kidsN n n.kids.length).length - (k - 1) = 496 - (kidsN n n.kids.length).length - k + 1 by omega, List.replicate_succ']
          exact ho2
        · refine AWP.exit (Then.exit (Then.exit (InBlock.same ?_)))
          have hk0 : k = 0 := by rw [hlen3] at h98; simp at h98; omega
          subst hk0
          have hfin : kidsN n n.kids.length ++ List.replicate (496 - (kidsN n n.kids.length).length - 0) 0 = nodeB n := by rw [nodeB, show 496 - (kidsN n n.kids.length).length - 0 = (496 - sizeF n).toNat by omega]
          rw [hfin] at hown3
          refine AWP.stepR [2, 3] fun K hK => ?_
          simp only [go_sem, Nat.reduceEqDiff, Nat.reduceLT, Nat.reduceAdd, Nat.reduceMul, Nat.reduceSub, Nat.add_zero, Nat.zero_add, Int.reduceEq, Int.reduceLT]
          refine hK _ _ _ (by simp only [go_sem, Nat.reduceEqDiff, Nat.reduceLT, Nat.reduceAdd, Nat.reduceMul, Nat.reduceSub, Nat.add_zero, Nat.zero_add, Int.reduceEq, Int.reduceLT]; rfl) ?_; clear hK
          refine AWP.ret (?_)
          exact Fin.keep (.inr rfl) rfl ⟨hg1.trans hg5, bv3, rfl, hown3.row⟩
end Go.Proofs.Ythheaehpnleiaaa.AX
