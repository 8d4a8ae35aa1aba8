/- A node as a page, by the program. -/
import Derived.Test.YthheaehpnleiaaaNodePuts20
import Derived.Test.YthheaehpnleiaaaNodePuts21
import Derived.Test.YthheaehpnleiaaaNodePuts23
namespace Go.Proofs.Ythheaehpnleiaaa.AX
open Go Go.Proofs
set_option maxRecDepth 100000
set_option linter.unusedVariables false
set_option linter.unusedSimpArgs false

def headN (n : Node) : List Int := (if n.leaf then 1 else 0) :: putB ((n.pairs.length : Int) + n.kids.length) 2
def pairN (p : Pr) : List Int := [(p.key.length : Int), (p.val.length : Int)] ++ (p.key ++ p.val)
def kidN (k : Kd) : List Int := [(k.key.length : Int)] ++ (putB k.page 2 ++ (putB k.epoch 8 ++ k.key))
def pairsN (n : Node) (i : Nat) : List Int := headN n ++ ((n.pairs.take i).map pairN).flatten
def kidsN (n : Node) (j : Nat) : List Int := pairsN n n.pairs.length ++ ((n.kids.take j).map kidN).flatten
/-- a node's page -/
def nodeB (n : Node) : List Int := kidsN n n.kids.length ++ List.replicate (496 - sizeF n).toNat 0
theorem flat_pairs (l : List Pr) : (((l.map pairN).flatten.length : Nat) : Int) = sumF prSz l := by
  induction l with
  | nil => rfl
  | cons a l ih => rw [List.map_cons, List.flatten_cons, List.length_append, sumF, ← ih, pairN, prSz]; simp; omega
theorem flat_kids (l : List Kd) : (((l.map kidN).flatten.length : Nat) : Int) = sumF kdSz l := by
  induction l with
  | nil => rfl
  | cons a l ih => rw [List.map_cons, List.flatten_cons, List.length_append, sumF, ← ih, kidN, kdSz]; simp [putB_length]; omega
theorem headN_length (n : Node) : (headN n).length = 3 := by simp [headN, putB_length]
theorem pairsN_length (n : Node) (i : Nat) : ((pairsN n i).length : Int) = 3 + sumF prSz (n.pairs.take i) := by
  rw [pairsN, List.length_append, headN_length, Int.natCast_add, flat_pairs]; rfl
theorem kidsN_length (n : Node) (j : Nat) : ((kidsN n j).length : Int) = 3 + sumF prSz n.pairs + sumF kdSz (n.kids.take j) := by
  rw [kidsN, List.length_append, Int.natCast_add, flat_kids, pairsN_length, List.take_length]
theorem kidsN_all (n : Node) : ((kidsN n n.kids.length).length : Int) = sizeF n := by rw [kidsN_length, List.take_length, sizeF]
theorem pairsN_succ (n : Node) {i : Nat} (h : i < n.pairs.length) : pairsN n (i + 1) = pairsN n i ++ pairN n.pairs[i] := by
  rw [pairsN, pairsN, List.take_succ_eq_append_getElem h, List.map_append, List.flatten_append]; simp
theorem kidsN_succ (n : Node) {i : Nat} (h : i < n.kids.length) : kidsN n (i + 1) = kidsN n i ++ kidN n.kids[i] := by
  rw [kidsN, kidsN, List.take_succ_eq_append_getElem h, List.map_append, List.flatten_append]; simp
theorem u8w {n : Int} (h : 0 ≤ n) (h' : n < 256) : IntKind.u8.wrap n = n := by simp [IntKind.wrap, IntKind.signed, IntKind.bits, IntKind.min, IntKind.max]; omega
theorem zrow5 (n : Nat) : zrow Try.prog 5 n = cB (List.replicate n 0) := by
  have hz : zeroC Try.prog 5 = some #[.int .u8 0] := by kernel_rfl
  rw [zrow, hz]
  simp only [zcells, cB]
  apply List.ext_getElem?
  intro i
  by_cases hi : i < n
  · simp [hi, Nat.mod_one]
  · simp [hi]
theorem putOk {n : Node} (h : checkN n = 0) : FineN n ∧ sizeF n ≤ 496 := by
  have hf := fine_of (.inl h)
  refine ⟨hf, ?_⟩
  unfold checkN at h
  rw [hf.form, if_neg (by decide), if_pos hf.parts, hf.rp, hf.rk, if_pos (by rfl)] at h
  split at h
  · cases h
  · omega
def putV (n : Node) : List Int := if checkN n = 0 then nodeB n else []

theorem OwnB.set0 {M0 M1 M2 : Mem} {v : Value} {x : Int} {l : List Int} (h : OwnB M1 M2 v (x :: l) 5) (hg : Grew M0 M2) (hle : M0.next ≤ M1.next) (y : Int) :
    ∃ b M3, (∀ k, indexAddrV Try.prog 23 v (.int k 0) = some (.pointer (some ⟨b, 0, none⟩))) ∧ stV M2 b 0 1 (.int .u8 y) = some M3 ∧ Grew M0 M3 ∧ RowB M3 v (y :: l) := by
  rcases h with ⟨_, h, _⟩ | ⟨id, c, blk, h0, h1, rfl, h3, h4, h5, ⟨h6, _⟩ | h6⟩
  · simp at h
  · simp at h6
  · refine ⟨id, _, fun k => ?_, st_cell ⟨h3, h1⟩ h4 (by rw [h6, cB_length]; simp) rfl, ?_, ?_⟩
    · rw [ia_eq es_23, if_pos ⟨by omega, by simp⟩]; simp
    · exact (mk_put hg (Nat.le_trans hle h0) h1 _).1
    · refine .inr ⟨id, 0, c, _, rfl, (mk_put hg (Nat.le_trans hle h0) h1 _).2, ?_, ?_⟩
      · simp [h6, cB_length]
      · simp only [h6, cB, List.map_cons, List.set_cons_zero, List.drop_zero, List.length_cons]; exact List.take_of_length_le (by simp)
theorem Row_.zero {M : Mem} {j k : Nat} {n : Nat} {e : TypeId} (h : Has M j ⟨cB (List.replicate n 0), e, true⟩) : RowB M (.slice (some ⟨j, 0, none⟩) n k) (List.replicate n 0) := by
  rw [RowB, List.length_replicate]
  exact .inr ⟨j, 0, k, _, rfl, h, by simp [cB_length], by rw [List.drop_zero, List.take_of_length_le (by rw [cB_length]; simp)]⟩

theorem put22_spec (n : Node) (vp vk : Value) (M : Mem) (hok : Ok M) (hr : NodeR M n vp vk) (hL : Lt18 n) (hB : NodeB n) :
    ∃ r M', ACall Try.prog 22 #[.agg (nodeC n.leaf vp vk).toArray] M r M' ∧ Grew M M' ∧ ∃ bv, r = .tuple #[bv, .int .i64 (checkN n)] ∧ RowB M' bv (putV n) := by
  refine ACall.fin (args := [.agg (nodeC n.leaf vp vk).toArray]) (k := 88) (rs := [.tmp 2, .tmp 3]) Try.func22 rfl rfl rfl (Nat.le_of_ble_eq_true rfl) ?_
  have hlp := hL.pairs; have hlk := hL.kids
  refine AWP.stepR [1] fun K hK => ?_
  simp only [go_sem, Nat.reduceEqDiff, Nat.reduceLT, Nat.reduceAdd, Nat.reduceMul, Nat.reduceSub, Nat.add_zero, Nat.zero_add, Int.reduceEq, Int.reduceLT]
  refine hK _ _ _ (by simp only [go_sem, Nat.reduceEqDiff, Nat.reduceLT, Nat.reduceAdd, Nat.reduceMul, Nat.reduceSub, Nat.add_zero, Nat.zero_add, Int.reduceEq, Int.reduceLT]; rfl) ?_; clear hK
  have hlt1 : M.next < (M.bump 1).next := Nat.lt_succ_self _
  obtain ⟨hg1, hh1⟩ := mk_put ((Grew.refl M).bump 1) (Nat.le_refl _) hlt1 ⟨nodeC n.leaf vp vk, 44, true⟩
  change AWP _ _ _ ⟨_, (M.bump 1).put M.next ⟨nodeC n.leaf vp vk, 44, true⟩⟩ _
  generalize hM1 : (M.bump 1).put M.next ⟨nodeC n.leaf vp vk, 44, true⟩ = M1 at hg1 hh1
  have hr := hr.grew hg1
  obtain ⟨r2, M2, hc2, hr2, hM2⟩ := check26_spec n vp vk M1 (hg1.ok hok) hr hL hB
  rw [hr2, hM2] at hc2
  refine AWP.seq ?_
  refine AWP.stepR [1, 4] fun K hK => ?_
  simp only [go_sem, Nat.reduceEqDiff, Nat.reduceLT, Nat.reduceAdd, Nat.reduceMul, Nat.reduceSub, Nat.add_zero, Nat.zero_add, Int.reduceEq, Int.reduceLT, ld_44, hh1.lda (nodeC_len ..)]
  refine ⟨_, _, hc2, ?_⟩
  refine hK _ _ _ (by simp only [go_sem, Nat.reduceEqDiff, Nat.reduceLT, Nat.reduceAdd, Nat.reduceMul, Nat.reduceSub, Nat.add_zero, Nat.zero_add, Int.reduceEq, Int.reduceLT]; rfl) ?_; clear hK
  refine AWP.stepR [1, 4, 13] fun K hK => ?_
  simp only [go_sem, Nat.reduceEqDiff, Nat.reduceLT, Nat.reduceAdd, Nat.reduceMul, Nat.reduceSub, Nat.add_zero, Nat.zero_add, Int.reduceEq, Int.reduceLT]
  refine hK _ _ _ (by simp only [go_sem, Nat.reduceEqDiff, Nat.reduceLT, Nat.reduceAdd, Nat.reduceMul, Nat.reduceSub, Nat.add_zero, Nat.zero_add, Int.reduceEq, Int.reduceLT]; rfl) ?_; clear hK
  refine AWP.cond_split rfl (fun h13 => ?_) fun h13 => ?_
  · refine AWP.stepR [2, 3] fun K hK => ?_
    simp only [go_sem, Nat.reduceEqDiff, Nat.reduceLT, Nat.reduceAdd, Nat.reduceMul, Nat.reduceSub, Nat.add_zero, Nat.zero_add, Int.reduceEq, Int.reduceLT]
    refine hK _ _ _ (by simp only [go_sem, Nat.reduceEqDiff, Nat.reduceLT, Nat.reduceAdd, Nat.reduceMul, Nat.reduceSub, Nat.add_zero, Nat.zero_add, Int.reduceEq, Int.reduceLT]; rfl) ?_; clear hK
    refine AWP.ret (Then.ret (?_))
    refine Fin.keep (.inr rfl) rfl ⟨hg1, _, rfl, ?_⟩
    rw [putV, if_neg (by simpa using h13)]
    exact Row_.nil _
  · have hck : checkN n = 0 := by simpa using h13
    obtain ⟨hfine, hsz⟩ := putOk hck
    obtain ⟨hpo, hko⟩ := partsF_zero.1 hfine.parts
    rw [hck, putV, if_pos hck]
    refine AWP.skip ?_
    have hb1 : ∀ i, 0 ≤ sumF prSz (n.pairs.take i) ∧ sumF prSz (n.pairs.take i) ≤ 3000000 := sum_take_le hL.pr hlp
    have hb2 : ∀ i, 0 ≤ sumF kdSz (n.kids.take i) ∧ sumF kdSz (n.kids.take i) ≤ 3000000 := sum_take_le hL.kd hlk
    have hb1a := hb1 n.pairs.length
    rw [List.take_length] at hb1a
    -- the head
    have hl1 : M1.next < (M1.bump 2).next := by rw [Mem.next_bump]; omega
    obtain ⟨hgx, hhx⟩ := mk_put ((Grew.refl M1).bump 2) (Nat.le_refl _) hl1 ⟨cB [0], 5, true⟩
    have hX1 : (M1.bump 2).put M1.next ⟨[.int .u8 0], 5, true⟩ = (M1.bump 2).put M1.next ⟨cB [0], 5, true⟩ := rfl
    have hnx : ((M1.bump 2).put M1.next ⟨cB [0], 5, true⟩).next = M1.next + 2 := rfl
    generalize (M1.bump 2).put M1.next ⟨cB [0], 5, true⟩ = X1 at hgx hhx hnx hX1
    obtain ⟨ra, Xa, hca, hga, hoa⟩ := put39_spec 2 ((n.pairs.length : Int) + n.kids.length) X1 ((hg1.trans hgx).ok hok) (by omega) (by omega) (by decide)
    have hna : M1.next + 1 < Xa.next := by have := hga.next; omega
    obtain ⟨hgy, hhy⟩ := mk_put (hgx.trans hga) (show M1.next ≤ M1.next + 1 by omega) hna ⟨[.slice (some ⟨M1.next, 0, none⟩) 1 1, ra], 23, true⟩
    have hhx := (hhx.grew hga).put' (show M1.next ≠ M1.next + 1 by omega) ⟨[.slice (some ⟨M1.next, 0, none⟩) 1 1, ra], 23, true⟩
    have hoa := hoa.put (by omega : M1.next + 1 < X1.next) ⟨[.slice (some ⟨M1.next, 0, none⟩) 1 1, ra], 23, true⟩
    generalize hX2 : Xa.put (M1.next + 1) ⟨[.slice (some ⟨M1.next, 0, none⟩) 1 1, ra], 23, true⟩ = X2 at hgy hhy hhx hoa
    obtain ⟨rb, Xb, hcb, hgb, hob⟩ := join37_spec (.slice (some ⟨M1.next + 1, 0, none⟩) 2 2) [.slice (some ⟨M1.next, 0, none⟩) 1 1, ra] [[0], putB ((n.pairs.length : Int) + n.kids.length) 2] X2 ((hg1.trans hgy).ok hok) (Row_.of hhy) (.cons (Row_.of hhx) (.cons hoa.row (.nil _))) (by simp [putB_length]) (by simp) (by simp)
    rw [show [[0], putB ((n.pairs.length : Int) + n.kids.length) 2].flatten = 0 :: putB ((n.pairs.length : Int) + n.kids.length) 2 by simp] at hob
    refine AWP.stepR [1, 5] fun K hK => ?_
    simp only [go_sem, Nat.reduceEqDiff, Nat.reduceLT, Nat.reduceAdd, Nat.reduceMul, Nat.reduceSub, Nat.add_zero, Nat.zero_add, Int.reduceEq, Int.reduceLT, ld_41, ld_42, hX1, (hh1.grew hgx).ld, nodeC, hr.pairs.len es_41, hr.kids.len es_42, i64w (n := (n.pairs.length : Int) + n.kids.length) (by omega) (by omega), u64w (n := (n.pairs.length : Int) + n.kids.length) (by omega) (by omega)]
    refine ⟨_, _, hca, ?_⟩
    try simp only [go_sem, Nat.reduceEqDiff, Nat.reduceLT, Nat.reduceAdd, Nat.reduceMul, Nat.reduceSub, Nat.add_zero, Nat.zero_add, Int.reduceEq, Int.reduceLT, hoa.row.one, hX2]
    refine ⟨_, _, hcb, ?_⟩
    refine hK _ _ _ (by simp only [go_sem, Nat.reduceEqDiff, Nat.reduceLT, Nat.reduceAdd, Nat.reduceMul, Nat.reduceSub, Nat.add_zero, Nat.zero_add, Int.reduceEq, Int.reduceLT]; rfl) ?_; clear hK
    have hgB : Grew M1 Xb := hgy.trans hgb
    have hhB := hh1.grew hgB
    refine AWP.seq ?_
    refine AWP.stepR [1, 5, 28] fun K hK => ?_
    simp only [go_sem, Nat.reduceEqDiff, Nat.reduceLT, Nat.reduceAdd, Nat.reduceMul, Nat.reduceSub, Nat.add_zero, Nat.zero_add, Int.reduceEq, Int.reduceLT, ld_4, hhB.ld, nodeC]
    refine hK _ _ _ (by simp only [go_sem, Nat.reduceEqDiff, Nat.reduceLT, Nat.reduceAdd, Nat.reduceMul, Nat.reduceSub, Nat.add_zero, Nat.zero_add, Int.reduceEq, Int.reduceLT]; rfl) ?_; clear hK
    refine AWP.condG rfl [1, 5] [(1, .pointer (some ⟨M.next, 0, none⟩)), (5, rb)] (fun M' => Grew M1 M' ∧ RowB M' rb (headN n)) (fun h28 => ?_) (fun h28 => ?_) fun Mc hgc => ?_
    · obtain ⟨b, M3, ha, hs, hg3, hr3⟩ := hob.set0 hgB hgy.next 1
      refine AWP.lastR fun K hK => ?_
      simp only [go_sem, Nat.reduceEqDiff, Nat.reduceLT, Nat.reduceAdd, Nat.reduceMul, Nat.reduceSub, Nat.add_zero, Nat.zero_add, Int.reduceEq, Int.reduceLT, ha, hs]
      refine hK _ _ ?_; clear hK
      refine ⟨by simp only [go_sem, Nat.reduceEqDiff, Nat.reduceLT, Nat.reduceAdd, Nat.reduceMul, Nat.reduceSub, Nat.add_zero, Nat.zero_add, Int.reduceEq, Int.reduceLT], hg3, ?_⟩
      rw [headN, h28]; exact hr3
    · refine AWP.skip ?_
      refine ⟨by simp only [go_sem, Nat.reduceEqDiff, Nat.reduceLT, Nat.reduceAdd, Nat.reduceMul, Nat.reduceSub, Nat.add_zero, Nat.zero_add, Int.reduceEq, Int.reduceLT], hgB, ?_⟩
      rw [headN, h28]; exact hob.row
    obtain ⟨hgc, hrb⟩ := hgc
    have hhC := hh1.grew hgc
    have hrC := hr.grew hgc
    have hgM := hg1.trans hgc
    clear hhB hgB hob hgb hcb hoa hgy hhy hhx hna hga hca
    refine AWP.seq ?_
    refine AWP.stepR [1, 5, 32, 33, 34] fun K hK => ?_
    simp only [go_sem, Nat.reduceEqDiff, Nat.reduceLT, Nat.reduceAdd, Nat.reduceMul, Nat.reduceSub, Nat.add_zero, Nat.zero_add, Int.reduceEq, Int.reduceLT, ld_41, hhC.ld, nodeC, hrC.pairs.len es_41]
    refine hK _ _ _ (by simp only [go_sem, Nat.reduceEqDiff, Nat.reduceLT, Nat.reduceAdd, Nat.reduceMul, Nat.reduceSub, Nat.add_zero, Nat.zero_add, Int.reduceEq, Int.reduceLT]; rfl) ?_; clear hK
    refine AWP.block ?_ -- b0
    refine AWP.loopK [1, 5, 32, 33, 34] (fun k e M2 => k ≤ n.pairs.length ∧ Grew Mc M2 ∧ ∃ bv, e = [(1, .pointer (some ⟨M.next, 0, none⟩)), (5, bv), (32, vp), (33, .int .i64 n.pairs.length), (34, .int .i64 ((n.pairs.length - k : Nat) : Int))] ∧ RowB M2 bv (pairsN n (n.pairs.length - k))) n.pairs.length ?_ fun k e M2 hI => ?_ -- LOOP
    · simp only [go_sem, Nat.reduceEqDiff, Nat.reduceLT, Nat.reduceAdd, Nat.reduceMul, Nat.reduceSub, Nat.add_zero, Nat.zero_add, Int.reduceEq, Int.reduceLT, Nat.le_refl]
      exact ⟨Grew.refl _, rb, by simp, by rw [Nat.sub_self]; simpa [pairsN] using hrb⟩
    obtain ⟨hn', hgl, bv, rfl, hown⟩ := hI
    refine AWP.stepR [1, 5, 32, 33, 34, 35] fun K hK => ?_
    simp only [go_sem, Nat.reduceEqDiff, Nat.reduceLT, Nat.reduceAdd, Nat.reduceMul, Nat.reduceSub, Nat.add_zero, Nat.zero_add, Int.reduceEq, Int.reduceLT]
    refine hK _ _ _ (by simp only [go_sem, Nat.reduceEqDiff, Nat.reduceLT, Nat.reduceAdd, Nat.reduceMul, Nat.reduceSub, Nat.add_zero, Nat.zero_add, Int.reduceEq, Int.reduceLT]; rfl) ?_; clear hK
    refine AWP.condS rfl (fun h35 => ?_) fun h35 => ?_
    · have hlt : n.pairs.length - k < n.pairs.length := by simpa using h35
      obtain ⟨b, q, ha, hd⟩ := pr_at hrC.pairs hlt
      have hd := (hd M2 hgl).2.2
      have hst := pairsN_succ n hlt
      have hpl := pairsN_length n (n.pairs.length - k + 1)
      have hpb := hb1 (n.pairs.length - k + 1)
      have hxk := hrC.pk _ (List.getElem_mem hlt)
      have hxv := hrC.pv _ (List.getElem_mem hlt)
      have hxo := hpo _ (List.getElem_mem hlt)
      generalize n.pairs[n.pairs.length - k] = x at hd hst hxk hxv hxo
      have hx1 : x.key.length ≤ 64 ∧ x.val.length ≤ 160 := by simp [prOk] at hxo; omega
      refine AWP.skip ?_
      refine AWP.seq ?_
      refine AWP.block ?_ -- b1
      have hlt2 : M2.next < (M2.bump 1).next := Nat.lt_succ_self _
      refine AWP.stepR [1, 5, 7, 32, 33, 34] fun K hK => ?_
      simp only [go_sem, Nat.reduceEqDiff, Nat.reduceLT, Nat.reduceAdd, Nat.reduceMul, Nat.reduceSub, Nat.add_zero, Nat.zero_add, Int.reduceEq, Int.reduceLT, ha, ld_58, hd, st_fresh (M := M2.bump 1) (i := M2.next) (n := 2) (old := [.slice none 0 0, .slice none 0 0]) (vs := prC x) (e := 58) rfl rfl (prC_one hxk hxv)]
      refine hK _ _ _ (by simp only [go_sem, Nat.reduceEqDiff, Nat.reduceLT, Nat.reduceAdd, Nat.reduceMul, Nat.reduceSub, Nat.add_zero, Nat.zero_add, Int.reduceEq, Int.reduceLT]; rfl) ?_; clear hK
      have hg4 := (((Grew.refl M2).bump 1).put (Nat.le_refl _) hlt2 ⟨[.slice none 0 0, .slice none 0 0], 58, true⟩).put (Nat.le_refl _) hlt2 ⟨prC x, 58, true⟩
      have hh4 : Has (((M2.bump 1).put M2.next ⟨[.slice none 0 0, .slice none 0 0], 58, true⟩).put M2.next ⟨prC x, 58, true⟩) M2.next ⟨prC x, 58, true⟩ := Has.put (M := (M2.bump 1).put M2.next ⟨[.slice none 0 0, .slice none 0 0], 58, true⟩) hlt2 _
      generalize ((M2.bump 1).put M2.next ⟨[.slice none 0 0, .slice none 0 0], 58, true⟩).put M2.next ⟨prC x, 58, true⟩ = M4 at hg4 hh4
      have hxk4 := hxk.grew (hgl.trans hg4)
      have hxv4 := hxv.grew (hgl.trans hg4)
      have hown4 := hown.grew hg4
      obtain ⟨hgx, hhx⟩ := mk_put ((Grew.refl M4).bump 2) (Nat.le_refl _) (by rw [Mem.next_bump]; omega : M4.next < (M4.bump 2).next) ⟨cB [(x.key.length : Int), (x.val.length : Int)], 5, true⟩
      have hX1 : (M4.bump 2).put M4.next ⟨[.int .u8 (x.key.length : Int), .int .u8 (x.val.length : Int)], 5, true⟩ = (M4.bump 2).put M4.next ⟨cB [(x.key.length : Int), (x.val.length : Int)], 5, true⟩ := rfl
      have hnx : ((M4.bump 2).put M4.next ⟨cB [(x.key.length : Int), (x.val.length : Int)], 5, true⟩).next = M4.next + 2 := rfl
      generalize (M4.bump 2).put M4.next ⟨cB [(x.key.length : Int), (x.val.length : Int)], 5, true⟩ = X1 at hgx hhx hnx hX1
      obtain ⟨hgy, hhy⟩ := mk_put hgx (Nat.le_succ _) (by omega : M4.next + 1 < X1.next) ⟨[bv, .slice (some ⟨M4.next, 0, none⟩) 2 2, x.kv, x.vv], 23, true⟩
      have hhx := hhx.put' (show M4.next ≠ M4.next + 1 by omega) ⟨[bv, .slice (some ⟨M4.next, 0, none⟩) 2 2, x.kv, x.vv], 23, true⟩
      generalize hX2 : X1.put (M4.next + 1) ⟨[bv, .slice (some ⟨M4.next, 0, none⟩) 2 2, x.kv, x.vv], 23, true⟩ = X2 at hgy hhy hhx
      have hfl : [pairsN n (n.pairs.length - k), [(x.key.length : Int), (x.val.length : Int)], x.key, x.val].flatten = pairsN n (n.pairs.length - k + 1) := by rw [hst]; simp [pairN]
      obtain ⟨re, Xe, hce, hge, hoe⟩ := join37_spec (.slice (some ⟨M4.next + 1, 0, none⟩) 4 4) [bv, .slice (some ⟨M4.next, 0, none⟩) 2 2, x.kv, x.vv] _ X2 (((hgM.trans hgl).trans (hg4.trans hgy)).ok hok) (Row_.of hhy) (.cons (hown4.grew hgy) (.cons (Row_.of hhx) (.cons (hxk4.grew hgy) (.cons (hxv4.grew hgy) (.nil _))))) (by rw [hfl]; omega) (by simp) (by rw [hfl, hst]; simp [pairN])
      rw [hfl] at hoe
      refine AWP.lastR fun K hK => ?_
      simp only [go_sem, Nat.reduceEqDiff, Nat.reduceLT, Nat.reduceAdd, Nat.reduceMul, Nat.reduceSub, Nat.add_zero, Nat.zero_add, Int.reduceEq, Int.reduceLT, ld_23, hh4.ld, prC, hxk4.len es_23, hxv4.len es_23, u8w (n := (x.key.length : Int)) (by omega) (by omega), u8w (n := (x.val.length : Int)) (by omega) (by omega), hX1, (hh4.grew hgx).ld, hown4.one, hxk.one, hxv.one, hX2]
      refine ⟨_, _, hce, ?_⟩
      refine hK _ _ ?_; clear hK
      refine AWP.lastR fun K hK => ?_
      simp only [go_sem, Nat.reduceEqDiff, Nat.reduceLT, Nat.reduceAdd, Nat.reduceMul, Nat.reduceSub, Nat.add_zero, Nat.zero_add, Int.reduceEq, Int.reduceLT]
      refine hK _ _ ?_; clear hK
      refine ⟨k - 1, by omega, by omega, hgl.trans (hg4.trans (hgy.trans hge)), re, ?_, ?_⟩ -- ROUND
      · simp only [go_sem, Nat.reduceEqDiff, Nat.reduceLT, Nat.reduceAdd, Nat.reduceMul, Nat.reduceSub, Nat.add_zero, Nat.zero_add, Int.reduceEq, Int.reduceLT]
        rw [i64w (by omega) (by omega), show ((n.pairs.length - k : Nat) : Int) + 1 = ((n.pairs.length - (k - 1) : Nat) : Int) by omega]
      · rw [show n.pairs.length - (k - 1) = n.pairs.length - k + 1 by omega]
        exact hoe.row
    · refine AWP.exit (Then.exit (Then.exit (InBlock.same ?_)))
      have hk0 : k = 0 := by simp at h35; omega
      subst hk0
      have hown : RowB M2 bv (pairsN n n.pairs.length) := hown
      have hhD := hhC.grew hgl
      have hrD := hrC.grew hgl
      have hgD := hgM.trans hgl
      refine AWP.seq ?_
      refine AWP.stepR [5, 56, 57, 58] fun K hK => ?_
      simp only [go_sem, Nat.reduceEqDiff, Nat.reduceLT, Nat.reduceAdd, Nat.reduceMul, Nat.reduceSub, Nat.add_zero, Nat.zero_add, Int.reduceEq, Int.reduceLT, ld_42, hhD.ld, nodeC, hrD.kids.len es_42]
      refine hK _ _ _ (by simp only [go_sem, Nat.reduceEqDiff, Nat.reduceLT, Nat.reduceAdd, Nat.reduceMul, Nat.reduceSub, Nat.add_zero, Nat.zero_add, Int.reduceEq, Int.reduceLT]; rfl) ?_; clear hK
      refine AWP.block ?_ -- b2
      refine AWP.loopK [5, 56, 57, 58] (fun k e M3 => k ≤ n.kids.length ∧ Grew M2 M3 ∧ ∃ bv, e = [(5, bv), (56, vk), (57, .int .i64 n.kids.length), (58, .int .i64 ((n.kids.length - k : Nat) : Int))] ∧ RowB M3 bv (kidsN n (n.kids.length - k))) n.kids.length ?_ fun k e M3 hI => ?_ -- LOOP
      · simp only [go_sem, Nat.reduceEqDiff, Nat.reduceLT, Nat.reduceAdd, Nat.reduceMul, Nat.reduceSub, Nat.add_zero, Nat.zero_add, Int.reduceEq, Int.reduceLT, Nat.le_refl]
        exact ⟨Grew.refl _, bv, by simp, by rw [Nat.sub_self]; simpa [kidsN] using hown⟩
      obtain ⟨hn', hgl2, bv2, rfl, hown2⟩ := hI
      refine AWP.stepR [5, 56, 57, 58, 59] fun K hK => ?_
      simp only [go_sem, Nat.reduceEqDiff, Nat.reduceLT, Nat.reduceAdd, Nat.reduceMul, Nat.reduceSub, Nat.add_zero, Nat.zero_add, Int.reduceEq, Int.reduceLT]
      refine hK _ _ _ (by simp only [go_sem, Nat.reduceEqDiff, Nat.reduceLT, Nat.reduceAdd, Nat.reduceMul, Nat.reduceSub, Nat.add_zero, Nat.zero_add, Int.reduceEq, Int.reduceLT]; rfl) ?_; clear hK
      refine AWP.condS rfl (fun h59 => ?_) fun h59 => ?_
      · have hlt : n.kids.length - k < n.kids.length := by simpa using h59
        obtain ⟨b, q, ha, hd⟩ := kd_at hrD.kids hlt
        have hd := (hd M3 hgl2).2.2.2
        have hst := kidsN_succ n hlt
        have hpl := kidsN_length n (n.kids.length - k + 1)
        have hpb := hb2 (n.kids.length - k + 1)
        have hxk := hrD.kk _ (List.getElem_mem hlt)
        have hxo := hko _ (List.getElem_mem hlt)
        generalize n.kids[n.kids.length - k] = x at hd hst hxk hxo
        have hx1 : x.key.length ≤ 64 ∧ 0 ≤ x.page ∧ x.page < 4096 ∧ 0 ≤ x.epoch ∧ x.epoch ≤ 1099511627776 := by
          unfold kdCode at hxo
          split at hxo
          · cases hxo
          · split at hxo
            · cases hxo
            · rename_i h1 h2; simp [kdRange] at h2; omega
        refine AWP.skip ?_
        refine AWP.seq ?_
        refine AWP.block ?_ -- b3
        have hlt2 : M3.next < (M3.bump 1).next := Nat.lt_succ_self _
        refine AWP.stepR [5, 9, 56, 57, 58] fun K hK => ?_
        simp only [go_sem, Nat.reduceEqDiff, Nat.reduceLT, Nat.reduceAdd, Nat.reduceMul, Nat.reduceSub, Nat.add_zero, Nat.zero_add, Int.reduceEq, Int.reduceLT, ha, ld_60, hd, st_fresh (M := M3.bump 1) (i := M3.next) (n := 3) (old := [.slice none 0 0, .int .i64 0, .int .i64 0]) (vs := kdC x) (e := 60) rfl rfl (kdC_one hxk)]
        refine hK _ _ _ (by simp only [go_sem, Nat.reduceEqDiff, Nat.reduceLT, Nat.reduceAdd, Nat.reduceMul, Nat.reduceSub, Nat.add_zero, Nat.zero_add, Int.reduceEq, Int.reduceLT]; rfl) ?_; clear hK
        have hg4 := (((Grew.refl M3).bump 1).put (Nat.le_refl _) hlt2 ⟨[.slice none 0 0, .int .i64 0, .int .i64 0], 60, true⟩).put (Nat.le_refl _) hlt2 ⟨kdC x, 60, true⟩
        have hh4 : Has (((M3.bump 1).put M3.next ⟨[.slice none 0 0, .int .i64 0, .int .i64 0], 60, true⟩).put M3.next ⟨kdC x, 60, true⟩) M3.next ⟨kdC x, 60, true⟩ := Has.put (M := (M3.bump 1).put M3.next ⟨[.slice none 0 0, .int .i64 0, .int .i64 0], 60, true⟩) hlt2 _
        generalize ((M3.bump 1).put M3.next ⟨[.slice none 0 0, .int .i64 0, .int .i64 0], 60, true⟩).put M3.next ⟨kdC x, 60, true⟩ = M4 at hg4 hh4
        have hxk4 := hxk.grew (hgl2.trans hg4)
        have hown4 := hown2.grew hg4
        have hgM4 := hgD.trans (hgl2.trans hg4)
        obtain ⟨ra, Xa, hca, hga, hoa⟩ := put39_spec 2 x.page (M4.bump 2) ((hgM4.bump 2).ok hok) (by omega) (by omega) (by decide)
        obtain ⟨rc, Xc, hcc, hgc', hoc⟩ := put39_spec 8 x.epoch Xa (((hgM4.bump 2).trans hga).ok hok) (by omega) (by omega) (by decide)
        have hga' : Grew M4 Xa := ((Grew.refl _).bump 2).trans hga
        have hgac : Grew M4 Xc := hga'.trans hgc'
        have hnc : M4.next + 2 ≤ Xc.next := by have := (hga.trans hgc').next; rw [Mem.next_bump] at this; exact this
        obtain ⟨hgx, hhx⟩ := mk_put hgac (Nat.le_refl _) (by omega : M4.next < Xc.next) ⟨cB [(x.key.length : Int)], 5, true⟩
        have hoa := (hoa.grew hgc').put (by rw [Mem.next_bump]; omega : M4.next < (M4.bump 2).next) ⟨cB [(x.key.length : Int)], 5, true⟩
        have hoc := (hoc.base (M0 := M4.bump 2) hga.next).put (by rw [Mem.next_bump]; omega : M4.next < (M4.bump 2).next) ⟨cB [(x.key.length : Int)], 5, true⟩
        have hX1 : Xc.put M4.next ⟨[.int .u8 (x.key.length : Int)], 5, true⟩ = Xc.put M4.next ⟨cB [(x.key.length : Int)], 5, true⟩ := rfl
        have hnx : (Xc.put M4.next ⟨cB [(x.key.length : Int)], 5, true⟩).next = Xc.next := rfl
        generalize Xc.put M4.next ⟨cB [(x.key.length : Int)], 5, true⟩ = X1 at hgx hhx hnx hX1 hoa hoc
        obtain ⟨hgy, hhy⟩ := mk_put hgx (Nat.le_succ _) (by omega : M4.next + 1 < X1.next) ⟨[bv2, .slice (some ⟨M4.next, 0, none⟩) 1 1, ra, rc, x.kv], 23, true⟩
        have hhx := hhx.put' (show M4.next ≠ M4.next + 1 by omega) ⟨[bv2, .slice (some ⟨M4.next, 0, none⟩) 1 1, ra, rc, x.kv], 23, true⟩
        have hoa := hoa.put (by rw [Mem.next_bump]; omega : M4.next + 1 < (M4.bump 2).next) ⟨[bv2, .slice (some ⟨M4.next, 0, none⟩) 1 1, ra, rc, x.kv], 23, true⟩
        have hoc := hoc.put (by rw [Mem.next_bump]; omega : M4.next + 1 < (M4.bump 2).next) ⟨[bv2, .slice (some ⟨M4.next, 0, none⟩) 1 1, ra, rc, x.kv], 23, true⟩
        generalize hX2 : X1.put (M4.next + 1) ⟨[bv2, .slice (some ⟨M4.next, 0, none⟩) 1 1, ra, rc, x.kv], 23, true⟩ = X2 at hgy hhy hhx hoa hoc
        have hfl : [kidsN n (n.kids.length - k), [(x.key.length : Int)], putB x.page 2, putB x.epoch 8, x.key].flatten = kidsN n (n.kids.length - k + 1) := by rw [hst]; simp [kidN]
        obtain ⟨re, Xe, hce, hge, hoe⟩ := join37_spec (.slice (some ⟨M4.next + 1, 0, none⟩) 5 5) [bv2, .slice (some ⟨M4.next, 0, none⟩) 1 1, ra, rc, x.kv] _ X2 ((hgM4.trans hgy).ok hok) (Row_.of hhy) (.cons (hown4.grew hgy) (.cons (Row_.of hhx) (.cons hoa.row (.cons hoc.row (.cons (hxk4.grew hgy) (.nil _)))))) (by rw [hfl]; omega) (by simp) (by rw [hfl, hst]; simp [kidN])
        rw [hfl] at hoe
        refine AWP.oneD' hmo [6, 7, 8, 9, 10, 11, 12, 13, 0, 1, 2, 3, 4, 5, 14, 15, 16, 17, 18] [0, 0, 2, 6, 14, 30, 0, 64, 192, 448, 0, 1024, 3072, 8128, 0, 16384, 65535, 131071, 262143] [] [(2, 9), (2, 13), (11, 9), (15, 9), (15, 13)] (by kernel_rfl) fun K hK => ?_
        simp -implicitDefEqProofs only [go_sem, Nat.reduceEqDiff, Nat.reduceLT, Nat.reduceAdd, Nat.reduceMul, Nat.reduceSub, Nat.add_zero, Nat.zero_add, Int.reduceEq, Int.reduceLT, ld_3, hh4.ld, kdC, u64w (n := x.page) (by omega) (by omega)]
        refine ⟨_, _, hca, ?_⟩
        try simp -implicitDefEqProofs only [go_sem, Nat.reduceEqDiff, Nat.reduceLT, Nat.reduceAdd, Nat.reduceMul, Nat.reduceSub, Nat.add_zero, Nat.zero_add, Int.reduceEq, Int.reduceLT, ld_3, hh4.ld, (hh4.grew hga').ld, kdC, u64w (n := x.epoch) (by omega) (by omega)]
        refine ⟨_, _, hcc, ?_⟩
        try simp -implicitDefEqProofs only [go_sem, Nat.reduceEqDiff, Nat.reduceLT, Nat.reduceAdd, Nat.reduceMul, Nat.reduceSub, Nat.add_zero, Nat.zero_add, Int.reduceEq, Int.reduceLT, ld_23, hh4.ld, (hh4.grew hga').ld, (hh4.grew hgac).ld, kdC, hxk4.len es_23, u8w (n := (x.key.length : Int)) (by omega) (by omega), hX1, (hh4.grew hgx).ld, hown4.one, hxk.one, hoa.row.one, hoc.row.one, hX2]
        refine ⟨_, _, hce, ?_⟩
        refine hK _ _ ?_; clear hK
        refine AWP.lastR fun K hK => ?_
        simp only [go_sem, Nat.reduceEqDiff, Nat.reduceLT, Nat.reduceAdd, Nat.reduceMul, Nat.reduceSub, Nat.add_zero, Nat.zero_add, Int.reduceEq, Int.reduceLT]
        refine hK _ _ ?_; clear hK
        refine ⟨k - 1, by omega, by omega, hgl2.trans (hg4.trans (hgy.trans hge)), re, ?_, ?_⟩ -- ROUND
        · simp only [go_sem, Nat.reduceEqDiff, Nat.reduceLT, Nat.reduceAdd, Nat.reduceMul, Nat.reduceSub, Nat.add_zero, Nat.zero_add, Int.reduceEq, Int.reduceLT]
          rw [i64w (by omega) (by omega), show ((n.kids.length - k : Nat) : Int) + 1 = ((n.kids.length - (k - 1) : Nat) : Int) by omega]
        · rw [show n.kids.length - (k - 1) = n.kids.length - k + 1 by omega]
          exact hoe.row
      · refine AWP.exit (Then.exit (Then.exit (InBlock.same ?_)))
        have hk0 : k = 0 := by simp at h59; omega
        subst hk0
        have hown2 : RowB M3 bv2 (kidsN n n.kids.length) := hown2
        have hgE := hgD.trans hgl2
        have hall := kidsN_all n
        have hs0 : 3 ≤ sizeF n := by have := hb2 n.kids.length; rw [List.take_length] at this; unfold sizeF; omega
        obtain ⟨z, hz⟩ : ∃ z : Nat, (496 - sizeF n).toNat = z := ⟨_, rfl⟩
        have hz' : 496 - ((kidsN n n.kids.length).length : Int) = (z : Int) := by omega
        have hms : (0 ≤ (z : Int) ∧ (z : Int) ≤ (z : Int) ∧ (z : Int) ≤ 281474976710656 ∧ ((1 : Nat) : Int) * (z : Int) ≤ 281474976710656) = True := eq_true ⟨by omega, by omega, by omega, by omega⟩
        obtain ⟨hgx, hhx⟩ := mk_put ((Grew.refl M3).bump 2) (Nat.le_refl _) (by rw [Mem.next_bump]; omega : M3.next < (M3.bump 2).next) ⟨cB (List.replicate z 0), 5, true⟩
        have hnx : ((M3.bump 2).put M3.next ⟨cB (List.replicate z 0), 5, true⟩).next = M3.next + 2 := rfl
        have hX1 : (M3.bump 2).put M3.next ⟨zrow Try.prog 5 z, 5, true⟩ = (M3.bump 2).put M3.next ⟨cB (List.replicate z 0), 5, true⟩ := by rw [zrow5]
        generalize (M3.bump 2).put M3.next ⟨cB (List.replicate z 0), 5, true⟩ = X1 at hgx hhx hnx hX1
        obtain ⟨hgy, hhy⟩ := mk_put hgx (Nat.le_succ _) (by omega : M3.next + 1 < X1.next) ⟨[bv2, .slice (some ⟨M3.next, 0, none⟩) z z], 23, true⟩
        have hhx := hhx.put' (show M3.next ≠ M3.next + 1 by omega) ⟨[bv2, .slice (some ⟨M3.next, 0, none⟩) z z], 23, true⟩
        generalize hX2 : X1.put (M3.next + 1) ⟨[bv2, .slice (some ⟨M3.next, 0, none⟩) z z], 23, true⟩ = X2 at hgy hhy hhx
        have hfl : [kidsN n n.kids.length, List.replicate z 0].flatten = nodeB n := by rw [nodeB, hz]; simp
        have hnl : (nodeB n).length = (kidsN n n.kids.length).length + z := by rw [← hfl]; simp
        obtain ⟨re, Xe, hce, hge, hoe⟩ := join37_spec (.slice (some ⟨M3.next + 1, 0, none⟩) 2 2) [bv2, .slice (some ⟨M3.next, 0, none⟩) z z] _ X2 ((hgE.trans hgy).ok hok) (Row_.of hhy) (.cons (hown2.grew hgy) (.cons (Row_.zero hhx) (.nil _))) (by rw [hfl]; omega) (by simp) (by rw [hfl]; intro h; rw [h] at hnl; simp at hnl; omega)
        rw [hfl] at hoe
        refine AWP.stepR [2, 3] fun K hK => ?_
        simp only [go_sem, Nat.reduceEqDiff, Nat.reduceLT, Nat.reduceAdd, Nat.reduceMul, Nat.reduceSub, Nat.add_zero, Nat.zero_add, Int.reduceEq, Int.reduceLT, hown2.len es_23, hz', i64w (n := (z : Int)) (by omega) (by omega), hms, Int.toNat_natCast, hX1, hown2.one, hX2]
        refine ⟨_, _, hce, ?_⟩
        refine hK _ _ _ (by simp only [go_sem, Nat.reduceEqDiff, Nat.reduceLT, Nat.reduceAdd, Nat.reduceMul, Nat.reduceSub, Nat.add_zero, Nat.zero_add, Int.reduceEq, Int.reduceLT]; rfl) ?_; clear hK
        refine AWP.ret (?_)
        refine Fin.own (fun v => .tuple #[v, .int .i64 0]) (.inr rfl) rfl hok (hgE.trans (hgy.trans hge)) (hoe.base (hgE.trans hgy).next) (cB_plain _) (fun g hi v v' h => .tuple rfl fun i a b ha hb => ?_) fun v M' hg' hr' _ => ⟨hg', v, rfl, hr'⟩
        rcases i with _ | _ | i
        · simp at ha hb; subst ha hb; exact h
        · simp at ha hb; subst ha hb; exact .int _ _
        · simp at ha
end Go.Proofs.Ythheaehpnleiaaa.AX
