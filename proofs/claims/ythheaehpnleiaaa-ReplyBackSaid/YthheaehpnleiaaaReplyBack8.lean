/- An answer as bytes. -/
import Derived.Test.YthheaehpnleiaaaReplyBack7
import Derived.Test.YthheaehpnleiaaaReplyBack6
namespace Go.Proofs.Ythheaehpnleiaaa.AX
open Go Go.Proofs
set_option maxRecDepth 100000
set_option linter.unusedVariables false
set_option linter.unusedSimpArgs false

attribute [go_sem] implies_true false_implies true_implies Bool.false_eq_true List.any_cons List.any_nil Bool.or_false Bool.false_or Bool.and_false Bool.false_and Bool.true_or Bool.or_true and_true eq_self
theorem Has.lda {M : Mem} {i n : Nat} {cells : List Value} {e : TypeId} {w : Bool} (h : Has M i ⟨cells, e, w⟩) (hl : cells.length = n) : ldA M.get i 0 n = some (.agg cells.toArray) := by
  rw [ldA_at h.1, if_pos (by simp only; omega)]
  simp [← hl]
theorem mk_put {Mb M : Mem} (hg : Grew Mb M) {i : Nat} (h : Mb.next ≤ i) (hi : i < M.next) (b : Blk) : Grew Mb (M.put i b) ∧ Has (M.put i b) i b := ⟨hg.put h hi b, Has.put hi b⟩
theorem mark23 {M : Mem} {i : Nat} {b : Blk} (h : Has M i b) (hw : b.rw = true) (o n c : Nat) : markV Try.prog M.get 23 23 (.slice (some ⟨i, o, none⟩) n c) = some (.slice (some ⟨i, o, none⟩) n c) := by
  have h1 : Try.prog.underlying 23 = some (.slice 5) := by kernel_rfl
  have h2 : Try.prog.underlying 5 = some (.int .u8) := by kernel_rfl
  simp only [markV, h1, h2, h.1, hw, and_self, if_true]
theorem repC_len (r : Rep) (vb vm vt vn vp vs : Value) : (repC r vb vm vt vn vp vs).length = 17 := rfl

/-- what is ahead of the numbers -/
def headB (r : Rep) : List Int := [114, 101, 49, flagF [r.marker, r.done, r.more] 3]
def numsF (r : Rep) (k : Nat) : List Int := headB r ++ (((repN r).take k).map fun n => putB n 6).flatten
theorem numsF_succ (r : Rep) {k : Nat} (h : k < (repN r).length) : numsF r (k + 1) = numsF r k ++ putB (repN r)[k] 6 := by
  rw [numsF, numsF, List.take_succ_eq_append_getElem h, List.map_append, List.flatten_append, ← List.append_assoc]
  show _ ++ [putB (repN r)[k] 6].flatten = _
  rw [List.flatten_cons, List.flatten_nil, List.append_nil]
theorem numsF_length (r : Rep) : ∀ k, k ≤ 7 → (numsF r k).length = 4 + k * 6 := by
  intro k
  induction k with
  | zero => intro _; simp [numsF, headB]
  | succ k ih => intro h; rw [numsF_succ r (by simp [repN]; omega), List.length_append, ih (by omega), putB_length]; omega
def midB (r : Rep) : List Int := [numsF r 7, longB r.meta_, longB r.tags, textsF r.names r.names.length, textsF r.prefixes r.prefixes.length, longB (sB r.next), putB r.shown.length 4].flatten
def shwB (s : Shw) : List Int := longB (sB s.name) ++ putB s.id 6 ++ putB s.size 6 ++ [flagF [s.marker, s.latest] 2]
def shownF (r : Rep) (k : Nat) : List Int := midB r ++ ((r.shown.take k).map shwB).flatten
theorem shownF_succ (r : Rep) {k : Nat} (h : k < r.shown.length) : shownF r (k + 1) = shownF r k ++ shwB r.shown[k] := by
  rw [shownF, shownF, List.take_succ_eq_append_getElem h, List.map_append, List.flatten_append, ← List.append_assoc]
  show _ ++ [shwB r.shown[k]].flatten = _
  rw [List.flatten_cons, List.flatten_nil, List.append_nil]
def replyB (r : Rep) : List Int := shownF r r.shown.length ++ longB r.body
/-- what an answer's sizes are at most -/
structure Lt (r : Rep) : Prop where
  body : r.body.length ≤ 10000
  meta_ : r.meta_.length ≤ 10000
  tags : r.tags.length ≤ 10000
  names : r.names.length ≤ 1000
  prefixes : r.prefixes.length ≤ 1000
  next : r.next.size ≤ 10000
  shown : r.shown.length ≤ 1000
  nameS : ∀ s, s ∈ r.names → s.size ≤ 10000
  prefixS : ∀ s, s ∈ r.prefixes → s.size ≤ 10000
  shownS : ∀ s, s ∈ r.shown → s.name.size ≤ 10000
theorem Lt.of {r : Rep} (h : lightF r = true) : Lt r := by
  simp only [lightF, Bool.and_eq_true] at h
  obtain ⟨⟨⟨h1, h2⟩, h3⟩, h4⟩ := h
  have h1 := of_decide_eq_true h1
  have w : ∀ {a b c : Nat}, a ≤ b → b ≤ c → a ≤ c := fun h h' => Nat.le_trans h h'
  exact ⟨w h1.1 (by decide), w h1.2.1 (by decide), w h1.2.2.1 (by decide), w h1.2.2.2.1 (by decide), w h1.2.2.2.2.1 (by decide), w h1.2.2.2.2.2.1 (by decide), w h1.2.2.2.2.2.2 (by decide), fun s hs => w (of_decide_eq_true (List.all_eq_true.1 h2 s hs)) (by decide), fun s hs => w (of_decide_eq_true (List.all_eq_true.1 h3 s hs)) (by decide), fun s hs => w (of_decide_eq_true (List.all_eq_true.1 h4 s hs)) (by decide)⟩
theorem midB_le {r : Rep} (h : Lt r) : (midB r).length ≤ 100000000 := by
  have h1 := textsF_le r.names (fun s hs => Nat.le_trans (h.nameS s hs) (by decide)) _ (Nat.le_refl _)
  have h2 := textsF_le r.prefixes (fun s hs => Nat.le_trans (h.prefixS s hs) (by decide)) _ (Nat.le_refl _)
  have := h.names; have := h.prefixes; have := h.meta_; have := h.tags; have := h.next
  simp only [midB, List.flatten_cons, List.flatten_nil, List.length_append, longB_length, sB_length, putB_length, numsF_length r 7 (Nat.le_refl _), List.length_nil]
  omega
theorem shwB_length (s : Shw) : (shwB s).length = 17 + s.name.size := by simp only [shwB, List.length_append, longB_length, sB_length, putB_length, List.length_cons, List.length_nil]; omega
theorem shownF_le {r : Rep} (h : Lt r) : ∀ k, k ≤ r.shown.length → (shownF r k).length ≤ 100000000 + k * 20000 := by
  intro k
  induction k with
  | zero => intro _; have := midB_le h; simpa [shownF] using this
  | succ k ih =>
    intro hk
    have h1 := ih (by omega)
    have h2 := h.shownS _ (List.getElem_mem (show k < r.shown.length by omega))
    rw [shownF_succ r (by omega), List.length_append, shwB_length]
    omega

/-- a number that is in range, as a number without a sign -/
theorem numOk_spec {n : Int} (h : numOk n = true) : 0 ≤ n ∧ n ≤ 1099511627776 := by simpa [numOk] using h
theorem checkF_zero {r : Rep} (h : checkF r = 0) : (repN r).all numOk = true ∧ r.shown.all shwOk = true := by
  unfold checkF at h
  split at h
  · rename_i h1
    split at h
    · rename_i h2; exact ⟨h1, h2⟩
    · cases h
  · cases h

theorem put12_spec (r : Rep) (vb vm vt vn vp vs : Value) (M : Mem) (hok : Ok M) (hr : RepR M r vb vm vt vn vp vs) (hL : Lt r) :
    ∃ v M', ACall Try.prog 12 #[.agg (repC r vb vm vt vn vp vs).toArray] M v M' ∧ Grew M M' ∧ ∃ b, v = .tuple #[b, .int .i64 (checkF r)] ∧ RowB M' b (if checkF r = 0 then replyB r else []) := by
  refine ACall.fin (args := [.agg (repC r vb vm vt vn vp vs).toArray]) (k := 116) Try.func12 rfl rfl rfl (Nat.le_of_ble_eq_true rfl) ?_
  refine AWP.stepR [1] fun K hK => ?_ -- r0
  simp only [go_sem, Nat.reduceEqDiff, Nat.reduceLT, Nat.reduceAdd, Nat.reduceMul, Nat.reduceSub, Nat.add_zero, Nat.zero_add, Int.reduceEq, Int.reduceLT]
  refine hK _ _ _ (by simp only [go_sem, Nat.reduceEqDiff, Nat.reduceLT, Nat.reduceAdd, Nat.reduceMul, Nat.reduceSub, Nat.add_zero, Nat.zero_add, Int.reduceEq, Int.reduceLT]; rfl) ?_; clear hK
  have hlt0 : M.next < (M.bump 1).next := Nat.lt_succ_self _
  obtain ⟨hg1, hh1⟩ := mk_put ((Grew.refl M).bump 1) (Nat.le_refl _) hlt0 ⟨repC r vb vm vt vn vp vs, 29, true⟩
  change AWP _ _ _ ⟨_, (M.bump 1).put M.next ⟨repC r vb vm vt vn vp vs, 29, true⟩⟩ _
  generalize hM1 : (M.bump 1).put M.next ⟨repC r vb vm vt vn vp vs, 29, true⟩ = M1 at hg1 hh1
  have hr := hr.grew hg1
  obtain ⟨rc, Mc, hcc, hrc, hMc⟩ := check15_spec r vb vm vt vn vp vs M1 (hg1.ok hok) hr (by have := hL.names; omega) (by have := hL.prefixes; omega) (by have := hL.shown; omega)
  rw [hrc, hMc] at hcc
  refine AWP.seq ?_
  refine AWP.stepR [1, 4] fun K hK => ?_ -- r1
  simp only [go_sem, Nat.reduceEqDiff, Nat.reduceLT, Nat.reduceAdd, Nat.reduceMul, Nat.reduceSub, Nat.add_zero, Nat.zero_add, Int.reduceEq, Int.reduceLT, ld_29, hh1.lda (repC_len ..)]
  refine ⟨_, _, hcc, ?_⟩
  refine hK _ _ _ (by simp only [go_sem, Nat.reduceEqDiff, Nat.reduceLT, Nat.reduceAdd, Nat.reduceMul, Nat.reduceSub, Nat.add_zero, Nat.zero_add, Int.reduceEq, Int.reduceLT]; rfl) ?_; clear hK
  refine AWP.stepR [1, 4, 13] fun K hK => ?_ -- r2
  simp only [go_sem, Nat.reduceEqDiff, Nat.reduceLT, Nat.reduceAdd, Nat.reduceMul, Nat.reduceSub, Nat.add_zero, Nat.zero_add, Int.reduceEq, Int.reduceLT]
  refine hK _ _ _ (by simp only [go_sem, Nat.reduceEqDiff, Nat.reduceLT, Nat.reduceAdd, Nat.reduceMul, Nat.reduceSub, Nat.add_zero, Nat.zero_add, Int.reduceEq, Int.reduceLT]; rfl) ?_; clear hK
  refine AWP.cond_split rfl (fun h13 => ?_) fun h13 => ?_
  · refine AWP.stepR [2, 3] fun K hK => ?_ -- r3
    simp only [go_sem, Nat.reduceEqDiff, Nat.reduceLT, Nat.reduceAdd, Nat.reduceMul, Nat.reduceSub, Nat.add_zero, Nat.zero_add, Int.reduceEq, Int.reduceLT]
    refine hK _ _ _ (by simp only [go_sem, Nat.reduceEqDiff, Nat.reduceLT, Nat.reduceAdd, Nat.reduceMul, Nat.reduceSub, Nat.add_zero, Nat.zero_add, Int.reduceEq, Int.reduceLT]; rfl) ?_; clear hK
    refine AWP.ret (Then.ret (?_))
    have hne : checkF r ≠ 0 := by simpa using h13
    refine Fin.own (n := 0) (cells := []) (e := 5) (fun v => .tuple #[v, .int .i64 (checkF r)]) (.inr rfl) rfl hok hg1 (Own.nil _ _ _) rfl (fun g hi v v' h => .tuple rfl fun i a b ha hb => ?_) fun v M' hg' hr' _ => ⟨hg', v, rfl, by rw [if_neg hne]; exact hr'⟩
    rcases i with _ | _ | i
    · simp at ha hb; subst ha hb; exact h
    · simp at ha hb; subst ha hb; exact .int _ _
    · simp at ha
  · have hz : checkF r = 0 := by simpa using h13
    obtain ⟨hz1, hz2⟩ := checkF_zero hz
    refine AWP.skip ?_
    have hl1 : M1.next < (M1.bump 3).next := by rw [Mem.next_bump]; omega
    have hl2 : M1.next + 1 < (M1.bump 3).next := by rw [Mem.next_bump]; omega
    obtain ⟨hg2, hh2⟩ := mk_put ((Grew.refl M1).bump 3) (Nat.le_refl _) hl1 ⟨cB [114, 101, 49], 5, true⟩
    have hx2 : ((M1.bump 3).put M1.next ⟨[.int .u8 114, .int .u8 101, .int .u8 49], 5, true⟩) = ((M1.bump 3).put M1.next ⟨cB [114, 101, 49], 5, true⟩) := rfl
    have hn2 : ((M1.bump 3).put M1.next ⟨cB [114, 101, 49], 5, true⟩).next = M1.next + 3 := rfl
    generalize (M1.bump 3).put M1.next ⟨cB [114, 101, 49], 5, true⟩ = M2 at hg2 hh2 hx2 hn2
    obtain ⟨hg3, hh3⟩ := mk_put hg2 (Nat.le_succ _) (by omega : M1.next + 1 < M2.next) ⟨[r.marker, r.done, r.more].map .bool, 4, true⟩
    have hh23 := hh2.put' (show M1.next ≠ M1.next + 1 by omega) ⟨[r.marker, r.done, r.more].map .bool, 4, true⟩
    have hx3 : M2.put (M1.next + 1) ⟨[.bool r.marker, .bool r.done, .bool r.more], 4, true⟩ = M2.put (M1.next + 1) ⟨[r.marker, r.done, r.more].map .bool, 4, true⟩ := rfl
    have hn3 : (M2.put (M1.next + 1) ⟨[r.marker, r.done, r.more].map .bool, 4, true⟩).next = M1.next + 3 := hn2
    generalize M2.put (M1.next + 1) ⟨[r.marker, r.done, r.more].map .bool, 4, true⟩ = M3 at hg3 hh3 hx3 hn3 hh23
    obtain ⟨r4, M4, hc4, hg4, ho4⟩ := flag38_spec (.slice (some ⟨M1.next + 1, 0, none⟩) 3 3) [r.marker, r.done, r.more] M3 ((hg1.trans hg3).ok hok) (Row_.of hh3) (by simp)
    obtain ⟨hg5, hh5⟩ := mk_put (hg3.trans hg4) (Nat.le_add_right _ 2) (by have := hg4.next; omega : M1.next + 2 < M4.next) ⟨[.slice (some ⟨M1.next, 0, none⟩) 3 3, r4], 23, true⟩
    have ho5 := ho4.put (show M1.next + 2 < M3.next by omega) ⟨[.slice (some ⟨M1.next, 0, none⟩) 3 3, r4], 23, true⟩
    have hh25 := (hh23.grew hg4).put' (show M1.next ≠ M1.next + 2 by omega) ⟨[.slice (some ⟨M1.next, 0, none⟩) 3 3, r4], 23, true⟩
    generalize hM5 : M4.put (M1.next + 2) ⟨[.slice (some ⟨M1.next, 0, none⟩) 3 3, r4], 23, true⟩ = M5 at hg5 hh5 ho5 hh25
    obtain ⟨r6, M6, hc6, hg6, ho6⟩ := join37_spec (.slice (some ⟨M1.next + 2, 0, none⟩) 2 2) [.slice (some ⟨M1.next, 0, none⟩) 3 3, r4] [[114, 101, 49], [flagF [r.marker, r.done, r.more] 3]] M5 ((hg1.trans hg5).ok hok) (Row_.of hh5) (.cons (Row_.of hh25) (.cons ho5.row (.nil _))) (by simp) (by simp) (by simp)
    refine AWP.stepR [1, 5] fun K hK => ?_ -- r4
    simp only [go_sem, Nat.reduceEqDiff, Nat.reduceLT, Nat.reduceAdd, Nat.reduceMul, Nat.reduceSub, Nat.add_zero, Nat.zero_add, Int.reduceEq, Int.reduceLT, ld_4, hh1.ld, repC, hx2, mark23 hh2 rfl, (hh1.grew hg2).ld, hx3]
    refine ⟨_, _, hc4, ?_⟩
    simp only [go_sem, Nat.reduceEqDiff, Nat.reduceLT, Nat.reduceAdd, Nat.reduceMul, Nat.reduceSub, Nat.add_zero, Nat.zero_add, Int.reduceEq, Int.reduceLT, ho4.row.one, hM5]
    refine ⟨_, _, hc6, ?_⟩
    refine hK _ _ _ (by simp only [go_sem, Nat.reduceEqDiff, Nat.reduceLT, Nat.reduceAdd, Nat.reduceMul, Nat.reduceSub, Nat.add_zero, Nat.zero_add, Int.reduceEq, Int.reduceLT]; rfl) ?_; clear hK
    have hgA : Grew M1 M6 := hg5.trans hg6
    have hoA : OwnB M1 M6 r6 (numsF r 0) 5 := ho6.base hg5.next
    have hhA := hh1.grew hgA
    have hrA := hr.grew hgA
    obtain ⟨hg7, hh7⟩ := mk_put ((Grew.refl M6).bump 1) (Nat.le_refl _) (Nat.lt_succ_self _) ⟨(repN r).map (Value.int .i64), 3, true⟩
    have hx7 : (M6.bump 1).put M6.next ⟨[.int .i64 r.code, .int .i64 r.id, .int .i64 r.seq, .int .i64 r.size, .int .i64 r.until_, .int .i64 r.upload, .int .i64 r.count], 3, true⟩ = (M6.bump 1).put M6.next ⟨(repN r).map (Value.int .i64), 3, true⟩ := rfl
    generalize (M6.bump 1).put M6.next ⟨(repN r).map (Value.int .i64), 3, true⟩ = M7 at hg7 hh7 hx7
    have hap0 : Apart r6 M6.next := ho6.apart (.inr (Nat.le_refl _))
    refine AWP.seq ?_
    refine AWP.stepR [1, 5, 42, 43, 44] fun K hK => ?_ -- r5
    simp only [go_sem, Nat.reduceEqDiff, Nat.reduceLT, Nat.reduceAdd, Nat.reduceMul, Nat.reduceSub, Nat.add_zero, Nat.zero_add, Int.reduceEq, Int.reduceLT, ld_22, ld_3, hhA.ld, repC, hx7, ln_66]
    refine hK _ _ _ (by simp only [go_sem, Nat.reduceEqDiff, Nat.reduceLT, Nat.reduceAdd, Nat.reduceMul, Nat.reduceSub, Nat.add_zero, Nat.zero_add, Int.reduceEq, Int.reduceLT]; rfl) ?_; clear hK
    refine AWP.block ?_ -- b0
    refine AWP.loopK [1, 5, 42, 43, 44] (fun n e M2 => n ≤ 7 ∧ Grew M1 M2 ∧ Has M2 M6.next ⟨(repN r).map (Value.int .i64), 3, true⟩ ∧ ∃ bv, e = [(1, .pointer (some ⟨M.next, 0, none⟩)), (5, bv), (42, .slice (some ⟨M6.next, 0, none⟩) 7 7), (43, .int .i64 ((7 : Nat) : Int)), (44, .int .i64 ((7 - n : Nat) : Int))] ∧ OwnB M1 M2 bv (numsF r (7 - n)) 5 ∧ Apart bv M6.next) 7 ?_ fun n e M2 hI => ?_ -- LOOP
    · simp only [go_sem, Nat.reduceEqDiff, Nat.reduceLT, Nat.reduceAdd, Nat.reduceMul, Nat.reduceSub, Nat.add_zero, Nat.zero_add, Int.reduceEq, Int.reduceLT, Nat.le_refl]
      exact ⟨hgA.trans hg7, hh7, r6, rfl, hoA.grew hg7, hap0⟩
    obtain ⟨hn', hgl, hhl, bv, rfl, hown, hap⟩ := hI
    refine AWP.stepR [1, 5, 42, 43, 44, 45] fun K hK => ?_ -- r6
    simp only [go_sem, Nat.reduceEqDiff, Nat.reduceLT, Nat.reduceAdd, Nat.reduceMul, Nat.reduceSub, Nat.add_zero, Nat.zero_add, Int.reduceEq, Int.reduceLT]
    refine hK _ _ _ (by simp only [go_sem, Nat.reduceEqDiff, Nat.reduceLT, Nat.reduceAdd, Nat.reduceMul, Nat.reduceSub, Nat.add_zero, Nat.zero_add, Int.reduceEq, Int.reduceLT]; rfl) ?_; clear hK
    refine AWP.condS rfl (fun h45 => ?_) fun h45 => ?_
    · have hn1 : 0 < n := by simp at h45; omega
      have hlt : 7 - n < (repN r).length := by have h7 : (repN r).length = 7 := rfl; omega
      have hrow : Row_ M2 (.slice (some ⟨M6.next, 0, none⟩) 7 7) (repN r).length ((repN r).map (Value.int .i64)) := Row_.of hhl
      obtain ⟨b, q, ha, hd⟩ := hrow.at1 (by simp) es_66 hlt
      have hd := hd M2 (Grew.refl _)
      rw [show ((repN r).map (Value.int .i64))[7 - n]? = some (.int .i64 (repN r)[7 - n]) by simp [hlt]] at hd
      have hxr := numOk_spec (List.all_eq_true.1 hz1 _ (List.getElem_mem hlt))
      have hst := numsF_succ r hlt
      have hle := numsF_length r (7 - n) (by omega)
      generalize (repN r)[7 - n] = x at hd hxr hst
      refine AWP.skip ?_
      refine AWP.seq ?_
      refine AWP.block ?_ -- b1
      refine AWP.stepR [1, 5, 7, 42, 43, 44] fun K hK => ?_ -- r7
      simp only [go_sem, Nat.reduceEqDiff, Nat.reduceLT, Nat.reduceAdd, Nat.reduceMul, Nat.reduceSub, Nat.add_zero, Nat.zero_add, Int.reduceEq, Int.reduceLT, ha, ld_3, hd]
      refine hK _ _ _ (by simp only [go_sem, Nat.reduceEqDiff, Nat.reduceLT, Nat.reduceAdd, Nat.reduceMul, Nat.reduceSub, Nat.add_zero, Nat.zero_add, Int.reduceEq, Int.reduceLT]; rfl) ?_; clear hK
      obtain ⟨r8, M8, hc8, hg8, ho8⟩ := put39_spec 6 x M2 ((hg1.trans hgl).ok hok) (by omega) (by omega) (by decide)
      obtain ⟨v9, M9, happ, ho9, hg9, hnx, hfr⟩ := Own.append ap_23_23 (hgl.trans hg8) (hown.grew hg8) (by rw [cB_length, Nat.mul_one]) (ho8.row.content (by rw [cB_length, Nat.mul_one])) (cB_one _) (by rw [putB_length]; omega)
      refine AWP.lastR fun K hK => ?_ -- r8
      simp only [go_sem, Nat.reduceEqDiff, Nat.reduceLT, Nat.reduceAdd, Nat.reduceMul, Nat.reduceSub, Nat.add_zero, Nat.zero_add, Int.reduceEq, Int.reduceLT]
      rw [IntWalk.u64_in _ (by omega)]
      refine ⟨_, _, hc8, ?_⟩
      simp only [happ, go_sem, Nat.reduceEqDiff, Nat.reduceLT, Nat.reduceAdd, Nat.reduceMul, Nat.reduceSub, Nat.add_zero, Nat.zero_add, Int.reduceEq, Int.reduceLT] -- append
      refine hK _ _ ?_; clear hK
      refine AWP.lastR fun K hK => ?_ -- r9
      simp only [go_sem, Nat.reduceEqDiff, Nat.reduceLT, Nat.reduceAdd, Nat.reduceMul, Nat.reduceSub, Nat.add_zero, Nat.zero_add, Int.reduceEq, Int.reduceLT]
      refine hK _ _ ?_; clear hK
      have hh8 := hhl.grew hg8
      obtain ⟨hf1, hf2⟩ := hfr M6.next hh8.2 hap
      refine ⟨n - 1, by omega, by omega, hg9, ⟨hf1.trans hh8.1, Nat.lt_of_lt_of_le hh8.2 hnx⟩, v9, ?_, ?_, hf2⟩ -- ROUND
      · simp only [go_sem, Nat.reduceEqDiff, Nat.reduceLT, Nat.reduceAdd, Nat.reduceMul, Nat.reduceSub, Nat.add_zero, Nat.zero_add, Int.reduceEq, Int.reduceLT]
        rw [i64w (by omega) (by omega), show ((7 - n : Nat) : Int) + 1 = ((7 - (n - 1) : Nat) : Int) by omega]
      · rw [show 7 - (n - 1) = 7 - n + 1 by omega, hst, OwnB, List.length_append, cB_append]
        exact ho9
    · have hn0 : n = 0 := by simp at h45; omega
      subst hn0
      have hown : OwnB M1 M2 bv (numsF r 7) 5 := hown
      have hhB := hh1.grew hgl
      have hrB := hr.grew hgl
      have hgM := hg1.trans hgl
      refine AWP.exit (Then.exit (Then.exit (InBlock.same ?_))) -- x0
      obtain ⟨ra, Ma, hca, hga, hoa⟩ := long40_spec vm r.meta_ (M2.bump 2) ((hgM.bump 2).ok hok) (hrB.meta_.grew ((Grew.refl _).bump 2)) (by have := hL.meta_; omega)
      have hga' : Grew M2 Ma := ((Grew.refl _).bump 2).trans hga
      obtain ⟨rb, Mb, hcb, hgb, hob⟩ := long40_spec vt r.tags Ma ((hgM.trans hga').ok hok) (hrB.tags.grew hga') (by have := hL.tags; omega)
      have hgb' := hga'.trans hgb
      obtain ⟨rc, Mc, hcc, hgc, hoc⟩ := texts41_spec vn r.names Mb ((hgM.trans hgb').ok hok) (hrB.names.grew hgb') (by have := hL.names; omega) (fun s hs => Nat.le_trans (hL.nameS s hs) (by decide))
      have hgc' := hgb'.trans hgc
      obtain ⟨rd, Md, hcd, hgd, hod⟩ := texts41_spec vp r.prefixes Mc ((hgM.trans hgc').ok hok) (hrB.prefixes.grew hgc') (by have := hL.prefixes; omega) (fun s hs => Nat.le_trans (hL.prefixS s hs) (by decide))
      have hgd' := hgc'.trans hgd
      have hgd2 : Grew (M2.bump 2) Md := hga.trans (hgb.trans (hgc.trans hgd))
      have hne : M2.next + 2 ≤ Md.next := hgd2.next
      obtain ⟨hge, hhe⟩ := mk_put hgd' (Nat.le_refl _) (by omega : M2.next < Md.next) ⟨cB (sB r.next), 5, true⟩
      have hnme : (Md.put M2.next ⟨cB (sB r.next), 5, true⟩).next = Md.next := rfl
      have hoa := ((hoa.grew (hgb.trans (hgc.trans hgd))).put (by rw [Mem.next_bump]; omega : M2.next < (M2.bump 2).next) ⟨cB (sB r.next), 5, true⟩)
      have hob := (((hob.base (M0 := M2.bump 2) hga.next).grew (hgc.trans hgd)).put (by rw [Mem.next_bump]; omega : M2.next < (M2.bump 2).next) ⟨cB (sB r.next), 5, true⟩)
      have hoc := (((hoc.base (M0 := M2.bump 2) (hga.trans hgb).next).grew hgd).put (by rw [Mem.next_bump]; omega : M2.next < (M2.bump 2).next) ⟨cB (sB r.next), 5, true⟩)
      have hod := ((hod.base (M0 := M2.bump 2) (hga.trans (hgb.trans hgc)).next).put (by rw [Mem.next_bump]; omega : M2.next < (M2.bump 2).next) ⟨cB (sB r.next), 5, true⟩)
      generalize hMe : Md.put M2.next ⟨cB (sB r.next), 5, true⟩ = Me at hge hhe hnme hoa hob hoc hod
      have hrow : RowB Me (.slice (some ⟨M2.next, 0, none⟩) r.next.size unk) (sB r.next) := by rw [RowB, sB_length]; exact Row_.of hhe
      obtain ⟨rf, Mf, hcf, hgf, hof⟩ := long40_spec _ _ Me ((hgM.trans hge).ok hok) hrow (by rw [sB_length]; have := hL.next; omega)
      obtain ⟨rg, Mg, hcg, hgg, hog⟩ := put39_spec 4 r.shown.length Mf ((hgM.trans (hge.trans hgf)).ok hok) (by have := hL.shown; omega) (by omega) (by decide)
      have hgg' := hge.trans (hgf.trans hgg)
      have hgeg := hgf.trans hgg
      obtain ⟨hgh, hhh⟩ := mk_put hgg' (Nat.le_succ _) (by have := hgeg.next; omega : M2.next + 1 < Mg.next) ⟨[bv, ra, rb, rc, rd, rf, rg], 23, true⟩
      have hb2 : M2.next + 1 < (M2.bump 2).next := by rw [Mem.next_bump]; omega
      have hbe : (M2.bump 2).next ≤ Me.next := by rw [Mem.next_bump, hnme]; exact hne
      have hoa := (hoa.grew hgeg).put hb2 ⟨[bv, ra, rb, rc, rd, rf, rg], 23, true⟩
      have hob := (hob.grew hgeg).put hb2 ⟨[bv, ra, rb, rc, rd, rf, rg], 23, true⟩
      have hoc := (hoc.grew hgeg).put hb2 ⟨[bv, ra, rb, rc, rd, rf, rg], 23, true⟩
      have hod := (hod.grew hgeg).put hb2 ⟨[bv, ra, rb, rc, rd, rf, rg], 23, true⟩
      have hof := ((hof.base hbe).grew hgg).put hb2 ⟨[bv, ra, rb, rc, rd, rf, rg], 23, true⟩
      have hog := (hog.base (Nat.le_trans hbe hgf.next)).put hb2 ⟨[bv, ra, rb, rc, rd, rf, rg], 23, true⟩
      have hbv := hown.row.grew hgh
      have hflat : [numsF r 7, longB r.meta_, longB r.tags, textsF r.names r.names.length, textsF r.prefixes r.prefixes.length, longB (sB r.next), putB r.shown.length 4].flatten = midB r := rfl
      generalize hMh : Mg.put (M2.next + 1) ⟨[bv, ra, rb, rc, rd, rf, rg], 23, true⟩ = Mh at hgh hhh hoa hob hoc hod hof hog hbv
      obtain ⟨ri, Mi, hci, hgi, hoi⟩ := join37_spec (.slice (some ⟨M2.next + 1, 0, none⟩) 7 7) [bv, ra, rb, rc, rd, rf, rg] _ Mh ((hgM.trans hgh).ok hok) (Row_.of hhh) (.cons hbv (.cons hoa.row (.cons hob.row (.cons hoc.row (.cons hod.row (.cons hof.row (.cons hog.row (.nil _)))))))) (by rw [hflat]; have := midB_le hL; omega) (by simp) (by rw [hflat]; intro h; have := congrArg List.length h; simp [midB, longB_length] at this)
      rw [hflat] at hoi
      refine AWP.stepD hmo [0, 1, 2, 3, 4, 5, 6, 7, 8, 9, 10, 11, 12, 13, 14, 15, 16, 17, 18, 19, 20, 21, 22, 23, 24, 25, 26, 27] [0, 0, 2, 6, 0, 16, 62, 0, 128, 384, 1022, 0, 2048, 6144, 16382, 0, 32768, 98304, 229376, 524286, 0, 1048576, 3145728, 7340032, 16777214, 33554431, 67108863, 134217727] [] [(5, 3), (9, 3), (9, 6), (13, 3), (13, 6), (13, 10), (17, 3), (17, 6), (17, 10), (17, 14), (21, 3), (21, 6), (21, 10), (21, 14), (21, 19)] (by kernel_rfl) [1, 5] fun K hK => ?_ -- r10
      simp -implicitDefEqProofs only [go_sem, Nat.reduceEqDiff, Nat.reduceLT, Nat.reduceAdd, Nat.reduceMul, Nat.reduceSub, Nat.add_zero, Nat.zero_add, Int.reduceEq, Int.reduceLT, ld_23, hhB.ld, repC]
      refine ⟨_, _, hca, ?_⟩
      simp -implicitDefEqProofs only [go_sem, Nat.reduceEqDiff, Nat.reduceLT, Nat.reduceAdd, Nat.reduceMul, Nat.reduceSub, Nat.add_zero, Nat.zero_add, Int.reduceEq, Int.reduceLT, ld_23, hhB.ld, (hhB.grew hga').ld, repC]
      refine ⟨_, _, hcb, ?_⟩
      simp -implicitDefEqProofs only [go_sem, Nat.reduceEqDiff, Nat.reduceLT, Nat.reduceAdd, Nat.reduceMul, Nat.reduceSub, Nat.add_zero, Nat.zero_add, Int.reduceEq, Int.reduceLT, ld_23, ld_24, hhB.ld, (hhB.grew hga').ld, (hhB.grew hgb').ld, repC]
      refine ⟨_, _, hcc, ?_⟩
      simp -implicitDefEqProofs only [go_sem, Nat.reduceEqDiff, Nat.reduceLT, Nat.reduceAdd, Nat.reduceMul, Nat.reduceSub, Nat.add_zero, Nat.zero_add, Int.reduceEq, Int.reduceLT, ld_23, ld_24, hhB.ld, (hhB.grew hga').ld, (hhB.grew hgb').ld, (hhB.grew hgc').ld, repC]
      refine ⟨_, _, hcd, ?_⟩
      simp -implicitDefEqProofs only [go_sem, Nat.reduceEqDiff, Nat.reduceLT, Nat.reduceAdd, Nat.reduceMul, Nat.reduceSub, Nat.add_zero, Nat.zero_add, Int.reduceEq, Int.reduceLT, ld_23, ld_24, ld_9, hhB.ld, (hhB.grew hga').ld, (hhB.grew hgb').ld, (hhB.grew hgc').ld, (hhB.grew hgd').ld, repC, sB_cells, hMe]
      refine ⟨_, _, hcf, ?_⟩
      have hlu : IntKind.u64.wrap (r.shown.length : Int) = (r.shown.length : Int) := IntWalk.u64_in _ (by have := hL.shown; omega)
      simp -implicitDefEqProofs only [go_sem, Nat.reduceEqDiff, Nat.reduceLT, Nat.reduceAdd, Nat.reduceMul, Nat.reduceSub, Nat.add_zero, Nat.zero_add, Int.reduceEq, Int.reduceLT, ld_23, ld_24, ld_9, ld_27, hhB.ld, (hhB.grew hga').ld, (hhB.grew hgb').ld, (hhB.grew hgc').ld, (hhB.grew hgd').ld, (hhB.grew (hge.trans hgf)).ld, repC, hrB.shown.len es_27, hlu]
      refine ⟨_, _, hcg, ?_⟩
      simp -implicitDefEqProofs only [go_sem, Nat.reduceEqDiff, Nat.reduceLT, Nat.reduceAdd, Nat.reduceMul, Nat.reduceSub, Nat.add_zero, Nat.zero_add, Int.reduceEq, Int.reduceLT, hown.row.one, hoa.row.one, hob.row.one, hoc.row.one, hod.row.one, hof.row.one, hog.row.one, hMh]
      refine ⟨_, _, hci, ?_⟩
      refine hK _ _ _ (by simp only [go_sem, Nat.reduceEqDiff, Nat.reduceLT, Nat.reduceAdd, Nat.reduceMul, Nat.reduceSub, Nat.add_zero, Nat.zero_add, Int.reduceEq, Int.reduceLT]; rfl) ?_; clear hK
      have hgC : Grew M1 Mi := hgl.trans (hgh.trans hgi)
      have hoC : OwnB M1 Mi ri (midB r) 5 := hoi.base (hgl.trans hgh).next
      have hhC := hh1.grew hgC
      have hrC := hr.grew hgC
      have hgM2 := hg1.trans hgC
      clear hbv hog hof hod hoc hob hoa hhh hgh hgg' hgeg hgg hgf hrow hhe hge hgd2 hgd' hgc' hgb' hga' hga hgb hgc hgd hhB hrB hgM
      refine AWP.seq ?_
      refine AWP.stepR [1, 5, 82, 83, 84] fun K hK => ?_ -- r11
      simp only [go_sem, Nat.reduceEqDiff, Nat.reduceLT, Nat.reduceAdd, Nat.reduceMul, Nat.reduceSub, Nat.add_zero, Nat.zero_add, Int.reduceEq, Int.reduceLT, ld_27, hhC.ld, repC, hrC.shown.len es_27]
      refine hK _ _ _ (by simp only [go_sem, Nat.reduceEqDiff, Nat.reduceLT, Nat.reduceAdd, Nat.reduceMul, Nat.reduceSub, Nat.add_zero, Nat.zero_add, Int.reduceEq, Int.reduceLT]; rfl) ?_; clear hK
      refine AWP.block ?_ -- b2
      refine AWP.loopK [1, 5, 82, 83, 84] (fun n e M2 => n ≤ r.shown.length ∧ Grew Mi M2 ∧ ∃ bv, e = [(1, .pointer (some ⟨M.next, 0, none⟩)), (5, bv), (82, vs), (83, .int .i64 r.shown.length), (84, .int .i64 ((r.shown.length - n : Nat) : Int))] ∧ RowB M2 bv (shownF r (r.shown.length - n))) r.shown.length ?_ fun n e M2 hI => ?_ -- LOOP
      · simp only [go_sem, Nat.reduceEqDiff, Nat.reduceLT, Nat.reduceAdd, Nat.reduceMul, Nat.reduceSub, Nat.add_zero, Nat.zero_add, Int.reduceEq, Int.reduceLT, Nat.le_refl]
        exact ⟨Grew.refl _, ri, by simp, by rw [Nat.sub_self]; have := hoC.row; simpa [shownF] using this⟩
      obtain ⟨hn', hgl2, bv2, rfl, hown2⟩ := hI
      refine AWP.stepR [1, 5, 82, 83, 84, 85] fun K hK => ?_ -- r12
      simp only [go_sem, Nat.reduceEqDiff, Nat.reduceLT, Nat.reduceAdd, Nat.reduceMul, Nat.reduceSub, Nat.add_zero, Nat.zero_add, Int.reduceEq, Int.reduceLT]
      refine hK _ _ _ (by simp only [go_sem, Nat.reduceEqDiff, Nat.reduceLT, Nat.reduceAdd, Nat.reduceMul, Nat.reduceSub, Nat.add_zero, Nat.zero_add, Int.reduceEq, Int.reduceLT]; rfl) ?_; clear hK
      refine AWP.condS rfl (fun h85 => ?_) fun h85 => ?_
      · have hlt : r.shown.length - n < r.shown.length := by simpa using h85
        obtain ⟨b, q, ha, hd⟩ := hrC.shown.at (flatMap_len shwC_len _) es_27 hlt
        have hd := (hd M2 hgl2).2
        rw [flatMap_at shwC_len _ _ hlt] at hd
        have hst := shownF_succ r hlt
        have hle := shownF_le hL (r.shown.length - n) (by omega)
        have hxs := hL.shownS _ (List.getElem_mem hlt)
        have hxo := List.all_eq_true.1 hz2 _ (List.getElem_mem hlt)
        generalize hx : r.shown[r.shown.length - n] = x at hd hst hxs hxo
        simp only [shwOk, Bool.and_eq_true] at hxo
        have hxi := numOk_spec hxo.1
        have hxz := numOk_spec hxo.2
        have h40 := hL.shown
        refine AWP.skip ?_
        refine AWP.seq ?_
        refine AWP.block ?_ -- b3
        refine AWP.stepR [1, 5, 9, 82, 83, 84] fun K hK => ?_ -- r13
        have hlt2 : M2.next < (M2.bump 1).next := Nat.lt_succ_self _
        simp only [go_sem, Nat.reduceEqDiff, Nat.reduceLT, Nat.reduceAdd, Nat.reduceMul, Nat.reduceSub, Nat.add_zero, Nat.zero_add, Int.reduceEq, Int.reduceLT, ha, ld_63, hd, st_fresh (M := M2.bump 1) (i := M2.next) (n := 5) (old := [.string ⟨#[]⟩, .int .i64 0, .int .i64 0, .bool false, .bool false]) (vs := shwC x) (e := 63) rfl rfl rfl]
        refine hK _ _ _ (by simp only [go_sem, Nat.reduceEqDiff, Nat.reduceLT, Nat.reduceAdd, Nat.reduceMul, Nat.reduceSub, Nat.add_zero, Nat.zero_add, Int.reduceEq, Int.reduceLT]; rfl) ?_; clear hK
        have hg4 := (((Grew.refl M2).bump 1).put (Nat.le_refl _) hlt2 ⟨[.string ⟨#[]⟩, .int .i64 0, .int .i64 0, .bool false, .bool false], 63, true⟩).put (Nat.le_refl _) hlt2 ⟨shwC x, 63, true⟩
        have hh4 : Has (((M2.bump 1).put M2.next ⟨[.string ⟨#[]⟩, .int .i64 0, .int .i64 0, .bool false, .bool false], 63, true⟩).put M2.next ⟨shwC x, 63, true⟩) M2.next ⟨shwC x, 63, true⟩ := Has.put (M := (M2.bump 1).put M2.next ⟨[.string ⟨#[]⟩, .int .i64 0, .int .i64 0, .bool false, .bool false], 63, true⟩) hlt2 _
        generalize ((M2.bump 1).put M2.next ⟨[.string ⟨#[]⟩, .int .i64 0, .int .i64 0, .bool false, .bool false], 63, true⟩).put M2.next ⟨shwC x, 63, true⟩ = M4 at hg4 hh4
        have hgM4 := hgM2.trans (hgl2.trans hg4)
        obtain ⟨hgx, hhx⟩ := mk_put ((Grew.refl M4).bump 3) (Nat.le_refl _) (by rw [Mem.next_bump]; omega : M4.next < (M4.bump 3).next) ⟨cB (sB x.name), 5, true⟩
        have hnx : ((M4.bump 3).put M4.next ⟨cB (sB x.name), 5, true⟩).next = M4.next + 3 := rfl
        generalize hX1 : (M4.bump 3).put M4.next ⟨cB (sB x.name), 5, true⟩ = X1 at hgx hhx hnx
        have hrow : RowB X1 (.slice (some ⟨M4.next, 0, none⟩) x.name.size unk) (sB x.name) := by rw [RowB, sB_length]; exact Row_.of hhx
        obtain ⟨ra, Xa, hca, hga, hoa⟩ := long40_spec _ _ X1 ((hgM4.trans hgx).ok hok) hrow (by rw [sB_length]; omega)
        have hga' := hgx.trans hga
        obtain ⟨rb, Xb, hcb, hgb, hob⟩ := put39_spec 6 x.id Xa ((hgM4.trans hga').ok hok) (by omega) (by omega) (by decide)
        have hgb' := hga'.trans hgb
        obtain ⟨rc, Xc, hcc, hgc, hoc⟩ := put39_spec 6 x.size Xb ((hgM4.trans hgb').ok hok) (by omega) (by omega) (by decide)
        have hgc' := hgb'.trans hgc
        have hnc : M4.next + 3 ≤ Xc.next := by have := (hga.trans (hgb.trans hgc)).next; omega
        obtain ⟨hgy, hhy⟩ := mk_put hgc' (Nat.le_succ _) (by omega : M4.next + 1 < Xc.next) ⟨[x.marker, x.latest].map .bool, 4, true⟩
        have hY' : Xc.put (M4.next + 1) ⟨[.bool x.marker, .bool x.latest], 4, true⟩ = Xc.put (M4.next + 1) ⟨[x.marker, x.latest].map .bool, 4, true⟩ := rfl
        have hny : (Xc.put (M4.next + 1) ⟨[x.marker, x.latest].map .bool, 4, true⟩).next = Xc.next := rfl
        have hoa := (hoa.grew (hgb.trans hgc)).put (by omega : M4.next + 1 < X1.next) ⟨[x.marker, x.latest].map .bool, 4, true⟩
        have hob := ((hob.base (M0 := X1) hga.next).grew hgc).put (by omega : M4.next + 1 < X1.next) ⟨[x.marker, x.latest].map .bool, 4, true⟩
        have hoc := (hoc.base (M0 := X1) (hga.trans hgb).next).put (by omega : M4.next + 1 < X1.next) ⟨[x.marker, x.latest].map .bool, 4, true⟩
        generalize Xc.put (M4.next + 1) ⟨[x.marker, x.latest].map .bool, 4, true⟩ = Y at hgy hhy hY' hny hoa hob hoc
        obtain ⟨rd, Xd, hcd, hgd, hod⟩ := flag38_spec (.slice (some ⟨M4.next + 1, 0, none⟩) 2 2) [x.marker, x.latest] Y ((hgM4.trans hgy).ok hok) (Row_.of hhy) (by simp)
        obtain ⟨hgz, hhz⟩ := mk_put (hgy.trans hgd) (Nat.le_add_right _ 2) (by have := hgd.next; omega : M4.next + 2 < Xd.next) ⟨[bv2, ra, rb, rc, rd], 23, true⟩
        have hoa := (hoa.grew hgd).put (by omega : M4.next + 2 < X1.next) ⟨[bv2, ra, rb, rc, rd], 23, true⟩
        have hob := (hob.grew hgd).put (by omega : M4.next + 2 < X1.next) ⟨[bv2, ra, rb, rc, rd], 23, true⟩
        have hoc := (hoc.grew hgd).put (by omega : M4.next + 2 < X1.next) ⟨[bv2, ra, rb, rc, rd], 23, true⟩
        have hod := (hod.base (M0 := X1) (by omega)).put (by omega : M4.next + 2 < X1.next) ⟨[bv2, ra, rb, rc, rd], 23, true⟩
        generalize hZ : Xd.put (M4.next + 2) ⟨[bv2, ra, rb, rc, rd], 23, true⟩ = Z at hgz hhz hoa hob hoc hod
        have hfl : [shownF r (r.shown.length - n), longB (sB x.name), putB x.id 6, putB x.size 6, [flagF [x.marker, x.latest] [x.marker, x.latest].length]].flatten = shownF r (r.shown.length - n + 1) := by rw [hst]; simp [shwB]
        have hle2 := shownF_le hL (r.shown.length - n + 1) (by omega)
        obtain ⟨re, Xe, hce, hge, hoe⟩ := join37_spec (.slice (some ⟨M4.next + 2, 0, none⟩) 5 5) [bv2, ra, rb, rc, rd] _ Z ((hgM4.trans hgz).ok hok) (Row_.of hhz) (.cons (hown2.grew (hg4.trans hgz)) (.cons hoa.row (.cons hob.row (.cons hoc.row (.cons hod.row (.nil _)))))) (by rw [hfl]; omega) (by simp) (by rw [hfl, hst]; simp [shwB])
        rw [hfl] at hoe
        have hwi : IntKind.u64.wrap x.id = x.id := IntWalk.u64_in _ (by omega)
        have hwz : IntKind.u64.wrap x.size = x.size := IntWalk.u64_in _ (by omega)
        refine AWP.oneD' hmo [0, 1, 2, 3, 4, 5, 6, 7, 8, 9, 10, 11, 12, 13, 14, 15, 16, 17, 18, 19, 20, 21] [0, 0, 2, 6, 14, 0, 32, 96, 254, 0, 512, 1536, 4094, 0, 8192, 0, 32768, 122880, 262142, 524287, 1048575, 2097151] [] [(6, 4), (10, 4), (10, 8), (14, 4), (14, 8), (14, 12), (16, 4), (16, 8), (16, 12)] (by kernel_rfl) fun K hK => ?_ -- r14
        simp -implicitDefEqProofs only [go_sem, Nat.reduceEqDiff, Nat.reduceLT, Nat.reduceAdd, Nat.reduceMul, Nat.reduceSub, Nat.add_zero, Nat.zero_add, Int.reduceEq, Int.reduceLT, ld_9, hh4.ld, shwC, sB_cells, hX1]
        refine ⟨_, _, hca, ?_⟩
        simp -implicitDefEqProofs only [go_sem, Nat.reduceEqDiff, Nat.reduceLT, Nat.reduceAdd, Nat.reduceMul, Nat.reduceSub, Nat.add_zero, Nat.zero_add, Int.reduceEq, Int.reduceLT, ld_3, hh4.ld, (hh4.grew hga').ld, shwC, hwi]
        refine ⟨_, _, hcb, ?_⟩
        simp -implicitDefEqProofs only [go_sem, Nat.reduceEqDiff, Nat.reduceLT, Nat.reduceAdd, Nat.reduceMul, Nat.reduceSub, Nat.add_zero, Nat.zero_add, Int.reduceEq, Int.reduceLT, ld_3, hh4.ld, (hh4.grew hga').ld, (hh4.grew hgb').ld, shwC, hwz]
        refine ⟨_, _, hcc, ?_⟩
        simp -implicitDefEqProofs only [go_sem, Nat.reduceEqDiff, Nat.reduceLT, Nat.reduceAdd, Nat.reduceMul, Nat.reduceSub, Nat.add_zero, Nat.zero_add, Int.reduceEq, Int.reduceLT, ld_4, hh4.ld, (hh4.grew hga').ld, (hh4.grew hgb').ld, (hh4.grew hgc').ld, shwC, hY']
        refine ⟨_, _, hcd, ?_⟩
        simp -implicitDefEqProofs only [go_sem, Nat.reduceEqDiff, Nat.reduceLT, Nat.reduceAdd, Nat.reduceMul, Nat.reduceSub, Nat.add_zero, Nat.zero_add, Int.reduceEq, Int.reduceLT, hown2.one, hoa.row.one, hob.row.one, hoc.row.one, hod.row.one, hZ]
        refine ⟨_, _, hce, ?_⟩
        refine hK _ _ ?_; clear hK
        refine AWP.lastR fun K hK => ?_ -- r15
        simp only [go_sem, Nat.reduceEqDiff, Nat.reduceLT, Nat.reduceAdd, Nat.reduceMul, Nat.reduceSub, Nat.add_zero, Nat.zero_add, Int.reduceEq, Int.reduceLT]
        refine hK _ _ ?_; clear hK
        refine ⟨n - 1, by omega, by omega, hgl2.trans (hg4.trans (hgz.trans hge)), re, ?_, ?_⟩ -- ROUND
        · simp only [go_sem, Nat.reduceEqDiff, Nat.reduceLT, Nat.reduceAdd, Nat.reduceMul, Nat.reduceSub, Nat.add_zero, Nat.zero_add, Int.reduceEq, Int.reduceLT]
          rw [i64w (by omega) (by omega), show ((r.shown.length - n : Nat) : Int) + 1 = ((r.shown.length - (n - 1) : Nat) : Int) by omega]
        · rw [show r.shown.length - (n - 1) = r.shown.length - n + 1 by omega]
          exact hoe.row
      · refine AWP.exit (Then.exit (Then.exit (InBlock.same ?_))) -- x2
        have hn0 : n = 0 := by simp at h85; omega
        subst hn0
        have hown2 : RowB M2 bv2 (shownF r r.shown.length) := hown2
        have hle := shownF_le hL r.shown.length (Nat.le_refl _)
        have h40 := hL.shown
        have hgN := hgM2.trans hgl2
        have hhN := hhC.grew hgl2
        have hbN := (hrC.grew hgl2).body
        obtain ⟨ra, Ma', hca, hga, hoa⟩ := long40_spec vb r.body (M2.bump 1) ((hgN.bump 1).ok hok) (hbN.grew ((Grew.refl _).bump 1)) (by have := hL.body; omega)
        have hga' : Grew M2 Ma' := ((Grew.refl _).bump 1).trans hga
        have hna : M2.next + 1 ≤ Ma'.next := hga.next
        obtain ⟨hgb, hhb⟩ := mk_put hga' (Nat.le_refl _) (by omega : M2.next < Ma'.next) ⟨[bv2, ra], 23, true⟩
        have hoa := hoa.put (by rw [Mem.next_bump]; omega : M2.next < (M2.bump 1).next) ⟨[bv2, ra], 23, true⟩
        generalize hZ : Ma'.put M2.next ⟨[bv2, ra], 23, true⟩ = Z at hgb hhb hoa
        have hfl : [shownF r r.shown.length, longB r.body].flatten = replyB r := by simp [replyB]
        obtain ⟨re, Me', hce, hge, hoe⟩ := join37_spec (.slice (some ⟨M2.next, 0, none⟩) 2 2) [bv2, ra] _ Z ((hgN.trans hgb).ok hok) (Row_.of hhb) (.cons (hown2.grew hgb) (.cons hoa.row (.nil _))) (by rw [hfl, replyB, List.length_append, longB_length]; have := hL.body; omega) (by simp) (by simp [longB_ne])
        rw [hfl] at hoe
        refine AWP.stepR [2, 3] fun K hK => ?_ -- r16
        simp only [go_sem, Nat.reduceEqDiff, Nat.reduceLT, Nat.reduceAdd, Nat.reduceMul, Nat.reduceSub, Nat.add_zero, Nat.zero_add, Int.reduceEq, Int.reduceLT, ld_23, hhN.ld, repC]
        refine ⟨_, _, hca, ?_⟩
        simp only [go_sem, Nat.reduceEqDiff, Nat.reduceLT, Nat.reduceAdd, Nat.reduceMul, Nat.reduceSub, Nat.add_zero, Nat.zero_add, Int.reduceEq, Int.reduceLT, hown2.one, hoa.row.one, hZ]
        refine ⟨_, _, hce, ?_⟩
        refine hK _ _ _ (by simp only [go_sem, Nat.reduceEqDiff, Nat.reduceLT, Nat.reduceAdd, Nat.reduceMul, Nat.reduceSub, Nat.add_zero, Nat.zero_add, Int.reduceEq, Int.reduceLT]; rfl) ?_; clear hK
        refine AWP.ret (?_)
        refine Fin.own (fun v => .tuple #[v, .int .i64 0]) (.inr rfl) rfl hok (hgN.trans (hgb.trans hge)) (hoe.base (hgN.trans hgb).next) (cB_plain _) (fun g hi v v' h => .tuple rfl fun i a b ha hb => ?_) fun v M' hg' hr' _ => ⟨hg', v, by rw [hz], by rw [if_pos hz]; exact hr'⟩
        rcases i with _ | _ | i
        · simp at ha hb; subst ha hb; exact h
        · simp at ha hb; subst ha hb; exact .int _ _
        · simp at ha
end Go.Proofs.Ythheaehpnleiaaa.AX

/- Nodes as values; which of two rows of bytes stands ahead; how great a node is. -/
namespace Go.Proofs.Ythheaehpnleiaaa.AX
open Go Go.Proofs
set_option maxRecDepth 100000
set_option linter.unusedVariables false
set_option linter.unusedSimpArgs false

/-- two plain values given back -/
theorem Fin.two {P : Program} {rs : List ResultVar} {M : Mem} {Φ : Value → Mem → Prop} {e : Exit} {s : St} {a b : Value} (he : e = .normal ∨ e = .ret) (hr : retV P rs s = some (.tuple #[a, b])) (ha : AX.plain a = true) (hb : AX.plain b = true) (hok : Ok M) (hg : Grew M s.mem) (h : Φ (.tuple #[a, b]) M) : Fin P rs M Φ e s := by
  refine ⟨he, _, _, M, hr, .inl ⟨fun i => i, Nat.le_refl _, fun i h1 h2 => h1, fun i j _ _ _ _ h => h, ?_, fun i b hi => .inl ⟨hi, hg.within hok i b hi⟩⟩, h⟩
  refine .tuple rfl fun i v v' h1 h2 => ?_
  rw [h1] at h2; cases h2
  match i with
  | 0 => simp at h1; subst h1; exact RN.plain ha
  | 1 => simp at h1; subst h1; exact RN.plain hb
  | i + 2 => simp at h1

/-- is a row of bytes ahead of another one? -/
def lessB : List Int → List Int → Bool
  | [], [] => false
  | [], _ :: _ => true
  | _ :: _, [] => false
  | x :: xs, y :: ys => if x = y then lessB xs ys else decide (x < y)
structure Pr where
  kv : Value
  vv : Value
  key : List Int
  val : List Int
structure Kd where
  kv : Value
  key : List Int
  page : Int
  epoch : Int
def prC (p : Pr) : List Value := [p.kv, p.vv]
def kdC (k : Kd) : List Value := [k.kv, .int .i64 k.page, .int .i64 k.epoch]
structure Node where
  leaf : Bool
  pairs : List Pr
  kids : List Kd
def nodeC (leaf : Bool) (vp vk : Value) : List Value := [.bool leaf, vp, vk]
structure NodeR (M : Mem) (n : Node) (vp vk : Value) : Prop where
  pairs : Row_ M vp n.pairs.length (n.pairs.flatMap prC)
  kids : Row_ M vk n.kids.length (n.kids.flatMap kdC)
  pk : ∀ p, p ∈ n.pairs → RowB M p.kv p.key
  pv : ∀ p, p ∈ n.pairs → RowB M p.vv p.val
  kk : ∀ k, k ∈ n.kids → RowB M k.kv k.key
theorem NodeR.grew {M M1 : Mem} {n : Node} {vp vk : Value} (h : NodeR M n vp vk) (hg : Grew M M1) : NodeR M1 n vp vk :=
  ⟨h.pairs.grew hg, h.kids.grew hg, fun p hp => (h.pk p hp).grew hg, fun p hp => (h.pv p hp).grew hg, fun p hp => (h.kk p hp).grew hg⟩

theorem kdC_one {M : Mem} {k : Kd} (h : RowB M k.kv k.key) : oneCells (kdC k) = true := by
  simp only [oneCells, kdC, List.all_cons, List.all_nil, h.one]; rfl
theorem prC_one {M : Mem} {p : Pr} (h : RowB M p.kv p.key) (h' : RowB M p.vv p.val) : oneCells (prC p) = true := by
  simp only [oneCells, prC, List.all_cons, List.all_nil, h.one, h'.one]; rfl

/-- so much room things take -/
def prSz (p : Pr) : Int := 2 + (p.key.length : Int) + (p.val.length : Int)
def kdSz (k : Kd) : Int := 11 + (k.key.length : Int)
def sumF {α : Type} (f : α → Int) : List α → Int
  | [] => 0
  | a :: l => f a + sumF f l
def sizeF (n : Node) : Int := 3 + sumF prSz n.pairs + sumF kdSz n.kids
/-- a node that is no more than is waited for -/
structure Lt18 (n : Node) : Prop where
  pairs : n.pairs.length ≤ 1000
  kids : n.kids.length ≤ 1000
  pk : ∀ p, p ∈ n.pairs → p.key.length ≤ 1000
  pv : ∀ p, p ∈ n.pairs → p.val.length ≤ 1000
  kk : ∀ k, k ∈ n.kids → k.key.length ≤ 1000
end Go.Proofs.Ythheaehpnleiaaa.AX

/- What is wrong with a node's parts, by the document; whether it is no more than is waited for. -/
namespace Go.Proofs.Ythheaehpnleiaaa.AX
open Go Go.Proofs
set_option maxRecDepth 100000
set_option linter.unusedVariables false
set_option linter.unusedSimpArgs false

def prOk (p : Pr) : Bool := !(decide ((p.key.length : Int) > 64) || decide ((p.val.length : Int) > 160))
def kdRange (k : Kd) : Bool := ((decide (k.page < 0) || decide (k.page ≥ 4096)) || decide (k.epoch < 0)) || decide (k.epoch > 1099511627776)
def kdCode (k : Kd) : Int := if (k.key.length : Int) > 64 then 17 else if kdRange k = true then 2 else 0
def firstF : List Kd → Int
  | [] => 0
  | k :: l => if kdCode k = 0 then firstF l else kdCode k
def partsF (n : Node) : Int := if n.pairs.all prOk then firstF n.kids else 17

def prLt (p : Pr) : Bool := !(decide ((p.key.length : Int) > 300) || decide ((p.val.length : Int) > 300))
def kdLt (k : Kd) : Bool := !decide ((k.key.length : Int) > 300)
def numLt (n : Node) : Bool := !(decide ((n.pairs.length : Int) > 40) || decide ((n.kids.length : Int) > 60))
def lightN (n : Node) : Bool := numLt n && (n.pairs.all prLt && n.kids.all kdLt)
theorem Lt18.of {n : Node} (h : lightN n = true) : Lt18 n := by
  simp only [lightN, numLt, Bool.and_eq_true, Bool.not_eq_true', Bool.or_eq_false_iff, decide_eq_false_iff_not, List.all_eq_true, prLt, kdLt] at h
  obtain ⟨⟨h1, h2⟩, h3, h4⟩ := h
  exact ⟨by omega, by omega, fun p hp => by have := (h3 p hp).1; omega, fun p hp => by have := (h3 p hp).2; omega, fun p hp => by have := h4 p hp; omega⟩

end Go.Proofs.Ythheaehpnleiaaa.AX

/- What is wrong with a node, by the document. -/
namespace Go.Proofs.Ythheaehpnleiaaa.AX
open Go Go.Proofs
set_option maxRecDepth 100000
set_option linter.unusedVariables false
set_option linter.unusedSimpArgs false

/-- rows of bytes that rise -/
def risingB : List (List Int) → Bool
  | [] => true
  | x :: l => (match l with | [] => true | y :: _ => lessB x y) && risingB l
def formOk (n : Node) : Bool := (n.leaf && decide ((n.kids.length : Int) > 0)) || (!n.leaf && decide ((n.pairs.length : Int) > 0))
def checkN (n : Node) : Int := if formOk n = true then 4 else if partsF n = 0 then (if risingB (n.pairs.map Pr.key) && risingB (n.kids.map Kd.key) then (if sizeF n > 496 then 16 else 0) else 4) else partsF n

end Go.Proofs.Ythheaehpnleiaaa.AX
