/- The law BulkSplits: what it comes to. -/
import Derived.Test.YtopblipficpilaaGreatDoorBulkSplits7
import Derived.Test.YtopblipficpilaaGreatDoorBulkSplits19
namespace Go.Proofs.YtopblipficpilaaGreatDoor.AY
open Go Go.Proofs
set_option maxRecDepth 100000
set_option linter.unusedVariables false
set_option linter.unusedSimpArgs false

theorem ca_24 : callable Tryz.prog 24 = true := by kernel_rfl
attribute [go_sem] ca_24

theorem law7_spec (v : Value) (vs : List Value) (ls : List (List Int)) (most : Int) (M : Mem) (hok : Ok M) (hv : Rem M v vs) (hp : Parts M vs ls) (hl : ∀ l, l ∈ ls → l.length ≤ 9223372036854775807) (hm : -9223372036854775808 ≤ most ∧ most ≤ 9223372036854775807)
    (j : Nat) (hj : M.get j = some ⟨[], globTag + maxLenG, false⟩) : ∃ r M', ACall Tryz.prog 7 #[v, .int .i64 most] M r M' ∧ r = .bool true ∧ M' = M := by
  have hjn : j < M.next := hok _ _ hj
  have works : ∀ M1, Grew M M1 → ACall Tryz.prog 24 #[] M1 (.bool true) M1 := fun M1 hg => works40_ok M1 j (by rw [hg.keep j hjn]; exact hj)
  refine ACall.fin (args := [v, .int .i64 most]) (k := 72) Tryz.func7 rfl rfl rfl (Nat.le_of_ble_eq_true rfl) ?_
  refine AWP.stepR [0, 1] fun K hK => ?_ -- r0
  simp only [go_sem, Nat.reduceEqDiff, Nat.reduceLT, Nat.reduceAdd, Nat.reduceMul, Nat.reduceSub, Nat.add_zero, Nat.zero_add, Int.reduceEq, Int.reduceLT]
  refine hK _ _ _ (by simp only [go_sem, Nat.reduceEqDiff, Nat.reduceLT, Nat.reduceAdd, Nat.reduceMul, Nat.reduceSub, Nat.add_zero, Nat.zero_add, Int.reduceEq, Int.reduceLT]; rfl) ?_; clear hK
  refine AWP.seq ?_
  obtain ⟨r1, M1, hc1, hr1, hM1⟩ := short23_spec v vs ls M hok hv.row hp hl
  subst hM1
  refine AWP.stepR [0, 1, 10] fun K hK => ?_ -- r1
  simp only [go_sem, Nat.reduceEqDiff, Nat.reduceLT, Nat.reduceAdd, Nat.reduceMul, Nat.reduceSub, Nat.add_zero, Nat.zero_add, Int.reduceEq, Int.reduceLT]
  refine ⟨_, _, hc1, ?_⟩
  rcases hr1 with rfl | ⟨rfl, hn, hls⟩
  · try simp only [go_sem, Nat.reduceEqDiff, Nat.reduceLT, Nat.reduceAdd, Nat.reduceMul, Nat.reduceSub, Nat.add_zero, Nat.zero_add, Int.reduceEq, Int.reduceLT]
    refine hK _ _ _ (by simp only [go_sem, Nat.reduceEqDiff, Nat.reduceLT, Nat.reduceAdd, Nat.reduceMul, Nat.reduceSub, Nat.add_zero, Nat.zero_add, Int.reduceEq, Int.reduceLT]; rfl) ?_; clear hK
    refine AWP.cond_split rfl (fun h10 => ?_) fun h10 => ?_
    · refine AWP.stepR [4] fun K hK => ?_ -- r2
      simp only [go_sem, Nat.reduceEqDiff, Nat.reduceLT, Nat.reduceAdd, Nat.reduceMul, Nat.reduceSub, Nat.add_zero, Nat.zero_add, Int.reduceEq, Int.reduceLT]
      refine ⟨_, _, works _ (Grew.refl _), ?_⟩
      try simp only [go_sem, Nat.reduceEqDiff, Nat.reduceLT, Nat.reduceAdd, Nat.reduceMul, Nat.reduceSub, Nat.add_zero, Nat.zero_add, Int.reduceEq, Int.reduceLT]
      refine hK _ _ _ (by simp only [go_sem, Nat.reduceEqDiff, Nat.reduceLT, Nat.reduceAdd, Nat.reduceMul, Nat.reduceSub, Nat.add_zero, Nat.zero_add, Int.reduceEq, Int.reduceLT]; rfl) ?_; clear hK
      refine AWP.ret (Then.ret (?_))
      exact Fin.plain ⟨.inr rfl, rfl⟩ rfl rfl hok (Grew.refl _) ⟨rfl, rfl⟩
    · simp at h10
  · try simp only [go_sem, Nat.reduceEqDiff, Nat.reduceLT, Nat.reduceAdd, Nat.reduceMul, Nat.reduceSub, Nat.add_zero, Nat.zero_add, Int.reduceEq, Int.reduceLT]
    refine hK _ _ _ (by simp only [go_sem, Nat.reduceEqDiff, Nat.reduceLT, Nat.reduceAdd, Nat.reduceMul, Nat.reduceSub, Nat.add_zero, Nat.zero_add, Int.reduceEq, Int.reduceLT]; rfl) ?_; clear hK
    refine AWP.cond_split rfl (fun h10 => ?_) fun h10 => ?_
    · simp at h10
    refine AWP.skip ?_
    obtain ⟨r2, M2, hc2, hg2, hr2⟩ := split31_spec v vs most M1 hok hv hn hm
    refine AWP.stepR [0, 1, 5] fun K hK => ?_ -- r3
    simp only [go_sem, Nat.reduceEqDiff, Nat.reduceLT, Nat.reduceAdd, Nat.reduceMul, Nat.reduceSub, Nat.add_zero, Nat.zero_add, Int.reduceEq, Int.reduceLT]
    refine ⟨_, _, hc2, ?_⟩
    try simp only [go_sem, Nat.reduceEqDiff, Nat.reduceLT, Nat.reduceAdd, Nat.reduceMul, Nat.reduceSub, Nat.add_zero, Nat.zero_add, Int.reduceEq, Int.reduceLT]
    refine hK _ _ _ (by simp only [go_sem, Nat.reduceEqDiff, Nat.reduceLT, Nat.reduceAdd, Nat.reduceMul, Nat.reduceSub, Nat.add_zero, Nat.zero_add, Int.reduceEq, Int.reduceLT]; rfl) ?_; clear hK
    refine AWP.seq ?_
    refine AWP.stepR [0, 1, 5, 16] fun K hK => ?_ -- r4
    simp only [go_sem, Nat.reduceEqDiff, Nat.reduceLT, Nat.reduceAdd, Nat.reduceMul, Nat.reduceSub, Nat.add_zero, Nat.zero_add, Int.reduceEq, Int.reduceLT]
    refine hK _ _ _ (by simp only [go_sem, Nat.reduceEqDiff, Nat.reduceLT, Nat.reduceAdd, Nat.reduceMul, Nat.reduceSub, Nat.add_zero, Nat.zero_add, Int.reduceEq, Int.reduceLT]; rfl) ?_; clear hK
    refine AWP.cond_split rfl (fun h16 => ?_) fun h16 => ?_
    · rcases hr2 with ⟨_, rfl⟩ | ⟨h1, _⟩
      · refine AWP.stepR [4] fun K hK => ?_ -- r5
        simp only [go_sem, Nat.reduceEqDiff, Nat.reduceLT, Nat.reduceAdd, Nat.reduceMul, Nat.reduceSub, Nat.add_zero, Nat.zero_add, Int.reduceEq, Int.reduceLT, ln_68]
        refine ⟨_, _, works _ hg2, ?_⟩
        try simp only [go_sem, Nat.reduceEqDiff, Nat.reduceLT, Nat.reduceAdd, Nat.reduceMul, Nat.reduceSub, Nat.add_zero, Nat.zero_add, Int.reduceEq, Int.reduceLT]
        refine hK _ _ _ (by simp only [go_sem, Nat.reduceEqDiff, Nat.reduceLT, Nat.reduceAdd, Nat.reduceMul, Nat.reduceSub, Nat.add_zero, Nat.zero_add, Int.reduceEq, Int.reduceLT]; rfl) ?_; clear hK
        refine AWP.ret (Then.ret (?_))
        exact Fin.plain ⟨.inr rfl, rfl⟩ rfl rfl hok hg2 ⟨rfl, rfl⟩
      · exfalso; simp at h16; omega
    · rcases hr2 with ⟨h1, _⟩ | ⟨hpos, ps, css, hrow, hcut, hfl, hall⟩
      · exfalso; simp at h16; omega
      refine AWP.skip ?_
      refine AWP.stepR [0, 1, 5, 6] fun K hK => ?_ -- r6
      simp only [go_sem, Nat.reduceEqDiff, Nat.reduceLT, Nat.reduceAdd, Nat.reduceMul, Nat.reduceSub, Nat.add_zero, Nat.zero_add, Int.reduceEq, Int.reduceLT]
      refine hK _ _ _ (by simp only [go_sem, Nat.reduceEqDiff, Nat.reduceLT, Nat.reduceAdd, Nat.reduceMul, Nat.reduceSub, Nat.add_zero, Nat.zero_add, Int.reduceEq, Int.reduceLT]; rfl) ?_; clear hK
      refine AWP.seq ?_
      refine AWP.stepR [0, 1, 5, 6, 7] fun K hK => ?_ -- r7
      simp only [go_sem, Nat.reduceEqDiff, Nat.reduceLT, Nat.reduceAdd, Nat.reduceMul, Nat.reduceSub, Nat.add_zero, Nat.zero_add, Int.reduceEq, Int.reduceLT]
      refine hK _ _ _ (by simp only [go_sem, Nat.reduceEqDiff, Nat.reduceLT, Nat.reduceAdd, Nat.reduceMul, Nat.reduceSub, Nat.add_zero, Nat.zero_add, Int.reduceEq, Int.reduceLT]; rfl) ?_; clear hK
      have hpl : ps.length ≤ 40 := by
        have h1 := hcut.1
        have : ∀ l : List (List Value), (∀ c, c ∈ l → 1 ≤ c.length) → l.length ≤ l.flatten.length := by
          intro l
          induction l with
          | nil => intro _; simp
          | cons c l ih => intro h; simp only [List.length_cons, List.flatten_cons, List.length_append]; have := h c (by simp); have := ih fun d hd => h d (by simp [hd]); omega
        have := this css fun c hc => by
          obtain ⟨i, hi, he⟩ := List.getElem_of_mem hc
          exact (hcut.2 i ps[i] c (by simp) (by rw [List.getElem?_eq_getElem hi, he])).2.1
        rw [hfl] at this; omega
      refine AWP.block ?_ -- b0
      refine AWP.loopK [0, 1, 5, 6, 7] (fun n e M0 => ∃ all acc, n ≤ ps.length ∧ e = [(0, v), (1, .int .i64 most), (5, r2), (6, all), (7, .int .i64 ((ps.length - n : Nat) : Int))] ∧ Own M2 M0 all acc.length acc 42 ∧ Grew M2 M0 ∧ acc = (css.take (ps.length - n)).flatten) ps.length ?_ fun n e M0 hI => ?_ -- LOOP
      · refine ⟨.slice none 0 0, [], Nat.le_refl _, by simp only [go_sem, Nat.reduceEqDiff, Nat.reduceLT, Nat.reduceAdd, Nat.reduceMul, Nat.reduceSub, Nat.add_zero, Nat.zero_add, Int.reduceEq, Int.reduceLT, Nat.sub_self]; rfl, Own.nil _ _ _, Grew.refl _, by simp⟩
      obtain ⟨all, acc, hn0, rfl, hown, hg0, rfl⟩ := hI
      refine AWP.seq ?_
      refine AWP.stepR [0, 1, 5, 6, 7, 26] fun K hK => ?_ -- r8
      simp only [go_sem, Nat.reduceEqDiff, Nat.reduceLT, Nat.reduceAdd, Nat.reduceMul, Nat.reduceSub, Nat.add_zero, Nat.zero_add, Int.reduceEq, Int.reduceLT, hrow.len es_68, (hrow.grew hg0).len es_68]
      refine hK _ _ _ (by simp only [go_sem, Nat.reduceEqDiff, Nat.reduceLT, Nat.reduceAdd, Nat.reduceMul, Nat.reduceSub, Nat.add_zero, Nat.zero_add, Int.reduceEq, Int.reduceLT]; rfl) ?_; clear hK
      refine AWP.cond_split rfl (fun h26 => ?_) fun h26 => ?_
      · have hlt : ps.length - n < ps.length := by simpa using h26
        have hcl := hcut.1
        generalize hidx : ps.length - n = i at *
        obtain ⟨b, q, ha, hd⟩ := hrow.at1 rfl es_68 hlt
        have hd := hd M0 hg0
        have hps : ps[i]? = some ps[i] := List.getElem?_eq_getElem hlt
        have hcs : css[i]? = some (css[i]'(by omega)) := List.getElem?_eq_getElem (by omega)
        generalize ps[i] = p at hps
        generalize css[i]'(by omega) = cs at hcs
        rw [hps] at hd
        obtain ⟨hpr, hp1, hpm⟩ := hcut.2 i p cs hps hcs
        have hprow := (hpr.row.grew (hg2.trans hg0))
        have hsplit : css.flatten = (css.take i).flatten ++ (cs ++ (css.drop (i + 1)).flatten) := by
          have h1 : css.drop i = cs :: css.drop (i + 1) := by
            have := List.drop_eq_getElem_cons (l := css) (i := i) (by omega)
            rw [this]
            congr 1
            exact (List.getElem?_eq_some_iff.1 hcs).2
          conv => lhs; rw [← List.take_append_drop i css, h1]
          simp
        have hlen40 : (css.take i).flatten.length + cs.length ≤ 40 := by
          have := congrArg List.length hsplit
          rw [hfl] at this
          simp only [List.length_append] at this
          omega
        have hone : oneCells cs = true := by
          refine List.all_eq_true.2 fun x hx => ?_
          have hxv : x ∈ vs := by rw [← hfl, hsplit]; simp [hx]
          obtain ⟨k, hk, he⟩ := List.getElem_of_mem hxv
          exact (hp.2 k x (ls[k]'(by have := hp.1; omega)) (by rw [List.getElem?_eq_getElem hk, he]) (List.getElem?_eq_getElem _)).one
        have f1 : ((cs.length : Int) < 1) = False := by simp; omega
        have f2 : ((cs.length : Int) > most) = False := by simp; omega
        refine AWP.skip ?_
        refine AWP.seq ?_
        refine AWP.block ?_ -- b1
        refine AWP.seq ?_
        refine AWP.stepX [0, 1, 5, 6, 7, 59] [(0, v), (1, .int .i64 most), (5, r2), (6, all), (7, .int .i64 (i : Int)), (59, .bool false)] M0 (fun K hK => ?_) ?_ -- r10
        · have hw : IntKind.i64.wrap ((ps.length : Int) - 1) = (ps.length : Int) - 1 := i64w (by omega) (by omega)
          by_cases hlast : i + 1 < ps.length
          · have f3 : ((i : Int) < (ps.length : Int) - 1) = True := by simp; omega
            have f4 : ((cs.length : Int) != most) = false := by have := hall i (by omega) cs hcs; simp; omega
            simp only [go_sem, Nat.reduceEqDiff, Nat.reduceLT, Nat.reduceAdd, Nat.reduceMul, Nat.reduceSub, Nat.add_zero, Nat.zero_add, Int.reduceEq, Int.reduceLT, ha, hd, ld_59, hprow.len es_59, f1, f2, f3, f4, hw, (hrow.grew hg0).len es_68, decide_true, decide_false]
            exact hK _ (by simp only [go_sem, Nat.reduceEqDiff, Nat.reduceLT, Nat.reduceAdd, Nat.reduceMul, Nat.reduceSub, Nat.add_zero, Nat.zero_add, Int.reduceEq, Int.reduceLT])
          · have f3 : ((i : Int) < (ps.length : Int) - 1) = False := by simp; omega
            simp only [go_sem, Nat.reduceEqDiff, Nat.reduceLT, Nat.reduceAdd, Nat.reduceMul, Nat.reduceSub, Nat.add_zero, Nat.zero_add, Int.reduceEq, Int.reduceLT, ha, hd, ld_59, hprow.len es_59, f1, f2, f3, hw, (hrow.grew hg0).len es_68, decide_true, decide_false]
            exact hK _ (by simp only [go_sem, Nat.reduceEqDiff, Nat.reduceLT, Nat.reduceAdd, Nat.reduceMul, Nat.reduceSub, Nat.add_zero, Nat.zero_add, Int.reduceEq, Int.reduceLT])
        refine AWP.cond_split rfl (fun h59 => ?_) fun h59 => ?_
        · cases h59
        · refine AWP.skip ?_
          refine AWP.lastR fun K hK => ?_ -- r12
          obtain ⟨v2, M3, happ, hown2, hg3, hnx, hfr⟩ := Own.append ap_59_59 hg0 hown (by simp) (hprow.content (by simp)) hone (by omega)
          simp only [go_sem, Nat.reduceEqDiff, Nat.reduceLT, Nat.reduceAdd, Nat.reduceMul, Nat.reduceSub, Nat.add_zero, Nat.zero_add, Int.reduceEq, Int.reduceLT, ha, hd, ld_59, happ]
          refine hK _ _ ?_; clear hK
          refine AWP.lastR fun K hK => ?_ -- r9
          simp only [go_sem, Nat.reduceEqDiff, Nat.reduceLT, Nat.reduceAdd, Nat.reduceMul, Nat.reduceSub, Nat.add_zero, Nat.zero_add, Int.reduceEq, Int.reduceLT]
          refine hK _ _ ?_; clear hK
          refine ⟨rfl, n - 1, by omega, v2, (css.take i).flatten ++ cs, by omega, ?_, by simpa using hown2, hg3, ?_⟩ -- ROUND
          · simp only [go_sem, Nat.reduceEqDiff, Nat.reduceLT, Nat.reduceAdd, Nat.reduceMul, Nat.reduceSub, Nat.add_zero, Nat.zero_add, Int.reduceEq, Int.reduceLT]
            rw [i64w (by omega) (by omega), show (i : Int) + 1 = ((ps.length - (n - 1) : Nat) : Int) by omega]
          · rw [show ps.length - (n - 1) = i + 1 by omega, List.take_add_one, hcs]
            simp
      · refine AWP.exit (Then.exit (Then.exit (InBlock.same ?_))) -- x0
        have hacc : (css.take (ps.length - n)).flatten = vs := by
          have : ps.length ≤ ps.length - n := by simp at h26; omega
          rw [List.take_of_length_le (by have := hcut.1; omega)]; exact hfl
        rw [hacc] at hown
        have hok0 : Ok M0 := hg0.ok (hg2.ok hok)
        obtain ⟨r3, M3, hc3, hr3, hM3⟩ := sameAll30_spec all v vs vs ls ls M0 hok0 hown.row (hv.row.grew (hg2.trans hg0)) (hp.grew (hg2.trans hg0)) (hp.grew (hg2.trans hg0)) (by omega) hl
        subst hM3
        rw [hr3, show (ls == ls) = true by simp] at hc3
        refine AWP.stepR [4] fun K hK => ?_ -- r13
        simp only [go_sem, Nat.reduceEqDiff, Nat.reduceLT, Nat.reduceAdd, Nat.reduceMul, Nat.reduceSub, Nat.add_zero, Nat.zero_add, Int.reduceEq, Int.reduceLT]
        refine ⟨_, _, hc3, ?_⟩
        try simp only [go_sem, Nat.reduceEqDiff, Nat.reduceLT, Nat.reduceAdd, Nat.reduceMul, Nat.reduceSub, Nat.add_zero, Nat.zero_add, Int.reduceEq, Int.reduceLT]
        refine ⟨_, _, works _ (hg2.trans hg0), ?_⟩
        try simp only [go_sem, Nat.reduceEqDiff, Nat.reduceLT, Nat.reduceAdd, Nat.reduceMul, Nat.reduceSub, Nat.add_zero, Nat.zero_add, Int.reduceEq, Int.reduceLT]
        refine hK _ _ _ (by simp only [go_sem, Nat.reduceEqDiff, Nat.reduceLT, Nat.reduceAdd, Nat.reduceMul, Nat.reduceSub, Nat.add_zero, Nat.zero_add, Int.reduceEq, Int.reduceLT]; rfl) ?_; clear hK
        refine AWP.ret (?_)
        exact Fin.plain ⟨.inr rfl, rfl⟩ rfl rfl hok (hg2.trans hg0) ⟨rfl, rfl⟩
end Go.Proofs.YtopblipficpilaaGreatDoor.AY
