/- octet.Reader's Fail, Text, End; reply.reader's number, long, count. -/
import Derived.Test.YthheaehpnleiaaaReplyBack11
import Derived.Test.YthheaehpnleiaaaReplyBack8
namespace Go.Proofs.Ythheaehpnleiaaa.AX
open Go Go.Proofs
set_option maxRecDepth 100000
set_option linter.unusedVariables false
set_option linter.unusedSimpArgs false

theorem numS_b4 {s : Rs} (hb : BytB s.b) : 0 ≤ (numS s 4).2 ∧ (numS s 4).2 < 4294967296 := numS_b (k := 4) hb
theorem numS_b6 {s : Rs} (hb : BytB s.b) : 0 ≤ (numS s 6).2 ∧ (numS s 6).2 < 281474976710656 := numS_b (k := 6) hb
theorem failS_b (s : Rs) (c : Int) : (failS s c).b = s.b := by unfold failS; split <;> rfl
def capS (a : Rs × Int) : Rs := if a.1.code = 0 ∧ a.2 > 1073741824 then failS a.1 4 else a.1
/-- a text with its length ahead -/
def textS (s : Rs) : Rs × List Int := if (capS (numS s 4)).code ≠ 0 then (capS (numS s 4), []) else takeS (capS (numS s 4)) (numS s 4).2
/-- how many there are -/
def countS (s : Rs) : Rs × Int := if (numS s 4).2 > 65536 then (failS (numS s 4).1 4, 0) else numS s 4
def endS (s : Rs) : Rs := if (s.b.length : Int) > 0 then failS s 4 else s
theorem capS_b (a : Rs × Int) : (capS a).b = a.1.b := by unfold capS; split <;> first | rfl | exact failS_b _ _
theorem textS_bytes {s : Rs} (h : BytB s.b) : BytB (textS s).1.b ∧ BytB (textS s).2 := by
  unfold textS
  have h4 := numS_bytes h 4
  split
  · exact ⟨by rw [capS_b]; exact h4, fun x hx => by cases hx⟩
  · exact takeS_bytes (by rw [capS_b]; exact h4) _
theorem textS_len (s : Rs) : (textS s).1.b.length ≤ s.b.length ∧ (textS s).2.length ≤ s.b.length := by
  unfold textS
  have h4 := numS_len s 4
  split
  · rw [capS_b]; exact ⟨h4, by simp⟩
  · have := takeS_len (capS (numS s 4)) (numS s 4).2
    rw [capS_b] at this
    exact ⟨by omega, by omega⟩
theorem countS_bytes {s : Rs} (h : BytB s.b) : BytB (countS s).1.b := by
  unfold countS
  split
  · rw [failS_b]; exact numS_bytes h 4
  · exact numS_bytes h 4
theorem countS_len (s : Rs) : (countS s).1.b.length ≤ s.b.length := by
  unfold countS
  split
  · rw [failS_b]; exact numS_len s 4
  · exact numS_len s 4
theorem countS_b {s : Rs} (h : BytB s.b) : 0 ≤ (countS s).2 ∧ (countS s).2 ≤ 65536 := by
  have := numS_b4 h
  unfold countS
  split <;> first | (simp only; omega) | omega

section
variable {N : Nat} {M M1 : Mem} {p : Nat} {D : Nat → Prop} {s s' : Rs} {fx : Mm} {R R' : Rw → Prop}
theorem Lo.fail (h : Lo N M p D s fx R) (c : Int) :
    ∃ r M', ACall Try.prog 91 #[.pointer (some ⟨p, 0, none⟩), .int .i64 c] M r M' ∧ GrewX p M M' ∧ Lo N M' p D (failS s c) fx R := by
  obtain ⟨vb, hh, hv, hDp, hD⟩ := h.rd
  have hap := hD p hDp
  refine ACall.fin (args := [.pointer (some ⟨p, 0, none⟩), .int .i64 c]) (k := 13) (rs := []) Try.func91 rfl rfl rfl (Nat.le_of_ble_eq_true rfl) ?_
  refine AWP.stepR [0, 1, 8] fun K hK => ?_
  simp only [go_sem, Nat.reduceEqDiff, Nat.reduceLT, Nat.reduceAdd, Nat.reduceMul, Nat.reduceSub, Nat.add_zero, Nat.zero_add, Int.reduceEq, Int.reduceLT, ld_22, hh.ld]
  refine hK _ _ _ (by simp only [go_sem, Nat.reduceEqDiff, Nat.reduceLT, Nat.reduceAdd, Nat.reduceMul, Nat.reduceSub, Nat.add_zero, Nat.zero_add, Int.reduceEq, Int.reduceLT]; rfl) ?_; clear hK
  refine AWP.cond_split rfl (fun h8 => ?_) fun h8 => ?_
  · have h0 : s.code = 0 := by simpa using h8
    have fs : stV M p 1 1 (.int .i64 c) = some (M.put p ⟨[vb, .int .i64 c], 123, true⟩) := st_cellX (o := 1) hh rfl (show 1 < 2 by decide) rfl
    refine AWP.lastR fun K hK => ?_
    simp only [go_sem, Nat.reduceEqDiff, Nat.reduceLT, Nat.reduceAdd, Nat.reduceMul, Nat.reduceSub, Nat.add_zero, Nat.zero_add, Int.reduceEq, Int.reduceLT, st_22, fs]
    refine hK _ _ ?_; clear hK
    have hh2 : Has (M.put p ⟨[vb, .int .i64 c], 123, true⟩) p ⟨[vb, .int .i64 c], 123, true⟩ := Has.put hh.2 _
    have hg2 : GrewX p M (M.put p ⟨[vb, .int .i64 c], 123, true⟩) := (GrewX.refl p M).put hh.2 _
    refine Fin.keep (.inl rfl) rfl ⟨hg2, h.rdr hg2 ?_⟩
    rw [failS, if_pos h0]
    exact ⟨vb, hh2, hv.x hg2 hap, hDp, hD⟩
  · have h0 : s.code ≠ 0 := by simpa using h8
    refine AWP.skip ?_
    refine Fin.keep (.inl rfl) rfl ⟨GrewX.refl p M, ?_⟩
    rw [failS, if_neg h0]
    exact h

theorem Lo.text (h : Lo N M p D s fx R) (hl : s.b.length ≤ 1000000) (hb : BytB s.b) :
    ∃ r M', ACall Try.prog 92 #[.pointer (some ⟨p, 0, none⟩), .int .i64 4, .int .i64 1073741824] M r M' ∧ GrewX p M M' ∧ OwnB M M' r (textS s).2 5 ∧ Lo N M' p D (textS s).1 fx (fun x => x = ⟨r, (textS s).2.length, cB (textS s).2, 5⟩ ∨ R x) := by
  refine ACall.fin (args := [.pointer (some ⟨p, 0, none⟩), .int .i64 4, .int .i64 1073741824]) (k := 34) (rs := [.tmp 6]) Try.func92 rfl rfl rfl (Nat.le_of_ble_eq_true rfl) ?_
  obtain ⟨r1, M1, hc1, hg1, hs1, rfl⟩ := number66_spec p D s 4 M h.ok h.rd (by omega) hb (by omega)
  have h1 : Lo N M1 p D (numS s 4).1 fx R := h.rdr hg1 hs1
  have hn := numS_b4 hb
  have hl4 := numS_len s 4
  refine AWP.stepR [0, 1, 2] fun K hK => ?_
  simp only [go_sem, Nat.reduceEqDiff, Nat.reduceLT, Nat.reduceAdd, Nat.reduceMul, Nat.reduceSub, Nat.add_zero, Nat.zero_add, Int.reduceEq, Int.reduceLT]
  refine hK _ _ _ (by simp only [go_sem, Nat.reduceEqDiff, Nat.reduceLT, Nat.reduceAdd, Nat.reduceMul, Nat.reduceSub, Nat.add_zero, Nat.zero_add, Int.reduceEq, Int.reduceLT]; rfl) ?_; clear hK
  refine AWP.stepR [0, 2, 7] fun K hK => ?_
  simp only [go_sem, Nat.reduceEqDiff, Nat.reduceLT, Nat.reduceAdd, Nat.reduceMul, Nat.reduceSub, Nat.add_zero, Nat.zero_add, Int.reduceEq, Int.reduceLT]
  refine ⟨_, _, hc1, ?_⟩
  refine hK _ _ _ (by simp only [go_sem, Nat.reduceEqDiff, Nat.reduceLT, Nat.reduceAdd, Nat.reduceMul, Nat.reduceSub, Nat.add_zero, Nat.zero_add, Int.reduceEq, Int.reduceLT]; rfl) ?_; clear hK
  refine AWP.seq ?_
  obtain ⟨vb, hh, _⟩ := hs1
  refine AWP.stepX [0, 7, 22] [(0, .pointer (some ⟨p, 0, none⟩)), (7, .int .u64 (numS s 4).2), (22, .bool (decide ((numS s 4).1.code = 0 ∧ (numS s 4).2 > 1073741824)))] M1 (fun K hK => ?_) ?_
  · by_cases h0 : (numS s 4).1.code = 0
    · simp only [go_sem, Nat.reduceEqDiff, Nat.reduceLT, Nat.reduceAdd, Nat.reduceMul, Nat.reduceSub, Nat.add_zero, Nat.zero_add, Int.reduceEq, Int.reduceLT, ld_22, hh.ld, h0, show ((0 : Int) == 0) = true from rfl, extremeV, cond_true, show (if (0 : Int) > 1073741824 then (0 : Int) else 1073741824) = 1073741824 from rfl, u64w (n := 1073741824) (by omega) (by omega)]
      refine hK _ ?_
      simp only [go_sem, Nat.reduceEqDiff, Nat.reduceLT, Nat.reduceAdd, Nat.reduceMul, Nat.reduceSub, Nat.add_zero, Nat.zero_add, Int.reduceEq, Int.reduceLT]
      simp [h0]
    · simp only [go_sem, Nat.reduceEqDiff, Nat.reduceLT, Nat.reduceAdd, Nat.reduceMul, Nat.reduceSub, Nat.add_zero, Nat.zero_add, Int.reduceEq, Int.reduceLT, ld_22, hh.ld, show ((numS s 4).1.code == 0) = false by simp [h0]]
      refine hK _ ?_
      simp only [go_sem, Nat.reduceEqDiff, Nat.reduceLT, Nat.reduceAdd, Nat.reduceMul, Nat.reduceSub, Nat.add_zero, Nat.zero_add, Int.reduceEq, Int.reduceLT]
      rw [decide_eq_false (fun hh => h0 hh.1)]
  refine AWP.condG rfl [0, 7] [(0, .pointer (some ⟨p, 0, none⟩)), (7, .int .u64 (numS s 4).2)] (fun M' => GrewX p M M' ∧ Lo N M' p D (capS (numS s 4)) fx R) (fun h22 => ?_) (fun h22 => ?_) fun M2 h2 => ?_
  · obtain ⟨r3, M3, hc3, hg3, h3⟩ := h1.fail 4
    refine AWP.lastR fun K hK => ?_
    simp only [go_sem, Nat.reduceEqDiff, Nat.reduceLT, Nat.reduceAdd, Nat.reduceMul, Nat.reduceSub, Nat.add_zero, Nat.zero_add, Int.reduceEq, Int.reduceLT]
    refine ⟨_, _, hc3, ?_⟩
    refine hK _ _ ?_; clear hK
    refine ⟨by simp only [go_sem, Nat.reduceEqDiff, Nat.reduceLT, Nat.reduceAdd, Nat.reduceMul, Nat.reduceSub, Nat.add_zero, Nat.zero_add, Int.reduceEq, Int.reduceLT], hg1.trans hg3, ?_⟩
    rw [capS, if_pos (of_decide_eq_true h22)]; exact h3
  · refine AWP.skip ?_
    refine ⟨by simp only [go_sem, Nat.reduceEqDiff, Nat.reduceLT, Nat.reduceAdd, Nat.reduceMul, Nat.reduceSub, Nat.add_zero, Nat.zero_add, Int.reduceEq, Int.reduceLT], hg1, ?_⟩
    rw [capS, if_neg (of_decide_eq_false h22)]; exact h1
  obtain ⟨hg2, h2⟩ := h2
  obtain ⟨vb2, hh2, _⟩ := h2.rd
  refine AWP.seq ?_
  refine AWP.stepR [0, 7, 29] fun K hK => ?_
  simp only [go_sem, Nat.reduceEqDiff, Nat.reduceLT, Nat.reduceAdd, Nat.reduceMul, Nat.reduceSub, Nat.add_zero, Nat.zero_add, Int.reduceEq, Int.reduceLT, ld_22, hh2.ld]
  refine hK _ _ _ (by simp only [go_sem, Nat.reduceEqDiff, Nat.reduceLT, Nat.reduceAdd, Nat.reduceMul, Nat.reduceSub, Nat.add_zero, Nat.zero_add, Int.reduceEq, Int.reduceLT]; rfl) ?_; clear hK
  refine AWP.cond_split rfl (fun h29 => ?_) fun h29 => ?_
  · have h0 : (capS (numS s 4)).code ≠ 0 := by simpa using h29
    refine AWP.stepR [6] fun K hK => ?_
    simp only [go_sem, Nat.reduceEqDiff, Nat.reduceLT, Nat.reduceAdd, Nat.reduceMul, Nat.reduceSub, Nat.add_zero, Nat.zero_add, Int.reduceEq, Int.reduceLT]
    refine hK _ _ _ (by simp only [go_sem, Nat.reduceEqDiff, Nat.reduceLT, Nat.reduceAdd, Nat.reduceMul, Nat.reduceSub, Nat.add_zero, Nat.zero_add, Int.reduceEq, Int.reduceLT]; rfl) ?_; clear hK
    refine AWP.ret (Then.ret (?_))
    refine Fin.keep (.inr rfl) rfl ⟨hg2, ?_, ?_⟩
    · rw [textS, if_pos h0]; exact Own.nil _ _ _
    · rw [textS, if_pos h0]
      exact h2.add (Mb := M2) (r := ⟨.slice none 0 0, 0, [], 5⟩) (Own.nil _ _ _) h2.next (fun i b hi => Apart.nil _) (fun a ha => Sep.nil _)
  · have h0 : (capS (numS s 4)).code = 0 := by simpa using h29
    obtain ⟨r4, M4, hc4, hg4, ho4, h4⟩ : ∃ r M', ACall Try.prog 49 #[.pointer (some ⟨p, 0, none⟩), .int .i64 (numS s 4).2] M2 r M' ∧ GrewX p M2 M' ∧ OwnB M2 M' r (takeS (capS (numS s 4)) (numS s 4).2).2 5 ∧ Lo N M' p D (takeS (capS (numS s 4)) (numS s 4).2).1 fx (fun x => x = ⟨r, (takeS (capS (numS s 4)) (numS s 4).2).2.length, cB (takeS (capS (numS s 4)) (numS s 4).2).2, 5⟩ ∨ R x) := by
      obtain ⟨r, M', hc, hg, hs, ho⟩ := bytes49_spec p D (capS (numS s 4)) (numS s 4).2 M2 h2.ok h2.rd (by rw [capS_b]; omega)
      exact ⟨r, M', hc, hg, ho, (h2.rdr hg hs).add (r := ⟨r, _, _, 5⟩) ho h2.next (fun i b hi => ho.apart (.inl (h2.fx i b hi).1.2)) fun a ha => own_sep ho (h2.rows a ha) (Nat.le_refl _)⟩
    refine AWP.skip ?_
    refine AWP.stepR [6] fun K hK => ?_
    simp only [go_sem, Nat.reduceEqDiff, Nat.reduceLT, Nat.reduceAdd, Nat.reduceMul, Nat.reduceSub, Nat.add_zero, Nat.zero_add, Int.reduceEq, Int.reduceLT, i64w (n := (numS s 4).2) (by omega) (by omega)]
    refine ⟨_, _, hc4, ?_⟩
    refine hK _ _ _ (by simp only [go_sem, Nat.reduceEqDiff, Nat.reduceLT, Nat.reduceAdd, Nat.reduceMul, Nat.reduceSub, Nat.add_zero, Nat.zero_add, Int.reduceEq, Int.reduceLT]; rfl) ?_; clear hK
    refine AWP.ret (?_)
    refine Fin.keep (.inr rfl) rfl ⟨hg2.trans hg4, ?_, ?_⟩
    · rw [textS, if_neg (by simpa using h0)]; exact ho4.base hg2.next
    · rw [textS, if_neg (by simpa using h0)]; exact h4

theorem Lo.end_ (h : Lo N M p D s fx R) (hl : s.b.length ≤ 1000000) :
    ∃ r M', ACall Try.prog 56 #[.pointer (some ⟨p, 0, none⟩)] M r M' ∧ GrewX p M M' ∧ r = .int .i64 (endS s).code ∧ Lo N M' p D (endS s) fx R := by
  refine ACall.fin (args := [.pointer (some ⟨p, 0, none⟩)]) (k := 15) (rs := [.tmp 2]) Try.func56 rfl rfl rfl (Nat.le_of_ble_eq_true rfl) ?_
  obtain ⟨vb, hh, hv, _⟩ := h.rd
  refine AWP.stepR [0] fun K hK => ?_
  simp only [go_sem, Nat.reduceEqDiff, Nat.reduceLT, Nat.reduceAdd, Nat.reduceMul, Nat.reduceSub, Nat.add_zero, Nat.zero_add, Int.reduceEq, Int.reduceLT]
  refine hK _ _ _ (by simp only [go_sem, Nat.reduceEqDiff, Nat.reduceLT, Nat.reduceAdd, Nat.reduceMul, Nat.reduceSub, Nat.add_zero, Nat.zero_add, Int.reduceEq, Int.reduceLT]; rfl) ?_; clear hK
  refine AWP.seq ?_
  refine AWP.stepR [0, 8] fun K hK => ?_
  simp only [go_sem, Nat.reduceEqDiff, Nat.reduceLT, Nat.reduceAdd, Nat.reduceMul, Nat.reduceSub, Nat.add_zero, Nat.zero_add, Int.reduceEq, Int.reduceLT, ld_23, hh.ld, hv.row.len es_23]
  refine hK _ _ _ (by simp only [go_sem, Nat.reduceEqDiff, Nat.reduceLT, Nat.reduceAdd, Nat.reduceMul, Nat.reduceSub, Nat.add_zero, Nat.zero_add, Int.reduceEq, Int.reduceLT]; rfl) ?_; clear hK
  refine AWP.condG rfl [0] [(0, .pointer (some ⟨p, 0, none⟩))] (fun M' => GrewX p M M' ∧ Lo N M' p D (endS s) fx R) (fun h8 => ?_) (fun h8 => ?_) fun M2 h2 => ?_
  · obtain ⟨r3, M3, hc3, hg3, h3⟩ := h.fail 4
    refine AWP.lastR fun K hK => ?_
    simp only [go_sem, Nat.reduceEqDiff, Nat.reduceLT, Nat.reduceAdd, Nat.reduceMul, Nat.reduceSub, Nat.add_zero, Nat.zero_add, Int.reduceEq, Int.reduceLT]
    refine ⟨_, _, hc3, ?_⟩
    refine hK _ _ ?_; clear hK
    refine ⟨by simp only [go_sem, Nat.reduceEqDiff, Nat.reduceLT, Nat.reduceAdd, Nat.reduceMul, Nat.reduceSub, Nat.add_zero, Nat.zero_add, Int.reduceEq, Int.reduceLT], hg3, ?_⟩
    rw [endS, if_pos (of_decide_eq_true h8)]; exact h3
  · refine AWP.skip ?_
    refine ⟨by simp only [go_sem, Nat.reduceEqDiff, Nat.reduceLT, Nat.reduceAdd, Nat.reduceMul, Nat.reduceSub, Nat.add_zero, Nat.zero_add, Int.reduceEq, Int.reduceLT], GrewX.refl _ _, ?_⟩
    rw [endS, if_neg (of_decide_eq_false h8)]; exact h
  obtain ⟨hg2, h2⟩ := h2
  obtain ⟨vb2, hh2, _⟩ := h2.rd
  refine AWP.stepR [2] fun K hK => ?_
  simp only [go_sem, Nat.reduceEqDiff, Nat.reduceLT, Nat.reduceAdd, Nat.reduceMul, Nat.reduceSub, Nat.add_zero, Nat.zero_add, Int.reduceEq, Int.reduceLT, ld_22, hh2.ld]
  refine hK _ _ _ (by simp only [go_sem, Nat.reduceEqDiff, Nat.reduceLT, Nat.reduceAdd, Nat.reduceMul, Nat.reduceSub, Nat.add_zero, Nat.zero_add, Int.reduceEq, Int.reduceLT]; rfl) ?_; clear hK
  refine AWP.ret (?_)
  exact Fin.keep (.inr rfl) rfl ⟨hg2, rfl, h2⟩

/-! ### reply's reader: a struct of one pointer -/
def rdP (p : Nat) : Value := .agg #[.pointer (some ⟨p, 0, none⟩)]
theorem Lo.number (h : Lo N M p D s fx R) (hl : s.b.length ≤ 1000000) (hb : BytB s.b) :
    ∃ r M', ACall Try.prog 51 #[rdP p] M r M' ∧ GrewX p M M' ∧ Lo N M' p D (numS s 6).1 fx R ∧ r = .int .i64 (numS s 6).2 := by
  refine ACall.fin (args := [rdP p]) (k := 7) (rs := [.tmp 2]) Try.func51 rfl rfl rfl (Nat.le_of_ble_eq_true rfl) ?_
  refine AWP.stepR [1] fun K hK => ?_
  simp only [go_sem, Nat.reduceEqDiff, Nat.reduceLT, Nat.reduceAdd, Nat.reduceMul, Nat.reduceSub, Nat.add_zero, Nat.zero_add, Int.reduceEq, Int.reduceLT, rdP]
  refine hK _ _ _ (by simp only [go_sem, Nat.reduceEqDiff, Nat.reduceLT, Nat.reduceAdd, Nat.reduceMul, Nat.reduceSub, Nat.add_zero, Nat.zero_add, Int.reduceEq, Int.reduceLT]; rfl) ?_; clear hK
  have hlt1 : M.next < (M.bump 1).next := Nat.lt_succ_self _
  obtain ⟨hg1, hh1⟩ := mk_put ((Grew.refl M).bump 1) (Nat.le_refl _) hlt1 ⟨[.pointer (some ⟨p, 0, none⟩)], 77, true⟩
  change AWP _ _ _ ⟨_, (M.bump 1).put M.next ⟨[.pointer (some ⟨p, 0, none⟩)], 77, true⟩⟩ _
  generalize hM1 : (M.bump 1).put M.next ⟨[.pointer (some ⟨p, 0, none⟩)], 77, true⟩ = M1 at hg1 hh1
  have h1 := h.grow hg1
  obtain ⟨r2, M2, hc2, hg2, hs2, rfl⟩ := number66_spec p D s 6 M1 h1.ok h1.rd (by omega) hb (by omega)
  have hn := numS_b6 hb
  refine AWP.stepR [2] fun K hK => ?_
  simp only [go_sem, Nat.reduceEqDiff, Nat.reduceLT, Nat.reduceAdd, Nat.reduceMul, Nat.reduceSub, Nat.add_zero, Nat.zero_add, Int.reduceEq, Int.reduceLT, ld_74, hh1.ld]
  refine ⟨_, _, hc2, ?_⟩
  try simp only [go_sem, Nat.reduceEqDiff, Nat.reduceLT, Nat.reduceAdd, Nat.reduceMul, Nat.reduceSub, Nat.add_zero, Nat.zero_add, Int.reduceEq, Int.reduceLT, i64w (n := (numS s 6).2) (by omega) (by omega)]
  refine hK _ _ _ (by simp only [go_sem, Nat.reduceEqDiff, Nat.reduceLT, Nat.reduceAdd, Nat.reduceMul, Nat.reduceSub, Nat.add_zero, Nat.zero_add, Int.reduceEq, Int.reduceLT]; rfl) ?_; clear hK
  refine AWP.ret (?_)
  exact Fin.keep (.inr rfl) rfl ⟨(hg1.x p).trans hg2, h1.rdr hg2 hs2, rfl⟩
theorem Lo.long (h : Lo N M p D s fx R) (hl : s.b.length ≤ 1000000) (hb : BytB s.b) :
    ∃ r M', ACall Try.prog 52 #[rdP p] M r M' ∧ GrewX p M M' ∧ OwnB M M' r (textS s).2 5 ∧ Lo N M' p D (textS s).1 fx (fun x => x = ⟨r, (textS s).2.length, cB (textS s).2, 5⟩ ∨ R x) := by
  refine ACall.fin (args := [rdP p]) (k := 6) (rs := [.tmp 2]) Try.func52 rfl rfl rfl (Nat.le_of_ble_eq_true rfl) ?_
  refine AWP.stepR [1] fun K hK => ?_
  simp only [go_sem, Nat.reduceEqDiff, Nat.reduceLT, Nat.reduceAdd, Nat.reduceMul, Nat.reduceSub, Nat.add_zero, Nat.zero_add, Int.reduceEq, Int.reduceLT, rdP]
  refine hK _ _ _ (by simp only [go_sem, Nat.reduceEqDiff, Nat.reduceLT, Nat.reduceAdd, Nat.reduceMul, Nat.reduceSub, Nat.add_zero, Nat.zero_add, Int.reduceEq, Int.reduceLT]; rfl) ?_; clear hK
  have hlt1 : M.next < (M.bump 1).next := Nat.lt_succ_self _
  obtain ⟨hg1, hh1⟩ := mk_put ((Grew.refl M).bump 1) (Nat.le_refl _) hlt1 ⟨[.pointer (some ⟨p, 0, none⟩)], 77, true⟩
  change AWP _ _ _ ⟨_, (M.bump 1).put M.next ⟨[.pointer (some ⟨p, 0, none⟩)], 77, true⟩⟩ _
  generalize hM1 : (M.bump 1).put M.next ⟨[.pointer (some ⟨p, 0, none⟩)], 77, true⟩ = M1 at hg1 hh1
  have h1 := h.grow hg1
  obtain ⟨r2, M2, hc2, hg2, ho2, h2⟩ := h1.text hl hb
  refine AWP.stepR [2] fun K hK => ?_
  simp only [go_sem, Nat.reduceEqDiff, Nat.reduceLT, Nat.reduceAdd, Nat.reduceMul, Nat.reduceSub, Nat.add_zero, Nat.zero_add, Int.reduceEq, Int.reduceLT, ld_74, hh1.ld]
  refine ⟨_, _, hc2, ?_⟩
  refine hK _ _ _ (by simp only [go_sem, Nat.reduceEqDiff, Nat.reduceLT, Nat.reduceAdd, Nat.reduceMul, Nat.reduceSub, Nat.add_zero, Nat.zero_add, Int.reduceEq, Int.reduceLT]; rfl) ?_; clear hK
  refine AWP.ret (?_)
  exact Fin.keep (.inr rfl) rfl ⟨(hg1.x p).trans hg2, ho2.base hg1.next, h2⟩
theorem Lo.count (h : Lo N M p D s fx R) (hl : s.b.length ≤ 1000000) (hb : BytB s.b) :
    ∃ r M', ACall Try.prog 54 #[rdP p] M r M' ∧ GrewX p M M' ∧ Lo N M' p D (countS s).1 fx R ∧ r = .int .i64 (countS s).2 := by
  refine ACall.fin (args := [rdP p]) (k := 14) (rs := [.tmp 2]) Try.func54 rfl rfl rfl (Nat.le_of_ble_eq_true rfl) ?_
  refine AWP.stepR [1] fun K hK => ?_
  simp only [go_sem, Nat.reduceEqDiff, Nat.reduceLT, Nat.reduceAdd, Nat.reduceMul, Nat.reduceSub, Nat.add_zero, Nat.zero_add, Int.reduceEq, Int.reduceLT, rdP]
  refine hK _ _ _ (by simp only [go_sem, Nat.reduceEqDiff, Nat.reduceLT, Nat.reduceAdd, Nat.reduceMul, Nat.reduceSub, Nat.add_zero, Nat.zero_add, Int.reduceEq, Int.reduceLT]; rfl) ?_; clear hK
  have hlt1 : M.next < (M.bump 1).next := Nat.lt_succ_self _
  obtain ⟨hg1, hh1⟩ := mk_put ((Grew.refl M).bump 1) (Nat.le_refl _) hlt1 ⟨[.pointer (some ⟨p, 0, none⟩)], 77, true⟩
  change AWP _ _ _ ⟨_, (M.bump 1).put M.next ⟨[.pointer (some ⟨p, 0, none⟩)], 77, true⟩⟩ _
  generalize hM1 : (M.bump 1).put M.next ⟨[.pointer (some ⟨p, 0, none⟩)], 77, true⟩ = M1 at hg1 hh1
  have h1 := h.grow hg1
  obtain ⟨r2, M2, hc2, hg2, hs2, rfl⟩ := number66_spec p D s 4 M1 h1.ok h1.rd (by omega) hb (by omega)
  have h2 := h1.rdr hg2 hs2
  have hn := numS_b4 hb
  have hp : M.next ≠ p := by have := h.pN; have := h.next; omega
  have hh2 := hh1.x hg2 hp
  refine AWP.stepR [1, 3] fun K hK => ?_
  simp only [go_sem, Nat.reduceEqDiff, Nat.reduceLT, Nat.reduceAdd, Nat.reduceMul, Nat.reduceSub, Nat.add_zero, Nat.zero_add, Int.reduceEq, Int.reduceLT, ld_74, hh1.ld]
  refine ⟨_, _, hc2, ?_⟩
  refine hK _ _ _ (by simp only [go_sem, Nat.reduceEqDiff, Nat.reduceLT, Nat.reduceAdd, Nat.reduceMul, Nat.reduceSub, Nat.add_zero, Nat.zero_add, Int.reduceEq, Int.reduceLT]; rfl) ?_; clear hK
  refine AWP.seq ?_
  refine AWP.stepR [1, 3, 8] fun K hK => ?_
  simp only [go_sem, Nat.reduceEqDiff, Nat.reduceLT, Nat.reduceAdd, Nat.reduceMul, Nat.reduceSub, Nat.add_zero, Nat.zero_add, Int.reduceEq, Int.reduceLT]
  refine hK _ _ _ (by simp only [go_sem, Nat.reduceEqDiff, Nat.reduceLT, Nat.reduceAdd, Nat.reduceMul, Nat.reduceSub, Nat.add_zero, Nat.zero_add, Int.reduceEq, Int.reduceLT]; rfl) ?_; clear hK
  refine AWP.cond_split rfl (fun h8 => ?_) fun h8 => ?_
  · have hgt : (numS s 4).2 > 65536 := of_decide_eq_true h8
    obtain ⟨r3, M3, hc3, hg3, h3⟩ := h2.fail 4
    refine AWP.stepR [] fun K hK => ?_
    simp only [go_sem, Nat.reduceEqDiff, Nat.reduceLT, Nat.reduceAdd, Nat.reduceMul, Nat.reduceSub, Nat.add_zero, Nat.zero_add, Int.reduceEq, Int.reduceLT, ld_74, hh2.ld]
    refine ⟨_, _, hc3, ?_⟩
    refine hK _ _ _ (by simp only [go_sem, Nat.reduceEqDiff, Nat.reduceLT, Nat.reduceAdd, Nat.reduceMul, Nat.reduceSub, Nat.add_zero, Nat.zero_add, Int.reduceEq, Int.reduceLT]; rfl) ?_; clear hK
    refine AWP.stepR [2] fun K hK => ?_
    simp only [go_sem, Nat.reduceEqDiff, Nat.reduceLT, Nat.reduceAdd, Nat.reduceMul, Nat.reduceSub, Nat.add_zero, Nat.zero_add, Int.reduceEq, Int.reduceLT]
    refine hK _ _ _ (by simp only [go_sem, Nat.reduceEqDiff, Nat.reduceLT, Nat.reduceAdd, Nat.reduceMul, Nat.reduceSub, Nat.add_zero, Nat.zero_add, Int.reduceEq, Int.reduceLT]; rfl) ?_; clear hK
    refine AWP.ret (Then.ret (?_))
    refine Fin.keep (.inr rfl) rfl ⟨(hg1.x p).trans (hg2.trans hg3), ?_, ?_⟩
    · rw [countS, if_pos hgt]; exact h3
    · rw [countS, if_pos hgt]
  · have hgt : ¬ (numS s 4).2 > 65536 := of_decide_eq_false h8
    refine AWP.skip ?_
    refine AWP.stepR [2] fun K hK => ?_
    simp only [go_sem, Nat.reduceEqDiff, Nat.reduceLT, Nat.reduceAdd, Nat.reduceMul, Nat.reduceSub, Nat.add_zero, Nat.zero_add, Int.reduceEq, Int.reduceLT, i64w (n := (numS s 4).2) (by omega) (by omega)]
    refine hK _ _ _ (by simp only [go_sem, Nat.reduceEqDiff, Nat.reduceLT, Nat.reduceAdd, Nat.reduceMul, Nat.reduceSub, Nat.add_zero, Nat.zero_add, Int.reduceEq, Int.reduceLT]; rfl) ?_; clear hK
    refine AWP.ret (?_)
    refine Fin.keep (.inr rfl) rfl ⟨(hg1.x p).trans hg2, ?_, ?_⟩
    · rw [countS, if_neg hgt]; exact h2
    · rw [countS, if_neg hgt]
end
end Go.Proofs.Ythheaehpnleiaaa.AX

/- reply.reader's flags. -/
namespace Go.Proofs.Ythheaehpnleiaaa.AX
open Go Go.Proofs
set_option maxRecDepth 100000
set_option linter.unusedVariables false
set_option linter.unusedSimpArgs false

/-- a byte below a bound -/
def flagsS (s : Rs) (below : Int) : Rs × Int := if (numS s 1).2 ≥ below then (failS (numS s 1).1 4, (numS s 1).2) else numS s 1
theorem flagsS_n (s : Rs) (b : Int) : (flagsS s b).2 = (numS s 1).2 := by unfold flagsS; split <;> rfl
theorem flagsS_bytes {s : Rs} (h : BytB s.b) (b : Int) : BytB (flagsS s b).1.b := by
  unfold flagsS
  split
  · rw [failS_b]; exact numS_bytes h 1
  · exact numS_bytes h 1
theorem flagsS_len (s : Rs) (b : Int) : (flagsS s b).1.b.length ≤ s.b.length := by
  unfold flagsS
  split
  · rw [failS_b]; exact numS_len s 1
  · exact numS_len s 1
def bitF (n : Int) (i : Nat) : Bool := n / 2 ^ i % 2 == 1
def bitsF (n : Int) (k : Nat) : List Bool := (List.range k).map (bitF n)
theorem fdiv_pow (n : Int) (k : Nat) (hn : 0 ≤ n) (hk : k ≤ 64) : n.fdiv (2 ^ (min ((k : Int).toNat) 64)) = n / 2 ^ k := by
  rw [Int.toNat_natCast, Nat.min_eq_left hk, Int.fdiv_eq_ediv_of_nonneg _ (by exact_mod_cast Nat.zero_le _)]
theorem and_one (a : Int) (h0 : 0 ≤ a) (h1 : a < 18446744073709551616) : ((BitVec.ofInt 64 a &&& BitVec.ofInt 64 1).toNat : Int) = a % 2 := by
  obtain ⟨m, rfl⟩ : ∃ m : Nat, a = m := ⟨a.toNat, by omega⟩
  have h2 : (BitVec.ofInt 64 (m : Int)).toNat = m := by rw [BitVec.toNat_ofInt]; omega
  have h3 : (BitVec.ofInt 64 (1 : Int)).toNat = 1 := rfl
  rw [BitVec.toNat_and, h2, h3, Nat.and_one_is_mod]
  omega
section
variable {N : Nat} {M M1 : Mem} {p : Nat} {D : Nat → Prop} {s s' : Rs} {fx : Mm} {R R' : Rw → Prop}
theorem Lo.flags (h : Lo N M p D s fx R) (k : Nat) (hk : k ≤ 7) (hl : s.b.length ≤ 1000000) (hb : BytB s.b) :
    ∃ r M', ACall Try.prog 50 #[rdP p, .int .i64 k] M r M' ∧ GrewX p M M' ∧ Own M M' r k ((bitsF (flagsS s (2 ^ k)).2 k).map .bool) 4 ∧ Lo N M' p D (flagsS s (2 ^ k)).1 fx (fun x => x = ⟨r, k, (bitsF (flagsS s (2 ^ k)).2 k).map .bool, 4⟩ ∨ R x) := by
  refine ACall.fin (args := [rdP p, .int .i64 k]) (k := 32) (rs := [.tmp 4]) Try.func50 rfl rfl rfl (Nat.le_of_ble_eq_true rfl) ?_
  refine AWP.stepR [1, 2] fun K hK => ?_
  simp only [go_sem, Nat.reduceEqDiff, Nat.reduceLT, Nat.reduceAdd, Nat.reduceMul, Nat.reduceSub, Nat.add_zero, Nat.zero_add, Int.reduceEq, Int.reduceLT, rdP]
  refine hK _ _ _ (by simp only [go_sem, Nat.reduceEqDiff, Nat.reduceLT, Nat.reduceAdd, Nat.reduceMul, Nat.reduceSub, Nat.add_zero, Nat.zero_add, Int.reduceEq, Int.reduceLT]; rfl) ?_; clear hK
  have hlt1 : M.next < (M.bump 1).next := Nat.lt_succ_self _
  obtain ⟨hg1, hh1⟩ := mk_put ((Grew.refl M).bump 1) (Nat.le_refl _) hlt1 ⟨[.pointer (some ⟨p, 0, none⟩)], 77, true⟩
  change AWP _ _ _ ⟨_, (M.bump 1).put M.next ⟨[.pointer (some ⟨p, 0, none⟩)], 77, true⟩⟩ _
  generalize hM1 : (M.bump 1).put M.next ⟨[.pointer (some ⟨p, 0, none⟩)], 77, true⟩ = M1 at hg1 hh1
  have h1 := h.grow hg1
  obtain ⟨r2, M2, hc2, hg2, hs2, rfl⟩ := number66_spec p D s 1 M1 h1.ok h1.rd (by omega) hb (by omega)
  have h2 := h1.rdr hg2 hs2
  have hn := numS_b1 hb
  rw [flagsS_n]
  have hp : M.next ≠ p := by have := h.pN; have := h.next; omega
  have hh2 := hh1.x hg2 hp
  refine AWP.stepR [1, 2, 5] fun K hK => ?_
  simp only [go_sem, Nat.reduceEqDiff, Nat.reduceLT, Nat.reduceAdd, Nat.reduceMul, Nat.reduceSub, Nat.add_zero, Nat.zero_add, Int.reduceEq, Int.reduceLT, ld_74, hh1.ld]
  refine ⟨_, _, hc2, ?_⟩
  refine hK _ _ _ (by simp only [go_sem, Nat.reduceEqDiff, Nat.reduceLT, Nat.reduceAdd, Nat.reduceMul, Nat.reduceSub, Nat.add_zero, Nat.zero_add, Int.reduceEq, Int.reduceLT]; rfl) ?_; clear hK
  refine AWP.seq ?_
  have hk0 : ((k : Int) < 0) = False := by simp
  refine AWP.stepR [1, 2, 5, 14] fun K hK => ?_
  simp only [go_sem, Nat.reduceEqDiff, Nat.reduceLT, Nat.reduceAdd, Nat.reduceMul, Nat.reduceSub, Nat.add_zero, Nat.zero_add, Int.reduceEq, Int.reduceLT, hk0, fdiv_pow (numS s 1).2 k hn.1 (by omega)]
  refine hK _ _ _ (by simp only [go_sem, Nat.reduceEqDiff, Nat.reduceLT, Nat.reduceAdd, Nat.reduceMul, Nat.reduceSub, Nat.add_zero, Nat.zero_add, Int.reduceEq, Int.reduceLT]; rfl) ?_; clear hK
  have hz : ((numS s 1).2 / 2 ^ k != 0) = decide ((numS s 1).2 ≥ 2 ^ k) := by
    have hp2 : (0 : Int) < 2 ^ k := by exact_mod_cast Nat.pow_pos (n := k) (show 0 < 2 by decide)
    generalize (2 : Int) ^ k = t at hp2
    by_cases hc : (numS s 1).2 ≥ t
    · have h1 : 1 ≤ (numS s 1).2 / t := Int.le_ediv_of_mul_le hp2 (by omega)
      rw [decide_eq_true hc]; simp; omega
    · rw [decide_eq_false hc, Int.ediv_eq_zero_of_lt hn.1 (by omega)]; rfl
  rw [hz]
  refine AWP.condG rfl [1, 5] [(1, .int .i64 k), (5, .int .u64 (numS s 1).2)] (fun M' => GrewX p M1 M' ∧ Lo N M' p D (flagsS s (2 ^ k)).1 fx R) (fun h14 => ?_) (fun h14 => ?_) fun M3 h3 => ?_
  · obtain ⟨r3, M3, hc3, hg3, h3⟩ := h2.fail 4
    refine AWP.lastR fun K hK => ?_
    simp only [go_sem, Nat.reduceEqDiff, Nat.reduceLT, Nat.reduceAdd, Nat.reduceMul, Nat.reduceSub, Nat.add_zero, Nat.zero_add, Int.reduceEq, Int.reduceLT, ld_74, hh2.ld]
    refine ⟨_, _, hc3, ?_⟩
    refine hK _ _ ?_; clear hK
    refine ⟨by simp only [go_sem, Nat.reduceEqDiff, Nat.reduceLT, Nat.reduceAdd, Nat.reduceMul, Nat.reduceSub, Nat.add_zero, Nat.zero_add, Int.reduceEq, Int.reduceLT], hg2.trans hg3, ?_⟩
    rw [flagsS, if_pos (of_decide_eq_true h14)]; exact h3
  · refine AWP.skip ?_
    refine ⟨by simp only [go_sem, Nat.reduceEqDiff, Nat.reduceLT, Nat.reduceAdd, Nat.reduceMul, Nat.reduceSub, Nat.add_zero, Nat.zero_add, Int.reduceEq, Int.reduceLT], hg2, ?_⟩
    rw [flagsS, if_neg (of_decide_eq_false h14)]; exact h2
  obtain ⟨hg3, h3⟩ := h3
  clear h2 h1 hs2 hc2 hh2 hz
  generalize (numS s 1).2 = n at hn
  refine AWP.stepR [1, 5, 6] fun K hK => ?_
  simp only [go_sem, Nat.reduceEqDiff, Nat.reduceLT, Nat.reduceAdd, Nat.reduceMul, Nat.reduceSub, Nat.add_zero, Nat.zero_add, Int.reduceEq, Int.reduceLT]
  refine hK _ _ _ (by simp only [go_sem, Nat.reduceEqDiff, Nat.reduceLT, Nat.reduceAdd, Nat.reduceMul, Nat.reduceSub, Nat.add_zero, Nat.zero_add, Int.reduceEq, Int.reduceLT]; rfl) ?_; clear hK
  refine AWP.seq ?_
  refine AWP.stepR [5, 6, 18, 19] fun K hK => ?_
  simp only [go_sem, Nat.reduceEqDiff, Nat.reduceLT, Nat.reduceAdd, Nat.reduceMul, Nat.reduceSub, Nat.add_zero, Nat.zero_add, Int.reduceEq, Int.reduceLT]
  refine hK _ _ _ (by simp only [go_sem, Nat.reduceEqDiff, Nat.reduceLT, Nat.reduceAdd, Nat.reduceMul, Nat.reduceSub, Nat.add_zero, Nat.zero_add, Int.reduceEq, Int.reduceLT]; rfl) ?_; clear hK
  refine AWP.block ?_ -- b0
  refine AWP.loopK [5, 6, 18, 19] (fun c e M4 => c ≤ k ∧ Grew M3 M4 ∧ ∃ bv, e = [(5, .int .u64 n), (6, bv), (18, .int .i64 k), (19, .int .i64 ((k - c : Nat) : Int))] ∧ Own M3 M4 bv (k - c) ((bitsF n (k - c)).map .bool) 4) k ?_ fun c e M4 hI => ?_ -- LOOP
  · simp only [go_sem, Nat.reduceEqDiff, Nat.reduceLT, Nat.reduceAdd, Nat.reduceMul, Nat.reduceSub, Nat.add_zero, Nat.zero_add, Int.reduceEq, Int.reduceLT, Nat.le_refl]
    exact ⟨Grew.refl _, .slice none 0 0, by simp, by rw [Nat.sub_self]; exact Own.nil _ _ _⟩
  obtain ⟨hck, hg4, bv, rfl, hown⟩ := hI
  refine AWP.stepR [5, 6, 18, 19, 20] fun K hK => ?_
  simp only [go_sem, Nat.reduceEqDiff, Nat.reduceLT, Nat.reduceAdd, Nat.reduceMul, Nat.reduceSub, Nat.add_zero, Nat.zero_add, Int.reduceEq, Int.reduceLT]
  refine hK _ _ _ (by simp only [go_sem, Nat.reduceEqDiff, Nat.reduceLT, Nat.reduceAdd, Nat.reduceMul, Nat.reduceSub, Nat.add_zero, Nat.zero_add, Int.reduceEq, Int.reduceLT]; rfl) ?_; clear hK
  refine AWP.condS rfl (fun h20 => ?_) fun h20 => ?_
  · have hlt : k - c < k := by simpa using h20
    refine AWP.skip ?_
    refine AWP.seq ?_
    refine AWP.block ?_ -- b1
    refine AWP.stepR [5, 6, 7, 18, 19] fun K hK => ?_
    simp only [go_sem, Nat.reduceEqDiff, Nat.reduceLT, Nat.reduceAdd, Nat.reduceMul, Nat.reduceSub, Nat.add_zero, Nat.zero_add, Int.reduceEq, Int.reduceLT]
    refine hK _ _ _ (by simp only [go_sem, Nat.reduceEqDiff, Nat.reduceLT, Nat.reduceAdd, Nat.reduceMul, Nat.reduceSub, Nat.add_zero, Nat.zero_add, Int.reduceEq, Int.reduceLT]; rfl) ?_; clear hK
    have hi0 : (((k - c : Nat) : Int) < 0) = False := by simp
    have hd : 0 ≤ n / 2 ^ (k - c) ∧ n / 2 ^ (k - c) < 18446744073709551616 := by
      have hp2 : (0 : Int) < 2 ^ (k - c) := by exact_mod_cast Nat.pow_pos (n := k - c) (show 0 < 2 by decide)
      have h1 := Int.ediv_nonneg hn.1 (Int.le_of_lt hp2)
      have h2 := Int.ediv_le_self (2 ^ (k - c)) hn.1
      omega
    obtain ⟨hgx, hhx⟩ := mk_put ((Grew.refl M4).bump 1) (Nat.le_refl _) (Nat.lt_succ_self _ : M4.next < (M4.bump 1).next) ⟨[.bool (bitF n (k - c))], 4, true⟩
    have hX1 : (M4.bump 1).put M4.next ⟨[.bool (n / 2 ^ (k - c) % 2 == 1)], 4, true⟩ = (M4.bump 1).put M4.next ⟨[.bool (bitF n (k - c))], 4, true⟩ := rfl
    generalize (M4.bump 1).put M4.next ⟨[.bool (bitF n (k - c))], 4, true⟩ = X1 at hgx hhx hX1
    obtain ⟨v2, X2, happ, ho2, hg5, _, _⟩ := Own.append ap_79_79 (hg4.trans hgx) (hown.grew hgx) (by simp [bitsF]) (hhx.content 1 1 1 rfl) rfl (by omega)
    refine AWP.lastR fun K hK => ?_
    simp only [go_sem, Nat.reduceEqDiff, Nat.reduceLT, Nat.reduceAdd, Nat.reduceMul, Nat.reduceSub, Nat.add_zero, Nat.zero_add, Int.reduceEq, Int.reduceLT, hi0, fdiv_pow n (k - c) hn.1 (by omega)]
    change onO (appendE Try.prog ((M4.bump 1).put M4.next ⟨[.bool (IntKind.u64.wrap ((BitVec.ofInt 64 (n / 2 ^ (k - c)) &&& BitVec.ofInt 64 1).toNat : Int) == 1)], 4, true⟩) 79 79 bv (.slice (some ⟨M4.next, 0, none⟩) 1 1)) _
    rw [and_one (n / 2 ^ (k - c)) hd.1 hd.2, u64w (n := n / 2 ^ (k - c) % 2) (by omega) (by omega), hX1, happ]
    simp only [go_sem, Nat.reduceEqDiff, Nat.reduceLT, Nat.reduceAdd, Nat.reduceMul, Nat.reduceSub, Nat.add_zero, Nat.zero_add, Int.reduceEq, Int.reduceLT]
    refine hK _ _ ?_; clear hK
    refine AWP.lastR fun K hK => ?_
    simp only [go_sem, Nat.reduceEqDiff, Nat.reduceLT, Nat.reduceAdd, Nat.reduceMul, Nat.reduceSub, Nat.add_zero, Nat.zero_add, Int.reduceEq, Int.reduceLT]
    refine hK _ _ ?_; clear hK
    refine ⟨c - 1, by omega, by omega, hg5, v2, ?_, ?_⟩ -- ROUND
    · simp only [go_sem, Nat.reduceEqDiff, Nat.reduceLT, Nat.reduceAdd, Nat.reduceMul, Nat.reduceSub, Nat.add_zero, Nat.zero_add, Int.reduceEq, Int.reduceLT]
      rw [i64w (by omega) (by omega), show ((k - c : Nat) : Int) + 1 = ((k - (c - 1) : Nat) : Int) by omega]
    · rw [show k - (c - 1) = k - c + 1 by omega, bitsF, List.range_succ, List.map_append, List.map_append]
      exact ho2
  · refine AWP.exit (Then.exit (Then.exit (InBlock.same ?_)))
    have hc0 : c = 0 := by simp at h20; omega
    subst hc0
    have hown : Own M3 M4 bv k ((bitsF n k).map .bool) 4 := hown
    refine AWP.stepR [4] fun K hK => ?_
    simp only [go_sem, Nat.reduceEqDiff, Nat.reduceLT, Nat.reduceAdd, Nat.reduceMul, Nat.reduceSub, Nat.add_zero, Nat.zero_add, Int.reduceEq, Int.reduceLT]
    refine hK _ _ _ (by simp only [go_sem, Nat.reduceEqDiff, Nat.reduceLT, Nat.reduceAdd, Nat.reduceMul, Nat.reduceSub, Nat.add_zero, Nat.zero_add, Int.reduceEq, Int.reduceLT]; rfl) ?_; clear hK
    refine AWP.ret (?_)
    refine Fin.keep (.inr rfl) rfl ⟨(hg1.x p).trans (hg3.trans (hg4.x p)), hown.base (Nat.le_trans hg1.next hg3.next), ?_⟩
    exact (h3.grow hg4).add (r := ⟨bv, k, _, 4⟩) hown h3.next (fun i b hi => hown.apart (.inl (h3.fx i b hi).1.2)) fun a ha => own_sep hown (h3.rows a ha) (Nat.le_refl _)
end
end Go.Proofs.Ythheaehpnleiaaa.AX

/- reply.reader's texts. -/
namespace Go.Proofs.Ythheaehpnleiaaa.AX
open Go Go.Proofs
set_option maxRecDepth 100000
set_option linter.unusedVariables false
set_option linter.unusedSimpArgs false

theorem intsOf_map (l : List Int) : intsOf (cB l) = some l := by
  induction l with
  | nil => rfl
  | cons a l ih => rw [cB, List.map_cons, intsOf]; rw [cB] at ih; rw [ih]
/-- bytes as a string, where they lie -/
theorem str_own {M0 M : Mem} {v : Value} {l : List Int} (h : OwnB M0 M v l 5) : strV Try.prog M.get 23 9 v = some (.string (strOf l)) := by
  have u23 : Try.prog.underlying 23 = some (.slice 5) := by kernel_rfl
  have u9 : Try.prog.underlying 9 = some .string := by kernel_rfl
  have u5 : Try.prog.underlying 5 = some (.int .u8) := by kernel_rfl
  rcases h with ⟨rfl, h2, _⟩ | ⟨id, c, blk, h0, h1, rfl, h3, h4, h5, h6⟩
  · have hl : l = [] := List.eq_nil_of_length_eq_zero h2
    subst hl
    simp only [strV, u23, u9, u5]
  · simp only [strV, u23, u9, u5, h3]
    rcases h6 with ⟨h6, _⟩ | h6
    · have hl : l = [] := List.eq_nil_of_length_eq_zero h6
      subst hl
      rw [if_pos (by simp)]
      simp only [List.length_nil, List.take_zero, intsOf]
    · rw [if_pos (by rw [h6, cB_length]; omega), h6, List.drop_zero, List.take_of_length_le (by rw [cB_length]; exact Nat.le_refl _), intsOf_map]
section
variable {N : Nat} {M M1 : Mem} {p : Nat} {D : Nat → Prop} {s s' : Rs} {fx : Mm} {R R' : Rw → Prop}
/-- a call begins with nothing held but the reader -/
theorem Lo.start (h : Lo N M p D s fx R) : Lo M.next M p D s (fun _ => none) (fun _ => False) :=
  ⟨h.ok, Nat.le_refl _, h.rd.lt, h.rd, fun j hj => h.hD j (Nat.le_trans h.next hj), fun i b hi => (by cases hi), fun r hr => hr.elim, fun a b ha => ha.elim⟩
/-- what is held comes through a call that keeps all but the reader -/
theorem Lo.over (h : Lo N M p D s fx R) {s1 : Rs} (hg : GrewX p M M1) (hs : RdS M1 p D s1) {v : Value} {n : Nat} {cells : List Value} {e : TypeId} (ho : Own M M1 v n cells e) : Lo N M1 p D s1 fx (fun x => x = ⟨v, n, cells, e⟩ ∨ R x) :=
  (h.rdr hg hs).add (r := ⟨v, n, cells, e⟩) ho h.next (fun i b hi => ho.apart (.inl (h.fx i b hi).1.2)) fun a ha => own_sep ho (h.rows a ha) (Nat.le_refl _)
theorem Lo.texts (h : Lo N M p D s fx R) (hl : s.b.length ≤ 1000000) (hb : BytB s.b) :
    ∃ r M' l, ACall Try.prog 53 #[rdP p] M r M' ∧ GrewX p M M' ∧ Lo N M' p D (loopP textS (countS s).2.toNat (countS s).1).1 fx (fun x => x = ⟨r, l.length, l.map .string, 9⟩ ∨ R x) ∧ ((loopP textS (countS s).2.toNat (countS s).1).1.code = 0 → l = (loopP textS (countS s).2.toNat (countS s).1).2.map strOf) := by
  suffices hmain : ∃ r M', ACall Try.prog 53 #[rdP p] M r M' ∧ GrewX p M M' ∧ ∃ l : List ByteArray, RdS M' p D (loopP textS (countS s).2.toNat (countS s).1).1 ∧ Own M M' r l.length (l.map .string) 9 ∧ ((loopP textS (countS s).2.toNat (countS s).1).1.code = 0 → l = (loopP textS (countS s).2.toNat (countS s).1).2.map strOf) by
    obtain ⟨r, M', hc, hg, l, hs, ho, he⟩ := hmain
    exact ⟨r, M', l, hc, hg, h.over hg hs ho, he⟩
  refine ACall.fin (args := [rdP p]) (k := 20) (rs := [.tmp 2]) Try.func53 rfl rfl rfl (Nat.le_of_ble_eq_true rfl) ?_
  refine AWP.stepR [1] fun K hK => ?_
  simp only [go_sem, Nat.reduceEqDiff, Nat.reduceLT, Nat.reduceAdd, Nat.reduceMul, Nat.reduceSub, Nat.add_zero, Nat.zero_add, Int.reduceEq, Int.reduceLT, rdP]
  refine hK _ _ _ (by simp only [go_sem, Nat.reduceEqDiff, Nat.reduceLT, Nat.reduceAdd, Nat.reduceMul, Nat.reduceSub, Nat.add_zero, Nat.zero_add, Int.reduceEq, Int.reduceLT]; rfl) ?_; clear hK
  have hlt1 : M.next < (M.bump 1).next := Nat.lt_succ_self _
  obtain ⟨hg1, hh1⟩ := mk_put ((Grew.refl M).bump 1) (Nat.le_refl _) hlt1 ⟨[.pointer (some ⟨p, 0, none⟩)], 77, true⟩
  change AWP _ _ _ ⟨_, (M.bump 1).put M.next ⟨[.pointer (some ⟨p, 0, none⟩)], 77, true⟩⟩ _
  generalize hM1 : (M.bump 1).put M.next ⟨[.pointer (some ⟨p, 0, none⟩)], 77, true⟩ = M1 at hg1 hh1
  have hp : M.next ≠ p := by have := h.pN; have := h.next; omega
  have h0 := (h.grow hg1).start
  obtain ⟨r2, M2, hc2, hg2, h2, rfl⟩ := h0.count hl hb
  have hbc := countS_bytes hb
  have hlc := countS_len s
  have hnc := countS_b hb
  have hh2 := hh1.x hg2 hp
  refine AWP.stepR [1, 3] fun K hK => ?_
  simp only [go_sem, Nat.reduceEqDiff, Nat.reduceLT, Nat.reduceAdd, Nat.reduceMul, Nat.reduceSub, Nat.add_zero, Nat.zero_add, Int.reduceEq, Int.reduceLT]
  refine hK _ _ _ (by simp only [go_sem, Nat.reduceEqDiff, Nat.reduceLT, Nat.reduceAdd, Nat.reduceMul, Nat.reduceSub, Nat.add_zero, Nat.zero_add, Int.reduceEq, Int.reduceLT]; rfl) ?_; clear hK
  refine AWP.seq ?_
  refine AWP.stepR [1, 3, 5, 6] fun K hK => ?_
  simp only [go_sem, Nat.reduceEqDiff, Nat.reduceLT, Nat.reduceAdd, Nat.reduceMul, Nat.reduceSub, Nat.add_zero, Nat.zero_add, Int.reduceEq, Int.reduceLT, ld_77, hh1.lda (show ([.pointer (some ⟨p, 0, none⟩)] : List Value).length = 1 from rfl), rdP]
  refine ⟨_, _, hc2, ?_⟩
  refine hK _ _ _ (by simp only [go_sem, Nat.reduceEqDiff, Nat.reduceLT, Nat.reduceAdd, Nat.reduceMul, Nat.reduceSub, Nat.add_zero, Nat.zero_add, Int.reduceEq, Int.reduceLT]; rfl) ?_; clear hK
  generalize countS s = cs at h2 hbc hlc hnc
  obtain ⟨s0, cn⟩ := cs
  simp only at h2 hbc hlc hnc
  obtain ⟨cnt, rfl⟩ : ∃ c : Nat, cn = c := ⟨cn.toNat, by omega⟩
  simp only [Int.toNat_natCast]
  refine AWP.block ?_ -- b0
  refine AWP.loopK [1, 3, 5, 6] (fun c e M3 => c ≤ cnt ∧ GrewX p M1 M3 ∧ ∃ s acc bv, acc.length ≤ cnt - c ∧ Lo M1.next M3 p D s (fun _ => none) (fun x => x = ⟨bv, acc.length, (acc.map strOf).map .string, 9⟩) ∧ BytB s.b ∧ s.b.length ≤ 1000000 ∧ loopP textS cnt s0 = ((loopP textS c s).1, acc ++ (loopP textS c s).2) ∧ e = [(1, .pointer (some ⟨M.next, 0, none⟩)), (3, bv), (5, .int .i64 cnt), (6, .int .i64 ((cnt - c : Nat) : Int))]) cnt ?_ fun c e M3 hI => ?_ -- LOOP
  · simp only [go_sem, Nat.reduceEqDiff, Nat.reduceLT, Nat.reduceAdd, Nat.reduceMul, Nat.reduceSub, Nat.add_zero, Nat.zero_add, Int.reduceEq, Int.reduceLT, Nat.le_refl]
    refine ⟨hg2, s0, [], .slice none 0 0, by simp, ?_, hbc, by omega, by simp, by simp⟩
    have h3 := h2.add (Mb := M2) (r := ⟨.slice none 0 0, 0, [], 9⟩) (Own.nil _ _ _) h2.next (fun i b hi => Apart.nil _) (fun a ha => Sep.nil _)
    exact h3.less (fun i b hi => hi) fun r hr => .inl hr
  obtain ⟨hcc, hgX, s, acc, bv, hla, hL, hbs, hls, hlp, rfl⟩ := hI
  have hpN := hL.pN
  have hh3 := hh1.x hgX hp
  refine AWP.stepR [1, 3, 5, 6, 7] fun K hK => ?_
  simp only [go_sem, Nat.reduceEqDiff, Nat.reduceLT, Nat.reduceAdd, Nat.reduceMul, Nat.reduceSub, Nat.add_zero, Nat.zero_add, Int.reduceEq, Int.reduceLT]
  refine hK _ _ _ (by simp only [go_sem, Nat.reduceEqDiff, Nat.reduceLT, Nat.reduceAdd, Nat.reduceMul, Nat.reduceSub, Nat.add_zero, Nat.zero_add, Int.reduceEq, Int.reduceLT]; rfl) ?_; clear hK
  refine AWP.condS rfl (fun h7 => ?_) fun h7 => ?_
  · have hc0 : 0 < c := by have : ((cnt - c : Nat) : Int) < cnt := of_decide_eq_true h7; omega
    obtain ⟨r9, M9, hc9, hr9, hM9⟩ := code55_spec p D s M3 hL.ok hL.rd
    rw [hr9, hM9] at hc9
    refine AWP.skip ?_
    refine AWP.seq ?_
    refine AWP.block ?_ -- b1
    refine AWP.seq ?_
    refine AWP.stepR [1, 3, 5, 6, 11] fun K hK => ?_
    simp only [go_sem, Nat.reduceEqDiff, Nat.reduceLT, Nat.reduceAdd, Nat.reduceMul, Nat.reduceSub, Nat.add_zero, Nat.zero_add, Int.reduceEq, Int.reduceLT, ld_74, hh3.ld]
    refine ⟨_, _, hc9, ?_⟩
    refine hK _ _ _ (by simp only [go_sem, Nat.reduceEqDiff, Nat.reduceLT, Nat.reduceAdd, Nat.reduceMul, Nat.reduceSub, Nat.add_zero, Nat.zero_add, Int.reduceEq, Int.reduceLT]; rfl) ?_; clear hK
    refine AWP.cond_split rfl (fun h11 => ?_) fun h11 => ?_
    · have hcode : s.code ≠ 0 := by simpa using h11
      rw [loopP_stop textS (.inr hcode)] at hlp
      refine AWP.stepR [2] fun K hK => ?_
      simp only [go_sem, Nat.reduceEqDiff, Nat.reduceLT, Nat.reduceAdd, Nat.reduceMul, Nat.reduceSub, Nat.add_zero, Nat.zero_add, Int.reduceEq, Int.reduceLT]
      refine hK _ _ _ (by simp only [go_sem, Nat.reduceEqDiff, Nat.reduceLT, Nat.reduceAdd, Nat.reduceMul, Nat.reduceSub, Nat.add_zero, Nat.zero_add, Int.reduceEq, Int.reduceLT]; rfl) ?_; clear hK
      refine AWP.ret (Then.ret (InBlock.ret (Then.ret (Then.ret (InBlock.ret (Then.ret (?_)))))))
      refine Fin.keep (.inr rfl) rfl ⟨(hg1.x p).trans hgX, [], ?_, Own.nil _ _ _, ?_⟩
      · rw [hlp]; exact hL.rd
      · rw [hlp]; exact fun h => absurd h hcode
    · have hcode : s.code = 0 := by simpa using h11
      obtain ⟨rb, Mk, hck, hgk, hok', hLk⟩ := (hL.grow ((Grew.refl M3).bump 1)).long hls hbs
      obtain ⟨hltk, hLx⟩ := hL.box hgk hLk (fun r hr => hr.elim (fun h => .inr (h ▸ hok'.apart (.inl (by rw [Mem.next_bump]; omega)))) .inl) ⟨[.string (strOf (textS s).2)], 9, true⟩
      have hN := hL.next
      have hgXk : GrewX p M1 Mk := hgX.trans ((((Grew.refl M3).bump 1).x p).trans hgk)
      have hgXx : GrewX p M1 (Mk.put M3.next ⟨[.string (strOf (textS s).2)], 9, true⟩) := ⟨fun i hi hip => by rw [Mem.get_put, if_neg (by omega)]; exact hgXk.keep i hi hip, hgXk.next, fun _ => hLx.ok⟩
      have hsx := str_own hok'
      generalize hX : Mk.put M3.next ⟨[.string (strOf (textS s).2)], 9, true⟩ = X at hLx hgXx
      have hx := (hLx.fx M3.next _ updM_eq).1
      obtain ⟨v2, X3, happ, hnx3, hkeep, _, hL3⟩ := hLx.append ap_24_24 (v := bv) (n := acc.length) (cells := (acc.map strOf).map .string) (.inr rfl) (by simp) (hx.content 1 1 1 rfl) rfl (by omega)
      have hgX3 : GrewX p M1 X3 := ⟨fun i hi hip => (hkeep i (by omega)).trans (hgXx.keep i hi hip), Nat.le_trans hgXx.next hnx3, fun _ => hL3.ok⟩
      refine AWP.skip ?_
      refine AWP.lastR fun K hK => ?_
      simp only [go_sem, Nat.reduceEqDiff, Nat.reduceLT, Nat.reduceAdd, Nat.reduceMul, Nat.reduceSub, Nat.add_zero, Nat.zero_add, Int.reduceEq, Int.reduceLT, ld_77, hh3.lda (show ([.pointer (some ⟨p, 0, none⟩)] : List Value).length = 1 from rfl)]
      refine ⟨_, _, hck, ?_⟩
      try simp only [go_sem, Nat.reduceEqDiff, Nat.reduceLT, Nat.reduceAdd, Nat.reduceMul, Nat.reduceSub, Nat.add_zero, Nat.zero_add, Int.reduceEq, Int.reduceLT, hsx, hX, happ]
      refine hK _ _ ?_; clear hK
      refine AWP.lastR fun K hK => ?_
      simp only [go_sem, Nat.reduceEqDiff, Nat.reduceLT, Nat.reduceAdd, Nat.reduceMul, Nat.reduceSub, Nat.add_zero, Nat.zero_add, Int.reduceEq, Int.reduceLT]
      refine hK _ _ ?_; clear hK
      rw [loopP_step textS hc0 hcode] at hlp
      have htb := textS_bytes hbs
      have htl := textS_len s
      refine ⟨c - 1, by omega, by omega, hgX3, (textS s).1, acc ++ [(textS s).2], v2, by simp; omega, hL3.less (fun i b hi => (by cases hi)) (fun r hr => .inl (by rw [hr]; simp)), htb.1, by omega, ?_, ?_⟩ -- ROUND
      · rw [hlp]; simp
      · simp only [go_sem, Nat.reduceEqDiff, Nat.reduceLT, Nat.reduceAdd, Nat.reduceMul, Nat.reduceSub, Nat.add_zero, Nat.zero_add, Int.reduceEq, Int.reduceLT]
        rw [i64w (by omega) (by omega), show ((cnt - c : Nat) : Int) + 1 = ((cnt - (c - 1) : Nat) : Int) by omega]
  · refine AWP.exit (Then.exit (Then.exit (InBlock.same ?_)))
    have hc0 : c = 0 := by have : ¬ ((cnt - c : Nat) : Int) < cnt := of_decide_eq_false h7; omega
    subst hc0
    rw [loopP_stop textS (.inl rfl), List.append_nil] at hlp
    refine AWP.stepR [2] fun K hK => ?_
    simp only [go_sem, Nat.reduceEqDiff, Nat.reduceLT, Nat.reduceAdd, Nat.reduceMul, Nat.reduceSub, Nat.add_zero, Nat.zero_add, Int.reduceEq, Int.reduceLT]
    refine hK _ _ _ (by simp only [go_sem, Nat.reduceEqDiff, Nat.reduceLT, Nat.reduceAdd, Nat.reduceMul, Nat.reduceSub, Nat.add_zero, Nat.zero_add, Int.reduceEq, Int.reduceLT]; rfl) ?_; clear hK
    refine AWP.ret (?_)
    have hrow := hL.rows _ rfl
    refine Fin.keep (.inr rfl) rfl ⟨(hg1.x p).trans hgX, acc.map strOf, ?_, ?_, ?_⟩
    · rw [hlp]; exact hL.rd
    · rw [List.length_map]; exact hrow.base hg1.next
    · rw [hlp]; exact fun _ => rfl
end
end Go.Proofs.Ythheaehpnleiaaa.AX

/- An answer read from bytes, in plain words. -/
namespace Go.Proofs.Ythheaehpnleiaaa.AX
open Go Go.Proofs
set_option maxRecDepth 100000
set_option linter.unusedVariables false
set_option linter.unusedSimpArgs false

def shwS (s : Rs) : Rs × Shw :=
  ((flagsS (numS (numS (textS s).1 6).1 6).1 4).1, ⟨strOf (textS s).2, (numS (textS s).1 6).2, (numS (numS (textS s).1 6).1 6).2, bitF (flagsS (numS (numS (textS s).1 6).1 6).1 4).2 0, bitF (flagsS (numS (numS (textS s).1 6).1 6).1 4).2 1⟩)
def manyS {α : Type} (f : Rs → Rs × α) (s : Rs) : Rs × List α := loopP f (countS s).2.toNat (countS s).1
/-- the seven numbers -/
def sevS (s : Rs) : Nat → Rs
  | 0 => s
  | k + 1 => (numS (sevS s k) 6).1
def sevN (s : Rs) (k : Nat) : Int := (numS (sevS s k) 6).2
def replyS (s : Rs) : Rs × Rep :=
  let f := flagsS s 8
  let m := textS (sevS f.1 7)
  let t := textS m.1
  let n := manyS textS t.1
  let p := manyS textS n.1
  let x := textS p.1
  let h := manyS shwS x.1
  let b := textS h.1
  (b.1, ⟨sevN f.1 0, sevN f.1 1, sevN f.1 2, sevN f.1 3, sevN f.1 4, sevN f.1 5, sevN f.1 6, b.2, m.2, t.2, bitF f.2 0, bitF f.2 1, bitF f.2 2, n.2.map strOf, p.2.map strOf, strOf x.2, h.2⟩)
def zR : Rep := ⟨0, 0, 0, 0, 0, 0, 0, [], [], [], false, false, false, [], [], ⟨#[]⟩, []⟩
/-- the answer that bytes are, and what is wrong with them -/
def getR (b : List Int) : Rep × Int :=
  if (takeS ⟨b, 0⟩ 3).2 = [114, 101, 49] then
    (if (endS (replyS (takeS ⟨b, 0⟩ 3).1).1).code ≠ 0 then (zR, (endS (replyS (takeS ⟨b, 0⟩ 3).1).1).code)
    else if checkF (replyS (takeS ⟨b, 0⟩ 3).1).2 = 0 then ((replyS (takeS ⟨b, 0⟩ 3).1).2, 0) else (zR, checkF (replyS (takeS ⟨b, 0⟩ 3).1).2))
  else (zR, 4)
/-! ### what is wrong stays wrong -/
theorem takeS_bad {s : Rs} (h : s.code ≠ 0) (k : Int) : (takeS s k).1.code ≠ 0 := fun h2 => h (takeS_ok h2).1
theorem numS_bad {s : Rs} (h : s.code ≠ 0) (k : Int) : (numS s k).1.code ≠ 0 := takeS_bad h k
theorem failS_bad {s : Rs} (h : s.code ≠ 0) (c : Int) : (failS s c).code ≠ 0 := by rw [failS, if_neg h]; exact h
theorem flagsS_bad {s : Rs} (h : s.code ≠ 0) (b : Int) : (flagsS s b).1.code ≠ 0 := by
  unfold flagsS
  split
  · exact failS_bad (numS_bad h 1) 4
  · exact numS_bad h 1
theorem capS_bad {a : Rs × Int} (h : a.1.code ≠ 0) : (capS a).code ≠ 0 := by
  unfold capS
  split
  · exact failS_bad h 4
  · exact h
theorem textS_bad {s : Rs} (h : s.code ≠ 0) : (textS s).1.code ≠ 0 := by
  have h2 := capS_bad (numS_bad h 4)
  rw [textS, if_pos h2]; exact h2
theorem countS_bad {s : Rs} (h : s.code ≠ 0) : (countS s).1.code ≠ 0 := by
  unfold countS
  split
  · exact failS_bad (numS_bad h 4) 4
  · exact numS_bad h 4
theorem manyS_bad {α : Type} (f : Rs → Rs × α) {s : Rs} (h : s.code ≠ 0) : (manyS f s).1.code ≠ 0 := by
  rw [manyS, loopP_stop f (.inr (countS_bad h))]; exact countS_bad h
theorem endS_bad {s : Rs} (h : s.code ≠ 0) : (endS s).code ≠ 0 := by
  unfold endS
  split
  · exact failS_bad h 4
  · exact h
/-! ### lengths and bytes -/
theorem shwS_bytes {s : Rs} (h : BytB s.b) : BytB (shwS s).1.b := flagsS_bytes (numS_bytes (numS_bytes (textS_bytes h).1 6) 6) 4
theorem shwS_len (s : Rs) : (shwS s).1.b.length ≤ s.b.length := Nat.le_trans (flagsS_len _ _) (Nat.le_trans (numS_len _ _) (Nat.le_trans (numS_len _ _) (textS_len _).1))
theorem loopP_keep {α : Type} (f : Rs → Rs × α) (P : Rs → Prop) (hf : ∀ s, P s → P (f s).1) : ∀ (n : Nat) (s : Rs), P s → P (loopP f n s).1 := by
  intro n
  induction n with
  | zero => intro s h; exact h
  | succ n ih =>
    intro s h
    rw [loopP]
    split
    · exact ih _ (hf s h)
    · exact h
theorem manyS_keep {α : Type} (f : Rs → Rs × α) {L : Nat} (hf : ∀ s : Rs, BytB s.b ∧ s.b.length ≤ L → BytB (f s).1.b ∧ (f s).1.b.length ≤ L) {s : Rs} (h : BytB s.b ∧ s.b.length ≤ L) : BytB (manyS f s).1.b ∧ (manyS f s).1.b.length ≤ L :=
  loopP_keep f (fun s => BytB s.b ∧ s.b.length ≤ L) hf _ _ ⟨countS_bytes h.1, Nat.le_trans (countS_len s) h.2⟩
theorem text_keep {L : Nat} (s : Rs) (h : BytB s.b ∧ s.b.length ≤ L) : BytB (textS s).1.b ∧ (textS s).1.b.length ≤ L := ⟨(textS_bytes h.1).1, Nat.le_trans (textS_len s).1 h.2⟩
theorem shw_keep {L : Nat} (s : Rs) (h : BytB s.b ∧ s.b.length ≤ L) : BytB (shwS s).1.b ∧ (shwS s).1.b.length ≤ L := ⟨shwS_bytes h.1, Nat.le_trans (shwS_len s) h.2⟩
theorem num_keep {L : Nat} (k : Int) (s : Rs) (h : BytB s.b ∧ s.b.length ≤ L) : BytB (numS s k).1.b ∧ (numS s k).1.b.length ≤ L := ⟨numS_bytes h.1 k, Nat.le_trans (numS_len s k) h.2⟩
end Go.Proofs.Ythheaehpnleiaaa.AX

/- What reply.Get holds. -/
namespace Go.Proofs.Ythheaehpnleiaaa.AX
open Go Go.Proofs
set_option maxRecDepth 100000
set_option linter.unusedVariables false
set_option linter.unusedSimpArgs false

/-- ways through a block that come to the same, but for a value and the memory -/
theorem AWP.seqE {P : Program} {k : Nat} {α : Type} {a d : Code} {s : St} {Q : Exit → St → Prop} (live : List Nat) (e' : α → Env) (J : α → Mem → Prop)
    (h : AWP P k a s (Then (fun s' => ∃ v, s'.env.keep live = e' v ∧ J v s'.mem) Q)) (hr : ∀ v M', J v M' → AWP P k d ⟨e' v, M'⟩ Q) : AWP P k a s (Then (fun s' => AWP P k d s' Q) Q) := by
  have key : ∀ e s', Then (fun s' => ∃ v, s'.env.keep live = e' v ∧ J v s'.mem) Q e s' → Then (fun s' => AWP P k d s' Q) Q e s' := by
    intro e s' hq
    cases e with
    | normal =>
      obtain ⟨v, h1, h2⟩ := hq
      refine AWP.keep live ?_
      rw [h1]; exact hr _ _ h2
    | _ => exact hq
  exact h.mono key
def zRC : List Value := repC zR (.slice none 0 0) (.slice none 0 0) (.slice none 0 0) (.slice none 0 0) (.slice none 0 0) (.slice none 0 0)
def fx3 (c2 c4 c5 p : Nat) (cells : List Value) : Mm := updM (updM (updM (fun _ => none) c2 ⟨zRC, 29, true⟩) c4 ⟨[.pointer (some ⟨p, 0, none⟩)], 77, true⟩) c5 ⟨cells, 29, true⟩
section
variable {N : Nat} {M : Mem} {p : Nat} {D : Nat → Prop} {s : Rs} {R : Rw → Prop} {c2 c4 c5 : Nat} {cells : List Value}
theorem fx3_5 : fx3 c2 c4 c5 p cells c5 = some ⟨cells, 29, true⟩ := by rw [fx3, updM_eq]
theorem fx3_4 (h : c4 ≠ c5) : fx3 c2 c4 c5 p cells c4 = some ⟨[.pointer (some ⟨p, 0, none⟩)], 77, true⟩ := by rw [fx3, updM_ne h, updM_eq]
theorem fx3_2 (h : c2 ≠ c5) (h' : c2 ≠ c4) : fx3 c2 c4 c5 p cells c2 = some ⟨zRC, 29, true⟩ := by rw [fx3, updM_ne h, updM_ne h', updM_eq]
theorem Lo.setC (h : Lo N M p D s (fx3 c2 c4 c5 p cells) R) (cells' : List Value) : Lo N (M.put c5 ⟨cells', 29, true⟩) p D s (fx3 c2 c4 c5 p cells') R :=
  (h.set fx3_5 ⟨cells', 29, true⟩).less (fun i b hi => by
    rw [fx3] at hi
    rw [fx3]
    unfold updM at hi ⊢
    split at hi
    · rename_i h1; rw [if_pos h1]; exact hi
    · rename_i h1; rw [if_neg h1, if_neg h1]; exact hi) fun r hr => hr
theorem Lo.has5 (h : Lo N M p D s (fx3 c2 c4 c5 p cells) R) : Has M c5 ⟨cells, 29, true⟩ := (h.fx c5 _ fx3_5).1
theorem Lo.has4 (h : Lo N M p D s (fx3 c2 c4 c5 p cells) R) (h4 : c4 ≠ c5) : Has M c4 ⟨[.pointer (some ⟨p, 0, none⟩)], 77, true⟩ := (h.fx c4 _ (fx3_4 h4)).1
theorem Lo.has2 (h : Lo N M p D s (fx3 c2 c4 c5 p cells) R) (h5 : c2 ≠ c5) (h4 : c2 ≠ c4) : Has M c2 ⟨zRC, 29, true⟩ := (h.fx c2 _ (fx3_2 h5 h4)).1
end
theorem bd_77 (p : Nat) : buildV Try.prog 77 [(0, .pointer (some ⟨p, 0, none⟩))] = some (.agg #[.pointer (some ⟨p, 0, none⟩)]) := by rfl
theorem bd_29z : buildV Try.prog 29 [] = some (.agg zRC.toArray) := by kernel_rfl
/-- bytes that are a word, by the program -/
theorem strOf_inj {l m : List Int} (hl : BytB l) (hm : BytB m) (h : strOf l = strOf m) : l = m := by
  have h1 : (l.map fun n => UInt8.ofNat n.toNat) = m.map fun n => UInt8.ofNat n.toNat := by
    have := congrArg (fun b : ByteArray => b.data.toList) h
    simpa [strOf] using this
  have h2 : ∀ l : List Int, BytB l → (l.map fun n => UInt8.ofNat n.toNat).map (fun u => (u.toNat : Int)) = l := fun l hb => by
    rw [List.map_map]
    refine (List.map_congr_left (g := id) fun x hx => ?_).trans (List.map_id _)
    have := hb x hx
    simp only [Function.comp, UInt8.toNat_ofNat', id]
    omega
  rw [← h2 l hl, ← h2 m hm, h1]
end Go.Proofs.Ythheaehpnleiaaa.AX

/- What is read costs bytes. -/
namespace Go.Proofs.Ythheaehpnleiaaa.AX
open Go Go.Proofs
set_option maxRecDepth 100000
set_option linter.unusedVariables false
set_option linter.unusedSimpArgs false

theorem numS_cost {s : Rs} {k : Int} (h : (numS s k).1.code = 0) : (numS s k).1.b.length + k.toNat = s.b.length := by
  obtain ⟨h1, h2, h3, h4, h5⟩ := takeS_ok (s := s) (k := k) h
  have := congrArg List.length h4
  rw [List.length_drop] at this
  change (numS s k).1.b.length = _ at this
  omega
theorem textS_cost {s : Rs} (h : (textS s).1.code = 0) : (textS s).1.b.length + 4 ≤ s.b.length := by
  have h4 : (numS s 4).1.code = 0 := Classical.byContradiction fun hn => by
    have h2 := capS_bad hn
    rw [textS, if_pos h2] at h
    exact h2 h
  have hc := numS_cost h4
  have hl : (textS s).1.b.length ≤ (numS s 4).1.b.length := by
    unfold textS
    split
    · rw [capS_b]; exact Nat.le_refl _
    · have := (takeS_len (capS (numS s 4)) (numS s 4).2).1
      rw [capS_b] at this
      exact this
  have : (4 : Int).toNat = 4 := rfl
  omega
theorem shwS_cost {s : Rs} (h : (shwS s).1.code = 0) : (shwS s).1.b.length + 4 ≤ s.b.length := by
  have h1 : (textS s).1.code = 0 := Classical.byContradiction fun hn => flagsS_bad (numS_bad (numS_bad hn 6) 6) 4 h
  have h2 := textS_cost h1
  have h3 := flagsS_len (numS (numS (textS s).1 6).1 6).1 4
  have h4 := numS_len (numS (textS s).1 6).1 6
  have h5 := numS_len (textS s).1 6
  change (shwS s).1.b.length ≤ _ at h3
  omega
theorem loopP_cost {α : Type} (f : Rs → Rs × α) (hf : ∀ s, (f s).1.code = 0 → (f s).1.b.length + 4 ≤ s.b.length) : ∀ (c : Nat) (s : Rs), (loopP f c s).1.code = 0 → 4 * (loopP f c s).2.length + (loopP f c s).1.b.length ≤ s.b.length := by
  intro c
  induction c with
  | zero => intro s _; simp [loopP]
  | succ c ih =>
    intro s h
    by_cases h0 : s.code = 0
    · rw [loopP, if_pos h0] at h ⊢
      simp only at h ⊢
      have h1 := ih _ h
      have h2 := hf s (loopP_code f h)
      rw [List.length_cons]; omega
    · rw [loopP, if_neg h0] at h ⊢
      simp
theorem manyS_cost {α : Type} (f : Rs → Rs × α) (hf : ∀ s, (f s).1.code = 0 → (f s).1.b.length + 4 ≤ s.b.length) {s : Rs} (h : (manyS f s).1.code = 0) : 4 * (manyS f s).2.length ≤ s.b.length := by
  have h1 := loopP_cost f hf _ _ h
  have h2 := countS_len s
  change 4 * (manyS f s).2.length + _ ≤ _ at h1
  omega
end Go.Proofs.Ythheaehpnleiaaa.AX
