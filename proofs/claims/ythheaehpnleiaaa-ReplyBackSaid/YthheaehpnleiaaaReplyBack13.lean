/- reply.Get: the walk. -/
import Derived.Test.YthheaehpnleiaaaReplyBack12
import Derived.Test.YthheaehpnleiaaaReplyBack11
import Derived.Laws.Strings
namespace Go.Proofs.Ythheaehpnleiaaa.AX
open Go Go.Proofs
set_option maxRecDepth 4000
set_option linter.unusedVariables false
set_option linter.unusedSimpArgs false

theorem RdS.x {M M1 : Mem} {p j : Nat} {D : Nat → Prop} {s : Rs} (h : RdS M p D s) (hg : GrewX j M M1) (hj : p ≠ j) (hD : D j) : RdS M1 p D s := by
  obtain ⟨vb, g1, g2, g3, g4⟩ := h
  exact ⟨vb, g1.x hg hj, g2.x hg (g4 j hD), g3, g4⟩
/-- where an element of a row of its own stands -/
theorem Own.at1 {Mb M : Mem} {v : Value} {n : Nat} {cells : List Value} {e : TypeId} (h : Own Mb M v n cells e) (hl : cells.length = n) {P : Program} {t : Nat} (ht : elemSz P t = some 1) {i : Nat} (hi : i < n) :
    ∃ b, (∀ k, indexAddrV P t v (.int k i) = some (.pointer (some ⟨b, i, none⟩))) ∧ ∀ Mc M1, Own Mc M1 v n cells e → ldS M1.get b i = cells[i]? := by
  rcases h with ⟨_, h, _⟩ | ⟨id, c, blk, h0, h1, rfl, h3, h4, h5, h6⟩
  · omega
  · refine ⟨id, fun k => ?_, fun Mc M1 h' => ?_⟩
    · rw [ia_eq ht, if_pos ⟨by omega, by omega⟩]; simp
    · rcases h' with ⟨h, _⟩ | ⟨id', c', blk', g0, g1, g2, g3, g4, g5, g6⟩
      · cases h
      · cases g2
        rcases g6 with ⟨g6, _⟩ | g6
        · omega
        · rw [ldS_at g3, g6]
theorem Lo.bytesL {N : Nat} {M : Mem} {p : Nat} {D : Nat → Prop} {s : Rs} {fx : Mm} {R : Rw → Prop} (h : Lo N M p D s fx R) (k : Int) (hl : s.b.length ≤ 1000000) :
    ∃ r M', ACall Try.prog 49 #[.pointer (some ⟨p, 0, none⟩), .int .i64 k] M r M' ∧ GrewX p M M' ∧ OwnB M M' r (takeS s k).2 5 ∧ Lo N M' p D (takeS s k).1 fx (fun x => x = ⟨r, (takeS s k).2.length, cB (takeS s k).2, 5⟩ ∨ R x) := by
  obtain ⟨r, M', hc, hg, hs, ho⟩ := bytes49_spec p D s k M h.ok h.rd (by omega)
  exact ⟨r, M', hc, hg, ho, h.over hg hs ho⟩
theorem re1_neq {l : List Int} (hl : BytB l) : (!((strOf l).toList == (⟨#[114, 101, 49]⟩ : ByteArray).toList)) = decide (l ≠ [114, 101, 49]) := by
  have e : (⟨#[114, 101, 49]⟩ : ByteArray) = strOf [114, 101, 49] := rfl
  rw [e]
  by_cases h : l = [114, 101, 49]
  · subst h; simp
  · have h2 : (strOf l).toList ≠ (strOf [114, 101, 49]).toList := fun h3 => by
      rw [ByteArray.toList_eq, ByteArray.toList_eq] at h3
      refine h (strOf_inj hl (fun x hx => by simp at hx; omega) ?_)
      have : (strOf l).data = (strOf [114, 101, 49]).data := Array.toList_inj.1 h3
      exact congrArg ByteArray.mk this
    rw [decide_eq_true h]; simpa using h2
def RQ (vm vt vn vp vs : Value) (m t : List Int) (n p : List ByteArray) (h : List Shw) (r : Rw) : Prop := r = ⟨vm, m.length, cB m, 5⟩ ∨ r = ⟨vt, t.length, cB t, 5⟩ ∨ r = ⟨vn, n.length, n.map .string, 9⟩ ∨ r = ⟨vp, p.length, p.map .string, 9⟩ ∨ r = ⟨vs, h.length, h.flatMap shwC, 63⟩
theorem bd_63 (n : ByteArray) (a b : Int) : buildV Try.prog 63 [(0, .string n), (1, .int .i64 a), (2, .int .i64 b)] = some (.agg #[.string n, .int .i64 a, .int .i64 b, .bool false, .bool false]) := by rfl
theorem bs1_27 (x : Shw) (ev : Operand → Option Value) (y : Operand) (h : ev y = some (.agg #[.string x.name, .int .i64 x.id, .int .i64 x.size, .bool x.marker, .bool x.latest])) : allocA Try.prog ev (.buildSlice 27 1 #[(0, y)]) = some (⟨[.string x.name, .int .i64 x.id, .int .i64 x.size, .bool x.marker, .bool x.latest], 63, true⟩, fun id => .slice (some ⟨id, 0, none⟩) 1 1) :=
  bs_eq (P := Try.prog) (ps := [(0, .agg #[.string x.name, .int .i64 x.id, .int .i64 x.size, .bool x.marker, .bool x.latest])]) (by simp [evP, h]) (sz := 5) (z := #[.string ⟨#[]⟩, .int .i64 0, .int .i64 0, .bool false, .bool false]) (r := #[.string x.name, .int .i64 x.id, .int .i64 x.size, .bool x.marker, .bool x.latest]) (by kernel_rfl) (by kernel_rfl) (by decide) (by kernel_rfl) (by kernel_rfl) ⟨rfl, rfl, .inr (by simp)⟩
theorem sev_keep {s : Rs} {L : Nat} (h : BytB s.b ∧ s.b.length ≤ L) : ∀ k, BytB (sevS s k).b ∧ (sevS s k).b.length ≤ L := by
  intro k
  induction k with
  | zero => exact h
  | succ k ih => exact num_keep 6 _ ih
theorem get17_spec (v : Value) (b : List Int) (M : Mem) (hok : Ok M) (hv : RowB M v b) (hb : BytB b) (hlb : b.length ≤ 1000000) (hfew : (endS (replyS (takeS ⟨b, 0⟩ 3).1).1).code = 0 → (replyS (takeS ⟨b, 0⟩ 3).1).2.names.length ≤ 1000 ∧ (replyS (takeS ⟨b, 0⟩ 3).1).2.prefixes.length ≤ 1000 ∧ (replyS (takeS ⟨b, 0⟩ 3).1).2.shown.length ≤ 1000) :
    ∃ r M', ACall Try.prog 17 #[v] M r M' ∧ Grew M M' ∧ ∃ q vb vm vt vn vp vs, r = .tuple #[.agg (repC q vb vm vt vn vp vs).toArray, .int .i64 (getR b).2] ∧ RepR M' q vb vm vt vn vp vs ∧ q = (getR b).1 := by
  refine ACall.fin (args := [v]) (k := 122) (rs := [.cell 2 29, .tmp 3]) Try.func17 rfl rfl rfl (Nat.le_of_ble_eq_true rfl) ?_
  refine AWP.stepR [0, 2] fun K hK => ?_
  simp only [go_sem, Nat.reduceEqDiff, Nat.reduceLT, Nat.reduceAdd, Nat.reduceMul, Nat.reduceSub, Nat.add_zero, Nat.zero_add, Int.reduceEq, Int.reduceLT]
  refine hK _ _ _ (by simp only [go_sem, Nat.reduceEqDiff, Nat.reduceLT, Nat.reduceAdd, Nat.reduceMul, Nat.reduceSub, Nat.add_zero, Nat.zero_add, Int.reduceEq, Int.reduceLT]; rfl) ?_; clear hK
  have hlt1 : M.next < (M.bump 1).next := Nat.lt_succ_self _
  obtain ⟨hg1, hh1⟩ := mk_put ((Grew.refl M).bump 1) (Nat.le_refl _) hlt1 ⟨zRC, 29, true⟩
  change AWP _ _ _ ⟨_, (M.bump 1).put M.next ⟨zRC, 29, true⟩⟩ _
  generalize hM1 : (M.bump 1).put M.next ⟨zRC, 29, true⟩ = M1 at hg1 hh1
  have hg1b := (Grew.refl M1).bump 1
  obtain ⟨r3, M3, hc3, hg3, p, rfl, hp3, hs3⟩ := read48_spec v b (M1.bump 1) ((hg1.bump 1).ok hok) (hv.grew (hg1.bump 1)) (by omega)
  have hgk := hg3
  have hp3 : p = M1.next + 2 := by rw [hp3, Mem.next_bump]
  rw [Mem.next_bump] at hs3
  refine AWP.stepR [2, 4] fun K hK => ?_
  simp only [go_sem, Nat.reduceEqDiff, Nat.reduceLT, Nat.reduceAdd, Nat.reduceMul, Nat.reduceSub, Nat.add_zero, Nat.zero_add, Int.reduceEq, Int.reduceLT]
  refine ⟨_, _, hc3, ?_⟩
  try simp only [go_sem, Nat.reduceEqDiff, Nat.reduceLT, Nat.reduceAdd, Nat.reduceMul, Nat.reduceSub, Nat.add_zero, Nat.zero_add, Int.reduceEq, Int.reduceLT, bd_77 p, st_fresh (M := M3) (i := M1.next) (n := 1) (old := [.pointer none]) (vs := [.pointer (some ⟨p, 0, none⟩)]) (e := 77) rfl rfl rfl]
  refine hK _ _ _ (by simp only [go_sem, Nat.reduceEqDiff, Nat.reduceLT, Nat.reduceAdd, Nat.reduceMul, Nat.reduceSub, Nat.add_zero, Nat.zero_add, Int.reduceEq, Int.reduceLT]; rfl) ?_; clear hK
  obtain ⟨M4, hM4, hg4, hh4⟩ := kept M1 M3 hg3 [.pointer none] [.pointer (some ⟨p, 0, none⟩)] 77
  have hn4 : M4.next = M3.next := by rw [← hM4]; rfl
  have hn3 : M1.next < M3.next := by have := hg3.next; rw [Mem.next_bump] at this; omega
  have hgX4 : GrewX M1.next M3 M4 := by rw [← hM4]; exact ((GrewX.refl _ _).put hn3 _).put hn3 _
  rw [hM4]
  have hg04 := hg1.trans hg4
  have hs4 : RdS M4 p (fun j => j ≤ M1.next + 1 + 1 ∨ M3.next ≤ j) ⟨b, 0⟩ := hs3.x hgX4 (by omega) (.inl (by omega))
  have h12 := hh1.2
  have hL4 : Lo M3.next M4 p (fun j => j ≤ M1.next + 1 + 1 ∨ M3.next ≤ j) ⟨b, 0⟩ (updM (updM (fun _ => none) M.next ⟨zRC, 29, true⟩) M1.next ⟨[.pointer (some ⟨p, 0, none⟩)], 77, true⟩) (fun _ => False) := by
    refine ⟨hg04.ok hok, by omega, hs3.lt, hs4, fun j h => .inr h, fun i b' hi => ?_, fun r h => h.elim, fun a b h => h.elim⟩
    unfold updM at hi
    split at hi
    · rename_i hij; cases hi; subst hij
      exact ⟨hh4, by omega, .inl (by omega), fun r h => h.elim⟩
    · split at hi
      · rename_i hij; cases hi; subst hij
        exact ⟨hh1.grew hg4, by omega, .inl (by omega), fun r h => h.elim⟩
      · cases hi
  generalize (fun j => j ≤ M1.next + 1 + 1 ∨ M3.next ≤ j) = D at hL4
  have hMp : M.next ≤ p := by omega
  clear hs4 hs3 hgX4 hg3 hgk hc3 hM4
  -- the word ahead
  obtain ⟨rm, M5, hc5, hg5, ho5, hL5⟩ := hL4.bytesL 3 (by simp only; omega)
  have hb5 := takeS_bytes (s := ⟨b, 0⟩) hb 3
  have hl5 := takeS_len ⟨b, 0⟩ 3
  have hg05 : Grew M M5 := GrewX.grew hg04 hg5 hMp
  have hn5 := hL5.next
  have hh45 := hh4.x hg5 (by omega)
  refine AWP.seq ?_
  refine AWP.stepR [2, 4, 17] fun K hK => ?_
  simp only [go_sem, Nat.reduceEqDiff, Nat.reduceLT, Nat.reduceAdd, Nat.reduceMul, Nat.reduceSub, Nat.add_zero, Nat.zero_add, Int.reduceEq, Int.reduceLT, ld_74, hh4.ld]
  refine ⟨_, _, hc5, ?_⟩
  try simp only [go_sem, Nat.reduceEqDiff, Nat.reduceLT, Nat.reduceAdd, Nat.reduceMul, Nat.reduceSub, Nat.add_zero, Nat.zero_add, Int.reduceEq, Int.reduceLT, str_own ho5, re1_neq hb5.2]
  refine hK _ _ _ (by simp only [go_sem, Nat.reduceEqDiff, Nat.reduceLT, Nat.reduceAdd, Nat.reduceMul, Nat.reduceSub, Nat.add_zero, Nat.zero_add, Int.reduceEq, Int.reduceLT]; rfl) ?_; clear hK
  refine AWP.cond_split rfl (fun h17 => ?_) fun h17 => ?_
  · have hne : (takeS ⟨b, 0⟩ 3).2 ≠ [114, 101, 49] := of_decide_eq_true h17
    have hF : getR b = (zR, 4) := by rw [getR, if_neg hne]
    have hh2 := (hL5.fx M.next _ (by rw [updM_ne (by omega), updM_eq])).1
    have fs : stV M5 M.next 0 17 (.agg zRC.toArray) = some (M5.put M.next ⟨zRC, 29, true⟩) := st_all (n := 17) hh2 rfl rfl rfl rfl
    refine AWP.stepR [2, 3] fun K hK => ?_
    simp only [go_sem, Nat.reduceEqDiff, Nat.reduceLT, Nat.reduceAdd, Nat.reduceMul, Nat.reduceSub, Nat.add_zero, Nat.zero_add, Int.reduceEq, Int.reduceLT, bd_29z, st_29, fs]
    refine hK _ _ _ (by simp only [go_sem, Nat.reduceEqDiff, Nat.reduceLT, Nat.reduceAdd, Nat.reduceMul, Nat.reduceSub, Nat.add_zero, Nat.zero_add, Int.reduceEq, Int.reduceLT]; rfl) ?_; clear hK
    obtain ⟨hgz, hhz⟩ := mk_put hg05 (Nat.le_refl _) hh2.2 ⟨zRC, 29, true⟩
    refine AWP.ret (Then.ret (?_))
    refine Fin.keep (v := .tuple #[.agg zRC.toArray, .int .i64 4]) (.inr rfl) (by simp only [go_sem, Nat.reduceEqDiff, Nat.reduceLT, Nat.reduceAdd, Nat.reduceMul, Nat.reduceSub, Nat.add_zero, Nat.zero_add, Int.reduceEq, Int.reduceLT, retV, resV, ld_29, hhz.lda (show zRC.length = 17 from rfl)] <;> rfl) ⟨hgz, zR, .slice none 0 0, .slice none 0 0, .slice none 0 0, .slice none 0 0, .slice none 0 0, .slice none 0 0, by rw [hF]; rfl, ⟨Row_.nil _, Row_.nil _, Row_.nil _, Row_.nil _, Row_.nil _, Row_.nil _⟩, by rw [hF]⟩
  · have heq : (takeS ⟨b, 0⟩ 3).2 = [114, 101, 49] := by have := of_decide_eq_false h17; exact Classical.not_not.1 this
    have hgetR : getR b = if (endS (replyS (takeS ⟨b, 0⟩ 3).1).1).code ≠ 0 then (zR, (endS (replyS (takeS ⟨b, 0⟩ 3).1).1).code) else if checkF (replyS (takeS ⟨b, 0⟩ 3).1).2 = 0 then ((replyS (takeS ⟨b, 0⟩ 3).1).2, 0) else (zR, checkF (replyS (takeS ⟨b, 0⟩ 3).1).2) := by rw [getR, if_pos heq]
    have hb5 := hb5.1
    have hl5 : (takeS ⟨b, 0⟩ 3).1.b.length ≤ 1000000 := by have := hl5.1; simp only at this; omega
    have hL5 := hL5.less (R' := fun _ => False) (fun i b hi => hi) fun r hr => hr.elim
    generalize (takeS ⟨b, 0⟩ 3).1 = s0 at hL5 hgetR hb5 hl5 hfew
    refine AWP.skip ?_
    -- the answer's block
    obtain ⟨_, hL6⟩ := hL5.box (M1 := M5.bump 1) (GrewX.refl _ _) (hL5.grow ((Grew.refl M5).bump 1)) hL5.none1 ⟨zRC, 29, true⟩
    have hg06 : Grew M ((M5.bump 1).put M5.next ⟨zRC, 29, true⟩) := (hg05.bump 1).put hg05.next (Nat.lt_succ_self _) _
    refine AWP.stepR [2, 4, 5] fun K hK => ?_
    simp only [go_sem, Nat.reduceEqDiff, Nat.reduceLT, Nat.reduceAdd, Nat.reduceMul, Nat.reduceSub, Nat.add_zero, Nat.zero_add, Int.reduceEq, Int.reduceLT]
    refine hK _ _ _ (by simp only [go_sem, Nat.reduceEqDiff, Nat.reduceLT, Nat.reduceAdd, Nat.reduceMul, Nat.reduceSub, Nat.add_zero, Nat.zero_add, Int.reduceEq, Int.reduceLT]; rfl) ?_; clear hK
    change AWP _ _ _ ⟨_, (M5.bump 1).put M5.next ⟨zRC, 29, true⟩⟩ _
    have hL6 : Lo M3.next _ p D s0 (fx3 M.next M1.next M5.next p zRC) (fun _ => False) := hL6
    generalize hc5 : M5.next = c5 at hL6 hn5 hg06 ⊢
    generalize (M5.bump 1).put c5 ⟨zRC, 29, true⟩ = M6 at hL6 hg06 ⊢
    have h24 : M.next ≠ M1.next := by omega
    have h25 : M.next ≠ c5 := by omega
    have h45 : M1.next ≠ c5 := by omega
    -- the flags
    obtain ⟨rf, M7, hc7, hg7, ho7, hL7⟩ := hL6.flags 3 (by omega) (by omega) hb5
    rw [show (2 : Int) ^ 3 = 8 from rfl] at ho7 hL7
    have hbf := flagsS_bytes hb5 8
    have hlf := flagsS_len s0 8
    have hg07 : Grew M M7 := GrewX.grew hg06 hg7 hMp
    refine AWP.stepR [2, 4, 5, 6] fun K hK => ?_
    simp only [go_sem, Nat.reduceEqDiff, Nat.reduceLT, Nat.reduceAdd, Nat.reduceMul, Nat.reduceSub, Nat.add_zero, Nat.zero_add, Int.reduceEq, Int.reduceLT, ld_77, (hL6.has4 h45).lda (show ([.pointer (some ⟨p, 0, none⟩)] : List Value).length = 1 from rfl)]
    refine ⟨_, _, hc7, ?_⟩
    refine hK _ _ _ (by simp only [go_sem, Nat.reduceEqDiff, Nat.reduceLT, Nat.reduceAdd, Nat.reduceMul, Nat.reduceSub, Nat.add_zero, Nat.zero_add, Int.reduceEq, Int.reduceLT]; rfl) ?_; clear hK
    obtain ⟨b0, ha0, hd0⟩ := ho7.at1 (by simp [bitsF]) es_79 (i := 0) (by omega)
    obtain ⟨b1, ha1, hd1⟩ := ho7.at1 (by simp [bitsF]) es_79 (i := 1) (by omega)
    obtain ⟨b2, ha2, hd2⟩ := ho7.at1 (by simp [bitsF]) es_79 (i := 2) (by omega)
    have ha0 : ∀ k, indexAddrV Try.prog 79 rf (.int k 0) = some (.pointer (some ⟨b0, 0, none⟩)) := ha0
    have ha1 : ∀ k, indexAddrV Try.prog 79 rf (.int k 1) = some (.pointer (some ⟨b1, 1, none⟩)) := ha1
    have ha2 : ∀ k, indexAddrV Try.prog 79 rf (.int k 2) = some (.pointer (some ⟨b2, 2, none⟩)) := ha2
    have hLa := hL7.setC (repC ⟨0, 0, 0, 0, 0, 0, 0, [], [], [], bitF (flagsS s0 8).2 0, false, false, [], [], ⟨#[]⟩, []⟩ (.slice none 0 0) (.slice none 0 0) (.slice none 0 0) (.slice none 0 0) (.slice none 0 0) (.slice none 0 0))
    have hLb := hLa.setC (repC ⟨0, 0, 0, 0, 0, 0, 0, [], [], [], bitF (flagsS s0 8).2 0, bitF (flagsS s0 8).2 1, false, [], [], ⟨#[]⟩, []⟩ (.slice none 0 0) (.slice none 0 0) (.slice none 0 0) (.slice none 0 0) (.slice none 0 0) (.slice none 0 0))
    have hLc := hLb.setC (repC ⟨0, 0, 0, 0, 0, 0, 0, [], [], [], bitF (flagsS s0 8).2 0, bitF (flagsS s0 8).2 1, bitF (flagsS s0 8).2 2, [], [], ⟨#[]⟩, []⟩ (.slice none 0 0) (.slice none 0 0) (.slice none 0 0) (.slice none 0 0) (.slice none 0 0) (.slice none 0 0))
    have k0 : ldS M7.get b0 0 = some (.bool (bitF (flagsS s0 8).2 0)) := hd0 _ _ ho7
    have k1 : ldS M7.get b1 1 = some (.bool (bitF (flagsS s0 8).2 1)) := hd1 _ _ ho7
    have k2 : ldS M7.get b2 2 = some (.bool (bitF (flagsS s0 8).2 2)) := hd2 _ _ ho7
    have k1a : ldS (M7.put c5 ⟨(repC ⟨0, 0, 0, 0, 0, 0, 0, [], [], [], bitF (flagsS s0 8).2 0, false, false, [], [], ⟨#[]⟩, []⟩ (.slice none 0 0) (.slice none 0 0) (.slice none 0 0) (.slice none 0 0) (.slice none 0 0) (.slice none 0 0)), 29, true⟩).get b1 1 = some (.bool (bitF (flagsS s0 8).2 1)) := hd1 _ _ (hLa.rows _ (.inl rfl))
    have k2a : ldS (M7.put c5 ⟨(repC ⟨0, 0, 0, 0, 0, 0, 0, [], [], [], bitF (flagsS s0 8).2 0, false, false, [], [], ⟨#[]⟩, []⟩ (.slice none 0 0) (.slice none 0 0) (.slice none 0 0) (.slice none 0 0) (.slice none 0 0) (.slice none 0 0)), 29, true⟩).get b2 2 = some (.bool (bitF (flagsS s0 8).2 2)) := hd2 _ _ (hLa.rows _ (.inl rfl))
    have k2b : ldS ((M7.put c5 ⟨(repC ⟨0, 0, 0, 0, 0, 0, 0, [], [], [], bitF (flagsS s0 8).2 0, false, false, [], [], ⟨#[]⟩, []⟩ (.slice none 0 0) (.slice none 0 0) (.slice none 0 0) (.slice none 0 0) (.slice none 0 0) (.slice none 0 0)), 29, true⟩).put c5 ⟨(repC ⟨0, 0, 0, 0, 0, 0, 0, [], [], [], bitF (flagsS s0 8).2 0, bitF (flagsS s0 8).2 1, false, [], [], ⟨#[]⟩, []⟩ (.slice none 0 0) (.slice none 0 0) (.slice none 0 0) (.slice none 0 0) (.slice none 0 0) (.slice none 0 0)), 29, true⟩).get b2 2 = some (.bool (bitF (flagsS s0 8).2 2)) := hd2 _ _ (hLb.rows _ (.inl rfl))
    have fa : stV M7 c5 8 1 (.bool (bitF (flagsS s0 8).2 0)) = some (M7.put c5 ⟨(repC ⟨0, 0, 0, 0, 0, 0, 0, [], [], [], bitF (flagsS s0 8).2 0, false, false, [], [], ⟨#[]⟩, []⟩ (.slice none 0 0) (.slice none 0 0) (.slice none 0 0) (.slice none 0 0) (.slice none 0 0) (.slice none 0 0)), 29, true⟩) := st_cell (o := 8) hL7.has5 rfl (by decide) rfl
    have fb : stV (M7.put c5 ⟨(repC ⟨0, 0, 0, 0, 0, 0, 0, [], [], [], bitF (flagsS s0 8).2 0, false, false, [], [], ⟨#[]⟩, []⟩ (.slice none 0 0) (.slice none 0 0) (.slice none 0 0) (.slice none 0 0) (.slice none 0 0) (.slice none 0 0)), 29, true⟩) c5 16 1 (.bool (bitF (flagsS s0 8).2 1)) = some ((M7.put c5 ⟨(repC ⟨0, 0, 0, 0, 0, 0, 0, [], [], [], bitF (flagsS s0 8).2 0, false, false, [], [], ⟨#[]⟩, []⟩ (.slice none 0 0) (.slice none 0 0) (.slice none 0 0) (.slice none 0 0) (.slice none 0 0) (.slice none 0 0)), 29, true⟩).put c5 ⟨(repC ⟨0, 0, 0, 0, 0, 0, 0, [], [], [], bitF (flagsS s0 8).2 0, bitF (flagsS s0 8).2 1, false, [], [], ⟨#[]⟩, []⟩ (.slice none 0 0) (.slice none 0 0) (.slice none 0 0) (.slice none 0 0) (.slice none 0 0) (.slice none 0 0)), 29, true⟩) := st_cell (o := 16) hLa.has5 rfl (by rw [repC_len]; decide) rfl
    have fc : stV ((M7.put c5 ⟨(repC ⟨0, 0, 0, 0, 0, 0, 0, [], [], [], bitF (flagsS s0 8).2 0, false, false, [], [], ⟨#[]⟩, []⟩ (.slice none 0 0) (.slice none 0 0) (.slice none 0 0) (.slice none 0 0) (.slice none 0 0) (.slice none 0 0)), 29, true⟩).put c5 ⟨(repC ⟨0, 0, 0, 0, 0, 0, 0, [], [], [], bitF (flagsS s0 8).2 0, bitF (flagsS s0 8).2 1, false, [], [], ⟨#[]⟩, []⟩ (.slice none 0 0) (.slice none 0 0) (.slice none 0 0) (.slice none 0 0) (.slice none 0 0) (.slice none 0 0)), 29, true⟩) c5 12 1 (.bool (bitF (flagsS s0 8).2 2)) = some (((M7.put c5 ⟨(repC ⟨0, 0, 0, 0, 0, 0, 0, [], [], [], bitF (flagsS s0 8).2 0, false, false, [], [], ⟨#[]⟩, []⟩ (.slice none 0 0) (.slice none 0 0) (.slice none 0 0) (.slice none 0 0) (.slice none 0 0) (.slice none 0 0)), 29, true⟩).put c5 ⟨(repC ⟨0, 0, 0, 0, 0, 0, 0, [], [], [], bitF (flagsS s0 8).2 0, bitF (flagsS s0 8).2 1, false, [], [], ⟨#[]⟩, []⟩ (.slice none 0 0) (.slice none 0 0) (.slice none 0 0) (.slice none 0 0) (.slice none 0 0) (.slice none 0 0)), 29, true⟩).put c5 ⟨(repC ⟨0, 0, 0, 0, 0, 0, 0, [], [], [], bitF (flagsS s0 8).2 0, bitF (flagsS s0 8).2 1, bitF (flagsS s0 8).2 2, [], [], ⟨#[]⟩, []⟩ (.slice none 0 0) (.slice none 0 0) (.slice none 0 0) (.slice none 0 0) (.slice none 0 0) (.slice none 0 0)), 29, true⟩) := st_cell (o := 12) hLb.has5 rfl (by rw [repC_len]; decide) rfl
    have hg08 : Grew M (((M7.put c5 ⟨(repC ⟨0, 0, 0, 0, 0, 0, 0, [], [], [], bitF (flagsS s0 8).2 0, false, false, [], [], ⟨#[]⟩, []⟩ (.slice none 0 0) (.slice none 0 0) (.slice none 0 0) (.slice none 0 0) (.slice none 0 0) (.slice none 0 0)), 29, true⟩).put c5 ⟨(repC ⟨0, 0, 0, 0, 0, 0, 0, [], [], [], bitF (flagsS s0 8).2 0, bitF (flagsS s0 8).2 1, false, [], [], ⟨#[]⟩, []⟩ (.slice none 0 0) (.slice none 0 0) (.slice none 0 0) (.slice none 0 0) (.slice none 0 0) (.slice none 0 0)), 29, true⟩).put c5 ⟨(repC ⟨0, 0, 0, 0, 0, 0, 0, [], [], [], bitF (flagsS s0 8).2 0, bitF (flagsS s0 8).2 1, bitF (flagsS s0 8).2 2, [], [], ⟨#[]⟩, []⟩ (.slice none 0 0) (.slice none 0 0) (.slice none 0 0) (.slice none 0 0) (.slice none 0 0) (.slice none 0 0)), 29, true⟩) := by
      have hc := hL7.has5.2
      exact ((hg07.put (by omega) hc _).put (by omega) hc _).put (by omega) hc _
    generalize hMa : M7.put c5 ⟨(repC ⟨0, 0, 0, 0, 0, 0, 0, [], [], [], bitF (flagsS s0 8).2 0, false, false, [], [], ⟨#[]⟩, []⟩ (.slice none 0 0) (.slice none 0 0) (.slice none 0 0) (.slice none 0 0) (.slice none 0 0) (.slice none 0 0)), 29, true⟩ = Ma at fa fb fc k1a k2a k2b hLa hLb hLc hg08
    generalize hMb : Ma.put c5 ⟨(repC ⟨0, 0, 0, 0, 0, 0, 0, [], [], [], bitF (flagsS s0 8).2 0, bitF (flagsS s0 8).2 1, false, [], [], ⟨#[]⟩, []⟩ (.slice none 0 0) (.slice none 0 0) (.slice none 0 0) (.slice none 0 0) (.slice none 0 0) (.slice none 0 0)), 29, true⟩ = Mb at fb fc k2b hLb hLc hg08
    generalize hMc : Mb.put c5 ⟨(repC ⟨0, 0, 0, 0, 0, 0, 0, [], [], [], bitF (flagsS s0 8).2 0, bitF (flagsS s0 8).2 1, bitF (flagsS s0 8).2 2, [], [], ⟨#[]⟩, []⟩ (.slice none 0 0) (.slice none 0 0) (.slice none 0 0) (.slice none 0 0) (.slice none 0 0) (.slice none 0 0)), 29, true⟩ = Mc at fc hLc hg08
    refine AWP.stepD hmo [0, 1, 2, 3, 4, 5, 6, 7, 8, 9, 10, 11, 12, 13, 14, 15] [0, 1, 3, 0, 8, 24, 0, 64, 192, 7, 519, 1599, 3647, 8191, 16383, 32767] [] [(5, 10), (8, 10), (8, 12)] (by kernel_rfl) [2, 4, 5] fun K hK => ?_
    simp only [go_sem, Nat.reduceEqDiff, Nat.reduceLT, Nat.reduceAdd, Nat.reduceMul, Nat.reduceSub, Nat.add_zero, Nat.zero_add, Int.reduceEq, Int.reduceLT, ha0, ha1, ha2, ld_4, k0, k1, k2, st_4, fa, fb, fc, k1a, k2a, k2b]
    refine hK _ _ _ (by simp only [go_sem, Nat.reduceEqDiff, Nat.reduceLT, Nat.reduceAdd, Nat.reduceMul, Nat.reduceSub, Nat.add_zero, Nat.zero_add, Int.reduceEq, Int.reduceLT]; rfl) ?_; clear hK
    have hsev : ∀ k, BytB (sevS (flagsS s0 8).1 k).b ∧ (sevS (flagsS s0 8).1 k).b.length ≤ 1000000 := sev_keep ⟨hbf, by omega⟩
    have hL0 : Lo M3.next Mc p D (sevS (flagsS s0 8).1 0) _ _ := hLc
    have hgA0 := hg08
    clear k0 k1 k2 k1a k2a k2b fa fb fc hLa hLb hLc hMa hMb hMc hd0 hd1 hd2 ha0 ha1 ha2
    generalize hfn : (flagsS s0 8).2 = fn at hL0 ⊢
    generalize hf1 : (flagsS s0 8).1 = f1 at hL0 hsev
    obtain ⟨r0_, N0, hcn0, hgn0, hLn0, rfl⟩ := hL0.number (by have := (hsev 0).2; omega) (hsev 0).1
    have hLn0 : Lo M3.next N0 p D (sevS f1 1) _ _ := hLn0
    have hcn0 : ACall Try.prog 51 #[rdP p] Mc (.int .i64 (sevN f1 0)) N0 := hcn0
    have hgA1 : Grew M N0 := GrewX.grew hgA0 hgn0 hMp
    have hSa0 := hLn0.setC (repC ⟨sevN f1 0, 0, 0, 0, 0, 0, 0, [], [], [], bitF fn 0, bitF fn 1, bitF fn 2, [], [], ⟨#[]⟩, []⟩ (.slice none 0 0) (.slice none 0 0) (.slice none 0 0) (.slice none 0 0) (.slice none 0 0) (.slice none 0 0))
    have fSa0 : stV N0 c5 0 1 (.int .i64 (sevN f1 0)) = some (N0.put c5 ⟨(repC ⟨sevN f1 0, 0, 0, 0, 0, 0, 0, [], [], [], bitF fn 0, bitF fn 1, bitF fn 2, [], [], ⟨#[]⟩, []⟩ (.slice none 0 0) (.slice none 0 0) (.slice none 0 0) (.slice none 0 0) (.slice none 0 0) (.slice none 0 0)), 29, true⟩) := st_cell (o := 0) hLn0.has5 rfl (by rw [repC_len]; decide) rfl
    have gSa0 : Grew M (N0.put c5 ⟨(repC ⟨sevN f1 0, 0, 0, 0, 0, 0, 0, [], [], [], bitF fn 0, bitF fn 1, bitF fn 2, [], [], ⟨#[]⟩, []⟩ (.slice none 0 0) (.slice none 0 0) (.slice none 0 0) (.slice none 0 0) (.slice none 0 0) (.slice none 0 0)), 29, true⟩) := hgA1.put (by omega) hLn0.has5.2 _
    generalize hMSa0 : N0.put c5 ⟨(repC ⟨sevN f1 0, 0, 0, 0, 0, 0, 0, [], [], [], bitF fn 0, bitF fn 1, bitF fn 2, [], [], ⟨#[]⟩, []⟩ (.slice none 0 0) (.slice none 0 0) (.slice none 0 0) (.slice none 0 0) (.slice none 0 0) (.slice none 0 0)), 29, true⟩ = MSa0 at hSa0 fSa0 gSa0
    refine AWP.stepR [2, 4, 5] fun K hK => ?_
    simp only [go_sem, Nat.reduceEqDiff, Nat.reduceLT, Nat.reduceAdd, Nat.reduceMul, Nat.reduceSub, Nat.add_zero, Nat.zero_add, Int.reduceEq, Int.reduceLT, ld_77, (hL0.has4 h45).lda (show ([.pointer (some ⟨p, 0, none⟩)] : List Value).length = 1 from rfl), (hLn0.has4 h45).lda (show ([.pointer (some ⟨p, 0, none⟩)] : List Value).length = 1 from rfl)]
    refine ⟨_, _, hcn0, ?_⟩
    try simp only [go_sem, Nat.reduceEqDiff, Nat.reduceLT, Nat.reduceAdd, Nat.reduceMul, Nat.reduceSub, Nat.add_zero, Nat.zero_add, Int.reduceEq, Int.reduceLT, ld_77, (hL0.has4 h45).lda (show ([.pointer (some ⟨p, 0, none⟩)] : List Value).length = 1 from rfl), (hLn0.has4 h45).lda (show ([.pointer (some ⟨p, 0, none⟩)] : List Value).length = 1 from rfl), st_22, st_3, fSa0]
    refine hK _ _ _ (by simp only [go_sem, Nat.reduceEqDiff, Nat.reduceLT, Nat.reduceAdd, Nat.reduceMul, Nat.reduceSub, Nat.add_zero, Nat.zero_add, Int.reduceEq, Int.reduceLT]; rfl) ?_; clear hK
    obtain ⟨r1_, N1, hcn1, hgn1, hLn1, rfl⟩ := hSa0.number (by have := (hsev 1).2; omega) (hsev 1).1
    have hLn1 : Lo M3.next N1 p D (sevS f1 2) _ _ := hLn1
    have hcn1 : ACall Try.prog 51 #[rdP p] MSa0 (.int .i64 (sevN f1 1)) N1 := hcn1
    have hgA2 : Grew M N1 := GrewX.grew gSa0 hgn1 hMp
    obtain ⟨r2_, N2, hcn2, hgn2, hLn2, rfl⟩ := hLn1.number (by have := (hsev 2).2; omega) (hsev 2).1
    have hLn2 : Lo M3.next N2 p D (sevS f1 3) _ _ := hLn2
    have hcn2 : ACall Try.prog 51 #[rdP p] N1 (.int .i64 (sevN f1 2)) N2 := hcn2
    have hgA3 : Grew M N2 := GrewX.grew hgA2 hgn2 hMp
    obtain ⟨r3_, N3, hcn3, hgn3, hLn3, rfl⟩ := hLn2.number (by have := (hsev 3).2; omega) (hsev 3).1
    have hLn3 : Lo M3.next N3 p D (sevS f1 4) _ _ := hLn3
    have hcn3 : ACall Try.prog 51 #[rdP p] N2 (.int .i64 (sevN f1 3)) N3 := hcn3
    have hgA4 : Grew M N3 := GrewX.grew hgA3 hgn3 hMp
    have hSb0 := hLn3.setC (repC ⟨sevN f1 0, sevN f1 1, 0, 0, 0, 0, 0, [], [], [], bitF fn 0, bitF fn 1, bitF fn 2, [], [], ⟨#[]⟩, []⟩ (.slice none 0 0) (.slice none 0 0) (.slice none 0 0) (.slice none 0 0) (.slice none 0 0) (.slice none 0 0))
    have fSb0 : stV N3 c5 1 1 (.int .i64 (sevN f1 1)) = some (N3.put c5 ⟨(repC ⟨sevN f1 0, sevN f1 1, 0, 0, 0, 0, 0, [], [], [], bitF fn 0, bitF fn 1, bitF fn 2, [], [], ⟨#[]⟩, []⟩ (.slice none 0 0) (.slice none 0 0) (.slice none 0 0) (.slice none 0 0) (.slice none 0 0) (.slice none 0 0)), 29, true⟩) := st_cell (o := 1) hLn3.has5 rfl (by rw [repC_len]; decide) rfl
    have gSb0 : Grew M (N3.put c5 ⟨(repC ⟨sevN f1 0, sevN f1 1, 0, 0, 0, 0, 0, [], [], [], bitF fn 0, bitF fn 1, bitF fn 2, [], [], ⟨#[]⟩, []⟩ (.slice none 0 0) (.slice none 0 0) (.slice none 0 0) (.slice none 0 0) (.slice none 0 0) (.slice none 0 0)), 29, true⟩) := hgA4.put (by omega) hLn3.has5.2 _
    generalize hMSb0 : N3.put c5 ⟨(repC ⟨sevN f1 0, sevN f1 1, 0, 0, 0, 0, 0, [], [], [], bitF fn 0, bitF fn 1, bitF fn 2, [], [], ⟨#[]⟩, []⟩ (.slice none 0 0) (.slice none 0 0) (.slice none 0 0) (.slice none 0 0) (.slice none 0 0) (.slice none 0 0)), 29, true⟩ = MSb0 at hSb0 fSb0 gSb0
    have hSb1 := hSb0.setC (repC ⟨sevN f1 0, sevN f1 1, sevN f1 2, 0, 0, 0, 0, [], [], [], bitF fn 0, bitF fn 1, bitF fn 2, [], [], ⟨#[]⟩, []⟩ (.slice none 0 0) (.slice none 0 0) (.slice none 0 0) (.slice none 0 0) (.slice none 0 0) (.slice none 0 0))
    have fSb1 : stV MSb0 c5 2 1 (.int .i64 (sevN f1 2)) = some (MSb0.put c5 ⟨(repC ⟨sevN f1 0, sevN f1 1, sevN f1 2, 0, 0, 0, 0, [], [], [], bitF fn 0, bitF fn 1, bitF fn 2, [], [], ⟨#[]⟩, []⟩ (.slice none 0 0) (.slice none 0 0) (.slice none 0 0) (.slice none 0 0) (.slice none 0 0) (.slice none 0 0)), 29, true⟩) := st_cell (o := 2) hSb0.has5 rfl (by rw [repC_len]; decide) rfl
    have gSb1 : Grew M (MSb0.put c5 ⟨(repC ⟨sevN f1 0, sevN f1 1, sevN f1 2, 0, 0, 0, 0, [], [], [], bitF fn 0, bitF fn 1, bitF fn 2, [], [], ⟨#[]⟩, []⟩ (.slice none 0 0) (.slice none 0 0) (.slice none 0 0) (.slice none 0 0) (.slice none 0 0) (.slice none 0 0)), 29, true⟩) := gSb0.put (by omega) hSb0.has5.2 _
    generalize hMSb1 : MSb0.put c5 ⟨(repC ⟨sevN f1 0, sevN f1 1, sevN f1 2, 0, 0, 0, 0, [], [], [], bitF fn 0, bitF fn 1, bitF fn 2, [], [], ⟨#[]⟩, []⟩ (.slice none 0 0) (.slice none 0 0) (.slice none 0 0) (.slice none 0 0) (.slice none 0 0) (.slice none 0 0)), 29, true⟩ = MSb1 at hSb1 fSb1 gSb1
    have hSb2 := hSb1.setC (repC ⟨sevN f1 0, sevN f1 1, sevN f1 2, sevN f1 3, 0, 0, 0, [], [], [], bitF fn 0, bitF fn 1, bitF fn 2, [], [], ⟨#[]⟩, []⟩ (.slice none 0 0) (.slice none 0 0) (.slice none 0 0) (.slice none 0 0) (.slice none 0 0) (.slice none 0 0))
    have fSb2 : stV MSb1 c5 3 1 (.int .i64 (sevN f1 3)) = some (MSb1.put c5 ⟨(repC ⟨sevN f1 0, sevN f1 1, sevN f1 2, sevN f1 3, 0, 0, 0, [], [], [], bitF fn 0, bitF fn 1, bitF fn 2, [], [], ⟨#[]⟩, []⟩ (.slice none 0 0) (.slice none 0 0) (.slice none 0 0) (.slice none 0 0) (.slice none 0 0) (.slice none 0 0)), 29, true⟩) := st_cell (o := 3) hSb1.has5 rfl (by rw [repC_len]; decide) rfl
    have gSb2 : Grew M (MSb1.put c5 ⟨(repC ⟨sevN f1 0, sevN f1 1, sevN f1 2, sevN f1 3, 0, 0, 0, [], [], [], bitF fn 0, bitF fn 1, bitF fn 2, [], [], ⟨#[]⟩, []⟩ (.slice none 0 0) (.slice none 0 0) (.slice none 0 0) (.slice none 0 0) (.slice none 0 0) (.slice none 0 0)), 29, true⟩) := gSb1.put (by omega) hSb1.has5.2 _
    generalize hMSb2 : MSb1.put c5 ⟨(repC ⟨sevN f1 0, sevN f1 1, sevN f1 2, sevN f1 3, 0, 0, 0, [], [], [], bitF fn 0, bitF fn 1, bitF fn 2, [], [], ⟨#[]⟩, []⟩ (.slice none 0 0) (.slice none 0 0) (.slice none 0 0) (.slice none 0 0) (.slice none 0 0) (.slice none 0 0)), 29, true⟩ = MSb2 at hSb2 fSb2 gSb2
    refine AWP.stepD hmo [0, 1, 2, 3, 4, 5, 6, 7, 8, 9, 10, 11] [0, 1, 0, 7, 0, 31, 3, 127, 255, 511, 1023, 2047] [] [(2, 1), (4, 1), (4, 3)] (by kernel_rfl) [2, 4, 5] fun K hK => ?_
    simp -implicitDefEqProofs only [go_sem, Nat.reduceEqDiff, Nat.reduceLT, Nat.reduceAdd, Nat.reduceMul, Nat.reduceSub, Nat.add_zero, Nat.zero_add, Int.reduceEq, Int.reduceLT, ld_77, (hSa0.has4 h45).lda (show ([.pointer (some ⟨p, 0, none⟩)] : List Value).length = 1 from rfl), (hLn1.has4 h45).lda (show ([.pointer (some ⟨p, 0, none⟩)] : List Value).length = 1 from rfl), (hLn2.has4 h45).lda (show ([.pointer (some ⟨p, 0, none⟩)] : List Value).length = 1 from rfl), (hLn3.has4 h45).lda (show ([.pointer (some ⟨p, 0, none⟩)] : List Value).length = 1 from rfl)]
    refine ⟨_, _, hcn1, ?_⟩
    try simp -implicitDefEqProofs only [go_sem, Nat.reduceEqDiff, Nat.reduceLT, Nat.reduceAdd, Nat.reduceMul, Nat.reduceSub, Nat.add_zero, Nat.zero_add, Int.reduceEq, Int.reduceLT, ld_77, (hSa0.has4 h45).lda (show ([.pointer (some ⟨p, 0, none⟩)] : List Value).length = 1 from rfl), (hLn1.has4 h45).lda (show ([.pointer (some ⟨p, 0, none⟩)] : List Value).length = 1 from rfl), (hLn2.has4 h45).lda (show ([.pointer (some ⟨p, 0, none⟩)] : List Value).length = 1 from rfl), (hLn3.has4 h45).lda (show ([.pointer (some ⟨p, 0, none⟩)] : List Value).length = 1 from rfl)]
    refine ⟨_, _, hcn2, ?_⟩
    try simp -implicitDefEqProofs only [go_sem, Nat.reduceEqDiff, Nat.reduceLT, Nat.reduceAdd, Nat.reduceMul, Nat.reduceSub, Nat.add_zero, Nat.zero_add, Int.reduceEq, Int.reduceLT, ld_77, (hSa0.has4 h45).lda (show ([.pointer (some ⟨p, 0, none⟩)] : List Value).length = 1 from rfl), (hLn1.has4 h45).lda (show ([.pointer (some ⟨p, 0, none⟩)] : List Value).length = 1 from rfl), (hLn2.has4 h45).lda (show ([.pointer (some ⟨p, 0, none⟩)] : List Value).length = 1 from rfl), (hLn3.has4 h45).lda (show ([.pointer (some ⟨p, 0, none⟩)] : List Value).length = 1 from rfl)]
    refine ⟨_, _, hcn3, ?_⟩
    try simp -implicitDefEqProofs only [go_sem, Nat.reduceEqDiff, Nat.reduceLT, Nat.reduceAdd, Nat.reduceMul, Nat.reduceSub, Nat.add_zero, Nat.zero_add, Int.reduceEq, Int.reduceLT, ld_77, (hSa0.has4 h45).lda (show ([.pointer (some ⟨p, 0, none⟩)] : List Value).length = 1 from rfl), (hLn1.has4 h45).lda (show ([.pointer (some ⟨p, 0, none⟩)] : List Value).length = 1 from rfl), (hLn2.has4 h45).lda (show ([.pointer (some ⟨p, 0, none⟩)] : List Value).length = 1 from rfl), (hLn3.has4 h45).lda (show ([.pointer (some ⟨p, 0, none⟩)] : List Value).length = 1 from rfl), st_22, st_3, fSb0, fSb1, fSb2]
    refine hK _ _ _ (by simp only [go_sem, Nat.reduceEqDiff, Nat.reduceLT, Nat.reduceAdd, Nat.reduceMul, Nat.reduceSub, Nat.add_zero, Nat.zero_add, Int.reduceEq, Int.reduceLT]; rfl) ?_; clear hK
    obtain ⟨r4_, N4, hcn4, hgn4, hLn4, rfl⟩ := hSb2.number (by have := (hsev 4).2; omega) (hsev 4).1
    have hLn4 : Lo M3.next N4 p D (sevS f1 5) _ _ := hLn4
    have hcn4 : ACall Try.prog 51 #[rdP p] MSb2 (.int .i64 (sevN f1 4)) N4 := hcn4
    have hgA5 : Grew M N4 := GrewX.grew gSb2 hgn4 hMp
    obtain ⟨r5_, N5, hcn5, hgn5, hLn5, rfl⟩ := hLn4.number (by have := (hsev 5).2; omega) (hsev 5).1
    have hLn5 : Lo M3.next N5 p D (sevS f1 6) _ _ := hLn5
    have hcn5 : ACall Try.prog 51 #[rdP p] N4 (.int .i64 (sevN f1 5)) N5 := hcn5
    have hgA6 : Grew M N5 := GrewX.grew hgA5 hgn5 hMp
    obtain ⟨r6_, N6, hcn6, hgn6, hLn6, rfl⟩ := hLn5.number (by have := (hsev 6).2; omega) (hsev 6).1
    have hLn6 : Lo M3.next N6 p D (sevS f1 7) _ _ := hLn6
    have hcn6 : ACall Try.prog 51 #[rdP p] N5 (.int .i64 (sevN f1 6)) N6 := hcn6
    have hgA7 : Grew M N6 := GrewX.grew hgA6 hgn6 hMp
    have hSc0 := hLn6.setC (repC ⟨sevN f1 0, sevN f1 1, sevN f1 2, sevN f1 3, sevN f1 4, 0, 0, [], [], [], bitF fn 0, bitF fn 1, bitF fn 2, [], [], ⟨#[]⟩, []⟩ (.slice none 0 0) (.slice none 0 0) (.slice none 0 0) (.slice none 0 0) (.slice none 0 0) (.slice none 0 0))
    have fSc0 : stV N6 c5 7 1 (.int .i64 (sevN f1 4)) = some (N6.put c5 ⟨(repC ⟨sevN f1 0, sevN f1 1, sevN f1 2, sevN f1 3, sevN f1 4, 0, 0, [], [], [], bitF fn 0, bitF fn 1, bitF fn 2, [], [], ⟨#[]⟩, []⟩ (.slice none 0 0) (.slice none 0 0) (.slice none 0 0) (.slice none 0 0) (.slice none 0 0) (.slice none 0 0)), 29, true⟩) := st_cell (o := 7) hLn6.has5 rfl (by rw [repC_len]; decide) rfl
    have gSc0 : Grew M (N6.put c5 ⟨(repC ⟨sevN f1 0, sevN f1 1, sevN f1 2, sevN f1 3, sevN f1 4, 0, 0, [], [], [], bitF fn 0, bitF fn 1, bitF fn 2, [], [], ⟨#[]⟩, []⟩ (.slice none 0 0) (.slice none 0 0) (.slice none 0 0) (.slice none 0 0) (.slice none 0 0) (.slice none 0 0)), 29, true⟩) := hgA7.put (by omega) hLn6.has5.2 _
    generalize hMSc0 : N6.put c5 ⟨(repC ⟨sevN f1 0, sevN f1 1, sevN f1 2, sevN f1 3, sevN f1 4, 0, 0, [], [], [], bitF fn 0, bitF fn 1, bitF fn 2, [], [], ⟨#[]⟩, []⟩ (.slice none 0 0) (.slice none 0 0) (.slice none 0 0) (.slice none 0 0) (.slice none 0 0) (.slice none 0 0)), 29, true⟩ = MSc0 at hSc0 fSc0 gSc0
    have hSc1 := hSc0.setC (repC ⟨sevN f1 0, sevN f1 1, sevN f1 2, sevN f1 3, sevN f1 4, sevN f1 5, 0, [], [], [], bitF fn 0, bitF fn 1, bitF fn 2, [], [], ⟨#[]⟩, []⟩ (.slice none 0 0) (.slice none 0 0) (.slice none 0 0) (.slice none 0 0) (.slice none 0 0) (.slice none 0 0))
    have fSc1 : stV MSc0 c5 14 1 (.int .i64 (sevN f1 5)) = some (MSc0.put c5 ⟨(repC ⟨sevN f1 0, sevN f1 1, sevN f1 2, sevN f1 3, sevN f1 4, sevN f1 5, 0, [], [], [], bitF fn 0, bitF fn 1, bitF fn 2, [], [], ⟨#[]⟩, []⟩ (.slice none 0 0) (.slice none 0 0) (.slice none 0 0) (.slice none 0 0) (.slice none 0 0) (.slice none 0 0)), 29, true⟩) := st_cell (o := 14) hSc0.has5 rfl (by rw [repC_len]; decide) rfl
    have gSc1 : Grew M (MSc0.put c5 ⟨(repC ⟨sevN f1 0, sevN f1 1, sevN f1 2, sevN f1 3, sevN f1 4, sevN f1 5, 0, [], [], [], bitF fn 0, bitF fn 1, bitF fn 2, [], [], ⟨#[]⟩, []⟩ (.slice none 0 0) (.slice none 0 0) (.slice none 0 0) (.slice none 0 0) (.slice none 0 0) (.slice none 0 0)), 29, true⟩) := gSc0.put (by omega) hSc0.has5.2 _
    generalize hMSc1 : MSc0.put c5 ⟨(repC ⟨sevN f1 0, sevN f1 1, sevN f1 2, sevN f1 3, sevN f1 4, sevN f1 5, 0, [], [], [], bitF fn 0, bitF fn 1, bitF fn 2, [], [], ⟨#[]⟩, []⟩ (.slice none 0 0) (.slice none 0 0) (.slice none 0 0) (.slice none 0 0) (.slice none 0 0) (.slice none 0 0)), 29, true⟩ = MSc1 at hSc1 fSc1 gSc1
    have hSc2 := hSc1.setC (repC ⟨sevN f1 0, sevN f1 1, sevN f1 2, sevN f1 3, sevN f1 4, sevN f1 5, sevN f1 6, [], [], [], bitF fn 0, bitF fn 1, bitF fn 2, [], [], ⟨#[]⟩, []⟩ (.slice none 0 0) (.slice none 0 0) (.slice none 0 0) (.slice none 0 0) (.slice none 0 0) (.slice none 0 0))
    have fSc2 : stV MSc1 c5 15 1 (.int .i64 (sevN f1 6)) = some (MSc1.put c5 ⟨(repC ⟨sevN f1 0, sevN f1 1, sevN f1 2, sevN f1 3, sevN f1 4, sevN f1 5, sevN f1 6, [], [], [], bitF fn 0, bitF fn 1, bitF fn 2, [], [], ⟨#[]⟩, []⟩ (.slice none 0 0) (.slice none 0 0) (.slice none 0 0) (.slice none 0 0) (.slice none 0 0) (.slice none 0 0)), 29, true⟩) := st_cell (o := 15) hSc1.has5 rfl (by rw [repC_len]; decide) rfl
    have gSc2 : Grew M (MSc1.put c5 ⟨(repC ⟨sevN f1 0, sevN f1 1, sevN f1 2, sevN f1 3, sevN f1 4, sevN f1 5, sevN f1 6, [], [], [], bitF fn 0, bitF fn 1, bitF fn 2, [], [], ⟨#[]⟩, []⟩ (.slice none 0 0) (.slice none 0 0) (.slice none 0 0) (.slice none 0 0) (.slice none 0 0) (.slice none 0 0)), 29, true⟩) := gSc1.put (by omega) hSc1.has5.2 _
    generalize hMSc2 : MSc1.put c5 ⟨(repC ⟨sevN f1 0, sevN f1 1, sevN f1 2, sevN f1 3, sevN f1 4, sevN f1 5, sevN f1 6, [], [], [], bitF fn 0, bitF fn 1, bitF fn 2, [], [], ⟨#[]⟩, []⟩ (.slice none 0 0) (.slice none 0 0) (.slice none 0 0) (.slice none 0 0) (.slice none 0 0) (.slice none 0 0)), 29, true⟩ = MSc2 at hSc2 fSc2 gSc2
    refine AWP.stepD hmo [0, 1, 2, 3, 4, 5, 6, 7, 8, 9, 10, 11] [0, 1, 0, 7, 0, 31, 3, 127, 255, 511, 1023, 2047] [] [(2, 1), (4, 1), (4, 3)] (by kernel_rfl) [2, 4, 5] fun K hK => ?_
    simp -implicitDefEqProofs only [go_sem, Nat.reduceEqDiff, Nat.reduceLT, Nat.reduceAdd, Nat.reduceMul, Nat.reduceSub, Nat.add_zero, Nat.zero_add, Int.reduceEq, Int.reduceLT, ld_77, (hSb2.has4 h45).lda (show ([.pointer (some ⟨p, 0, none⟩)] : List Value).length = 1 from rfl), (hLn4.has4 h45).lda (show ([.pointer (some ⟨p, 0, none⟩)] : List Value).length = 1 from rfl), (hLn5.has4 h45).lda (show ([.pointer (some ⟨p, 0, none⟩)] : List Value).length = 1 from rfl), (hLn6.has4 h45).lda (show ([.pointer (some ⟨p, 0, none⟩)] : List Value).length = 1 from rfl)]
    refine ⟨_, _, hcn4, ?_⟩
    try simp -implicitDefEqProofs only [go_sem, Nat.reduceEqDiff, Nat.reduceLT, Nat.reduceAdd, Nat.reduceMul, Nat.reduceSub, Nat.add_zero, Nat.zero_add, Int.reduceEq, Int.reduceLT, ld_77, (hSb2.has4 h45).lda (show ([.pointer (some ⟨p, 0, none⟩)] : List Value).length = 1 from rfl), (hLn4.has4 h45).lda (show ([.pointer (some ⟨p, 0, none⟩)] : List Value).length = 1 from rfl), (hLn5.has4 h45).lda (show ([.pointer (some ⟨p, 0, none⟩)] : List Value).length = 1 from rfl), (hLn6.has4 h45).lda (show ([.pointer (some ⟨p, 0, none⟩)] : List Value).length = 1 from rfl)]
    refine ⟨_, _, hcn5, ?_⟩
    try simp -implicitDefEqProofs only [go_sem, Nat.reduceEqDiff, Nat.reduceLT, Nat.reduceAdd, Nat.reduceMul, Nat.reduceSub, Nat.add_zero, Nat.zero_add, Int.reduceEq, Int.reduceLT, ld_77, (hSb2.has4 h45).lda (show ([.pointer (some ⟨p, 0, none⟩)] : List Value).length = 1 from rfl), (hLn4.has4 h45).lda (show ([.pointer (some ⟨p, 0, none⟩)] : List Value).length = 1 from rfl), (hLn5.has4 h45).lda (show ([.pointer (some ⟨p, 0, none⟩)] : List Value).length = 1 from rfl), (hLn6.has4 h45).lda (show ([.pointer (some ⟨p, 0, none⟩)] : List Value).length = 1 from rfl)]
    refine ⟨_, _, hcn6, ?_⟩
    try simp -implicitDefEqProofs only [go_sem, Nat.reduceEqDiff, Nat.reduceLT, Nat.reduceAdd, Nat.reduceMul, Nat.reduceSub, Nat.add_zero, Nat.zero_add, Int.reduceEq, Int.reduceLT, ld_77, (hSb2.has4 h45).lda (show ([.pointer (some ⟨p, 0, none⟩)] : List Value).length = 1 from rfl), (hLn4.has4 h45).lda (show ([.pointer (some ⟨p, 0, none⟩)] : List Value).length = 1 from rfl), (hLn5.has4 h45).lda (show ([.pointer (some ⟨p, 0, none⟩)] : List Value).length = 1 from rfl), (hLn6.has4 h45).lda (show ([.pointer (some ⟨p, 0, none⟩)] : List Value).length = 1 from rfl), st_22, st_3, fSc0, fSc1, fSc2]
    refine hK _ _ _ (by simp only [go_sem, Nat.reduceEqDiff, Nat.reduceLT, Nat.reduceAdd, Nat.reduceMul, Nat.reduceSub, Nat.add_zero, Nat.zero_add, Int.reduceEq, Int.reduceLT]; rfl) ?_; clear hK
    have hk0 := hsev 7
    generalize ht0 : sevS f1 7 = t0 at hSc2 hk0
    obtain ⟨vmm, T0, hct0, hgt0, hot0, hLt0⟩ := hSc2.long (by have := (hk0).2; omega) (hk0).1
    have hgB0 : Grew M T0 := GrewX.grew gSc2 hgt0 hMp
    have hkt0 := text_keep t0 hk0
    obtain ⟨vtm, T1, hct1, hgt1, hot1, hLt1⟩ := hLt0.long (by have := (hkt0).2; omega) (hkt0).1
    have hgB1 : Grew M T1 := GrewX.grew hgB0 hgt1 hMp
    have hkt1 := text_keep (textS t0).1 hkt0
    have hSd0 := hLt1.setC (repC ⟨sevN f1 0, sevN f1 1, sevN f1 2, sevN f1 3, sevN f1 4, sevN f1 5, sevN f1 6, [], (textS t0).2, [], bitF fn 0, bitF fn 1, bitF fn 2, [], [], ⟨#[]⟩, []⟩ (.slice none 0 0) (vmm) (.slice none 0 0) (.slice none 0 0) (.slice none 0 0) (.slice none 0 0))
    have fSd0 : stV T1 c5 5 1 vmm = some (T1.put c5 ⟨(repC ⟨sevN f1 0, sevN f1 1, sevN f1 2, sevN f1 3, sevN f1 4, sevN f1 5, sevN f1 6, [], (textS t0).2, [], bitF fn 0, bitF fn 1, bitF fn 2, [], [], ⟨#[]⟩, []⟩ (.slice none 0 0) (vmm) (.slice none 0 0) (.slice none 0 0) (.slice none 0 0) (.slice none 0 0)), 29, true⟩) := st_cell (o := 5) hLt1.has5 rfl (by rw [repC_len]; decide) hot0.row.one
    have gSd0 : Grew M (T1.put c5 ⟨(repC ⟨sevN f1 0, sevN f1 1, sevN f1 2, sevN f1 3, sevN f1 4, sevN f1 5, sevN f1 6, [], (textS t0).2, [], bitF fn 0, bitF fn 1, bitF fn 2, [], [], ⟨#[]⟩, []⟩ (.slice none 0 0) (vmm) (.slice none 0 0) (.slice none 0 0) (.slice none 0 0) (.slice none 0 0)), 29, true⟩) := hgB1.put (by omega) hLt1.has5.2 _
    generalize hMSd0 : T1.put c5 ⟨(repC ⟨sevN f1 0, sevN f1 1, sevN f1 2, sevN f1 3, sevN f1 4, sevN f1 5, sevN f1 6, [], (textS t0).2, [], bitF fn 0, bitF fn 1, bitF fn 2, [], [], ⟨#[]⟩, []⟩ (.slice none 0 0) (vmm) (.slice none 0 0) (.slice none 0 0) (.slice none 0 0) (.slice none 0 0)), 29, true⟩ = MSd0 at hSd0 fSd0 gSd0
    have hSd1 := hSd0.setC (repC ⟨sevN f1 0, sevN f1 1, sevN f1 2, sevN f1 3, sevN f1 4, sevN f1 5, sevN f1 6, [], (textS t0).2, (textS (textS t0).1).2, bitF fn 0, bitF fn 1, bitF fn 2, [], [], ⟨#[]⟩, []⟩ (.slice none 0 0) (vmm) (vtm) (.slice none 0 0) (.slice none 0 0) (.slice none 0 0))
    have fSd1 : stV MSd0 c5 6 1 vtm = some (MSd0.put c5 ⟨(repC ⟨sevN f1 0, sevN f1 1, sevN f1 2, sevN f1 3, sevN f1 4, sevN f1 5, sevN f1 6, [], (textS t0).2, (textS (textS t0).1).2, bitF fn 0, bitF fn 1, bitF fn 2, [], [], ⟨#[]⟩, []⟩ (.slice none 0 0) (vmm) (vtm) (.slice none 0 0) (.slice none 0 0) (.slice none 0 0)), 29, true⟩) := st_cell (o := 6) hSd0.has5 rfl (by rw [repC_len]; decide) hot1.row.one
    have gSd1 : Grew M (MSd0.put c5 ⟨(repC ⟨sevN f1 0, sevN f1 1, sevN f1 2, sevN f1 3, sevN f1 4, sevN f1 5, sevN f1 6, [], (textS t0).2, (textS (textS t0).1).2, bitF fn 0, bitF fn 1, bitF fn 2, [], [], ⟨#[]⟩, []⟩ (.slice none 0 0) (vmm) (vtm) (.slice none 0 0) (.slice none 0 0) (.slice none 0 0)), 29, true⟩) := gSd0.put (by omega) hSd0.has5.2 _
    generalize hMSd1 : MSd0.put c5 ⟨(repC ⟨sevN f1 0, sevN f1 1, sevN f1 2, sevN f1 3, sevN f1 4, sevN f1 5, sevN f1 6, [], (textS t0).2, (textS (textS t0).1).2, bitF fn 0, bitF fn 1, bitF fn 2, [], [], ⟨#[]⟩, []⟩ (.slice none 0 0) (vmm) (vtm) (.slice none 0 0) (.slice none 0 0) (.slice none 0 0)), 29, true⟩ = MSd1 at hSd1 fSd1 gSd1
    refine AWP.stepD hmo [0, 1, 2, 3, 4, 5, 6, 7] [0, 1, 0, 7, 3, 31, 63, 127] [] [(2, 1)] (by kernel_rfl) [2, 4, 5] fun K hK => ?_
    simp -implicitDefEqProofs only [go_sem, Nat.reduceEqDiff, Nat.reduceLT, Nat.reduceAdd, Nat.reduceMul, Nat.reduceSub, Nat.add_zero, Nat.zero_add, Int.reduceEq, Int.reduceLT, ld_77, (hSc2.has4 h45).lda (show ([.pointer (some ⟨p, 0, none⟩)] : List Value).length = 1 from rfl), (hLt0.has4 h45).lda (show ([.pointer (some ⟨p, 0, none⟩)] : List Value).length = 1 from rfl), (hLt1.has4 h45).lda (show ([.pointer (some ⟨p, 0, none⟩)] : List Value).length = 1 from rfl)]
    refine ⟨_, _, hct0, ?_⟩
    try simp -implicitDefEqProofs only [go_sem, Nat.reduceEqDiff, Nat.reduceLT, Nat.reduceAdd, Nat.reduceMul, Nat.reduceSub, Nat.add_zero, Nat.zero_add, Int.reduceEq, Int.reduceLT, ld_77, (hSc2.has4 h45).lda (show ([.pointer (some ⟨p, 0, none⟩)] : List Value).length = 1 from rfl), (hLt0.has4 h45).lda (show ([.pointer (some ⟨p, 0, none⟩)] : List Value).length = 1 from rfl), (hLt1.has4 h45).lda (show ([.pointer (some ⟨p, 0, none⟩)] : List Value).length = 1 from rfl)]
    refine ⟨_, _, hct1, ?_⟩
    try simp -implicitDefEqProofs only [go_sem, Nat.reduceEqDiff, Nat.reduceLT, Nat.reduceAdd, Nat.reduceMul, Nat.reduceSub, Nat.add_zero, Nat.zero_add, Int.reduceEq, Int.reduceLT, ld_77, (hSc2.has4 h45).lda (show ([.pointer (some ⟨p, 0, none⟩)] : List Value).length = 1 from rfl), (hLt0.has4 h45).lda (show ([.pointer (some ⟨p, 0, none⟩)] : List Value).length = 1 from rfl), (hLt1.has4 h45).lda (show ([.pointer (some ⟨p, 0, none⟩)] : List Value).length = 1 from rfl), st_23, fSd0, fSd1]
    refine hK _ _ _ (by simp only [go_sem, Nat.reduceEqDiff, Nat.reduceLT, Nat.reduceAdd, Nat.reduceMul, Nat.reduceSub, Nat.add_zero, Nat.zero_add, Int.reduceEq, Int.reduceLT]; rfl) ?_; clear hK
    obtain ⟨vnm, U0, ln, hcu0, hgu0, hLu0, hlu0⟩ := hSd1.texts (by have := (hkt1).2; omega) (hkt1).1
    have hLu0 : Lo M3.next U0 p D (manyS textS (textS (textS t0).1).1).1 _ _ := hLu0
    have hlu0 : (manyS textS (textS (textS t0).1).1).1.code = 0 → ln = (manyS textS (textS (textS t0).1).1).2.map strOf := hlu0
    have hgC0 : Grew M U0 := GrewX.grew gSd1 hgu0 hMp
    have hku0 := manyS_keep textS text_keep hkt1
    obtain ⟨vpm, U1, lp, hcu1, hgu1, hLu1, hlu1⟩ := hLu0.texts (by have := (hku0).2; omega) (hku0).1
    have hLu1 : Lo M3.next U1 p D (manyS textS (manyS textS (textS (textS t0).1).1).1).1 _ _ := hLu1
    have hlu1 : (manyS textS (manyS textS (textS (textS t0).1).1).1).1.code = 0 → lp = (manyS textS (manyS textS (textS (textS t0).1).1).1).2.map strOf := hlu1
    have hgC1 : Grew M U1 := GrewX.grew hgC0 hgu1 hMp
    have hku1 := manyS_keep textS text_keep hku0
    have hSe0 := hLu1.setC (repC ⟨sevN f1 0, sevN f1 1, sevN f1 2, sevN f1 3, sevN f1 4, sevN f1 5, sevN f1 6, [], (textS t0).2, (textS (textS t0).1).2, bitF fn 0, bitF fn 1, bitF fn 2, ln, [], ⟨#[]⟩, []⟩ (.slice none 0 0) (vmm) (vtm) (vnm) (.slice none 0 0) (.slice none 0 0))
    have fSe0 : stV U1 c5 9 1 vnm = some (U1.put c5 ⟨(repC ⟨sevN f1 0, sevN f1 1, sevN f1 2, sevN f1 3, sevN f1 4, sevN f1 5, sevN f1 6, [], (textS t0).2, (textS (textS t0).1).2, bitF fn 0, bitF fn 1, bitF fn 2, ln, [], ⟨#[]⟩, []⟩ (.slice none 0 0) (vmm) (vtm) (vnm) (.slice none 0 0) (.slice none 0 0)), 29, true⟩) := st_cell (o := 9) hLu1.has5 rfl (by rw [repC_len]; decide) (hLu0.rows _ (.inl rfl)).row.one
    have gSe0 : Grew M (U1.put c5 ⟨(repC ⟨sevN f1 0, sevN f1 1, sevN f1 2, sevN f1 3, sevN f1 4, sevN f1 5, sevN f1 6, [], (textS t0).2, (textS (textS t0).1).2, bitF fn 0, bitF fn 1, bitF fn 2, ln, [], ⟨#[]⟩, []⟩ (.slice none 0 0) (vmm) (vtm) (vnm) (.slice none 0 0) (.slice none 0 0)), 29, true⟩) := hgC1.put (by omega) hLu1.has5.2 _
    generalize hMSe0 : U1.put c5 ⟨(repC ⟨sevN f1 0, sevN f1 1, sevN f1 2, sevN f1 3, sevN f1 4, sevN f1 5, sevN f1 6, [], (textS t0).2, (textS (textS t0).1).2, bitF fn 0, bitF fn 1, bitF fn 2, ln, [], ⟨#[]⟩, []⟩ (.slice none 0 0) (vmm) (vtm) (vnm) (.slice none 0 0) (.slice none 0 0)), 29, true⟩ = MSe0 at hSe0 fSe0 gSe0
    have hSe1 := hSe0.setC (repC ⟨sevN f1 0, sevN f1 1, sevN f1 2, sevN f1 3, sevN f1 4, sevN f1 5, sevN f1 6, [], (textS t0).2, (textS (textS t0).1).2, bitF fn 0, bitF fn 1, bitF fn 2, ln, lp, ⟨#[]⟩, []⟩ (.slice none 0 0) (vmm) (vtm) (vnm) (vpm) (.slice none 0 0))
    have fSe1 : stV MSe0 c5 10 1 vpm = some (MSe0.put c5 ⟨(repC ⟨sevN f1 0, sevN f1 1, sevN f1 2, sevN f1 3, sevN f1 4, sevN f1 5, sevN f1 6, [], (textS t0).2, (textS (textS t0).1).2, bitF fn 0, bitF fn 1, bitF fn 2, ln, lp, ⟨#[]⟩, []⟩ (.slice none 0 0) (vmm) (vtm) (vnm) (vpm) (.slice none 0 0)), 29, true⟩) := st_cell (o := 10) hSe0.has5 rfl (by rw [repC_len]; decide) (hLu1.rows _ (.inl rfl)).row.one
    have gSe1 : Grew M (MSe0.put c5 ⟨(repC ⟨sevN f1 0, sevN f1 1, sevN f1 2, sevN f1 3, sevN f1 4, sevN f1 5, sevN f1 6, [], (textS t0).2, (textS (textS t0).1).2, bitF fn 0, bitF fn 1, bitF fn 2, ln, lp, ⟨#[]⟩, []⟩ (.slice none 0 0) (vmm) (vtm) (vnm) (vpm) (.slice none 0 0)), 29, true⟩) := gSe0.put (by omega) hSe0.has5.2 _
    generalize hMSe1 : MSe0.put c5 ⟨(repC ⟨sevN f1 0, sevN f1 1, sevN f1 2, sevN f1 3, sevN f1 4, sevN f1 5, sevN f1 6, [], (textS t0).2, (textS (textS t0).1).2, bitF fn 0, bitF fn 1, bitF fn 2, ln, lp, ⟨#[]⟩, []⟩ (.slice none 0 0) (vmm) (vtm) (vnm) (vpm) (.slice none 0 0)), 29, true⟩ = MSe1 at hSe1 fSe1 gSe1
    refine AWP.stepD hmo [0, 1, 2, 3, 4, 5, 6, 7, 8, 9] [0, 1, 0, 7, 3, 19, 63, 127, 255, 511] [] [(2, 1)] (by kernel_rfl) [2, 4, 5] fun K hK => ?_
    simp -implicitDefEqProofs only [go_sem, Nat.reduceEqDiff, Nat.reduceLT, Nat.reduceAdd, Nat.reduceMul, Nat.reduceSub, Nat.add_zero, Nat.zero_add, Int.reduceEq, Int.reduceLT, ld_77, (hSd1.has4 h45).lda (show ([.pointer (some ⟨p, 0, none⟩)] : List Value).length = 1 from rfl), (hLu0.has4 h45).lda (show ([.pointer (some ⟨p, 0, none⟩)] : List Value).length = 1 from rfl), (hLu1.has4 h45).lda (show ([.pointer (some ⟨p, 0, none⟩)] : List Value).length = 1 from rfl)]
    refine ⟨_, _, hcu0, ?_⟩
    try simp -implicitDefEqProofs only [go_sem, Nat.reduceEqDiff, Nat.reduceLT, Nat.reduceAdd, Nat.reduceMul, Nat.reduceSub, Nat.add_zero, Nat.zero_add, Int.reduceEq, Int.reduceLT, ld_77, (hSd1.has4 h45).lda (show ([.pointer (some ⟨p, 0, none⟩)] : List Value).length = 1 from rfl), (hLu0.has4 h45).lda (show ([.pointer (some ⟨p, 0, none⟩)] : List Value).length = 1 from rfl), (hLu1.has4 h45).lda (show ([.pointer (some ⟨p, 0, none⟩)] : List Value).length = 1 from rfl)]
    refine ⟨_, _, hcu1, ?_⟩
    try simp -implicitDefEqProofs only [go_sem, Nat.reduceEqDiff, Nat.reduceLT, Nat.reduceAdd, Nat.reduceMul, Nat.reduceSub, Nat.add_zero, Nat.zero_add, Int.reduceEq, Int.reduceLT, ld_77, (hSd1.has4 h45).lda (show ([.pointer (some ⟨p, 0, none⟩)] : List Value).length = 1 from rfl), (hLu0.has4 h45).lda (show ([.pointer (some ⟨p, 0, none⟩)] : List Value).length = 1 from rfl), (hLu1.has4 h45).lda (show ([.pointer (some ⟨p, 0, none⟩)] : List Value).length = 1 from rfl), st_24, fSe0, fSe1]
    refine hK _ _ _ (by simp only [go_sem, Nat.reduceEqDiff, Nat.reduceLT, Nat.reduceAdd, Nat.reduceMul, Nat.reduceSub, Nat.add_zero, Nat.zero_add, Int.reduceEq, Int.reduceLT]; rfl) ?_; clear hK
    obtain ⟨vx, W0, hcw, hgw, how, hLw⟩ := hSe1.long (by have := (hku1).2; omega) (hku1).1
    have hgD0 : Grew M W0 := GrewX.grew gSe1 hgw hMp
    have hkw := text_keep (manyS textS (manyS textS (textS (textS t0).1).1).1).1 hku1
    have hsw := str_own how
    have hSg0 := hLw.setC (repC ⟨sevN f1 0, sevN f1 1, sevN f1 2, sevN f1 3, sevN f1 4, sevN f1 5, sevN f1 6, [], (textS t0).2, (textS (textS t0).1).2, bitF fn 0, bitF fn 1, bitF fn 2, ln, lp, (strOf (textS (manyS textS (manyS textS (textS (textS t0).1).1).1).1).2), []⟩ (.slice none 0 0) (vmm) (vtm) (vnm) (vpm) (.slice none 0 0))
    have fSg0 : stV W0 c5 11 1 (.string (strOf (textS (manyS textS (manyS textS (textS (textS t0).1).1).1).1).2)) = some (W0.put c5 ⟨(repC ⟨sevN f1 0, sevN f1 1, sevN f1 2, sevN f1 3, sevN f1 4, sevN f1 5, sevN f1 6, [], (textS t0).2, (textS (textS t0).1).2, bitF fn 0, bitF fn 1, bitF fn 2, ln, lp, (strOf (textS (manyS textS (manyS textS (textS (textS t0).1).1).1).1).2), []⟩ (.slice none 0 0) (vmm) (vtm) (vnm) (vpm) (.slice none 0 0)), 29, true⟩) := st_cell (o := 11) hLw.has5 rfl (by rw [repC_len]; decide) rfl
    have gSg0 : Grew M (W0.put c5 ⟨(repC ⟨sevN f1 0, sevN f1 1, sevN f1 2, sevN f1 3, sevN f1 4, sevN f1 5, sevN f1 6, [], (textS t0).2, (textS (textS t0).1).2, bitF fn 0, bitF fn 1, bitF fn 2, ln, lp, (strOf (textS (manyS textS (manyS textS (textS (textS t0).1).1).1).1).2), []⟩ (.slice none 0 0) (vmm) (vtm) (vnm) (vpm) (.slice none 0 0)), 29, true⟩) := hgD0.put (by omega) hLw.has5.2 _
    generalize hMSg0 : W0.put c5 ⟨(repC ⟨sevN f1 0, sevN f1 1, sevN f1 2, sevN f1 3, sevN f1 4, sevN f1 5, sevN f1 6, [], (textS t0).2, (textS (textS t0).1).2, bitF fn 0, bitF fn 1, bitF fn 2, ln, lp, (strOf (textS (manyS textS (manyS textS (textS (textS t0).1).1).1).1).2), []⟩ (.slice none 0 0) (vmm) (vtm) (vnm) (vpm) (.slice none 0 0)), 29, true⟩ = MSg0 at hSg0 fSg0 gSg0
    refine AWP.stepR [2, 4, 5] fun K hK => ?_
    simp only [go_sem, Nat.reduceEqDiff, Nat.reduceLT, Nat.reduceAdd, Nat.reduceMul, Nat.reduceSub, Nat.add_zero, Nat.zero_add, Int.reduceEq, Int.reduceLT, ld_77, (hSe1.has4 h45).lda (show ([.pointer (some ⟨p, 0, none⟩)] : List Value).length = 1 from rfl), (hLw.has4 h45).lda (show ([.pointer (some ⟨p, 0, none⟩)] : List Value).length = 1 from rfl)]
    refine ⟨_, _, hcw, ?_⟩
    try simp only [go_sem, Nat.reduceEqDiff, Nat.reduceLT, Nat.reduceAdd, Nat.reduceMul, Nat.reduceSub, Nat.add_zero, Nat.zero_add, Int.reduceEq, Int.reduceLT, ld_77, (hSe1.has4 h45).lda (show ([.pointer (some ⟨p, 0, none⟩)] : List Value).length = 1 from rfl), (hLw.has4 h45).lda (show ([.pointer (some ⟨p, 0, none⟩)] : List Value).length = 1 from rfl), hsw, st_9, fSg0]
    refine hK _ _ _ (by simp only [go_sem, Nat.reduceEqDiff, Nat.reduceLT, Nat.reduceAdd, Nat.reduceMul, Nat.reduceSub, Nat.add_zero, Nat.zero_add, Int.reduceEq, Int.reduceLT]; rfl) ?_; clear hK
    have hLq : Lo M3.next MSg0 p D (textS (manyS textS (manyS textS (textS (textS t0).1).1).1).1).1 (fx3 M.next M1.next c5 p (repC ⟨sevN f1 0, sevN f1 1, sevN f1 2, sevN f1 3, sevN f1 4, sevN f1 5, sevN f1 6, [], (textS t0).2, (textS (textS t0).1).2, bitF fn 0, bitF fn 1, bitF fn 2, ln, lp, (strOf (textS (manyS textS (manyS textS (textS (textS t0).1).1).1).1).2), []⟩ (.slice none 0 0) (vmm) (vtm) (vnm) (vpm) ((.slice none 0 0)))) (RQ vmm vtm vnm vpm (.slice none 0 0) (textS t0).2 (textS (textS t0).1).2 ln lp []) := by
      have h9 := hSg0.add (Mb := MSg0) (r := ⟨.slice none 0 0, 0, [], 63⟩) (Own.nil _ _ _) hSg0.next (fun i b hi => Apart.nil _) (fun a ha => Sep.nil _)
      refine h9.less (fun i b hi => hi) fun r hr => ?_
      rcases hr with rfl | rfl | rfl | rfl | rfl
      · exact .inr (.inr (.inr (.inr (.inr (.inl rfl)))))
      · exact .inr (.inr (.inr (.inr (.inl rfl))))
      · exact .inr (.inr (.inr (.inl rfl)))
      · exact .inr (.inr (.inl rfl))
      · exact .inl rfl
    have hgq := gSg0
    generalize hx0 : (textS (manyS textS (manyS textS (textS (textS t0).1).1).1).1).1 = x0 at hLq hkw
    generalize hmq : MSg0 = mq at hLq hgq ⊢
    obtain ⟨r13, M13, hc13, hg13, hL13, rfl⟩ := hLq.count (by have := (hkw).2; omega) (hkw).1
    have hbc := countS_bytes (hkw).1; have hlc := countS_len x0; have hnc := countS_b (hkw).1
    have hg013 : Grew M M13 := GrewX.grew hgq hg13 hMp
    refine AWP.seq ?_
    refine AWP.seqE (α := Unit) [2, 4, 5] (fun _ => [(2, .pointer (some ⟨M.next, 0, none⟩)), (4, .pointer (some ⟨M1.next, 0, none⟩)), (5, .pointer (some ⟨c5, 0, none⟩))]) (fun _ M' => Grew M M' ∧ ∃ vs, Lo M3.next M' p D (manyS shwS x0).1 (fx3 M.next M1.next c5 p (repC ⟨sevN f1 0, sevN f1 1, sevN f1 2, sevN f1 3, sevN f1 4, sevN f1 5, sevN f1 6, [], (textS t0).2, (textS (textS t0).1).2, bitF fn 0, bitF fn 1, bitF fn 2, ln, lp, (strOf (textS (manyS textS (manyS textS (textS (textS t0).1).1).1).1).2), (manyS shwS x0).2⟩ (.slice none 0 0) (vmm) (vtm) (vnm) (vpm) (vs))) (RQ vmm vtm vnm vpm vs (textS t0).2 (textS (textS t0).1).2 ln lp (manyS shwS x0).2)) ?_ fun _ M20 hJ => ?_
    · skip
      refine AWP.stepR [2, 4, 5, 75, 76] fun K hK => ?_
      simp only [go_sem, Nat.reduceEqDiff, Nat.reduceLT, Nat.reduceAdd, Nat.reduceMul, Nat.reduceSub, Nat.add_zero, Nat.zero_add, Int.reduceEq, Int.reduceLT, ld_77, (hLq.has4 h45).lda (show ([.pointer (some ⟨p, 0, none⟩)] : List Value).length = 1 from rfl)]
      refine ⟨_, _, hc13, ?_⟩
      refine hK _ _ _ (by simp only [go_sem, Nat.reduceEqDiff, Nat.reduceLT, Nat.reduceAdd, Nat.reduceMul, Nat.reduceSub, Nat.add_zero, Nat.zero_add, Int.reduceEq, Int.reduceLT]; rfl) ?_; clear hK
      obtain ⟨cnt, hcnt⟩ := cntE _ hnc.1
      have hmany : manyS shwS x0 = loopP shwS cnt (countS x0).1 := by rw [manyS, hcnt, Int.toNat_natCast]
      rw [hcnt, hmany]
      rw [hcnt] at hnc
      generalize (countS x0).1 = y0 at hL13 hbc hlc
      refine AWP.block ?_ -- b0
      refine AWP.loopK [2, 4, 5, 75, 76] (fun c e M2 => c ≤ cnt ∧ Grew M M2 ∧ ∃ s acc vs, acc.length ≤ cnt - c ∧ Lo M3.next M2 p D s (fx3 M.next M1.next c5 p (repC ⟨sevN f1 0, sevN f1 1, sevN f1 2, sevN f1 3, sevN f1 4, sevN f1 5, sevN f1 6, [], (textS t0).2, (textS (textS t0).1).2, bitF fn 0, bitF fn 1, bitF fn 2, ln, lp, (strOf (textS (manyS textS (manyS textS (textS (textS t0).1).1).1).1).2), acc⟩ (.slice none 0 0) (vmm) (vtm) (vnm) (vpm) (vs))) (RQ vmm vtm vnm vpm vs (textS t0).2 (textS (textS t0).1).2 ln lp acc) ∧ BytB s.b ∧ s.b.length ≤ 1000000 ∧ loopP shwS cnt y0 = ((loopP shwS c s).1, acc ++ (loopP shwS c s).2) ∧ e = [(2, .pointer (some ⟨M.next, 0, none⟩)), (4, .pointer (some ⟨M1.next, 0, none⟩)), (5, .pointer (some ⟨c5, 0, none⟩)), (75, .int .i64 cnt), (76, .int .i64 ((cnt - c : Nat) : Int))]) cnt ?_ fun c e M2 hI => ?_ -- LOOP
      · simp only [go_sem, Nat.reduceEqDiff, Nat.reduceLT, Nat.reduceAdd, Nat.reduceMul, Nat.reduceSub, Nat.add_zero, Nat.zero_add, Int.reduceEq, Int.reduceLT, Nat.le_refl]
        exact ⟨hg013, y0, [], .slice none 0 0, by simp, hL13, hbc, by have := (hkw).2; omega, by simp, by simp⟩
      obtain ⟨hcc, hg0, s, acc, vs, hla, hL, hbs, hls, hlp, rfl⟩ := hI
      have hN := hL.next
      refine AWP.stepR [2, 4, 5, 75, 76, 77] fun K hK => ?_
      simp only [go_sem, Nat.reduceEqDiff, Nat.reduceLT, Nat.reduceAdd, Nat.reduceMul, Nat.reduceSub, Nat.add_zero, Nat.zero_add, Int.reduceEq, Int.reduceLT]
      refine hK _ _ _ (by simp only [go_sem, Nat.reduceEqDiff, Nat.reduceLT, Nat.reduceAdd, Nat.reduceMul, Nat.reduceSub, Nat.add_zero, Nat.zero_add, Int.reduceEq, Int.reduceLT]; rfl) ?_; clear hK
      refine AWP.condS rfl (fun h77 => ?_) fun h77 => ?_
      · have hc0 : 0 < c := by have : ((cnt - c : Nat) : Int) < cnt := of_decide_eq_true h77; omega
        obtain ⟨r9, M9, hc9, hr9, hM9⟩ := code55_spec p D s M2 hL.ok hL.rd
        rw [hr9, hM9] at hc9
        refine AWP.skip ?_
        refine AWP.seq ?_
        refine AWP.block ?_ -- b1
        refine AWP.seq ?_
        refine AWP.stepR [2, 4, 5, 75, 76, 81] fun K hK => ?_
        simp only [go_sem, Nat.reduceEqDiff, Nat.reduceLT, Nat.reduceAdd, Nat.reduceMul, Nat.reduceSub, Nat.add_zero, Nat.zero_add, Int.reduceEq, Int.reduceLT, ld_74, (hL.has4 h45).ld]
        refine ⟨_, _, hc9, ?_⟩
        refine hK _ _ _ (by simp only [go_sem, Nat.reduceEqDiff, Nat.reduceLT, Nat.reduceAdd, Nat.reduceMul, Nat.reduceSub, Nat.add_zero, Nat.zero_add, Int.reduceEq, Int.reduceLT]; rfl) ?_; clear hK
        refine AWP.cond_split rfl (fun h81 => ?_) fun h81 => ?_
        · have hcode : s.code ≠ 0 := by simpa using h81
          rw [loopP_stop shwS (.inr hcode), List.append_nil] at hlp
          refine AWP.exit (Then.exit (InBlock.other (by decide) (Then.exit (Then.exit (InBlock.same ?_))))) -- x0
          refine ⟨(), by simp only [go_sem, Nat.reduceEqDiff, Nat.reduceLT, Nat.reduceAdd, Nat.reduceMul, Nat.reduceSub, Nat.add_zero, Nat.zero_add, Int.reduceEq, Int.reduceLT], hg0, vs, ?_⟩
          rw [hlp]; exact hL
        · have hcode : s.code = 0 := by simpa using h81
          refine AWP.skip ?_
          obtain ⟨rb, Ma, hca, hga, hoa, hLa⟩ := (hL.grow ((Grew.refl M2).bump 1)).long (by omega) hbs
          have hba := textS_bytes hbs; have hla2 := textS_len s
          obtain ⟨_, Mb, hcb, hgb, hLb, rfl⟩ := hLa.number (by omega) hba.1
          have hbb := numS_bytes hba.1 6; have hlb2 := numS_len (textS s).1 6
          obtain ⟨_, Md, hcd, hgd, hLd, rfl⟩ := hLb.number (by omega) hbb
          have hbd := numS_bytes hbb 6; have hld2 := numS_len (numS (textS s).1 6).1 6
          have hgXd : GrewX p (M2.bump 1) Md := hga.trans (hgb.trans hgd)
          have hg0d : Grew M Md := GrewX.grew hg0 ((((Grew.refl M2).bump 1).x p).trans hgXd) hMp
          obtain ⟨hltj, hLj⟩ := hL.box hgXd hLd (fun r hr => hr.elim (fun h => .inr (h ▸ hoa.apart (.inl (by rw [Mem.next_bump]; omega)))) .inl) ⟨[.string ⟨#[]⟩, .int .i64 0, .int .i64 0, .bool false, .bool false], 63, true⟩
          have hLj := hLj.set (j := M2.next) updM_eq ⟨[.string (strOf (textS s).2), .int .i64 (numS (textS s).1 6).2, .int .i64 (numS (numS (textS s).1 6).1 6).2, .bool false, .bool false], 63, true⟩
          have hg0j : Grew M ((Md.put M2.next ⟨[.string ⟨#[]⟩, .int .i64 0, .int .i64 0, .bool false, .bool false], 63, true⟩).put M2.next ⟨[.string (strOf (textS s).2), .int .i64 (numS (textS s).1 6).2, .int .i64 (numS (numS (textS s).1 6).1 6).2, .bool false, .bool false], 63, true⟩) := (hg0d.put (by omega) hltj _).put (by omega) hltj _
          have sa : strV Try.prog Ma.get 23 9 rb = some (.string (strOf (textS s).2)) := str_own hoa
          have sb : strV Try.prog Mb.get 23 9 rb = some (.string (strOf (textS s).2)) := str_own (M0 := baseN M3.next) (l := (textS s).2) (hLb.rows _ (.inl rfl))
          have sd : strV Try.prog Md.get 23 9 rb = some (.string (strOf (textS s).2)) := str_own (M0 := baseN M3.next) (l := (textS s).2) (hLd.rows _ (.inl rfl))
          refine AWP.stepD hmo [0, 1, 2, 3, 4, 5, 6, 7, 8, 9] [0, 1, 3, 0, 11, 0, 59, 127, 0, 511] [] [(2, 4), (2, 6), (3, 1), (5, 1), (5, 4)] (by kernel_rfl) [2, 4, 5, 7, 75, 76] fun K hK => ?_
          simp -implicitDefEqProofs only [go_sem, Nat.reduceEqDiff, Nat.reduceLT, Nat.reduceAdd, Nat.reduceMul, Nat.reduceSub, Nat.add_zero, Nat.zero_add, Int.reduceEq, Int.reduceLT, ld_77, (hL.has4 h45).lda (show ([.pointer (some ⟨p, 0, none⟩)] : List Value).length = 1 from rfl), (hLa.has4 h45).lda (show ([.pointer (some ⟨p, 0, none⟩)] : List Value).length = 1 from rfl), (hLb.has4 h45).lda (show ([.pointer (some ⟨p, 0, none⟩)] : List Value).length = 1 from rfl), (hLd.has4 h45).lda (show ([.pointer (some ⟨p, 0, none⟩)] : List Value).length = 1 from rfl), sa, sb, sd]
          refine ⟨_, _, hca, ?_⟩
          try simp -implicitDefEqProofs only [go_sem, Nat.reduceEqDiff, Nat.reduceLT, Nat.reduceAdd, Nat.reduceMul, Nat.reduceSub, Nat.add_zero, Nat.zero_add, Int.reduceEq, Int.reduceLT, ld_77, (hL.has4 h45).lda (show ([.pointer (some ⟨p, 0, none⟩)] : List Value).length = 1 from rfl), (hLa.has4 h45).lda (show ([.pointer (some ⟨p, 0, none⟩)] : List Value).length = 1 from rfl), (hLb.has4 h45).lda (show ([.pointer (some ⟨p, 0, none⟩)] : List Value).length = 1 from rfl), (hLd.has4 h45).lda (show ([.pointer (some ⟨p, 0, none⟩)] : List Value).length = 1 from rfl), sa, sb, sd]
          refine ⟨_, _, hcb, ?_⟩
          try simp -implicitDefEqProofs only [go_sem, Nat.reduceEqDiff, Nat.reduceLT, Nat.reduceAdd, Nat.reduceMul, Nat.reduceSub, Nat.add_zero, Nat.zero_add, Int.reduceEq, Int.reduceLT, ld_77, (hL.has4 h45).lda (show ([.pointer (some ⟨p, 0, none⟩)] : List Value).length = 1 from rfl), (hLa.has4 h45).lda (show ([.pointer (some ⟨p, 0, none⟩)] : List Value).length = 1 from rfl), (hLb.has4 h45).lda (show ([.pointer (some ⟨p, 0, none⟩)] : List Value).length = 1 from rfl), (hLd.has4 h45).lda (show ([.pointer (some ⟨p, 0, none⟩)] : List Value).length = 1 from rfl), sa, sb, sd]
          refine ⟨_, _, hcd, ?_⟩
          try simp -implicitDefEqProofs only [go_sem, Nat.reduceEqDiff, Nat.reduceLT, Nat.reduceAdd, Nat.reduceMul, Nat.reduceSub, Nat.add_zero, Nat.zero_add, Int.reduceEq, Int.reduceLT, ld_77, (hL.has4 h45).lda (show ([.pointer (some ⟨p, 0, none⟩)] : List Value).length = 1 from rfl), (hLa.has4 h45).lda (show ([.pointer (some ⟨p, 0, none⟩)] : List Value).length = 1 from rfl), (hLb.has4 h45).lda (show ([.pointer (some ⟨p, 0, none⟩)] : List Value).length = 1 from rfl), (hLd.has4 h45).lda (show ([.pointer (some ⟨p, 0, none⟩)] : List Value).length = 1 from rfl), sa, sb, sd, bd_63, st_fresh (M := Md) (i := M2.next) (n := 5) (old := [.string ⟨#[]⟩, .int .i64 0, .int .i64 0, .bool false, .bool false]) (vs := [.string (strOf (textS s).2), .int .i64 (numS (textS s).1 6).2, .int .i64 (numS (numS (textS s).1 6).1 6).2, .bool false, .bool false]) (e := 63) rfl rfl rfl]
          refine hK _ _ _ (by simp only [go_sem, Nat.reduceEqDiff, Nat.reduceLT, Nat.reduceAdd, Nat.reduceMul, Nat.reduceSub, Nat.add_zero, Nat.zero_add, Int.reduceEq, Int.reduceLT]; rfl) ?_; clear hK
          generalize (Md.put M2.next ⟨[.string ⟨#[]⟩, .int .i64 0, .int .i64 0, .bool false, .bool false], 63, true⟩).put M2.next ⟨[.string (strOf (textS s).2), .int .i64 (numS (textS s).1 6).2, .int .i64 (numS (numS (textS s).1 6).1 6).2, .bool false, .bool false], 63, true⟩ = Mj at hLj hg0j ⊢
          have h4j := (hLj.fx M1.next _ (by rw [updM_ne (by omega), updM_ne (by omega), fx3_4 h45])).1
          obtain ⟨rg, Mk, hck, hgk, hok2, hLk⟩ := hLj.flags 2 (by omega) (by omega) hbd
          rw [show (2 : Int) ^ 2 = 4 from rfl] at hok2 hLk
          have hg0k : Grew M Mk := GrewX.grew hg0j hgk hMp
          refine AWP.stepR [2, 4, 5, 7, 8, 75, 76] fun K hK => ?_
          simp only [go_sem, Nat.reduceEqDiff, Nat.reduceLT, Nat.reduceAdd, Nat.reduceMul, Nat.reduceSub, Nat.add_zero, Nat.zero_add, Int.reduceEq, Int.reduceLT, ld_77, h4j.lda (show ([.pointer (some ⟨p, 0, none⟩)] : List Value).length = 1 from rfl)]
          refine ⟨_, _, hck, ?_⟩
          refine hK _ _ _ (by simp only [go_sem, Nat.reduceEqDiff, Nat.reduceLT, Nat.reduceAdd, Nat.reduceMul, Nat.reduceSub, Nat.add_zero, Nat.zero_add, Int.reduceEq, Int.reduceLT]; rfl) ?_; clear hK
          obtain ⟨b0, ha0, hd0⟩ := hok2.at1 (by simp [bitsF]) es_79 (i := 0) (by omega)
          obtain ⟨b1, ha1, hd1⟩ := hok2.at1 (by simp [bitsF]) es_79 (i := 1) (by omega)
          have ha0 : ∀ k, indexAddrV Try.prog 79 rg (.int k 0) = some (.pointer (some ⟨b0, 0, none⟩)) := ha0
          have ha1 : ∀ k, indexAddrV Try.prog 79 rg (.int k 1) = some (.pointer (some ⟨b1, 1, none⟩)) := ha1
          have hjk := (hLk.fx M2.next _ updM_eq).1
          have hLm := hLk.set (j := M2.next) updM_eq ⟨[.string (strOf (textS s).2), .int .i64 (numS (textS s).1 6).2, .int .i64 (numS (numS (textS s).1 6).1 6).2, .bool (bitF (flagsS (numS (numS (textS s).1 6).1 6).1 4).2 0), .bool false], 63, true⟩
          have hLn := hLm.set (j := M2.next) updM_eq ⟨[.string (strOf (textS s).2), .int .i64 (numS (textS s).1 6).2, .int .i64 (numS (numS (textS s).1 6).1 6).2, .bool (bitF (flagsS (numS (numS (textS s).1 6).1 6).1 4).2 0), .bool (bitF (flagsS (numS (numS (textS s).1 6).1 6).1 4).2 1)], 63, true⟩
          have hjm := (hLm.fx M2.next _ updM_eq).1
          have k0 : ldS Mk.get b0 0 = some (.bool (bitF (flagsS (numS (numS (textS s).1 6).1 6).1 4).2 0)) := hd0 _ _ hok2
          have k1 : ldS Mk.get b1 1 = some (.bool (bitF (flagsS (numS (numS (textS s).1 6).1 6).1 4).2 1)) := hd1 _ _ hok2
          have k1a : ldS (Mk.put M2.next ⟨[.string (strOf (textS s).2), .int .i64 (numS (textS s).1 6).2, .int .i64 (numS (numS (textS s).1 6).1 6).2, .bool (bitF (flagsS (numS (numS (textS s).1 6).1 6).1 4).2 0), .bool false], 63, true⟩).get b1 1 = some (.bool (bitF (flagsS (numS (numS (textS s).1 6).1 6).1 4).2 1)) := hd1 _ _ (hLm.rows _ (.inl rfl))
          have fa : stV Mk M2.next 3 1 (.bool (bitF (flagsS (numS (numS (textS s).1 6).1 6).1 4).2 0)) = some (Mk.put M2.next ⟨[.string (strOf (textS s).2), .int .i64 (numS (textS s).1 6).2, .int .i64 (numS (numS (textS s).1 6).1 6).2, .bool (bitF (flagsS (numS (numS (textS s).1 6).1 6).1 4).2 0), .bool false], 63, true⟩) := st_cell (o := 3) hjk rfl (show 3 < 5 by decide) rfl
          have fb : stV (Mk.put M2.next ⟨[.string (strOf (textS s).2), .int .i64 (numS (textS s).1 6).2, .int .i64 (numS (numS (textS s).1 6).1 6).2, .bool (bitF (flagsS (numS (numS (textS s).1 6).1 6).1 4).2 0), .bool false], 63, true⟩) M2.next 4 1 (.bool (bitF (flagsS (numS (numS (textS s).1 6).1 6).1 4).2 1)) = some ((Mk.put M2.next ⟨[.string (strOf (textS s).2), .int .i64 (numS (textS s).1 6).2, .int .i64 (numS (numS (textS s).1 6).1 6).2, .bool (bitF (flagsS (numS (numS (textS s).1 6).1 6).1 4).2 0), .bool false], 63, true⟩).put M2.next ⟨[.string (strOf (textS s).2), .int .i64 (numS (textS s).1 6).2, .int .i64 (numS (numS (textS s).1 6).1 6).2, .bool (bitF (flagsS (numS (numS (textS s).1 6).1 6).1 4).2 0), .bool (bitF (flagsS (numS (numS (textS s).1 6).1 6).1 4).2 1)], 63, true⟩) := st_cell (o := 4) hjm rfl (show 4 < 5 by decide) rfl
          have hg0n : Grew M ((Mk.put M2.next ⟨[.string (strOf (textS s).2), .int .i64 (numS (textS s).1 6).2, .int .i64 (numS (numS (textS s).1 6).1 6).2, .bool (bitF (flagsS (numS (numS (textS s).1 6).1 6).1 4).2 0), .bool false], 63, true⟩).put M2.next ⟨[.string (strOf (textS s).2), .int .i64 (numS (textS s).1 6).2, .int .i64 (numS (numS (textS s).1 6).1 6).2, .bool (bitF (flagsS (numS (numS (textS s).1 6).1 6).1 4).2 0), .bool (bitF (flagsS (numS (numS (textS s).1 6).1 6).1 4).2 1)], 63, true⟩) := (hg0k.put (by omega) hjk.2 _).put (by omega) hjk.2 _
          generalize hMm : Mk.put M2.next ⟨[.string (strOf (textS s).2), .int .i64 (numS (textS s).1 6).2, .int .i64 (numS (numS (textS s).1 6).1 6).2, .bool (bitF (flagsS (numS (numS (textS s).1 6).1 6).1 4).2 0), .bool false], 63, true⟩ = Mm_ at fa fb k1a hLm hLn hg0n hjm
          generalize hMn : Mm_.put M2.next ⟨[.string (strOf (textS s).2), .int .i64 (numS (textS s).1 6).2, .int .i64 (numS (numS (textS s).1 6).1 6).2, .bool (bitF (flagsS (numS (numS (textS s).1 6).1 6).1 4).2 0), .bool (bitF (flagsS (numS (numS (textS s).1 6).1 6).1 4).2 1)], 63, true⟩ = Mn at fb hLn hg0n
          refine AWP.stepD hmo [0, 1, 2, 3, 4, 5, 6, 7, 8, 9] [0, 1, 3, 0, 8, 24, 7, 71, 255, 511] [] [(5, 7)] (by kernel_rfl) [2, 4, 5, 7, 75, 76] fun K hK => ?_
          simp only [go_sem, Nat.reduceEqDiff, Nat.reduceLT, Nat.reduceAdd, Nat.reduceMul, Nat.reduceSub, Nat.add_zero, Nat.zero_add, Int.reduceEq, Int.reduceLT, ha0, ha1, ld_4, k0, k1, st_4, fa, fb, k1a]
          refine hK _ _ _ (by simp only [go_sem, Nat.reduceEqDiff, Nat.reduceLT, Nat.reduceAdd, Nat.reduceMul, Nat.reduceSub, Nat.add_zero, Nat.zero_add, Int.reduceEq, Int.reduceLT]; rfl) ?_; clear hK
          have hj5 : c5 < M2.next := hL.has5.2
          have h5n := (hLn.fx c5 _ (by rw [updM_ne (by omega), updM_ne (by omega), updM_ne (by omega), updM_ne (by omega), fx3_5])).1
          have hjn := (hLn.fx M2.next _ updM_eq).1
          have hNn := hLn.next
          have hj6 := hjn.2
          obtain ⟨_, hLx⟩ := hLn.box (M1 := Mn.bump 1) (GrewX.refl _ _) (hLn.grow ((Grew.refl Mn).bump 1)) hLn.none1 ⟨[.string (strOf (textS s).2), .int .i64 (numS (textS s).1 6).2, .int .i64 (numS (numS (textS s).1 6).1 6).2, .bool (bitF (flagsS (numS (numS (textS s).1 6).1 6).1 4).2 0), .bool (bitF (flagsS (numS (numS (textS s).1 6).1 6).1 4).2 1)], 63, true⟩
          have hg0x : Grew M ((Mn.bump 1).put Mn.next ⟨[.string (strOf (textS s).2), .int .i64 (numS (textS s).1 6).2, .int .i64 (numS (numS (textS s).1 6).1 6).2, .bool (bitF (flagsS (numS (numS (textS s).1 6).1 6).1 4).2 0), .bool (bitF (flagsS (numS (numS (textS s).1 6).1 6).1 4).2 1)], 63, true⟩) := (hg0n.bump 1).put (by omega) (Nat.lt_succ_self _) _
          generalize hX2 : (Mn.bump 1).put Mn.next ⟨[.string (strOf (textS s).2), .int .i64 (numS (textS s).1 6).2, .int .i64 (numS (numS (textS s).1 6).1 6).2, .bool (bitF (flagsS (numS (numS (textS s).1 6).1 6).1 4).2 0), .bool (bitF (flagsS (numS (numS (textS s).1 6).1 6).1 4).2 1)], 63, true⟩ = X2 at hLx hg0x
          have hx2 := (hLx.fx Mn.next _ updM_eq).1
          obtain ⟨v2, X3, happ, hnx3, hkeep, _, hL3⟩ := hLx.append ap_27_27 (v := vs) (n := acc.length) (cells := acc.flatMap shwC) (.inr (.inr (.inr (.inr (.inr (.inr rfl)))))) (flatMap_len shwC_len acc) (hx2.content 5 1 1 rfl) rfl (by omega)
          have h53 := (hL3.fx c5 _ (by rw [updM_ne (by omega), updM_ne (by omega), updM_ne (by omega), updM_ne (by omega), updM_ne (by omega), fx3_5])).1
          have hv2 := (hL3.rows _ (.inl rfl)).row.one
          have hL4 := hL3.set (j := c5) (by rw [updM_ne (by omega), updM_ne (by omega), updM_ne (by omega), updM_ne (by omega), updM_ne (by omega), fx3_5]) ⟨(repC ⟨sevN f1 0, sevN f1 1, sevN f1 2, sevN f1 3, sevN f1 4, sevN f1 5, sevN f1 6, [], (textS t0).2, (textS (textS t0).1).2, bitF fn 0, bitF fn 1, bitF fn 2, ln, lp, (strOf (textS (manyS textS (manyS textS (textS (textS t0).1).1).1).1).2), (acc ++ [(shwS s).2])⟩ (.slice none 0 0) (vmm) (vtm) (vnm) (vpm) (v2)), 29, true⟩
          have fs : stV X3 c5 13 1 v2 = some (X3.put c5 ⟨(repC ⟨sevN f1 0, sevN f1 1, sevN f1 2, sevN f1 3, sevN f1 4, sevN f1 5, sevN f1 6, [], (textS t0).2, (textS (textS t0).1).2, bitF fn 0, bitF fn 1, bitF fn 2, ln, lp, (strOf (textS (manyS textS (manyS textS (textS (textS t0).1).1).1).1).2), (acc ++ [(shwS s).2])⟩ (.slice none 0 0) (vmm) (vtm) (vnm) (vpm) (v2)), 29, true⟩) := st_cell (o := 13) h53 rfl (by rw [repC_len]; decide) hv2
          have hg03x : Grew M X3 := ⟨fun i hi => (hkeep i (by omega)).trans (hg0x.keep i hi), Nat.le_trans hg0x.next hnx3, fun _ => hL3.ok⟩
          have hg04x : Grew M (X3.put c5 ⟨(repC ⟨sevN f1 0, sevN f1 1, sevN f1 2, sevN f1 3, sevN f1 4, sevN f1 5, sevN f1 6, [], (textS t0).2, (textS (textS t0).1).2, bitF fn 0, bitF fn 1, bitF fn 2, ln, lp, (strOf (textS (manyS textS (manyS textS (textS (textS t0).1).1).1).1).2), (acc ++ [(shwS s).2])⟩ (.slice none 0 0) (vmm) (vtm) (vnm) (vpm) (v2)), 29, true⟩) := hg03x.put (by omega) h53.2 _
          refine AWP.lastR fun K hK => ?_
          simp only [go_sem, Nat.reduceEqDiff, Nat.reduceLT, Nat.reduceAdd, Nat.reduceMul, Nat.reduceSub, Nat.add_zero, Nat.zero_add, Int.reduceEq, Int.reduceLT, ld_27, h5n.ld, repC, ld_63, hjn.lda (show ([.string (strOf (textS s).2), .int .i64 (numS (textS s).1 6).2, .int .i64 (numS (numS (textS s).1 6).1 6).2, .bool (bitF (flagsS (numS (numS (textS s).1 6).1 6).1 4).2 0), .bool (bitF (flagsS (numS (numS (textS s).1 6).1 6).1 4).2 1)] : List Value).length = 5 from rfl), bs1_27 ⟨strOf (textS s).2, (numS (textS s).1 6).2, (numS (numS (textS s).1 6).1 6).2, bitF (flagsS (numS (numS (textS s).1 6).1 6).1 4).2 0, bitF (flagsS (numS (numS (textS s).1 6).1 6).1 4).2 1⟩, hX2, happ, st_27, fs]
          refine hK _ _ ?_; clear hK
          refine AWP.lastR fun K hK => ?_
          simp only [go_sem, Nat.reduceEqDiff, Nat.reduceLT, Nat.reduceAdd, Nat.reduceMul, Nat.reduceSub, Nat.add_zero, Nat.zero_add, Int.reduceEq, Int.reduceLT]
          refine hK _ _ ?_; clear hK
          change Then _ _ _ ⟨_, X3.put c5 ⟨(repC ⟨sevN f1 0, sevN f1 1, sevN f1 2, sevN f1 3, sevN f1 4, sevN f1 5, sevN f1 6, [], (textS t0).2, (textS (textS t0).1).2, bitF fn 0, bitF fn 1, bitF fn 2, ln, lp, (strOf (textS (manyS textS (manyS textS (textS (textS t0).1).1).1).1).2), (acc ++ [(shwS s).2])⟩ (.slice none 0 0) (vmm) (vtm) (vnm) (vpm) (v2)), 29, true⟩⟩
          rw [loopP_step shwS hc0 hcode] at hlp
          have hks := shw_keep s ⟨hbs, hls⟩
          refine ⟨c - 1, by omega, by omega, hg04x, (shwS s).1, acc ++ [(shwS s).2], v2, by simp; omega, hL4.less (fun i b' hi => ?_) (fun r hr => ?_), hks.1, hks.2, ?_, ?_⟩ -- ROUND
          · rw [fx3] at hi
            by_cases h5 : i = c5
            · subst h5; rw [updM_eq] at hi ⊢; exact hi
            · rw [updM_ne h5] at hi ⊢
              have hi2 : i = M1.next ∨ i = M.next := by
                unfold updM at hi
                split at hi
                · left; assumption
                · split at hi
                  · right; assumption
                  · cases hi
              rw [updM_ne (by omega), updM_ne (by omega), updM_ne (by omega), updM_ne (by omega), updM_ne (by omega), fx3, updM_ne h5]; exact hi
          · rcases hr with rfl | rfl | rfl | rfl | rfl
            · exact .inr ⟨.inr (.inr (.inl rfl)), fun h => by have := congrArg Rw.e h; simp at this⟩
            · exact .inr ⟨.inr (.inr (.inr (.inl rfl))), fun h => by have := congrArg Rw.e h; simp at this⟩
            · exact .inr ⟨.inr (.inr (.inr (.inr (.inl rfl)))), fun h => by have := congrArg Rw.e h; simp at this⟩
            · exact .inr ⟨.inr (.inr (.inr (.inr (.inr (.inl rfl))))), fun h => by have := congrArg Rw.e h; simp at this⟩
            · exact .inl (by simp; rfl)
          · rw [hlp]; simp
          · simp only [go_sem, Nat.reduceEqDiff, Nat.reduceLT, Nat.reduceAdd, Nat.reduceMul, Nat.reduceSub, Nat.add_zero, Nat.zero_add, Int.reduceEq, Int.reduceLT]
            rw [i64w (by omega) (by omega), show ((cnt - c : Nat) : Int) + 1 = ((cnt - (c - 1) : Nat) : Int) by omega]
      · refine AWP.exit (Then.exit (Then.exit (InBlock.same ?_)))
        have hc0 : c = 0 := by have : ¬ ((cnt - c : Nat) : Int) < cnt := of_decide_eq_false h77; omega
        subst hc0
        rw [loopP_stop shwS (.inl rfl), List.append_nil] at hlp
        refine ⟨(), by simp only [go_sem, Nat.reduceEqDiff, Nat.reduceLT, Nat.reduceAdd, Nat.reduceMul, Nat.reduceSub, Nat.add_zero, Nat.zero_add, Int.reduceEq, Int.reduceLT], hg0, vs, ?_⟩
        rw [hlp]; exact hL
    obtain ⟨hg20, vs, hL20⟩ := hJ
    have hk20 := manyS_keep shwS shw_keep hkw
    obtain ⟨vbm, W1, hcb1, hgb1, hob1, hLb1⟩ := hL20.long (by have := hk20.2; omega) hk20.1
    have hgE0 : Grew M W1 := GrewX.grew hg20 hgb1 hMp
    have hkb1 := text_keep _ hk20
    have hSh0 := hLb1.setC (repC ⟨sevN f1 0, sevN f1 1, sevN f1 2, sevN f1 3, sevN f1 4, sevN f1 5, sevN f1 6, (textS (manyS shwS x0).1).2, (textS t0).2, (textS (textS t0).1).2, bitF fn 0, bitF fn 1, bitF fn 2, ln, lp, (strOf (textS (manyS textS (manyS textS (textS (textS t0).1).1).1).1).2), (manyS shwS x0).2⟩ (vbm) (vmm) (vtm) (vnm) (vpm) (vs))
    have fSh0 : stV W1 c5 4 1 vbm = some (W1.put c5 ⟨(repC ⟨sevN f1 0, sevN f1 1, sevN f1 2, sevN f1 3, sevN f1 4, sevN f1 5, sevN f1 6, (textS (manyS shwS x0).1).2, (textS t0).2, (textS (textS t0).1).2, bitF fn 0, bitF fn 1, bitF fn 2, ln, lp, (strOf (textS (manyS textS (manyS textS (textS (textS t0).1).1).1).1).2), (manyS shwS x0).2⟩ (vbm) (vmm) (vtm) (vnm) (vpm) (vs)), 29, true⟩) := st_cell (o := 4) hLb1.has5 rfl (by rw [repC_len]; decide) hob1.row.one
    have gSh0 : Grew M (W1.put c5 ⟨(repC ⟨sevN f1 0, sevN f1 1, sevN f1 2, sevN f1 3, sevN f1 4, sevN f1 5, sevN f1 6, (textS (manyS shwS x0).1).2, (textS t0).2, (textS (textS t0).1).2, bitF fn 0, bitF fn 1, bitF fn 2, ln, lp, (strOf (textS (manyS textS (manyS textS (textS (textS t0).1).1).1).1).2), (manyS shwS x0).2⟩ (vbm) (vmm) (vtm) (vnm) (vpm) (vs)), 29, true⟩) := hgE0.put (by omega) hLb1.has5.2 _
    generalize hMSh0 : W1.put c5 ⟨(repC ⟨sevN f1 0, sevN f1 1, sevN f1 2, sevN f1 3, sevN f1 4, sevN f1 5, sevN f1 6, (textS (manyS shwS x0).1).2, (textS t0).2, (textS (textS t0).1).2, bitF fn 0, bitF fn 1, bitF fn 2, ln, lp, (strOf (textS (manyS textS (manyS textS (textS (textS t0).1).1).1).1).2), (manyS shwS x0).2⟩ (vbm) (vmm) (vtm) (vnm) (vpm) (vs)), 29, true⟩ = MSh0 at hSh0 fSh0 gSh0
    refine AWP.stepR [2, 4, 5] fun K hK => ?_
    simp only [go_sem, Nat.reduceEqDiff, Nat.reduceLT, Nat.reduceAdd, Nat.reduceMul, Nat.reduceSub, Nat.add_zero, Nat.zero_add, Int.reduceEq, Int.reduceLT, ld_77, (hL20.has4 h45).lda (show ([.pointer (some ⟨p, 0, none⟩)] : List Value).length = 1 from rfl), (hLb1.has4 h45).lda (show ([.pointer (some ⟨p, 0, none⟩)] : List Value).length = 1 from rfl)]
    refine ⟨_, _, hcb1, ?_⟩
    try simp only [go_sem, Nat.reduceEqDiff, Nat.reduceLT, Nat.reduceAdd, Nat.reduceMul, Nat.reduceSub, Nat.add_zero, Nat.zero_add, Int.reduceEq, Int.reduceLT, ld_77, (hL20.has4 h45).lda (show ([.pointer (some ⟨p, 0, none⟩)] : List Value).length = 1 from rfl), (hLb1.has4 h45).lda (show ([.pointer (some ⟨p, 0, none⟩)] : List Value).length = 1 from rfl), st_23, fSh0]
    refine hK _ _ _ (by simp only [go_sem, Nat.reduceEqDiff, Nat.reduceLT, Nat.reduceAdd, Nat.reduceMul, Nat.reduceSub, Nat.add_zero, Nat.zero_add, Int.reduceEq, Int.reduceLT]; rfl) ?_; clear hK
    obtain ⟨re, W2, hce, hge, rfl, hLe⟩ := hSh0.end_ (by have := hkb1.2; omega)
    have hgF0 : Grew M W2 := GrewX.grew gSh0 hge hMp
    refine AWP.stepR [2, 5, 9] fun K hK => ?_
    simp only [go_sem, Nat.reduceEqDiff, Nat.reduceLT, Nat.reduceAdd, Nat.reduceMul, Nat.reduceSub, Nat.add_zero, Nat.zero_add, Int.reduceEq, Int.reduceLT, ld_74, (hSh0.has4 h45).ld]
    refine ⟨_, _, hce, ?_⟩
    refine hK _ _ _ (by simp only [go_sem, Nat.reduceEqDiff, Nat.reduceLT, Nat.reduceAdd, Nat.reduceMul, Nat.reduceSub, Nat.add_zero, Nat.zero_add, Int.reduceEq, Int.reduceLT]; rfl) ?_; clear hK
    have hrep1 : (replyS s0).1 = (textS (manyS shwS x0).1).1 := by rw [← hx0, ← ht0, ← hf1]; rfl
    rw [hrep1] at hgetR hfew
    have hfacts : (endS (textS (manyS shwS x0).1).1).code = 0 → (replyS s0).2 = (⟨sevN f1 0, sevN f1 1, sevN f1 2, sevN f1 3, sevN f1 4, sevN f1 5, sevN f1 6, (textS (manyS shwS x0).1).2, (textS t0).2, (textS (textS t0).1).2, bitF fn 0, bitF fn 1, bitF fn 2, ln, lp, (strOf (textS (manyS textS (manyS textS (textS (textS t0).1).1).1).1).2), (manyS shwS x0).2⟩ : Rep) ∧ ln.length ≤ 1000 ∧ lp.length ≤ 1000 ∧ (manyS shwS x0).2.length ≤ 1000 := fun hc => by
      have z1 : (textS (manyS shwS x0).1).1.code = 0 := Classical.byContradiction fun hn => endS_bad hn hc
      have z2 : (manyS shwS x0).1.code = 0 := Classical.byContradiction fun hn => textS_bad hn z1
      have z3 : x0.code = 0 := Classical.byContradiction fun hn => manyS_bad shwS hn z2
      rw [← hx0] at z3
      have z4 := Classical.byContradiction fun hn => textS_bad hn z3
      have z5 := Classical.byContradiction fun hn => manyS_bad textS hn z4
      have e1 := hlu1 z4
      have e0 := hlu0 z5
      have eq : (replyS s0).2 = (⟨sevN f1 0, sevN f1 1, sevN f1 2, sevN f1 3, sevN f1 4, sevN f1 5, sevN f1 6, (textS (manyS shwS x0).1).2, (textS t0).2, (textS (textS t0).1).2, bitF fn 0, bitF fn 1, bitF fn 2, ln, lp, (strOf (textS (manyS textS (manyS textS (textS (textS t0).1).1).1).1).2), (manyS shwS x0).2⟩ : Rep) := by rw [e0, e1, ← hx0, ← ht0, ← hf1, ← hfn]; rfl
      obtain ⟨q1, q2, q3⟩ := hfew hc
      rw [eq] at q1 q2 q3
      exact ⟨eq, q1, q2, q3⟩
    have hrow : ∀ M' fx s, Lo M3.next M' p D s fx (fun x => x = ⟨vbm, (textS (manyS shwS x0).1).2.length, cB (textS (manyS shwS x0).1).2, 5⟩ ∨ (RQ vmm vtm vnm vpm vs (textS t0).2 (textS (textS t0).1).2 ln lp (manyS shwS x0).2) x) → RepR M' (⟨sevN f1 0, sevN f1 1, sevN f1 2, sevN f1 3, sevN f1 4, sevN f1 5, sevN f1 6, (textS (manyS shwS x0).1).2, (textS t0).2, (textS (textS t0).1).2, bitF fn 0, bitF fn 1, bitF fn 2, ln, lp, (strOf (textS (manyS textS (manyS textS (textS (textS t0).1).1).1).1).2), (manyS shwS x0).2⟩ : Rep) vbm vmm vtm vnm vpm vs := fun M' fx s h => ⟨(h.rows _ (.inl rfl)).row, (h.rows _ (.inr (.inl rfl))).row, (h.rows _ (.inr (.inr (.inl rfl)))).row, (h.rows _ (.inr (.inr (.inr (.inl rfl))))).row, (h.rows _ (.inr (.inr (.inr (.inr (.inl rfl)))))).row, (h.rows _ (.inr (.inr (.inr (.inr (.inr rfl)))))).row⟩
    have hrW := hrow _ _ _ hLe
    have h5e := hLe.has5
    have h2e := hLe.has2 h25 h24
    generalize hQ : (⟨sevN f1 0, sevN f1 1, sevN f1 2, sevN f1 3, sevN f1 4, sevN f1 5, sevN f1 6, (textS (manyS shwS x0).1).2, (textS t0).2, (textS (textS t0).1).2, bitF fn 0, bitF fn 1, bitF fn 2, ln, lp, (strOf (textS (manyS textS (manyS textS (textS (textS t0).1).1).1).1).2), (manyS shwS x0).2⟩ : Rep) = Q at hfacts hrow hrW h5e hLe
    generalize hec : (endS (textS (manyS shwS x0).1).1).code = ec at hfacts hgetR ⊢
    refine AWP.seq ?_
    refine AWP.stepR [2, 5, 9, 114] fun K hK => ?_
    simp only [go_sem, Nat.reduceEqDiff, Nat.reduceLT, Nat.reduceAdd, Nat.reduceMul, Nat.reduceSub, Nat.add_zero, Nat.zero_add, Int.reduceEq, Int.reduceLT]
    refine hK _ _ _ (by simp only [go_sem, Nat.reduceEqDiff, Nat.reduceLT, Nat.reduceAdd, Nat.reduceMul, Nat.reduceSub, Nat.add_zero, Nat.zero_add, Int.reduceEq, Int.reduceLT]; rfl) ?_; clear hK
    refine AWP.condT rfl [2, 5, 9] [(2, .pointer (some ⟨M.next, 0, none⟩)), (5, .pointer (some ⟨c5, 0, none⟩)), (9, .int .i64 (if ec = 0 then checkF Q else ec))] W2 (fun h114 => ?_) (fun h114 => ?_) ?_
    · have h0 : ec = 0 := by simpa using h114
      obtain ⟨f1_, f2_, f3_, f4_⟩ := hfacts h0
      obtain ⟨rk, Mk, hck, hrk, hMk⟩ := check15_spec Q vbm vmm vtm vnm vpm vs W2 hLe.ok hrW (by rw [← hQ]; exact f2_) (by rw [← hQ]; exact f3_) (by rw [← hQ]; exact f4_)
      rw [hrk, hMk] at hck
      refine AWP.lastR fun K hK => ?_
      simp only [go_sem, Nat.reduceEqDiff, Nat.reduceLT, Nat.reduceAdd, Nat.reduceMul, Nat.reduceSub, Nat.add_zero, Nat.zero_add, Int.reduceEq, Int.reduceLT, ld_29, h5e.lda (repC_len ..)]
      refine ⟨_, _, hck, ?_⟩
      refine hK _ _ ?_; clear hK
      exact ⟨by simp only [go_sem, Nat.reduceEqDiff, Nat.reduceLT, Nat.reduceAdd, Nat.reduceMul, Nat.reduceSub, Nat.add_zero, Nat.zero_add, Int.reduceEq, Int.reduceLT]; rw [if_pos h0], rfl⟩
    · have h0 : ec ≠ 0 := by simpa using h114
      refine AWP.skip ?_
      exact ⟨by simp only [go_sem, Nat.reduceEqDiff, Nat.reduceLT, Nat.reduceAdd, Nat.reduceMul, Nat.reduceSub, Nat.add_zero, Nat.zero_add, Int.reduceEq, Int.reduceLT]; rw [if_neg h0], rfl⟩
    refine AWP.seq ?_
    refine AWP.stepR [2, 5, 9, 118] fun K hK => ?_
    simp only [go_sem, Nat.reduceEqDiff, Nat.reduceLT, Nat.reduceAdd, Nat.reduceMul, Nat.reduceSub, Nat.add_zero, Nat.zero_add, Int.reduceEq, Int.reduceLT]
    refine hK _ _ _ (by simp only [go_sem, Nat.reduceEqDiff, Nat.reduceLT, Nat.reduceAdd, Nat.reduceMul, Nat.reduceSub, Nat.add_zero, Nat.zero_add, Int.reduceEq, Int.reduceLT]; rfl) ?_; clear hK
    refine AWP.cond_split rfl (fun h118 => ?_) fun h118 => ?_
    · have hne : (if ec = 0 then checkF Q else ec) ≠ 0 := by simpa using h118
      have hF : getR b = (zR, if ec = 0 then checkF Q else ec) := by
        rw [hgetR]
        by_cases h0 : ec = 0
        · rw [if_pos h0] at hne ⊢
          rw [if_neg (by simpa using h0), (hfacts h0).1, if_neg hne]
        · rw [if_neg h0, if_pos h0]
      have fs : stV W2 M.next 0 17 (.agg zRC.toArray) = some (W2.put M.next ⟨zRC, 29, true⟩) := st_all (n := 17) h2e rfl rfl rfl rfl
      refine AWP.stepR [2, 3] fun K hK => ?_
      simp only [go_sem, Nat.reduceEqDiff, Nat.reduceLT, Nat.reduceAdd, Nat.reduceMul, Nat.reduceSub, Nat.add_zero, Nat.zero_add, Int.reduceEq, Int.reduceLT, bd_29z, st_29, fs]
      refine hK _ _ _ (by simp only [go_sem, Nat.reduceEqDiff, Nat.reduceLT, Nat.reduceAdd, Nat.reduceMul, Nat.reduceSub, Nat.add_zero, Nat.zero_add, Int.reduceEq, Int.reduceLT]; rfl) ?_; clear hK
      obtain ⟨hgz, hhz⟩ := mk_put hgF0 (Nat.le_refl _) h2e.2 ⟨zRC, 29, true⟩
      refine AWP.ret (Then.ret (?_))
      refine Fin.keep (v := .tuple #[.agg zRC.toArray, .int .i64 (if ec = 0 then checkF Q else ec)]) (.inr rfl) (by simp only [go_sem, Nat.reduceEqDiff, Nat.reduceLT, Nat.reduceAdd, Nat.reduceMul, Nat.reduceSub, Nat.add_zero, Nat.zero_add, Int.reduceEq, Int.reduceLT, retV, resV, ld_29, hhz.lda (show zRC.length = 17 from rfl)] <;> rfl) ⟨hgz, zR, .slice none 0 0, .slice none 0 0, .slice none 0 0, .slice none 0 0, .slice none 0 0, .slice none 0 0, by rw [hF]; rfl, ⟨Row_.nil _, Row_.nil _, Row_.nil _, Row_.nil _, Row_.nil _, Row_.nil _⟩, by rw [hF]⟩
    · have hne : (if ec = 0 then checkF Q else ec) = 0 := by simpa using h118
      have h0 : ec = 0 := Classical.byContradiction fun hn => by rw [if_neg hn] at hne; exact hn hne
      rw [if_pos h0] at hne
      have hF : getR b = (Q, 0) := by rw [hgetR, if_neg (by simpa using h0), (hfacts h0).1, if_pos hne]
      have hones : oneCells (repC Q vbm vmm vtm vnm vpm vs) = true := by simp only [oneCells, repC, List.all_cons, List.all_nil, hrW.body.one, hrW.meta_.one, hrW.tags.one, hrW.names.one, hrW.prefixes.one, hrW.shown.one]; rfl
      have fs : stV W2 M.next 0 17 (.agg (repC Q vbm vmm vtm vnm vpm vs).toArray) = some (W2.put M.next ⟨repC Q vbm vmm vtm vnm vpm vs, 29, true⟩) := st_all (n := 17) h2e rfl rfl rfl hones
      have hLz := hLe.set (j := M.next) (fx3_2 h25 h24) ⟨repC Q vbm vmm vtm vnm vpm vs, 29, true⟩
      refine AWP.skip ?_
      refine AWP.stepR [2, 3] fun K hK => ?_
      simp only [go_sem, Nat.reduceEqDiff, Nat.reduceLT, Nat.reduceAdd, Nat.reduceMul, Nat.reduceSub, Nat.add_zero, Nat.zero_add, Int.reduceEq, Int.reduceLT, ld_29, h5e.lda (repC_len ..), st_29, fs]
      refine hK _ _ _ (by simp only [go_sem, Nat.reduceEqDiff, Nat.reduceLT, Nat.reduceAdd, Nat.reduceMul, Nat.reduceSub, Nat.add_zero, Nat.zero_add, Int.reduceEq, Int.reduceLT]; rfl) ?_; clear hK
      obtain ⟨hgz, hhz⟩ := mk_put hgF0 (Nat.le_refl _) h2e.2 ⟨repC Q vbm vmm vtm vnm vpm vs, 29, true⟩
      refine AWP.ret (?_)
      exact Fin.keep (v := .tuple #[.agg (repC Q vbm vmm vtm vnm vpm vs).toArray, .int .i64 0]) (.inr rfl) (by simp only [go_sem, Nat.reduceEqDiff, Nat.reduceLT, Nat.reduceAdd, Nat.reduceMul, Nat.reduceSub, Nat.add_zero, Nat.zero_add, Int.reduceEq, Int.reduceLT, retV, resV, ld_29, hhz.lda (repC_len ..)] <;> rfl) ⟨hgz, Q, vbm, vmm, vtm, vnm, vpm, vs, by rw [hF], hrow _ _ _ hLz, by rw [hF]⟩
end Go.Proofs.Ythheaehpnleiaaa.AX
