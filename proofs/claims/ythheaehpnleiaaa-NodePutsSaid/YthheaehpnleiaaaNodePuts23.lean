/- The reader's methods. -/
import Derived.Test.YthheaehpnleiaaaNodePuts22
namespace Go.Proofs.Ythheaehpnleiaaa.AX
open Go Go.Proofs
set_option maxRecDepth 100000
set_option linter.unusedVariables false
set_option linter.unusedSimpArgs false

def numS (s : Rs) (k : Int) : Rs × Int := ((takeS s k).1, numN (takeS s k).2)
def failS (s : Rs) (c : Int) : Rs := if s.code = 0 then ⟨s.b, c⟩ else s
theorem takeS_bytes {s : Rs} (h : BytB s.b) (k : Int) : BytB (takeS s k).1.b ∧ BytB (takeS s k).2 := by
  unfold takeS
  split
  · split
    · exact ⟨h, fun x hx => by cases hx⟩
    · exact ⟨fun x hx => h x (List.mem_of_mem_drop hx), fun x hx => h x (List.mem_of_mem_take hx)⟩
  · exact ⟨h, fun x hx => by cases hx⟩
theorem takeS_len (s : Rs) (k : Int) : (takeS s k).1.b.length ≤ s.b.length ∧ (takeS s k).2.length ≤ s.b.length ∧ (0 ≤ k → ((takeS s k).2.length : Int) ≤ k) := by
  unfold takeS
  split
  · split
    · exact ⟨Nat.le_refl _, by simp, fun h => by simpa using h⟩
    · exact ⟨by simp only [List.length_drop]; omega, by simp only [List.length_take]; omega, fun h => by simp only [List.length_take]; omega⟩
  · exact ⟨Nat.le_refl _, by simp, fun h => by simpa using h⟩

theorem Within.put {M : Mem} {j : Nat} (h : M.get j = none) (b : Blk) : Within M.get (M.put j b).get := fun i c hi => by
  rw [Mem.get_put, if_neg (by rintro rfl; rw [h] at hi; cases hi)]; exact hi
theorem Ok.put {M : Mem} (hok : Ok M) {j : Nat} (hj : j < M.next) (b : Blk) : Ok (M.put j b) := fun i c hi => by
  rw [Mem.get_put] at hi
  by_cases hij : i = j
  · rw [hij]; exact hj
  · rw [if_neg hij] at hi; exact hok i c hi
theorem Row_.within {M M1 : Mem} {v : Value} {n : Nat} {cells : List Value} (h : Row_ M v n cells) (hw : Within M.get M1.get) (hn : M.next ≤ M1.next) : Row_ M1 v n cells := by
  rcases h with h | ⟨b, o, c, blk, h1, h2, h3⟩
  · exact .inl h
  · exact .inr ⟨b, o, c, blk, h1, ⟨hw _ _ h2.1, Nat.lt_of_lt_of_le h2.2 hn⟩, h3⟩
theorem RowE.within {M M1 : Mem} {v : Value} {n : Nat} {cells : List Value} {e : TypeId} (h : RowE M v n cells e) (hw : Within M.get M1.get) (hn : M.next ≤ M1.next) : RowE M1 v n cells e := by
  obtain ⟨b, o, c, blk, h1, h0, h2, h3⟩ := h
  exact ⟨b, o, c, blk, h1, h0, ⟨hw _ _ h2.1, Nat.lt_of_lt_of_le h2.2 hn⟩, h3⟩
theorem RdS.within {M M1 : Mem} {p : Nat} {D : Nat → Prop} {s : Rs} (h : RdS M p D s) (hw : Within M.get M1.get) (hn : M.next ≤ M1.next) : RdS M1 p D s := by
  obtain ⟨vb, h1, h2, h3⟩ := h
  exact ⟨vb, ⟨hw _ _ h1.1, Nat.lt_of_lt_of_le h1.2 hn⟩, h2.within hw hn, h3⟩

theorem number66_spec (p : Nat) (D : Nat → Prop) (s : Rs) (k : Int) (M : Mem) (hok : Ok M) (hs : RdS M p D s) (hl : s.b.length ≤ 4611686018427387904) (hb : BytB s.b) (hk : 0 ≤ k ∧ k ≤ 8) :
    ∃ r M', ACall Try.prog 66 #[.pointer (some ⟨p, 0, none⟩), .int .i64 k] M r M' ∧ GrewX p M M' ∧ RdS M' p D (numS s k).1 ∧ r = .int .u64 (numS s k).2 := by
  refine ACall.fin (args := [.pointer (some ⟨p, 0, none⟩), .int .i64 k]) (k := 9) (rs := [.tmp 4]) Try.func66 rfl rfl rfl (Nat.le_of_ble_eq_true rfl) ?_
  obtain ⟨r1, M1, hc1, hg1, hs1, hr1, ha1⟩ := take90_spec p D s k M hs hl
  have hlen := (takeS_len s k).2.2 hk.1
  obtain ⟨r2, M2, hc2, hr2, hM2⟩ := get99_spec r1 (takeS s k).2 M1 (hg1.ok hok) hr1 (takeS_bytes hb k).2 (by omega)
  rw [hr2, hM2] at hc2
  refine AWP.stepR [0, 1] fun K hK => ?_
  simp only [go_sem, Nat.reduceEqDiff, Nat.reduceLT, Nat.reduceAdd, Nat.reduceMul, Nat.reduceSub, Nat.add_zero, Nat.zero_add, Int.reduceEq, Int.reduceLT]
  refine hK _ _ _ (by simp only [go_sem, Nat.reduceEqDiff, Nat.reduceLT, Nat.reduceAdd, Nat.reduceMul, Nat.reduceSub, Nat.add_zero, Nat.zero_add, Int.reduceEq, Int.reduceLT]; rfl) ?_; clear hK
  refine AWP.stepR [4] fun K hK => ?_
  simp only [go_sem, Nat.reduceEqDiff, Nat.reduceLT, Nat.reduceAdd, Nat.reduceMul, Nat.reduceSub, Nat.add_zero, Nat.zero_add, Int.reduceEq, Int.reduceLT]
  refine ⟨_, _, hc1, ?_⟩
  refine ⟨_, _, hc2, ?_⟩
  refine hK _ _ _ (by simp only [go_sem, Nat.reduceEqDiff, Nat.reduceLT, Nat.reduceAdd, Nat.reduceMul, Nat.reduceSub, Nat.add_zero, Nat.zero_add, Int.reduceEq, Int.reduceLT]; rfl) ?_; clear hK
  refine AWP.ret (?_)
  exact Fin.keep (.inr rfl) rfl ⟨hg1, hs1, rfl⟩

theorem bytes49_spec (p : Nat) (D : Nat → Prop) (s : Rs) (k : Int) (M : Mem) (hok : Ok M) (hs : RdS M p D s) (hl : s.b.length ≤ 1000000000) :
    ∃ r M', ACall Try.prog 49 #[.pointer (some ⟨p, 0, none⟩), .int .i64 k] M r M' ∧ GrewX p M M' ∧ RdS M' p D (takeS s k).1 ∧ OwnB M M' r (takeS s k).2 5 := by
  refine ACall.fin (args := [.pointer (some ⟨p, 0, none⟩), .int .i64 k]) (k := 10) (rs := [.tmp 4]) Try.func49 rfl rfl rfl (Nat.le_of_ble_eq_true rfl) ?_
  have hgb := (Grew.refl M).bump 1
  obtain ⟨r1, M1, hc1, hg1, hs1, hr1, ha1⟩ := take90_spec p D s k (M.bump 1) (hs.grew hgb) (by omega)
  have hlt : M.next < M1.next := by have := hg1.next; rw [Mem.next_bump] at this; omega
  have hp := hs.lt
  have hnone : M1.get M.next = none := by
    rw [hg1.keep M.next (by rw [Mem.next_bump]; omega) (by omega), Mem.get_bump]
    cases h : M.get M.next with
    | none => rfl
    | some b => have := hok _ _ h; omega
  have hw : Within M1.get (M1.put M.next ⟨[r1], 23, true⟩).get := Within.put hnone _
  have hok2 : Ok (M1.put M.next ⟨[r1], 23, true⟩) := (Grew.refl M1 |>.ok (hg1.ok (hgb.ok hok))).put hlt _
  have hh2 : Has (M1.put M.next ⟨[r1], 23, true⟩) M.next ⟨[r1], 23, true⟩ := Has.put hlt _
  have hs2 := hs1.within hw (Nat.le_refl _)
  have hr2 := hr1.within hw (Nat.le_refl _)
  have hlen := (takeS_len s k).2.1
  obtain ⟨r3, M3, hc3, hg3, ho3, hcap⟩ := joinE37_spec (.slice (some ⟨M.next, 0, none⟩) 1 1) [r1] [(takeS s k).2] (M1.put M.next ⟨[r1], 23, true⟩) hok2 (Row_.of hh2) (.cons hr2 (.nil _)) (by simp; omega) (by simp)
  rw [show [(takeS s k).2].flatten = (takeS s k).2 by simp] at ho3
  refine AWP.stepR [0, 1] fun K hK => ?_
  simp only [go_sem, Nat.reduceEqDiff, Nat.reduceLT, Nat.reduceAdd, Nat.reduceMul, Nat.reduceSub, Nat.add_zero, Nat.zero_add, Int.reduceEq, Int.reduceLT]
  refine hK _ _ _ (by simp only [go_sem, Nat.reduceEqDiff, Nat.reduceLT, Nat.reduceAdd, Nat.reduceMul, Nat.reduceSub, Nat.add_zero, Nat.zero_add, Int.reduceEq, Int.reduceLT]; rfl) ?_; clear hK
  refine AWP.stepR [4] fun K hK => ?_
  simp only [go_sem, Nat.reduceEqDiff, Nat.reduceLT, Nat.reduceAdd, Nat.reduceMul, Nat.reduceSub, Nat.add_zero, Nat.zero_add, Int.reduceEq, Int.reduceLT]
  refine ⟨_, _, hc1, ?_⟩
  try simp only [go_sem, Nat.reduceEqDiff, Nat.reduceLT, Nat.reduceAdd, Nat.reduceMul, Nat.reduceSub, Nat.add_zero, Nat.zero_add, Int.reduceEq, Int.reduceLT, hr1.one]
  refine ⟨_, _, hc3, ?_⟩
  refine hK _ _ _ (by simp only [go_sem, Nat.reduceEqDiff, Nat.reduceLT, Nat.reduceAdd, Nat.reduceMul, Nat.reduceSub, Nat.add_zero, Nat.zero_add, Int.reduceEq, Int.reduceLT]; rfl) ?_; clear hK
  refine AWP.ret (?_)
  refine Fin.keep (.inr rfl) rfl ⟨⟨fun i hi hip => ?_, ?_, fun _ => hg3.ok hok2⟩, hs2.grew hg3, ho3.base (by simp only [Mem.next_put]; omega)⟩
  · rw [hg3.keep i (by simp only [Mem.next_put]; omega), Mem.get_put, if_neg (by omega)]
    exact hg1.keep i (by rw [Mem.next_bump]; omega) hip
  · show M.next ≤ M3.next
    have := hg3.next; simp only [Mem.next_put] at this; omega

theorem bd_123 {v : Value} (h : v.oneCell' = true) : buildV Try.prog 123 [(0, v)] = some (.agg #[v, .int .i64 0]) := by
  cases v <;> first | rfl | (simp [Value.oneCell'] at h)
theorem read48_spec (v : Value) (l : List Int) (M : Mem) (hok : Ok M) (hv : RowB M v l) (hl : l.length ≤ 1000000000) :
    ∃ r M', ACall Try.prog 48 #[v] M r M' ∧ Grew M M' ∧ ∃ p, r = .pointer (some ⟨p, 0, none⟩) ∧ p = M.next + 1 ∧ RdS M' p (fun j => j ≤ M.next + 1 ∨ M'.next ≤ j) ⟨l, 0⟩ := by
  refine ACall.fin (args := [v]) (k := 8) (rs := [.tmp 2]) Try.func48 rfl rfl rfl (Nat.le_of_ble_eq_true rfl) ?_
  have hgb := (Grew.refl M).bump 2
  have hlt1 : M.next < (M.bump 2).next := by rw [Mem.next_bump]; omega
  obtain ⟨hg1, hh1⟩ := mk_put hgb (Nat.le_refl _) hlt1 ⟨[v], 23, true⟩
  obtain ⟨r2, M2, hc2, hg2, ho2, hcap⟩ := joinE37_spec (.slice (some ⟨M.next, 0, none⟩) 1 1) [v] [l] ((M.bump 2).put M.next ⟨[v], 23, true⟩) (hg1.ok hok) (Row_.of hh1) (.cons (hv.grew hg1) (.nil _)) (by simp; omega) (by simp)
  rw [show [l].flatten = l by simp] at ho2
  have hE := RowE.own ho2 hcap
  have hlt2 : M.next + 1 < M2.next := by have := hg2.next; simp only [Mem.next_put, Mem.next_bump] at this; omega
  obtain ⟨hg3, hh3⟩ := mk_put (hg1.trans hg2) (show M.next ≤ M.next + 1 by omega) hlt2 ⟨[r2, .int .i64 0], 123, true⟩
  have ha : Apart r2 (M.next + 1) := ho2.apart (.inl (by simp only [Mem.next_put, Mem.next_bump]; omega))
  have hE3 : RowE (M2.put (M.next + 1) ⟨[r2, .int .i64 0], 123, true⟩) r2 l.length (cB l) 5 := hE.x (p := M.next + 1) ((GrewX.refl _ _).put hlt2 _) ha
  refine AWP.stepR [0] fun K hK => ?_
  simp only [go_sem, Nat.reduceEqDiff, Nat.reduceLT, Nat.reduceAdd, Nat.reduceMul, Nat.reduceSub, Nat.add_zero, Nat.zero_add, Int.reduceEq, Int.reduceLT]
  refine hK _ _ _ (by simp only [go_sem, Nat.reduceEqDiff, Nat.reduceLT, Nat.reduceAdd, Nat.reduceMul, Nat.reduceSub, Nat.add_zero, Nat.zero_add, Int.reduceEq, Int.reduceLT]; rfl) ?_; clear hK
  refine AWP.stepR [2] fun K hK => ?_
  simp only [go_sem, Nat.reduceEqDiff, Nat.reduceLT, Nat.reduceAdd, Nat.reduceMul, Nat.reduceSub, Nat.add_zero, Nat.zero_add, Int.reduceEq, Int.reduceLT, hv.one]
  refine ⟨_, _, hc2, ?_⟩
  try simp only [go_sem, Nat.reduceEqDiff, Nat.reduceLT, Nat.reduceAdd, Nat.reduceMul, Nat.reduceSub, Nat.add_zero, Nat.zero_add, Int.reduceEq, Int.reduceLT, bd_123 ho2.row.one]
  refine hK _ _ _ (by simp only [go_sem, Nat.reduceEqDiff, Nat.reduceLT, Nat.reduceAdd, Nat.reduceMul, Nat.reduceSub, Nat.add_zero, Nat.zero_add, Int.reduceEq, Int.reduceLT]; rfl) ?_; clear hK
  refine AWP.ret (?_)
  refine Fin.keep (.inr rfl) rfl ⟨hg3, M.next + 1, rfl, rfl, r2, hh3, hE3, .inl (Nat.le_refl _), fun j hj => ?_⟩
  rcases hj with hj | hj
  · exact ho2.apart (.inl (by simp only [Mem.next_put, Mem.next_bump]; omega))
  · exact ho2.apart (.inr (by simpa only [Mem.next_put] using hj))

theorem code55_spec (p : Nat) (D : Nat → Prop) (s : Rs) (M : Mem) (hok : Ok M) (hs : RdS M p D s) : ∃ r M', ACall Try.prog 55 #[.pointer (some ⟨p, 0, none⟩)] M r M' ∧ r = .int .i64 s.code ∧ M' = M := by
  obtain ⟨vb, hh, hv, hDp, hD⟩ := hs
  refine ACall.fin (args := [.pointer (some ⟨p, 0, none⟩)]) (k := 7) (rs := [.tmp 2]) Try.func55 rfl rfl rfl (Nat.le_of_ble_eq_true rfl) ?_
  refine AWP.stepR [0] fun K hK => ?_
  simp only [go_sem, Nat.reduceEqDiff, Nat.reduceLT, Nat.reduceAdd, Nat.reduceMul, Nat.reduceSub, Nat.add_zero, Nat.zero_add, Int.reduceEq, Int.reduceLT]
  refine hK _ _ _ (by simp only [go_sem, Nat.reduceEqDiff, Nat.reduceLT, Nat.reduceAdd, Nat.reduceMul, Nat.reduceSub, Nat.add_zero, Nat.zero_add, Int.reduceEq, Int.reduceLT]; rfl) ?_; clear hK
  refine AWP.stepR [2] fun K hK => ?_
  simp only [go_sem, Nat.reduceEqDiff, Nat.reduceLT, Nat.reduceAdd, Nat.reduceMul, Nat.reduceSub, Nat.add_zero, Nat.zero_add, Int.reduceEq, Int.reduceLT, ld_22, hh.ld]
  refine hK _ _ _ (by simp only [go_sem, Nat.reduceEqDiff, Nat.reduceLT, Nat.reduceAdd, Nat.reduceMul, Nat.reduceSub, Nat.add_zero, Nat.zero_add, Int.reduceEq, Int.reduceLT]; rfl) ?_; clear hK
  refine AWP.ret (?_)
  exact Fin.plain (.inr rfl) rfl rfl hok (Grew.refl _) ⟨rfl, rfl⟩
theorem left68_spec (p : Nat) (D : Nat → Prop) (s : Rs) (M : Mem) (hok : Ok M) (hs : RdS M p D s) : ∃ r M', ACall Try.prog 68 #[.pointer (some ⟨p, 0, none⟩)] M r M' ∧ r = .int .i64 s.b.length ∧ M' = M := by
  obtain ⟨vb, hh, hv, hDp, hD⟩ := hs
  refine ACall.fin (args := [.pointer (some ⟨p, 0, none⟩)]) (k := 8) (rs := [.tmp 2]) Try.func68 rfl rfl rfl (Nat.le_of_ble_eq_true rfl) ?_
  refine AWP.stepR [0] fun K hK => ?_
  simp only [go_sem, Nat.reduceEqDiff, Nat.reduceLT, Nat.reduceAdd, Nat.reduceMul, Nat.reduceSub, Nat.add_zero, Nat.zero_add, Int.reduceEq, Int.reduceLT]
  refine hK _ _ _ (by simp only [go_sem, Nat.reduceEqDiff, Nat.reduceLT, Nat.reduceAdd, Nat.reduceMul, Nat.reduceSub, Nat.add_zero, Nat.zero_add, Int.reduceEq, Int.reduceLT]; rfl) ?_; clear hK
  refine AWP.stepR [2] fun K hK => ?_
  simp only [go_sem, Nat.reduceEqDiff, Nat.reduceLT, Nat.reduceAdd, Nat.reduceMul, Nat.reduceSub, Nat.add_zero, Nat.zero_add, Int.reduceEq, Int.reduceLT, ld_23, hh.ld, hv.row.len es_23]
  refine hK _ _ _ (by simp only [go_sem, Nat.reduceEqDiff, Nat.reduceLT, Nat.reduceAdd, Nat.reduceMul, Nat.reduceSub, Nat.add_zero, Nat.zero_add, Int.reduceEq, Int.reduceLT]; rfl) ?_; clear hK
  refine AWP.ret (?_)
  exact Fin.plain (.inr rfl) rfl rfl hok (Grew.refl _) ⟨rfl, rfl⟩
end Go.Proofs.Ythheaehpnleiaaa.AX
