/- A node read from a page: what is read, in plain words; and what is held while it is read. -/
import Derived.Test.YthheaehpnleiaaaNodePuts24
import Derived.Test.YthheaehpnleiaaaNodePuts25
namespace Go.Proofs.Ythheaehpnleiaaa.AX
open Go Go.Proofs
set_option maxRecDepth 100000
set_option linter.unusedVariables false
set_option linter.unusedSimpArgs false

section
variable {N : Nat} {M M1 : Mem} {p : Nat} {D : Nat → Prop} {s s' : Rs} {fx : Mm} {R R' : Rw → Prop}
theorem none_keep (hok : Ok M) (hg : GrewX p (M.bump 1) M1) (hp : p ≠ M.next) : M1.get M.next = none := by
  rw [hg.keep M.next (by rw [Mem.next_bump]; omega) (Ne.symm hp), Mem.get_bump]
  cases h : M.get M.next with
  | none => rfl
  | some b => have := hok _ _ h; omega
theorem Lo.num (h : Lo N M p D s fx R) (k : Int) (hl : s.b.length ≤ 1000) (hb : BytB s.b) (hk : 0 ≤ k ∧ k ≤ 8) :
    ∃ r M', ACall Try.prog 66 #[.pointer (some ⟨p, 0, none⟩), .int .i64 k] M r M' ∧ GrewX p M M' ∧ Lo N M' p D (numS s k).1 fx R ∧ r = .int .u64 (numS s k).2 := by
  obtain ⟨r, M', hc, hg, hs, hr⟩ := number66_spec p D s k M h.ok h.rd (by omega) hb hk
  exact ⟨r, M', hc, hg, h.rdr hg hs, hr⟩
theorem Lo.bytes (h : Lo N M p D s fx R) (k : Int) (hl : s.b.length ≤ 1000) :
    ∃ r M', ACall Try.prog 49 #[.pointer (some ⟨p, 0, none⟩), .int .i64 k] M r M' ∧ GrewX p M M' ∧ OwnB M M' r (takeS s k).2 5 ∧ Lo N M' p D (takeS s k).1 fx (fun x => x = ⟨r, (takeS s k).2.length, cB (takeS s k).2, 5⟩ ∨ R x) := by
  obtain ⟨r, M', hc, hg, hs, ho⟩ := bytes49_spec p D s k M h.ok h.rd (by omega)
  exact ⟨r, M', hc, hg, ho, (h.rdr hg hs).add (r := ⟨r, (takeS s k).2.length, cB (takeS s k).2, 5⟩) ho h.next (fun i b hi => ho.apart (.inl (h.fx i b hi).1.2)) fun a ha => own_sep ho (h.rows a ha) (Nat.le_refl _)⟩
/-- a block of its own -/
theorem Lo.box (h : Lo N M p D s fx R) (hg : GrewX p (M.bump 1) M1) (h' : Lo N M1 p D s' fx R') (hR : ∀ r, R' r → R r ∨ Apart r.v M.next) (b : Blk) : M.next < M1.next ∧ Lo N (M1.put M.next b) p D s' (updM fx M.next b) R' := by
  have hp : p ≠ M.next := by have := h.pN; have := h.next; omega
  have hlt : M.next < M1.next := by have := hg.next; rw [Mem.next_bump] at this; omega
  refine ⟨hlt, h'.new hlt h.next (none_keep h.ok hg hp) (fun r hr => ?_) b⟩
  rcases hR r hr with hr | hr
  · exact (h.rows r hr).apart (.inr (Nat.le_refl _))
  · exact hr
end
theorem GrewX.put0 {M0 M : Mem} (hg : Grew M0 M) {j : Nat} (hj : M0.next ≤ j) (hlt : j < M.next) (b : Blk) : Grew M0 (M.put j b) := (mk_put hg hj hlt b).1

/-! ### what is read -/
theorem takeS_ok {s : Rs} {k : Int} (h : (takeS s k).1.code = 0) : s.code = 0 ∧ 0 ≤ k ∧ k ≤ s.b.length ∧ (takeS s k).1.b = s.b.drop k.toNat ∧ (takeS s k).2 = s.b.take k.toNat := by
  unfold takeS at h ⊢
  split at h
  · rename_i h0
    split at h
    · cases h
    · rename_i h1
      rw [if_pos h0, if_neg h1]
      exact ⟨h0, by omega, by omega, rfl, rfl⟩
  · rename_i h0; exact absurd h h0
theorem takeS_on {s : Rs} {k : Int} (h0 : s.code = 0) (h1 : 0 ≤ k) (h2 : k ≤ s.b.length) : takeS s k = (⟨s.b.drop k.toNat, 0⟩, s.b.take k.toNat) := by
  rw [takeS, if_pos h0, if_neg (by omega)]
theorem takeS_in (a b : List Int) {k : Nat} (hk : a.length = k) : takeS ⟨a ++ b, 0⟩ (k : Int) = (⟨b, 0⟩, a) := by
  rw [takeS_on rfl (by omega) (by simp; omega)]
  simp only [Int.toNat_natCast, ← hk, List.drop_left, List.take_left]
theorem numS_b {s : Rs} (hb : BytB s.b) {k : Nat} : 0 ≤ (numS s k).2 ∧ (numS s k).2 < 256 ^ k := by
  have h1 := (takeS_bytes hb k).2
  have h2 := (takeS_len s k).2.2 (by omega)
  have h3 := numN_bound h1 (takeS s k).2.length
  rw [List.take_length] at h3
  refine ⟨h3.1, Int.lt_of_lt_of_le h3.2 ?_⟩
  have : ∀ a b : Nat, a ≤ b → (256 : Int) ^ a ≤ 256 ^ b := fun a b h => by
    exact_mod_cast Nat.pow_le_pow_right (n := 256) (by omega) h
  exact this _ _ (by omega)
theorem numS_b1 {s : Rs} (hb : BytB s.b) : 0 ≤ (numS s 1).2 ∧ (numS s 1).2 < 256 := numS_b (k := 1) hb
theorem numS_b2 {s : Rs} (hb : BytB s.b) : 0 ≤ (numS s 2).2 ∧ (numS s 2).2 < 65536 := numS_b (k := 2) hb
theorem numS_b8 {s : Rs} (hb : BytB s.b) : 0 ≤ (numS s 8).2 ∧ (numS s 8).2 < 18446744073709551616 := numS_b (k := 8) hb
theorem numS_bytes {s : Rs} (h : BytB s.b) (k : Int) : BytB (numS s k).1.b := (takeS_bytes h k).1
theorem numS_len (s : Rs) (k : Int) : (numS s k).1.b.length ≤ s.b.length := (takeS_len s k).1

def capE (e : Int) : Int := if 4611686018427387904 < e then 4611686018427387904 else e
abbrev PrP := List Int × List Int
abbrev KdP := List Int × Int × Int
def prP (s : Rs) : Rs × PrP := ((takeS (takeS (numS (numS s 1).1 1).1 (numS s 1).2).1 (numS (numS s 1).1 1).2).1, (takeS (numS (numS s 1).1 1).1 (numS s 1).2).2, (takeS (takeS (numS (numS s 1).1 1).1 (numS s 1).2).1 (numS (numS s 1).1 1).2).2)
def kdP (s : Rs) : Rs × KdP := ((takeS (numS (numS (numS s 1).1 2).1 8).1 (numS s 1).2).1, (takeS (numS (numS (numS s 1).1 2).1 8).1 (numS s 1).2).2, (numS (numS s 1).1 2).2, capE (numS (numS (numS s 1).1 2).1 8).2)
def loopP {α : Type} (f : Rs → Rs × α) : Nat → Rs → Rs × List α
  | 0, s => (s, [])
  | n + 1, s => if s.code = 0 then ((loopP f n (f s).1).1, (f s).2 :: (loopP f n (f s).1).2) else (s, [])
structure NodeP where
  leaf : Bool
  pairs : List PrP
  kids : List KdP
def NodeP.of (n : Node) : NodeP := ⟨n.leaf, n.pairs.map fun p => (p.key, p.val), n.kids.map fun k => (k.key, k.page, k.epoch)⟩
def NodeP.node (n : NodeP) : Node := ⟨n.leaf, n.pairs.map fun p => ⟨.slice none 0 0, .slice none 0 0, p.1, p.2⟩, n.kids.map fun k => ⟨.slice none 0 0, k.1, k.2.1, k.2.2⟩⟩
def zP : NodeP := ⟨false, [], []⟩
/-- the things of a page, behind its head -/
def thingsF (leaf : Bool) (n : Nat) (s : Rs) : Rs × NodeP := if leaf then ((loopP prP n s).1, ⟨true, (loopP prP n s).2, []⟩) else ((loopP kdP n s).1, ⟨false, [], (loopP kdP n s).2⟩)
def endF (x : Rs × NodeP) : NodeP × Int :=
  if x.1.code ≠ 0 then (zP, x.1.code)
  else if x.1.b = List.replicate x.1.b.length 0 then (if checkN x.2.node = 0 then (x.2, 0) else (zP, checkN x.2.node)) else (zP, 4)
/-- the node of a page, and what is wrong with it -/
def getF (b : List Int) : NodeP × Int :=
  if (b.length : Int) = 496 then
    (if (numS ⟨b, 0⟩ 1).2 > 1 then (zP, 4)
    else endF (thingsF ((numS ⟨b, 0⟩ 1).2 == 1) (numS (numS ⟨b, 0⟩ 1).1 2).2.toNat (numS (numS ⟨b, 0⟩ 1).1 2).1))
  else (zP, 17)

theorem prP_bytes {s : Rs} (h : BytB s.b) : BytB (prP s).1.b ∧ BytB (prP s).2.1 ∧ BytB (prP s).2.2 :=
  have h1 := takeS_bytes (numS_bytes (numS_bytes h 1) 1) (numS s 1).2
  have h2 := takeS_bytes h1.1 (numS (numS s 1).1 1).2
  ⟨h2.1, h1.2, h2.2⟩
theorem kdP_bytes {s : Rs} (h : BytB s.b) : BytB (kdP s).1.b ∧ BytB (kdP s).2.1 :=
  takeS_bytes (numS_bytes (numS_bytes (numS_bytes h 1) 2) 8) (numS s 1).2
theorem prP_len {s : Rs} (h : (prP s).1.code = 0) : s.code = 0 ∧ 2 + (((prP s).2.1.length : Int) + (prP s).2.2.length) + ((prP s).1.b.length : Int) = s.b.length := by
  obtain ⟨h1, h2, h3, h4, h5⟩ := takeS_ok h
  obtain ⟨g1, g2, g3, g4, g5⟩ := takeS_ok h1
  obtain ⟨f1, f2, f3, f4, f5⟩ := takeS_ok (s := (numS s 1).1) (k := 1) g1
  obtain ⟨e1, e2, e3, e4, e5⟩ := takeS_ok (s := s) (k := 1) f1
  refine ⟨e1, ?_⟩
  have i1 := congrArg List.length h4; have i2 := congrArg List.length h5
  have i3 := congrArg List.length g4; have i4 := congrArg List.length g5
  have i5 := congrArg List.length f4; have i6 := congrArg List.length e4
  simp only [List.length_drop, List.length_take] at i1 i2 i3 i4 i5 i6
  change (prP s).1.b.length = _ at i1
  change (prP s).2.2.length = _ at i2
  change (prP s).2.1.length = _ at i4
  change (numS (numS s 1).1 1).1.b.length = _ at i5
  change (numS s 1).1.b.length = _ at i6
  omega
theorem kdP_len {s : Rs} (h : (kdP s).1.code = 0) : s.code = 0 ∧ 11 + ((kdP s).2.1.length : Int) + ((kdP s).1.b.length : Int) = s.b.length := by
  obtain ⟨h1, h2, h3, h4, h5⟩ := takeS_ok h
  obtain ⟨g1, g2, g3, g4, g5⟩ := takeS_ok (s := (numS (numS s 1).1 2).1) (k := 8) h1
  obtain ⟨f1, f2, f3, f4, f5⟩ := takeS_ok (s := (numS s 1).1) (k := 2) g1
  obtain ⟨e1, e2, e3, e4, e5⟩ := takeS_ok (s := s) (k := 1) f1
  refine ⟨e1, ?_⟩
  have i1 := congrArg List.length h4; have i2 := congrArg List.length h5
  have i3 := congrArg List.length g4
  have i5 := congrArg List.length f4; have i6 := congrArg List.length e4
  simp only [List.length_drop, List.length_take] at i1 i2 i3 i5 i6
  change (kdP s).1.b.length = _ at i1
  change (kdP s).2.1.length = _ at i2
  change (numS (numS (numS s 1).1 2).1 8).1.b.length = _ at i3
  change (numS (numS s 1).1 2).1.b.length = _ at i5
  change (numS s 1).1.b.length = _ at i6
  omega
theorem prP_le (s : Rs) : (prP s).1.b.length ≤ s.b.length := Nat.le_trans (takeS_len _ _).1 (Nat.le_trans (takeS_len _ _).1 (Nat.le_trans (numS_len _ _) (numS_len _ _)))
theorem kdP_le (s : Rs) : (kdP s).1.b.length ≤ s.b.length := Nat.le_trans (takeS_len _ _).1 (Nat.le_trans (numS_len _ _) (Nat.le_trans (numS_len _ _) (numS_len _ _)))

/-! ### what a node's contents tell -/
theorem of_sum {n : Node} : sumF prSz (NodeP.of n).node.pairs = sumF prSz n.pairs ∧ sumF kdSz (NodeP.of n).node.kids = sumF kdSz n.kids := by
  have h1 : ∀ l : List Pr, sumF prSz (l.map fun p => (⟨.slice none 0 0, .slice none 0 0, p.key, p.val⟩ : Pr)) = sumF prSz l := fun l => by
    induction l with
    | nil => rfl
    | cons a l ih => rw [List.map_cons, sumF, sumF, ih]; rfl
  have h2 : ∀ l : List Kd, sumF kdSz (l.map fun p => (⟨.slice none 0 0, p.key, p.page, p.epoch⟩ : Kd)) = sumF kdSz l := fun l => by
    induction l with
    | nil => rfl
    | cons a l ih => rw [List.map_cons, sumF, sumF, ih]; rfl
  refine ⟨?_, ?_⟩
  · rw [← h1 n.pairs]; simp [NodeP.node, NodeP.of, Function.comp_def]
  · rw [← h2 n.kids]; simp [NodeP.node, NodeP.of, Function.comp_def]
theorem of_check (n : Node) : checkN (NodeP.of n).node = checkN n := by
  have hf : ∀ l : List Kd, firstF (l.map fun p => (⟨.slice none 0 0, p.key, p.page, p.epoch⟩ : Kd)) = firstF l := fun l => by
    induction l with
    | nil => rfl
    | cons a l ih => rw [List.map_cons, firstF, firstF, ih]; rfl
  have hk : (NodeP.of n).node.kids = n.kids.map fun p => (⟨.slice none 0 0, p.key, p.page, p.epoch⟩ : Kd) := by simp [NodeP.node, NodeP.of, Function.comp_def]
  have hp : (NodeP.of n).node.pairs = n.pairs.map fun p => (⟨.slice none 0 0, .slice none 0 0, p.key, p.val⟩ : Pr) := by simp [NodeP.node, NodeP.of, Function.comp_def]
  have hparts : partsF (NodeP.of n).node = partsF n := by
    unfold partsF
    rw [hk, hf, hp, List.all_map]; rfl
  have hsz : sizeF (NodeP.of n).node = sizeF n := by rw [sizeF, sizeF, of_sum.1, of_sum.2]
  have hform : formOk (NodeP.of n).node = formOk n := by rw [formOk, formOk, hk, hp, List.length_map, List.length_map]; rfl
  have e1 : (NodeP.of n).node.pairs.map Pr.key = n.pairs.map Pr.key := by rw [hp, List.map_map]; rfl
  have e2 : (NodeP.of n).node.kids.map Kd.key = n.kids.map Kd.key := by rw [hk, List.map_map]; rfl
  unfold checkN
  rw [hparts, hsz, hform, e1, e2]
end Go.Proofs.Ythheaehpnleiaaa.AX

/- Two rows of bytes the same, by the program (in one time). -/
namespace Go.Proofs.Ythheaehpnleiaaa.AX
open Go Go.Proofs
set_option maxRecDepth 100000
set_option linter.unusedVariables false
set_option linter.unusedSimpArgs false
def mixE (a x y : Int) : Int := IntKind.u8.wrap ((BitVec.ofInt 8 a ||| BitVec.ofInt 8 (IntKind.u8.wrap ((BitVec.ofInt 8 x ^^^ BitVec.ofInt 8 y).toNat : Int))).toNat : Int)
theorem ofInt8_inj {x y : Int} (hx : 0 ≤ x ∧ x < 256) (hy : 0 ≤ y ∧ y < 256) (h : BitVec.ofInt 8 x = BitVec.ofInt 8 y) : x = y := by
  have := congrArg BitVec.toNat h
  simp only [BitVec.toNat_ofInt] at this
  omega
theorem u8nat (b : BitVec 8) : IntKind.u8.wrap (b.toNat : Int) = (b.toNat : Int) := u8w (by omega) (by have := b.isLt; omega)
theorem mixE_spec {a x y : Int} (ha : 0 ≤ a ∧ a < 256) (hx : 0 ≤ x ∧ x < 256) (hy : 0 ≤ y ∧ y < 256) : 0 ≤ mixE a x y ∧ mixE a x y < 256 ∧ (mixE a x y = 0 ↔ a = 0 ∧ x = y) := by
  have hb : ∀ b : BitVec 8, BitVec.ofInt 8 (b.toNat : Int) = b := fun b => by apply BitVec.eq_of_toNat_eq; simp
  unfold mixE
  rw [u8nat, u8nat, hb]
  refine ⟨by omega, by have := (BitVec.ofInt 8 a ||| (BitVec.ofInt 8 x ^^^ BitVec.ofInt 8 y)).isLt; omega, ?_⟩
  have h0 : (((BitVec.ofInt 8 a ||| (BitVec.ofInt 8 x ^^^ BitVec.ofInt 8 y)).toNat : Int) = 0) ↔ BitVec.ofInt 8 a ||| (BitVec.ofInt 8 x ^^^ BitVec.ofInt 8 y) = 0#8 := by
    constructor
    · intro h; apply BitVec.eq_of_toNat_eq; simpa using h
    · intro h; rw [h]; rfl
  rw [h0, BitVec.or_eq_zero_iff, BitVec.xor_eq_zero_iff]
  constructor
  · rintro ⟨h1, h2⟩; exact ⟨ofInt8_inj ha (by omega) (h1.trans rfl), ofInt8_inj hx hy h2⟩
  · rintro ⟨rfl, rfl⟩; exact ⟨rfl, rfl⟩
theorem same67_spec (v w : Value) (l m : List Int) (M : Mem) (hok : Ok M) (hv : RowB M v l) (hw : RowB M w m) (hl : l.length ≤ 1000) (hbl : BytB l) (hbm : BytB m) :
    ∃ r M', ACall Try.prog 67 #[v, w] M r M' ∧ r = .bool (decide (l = m)) ∧ M' = M := by
  refine ACall.fin (args := [v, w]) (k := 31) (rs := [.tmp 4]) Try.func67 rfl rfl rfl (Nat.le_of_ble_eq_true rfl) ?_
  refine AWP.stepR [0, 1] fun K hK => ?_
  simp only [go_sem, Nat.reduceEqDiff, Nat.reduceLT, Nat.reduceAdd, Nat.reduceMul, Nat.reduceSub, Nat.add_zero, Nat.zero_add, Int.reduceEq, Int.reduceLT]
  refine hK _ _ _ (by simp only [go_sem, Nat.reduceEqDiff, Nat.reduceLT, Nat.reduceAdd, Nat.reduceMul, Nat.reduceSub, Nat.add_zero, Nat.zero_add, Int.reduceEq, Int.reduceLT]; rfl) ?_; clear hK
  refine AWP.seq ?_
  refine AWP.stepR [0, 1, 11] fun K hK => ?_
  simp only [go_sem, Nat.reduceEqDiff, Nat.reduceLT, Nat.reduceAdd, Nat.reduceMul, Nat.reduceSub, Nat.add_zero, Nat.zero_add, Int.reduceEq, Int.reduceLT, hv.len es_23, hw.len es_23]
  refine hK _ _ _ (by simp only [go_sem, Nat.reduceEqDiff, Nat.reduceLT, Nat.reduceAdd, Nat.reduceMul, Nat.reduceSub, Nat.add_zero, Nat.zero_add, Int.reduceEq, Int.reduceLT]; rfl) ?_; clear hK
  refine AWP.cond_split rfl (fun h11 => ?_) fun h11 => ?_
  · refine AWP.stepR [4] fun K hK => ?_
    simp only [go_sem, Nat.reduceEqDiff, Nat.reduceLT, Nat.reduceAdd, Nat.reduceMul, Nat.reduceSub, Nat.add_zero, Nat.zero_add, Int.reduceEq, Int.reduceLT]
    refine hK _ _ _ (by simp only [go_sem, Nat.reduceEqDiff, Nat.reduceLT, Nat.reduceAdd, Nat.reduceMul, Nat.reduceSub, Nat.add_zero, Nat.zero_add, Int.reduceEq, Int.reduceLT]; rfl) ?_; clear hK
    refine AWP.ret (Then.ret (?_))
    refine Fin.plain (.inr rfl) rfl rfl hok (Grew.refl _) ⟨?_, rfl⟩
    have : l ≠ m := by rintro rfl; simp at h11
    rw [decide_eq_false this]
  · have hlen : l.length = m.length := by simp at h11; omega
    refine AWP.skip ?_
    refine AWP.stepR [0, 1, 5] fun K hK => ?_
    simp only [go_sem, Nat.reduceEqDiff, Nat.reduceLT, Nat.reduceAdd, Nat.reduceMul, Nat.reduceSub, Nat.add_zero, Nat.zero_add, Int.reduceEq, Int.reduceLT]
    refine hK _ _ _ (by simp only [go_sem, Nat.reduceEqDiff, Nat.reduceLT, Nat.reduceAdd, Nat.reduceMul, Nat.reduceSub, Nat.add_zero, Nat.zero_add, Int.reduceEq, Int.reduceLT]; rfl) ?_; clear hK
    refine AWP.seq ?_
    refine AWP.stepR [0, 1, 5, 13, 14] fun K hK => ?_
    simp only [go_sem, Nat.reduceEqDiff, Nat.reduceLT, Nat.reduceAdd, Nat.reduceMul, Nat.reduceSub, Nat.add_zero, Nat.zero_add, Int.reduceEq, Int.reduceLT, hv.len es_23]
    refine hK _ _ _ (by simp only [go_sem, Nat.reduceEqDiff, Nat.reduceLT, Nat.reduceAdd, Nat.reduceMul, Nat.reduceSub, Nat.add_zero, Nat.zero_add, Int.reduceEq, Int.reduceLT]; rfl) ?_; clear hK
    refine AWP.block ?_ -- b0
    refine AWP.loopK [0, 1, 5, 13, 14] (fun n e M0 => M0 = M ∧ n ≤ l.length ∧ ∃ a : Int, 0 ≤ a ∧ a < 256 ∧ (a = 0 ↔ l.take (l.length - n) = m.take (l.length - n)) ∧ e = [(0, v), (1, w), (5, .int .u8 a), (13, .int .i64 l.length), (14, .int .i64 ((l.length - n : Nat) : Int))]) l.length ?_ fun n e M0 hI => ?_ -- LOOP
    · simp only [go_sem, Nat.reduceEqDiff, Nat.reduceLT, Nat.reduceAdd, Nat.reduceMul, Nat.reduceSub, Nat.add_zero, Nat.zero_add, Int.reduceEq, Int.reduceLT, Nat.le_refl]
      refine ⟨0, by omega, by omega, by simp, by simp⟩
    obtain ⟨rfl, hn', a, ha0, ha1, hae, rfl⟩ := hI
    refine AWP.stepR [0, 1, 5, 13, 14, 15] fun K hK => ?_
    simp only [go_sem, Nat.reduceEqDiff, Nat.reduceLT, Nat.reduceAdd, Nat.reduceMul, Nat.reduceSub, Nat.add_zero, Nat.zero_add, Int.reduceEq, Int.reduceLT]
    refine hK _ _ _ (by simp only [go_sem, Nat.reduceEqDiff, Nat.reduceLT, Nat.reduceAdd, Nat.reduceMul, Nat.reduceSub, Nat.add_zero, Nat.zero_add, Int.reduceEq, Int.reduceLT]; rfl) ?_; clear hK
    refine AWP.condS rfl (fun h15 => ?_) fun h15 => ?_
    · have hlt : l.length - n < l.length := by simpa using h15
      obtain ⟨b, q, ha, hd⟩ := hv.at1 (by rw [cB_length]) es_23 hlt
      obtain ⟨b', q', ha', hd'⟩ := hw.at1 (by rw [cB_length]) es_23 (show l.length - n < m.length by omega)
      have hd := hd M0 (Grew.refl _)
      have hd' := hd' M0 (Grew.refl _)
      rw [show (cB l)[l.length - n]? = some (.int .u8 l[l.length - n]) by simp [cB, hlt]] at hd
      rw [show (cB m)[l.length - n]? = some (.int .u8 (m[l.length - n]'(by omega))) by simp [cB, show l.length - n < m.length by omega]] at hd'
      have hx := hbl _ (List.getElem_mem hlt)
      have hy := hbm _ (List.getElem_mem (show l.length - n < m.length by omega))
      have e1 := List.take_succ_eq_append_getElem hlt
      have e2 := List.take_succ_eq_append_getElem (show l.length - n < m.length by omega)
      generalize l[l.length - n] = x at hd hx e1
      generalize m[l.length - n]'(by omega) = y at hd' hy e2
      refine AWP.skip ?_
      refine AWP.seq ?_
      refine AWP.block ?_ -- b1
      refine AWP.stepR [0, 1, 5, 6, 13, 14] fun K hK => ?_
      simp only [go_sem, Nat.reduceEqDiff, Nat.reduceLT, Nat.reduceAdd, Nat.reduceMul, Nat.reduceSub, Nat.add_zero, Nat.zero_add, Int.reduceEq, Int.reduceLT]
      refine hK _ _ _ (by simp only [go_sem, Nat.reduceEqDiff, Nat.reduceLT, Nat.reduceAdd, Nat.reduceMul, Nat.reduceSub, Nat.add_zero, Nat.zero_add, Int.reduceEq, Int.reduceLT]; rfl) ?_; clear hK
      refine AWP.oneD' hmo [0, 1, 2, 3, 4, 5, 6, 7, 8, 9, 10, 11] [0, 0, 0, 6, 14, 0, 0, 96, 224, 510, 1023, 2047] [] [] (by kernel_rfl) fun K hK => ?_
      simp only [go_sem, Nat.reduceEqDiff, Nat.reduceLT, Nat.reduceAdd, Nat.reduceMul, Nat.reduceSub, Nat.add_zero, Nat.zero_add, Int.reduceEq, Int.reduceLT, ha, ha', ld_5, hd, hd']
      refine hK _ _ ?_; clear hK
      refine AWP.lastR fun K hK => ?_
      simp only [go_sem, Nat.reduceEqDiff, Nat.reduceLT, Nat.reduceAdd, Nat.reduceMul, Nat.reduceSub, Nat.add_zero, Nat.zero_add, Int.reduceEq, Int.reduceLT]
      refine hK _ _ ?_; clear hK
      obtain ⟨f1, f2, f3⟩ := mixE_spec (a := a) (x := x) (y := y) ⟨ha0, ha1⟩ hx hy
      refine ⟨n - 1, by omega, rfl, by omega, mixE a x y, f1, f2, ?_, ?_⟩ -- ROUND
      · rw [f3, hae, show l.length - (n - 1) = l.length - n + 1 by omega, e1, e2]
        constructor
        · rintro ⟨h1, rfl⟩; rw [h1]
        · intro h
          have h2 := List.append_inj h (by simp; omega)
          exact ⟨h2.1, by simpa using h2.2⟩
      · simp only [go_sem, Nat.reduceEqDiff, Nat.reduceLT, Nat.reduceAdd, Nat.reduceMul, Nat.reduceSub, Nat.add_zero, Nat.zero_add, Int.reduceEq, Int.reduceLT]
        rw [i64w (by omega) (by omega), show ((l.length - n : Nat) : Int) + 1 = ((l.length - (n - 1) : Nat) : Int) by omega]
        rfl
    · refine AWP.exit (Then.exit (Then.exit (InBlock.same ?_)))
      have hn0 : n = 0 := by simp at h15; omega
      subst hn0
      refine AWP.stepR [4] fun K hK => ?_
      simp only [go_sem, Nat.reduceEqDiff, Nat.reduceLT, Nat.reduceAdd, Nat.reduceMul, Nat.reduceSub, Nat.add_zero, Nat.zero_add, Int.reduceEq, Int.reduceLT]
      refine hK _ _ _ (by simp only [go_sem, Nat.reduceEqDiff, Nat.reduceLT, Nat.reduceAdd, Nat.reduceMul, Nat.reduceSub, Nat.add_zero, Nat.zero_add, Int.reduceEq, Int.reduceLT]; rfl) ?_; clear hK
      refine AWP.ret (?_)
      refine Fin.plain (.inr rfl) rfl rfl hok (Grew.refl _) ⟨?_, rfl⟩
      rw [Nat.sub_zero, List.take_length, List.take_of_length_le (by omega)] at hae
      congr 1
      by_cases h : l = m
      · rw [decide_eq_true h]; simp [hae.2 h]
      · rw [decide_eq_false h]; have := mt hae.1 h; simpa using this
end Go.Proofs.Ythheaehpnleiaaa.AX
