/- There and back: a node's page read, a page read and written. No program here. -/
import Derived.Test.YthheaehpnleiaaaNodePuts27
namespace Go.Proofs.Ythheaehpnleiaaa.AX
open Go Go.Proofs
set_option maxRecDepth 100000
set_option linter.unusedVariables false
set_option linter.unusedSimpArgs false

theorem numN_putB (s : Nat) : ∀ n : Int, 0 ≤ n → n < 256 ^ s → numN (putB n s) = n := by
  induction s with
  | zero => intro n h0 h1; simp at h1; rw [putB, numN_nil]; omega
  | succ s ih =>
    intro n h0 h1
    rw [Int.pow_succ] at h1
    rw [putB, numN_snoc, ih (n / 256) (by omega) (by omega)]; omega
theorem putB_numN : ∀ (k : Nat) (t : List Int), t.length = k → BytB t → putB (numN t) k = t := by
  intro k
  induction k with
  | zero => intro t h hb; rw [List.length_eq_zero_iff.1 h]; rfl
  | succ k ih =>
    intro t h hb
    have hne : t ≠ [] := by rintro rfl; simp at h
    obtain ⟨u, x, rfl⟩ : ∃ u x, t = u ++ [x] := ⟨t.dropLast, t.getLast hne, (List.dropLast_concat_getLast hne).symm⟩
    have hx := hb x (by simp)
    have hu : BytB u := fun y hy => hb y (by simp [hy])
    rw [numN_snoc, putB, show (numN u * 256 + x) / 256 = numN u by omega, show (numN u * 256 + x) % 256 = x by omega, ih u (by simpa using h) hu]
theorem putB_byt (s : Nat) : ∀ n : Int, BytB (putB n s) := by
  induction s with
  | zero => intro n x hx; cases hx
  | succ s ih =>
    intro n x hx
    rw [putB] at hx
    rcases List.mem_append.1 hx with hx | hx
    · exact ih _ x hx
    · rw [List.mem_singleton.1 hx]; omega
theorem numN_one (x : Int) : numN [x] = x := by simp [numN]
theorem numS_in (x k : Nat) (n : Int) (h0 : 0 ≤ n) (h1 : n < 256 ^ k) (r : List Int) : numS ⟨putB n k ++ r, 0⟩ (k : Int) = (⟨r, 0⟩, n) := by
  rw [numS, takeS_in _ _ (putB_length n k)]
  simp only [numN_putB k n h0 h1]
theorem numS_in1 (n : Int) (r : List Int) : numS ⟨n :: r, 0⟩ 1 = (⟨r, 0⟩, n) := by
  have := takeS_in [n] r (k := 1) rfl
  rw [numS, show (1 : Int) = ((1 : Nat) : Int) from rfl, show n :: r = [n] ++ r from rfl, this]
  simp only [numN_one]
theorem numS_in2 (n : Int) (h0 : 0 ≤ n) (h1 : n < 65536) (r : List Int) : numS ⟨putB n 2 ++ r, 0⟩ 2 = (⟨r, 0⟩, n) := numS_in 0 2 n h0 (by simpa using h1) r
theorem numS_in8 (n : Int) (h0 : 0 ≤ n) (h1 : n ≤ 1099511627776) (r : List Int) : numS ⟨putB n 8 ++ r, 0⟩ 8 = (⟨r, 0⟩, n) := numS_in 0 8 n h0 (by simp; omega) r
theorem takeS_inZ (a r : List Int) : takeS ⟨a ++ r, 0⟩ (a.length : Int) = (⟨r, 0⟩, a) := takeS_in a r rfl

def prB (p : PrP) : List Int := (p.1.length : Int) :: (p.2.length : Int) :: (p.1 ++ p.2)
def kdB (k : KdP) : List Int := (k.1.length : Int) :: (putB k.2.1 2 ++ (putB k.2.2 8 ++ k.1))
theorem prP_in (p : PrP) (r : List Int) : prP ⟨prB p ++ r, 0⟩ = (⟨r, 0⟩, p) := by
  obtain ⟨k, v⟩ := p
  have e : prB (k, v) ++ r = (k.length : Int) :: ((v.length : Int) :: (k ++ (v ++ r))) := by simp [prB]
  rw [e, prP]
  simp only [numS_in1, takeS_inZ]
theorem kdP_in (k : KdP) (hg : 0 ≤ k.2.1 ∧ k.2.1 < 65536) (he : 0 ≤ k.2.2 ∧ k.2.2 ≤ 1099511627776) (r : List Int) : kdP ⟨kdB k ++ r, 0⟩ = (⟨r, 0⟩, k) := by
  obtain ⟨a, g, e⟩ := k
  simp only at hg he
  have e1 : kdB (a, g, e) ++ r = (a.length : Int) :: (putB g 2 ++ (putB e 8 ++ (a ++ r))) := by simp [kdB]
  rw [e1, kdP]
  simp only [numS_in1, numS_in2 g hg.1 hg.2, numS_in8 e he.1 he.2, takeS_inZ]
  rw [capE, if_neg (by omega)]
theorem loopP_in {α : Type} (f : Rs → Rs × α) (B : α → List Int) : ∀ (l : List α) (r : List Int), (∀ a, a ∈ l → ∀ r, f ⟨B a ++ r, 0⟩ = (⟨r, 0⟩, a)) → loopP f l.length ⟨(l.map B).flatten ++ r, 0⟩ = (⟨r, 0⟩, l) := by
  intro l
  induction l with
  | nil => intro r _; rfl
  | cons a l ih =>
    intro r h
    rw [List.length_cons, loopP, if_pos rfl, List.map_cons, List.flatten_cons, List.append_assoc, h a List.mem_cons_self]
    simp only [ih r fun b hb => h b (List.mem_cons_of_mem _ hb)]
theorem pairN_eq (p : Pr) : pairN p = prB (p.key, p.val) := by simp [pairN, prB]
theorem kidN_eq (k : Kd) : kidN k = kdB (k.key, k.page, k.epoch) := by simp [kidN, kdB]
theorem nodeB_eq (n : Node) : nodeB n = (if n.leaf then 1 else 0) :: (putB ((n.pairs.length : Int) + n.kids.length) 2 ++ (((NodeP.of n).pairs.map prB).flatten ++ (((NodeP.of n).kids.map kdB).flatten ++ List.replicate (496 - sizeF n).toNat 0))) := by
  have e1 : (NodeP.of n).pairs.map prB = n.pairs.map pairN := by simp [NodeP.of, Function.comp_def, pairN_eq]
  have e2 : (NodeP.of n).kids.map kdB = n.kids.map kidN := by simp [NodeP.of, Function.comp_def, kidN_eq]
  rw [e1, e2, nodeB, kidsN, pairsN, headN, List.take_length, List.take_length]
  simp
theorem nodeB_length {n : Node} (h : sizeF n ≤ 496) : (nodeB n).length = 496 := by
  have := kidsN_all n
  have h0 : 0 ≤ sizeF n := by omega
  rw [nodeB, List.length_append, List.length_replicate]; omega
theorem node_form {n : Node} (h : formOk n = false) : (n.leaf = true → n.kids = []) ∧ (n.leaf = false → n.pairs = []) := by
  unfold formOk at h
  simp only [Bool.or_eq_false_iff, Bool.and_eq_false_iff, decide_eq_false_iff_not] at h
  obtain ⟨h1, h2⟩ := h
  refine ⟨fun hl => ?_, fun hl => ?_⟩
  · rcases h1 with h1 | h1
    · rw [hl] at h1; cases h1
    · exact List.length_eq_zero_iff.1 (by omega)
  · rcases h2 with h2 | h2
    · rw [hl] at h2; cases h2
    · exact List.length_eq_zero_iff.1 (by omega)
theorem kd_range {k : Kd} (h : kdCode k = 0) : k.key.length ≤ 64 ∧ 0 ≤ k.page ∧ k.page < 4096 ∧ 0 ≤ k.epoch ∧ k.epoch ≤ 1099511627776 := by
  unfold kdCode at h
  split at h
  · cases h
  · split at h
    · cases h
    · rename_i h1 h2; simp [kdRange] at h2; omega
/-- a node that may be is read as it was -/
theorem get_put {n : Node} (h : checkN n = 0) : getF (nodeB n) = (NodeP.of n, 0) := by
  obtain ⟨hf, hsz⟩ := putOk h
  have hlen := nodeB_length hsz
  obtain ⟨hpo, hko⟩ := partsF_zero.1 hf.parts
  obtain ⟨hfm1, hfm2⟩ := node_form hf.form
  obtain ⟨g1, _⟩ := sumF_mem (f := prSz) (B := 496) (l := n.pairs) (fun a _ => by unfold prSz; omega) (by
    have := (sumF_mem (f := kdSz) (B := sumF kdSz n.kids) (l := n.kids) (fun a _ => by unfold kdSz; omega) (by omega)).1
    have : 0 ≤ sumF kdSz n.kids := by omega
    unfold sizeF at hsz; omega)
  obtain ⟨g2, _⟩ := sumF_mem (f := kdSz) (B := 496) (l := n.kids) (fun a _ => by unfold kdSz; omega) (by
    have := (sumF_mem (f := prSz) (B := sumF prSz n.pairs) (l := n.pairs) (fun a _ => by unfold prSz; omega) (by omega)).1
    have : 0 ≤ sumF prSz n.pairs := by omega
    unfold sizeF at hsz; omega)
  have hcheck := of_check n
  rw [getF, if_pos (by omega), nodeB_eq]
  simp only [numS_in1, numS_in2 _ (show (0 : Int) ≤ (n.pairs.length : Int) + n.kids.length by omega) (by omega)]
  rw [if_neg (by split <;> omega)]
  generalize hz : (496 - sizeF n).toNat = z
  have hend : endF (⟨List.replicate z 0, 0⟩, NodeP.of n) = (NodeP.of n, 0) := by
    rw [endF, if_neg (by simp), if_pos (by simp), hcheck, if_pos h]
  rw [← hend]
  congr 1
  cases hleaf : n.leaf with
  | true =>
    have hk := hfm1 hleaf
    have e0 : (NodeP.of n).kids = [] := by simp [NodeP.of, hk]
    have e1 : (NodeP.of n).pairs.length = n.pairs.length := by simp [NodeP.of]
    have e2 : NodeP.of n = ⟨true, (NodeP.of n).pairs, []⟩ := by rw [← e0, ← hleaf]; rfl
    have e3 : ((n.pairs.length : Int) + n.kids.length).toNat = (NodeP.of n).pairs.length := by rw [e1, hk]; simp
    rw [e0, e3]
    simp only [List.map_nil, List.flatten_nil, List.nil_append, if_true, thingsF, show ((1 : Int) == 1) = true from rfl]
    rw [loopP_in prP prB _ _ fun a _ r => prP_in a r]
    simp only
    rw [← e2]
  | false =>
    have hk := hfm2 hleaf
    have e0 : (NodeP.of n).pairs = [] := by simp [NodeP.of, hk]
    have e1 : (NodeP.of n).kids.length = n.kids.length := by simp [NodeP.of]
    have e2 : NodeP.of n = ⟨false, [], (NodeP.of n).kids⟩ := by rw [← e0, ← hleaf]; rfl
    have e3 : ((n.pairs.length : Int) + n.kids.length).toNat = (NodeP.of n).kids.length := by rw [e1, hk]; simp
    rw [e0, e3]
    simp only [List.map_nil, List.flatten_nil, List.nil_append, Bool.false_eq_true, if_false, thingsF, show ((0 : Int) == 1) = false from rfl]
    rw [loopP_in kdP kdB _ _ fun a ha r => by
      obtain ⟨k, hk1, rfl⟩ := List.mem_map.1 (show a ∈ n.kids.map _ from ha)
      obtain ⟨_, q1, q2, q3, q4⟩ := kd_range (hko k hk1)
      exact kdP_in _ ⟨q1, by simp only; omega⟩ ⟨q3, q4⟩ r]
    simp only
    rw [← e2]

/-! ### a page read and written -/
theorem loopP_code {α : Type} (f : Rs → Rs × α) {c : Nat} {s : Rs} (h : (loopP f c s).1.code = 0) : s.code = 0 := by
  cases c with
  | zero => exact h
  | succ n =>
    rw [loopP] at h
    split at h
    · assumption
    · exact h
theorem numS_out {s : Rs} {k : Nat} (hb : BytB s.b) (h : (numS s k).1.code = 0) : s.code = 0 ∧ s.b = putB (numS s k).2 k ++ (numS s k).1.b ∧ BytB (numS s k).1.b := by
  obtain ⟨h1, h2, h3, h4, h5⟩ := takeS_ok (s := s) (k := (k : Int)) h
  have hbt := takeS_bytes hb (k : Int)
  refine ⟨h1, ?_, hbt.1⟩
  have e1 : (numS s (k : Int)).1.b = s.b.drop k := h4
  have e2 : (numS s (k : Int)).2 = numN (s.b.take k) := by show numN (takeS s k).2 = _; rw [h5]; rfl
  rw [e1, e2, putB_numN k _ (by rw [List.length_take]; omega) (fun x hx => hb x (List.mem_of_mem_take hx)), List.take_append_drop]
theorem takeS_out {s : Rs} {k : Int} (h : (takeS s k).1.code = 0) : s.code = 0 ∧ s.b = (takeS s k).2 ++ (takeS s k).1.b ∧ ((takeS s k).2.length : Int) = k := by
  obtain ⟨h1, h2, h3, h4, h5⟩ := takeS_ok h
  refine ⟨h1, by rw [h4, h5, List.take_append_drop], ?_⟩
  rw [h5, List.length_take]; omega
theorem putB_1 (n : Int) (h : 0 ≤ n) (h' : n < 256) : putB n 1 = [n] := by simp [putB]; omega
theorem prP_out {s : Rs} (hb : BytB s.b) (h : (prP s).1.code = 0) : s.b = prB (prP s).2 ++ (prP s).1.b := by
  obtain ⟨h1, h2, h3⟩ := takeS_out h
  obtain ⟨g1, g2, g3⟩ := takeS_out h1
  have hb1 := numS_bytes hb 1
  obtain ⟨f1, f2, f3⟩ := numS_out (s := (numS s 1).1) (k := 1) hb1 g1
  obtain ⟨e1, e2, e3⟩ := numS_out (s := s) (k := 1) hb f1
  have n1 := numS_b1 hb
  have n2 := numS_b1 hb1
  change s.b = putB (numS s 1).2 1 ++ (numS s 1).1.b at e2
  change (numS s 1).1.b = putB (numS (numS s 1).1 1).2 1 ++ (numS (numS s 1).1 1).1.b at f2
  rw [putB_1 _ n1.1 n1.2] at e2
  rw [putB_1 _ n2.1 n2.2] at f2
  have k1 : ((prP s).2.1.length : Int) = (numS s 1).2 := g3
  have k2 : ((prP s).2.2.length : Int) = (numS (numS s 1).1 1).2 := h3
  rw [e2, f2, g2, h2, prB, k1, k2]
  simp only [List.singleton_append, List.cons_append, List.append_assoc]; rfl
theorem kdP_out {s : Rs} (hb : BytB s.b) (h : (kdP s).1.code = 0) (hc : (kdP s).2.2.2 ≤ 1099511627776) : s.b = kdB (kdP s).2 ++ (kdP s).1.b := by
  obtain ⟨h1, h2, h3⟩ := takeS_out h
  have hb1 := numS_bytes hb 1
  have hb2 := numS_bytes hb1 2
  obtain ⟨g1, g2, g3⟩ := numS_out (s := (numS (numS s 1).1 2).1) (k := 8) hb2 h1
  obtain ⟨f1, f2, f3⟩ := numS_out (s := (numS s 1).1) (k := 2) hb1 g1
  obtain ⟨e1, e2, e3⟩ := numS_out (s := s) (k := 1) hb f1
  have n1 := numS_b1 hb
  have n8 := numS_b8 hb2
  change s.b = putB (numS s 1).2 1 ++ (numS s 1).1.b at e2
  change (numS s 1).1.b = putB (numS (numS s 1).1 2).2 2 ++ (numS (numS s 1).1 2).1.b at f2
  change (numS (numS s 1).1 2).1.b = putB (numS (numS (numS s 1).1 2).1 8).2 8 ++ (numS (numS (numS s 1).1 2).1 8).1.b at g2
  rw [putB_1 _ n1.1 n1.2] at e2
  have k1 : ((kdP s).2.1.length : Int) = (numS s 1).2 := h3
  have k2 : (kdP s).2.2.1 = (numS (numS s 1).1 2).2 := rfl
  have k3 : (kdP s).2.2.2 = (numS (numS (numS s 1).1 2).1 8).2 := by
    have h0 : (kdP s).2.2.2 = capE (numS (numS (numS s 1).1 2).1 8).2 := rfl
    rw [h0] at hc ⊢
    unfold capE at hc ⊢
    split at hc
    · omega
    · rename_i hn; rw [if_neg hn]
  rw [e2, f2, g2, h2, kdB, k1, k2, k3]
  simp only [List.singleton_append, List.cons_append, List.append_assoc]; rfl
theorem loopP_out {α : Type} (f : Rs → Rs × α) (B : α → List Int) (T : α → Prop) (hf : ∀ s : Rs, BytB s.b → BytB (f s).1.b) (ho : ∀ s : Rs, BytB s.b → (f s).1.code = 0 → T (f s).2 → s.b = B (f s).2 ++ (f s).1.b) :
    ∀ (c : Nat) (s : Rs), BytB s.b → (loopP f c s).1.code = 0 → (∀ a, a ∈ (loopP f c s).2 → T a) → s.b = ((loopP f c s).2.map B).flatten ++ (loopP f c s).1.b ∧ (loopP f c s).2.length = c := by
  intro c
  induction c with
  | zero => intro s hb h _; exact ⟨by simp [loopP], rfl⟩
  | succ c ih =>
    intro s hb h hT
    have h0 := loopP_code f h
    rw [loopP, if_pos h0] at h hT ⊢
    simp only at h hT ⊢
    have h1 := loopP_code f h
    obtain ⟨g1, g2⟩ := ih (f s).1 (hf s hb) h fun a ha => hT a (List.mem_cons_of_mem _ ha)
    refine ⟨?_, by rw [List.length_cons, g2]⟩
    rw [List.map_cons, List.flatten_cons, List.append_assoc, ← g1]
    exact ho s hb h1 (hT _ List.mem_cons_self)
end Go.Proofs.Ythheaehpnleiaaa.AX

/- A page that is a node's is that node's page. -/
namespace Go.Proofs.Ythheaehpnleiaaa.AX
open Go Go.Proofs
set_option maxRecDepth 100000
set_option linter.unusedVariables false
set_option linter.unusedSimpArgs false

theorem lt_of_check {n : Node} (h : checkN n = 0) : Lt18 n := by
  obtain ⟨hf, hsz⟩ := putOk h
  obtain ⟨hpo, hko⟩ := partsF_zero.1 hf.parts
  have g1 := (sumF_mem (f := kdSz) (B := sumF kdSz n.kids) (l := n.kids) (fun a _ => by unfold kdSz; omega) (by omega))
  have g2 := (sumF_mem (f := prSz) (B := sumF prSz n.pairs) (l := n.pairs) (fun a _ => by unfold prSz; omega) (by omega))
  unfold sizeF at hsz
  refine ⟨by omega, by omega, fun p hp => ?_, fun p hp => ?_, fun k hk => ?_⟩
  · have h2 := g2.2 p hp; have h3 : prSz p = 2 + (p.key.length : Int) + (p.val.length : Int) := rfl; omega
  · have h2 := g2.2 p hp; have h3 : prSz p = 2 + (p.key.length : Int) + (p.val.length : Int) := rfl; omega
  · have h2 := g1.2 k hk; have h3 : kdSz k = 11 + (k.key.length : Int) := rfl; omega
theorem byt_of_page {n : Node} (h : BytB (nodeB n)) : NodeB n := by
  rw [nodeB_eq] at h
  refine ⟨fun p hp x hx => ?_, fun p hp x hx => ?_, fun k hk x hx => ?_⟩
  · exact h x (List.mem_cons_of_mem _ (List.mem_append_right _ (List.mem_append_left _ (List.mem_flatten.2 ⟨prB (p.key, p.val), List.mem_map.2 ⟨(p.key, p.val), List.mem_map.2 ⟨p, hp, rfl⟩, rfl⟩, by simp [prB, hx]⟩))))
  · exact h x (List.mem_cons_of_mem _ (List.mem_append_right _ (List.mem_append_left _ (List.mem_flatten.2 ⟨prB (p.key, p.val), List.mem_map.2 ⟨(p.key, p.val), List.mem_map.2 ⟨p, hp, rfl⟩, rfl⟩, by simp [prB, hx]⟩))))
  · exact h x (List.mem_cons_of_mem _ (List.mem_append_right _ (List.mem_append_right _ (List.mem_append_left _ (List.mem_flatten.2 ⟨kdB (k.key, k.page, k.epoch), List.mem_map.2 ⟨(k.key, k.page, k.epoch), List.mem_map.2 ⟨k, hk, rfl⟩, rfl⟩, by simp [kdB, hx]⟩)))))
theorem endF_zero {x : Rs × NodeP} (h : (endF x).2 = 0) : x.1.code = 0 ∧ x.1.b = List.replicate x.1.b.length 0 ∧ checkN x.2.node = 0 ∧ (endF x).1 = x.2 := by
  unfold endF at h ⊢
  split at h
  · rename_i h1; exact absurd h h1
  · rename_i h1
    split at h
    · rename_i h2
      split at h
      · rename_i h3
        rw [if_neg h1, if_pos h2, if_pos h3]
        exact ⟨by omega, h2, h3, rfl⟩
      · rename_i h3; exact absurd h h3
    · cases h
theorem zeros_eq {P l : List Int} {z : Nat} {r : List Int} (h1 : l = P ++ List.replicate z 0) (hl : l.length = 496) {b : List Int} (h2 : b = P ++ r) (hr : r = List.replicate r.length 0) (hb : b.length = 496) : l = b := by
  have e1 := congrArg List.length h1
  have e2 := congrArg List.length h2
  rw [List.length_append, List.length_replicate] at e1
  rw [List.length_append] at e2
  rw [h1, h2, hr, show z = r.length by omega]
theorem put_getN {b : List Int} {m : Node} (hb : BytB b) (h : (getF b).2 = 0) (hm : NodeP.of m = (getF b).1) : checkN m = 0 ∧ nodeB m = b ∧ Lt18 m ∧ NodeB m := by
  unfold getF at h hm
  split at h
  · rename_i hl
    rw [if_pos hl] at hm
    split at h
    · cases h
    · rename_i hg
      rw [if_neg hg] at hm
      obtain ⟨h1, h2, h3, h4⟩ := endF_zero h
      rw [h4] at hm
      have hck : checkN m = 0 := by rw [← of_check, hm]; exact h3
      have hsz := (putOk hck).2
      obtain ⟨_, hko⟩ := partsF_zero.1 (putOk hck).1.parts
      have hlen := nodeB_length hsz
      have n1 := numS_b1 (s := ⟨b, 0⟩) hb
      have hb1 := numS_bytes (s := ⟨b, 0⟩) hb 1
      have n2 := numS_b2 hb1
      have hb2 := numS_bytes hb1 2
      obtain ⟨cnt, hcnt⟩ : ∃ c : Nat, (numS (numS ⟨b, 0⟩ 1).1 2).2 = c := ⟨(numS (numS ⟨b, 0⟩ 1).1 2).2.toNat, by omega⟩
      suffices hb' : nodeB m = b from ⟨hck, hb', lt_of_check hck, byt_of_page (by rw [hb']; exact hb)⟩
      have hne := nodeB_eq m
      have hout : ∀ hz : (numS (numS ⟨b, 0⟩ 1).1 2).1.code = 0, b = (numS ⟨b, 0⟩ 1).2 :: (putB cnt 2 ++ (numS (numS ⟨b, 0⟩ 1).1 2).1.b) := fun hz => by
        obtain ⟨f1, f2, f3⟩ := numS_out (s := (numS ⟨b, 0⟩ 1).1) (k := 2) hb1 hz
        obtain ⟨e1, e2, e3⟩ := numS_out (s := ⟨b, 0⟩) (k := 1) hb f1
        change b = putB (numS ⟨b, 0⟩ 1).2 1 ++ (numS ⟨b, 0⟩ 1).1.b at e2
        change (numS ⟨b, 0⟩ 1).1.b = putB (numS (numS ⟨b, 0⟩ 1).1 2).2 2 ++ (numS (numS ⟨b, 0⟩ 1).1 2).1.b at f2
        rw [putB_1 _ n1.1 n1.2, f2, hcnt] at e2
        exact e2
      rw [hcnt, Int.toNat_natCast] at h1 h2 h3 hm
      generalize (numS (numS ⟨b, 0⟩ 1).1 2).1 = s2 at h1 h2 h3 hm hb2 hout
      generalize (numS ⟨b, 0⟩ 1).2 = leafn at h1 h2 h3 hm n1 hg hout
      cases hleaf : (leafn == 1) with
      | true =>
        have hl1 : leafn = 1 := by simpa using hleaf
        rw [hleaf] at h1 h2 hm
        simp only [thingsF, if_true] at h1 h2 hm
        obtain ⟨g1, g2⟩ := loopP_out prP prB (fun _ => True) (fun s hs => (prP_bytes hs).1) (fun s hs hc _ => prP_out hs hc) cnt s2 hb2 h1 fun _ _ => trivial
        have hm1 : m.leaf = true := congrArg NodeP.leaf hm
        have hm2 : (NodeP.of m).pairs = (loopP prP cnt s2).2 := by rw [hm]
        have hm3 : (NodeP.of m).kids = [] := by rw [hm]
        have hm4 : m.pairs.length = cnt := by rw [← g2, ← hm2]; simp [NodeP.of]
        have hm5 : m.kids.length = 0 := by have := congrArg List.length hm3; simpa [NodeP.of] using this
        have hbb := hout (loopP_code prP h1)
        rw [hm1, hm2, hm3, hm4, hm5] at hne
        simp only [if_true, List.map_nil, List.flatten_nil, List.nil_append, Int.natCast_zero, Int.add_zero] at hne
        rw [g1, hl1] at hbb
        refine zeros_eq (P := 1 :: (putB (cnt : Int) 2 ++ ((loopP prP cnt s2).2.map prB).flatten)) (z := (496 - sizeF m).toNat) (r := (loopP prP cnt s2).1.b) ?_ hlen ?_ h2 (by omega)
        · rw [hne]; simp
        · rw [hbb]; simp
      | false =>
        have hl1 : leafn = 0 := by have : leafn ≠ 1 := by simpa using hleaf
                                   omega
        rw [hleaf] at h1 h2 hm
        simp only [thingsF, Bool.false_eq_true, if_false] at h1 h2 hm
        have hm1 : m.leaf = false := congrArg NodeP.leaf hm
        have hm2 : (NodeP.of m).pairs = [] := by rw [hm]
        have hm3 : (NodeP.of m).kids = (loopP kdP cnt s2).2 := by rw [hm]
        obtain ⟨g1, g2⟩ := loopP_out kdP kdB (fun k => k.2.2 ≤ 1099511627776) (fun s hs => (kdP_bytes hs).1) (fun s hs hc ht => kdP_out hs hc ht) cnt s2 hb2 h1 fun a ha => by
          rw [← hm3] at ha
          obtain ⟨k, hk1, rfl⟩ := List.mem_map.1 (show a ∈ m.kids.map _ from ha)
          exact (kd_range (hko k hk1)).2.2.2.2
        have hm4 : m.kids.length = cnt := by rw [← g2, ← hm3]; simp [NodeP.of]
        have hm5 : m.pairs.length = 0 := by have := congrArg List.length hm2; simpa [NodeP.of] using this
        have hbb := hout (loopP_code kdP h1)
        rw [hm1, hm2, hm3, hm4, hm5] at hne
        simp only [Bool.false_eq_true, if_false, List.map_nil, List.flatten_nil, List.nil_append, Int.natCast_zero, Int.zero_add] at hne
        rw [g1, hl1] at hbb
        refine zeros_eq (P := 0 :: (putB (cnt : Int) 2 ++ ((loopP kdP cnt s2).2.map kdB).flatten)) (z := (496 - sizeF m).toNat) (r := (loopP kdP cnt s2).1.b) ?_ hlen ?_ h2 (by omega)
        · rw [hne]; simp
        · rw [hbb]; simp
  · cases h
end Go.Proofs.Ythheaehpnleiaaa.AX
