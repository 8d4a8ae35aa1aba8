/- The law's function 'NodeSplits': it answers 'true'. -/
import Derived.Test.YthheaehpnleiaaaNodePuts19
import Derived.Test.YthheaehpnleiaaaNodePuts16
namespace Go.Proofs.Ythheaehpnleiaaa.AX
open Go Go.Proofs
set_option maxRecDepth 100000
set_option linter.unusedVariables false
set_option linter.unusedSimpArgs false

/-! ### what a split's parts are like -/
theorem risingB_of : ∀ {l : List (List Int)}, (∀ (i : Nat) (h : i + 1 < l.length), lessB l[i] l[i + 1] = true) → risingB l = true
  | [], _ => rfl
  | [x], _ => rfl
  | x :: y :: l, h => by
    rw [risingB_two, show lessB x y = true from h 0 (by simp), Bool.true_and]
    exact risingB_of fun i hi => h (i + 1) (by simpa using hi)
theorem risingB_take {l : List (List Int)} (h : risingB l = true) (n : Nat) : risingB (l.take n) = true := risingB_of fun i hi => by
  have h2 : i + 1 < l.length := by rw [List.length_take] at hi; omega
  have := risingB_next h h2
  simpa using this
theorem risingB_drop {l : List (List Int)} (h : risingB l = true) (n : Nat) : risingB (l.drop n) = true := risingB_of fun i hi => by
  have h2 : n + i + 1 < l.length := by rw [List.length_drop] at hi; omega
  have := risingB_next h h2
  simpa [Nat.add_assoc] using this
theorem firstF_zero {l : List Kd} : firstF l = 0 ↔ ∀ k, k ∈ l → kdCode k = 0 := by
  induction l with
  | nil => simp [firstF]
  | cons a l ih =>
    rw [firstF]
    constructor
    · intro h
      split at h
      · rename_i h0
        intro k hk
        rcases List.mem_cons.1 hk with rfl | hk
        · exact h0
        · exact ih.1 h k hk
      · rename_i h0; exact absurd h h0
    · intro h
      rw [if_pos (h a List.mem_cons_self)]
      exact ih.2 fun k hk => h k (List.mem_cons_of_mem _ hk)
theorem partsF_zero {n : Node} : partsF n = 0 ↔ (∀ p, p ∈ n.pairs → prOk p = true) ∧ ∀ k, k ∈ n.kids → kdCode k = 0 := by
  unfold partsF
  split
  · rename_i h
    rw [firstF_zero]
    exact ⟨fun h2 => ⟨fun p hp => List.all_eq_true.1 h p hp, h2⟩, fun h2 => h2.2⟩
  · rename_i h
    constructor
    · intro h2; cases h2
    · intro h2
      exact absurd (List.all_eq_true.2 h2.1) h
/-- a node that may be, but for its size -/
structure FineN (n : Node) : Prop where
  form : formOk n = false
  parts : partsF n = 0
  rp : risingB (n.pairs.map Pr.key) = true
  rk : risingB (n.kids.map Kd.key) = true
theorem fine_of {n : Node} (h : checkN n = 0 ∨ checkN n = 16) : FineN n := by
  have hfirst : ∀ l : List Kd, firstF l = 0 ∨ firstF l = 17 ∨ firstF l = 2 := by
    intro l
    induction l with
    | nil => exact .inl rfl
    | cons a l ih =>
      rw [firstF]
      split
      · exact ih
      · unfold kdCode at *
        split at *
        · exact .inr (.inl (by simp_all))
        · split at *
          · exact .inr (.inr (by simp_all))
          · simp_all
  have hparts : partsF n = 0 ∨ partsF n = 17 ∨ partsF n = 2 := by
    unfold partsF
    split
    · exact hfirst _
    · exact .inr (.inl rfl)
  unfold checkN at h
  split at h
  · omega
  · rename_i hf
    split at h
    · rename_i hp
      split at h
      · rename_i hr
        rw [Bool.and_eq_true] at hr
        exact ⟨by simpa using hf, hp, hr.1, hr.2⟩
      · omega
    · omega
theorem check_of {n : Node} (h : FineN n) (hs : sizeF n ≤ 496) : checkN n = 0 := by
  unfold checkN
  rw [h.form, if_neg (by decide), if_pos h.parts, h.rp, h.rk, if_pos (by rfl), if_neg (by omega)]
theorem fine_part {n : Node} (h : FineN n) (a b : Nat) : FineN (partN n a b) := by
  have hp := partsF_zero.1 h.parts
  unfold partN
  split
  · refine ⟨by simp [formOk], partsF_zero.2 ⟨fun p hm => hp.1 p (mem_part hm), by simp⟩, ?_, rfl⟩
    simp only [List.map_take, List.map_drop]
    exact risingB_take (risingB_drop h.rp _) _
  · refine ⟨by simp [formOk], partsF_zero.2 ⟨by simp, fun k hm => hp.2 k (mem_part hm)⟩, rfl, ?_⟩
    simp only [List.map_take, List.map_drop]
    exact risingB_take (risingB_drop h.rk _) _
theorem cutSt_min {α : Type} {f : α → Int} {l : List α} (hf : ∀ a, a ∈ l → 0 ≤ f a) : ∀ k, mostF f l (cutSt f l k).1 ≤ (cutSt f l k).2 ∧ ∀ i, 1 ≤ i → i ≤ k → (cutSt f l k).2 ≤ mostF f l i := by
  intro k
  induction k with
  | zero =>
    refine ⟨?_, fun i h1 h2 => by omega⟩
    have := sumF_take_bound hf 1
    simp only [cutSt, mostF]; omega
  | succ k ih =>
    rw [cutSt]
    split
    · rename_i h
      refine ⟨Int.le_refl _, fun i h1 h2 => ?_⟩
      rcases Nat.lt_or_ge i (k + 1) with h3 | h3
      · have := ih.2 i h1 (by omega); simp only; omega
      · have : i = k + 1 := by omega
        subst this; exact Int.le_refl _
    · rename_i h
      refine ⟨ih.1, fun i h1 h2 => ?_⟩
      rcases Nat.lt_or_ge i (k + 1) with h3 | h3
      · exact ih.2 i h1 (by omega)
      · have : i = k + 1 := by omega
        subst this; omega
/-- what the last thing takes -/
def lastN (n : Node) : Int := if n.kids.length = 0 then (if n.pairs.length = 0 then 0 else ((n.pairs[n.pairs.length - 1]?).map prSz).getD 0) else ((n.kids[n.kids.length - 1]?).map kdSz).getD 0
theorem split_fine {n : Node} (h : FineN n) (hL : Lt18 n) (ho : splitOk n = true) (hs : sizeF n - lastN n ≤ 496) : checkN (splitA n) = 0 ∧ checkN (splitB n) = 0 := by
  have hge : ¬ n.pairs.length + n.kids.length < 2 := by rw [splitOk] at ho; simp at ho; omega
  have hp := partsF_zero.1 h.parts
  have hform := h.form
  cases hlf : n.leaf with
  | true =>
    have hk : n.kids = [] := by rw [formOk, hlf] at hform; simpa using hform
    have hlen : 2 ≤ n.pairs.length := by rw [hk] at hge; simp at hge; omega
    have hb := cutF_bound prSz hlen
    have hf : ∀ a, a ∈ n.pairs → 0 ≤ prSz a := fun a ha => (hL.pr a ha).1
    have hmin := cutSt_min hf (n.pairs.length - 1)
    have hm1 := hmin.2 (n.pairs.length - 1) (by omega) (Nat.le_refl _)
    have hmm : mostF prSz n.pairs (cutF prSz n.pairs) ≤ mostF prSz n.pairs (n.pairs.length - 1) := Int.le_trans hmin.1 hm1
    have hlt : n.pairs.length - 1 < n.pairs.length := by omega
    have hst := sumF_take prSz n.pairs hlt
    rw [show n.pairs.length - 1 + 1 = n.pairs.length by omega, List.take_length] at hst
    have hlast : lastN n = prSz n.pairs[n.pairs.length - 1] := by
      rw [lastN, if_pos (by rw [hk]; rfl), if_neg (by omega), List.getElem?_eq_getElem hlt]; rfl
    have hok := hp.1 _ (List.getElem_mem hlt)
    have hsz : prSz n.pairs[n.pairs.length - 1] ≤ 226 := by
      simp [prOk] at hok
      unfold prSz; omega
    have hsN : sizeF n = 3 + sumF prSz n.pairs := by rw [sizeF, hk]; simp [sumF]
    have hmost : 3 + mostF prSz n.pairs (cutF prSz n.pairs) ≤ 496 := by
      have : mostF prSz n.pairs (n.pairs.length - 1) ≤ 493 := by unfold mostF; omega
      omega
    rw [← mostN_leaf hlf (Nat.le_of_lt hb.2), mostN] at hmost
    have eA : splitA n = partN n 0 (cutF prSz n.pairs) := by rw [splitA, if_neg hge, hlf, if_pos rfl]
    have eB : splitB n = partN n (cutF prSz n.pairs) (cntN n) := by rw [splitB, if_neg hge, cntN, hlf, if_pos rfl, if_pos rfl]
    rw [eA, eB]
    exact ⟨check_of (fine_part h _ _) (by omega), check_of (fine_part h _ _) (by omega)⟩
  | false =>
    have hk : n.pairs = [] := by rw [formOk, hlf] at hform; simpa using hform
    have hlen : 2 ≤ n.kids.length := by rw [hk] at hge; simp at hge; omega
    have hb := cutF_bound kdSz hlen
    have hf : ∀ a, a ∈ n.kids → 0 ≤ kdSz a := fun a ha => (hL.kd a ha).1
    have hmin := cutSt_min hf (n.kids.length - 1)
    have hm1 := hmin.2 (n.kids.length - 1) (by omega) (Nat.le_refl _)
    have hmm : mostF kdSz n.kids (cutF kdSz n.kids) ≤ mostF kdSz n.kids (n.kids.length - 1) := Int.le_trans hmin.1 hm1
    have hlt : n.kids.length - 1 < n.kids.length := by omega
    have hst := sumF_take kdSz n.kids hlt
    rw [show n.kids.length - 1 + 1 = n.kids.length by omega, List.take_length] at hst
    have hlast : lastN n = kdSz n.kids[n.kids.length - 1] := by
      rw [lastN, if_neg (by omega), List.getElem?_eq_getElem hlt]; rfl
    have hok := hp.2 _ (List.getElem_mem hlt)
    have hsz : kdSz n.kids[n.kids.length - 1] ≤ 75 := by
      unfold kdCode at hok
      split at hok
      · cases hok
      · unfold kdSz; omega
    have hsN : sizeF n = 3 + sumF kdSz n.kids := by rw [sizeF, hk]; simp [sumF]
    have hmost : 3 + mostF kdSz n.kids (cutF kdSz n.kids) ≤ 496 := by
      have : mostF kdSz n.kids (n.kids.length - 1) ≤ 493 := by unfold mostF; omega
      omega
    rw [← mostN_kids hlf (Nat.le_of_lt hb.2), mostN] at hmost
    have eA : splitA n = partN n 0 (cutF kdSz n.kids) := by rw [splitA, if_neg hge, hlf, if_neg (by decide)]
    have eB : splitB n = partN n (cutF kdSz n.kids) (cntN n) := by rw [splitB, if_neg hge, cntN, hlf, if_neg (by decide), if_neg (by decide)]
    rw [eA, eB]
    exact ⟨check_of (fine_part h _ _) (by omega), check_of (fine_part h _ _) (by omega)⟩
theorem zero_lt18 : Lt18 zeroN := ⟨by decide, by decide, fun p hp => by simp [zeroN] at hp, fun p hp => by simp [zeroN] at hp, fun p hp => by simp [zeroN] at hp⟩
theorem splitA_lt {n : Node} (hL : Lt18 n) : Lt18 (splitA n) := by
  unfold splitA; split
  · exact zero_lt18
  · split <;> exact part_lt hL _ _
theorem splitB_lt {n : Node} (hL : Lt18 n) : Lt18 (splitB n) := by
  unfold splitB; split
  · exact zero_lt18
  · split <;> exact part_lt hL _ _
theorem splitA_node {M M1 : Mem} {n : Node} {vp vk wp wk : Value} (h : NewN M M1 (splitA n) wp wk) (hr : NodeR M1 n vp vk) : NodeR M1 (splitA n) wp wk := by
  have hz : ∀ z : Node, (∀ p, p ∈ z.pairs → p ∈ n.pairs) → (∀ p, p ∈ z.kids → p ∈ n.kids) → NewN M M1 z wp wk → NodeR M1 z wp wk := fun z h1 h2 h3 => h3.node (fun p hp => ⟨hr.pk p (h1 p hp), hr.pv p (h1 p hp)⟩) fun p hp => hr.kk p (h2 p hp)
  refine hz _ (fun p hp => ?_) (fun p hp => ?_) h
  · unfold splitA at hp; split at hp
    · simp [zeroN] at hp
    · split at hp <;> exact part_pairs hp
  · unfold splitA at hp; split at hp
    · simp [zeroN] at hp
    · split at hp <;> exact part_kids hp
theorem splitB_node {M M1 : Mem} {n : Node} {vp vk wp wk : Value} (h : NewN M M1 (splitB n) wp wk) (hr : NodeR M1 n vp vk) : NodeR M1 (splitB n) wp wk := by
  have hz : ∀ z : Node, (∀ p, p ∈ z.pairs → p ∈ n.pairs) → (∀ p, p ∈ z.kids → p ∈ n.kids) → NewN M M1 z wp wk → NodeR M1 z wp wk := fun z h1 h2 h3 => h3.node (fun p hp => ⟨hr.pk p (h1 p hp), hr.pv p (h1 p hp)⟩) fun p hp => hr.kk p (h2 p hp)
  refine hz _ (fun p hp => ?_) (fun p hp => ?_) h
  · unfold splitB at hp; split at hp
    · simp [zeroN] at hp
    · split at hp <;> exact part_pairs hp
  · unfold splitB at hp; split at hp
    · simp [zeroN] at hp
    · split at hp <;> exact part_kids hp
end Go.Proofs.Ythheaehpnleiaaa.AX
