/- A node read from a page, by the program. -/
import Derived.Test.YthheaehpnleiaaaNodePuts26
namespace Go.Proofs.Ythheaehpnleiaaa.AX
open Go Go.Proofs
set_option maxRecDepth 100000
set_option linter.unusedVariables false
set_option linter.unusedSimpArgs false

def HN (l : List Pr) (m : List Kd) (vp vk : Value) (r : Rw) : Prop := r = ⟨vp, l.length, l.flatMap prC, 58⟩ ∨ r = ⟨vk, m.length, m.flatMap kdC, 60⟩ ∨ (∃ x, x ∈ l ∧ (r = ⟨x.kv, x.key.length, cB x.key, 5⟩ ∨ r = ⟨x.vv, x.val.length, cB x.val, 5⟩)) ∨ ∃ x, x ∈ m ∧ r = ⟨x.kv, x.key.length, cB x.key, 5⟩
def fxN (c2 c7 : Nat) (leaf : Bool) (vp vk : Value) : Mm := updM (updM (fun _ => none) c2 ⟨zN, 44, true⟩) c7 ⟨nodeC leaf vp vk, 44, true⟩
theorem fx7 (c2 c7 : Nat) (leaf : Bool) (vp vk : Value) : fxN c2 c7 leaf vp vk c7 = some ⟨nodeC leaf vp vk, 44, true⟩ := by rw [fxN, updM, if_pos rfl]
theorem fx2 {c2 c7 : Nat} (h : c2 ≠ c7) (leaf : Bool) (vp vk : Value) : fxN c2 c7 leaf vp vk c2 = some ⟨zN, 44, true⟩ := by rw [fxN, updM, if_neg h, updM, if_pos rfl]
def GI (leaf : Bool) (cnt : Nat) (s0 : Rs) (c : Nat) (s : Rs) (l : List Pr) (m : List Kd) : Prop :=
  if leaf then m = [] ∧ loopP prP cnt s0 = ((loopP prP c s).1, l.map prD ++ (loopP prP c s).2) ∧ (s.code = 0 → sumF prSz l + s.b.length = 493)
  else l = [] ∧ loopP kdP cnt s0 = ((loopP kdP c s).1, m.map kdD ++ (loopP kdP c s).2) ∧ (s.code = 0 → sumF kdSz m + s.b.length = 493)
section
variable {N : Nat} {M : Mem} {p : Nat} {D : Nat → Prop} {s : Rs} {fx : Mm} {R : Rw → Prop} {l : List Pr} {m : List Kd} {vp vk : Value}
theorem Lo.node (h : Lo N M p D s fx R) (hR : ∀ r, HN l m vp vk r → R r) (leaf : Bool) : NodeR M ⟨leaf, l, m⟩ vp vk where
  pairs := (h.rows _ (hR _ (.inl rfl))).row
  kids := (h.rows _ (hR _ (.inr (.inl rfl)))).row
  pk := fun x hx => (h.rows _ (hR _ (.inr (.inr (.inl ⟨x, hx, .inl rfl⟩))))).row
  pv := fun x hx => (h.rows _ (hR _ (.inr (.inr (.inl ⟨x, hx, .inr rfl⟩))))).row
  kk := fun x hx => (h.rows _ (hR _ (.inr (.inr (.inr ⟨x, hx, rfl⟩))))).row
theorem Lo.none1 (h : Lo N M p D s fx R) : ∀ r, R r → R r ∨ Apart r.v M.next := fun r hr => .inl hr
end
theorem HN.addP {l : List Pr} {m : List Kd} {vp vk v2 : Value} {x : Pr} {r : Rw} (h : HN (l ++ [x]) m v2 vk r) :
    r = ⟨v2, l.length + 1, l.flatMap prC ++ prC x, 58⟩ ∨ ((r = ⟨x.vv, x.val.length, cB x.val, 5⟩ ∨ r = ⟨x.kv, x.key.length, cB x.key, 5⟩ ∨ HN l m vp vk r) ∧ r ≠ ⟨vp, l.length, l.flatMap prC, 58⟩) := by
  rcases h with rfl | rfl | ⟨y, hy, hr⟩ | ⟨y, hy, rfl⟩
  · exact .inl (by simp)
  · exact .inr ⟨.inr (.inr (.inr (.inl rfl))), fun h => by have := congrArg Rw.e h; simp at this⟩
  · refine .inr ⟨?_, fun h => by rcases hr with rfl | rfl <;> (have := congrArg Rw.e h; simp at this)⟩
    rw [List.mem_append, List.mem_singleton] at hy
    rcases hy with hy | rfl
    · exact .inr (.inr (.inr (.inr (.inl ⟨y, hy, hr⟩))))
    · rcases hr with rfl | rfl
      · exact .inr (.inl rfl)
      · exact .inl rfl
  · exact .inr ⟨.inr (.inr (.inr (.inr (.inr ⟨y, hy, rfl⟩)))), fun h => by have := congrArg Rw.e h; simp at this⟩
theorem HN.addK {l : List Pr} {m : List Kd} {vp vk v2 : Value} {x : Kd} {r : Rw} (h : HN l (m ++ [x]) vp v2 r) :
    r = ⟨v2, m.length + 1, m.flatMap kdC ++ kdC x, 60⟩ ∨ ((r = ⟨x.kv, x.key.length, cB x.key, 5⟩ ∨ HN l m vp vk r) ∧ r ≠ ⟨vk, m.length, m.flatMap kdC, 60⟩) := by
  rcases h with rfl | rfl | ⟨y, hy, hr⟩ | ⟨y, hy, rfl⟩
  · exact .inr ⟨.inr (.inl rfl), fun h => by have := congrArg Rw.e h; simp at this⟩
  · exact .inl (by simp)
  · exact .inr ⟨.inr (.inr (.inr (.inl ⟨y, hy, hr⟩))), fun h => by rcases hr with rfl | rfl <;> (have := congrArg Rw.e h; simp at this)⟩
  · refine .inr ⟨?_, fun h => by have := congrArg Rw.e h; simp at this⟩
    rw [List.mem_append, List.mem_singleton] at hy
    rcases hy with hy | rfl
    · exact .inr (.inr (.inr (.inr ⟨y, hy, rfl⟩)))
    · exact .inl rfl
theorem bs1_41 {a b : Value} (ha : a.oneCell' = true) (hb : b.oneCell' = true) (ev : Operand → Option Value) (x : Operand) (h : ev x = some (.agg #[a, b])) : allocA Try.prog ev (.buildSlice 41 1 #[(0, x)]) = some (⟨[a, b], 58, true⟩, fun id => .slice (some ⟨id, 0, none⟩) 1 1) := by
  refine bs_eq (P := Try.prog) (ps := [(0, .agg #[a, b])]) (by simp [evP, h]) (sz := 2) (z := #[.slice none 0 0, .slice none 0 0]) (r := #[a, b]) un_41 (by kernel_rfl) (by decide) (by kernel_rfl) ?_ ⟨rfl, rfl, .inr (by simp)⟩
  cases a <;> first | (simp [Value.oneCell'] at ha; done) | (cases b <;> first | (simp [Value.oneCell'] at hb; done) | kernel_rfl)
theorem bs1_42 {a : Value} (ha : a.oneCell' = true) (g e : Int) (ev : Operand → Option Value) (x : Operand) (h : ev x = some (.agg #[a, .int .i64 g, .int .i64 e])) : allocA Try.prog ev (.buildSlice 42 1 #[(0, x)]) = some (⟨[a, .int .i64 g, .int .i64 e], 60, true⟩, fun id => .slice (some ⟨id, 0, none⟩) 1 1) := by
  refine bs_eq (P := Try.prog) (ps := [(0, .agg #[a, .int .i64 g, .int .i64 e])]) (by simp [evP, h]) (sz := 3) (z := #[.slice none 0 0, .int .i64 0, .int .i64 0]) (r := #[a, .int .i64 g, .int .i64 e]) un_42 (by kernel_rfl) (by decide) (by kernel_rfl) ?_ ⟨rfl, rfl, .inr (by simp)⟩
  cases a <;> first | (simp [Value.oneCell'] at ha; done) | kernel_rfl
theorem bd_58 {v : Value} (h : v.oneCell' = true) : buildV Try.prog 58 [(0, v)] = some (.agg #[v, .slice none 0 0]) := by
  cases v <;> first | rfl | (simp [Value.oneCell'] at h)
theorem bd_60 (a b : Int) : buildV Try.prog 60 [(1, .int .i64 a), (2, .int .i64 b)] = some (.agg #[.slice none 0 0, .int .i64 a, .int .i64 b]) := by rfl
theorem loopP_stop {α : Type} (f : Rs → Rs × α) {c : Nat} {s : Rs} (h : c = 0 ∨ s.code ≠ 0) : loopP f c s = (s, []) := by
  cases c with
  | zero => rfl
  | succ n => rw [loopP, if_neg (by omega)]
theorem loopP_step {α : Type} (f : Rs → Rs × α) {c : Nat} {s : Rs} (h : 0 < c) (h0 : s.code = 0) : loopP f c s = ((loopP f (c - 1) (f s).1).1, (f s).2 :: (loopP f (c - 1) (f s).1).2) := by
  cases c with
  | zero => omega
  | succ n => rw [loopP, if_pos h0, Nat.add_sub_cancel]
theorem GI.stepP {cnt : Nat} {s0 : Rs} {c : Nat} {s : Rs} {l : List Pr} {m : List Kd} (h : GI true cnt s0 c s l m) (hc : 0 < c) (h0 : s.code = 0) {x : Pr} (hx : prD x = (prP s).2) : GI true cnt s0 (c - 1) (prP s).1 (l ++ [x]) m := by
  obtain ⟨h1, h2, h3⟩ := (show _ ∧ _ ∧ _ from h)
  refine (show _ ∧ _ ∧ _ from ⟨h1, ?_, fun hz => ?_⟩)
  · rw [h2, loopP_step prP hc h0, List.map_append, List.append_assoc, List.map_cons, List.map_nil, hx]; rfl
  · have := prP_len hz
    have e1 : x.key = (prP s).2.1 := congrArg Prod.fst hx
    have e2 : x.val = (prP s).2.2 := congrArg Prod.snd hx
    have := h3 h0
    rw [sumF_append, sumF, sumF, prSz, e1, e2]; omega
theorem GI.stepK {cnt : Nat} {s0 : Rs} {c : Nat} {s : Rs} {l : List Pr} {m : List Kd} (h : GI false cnt s0 c s l m) (hc : 0 < c) (h0 : s.code = 0) {x : Kd} (hx : kdD x = (kdP s).2) : GI false cnt s0 (c - 1) (kdP s).1 l (m ++ [x]) := by
  obtain ⟨h1, h2, h3⟩ := (show _ ∧ _ ∧ _ from h)
  refine (show _ ∧ _ ∧ _ from ⟨h1, ?_, fun hz => ?_⟩)
  · rw [h2, loopP_step kdP hc h0, List.map_append, List.append_assoc, List.map_cons, List.map_nil, hx]; rfl
  · have := kdP_len hz
    have e1 : x.key = (kdP s).2.1 := congrArg Prod.fst hx
    have := h3 h0
    rw [sumF_append, sumF, sumF, kdSz, e1]; omega
theorem GI.last {leaf : Bool} {cnt : Nat} {s0 : Rs} {c : Nat} {s : Rs} {l : List Pr} {m : List Kd} (h : GI leaf cnt s0 c s l m) (hc : c = 0 ∨ s.code ≠ 0) : thingsF leaf cnt s0 = (s, NodeP.of ⟨leaf, l, m⟩) := by
  cases leaf with
  | true =>
    obtain ⟨rfl, h2, h3⟩ := (show _ ∧ _ ∧ _ from h)
    rw [loopP_stop prP hc, List.append_nil] at h2
    rw [thingsF, if_pos rfl, h2]; rfl
  | false =>
    obtain ⟨rfl, h2, h3⟩ := (show _ ∧ _ ∧ _ from h)
    rw [loopP_stop kdP hc, List.append_nil] at h2
    rw [thingsF, if_neg (by decide), h2]; rfl
theorem sumF_mem {α : Type} {f : α → Int} {B : Int} : ∀ {l : List α}, (∀ a, a ∈ l → 1 ≤ f a) → sumF f l ≤ B → (l.length : Int) ≤ B ∧ ∀ a, a ∈ l → f a ≤ B := by
  intro l
  induction l generalizing B with
  | nil => intro _ h; exact ⟨by simpa [sumF] using h, fun a ha => by cases ha⟩
  | cons x l ih =>
    intro h1 h2
    rw [sumF] at h2
    have hx := h1 x List.mem_cons_self
    obtain ⟨h3, h4⟩ := ih (B := B - f x) (fun a ha => h1 a (List.mem_cons_of_mem _ ha)) (by omega)
    refine ⟨by rw [List.length_cons]; omega, fun a ha => ?_⟩
    rcases List.mem_cons.1 ha with rfl | ha
    · have : 0 ≤ (l.length : Int) := by omega
      omega
    · have := h4 a ha; omega
theorem GI.lt {leaf : Bool} {cnt : Nat} {s0 : Rs} {c : Nat} {s : Rs} {l : List Pr} {m : List Kd} (h : GI leaf cnt s0 c s l m) (h0 : s.code = 0) : Lt18 ⟨leaf, l, m⟩ ∧ sizeF ⟨leaf, l, m⟩ + s.b.length = 496 := by
  cases leaf with
  | true =>
    obtain ⟨rfl, h2, h3⟩ := (show _ ∧ _ ∧ _ from h)
    have h3 := h3 h0
    obtain ⟨g1, g2⟩ := sumF_mem (f := prSz) (B := 493) (l := l) (fun a _ => by unfold prSz; omega) (by omega)
    refine ⟨⟨by show l.length ≤ 1000; omega, by simp, fun p hp => ?_, fun p hp => ?_, fun p hp => by cases hp⟩, by simp only [sizeF, sumF]; omega⟩
    · have := g2 p hp; unfold prSz at this; omega
    · have := g2 p hp; unfold prSz at this; omega
  | false =>
    obtain ⟨rfl, h2, h3⟩ := (show _ ∧ _ ∧ _ from h)
    have h3 := h3 h0
    obtain ⟨g1, g2⟩ := sumF_mem (f := kdSz) (B := 493) (l := m) (fun a _ => by unfold kdSz; omega) (by omega)
    refine ⟨⟨by simp, by show m.length ≤ 1000; omega, fun p hp => (by cases hp), fun p hp => (by cases hp), fun p hp => ?_⟩, by simp only [sizeF, sumF]; omega⟩
    have := g2 p hp; unfold kdSz at this; omega
end Go.Proofs.Ythheaehpnleiaaa.AX
