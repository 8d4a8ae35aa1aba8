/- Nodes and bytes that were handed in, as the layer has them. -/
import Derived.Test.YthheaehpnleiaaaNodePuts37
import Derived.Test.YthheaehpnleiaaaNodePuts15
namespace Go.Proofs.Ythheaehpnleiaaa.AX
open Go Go.Proofs Go.RowKit Go.ChangeShapes Go.WideShapes Go.Deep
set_option linter.unusedVariables false
set_option linter.unusedSimpArgs false
set_option maxRecDepth 100000

theorem byt_of {l : List Int} (h : ∀ x, x ∈ l → (Lit.int .u8 x).wf = true) : Byt l := fun x hx => by
  have := h x hx
  simp [Lit.wf, IntKind.min, IntKind.max, IntKind.signed, IntKind.bits] at this
  omega
theorem bytes_sh {M : Mem} {v : Value} (h : Sh Try.prog M 23 [v]) : ∃ l : List Int, RowB M v l ∧ Byt l ∧ l.length ≤ maxLen := by
  obtain ⟨u, l, h1, h2, h3, h4⟩ := h.ints Try.underlying23 Try.underlying5 (by kernel_rfl)
  cases h1
  exact ⟨l, h2, byt_of h4, h3⟩
theorem bytes_of {M : Mem} {v : Value} (h : ShV Try.prog M 23 v) : ∃ l : List Int, RowB M v l ∧ Byt l ∧ l.length ≤ maxLen := by
  unfold ShV at h
  rw [Try.underlying23] at h
  exact bytes_sh h
theorem node_of {M : Mem} {v : Value} (h : ShV Try.prog M 44 v) : ∃ (n : Node) (vp vk : Value), v = .agg (nodeC n.leaf vp vk).toArray ∧ NodeR M n vp vk ∧ NodeB n ∧ (n.pairs = [] ∨ RowE M vp n.pairs.length (n.pairs.flatMap prC) 58) ∧ (n.kids = [] ∨ RowE M vk n.kids.length (n.kids.flatMap kdC) 60) := by
  unfold ShV at h
  rw [Try.underlying44] at h
  obtain ⟨acs, rfl, h⟩ := h
  have c3 : Try.prog.cellsOf 3 = 1 := by kernel_rfl
  have c4 : Try.prog.cellsOf 4 = 1 := by kernel_rfl
  have c23 : Try.prog.cellsOf 23 = 1 := by kernel_rfl
  have c41 : Try.prog.cellsOf 41 = 1 := by kernel_rfl
  have c42 : Try.prog.cellsOf 42 = 1 := by kernel_rfl
  have c58 : Try.prog.cellsOf 58 = 2 := by kernel_rfl
  have c60 : Try.prog.cellsOf 60 = 3 := by kernel_rfl
  match acs, h.len Try.underlying44 (n := 3) (by kernel_rfl), h with
  | [a0, a1, a2], _, h =>
    have f0 : Sh Try.prog M 4 [a0] := h.field Try.underlying44 0 4 0 rfl c4
    have f1 : Sh Try.prog M 41 [a1] := h.field Try.underlying44 1 41 1 rfl c41
    have f2 : Sh Try.prog M 42 [a2] := h.field Try.underlying44 2 42 2 rfl c42
    obtain ⟨leaf, e0⟩ := f0.bool_inv Try.underlying4
    obtain ⟨vp, np, ep, e1, hp, hpE, hpl, _, hpe⟩ := f1.slice_inv Try.underlying41
    obtain ⟨vk, nk, ek, e2, hk, hkE, hkl, _, hke⟩ := f2.slice_inv Try.underlying42
    rw [c58] at hpl hpe
    rw [c60] at hkl hke
    obtain ⟨ps, rfl, rfl, hps⟩ := rows_of (f := prC) (p := fun p => RowB M p.kv p.key ∧ RowB M p.vv p.val ∧ Byt p.key ∧ Byt p.val) np ep hpl fun i hi => by
      have hi2 := hpe i hi
      generalize (ep.drop (i * 2)).take 2 = L at hi2
      match L, hi2.len Try.underlying58 c58, hi2 with
      | [b0, b1], _, hi2 =>
        have k0 : Sh Try.prog M 23 [b0] := hi2.field Try.underlying58 0 23 0 rfl c23
        have k1 : Sh Try.prog M 23 [b1] := hi2.field Try.underlying58 1 23 1 rfl c23
        obtain ⟨l0, q0, r0, _⟩ := bytes_sh k0
        obtain ⟨l1, q1, r1, _⟩ := bytes_sh k1
        exact ⟨⟨b0, b1, l0, l1⟩, rfl, q0, q1, r0, r1⟩
    obtain ⟨ks, rfl, rfl, hks⟩ := rows_of (f := kdC) (p := fun p => RowB M p.kv p.key ∧ Byt p.key) nk ek hkl fun i hi => by
      have hi2 := hke i hi
      generalize (ek.drop (i * 3)).take 3 = L at hi2
      match L, hi2.len Try.underlying60 c60, hi2 with
      | [b0, b1, b2], _, hi2 =>
        have k0 : Sh Try.prog M 23 [b0] := hi2.field Try.underlying60 0 23 0 rfl c23
        have k1 : Sh Try.prog M 3 [b1] := hi2.field Try.underlying60 1 3 1 rfl c3
        have k2 : Sh Try.prog M 3 [b2] := hi2.field Try.underlying60 2 3 2 rfl c3
        obtain ⟨l0, q0, r0, _⟩ := bytes_sh k0
        obtain ⟨x1, q1, _⟩ := k1.int_inv Try.underlying3
        obtain ⟨x2, q2, _⟩ := k2.int_inv Try.underlying3
        cases q1; cases q2
        exact ⟨⟨b0, l0, x1, x2⟩, rfl, q0, r0⟩
    cases e0; cases e1; cases e2
    exact ⟨⟨leaf, ps, ks⟩, a1, a2, rfl, ⟨hp, hk, fun p h => (hps p h).1, fun p h => (hps p h).2.1, fun p h => (hks p h).1⟩, ⟨fun p h => (hps p h).2.2.1, fun p h => (hps p h).2.2.2, fun p h => (hks p h).2⟩, hpE.imp (fun h => List.eq_nil_of_length_eq_zero h) id, hkE.imp (fun h => List.eq_nil_of_length_eq_zero h) id⟩
end Go.Proofs.Ythheaehpnleiaaa.AX
