/- Nodes and bytes that were handed in, as the layer has them. -/
import Derived.Test.YthheaehpnleiaaaReplyBack16
import Derived.Test.YthheaehpnleiaaaReplyBack11
import Derived.Test.YthheaehpnleiaaaReplyBack8
namespace Go.Proofs.Ythheaehpnleiaaa.AX
open Go Go.Proofs Go.RowKit Go.ChangeShapes Go.WideShapes Go.Deep
set_option linter.unusedVariables false
set_option linter.unusedSimpArgs false
set_option maxRecDepth 100000

theorem byt_of {l : List Int} (h : ∀ x, x ∈ l → (Lit.int .u8 x).wf = true) : Byt l := fun x hx => by
  have := h x hx
  simp [Lit.wf, IntKind.min, IntKind.max, IntKind.signed, IntKind.bits] at this
  omega
theorem bytes_sh {M : Mem} {v : Value} (h : Sh Try.prog M 23 [v]) : ∃ l : List Int, RowB M v l ∧ Byt l ∧ l.length ≤ maxLen := by
  obtain ⟨u, l, h1, h2, h3, h4⟩ := h.ints Try.underlying23 Try.underlying5 (by kernel_rfl)
  cases h1
  exact ⟨l, h2, byt_of h4, h3⟩
theorem bytes_of {M : Mem} {v : Value} (h : ShV Try.prog M 23 v) : ∃ l : List Int, RowB M v l ∧ Byt l ∧ l.length ≤ maxLen := by
  unfold ShV at h
  rw [Try.underlying23] at h
  exact bytes_sh h
end Go.Proofs.Ythheaehpnleiaaa.AX

/- An answer that was handed in, with its bytes. -/
namespace Go.Proofs.Ythheaehpnleiaaa.AX
open Go Go.Proofs Go.RowKit Go.ChangeShapes Go.WideShapes Go.Deep
set_option linter.unusedVariables false
set_option linter.unusedSimpArgs false
set_option maxRecDepth 100000

theorem rep_ofB {M : Mem} {v : Value} (h : ShV Try.prog M 29 v) : ∃ (r : Rep) (vb vm vt vn vp vs : Value), v = .agg (repC r vb vm vt vn vp vs).toArray ∧ RepR M r vb vm vt vn vp vs ∧ (Byt r.body ∧ Byt r.meta_ ∧ Byt r.tags) := by
  unfold ShV at h
  rw [Try.underlying29] at h
  obtain ⟨acs, rfl, h⟩ := h
  have c22 : Try.prog.cellsOf 22 = 1 := by kernel_rfl
  have c3 : Try.prog.cellsOf 3 = 1 := by kernel_rfl
  have c4 : Try.prog.cellsOf 4 = 1 := by kernel_rfl
  have c5 : Try.prog.cellsOf 5 = 1 := by kernel_rfl
  have c9 : Try.prog.cellsOf 9 = 1 := by kernel_rfl
  have c23 : Try.prog.cellsOf 23 = 1 := by kernel_rfl
  have c24 : Try.prog.cellsOf 24 = 1 := by kernel_rfl
  have c26 : Try.prog.cellsOf 26 = 4 := by kernel_rfl
  have c27 : Try.prog.cellsOf 27 = 1 := by kernel_rfl
  have c63 : Try.prog.cellsOf 63 = 5 := by kernel_rfl
  match acs, h.len Try.underlying29 (n := 17) (by kernel_rfl), h with
  | [a0, a1, a2, a3, a4, a5, a6, a7, a8, a9, a10, a11, a12, a13, a14, a15, a16], _, h =>
    have f0 : Sh Try.prog M 22 [a0] := h.field Try.underlying29 0 22 0 rfl c22
    have f1 : Sh Try.prog M 3 [a1] := h.field Try.underlying29 1 3 1 rfl c3
    have f2 : Sh Try.prog M 3 [a2] := h.field Try.underlying29 2 3 2 rfl c3
    have f3 : Sh Try.prog M 3 [a3] := h.field Try.underlying29 3 3 3 rfl c3
    have f4 : Sh Try.prog M 23 [a4] := h.field Try.underlying29 4 23 4 rfl c23
    have f5 : Sh Try.prog M 23 [a5] := h.field Try.underlying29 5 23 5 rfl c23
    have f6 : Sh Try.prog M 23 [a6] := h.field Try.underlying29 6 23 6 rfl c23
    have f7 : Sh Try.prog M 3 [a7] := h.field Try.underlying29 7 3 7 rfl c3
    have f8 : Sh Try.prog M 4 [a8] := h.field Try.underlying29 8 4 8 rfl c4
    have f9 : Sh Try.prog M 26 [a9, a10, a11, a12] := h.field Try.underlying29 9 26 9 rfl c26
    have f10 : Sh Try.prog M 27 [a13] := h.field Try.underlying29 10 27 13 rfl c27
    have f11 : Sh Try.prog M 3 [a14] := h.field Try.underlying29 11 3 14 rfl c3
    have f12 : Sh Try.prog M 3 [a15] := h.field Try.underlying29 12 3 15 rfl c3
    have f13 : Sh Try.prog M 4 [a16] := h.field Try.underlying29 13 4 16 rfl c4
    obtain ⟨code, e0, _⟩ := f0.int_inv Try.underlying22
    obtain ⟨id, e1, _⟩ := f1.int_inv Try.underlying3
    obtain ⟨seq, e2, _⟩ := f2.int_inv Try.underlying3
    obtain ⟨size, e3, _⟩ := f3.int_inv Try.underlying3
    obtain ⟨vb, body, e4, hb, _, yb⟩ := f4.ints Try.underlying23 Try.underlying5 c5
    obtain ⟨vm, meta_, e5, hm, _, ym⟩ := f5.ints Try.underlying23 Try.underlying5 c5
    obtain ⟨vt, tags, e6, ht, _, yt⟩ := f6.ints Try.underlying23 Try.underlying5 c5
    obtain ⟨until_, e7, _⟩ := f7.int_inv Try.underlying3
    obtain ⟨marker, e8⟩ := f8.bool_inv Try.underlying4
    have g0 : Sh Try.prog M 24 [a9] := f9.field Try.underlying26 0 24 0 rfl c24
    have g1 : Sh Try.prog M 24 [a10] := f9.field Try.underlying26 1 24 1 rfl c24
    have g2 : Sh Try.prog M 9 [a11] := f9.field Try.underlying26 2 9 2 rfl c9
    have g3 : Sh Try.prog M 4 [a12] := f9.field Try.underlying26 3 4 3 rfl c4
    obtain ⟨vn, names, e9, hn, _⟩ := g0.strings Try.underlying24 Try.underlying9 c9
    obtain ⟨vp, prefixes, e10, hp, _⟩ := g1.strings Try.underlying24 Try.underlying9 c9
    obtain ⟨next, e11, _⟩ := g2.string_inv Try.underlying9
    obtain ⟨more, e12⟩ := g3.bool_inv Try.underlying4
    obtain ⟨vs, n, ecs, e13, hs, _, hsl, _, hse⟩ := f10.slice_inv Try.underlying27
    rw [c63] at hsl hse
    obtain ⟨upload, e14, _⟩ := f11.int_inv Try.underlying3
    obtain ⟨count, e15, _⟩ := f12.int_inv Try.underlying3
    obtain ⟨done, e16⟩ := f13.bool_inv Try.underlying4
    obtain ⟨shown, rfl, rfl, _⟩ := rows_of (f := shwC) (p := fun _ => True) n ecs hsl fun i hi => by
      have hi2 := hse i hi
      generalize (ecs.drop (i * 5)).take 5 = L at hi2
      match L, hi2.len Try.underlying63 c63, hi2 with
      | [b0, b1, b2, b3, b4], _, hi2 =>
        have k0 : Sh Try.prog M 9 [b0] := hi2.field Try.underlying63 0 9 0 rfl c9
        have k1 : Sh Try.prog M 3 [b1] := hi2.field Try.underlying63 1 3 1 rfl c3
        have k2 : Sh Try.prog M 3 [b2] := hi2.field Try.underlying63 2 3 2 rfl c3
        have k3 : Sh Try.prog M 4 [b3] := hi2.field Try.underlying63 3 4 3 rfl c4
        have k4 : Sh Try.prog M 4 [b4] := hi2.field Try.underlying63 4 4 4 rfl c4
        obtain ⟨x0, q0, _⟩ := k0.string_inv Try.underlying9
        obtain ⟨x1, q1, _⟩ := k1.int_inv Try.underlying3
        obtain ⟨x2, q2, _⟩ := k2.int_inv Try.underlying3
        obtain ⟨x3, q3⟩ := k3.bool_inv Try.underlying4
        obtain ⟨x4, q4⟩ := k4.bool_inv Try.underlying4
        cases q0; cases q1; cases q2; cases q3; cases q4
        exact ⟨⟨x0, x1, x2, x3, x4⟩, rfl, trivial⟩
    cases e0; cases e1; cases e2; cases e3; cases e4; cases e5; cases e6; cases e7; cases e8; cases e9; cases e10; cases e11; cases e12; cases e13; cases e14; cases e15; cases e16
    exact ⟨⟨code, id, seq, size, until_, upload, count, body, meta_, tags, marker, done, more, names, prefixes, next, shown⟩, a4, a5, a6, a9, a10, a13, rfl, ⟨hb, hm, ht, hn, hp, hs⟩, byt_of yb, byt_of ym, byt_of yt⟩

end Go.Proofs.Ythheaehpnleiaaa.AX
