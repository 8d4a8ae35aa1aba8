/- Nodes and bytes that were handed in, as the layer has them. -/
import Derived.Test.YthheaehpnleiaaaReplyReads16
import Derived.Test.YthheaehpnleiaaaReplyReads10
namespace Go.Proofs.Ythheaehpnleiaaa.AX
open Go Go.Proofs Go.RowKit Go.ChangeShapes Go.WideShapes Go.Deep
set_option linter.unusedVariables false
set_option linter.unusedSimpArgs false
set_option maxRecDepth 100000

theorem byt_of {l : List Int} (h : ∀ x, x ∈ l → (Lit.int .u8 x).wf = true) : Byt l := fun x hx => by
  have := h x hx
  simp [Lit.wf, IntKind.min, IntKind.max, IntKind.signed, IntKind.bits] at this
  omega
end Go.Proofs.Ythheaehpnleiaaa.AX

/- Bytes that were handed in, with their block's kind. -/
namespace Go.Proofs.Ythheaehpnleiaaa.AX
open Go Go.Proofs Go.RowKit Go.ChangeShapes Go.WideShapes Go.Deep
set_option linter.unusedVariables false
set_option linter.unusedSimpArgs false
set_option maxRecDepth 100000

theorem bytes_ofE {M : Mem} {v : Value} (h : ShV Try.prog M 23 v) : ∃ l : List Int, RowB M v l ∧ Byt l ∧ (l = [] ∨ RowE M v l.length (cB l) 5) := by
  unfold ShV at h
  rw [Try.underlying23] at h
  have h : Sh Try.prog M 23 [v] := h
  obtain ⟨u, n, ecs, h1, h2, hE, h3, h4, h5⟩ := h.slice_inv Try.underlying23
  rw [show Try.prog.cellsOf 5 = 1 by kernel_rfl] at h3 h5
  obtain ⟨l, rfl, rfl, q3⟩ := rows_of (f := fun x => [Value.int .u8 x]) (p := fun x => (Lit.int .u8 x).wf = true) n ecs h3 fun i hi => (h5 i hi).int_inv Try.underlying5
  rw [flatMap_one] at h2 hE
  cases h1
  exact ⟨l, h2, byt_of q3, hE.imp List.eq_nil_of_length_eq_zero id⟩
end Go.Proofs.Ythheaehpnleiaaa.AX
