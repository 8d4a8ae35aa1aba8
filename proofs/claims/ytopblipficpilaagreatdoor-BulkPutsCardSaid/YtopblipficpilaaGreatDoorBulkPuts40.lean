/- From what was handed in to the layer, fourth part: rows of rows of bytes, and bytes with their block, for BulkPuts. -/
import Derived.Test.YtopblipficpilaaGreatDoorBulkPuts30
import Derived.Test.YtopblipficpilaaGreatDoorBulkPuts7
namespace Go.Proofs.YtopblipficpilaaGreatDoor.AY
open Go Go.Proofs Go.RowKit Go.ChangeShapes Go.WideShapes Go.Deep
set_option linter.unusedVariables false
set_option linter.unusedSimpArgs false
set_option maxRecDepth 100000

theorem bytB_of {l : List Int} (h : ∀ x, x ∈ l → (Lit.int .u8 x).wf = true) : BytB l := fun x hx => by
  have := h x hx
  simp [Lit.wf, IntKind.min, IntKind.max, IntKind.signed, IntKind.bits] at this
  omega
theorem rows_ofB {M : Mem} {v : Value} (h : ShV Tryz.prog M 59 v) : ∃ (vs : List Value) (ls : List (List Int)), Row_ M v vs.length vs ∧ Parts M vs ls ∧ (∀ l, l ∈ ls → l.length ≤ 9223372036854775807) ∧ ∀ l, l ∈ ls → BytB l := by
  unfold ShV at h
  rw [Tryz.underlying59] at h
  have h : Sh Tryz.prog M 59 [v] := h
  obtain ⟨u, n, ecs, h1, h2, hE, h3, h4, h5⟩ := h.slice_inv Tryz.underlying59
  rw [show Tryz.prog.cellsOf 42 = 1 by kernel_rfl] at h3 h5
  obtain ⟨L, rfl, rfl, q3⟩ := rows_of (f := fun p : Value × List Int => [p.1]) (p := fun p => RowB M p.1 p.2 ∧ p.2.length ≤ 9223372036854775807 ∧ BytB p.2) n ecs h3 fun i hi => by
    obtain ⟨u, l, e1, e2, e3, e4⟩ := (h5 i hi).ints Tryz.underlying42 Tryz.underlying5 (by kernel_rfl)
    exact ⟨(u, l), e1, e2, Nat.le_trans e3 (by decide), bytB_of e4⟩
  rw [flatMap_one (fun p : Value × List Int => p.1)] at h2 hE
  cases h1
  refine ⟨L.map (·.1), L.map (·.2), by simpa using h2, ⟨by simp, fun i v l hv hl => ?_⟩, fun l hl => ?_, fun l hl => ?_⟩
  · rw [List.getElem?_map, Option.map_eq_some_iff] at hv hl
    obtain ⟨a, ha, rfl⟩ := hv
    obtain ⟨b, hb, rfl⟩ := hl
    rw [ha] at hb; cases hb
    exact (q3 a (List.mem_of_getElem? ha)).1
  · obtain ⟨a, ha, rfl⟩ := List.mem_map.1 hl
    exact (q3 a ha).2.1
  · obtain ⟨a, ha, rfl⟩ := List.mem_map.1 hl
    exact (q3 a ha).2.2
theorem bytes_ofE {M : Mem} {v : Value} (h : ShV Tryz.prog M 42 v) : ∃ l : List Int, RowB M v l ∧ (l = [] ∨ RowE M v l.length (cB l) 5) ∧ BytB l ∧ l.length ≤ 9223372036854775807 := by
  unfold ShV at h
  rw [Tryz.underlying42] at h
  have h : Sh Tryz.prog M 42 [v] := h
  obtain ⟨u, n, ecs, h1, h2, hE, h3, h4, h5⟩ := h.slice_inv Tryz.underlying42
  rw [show Tryz.prog.cellsOf 5 = 1 by kernel_rfl] at h3 h5
  obtain ⟨l, rfl, rfl, q3⟩ := rows_of (f := fun x => [Value.int .u8 x]) (p := fun x => (Lit.int .u8 x).wf = true) n ecs h3 fun i hi => (h5 i hi).int_inv Tryz.underlying5
  rw [flatMap_one] at h2 hE
  cases h1
  exact ⟨l, h2, hE.imp List.eq_nil_of_length_eq_zero id, bytB_of q3, Nat.le_trans h4 (by decide)⟩
end Go.Proofs.YtopblipficpilaaGreatDoor.AY
