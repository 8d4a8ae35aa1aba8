/- bulk.Split: many, in parts. -/
import Derived.Test.YtopblipficpilaaGreatDoorBulkPuts7
namespace Go.Proofs.YtopblipficpilaaGreatDoor.AY
open Go Go.Proofs
set_option maxRecDepth 100000
set_option linter.unusedVariables false
set_option linter.unusedSimpArgs false

/-- what is left of a row -/
def Rem (M : Mem) (v : Value) (vs : List Value) : Prop := (vs = [] ∧ Row_ M v 0 []) ∨ RowE M v vs.length vs 42
theorem Rem.row {M : Mem} {v : Value} {vs : List Value} (h : Rem M v vs) : Row_ M v vs.length vs := by
  rcases h with ⟨rfl, h⟩ | h
  · exact h
  · exact h.row
end Go.Proofs.YtopblipficpilaaGreatDoor.AY
