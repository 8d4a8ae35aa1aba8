/- Where the law's function stands. -/
import Derived.Test.YtopblipficpilaaGreatDoorRows
import Derived.KernelRfl
namespace Go.Proofs.YtopblipficpilaaGreatDoor.AY.bulkSplits
open Go Go.Proofs
set_option maxRecDepth 100000
theorem named : Tryz.prog.funcNamed "deedbox/deedboxlaw40.BulkSplits" = some 7 := by kernel_rfl
end Go.Proofs.YtopblipficpilaaGreatDoor.AY.bulkSplits
