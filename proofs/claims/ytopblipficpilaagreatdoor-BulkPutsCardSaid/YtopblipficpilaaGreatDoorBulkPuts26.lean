/- Where the law's function stands. -/
import Derived.Test.YtopblipficpilaaGreatDoorRows
import Derived.KernelRfl
namespace Go.Proofs.YtopblipficpilaaGreatDoor.AY.bulkPuts
open Go Go.Proofs
set_option maxRecDepth 100000
theorem named : Tryz.prog.funcNamed "deedbox/deedboxlaw40.BulkPuts" = some 6 := by kernel_rfl
end Go.Proofs.YtopblipficpilaaGreatDoor.AY.bulkPuts
