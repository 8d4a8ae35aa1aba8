/- Closed facts that the row of BulkPuts asks. -/
import Derived.Test.YtopblipficpilaaGreatDoorRows
import Derived.KernelRfl
import Derived.JoinedOf
namespace Go.Proofs.YtopblipficpilaaGreatDoor.AY.bulkPuts
open Go Go.Proofs
set_option maxRecDepth 100000

theorem k22 : ((Rows.bulkPutsRow.plainKeys == Tryz.prog.plainKeys)) = true := by kernel_rfl
end Go.Proofs.YtopblipficpilaaGreatDoor.AY.bulkPuts
