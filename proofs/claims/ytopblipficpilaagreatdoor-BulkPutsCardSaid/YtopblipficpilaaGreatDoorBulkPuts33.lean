/- Closed facts that the row of BulkPuts asks. -/
import Derived.Test.YtopblipficpilaaGreatDoorRows
import Derived.KernelRfl
import Derived.JoinedOf
namespace Go.Proofs.YtopblipficpilaaGreatDoor.AY.bulkPuts
open Go Go.Proofs
set_option maxRecDepth 100000

theorem k11 : ((Rows.bulkPutsRow.unfollowed == Tryz.prog.unfollowed 6)) = true := by kernel_rfl
end Go.Proofs.YtopblipficpilaaGreatDoor.AY.bulkPuts
