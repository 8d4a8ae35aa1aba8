/- Closed facts that the row of BulkSplits asks. -/
import Derived.Test.YtopblipficpilaaGreatDoorRows
import Derived.KernelRfl
import Derived.JoinedOf
namespace Go.Proofs.YtopblipficpilaaGreatDoor.AY.bulkSplits
open Go Go.Proofs
set_option maxRecDepth 100000

theorem k11 : ((Rows.bulkSplitsRow.unfollowed == Tryz.prog.unfollowed 7)) = true := by kernel_rfl
end Go.Proofs.YtopblipficpilaaGreatDoor.AY.bulkSplits
