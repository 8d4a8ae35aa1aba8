/- Closed facts that the row of BulkSplits asks. -/
import Derived.Test.YtopblipficpilaaGreatDoorRows
import Derived.KernelRfl
import Derived.JoinedOf
namespace Go.Proofs.YtopblipficpilaaGreatDoor.AY.bulkSplits
open Go Go.Proofs
set_option maxRecDepth 100000

theorem k13 : ((Rows.bulkSplitsRow.named == Tryz.prog.varsNamed 7)) = true := by kernel_rfl
end Go.Proofs.YtopblipficpilaaGreatDoor.AY.bulkSplits
