/- Closed facts of the program that its cards ask. -/
import Derived.Test.YtopblipficpilaaGreatDoorRows
import Derived.KernelRfl
import Derived.SevenTiedAt
namespace Go.Proofs.YtopblipficpilaaGreatDoor.AY
open Go Go.Proofs
set_option maxRecDepth 100000
theorem noLooks : false = Tryz.prog.looks [] := by kernel_rfl
end Go.Proofs.YtopblipficpilaaGreatDoor.AY
