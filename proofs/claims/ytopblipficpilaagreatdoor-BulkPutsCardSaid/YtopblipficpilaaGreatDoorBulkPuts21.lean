/- The layer: the closed run of deedboxlaw40.works. -/
import Derived.Test.YtopblipficpilaaGreatDoorBulkPuts20
namespace Go.Proofs.YtopblipficpilaaGreatDoor.AY
open Go Go.Proofs
set_option maxRecDepth 1000000

theorem works40_run : isTrue ((zMach Tryz.prog tab extF ovW 100000 3 1000).call 24 [] (memG maxLenG)) = true := by kernel_rfl
theorem works40_ok (M : Mem) (j : Nat) (hj : M.get j = some ⟨[], globTag + maxLenG, false⟩) : ACall Tryz.prog 24 #[] M (.bool true) M := by
  obtain ⟨M', h⟩ := isTrue_of works40_run
  exact ((mach_ok mixedO extF_ok tabOk ovW_ok 1000).call _ _ _ _ _ h).closedG rfl M hj
end Go.Proofs.YtopblipficpilaaGreatDoor.AY
