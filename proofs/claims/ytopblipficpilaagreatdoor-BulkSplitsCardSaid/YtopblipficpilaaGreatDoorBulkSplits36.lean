/- Closed facts that the row of BulkSplits asks. -/
import Derived.Test.YtopblipficpilaaGreatDoorBulkSplits21
import Derived.Test.YtopblipficpilaaGreatDoorBulkSplits29
import Derived.Test.YtopblipficpilaaGreatDoorBulkSplits30
import Derived.Test.YtopblipficpilaaGreatDoorBulkSplits31
import Derived.Test.YtopblipficpilaaGreatDoorBulkSplits32
import Derived.Test.YtopblipficpilaaGreatDoorBulkSplits33
import Derived.Test.YtopblipficpilaaGreatDoorBulkSplits34
import Derived.Test.YtopblipficpilaaGreatDoorBulkSplits35
import Derived.Test.YtopblipficpilaaGreatDoorRows
import Derived.KernelRfl
import Derived.JoinedOf
namespace Go.Proofs.YtopblipficpilaaGreatDoor.AY.bulkSplits
open Go Go.Proofs
set_option maxRecDepth 100000

theorem bb {a b : Bool} (h : a = true) (h' : b = true) : (a && b) = true := by rw [h, h']; rfl
theorem k1 : (Rows.bulkSplitsRow.wf (OpenSpec.ofChange Rows.bulkSplitsSpec)) = true := by kernel_rfl
theorem k2 : laidOutB Tryz.prog = true := laidOut
theorem k3 : mapsRowed Tryz.prog = true := mapsOk
theorem k4 : (Tryz.f7.params.all (Tryz.prog.readableRec ·)) = true := by kernel_rfl
theorem k5 : (namedTie Tryz.prog Rows.bulkSplitsRow.named Rows.bulkSplitsSpec.vars) = true := by kernel_rfl
theorem k6 : ((Rows.bulkSplitsRow.stops == [])) = true := by kernel_rfl
theorem k7 : ((Tryz.prog.stops == [])) = true := by kernel_rfl
theorem k8 : ((Rows.bulkSplitsRow.knobs == [])) = true := by kernel_rfl
theorem k9 : ((Tryz.prog.stopKnobs == [])) = true := by kernel_rfl
theorem k14 : ((Rows.bulkSplitsRow.maps == (Tryz.f7.params.toList ++ Rows.bulkSplitsSpec.plain.varTypes Tryz.prog).any (Tryz.prog.mapsRec ·))) = true := by kernel_rfl
theorem k15 : ((Rows.bulkSplitsRow.ifaces == (Tryz.f7.params.toList ++ Rows.bulkSplitsSpec.plain.varTypes Tryz.prog).any (Tryz.prog.ifacesRec ·))) = true := by kernel_rfl
theorem k16 : ((Rows.bulkSplitsRow.mapsOut == Tryz.prog.mapsAmong Tryz.f7.resultTypes.toList)) = true := by kernel_rfl
theorem k17 : ((Rows.bulkSplitsRow.loops == (Tryz.f7.params.toList ++ Rows.bulkSplitsSpec.plain.varTypes Tryz.prog).any (Tryz.prog.loopsFrom ·))) = true := by kernel_rfl
theorem k17b : ((Rows.bulkSplitsRow.wideKeys == (Tryz.f7.params.toList ++ Rows.bulkSplitsSpec.plain.varTypes Tryz.prog ++ Tryz.f7.resultTypes.toList).any (Tryz.prog.wideKeysFrom ·))) = true := by kernel_rfl
theorem k18 : (Rows.bulkSplitsSpec.vars.all (Tryz.prog.varReadable ·)) = true := by kernel_rfl
theorem k19 : (Tryz.f7.resultTypes.all (fun t => Tryz.prog.readableRec t && decide (t < Tryz.prog.types.size))) = true := by kernel_rfl
theorem k20 : ((Rows.bulkSplitsRow.ifacesOut == Tryz.f7.resultTypes.toList.any (Tryz.prog.ifacesRec ·))) = true := by kernel_rfl
theorem k21 : ((Rows.bulkSplitsRow.loopsOut == Tryz.f7.resultTypes.toList.any (Tryz.prog.loopsFrom ·))) = true := by kernel_rfl
theorem k23 : (Rows.bulkSplitsRow.shortTexts.isNone) = true := by kernel_rfl
theorem k24b : ((Rows.bulkSplitsRow.lifted == Tryz.prog.liftsFinal)) = true := by kernel_rfl
theorem k24c : ((Tryz.prog.make == some Rows.bulkSplitsRow.make)) = true := by kernel_rfl
theorem k25 : ((Rows.bulkSplitsRow.kinds == (if Rows.bulkSplitsRow.domain.isEmpty then [] else Tryz.f7.params.toList.map fun t => match Tryz.prog.underlying t with | some (.int k) => some k | _ => none))) = true := by kernel_rfl
theorem k26 : ((Rows.bulkSplitsRow.pinned == Rows.bulkSplitsRow.pinnedBy)) = true := by kernel_rfl
theorem k27 : ((Rows.bulkSplitsRow.veiled == (Tryz.f7.params.toList ++ Rows.bulkSplitsSpec.plain.varTypes Tryz.prog ++ Tryz.f7.resultTypes.toList).any (Tryz.prog.veiledRec ·))) = true := by kernel_rfl
theorem k28 : (Rows.bulkSplitsRow.veiledFits Tryz.prog Tryz.f7.params.toList (Tryz.f7.params.toList ++ Rows.bulkSplitsSpec.plain.varTypes Tryz.prog ++ Tryz.f7.resultTypes.toList)) = true := by kernel_rfl
theorem joined : joinedFacts Tryz.prog 7 Tryz.f7 Rows.bulkSplitsSpec Rows.bulkSplitsRow = true := (bb (bb (bb (bb (bb (bb (bb (bb (bb (bb (bb (bb (bb (bb (bb (bb (bb (bb (bb (bb (bb (bb (bb (bb (bb (bb (bb (bb (bb (bb (bb k1 k2) k3) k4) k5) k6) k7) k8) k9) k10) k11) k12) k13) k14) k15) k16) k17) k17b) k18) k19) k20) k21) k22) k23) k23b) k24) k24b) k24c) k25) k26) k27) k28)
end Go.Proofs.YtopblipficpilaaGreatDoor.AY.bulkSplits
