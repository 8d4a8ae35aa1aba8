/- Closed facts that the row of BulkPuts asks. -/
import Derived.Test.YtopblipficpilaaGreatDoorBulkPuts23
import Derived.Test.YtopblipficpilaaGreatDoorBulkPuts32
import Derived.Test.YtopblipficpilaaGreatDoorBulkPuts33
import Derived.Test.YtopblipficpilaaGreatDoorBulkPuts34
import Derived.Test.YtopblipficpilaaGreatDoorBulkPuts35
import Derived.Test.YtopblipficpilaaGreatDoorBulkPuts36
import Derived.Test.YtopblipficpilaaGreatDoorBulkPuts37
import Derived.Test.YtopblipficpilaaGreatDoorBulkPuts38
import Derived.Test.YtopblipficpilaaGreatDoorRows
import Derived.KernelRfl
import Derived.JoinedOf
namespace Go.Proofs.YtopblipficpilaaGreatDoor.AY.bulkPuts
open Go Go.Proofs
set_option maxRecDepth 100000

theorem bb {a b : Bool} (h : a = true) (h' : b = true) : (a && b) = true := by rw [h, h']; rfl
theorem k1 : (Rows.bulkPutsRow.wf (OpenSpec.ofChange Rows.bulkPutsSpec)) = true := by kernel_rfl
theorem k2 : laidOutB Tryz.prog = true := laidOut
theorem k3 : mapsRowed Tryz.prog = true := mapsOk
theorem k4 : (Tryz.f6.params.all (Tryz.prog.readableRec ·)) = true := by kernel_rfl
theorem k5 : (namedTie Tryz.prog Rows.bulkPutsRow.named Rows.bulkPutsSpec.vars) = true := by kernel_rfl
theorem k6 : ((Rows.bulkPutsRow.stops == [])) = true := by kernel_rfl
theorem k7 : ((Tryz.prog.stops == [])) = true := by kernel_rfl
theorem k8 : ((Rows.bulkPutsRow.knobs == [])) = true := by kernel_rfl
theorem k9 : ((Tryz.prog.stopKnobs == [])) = true := by kernel_rfl
theorem k14 : ((Rows.bulkPutsRow.maps == (Tryz.f6.params.toList ++ Rows.bulkPutsSpec.plain.varTypes Tryz.prog).any (Tryz.prog.mapsRec ·))) = true := by kernel_rfl
theorem k15 : ((Rows.bulkPutsRow.ifaces == (Tryz.f6.params.toList ++ Rows.bulkPutsSpec.plain.varTypes Tryz.prog).any (Tryz.prog.ifacesRec ·))) = true := by kernel_rfl
theorem k16 : ((Rows.bulkPutsRow.mapsOut == Tryz.prog.mapsAmong Tryz.f6.resultTypes.toList)) = true := by kernel_rfl
theorem k17 : ((Rows.bulkPutsRow.loops == (Tryz.f6.params.toList ++ Rows.bulkPutsSpec.plain.varTypes Tryz.prog).any (Tryz.prog.loopsFrom ·))) = true := by kernel_rfl
theorem k17b : ((Rows.bulkPutsRow.wideKeys == (Tryz.f6.params.toList ++ Rows.bulkPutsSpec.plain.varTypes Tryz.prog ++ Tryz.f6.resultTypes.toList).any (Tryz.prog.wideKeysFrom ·))) = true := by kernel_rfl
theorem k18 : (Rows.bulkPutsSpec.vars.all (Tryz.prog.varReadable ·)) = true := by kernel_rfl
theorem k19 : (Tryz.f6.resultTypes.all (fun t => Tryz.prog.readableRec t && decide (t < Tryz.prog.types.size))) = true := by kernel_rfl
theorem k20 : ((Rows.bulkPutsRow.ifacesOut == Tryz.f6.resultTypes.toList.any (Tryz.prog.ifacesRec ·))) = true := by kernel_rfl
theorem k21 : ((Rows.bulkPutsRow.loopsOut == Tryz.f6.resultTypes.toList.any (Tryz.prog.loopsFrom ·))) = true := by kernel_rfl
theorem k23 : (Rows.bulkPutsRow.shortTexts.isNone) = true := by kernel_rfl
theorem k24b : ((Rows.bulkPutsRow.lifted == Tryz.prog.liftsFinal)) = true := by kernel_rfl
theorem k24c : ((Tryz.prog.make == some Rows.bulkPutsRow.make)) = true := by kernel_rfl
theorem k25 : ((Rows.bulkPutsRow.kinds == (if Rows.bulkPutsRow.domain.isEmpty then [] else Tryz.f6.params.toList.map fun t => match Tryz.prog.underlying t with | some (.int k) => some k | _ => none))) = true := by kernel_rfl
theorem k26 : ((Rows.bulkPutsRow.pinned == Rows.bulkPutsRow.pinnedBy)) = true := by kernel_rfl
theorem k27 : ((Rows.bulkPutsRow.veiled == (Tryz.f6.params.toList ++ Rows.bulkPutsSpec.plain.varTypes Tryz.prog ++ Tryz.f6.resultTypes.toList).any (Tryz.prog.veiledRec ·))) = true := by kernel_rfl
theorem k28 : (Rows.bulkPutsRow.veiledFits Tryz.prog Tryz.f6.params.toList (Tryz.f6.params.toList ++ Rows.bulkPutsSpec.plain.varTypes Tryz.prog ++ Tryz.f6.resultTypes.toList)) = true := by kernel_rfl
theorem joined : joinedFacts Tryz.prog 6 Tryz.f6 Rows.bulkPutsSpec Rows.bulkPutsRow = true := (bb (bb (bb (bb (bb (bb (bb (bb (bb (bb (bb (bb (bb (bb (bb (bb (bb (bb (bb (bb (bb (bb (bb (bb (bb (bb (bb (bb (bb (bb (bb k1 k2) k3) k4) k5) k6) k7) k8) k9) k10) k11) k12) k13) k14) k15) k16) k17) k17b) k18) k19) k20) k21) k22) k23) k23b) k24) k24b) k24c) k25) k26) k27) k28)
end Go.Proofs.YtopblipficpilaaGreatDoor.AY.bulkPuts
