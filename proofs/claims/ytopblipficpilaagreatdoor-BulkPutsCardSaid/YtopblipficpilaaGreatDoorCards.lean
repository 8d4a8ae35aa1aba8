/-
  DERIVED. GIVEN WITH THE SEED: THE CARDS: each row of YtopblipficpilaaGreatDoorRows.lean that lists a variable, with what it lists TIED to the program's text (the seventh form; the later family's looks); each row that meets fmt, with fmt's text TOLD by the authors' own Lean function (tested against real Go, not proved from fmt's source: count such statements apart). THE CARD IS WHAT COUNTS. Prove the row's statement (the work); the ties are given (YtopblipficpilaaGreatDoorTie.lean); close each card by the builder's one call (the guide's Derived/Test/ToyasCard.lean, 'card_holds'). Laid BY PROGRAM, IN A SANDBOX (cutbox-door.mjs). By AI agents, Wed Nov 11 2026. No macro, syntax, notation, axiom, sorry.
-/
import Derived.Test.YtopblipficpilaaGreatDoorRows
import GoSem.ClaimSeven
namespace Go.Proofs.YtopblipficpilaaGreatDoor
namespace Rows

/-- THE TIED CARD OF 'deedboxlaw37.EbbPlans'. -/
def ebbPlansCard : Claim7 := { stood := { row := ebbPlansRow, standIns := [], harness := (true, "48bd2db131e9648794cae3c635d5614bb7ba11ab4ea341627dcdcba87f6bfa98"), looks := false }, kinds := [], alts := [], laidByText := true, laidKinds := [.data, .pinned], laidTests := true, laidLooks := .later }
def EbbPlansCardSaid : Prop := Claim7.holds Tryz.pinned (.plain (OpenSpec.ofChange ebbPlansSpec)) ebbPlansCard

/-- THE TIED CARD OF 'deedboxlaw37.EbbKeeps'. -/
def ebbKeepsCard : Claim7 := { stood := { row := ebbKeepsRow, standIns := [], harness := (true, "48bd2db131e9648794cae3c635d5614bb7ba11ab4ea341627dcdcba87f6bfa98"), looks := false }, kinds := [], alts := [], laidByText := true, laidKinds := [.data, .pinned], laidTests := true, laidLooks := .later }
def EbbKeepsCardSaid : Prop := Claim7.holds Tryz.pinned (.plain (OpenSpec.ofChange ebbKeepsSpec)) ebbKeepsCard

/-- THE TIED CARD OF 'deedboxlaw38.SurveyTexts'. -/
def surveyTextsCard : Claim7 := { stood := { row := surveyTextsRow, standIns := [], harness := (true, "48bd2db131e9648794cae3c635d5614bb7ba11ab4ea341627dcdcba87f6bfa98"), looks := false }, kinds := [], alts := [], laidByText := true, laidKinds := [.data, .pinned], laidTests := true, laidLooks := .later }
def SurveyTextsCardSaid : Prop := Claim7.holds Tryz.pinned (.plain (OpenSpec.ofChange surveyTextsSpec)) surveyTextsCard

/-- THE TIED CARD OF 'deedboxlaw40.BulkPuts'. -/
def bulkPutsCard : Claim7 := { stood := { row := bulkPutsRow, standIns := [], harness := (true, "48bd2db131e9648794cae3c635d5614bb7ba11ab4ea341627dcdcba87f6bfa98"), looks := false }, kinds := [], alts := [], laidByText := true, laidKinds := [.data, .pinned], laidTests := true, laidLooks := .later }
def BulkPutsCardSaid : Prop := Claim7.holds Tryz.pinned (.plain (OpenSpec.ofChange bulkPutsSpec)) bulkPutsCard

/-- THE TIED CARD OF 'deedboxlaw40.BulkSplits'. -/
def bulkSplitsCard : Claim7 := { stood := { row := bulkSplitsRow, standIns := [], harness := (true, "48bd2db131e9648794cae3c635d5614bb7ba11ab4ea341627dcdcba87f6bfa98"), looks := false }, kinds := [], alts := [], laidByText := true, laidKinds := [.data, .pinned], laidTests := true, laidLooks := .later }
def BulkSplitsCardSaid : Prop := Claim7.holds Tryz.pinned (.plain (OpenSpec.ofChange bulkSplitsSpec)) bulkSplitsCard

/-- THE SECOND FORM's CARD OF 'deedboxlaw37.EbbPlans'. -/
def ebbPlansUptoCard : Claim7 := { stood := { row := ebbPlansUptoRow, standIns := [], harness := (true, "48bd2db131e9648794cae3c635d5614bb7ba11ab4ea341627dcdcba87f6bfa98"), looks := false }, kinds := [], alts := [], laidByText := true, laidKinds := [.data, .pinned], laidTests := true, laidLooks := .later }
def EbbPlansUptoCardSaid : Prop := Claim7.holds Tryz.pinned (.plain (OpenSpec.upto ebbPlansSpec)) ebbPlansUptoCard

/-- THE SECOND FORM's CARD OF 'deedboxlaw37.EbbKeeps'. -/
def ebbKeepsUptoCard : Claim7 := { stood := { row := ebbKeepsUptoRow, standIns := [], harness := (true, "48bd2db131e9648794cae3c635d5614bb7ba11ab4ea341627dcdcba87f6bfa98"), looks := false }, kinds := [], alts := [], laidByText := true, laidKinds := [.data, .pinned], laidTests := true, laidLooks := .later }
def EbbKeepsUptoCardSaid : Prop := Claim7.holds Tryz.pinned (.plain (OpenSpec.upto ebbKeepsSpec)) ebbKeepsUptoCard

/-- THE SECOND FORM's CARD OF 'deedboxlaw38.SurveyTexts'. -/
def surveyTextsUptoCard : Claim7 := { stood := { row := surveyTextsUptoRow, standIns := [], harness := (true, "48bd2db131e9648794cae3c635d5614bb7ba11ab4ea341627dcdcba87f6bfa98"), looks := false }, kinds := [], alts := [], laidByText := true, laidKinds := [.data, .pinned], laidTests := true, laidLooks := .later }
def SurveyTextsUptoCardSaid : Prop := Claim7.holds Tryz.pinned (.plain (OpenSpec.upto surveyTextsSpec)) surveyTextsUptoCard

/-- THE SECOND FORM's CARD OF 'deedboxlaw40.BulkPuts'. -/
def bulkPutsUptoCard : Claim7 := { stood := { row := bulkPutsUptoRow, standIns := [], harness := (true, "48bd2db131e9648794cae3c635d5614bb7ba11ab4ea341627dcdcba87f6bfa98"), looks := false }, kinds := [], alts := [], laidByText := true, laidKinds := [.data, .pinned], laidTests := true, laidLooks := .later }
def BulkPutsUptoCardSaid : Prop := Claim7.holds Tryz.pinned (.plain (OpenSpec.upto bulkPutsSpec)) bulkPutsUptoCard

/-- THE SECOND FORM's CARD OF 'deedboxlaw40.BulkSplits'. -/
def bulkSplitsUptoCard : Claim7 := { stood := { row := bulkSplitsUptoRow, standIns := [], harness := (true, "48bd2db131e9648794cae3c635d5614bb7ba11ab4ea341627dcdcba87f6bfa98"), looks := false }, kinds := [], alts := [], laidByText := true, laidKinds := [.data, .pinned], laidTests := true, laidLooks := .later }
def BulkSplitsUptoCardSaid : Prop := Claim7.holds Tryz.pinned (.plain (OpenSpec.upto bulkSplitsSpec)) bulkSplitsUptoCard
end Rows
end Go.Proofs.YtopblipficpilaaGreatDoor
