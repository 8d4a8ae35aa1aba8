/-
  NARROWER THAN 'FOR EVERY INPUT', by the rows' own cells (each row's printed sentence says how): EbbPlans: laid · EbbKeeps: laid · SurveyTexts: laid · BulkPuts: laid · BulkSplits: laid.
  DERIVED. THE GIVEN ROWS OF THIS SEAT. 5 by the template 'for every input the law returns true; each argument reads behind the call as it read before'; 0 by the template 'total and deterministic' (their statements: YtopblipficpilaaGreatDoorTotals.lean).
  GIVEN WITH THE SEED: the statements are not yours to turn. If you find one false, say at which input.
  Laid BY PROGRAM, IN A SANDBOX (cutbox-rows.mjs): the forced cells as the released guide's own fill.sh prints them over the translation f5ac3b042a598f66… (all of the seat's roots in one cut). By AI agents, Wed Nov 11 2026. No macro, syntax, notation, axiom, sorry.
-/
import Derived.Test.YtopblipficpilaaGreatDoorChecked
import GoSem.PinnedTables
import GoSem.Claim
import GoSem.ClaimJoined
import GoSem.ClaimMapViews
import Derived.JoinedTies
import Derived.KernelRfl
namespace Go.Proofs.YtopblipficpilaaGreatDoor
/- THE CELL 'sum', in the pinned program and in every row, IS THE sha256 OF THE DUMP (.gsa) THAT YtopblipficpilaaGreatDoorProg.lean LOADS. Nothing in Lean hashes anything: it is a label: what it is worth is what the hold of that sum in a sandbox is worth. -/
noncomputable def Tryz.pinned : Pinned := { name := "ytopblipficpilaagreatdoor", sum := "f5ac3b042a598f66f943963150b870907778cad78a6ff82278b1689760aacb31", checked := Tryz.checked }
namespace Rows
def none {H : Type} : Left H := { results := [], args := [] }

/- WHAT THE LISTED PACKAGE-LEVEL VARIABLES READ AS WHEN THE CALL BEGINS. Each datum BY PROGRAM (the guide's laid-datum.mjs) off the statement by which the dump's own 'gosem.cut.vars' lays the variable. In a bare row this is a premise. The card (YtopblipficpilaaGreatDoorCards.lean) ties it to the program's text. -/
def laid_unicode_utf8_acceptRanges {H : Type} : DataW H := .agg [.agg [.lit (.int .u8 128), .lit (.int .u8 191)], .agg [.lit (.int .u8 160), .lit (.int .u8 191)], .agg [.lit (.int .u8 128), .lit (.int .u8 159)], .agg [.lit (.int .u8 144), .lit (.int .u8 191)], .agg [.lit (.int .u8 128), .lit (.int .u8 143)], .agg [.lit (.int .u8 0), .lit (.int .u8 0)], .agg [.lit (.int .u8 0), .lit (.int .u8 0)], .agg [.lit (.int .u8 0), .lit (.int .u8 0)], .agg [.lit (.int .u8 0), .lit (.int .u8 0)], .agg [.lit (.int .u8 0), .lit (.int .u8 0)], .agg [.lit (.int .u8 0), .lit (.int .u8 0)], .agg [.lit (.int .u8 0), .lit (.int .u8 0)], .agg [.lit (.int .u8 0), .lit (.int .u8 0)], .agg [.lit (.int .u8 0), .lit (.int .u8 0)], .agg [.lit (.int .u8 0), .lit (.int .u8 0)], .agg [.lit (.int .u8 0), .lit (.int .u8 0)]]
/-- One of Go's own tables, pinned by name: the form's constant. -/
def laid_unicode_utf8_first : DataW Unit := Go.Pinned.utf8First

/-- 'deedboxlaw37.EbbPlans': WHATEVER THE INPUT: true; the input reads as it did. -/
def ebbPlansSpec : ChangeSpec := { name := "ebbPlans", fn := fun _ => fun
  | [d1, d2, d3, d4, d5] => { results := [.lit (.bool true)], args := [d1, d2, d3, d4, d5] }
  | _ => none }
def ebbPlansRow : OpenClaim := { program := "ytopblipficpilaagreatdoor", sum := "f5ac3b042a598f66f943963150b870907778cad78a6ff82278b1689760aacb31", func := "deedbox/deedboxlaw37.EbbPlans", spec := "ebbPlans", inPlace := ["internal/bytealg.Compare", "internal/bytealg.CountString", "internal/bytealg.IndexByteString", "internal/bytealg.IndexString", "slices.overlaps[deedbox/api.Kid]", "slices.overlaps[deedbox/api.Pair]"], unfollowed := true, recurses := true, named := ["unicode/utf8.first", "unicode/utf8.acceptRanges", "internal/bytealg.MaxLen"], apart := false, laid := [("unicode/utf8.acceptRanges", laid_unicode_utf8_acceptRanges), ("unicode/utf8.first", laid_unicode_utf8_first)] }
def EbbPlansSaid : Prop := ebbPlansRow.holds Tryz.pinned (OpenSpec.ofChange ebbPlansSpec)

/-- ITS FALSE NEIGHBOUR: 'it returns false'. Refute it at one input. -/
def ebbPlansWrong : ChangeSpec := { name := "ebbPlans", fn := fun _ => fun
  | [d1, d2, d3, d4, d5] => { results := [.lit (.bool false)], args := [d1, d2, d3, d4, d5] }
  | _ => none }
def EbbPlansWrongFalsely : Prop := ebbPlansRow.holds Tryz.pinned (OpenSpec.ofChange ebbPlansWrong)

/-- 'deedboxlaw37.EbbKeeps': WHATEVER THE INPUT: true; the input reads as it did. -/
def ebbKeepsSpec : ChangeSpec := { name := "ebbKeeps", fn := fun _ => fun
  | [d1, d2, d3] => { results := [.lit (.bool true)], args := [d1, d2, d3] }
  | _ => none }
def ebbKeepsRow : OpenClaim := { program := "ytopblipficpilaagreatdoor", sum := "f5ac3b042a598f66f943963150b870907778cad78a6ff82278b1689760aacb31", func := "deedbox/deedboxlaw37.EbbKeeps", spec := "ebbKeeps", inPlace := ["internal/bytealg.Compare", "internal/bytealg.CountString", "internal/bytealg.IndexByteString", "internal/bytealg.IndexString", "slices.overlaps[deedbox/api.Kid]", "slices.overlaps[deedbox/api.Pair]"], unfollowed := true, recurses := true, named := ["unicode/utf8.first", "unicode/utf8.acceptRanges", "internal/bytealg.MaxLen"], apart := false, laid := [("unicode/utf8.acceptRanges", laid_unicode_utf8_acceptRanges), ("unicode/utf8.first", laid_unicode_utf8_first)] }
def EbbKeepsSaid : Prop := ebbKeepsRow.holds Tryz.pinned (OpenSpec.ofChange ebbKeepsSpec)

/-- ITS FALSE NEIGHBOUR: 'it returns false'. Refute it at one input. -/
def ebbKeepsWrong : ChangeSpec := { name := "ebbKeeps", fn := fun _ => fun
  | [d1, d2, d3] => { results := [.lit (.bool false)], args := [d1, d2, d3] }
  | _ => none }
def EbbKeepsWrongFalsely : Prop := ebbKeepsRow.holds Tryz.pinned (OpenSpec.ofChange ebbKeepsWrong)

/-- 'deedboxlaw38.SurveyTexts': WHATEVER THE INPUT: true; the input reads as it did. -/
def surveyTextsSpec : ChangeSpec := { name := "surveyTexts", fn := fun _ => fun
  | [d] => { results := [.lit (.bool true)], args := [d] }
  | _ => none }
def surveyTextsRow : OpenClaim := { program := "ytopblipficpilaagreatdoor", sum := "f5ac3b042a598f66f943963150b870907778cad78a6ff82278b1689760aacb31", func := "deedbox/deedboxlaw38.SurveyTexts", spec := "surveyTexts", inPlace := ["internal/abi.NoEscape", "internal/bytealg.Compare", "internal/bytealg.CountString", "internal/bytealg.IndexByteString", "internal/bytealg.IndexString", "slices.overlaps[deedbox/api.Pair]", "slices.overlaps[deedbox/api.Kid]"], unfollowed := true, recurses := true, named := ["unicode/utf8.first", "unicode/utf8.acceptRanges", "internal/bytealg.MaxLen"], apart := false, laid := [("unicode/utf8.acceptRanges", laid_unicode_utf8_acceptRanges), ("unicode/utf8.first", laid_unicode_utf8_first)] }
def SurveyTextsSaid : Prop := surveyTextsRow.holds Tryz.pinned (OpenSpec.ofChange surveyTextsSpec)

/-- ITS FALSE NEIGHBOUR: 'it returns false'. Refute it at one input. -/
def surveyTextsWrong : ChangeSpec := { name := "surveyTexts", fn := fun _ => fun
  | [d] => { results := [.lit (.bool false)], args := [d] }
  | _ => none }
def SurveyTextsWrongFalsely : Prop := surveyTextsRow.holds Tryz.pinned (OpenSpec.ofChange surveyTextsWrong)

/-- 'deedboxlaw40.BulkPuts': WHATEVER THE INPUT: true; the input reads as it did. -/
def bulkPutsSpec : ChangeSpec := { name := "bulkPuts", fn := fun _ => fun
  | [d1, d2, d3] => { results := [.lit (.bool true)], args := [d1, d2, d3] }
  | _ => none }
def bulkPutsRow : OpenClaim := { program := "ytopblipficpilaagreatdoor", sum := "f5ac3b042a598f66f943963150b870907778cad78a6ff82278b1689760aacb31", func := "deedbox/deedboxlaw40.BulkPuts", spec := "bulkPuts", inPlace := ["internal/bytealg.Compare", "internal/bytealg.CountString", "internal/bytealg.IndexByteString", "internal/bytealg.IndexString", "internal/bytealg.IndexByte", "internal/bytealg.Index", "slices.overlaps[deedbox/api.Pair]", "slices.overlaps[deedbox/api.Kid]"], unfollowed := true, recurses := true, named := ["unicode/utf8.first", "unicode/utf8.acceptRanges", "internal/bytealg.MaxLen"], apart := false, laid := [("unicode/utf8.acceptRanges", laid_unicode_utf8_acceptRanges), ("unicode/utf8.first", laid_unicode_utf8_first)] }
def BulkPutsSaid : Prop := bulkPutsRow.holds Tryz.pinned (OpenSpec.ofChange bulkPutsSpec)

/-- ITS FALSE NEIGHBOUR: 'it returns false'. Refute it at one input. -/
def bulkPutsWrong : ChangeSpec := { name := "bulkPuts", fn := fun _ => fun
  | [d1, d2, d3] => { results := [.lit (.bool false)], args := [d1, d2, d3] }
  | _ => none }
def BulkPutsWrongFalsely : Prop := bulkPutsRow.holds Tryz.pinned (OpenSpec.ofChange bulkPutsWrong)

/-- 'deedboxlaw40.BulkSplits': WHATEVER THE INPUT: true; the input reads as it did. -/
def bulkSplitsSpec : ChangeSpec := { name := "bulkSplits", fn := fun _ => fun
  | [d1, d2] => { results := [.lit (.bool true)], args := [d1, d2] }
  | _ => none }
def bulkSplitsRow : OpenClaim := { program := "ytopblipficpilaagreatdoor", sum := "f5ac3b042a598f66f943963150b870907778cad78a6ff82278b1689760aacb31", func := "deedbox/deedboxlaw40.BulkSplits", spec := "bulkSplits", inPlace := ["internal/bytealg.Compare", "internal/bytealg.CountString", "internal/bytealg.IndexByteString", "internal/bytealg.IndexString", "internal/bytealg.IndexByte", "internal/bytealg.Index", "slices.overlaps[deedbox/api.Pair]", "slices.overlaps[deedbox/api.Kid]"], unfollowed := true, recurses := true, named := ["unicode/utf8.first", "unicode/utf8.acceptRanges", "internal/bytealg.MaxLen"], apart := false, laid := [("unicode/utf8.acceptRanges", laid_unicode_utf8_acceptRanges), ("unicode/utf8.first", laid_unicode_utf8_first)] }
def BulkSplitsSaid : Prop := bulkSplitsRow.holds Tryz.pinned (OpenSpec.ofChange bulkSplitsSpec)

/-- ITS FALSE NEIGHBOUR: 'it returns false'. Refute it at one input. -/
def bulkSplitsWrong : ChangeSpec := { name := "bulkSplits", fn := fun _ => fun
  | [d1, d2] => { results := [.lit (.bool false)], args := [d1, d2] }
  | _ => none }
def BulkSplitsWrongFalsely : Prop := bulkSplitsRow.holds Tryz.pinned (OpenSpec.ofChange bulkSplitsWrong)

/- THE SECOND FORM. 'bulk': how many values and letters a reading holds, each counted each time it is reached (what is shared counts as often as it is met; a slice's spare places count too). A statement '..UptoSaid' is the law's where the arguments, and the package variables that the reading takes, are together of bulk at most 1048576: NARROWER than '..Said'. Prove '..Said' where nothing that the law and all that it calls make is longer than what came in: it says more and counts as full. Else prove '..UptoSaid'. A law counts once. -/
mutual
def uptoBulk {H : Type} : DataW H → Nat
  | .lit (.string bytes) => bytes.length + 1
  | .lit _ => 1
  | .nil => 1
  | .ptr d => uptoBulk d + 1
  | .slice elems spare => uptoBulkAll elems + uptoBulkAll spare + 1
  | .agg parts => uptoBulkAll parts + 1
  | .iface _ d => uptoBulk d + 1
  | .map entries => uptoBulkEntries entries + 1
  | .held _ => 1
def uptoBulkAll {H : Type} : List (DataW H) → Nat
  | [] => 0
  | d :: r => uptoBulk d + uptoBulkAll r
def uptoBulkEntries {H : Type} : List (Lit × DataW H) → Nat
  | [] => 0
  | x :: r => uptoBulkEntry x + uptoBulkEntries r
def uptoBulkEntry {H : Type} : Lit × DataW H → Nat
  | (.string bytes, d) => bytes.length + uptoBulk d + 1
  | (_, d) => uptoBulk d + 1
 end
def uptoSmall : (H : Type) → List (DataW H) → Bool := fun _ ds => decide (uptoBulkAll ds ≤ 1048576)
def OpenSpec.upto (s : _root_.Go.ChangeSpec) : _root_.Go.OpenSpec := { _root_.Go.OpenSpec.ofChange s with cond := some uptoSmall }

/-- 'deedboxlaw37.EbbPlans', WHERE WHAT IT READS IS OF BULK AT MOST 1048576: true; the input reads as it did. -/
def ebbPlansUptoRow : OpenClaim := { program := "ytopblipficpilaagreatdoor", sum := "f5ac3b042a598f66f943963150b870907778cad78a6ff82278b1689760aacb31", func := "deedbox/deedboxlaw37.EbbPlans", spec := "ebbPlans", inPlace := ["internal/bytealg.Compare", "internal/bytealg.CountString", "internal/bytealg.IndexByteString", "internal/bytealg.IndexString", "slices.overlaps[deedbox/api.Kid]", "slices.overlaps[deedbox/api.Pair]"], unfollowed := true, recurses := true, named := ["unicode/utf8.first", "unicode/utf8.acceptRanges", "internal/bytealg.MaxLen"], apart := false, laid := [("unicode/utf8.acceptRanges", laid_unicode_utf8_acceptRanges), ("unicode/utf8.first", laid_unicode_utf8_first)], narrowed := true }
def EbbPlansUptoSaid : Prop := ebbPlansUptoRow.holds Tryz.pinned (OpenSpec.upto ebbPlansSpec)

/-- 'deedboxlaw37.EbbKeeps', WHERE WHAT IT READS IS OF BULK AT MOST 1048576: true; the input reads as it did. -/
def ebbKeepsUptoRow : OpenClaim := { program := "ytopblipficpilaagreatdoor", sum := "f5ac3b042a598f66f943963150b870907778cad78a6ff82278b1689760aacb31", func := "deedbox/deedboxlaw37.EbbKeeps", spec := "ebbKeeps", inPlace := ["internal/bytealg.Compare", "internal/bytealg.CountString", "internal/bytealg.IndexByteString", "internal/bytealg.IndexString", "slices.overlaps[deedbox/api.Kid]", "slices.overlaps[deedbox/api.Pair]"], unfollowed := true, recurses := true, named := ["unicode/utf8.first", "unicode/utf8.acceptRanges", "internal/bytealg.MaxLen"], apart := false, laid := [("unicode/utf8.acceptRanges", laid_unicode_utf8_acceptRanges), ("unicode/utf8.first", laid_unicode_utf8_first)], narrowed := true }
def EbbKeepsUptoSaid : Prop := ebbKeepsUptoRow.holds Tryz.pinned (OpenSpec.upto ebbKeepsSpec)

/-- 'deedboxlaw38.SurveyTexts', WHERE WHAT IT READS IS OF BULK AT MOST 1048576: true; the input reads as it did. -/
def surveyTextsUptoRow : OpenClaim := { program := "ytopblipficpilaagreatdoor", sum := "f5ac3b042a598f66f943963150b870907778cad78a6ff82278b1689760aacb31", func := "deedbox/deedboxlaw38.SurveyTexts", spec := "surveyTexts", inPlace := ["internal/abi.NoEscape", "internal/bytealg.Compare", "internal/bytealg.CountString", "internal/bytealg.IndexByteString", "internal/bytealg.IndexString", "slices.overlaps[deedbox/api.Pair]", "slices.overlaps[deedbox/api.Kid]"], unfollowed := true, recurses := true, named := ["unicode/utf8.first", "unicode/utf8.acceptRanges", "internal/bytealg.MaxLen"], apart := false, laid := [("unicode/utf8.acceptRanges", laid_unicode_utf8_acceptRanges), ("unicode/utf8.first", laid_unicode_utf8_first)], narrowed := true }
def SurveyTextsUptoSaid : Prop := surveyTextsUptoRow.holds Tryz.pinned (OpenSpec.upto surveyTextsSpec)

/-- 'deedboxlaw40.BulkPuts', WHERE WHAT IT READS IS OF BULK AT MOST 1048576: true; the input reads as it did. -/
def bulkPutsUptoRow : OpenClaim := { program := "ytopblipficpilaagreatdoor", sum := "f5ac3b042a598f66f943963150b870907778cad78a6ff82278b1689760aacb31", func := "deedbox/deedboxlaw40.BulkPuts", spec := "bulkPuts", inPlace := ["internal/bytealg.Compare", "internal/bytealg.CountString", "internal/bytealg.IndexByteString", "internal/bytealg.IndexString", "internal/bytealg.IndexByte", "internal/bytealg.Index", "slices.overlaps[deedbox/api.Pair]", "slices.overlaps[deedbox/api.Kid]"], unfollowed := true, recurses := true, named := ["unicode/utf8.first", "unicode/utf8.acceptRanges", "internal/bytealg.MaxLen"], apart := false, laid := [("unicode/utf8.acceptRanges", laid_unicode_utf8_acceptRanges), ("unicode/utf8.first", laid_unicode_utf8_first)], narrowed := true }
def BulkPutsUptoSaid : Prop := bulkPutsUptoRow.holds Tryz.pinned (OpenSpec.upto bulkPutsSpec)

/-- 'deedboxlaw40.BulkSplits', WHERE WHAT IT READS IS OF BULK AT MOST 1048576: true; the input reads as it did. -/
def bulkSplitsUptoRow : OpenClaim := { program := "ytopblipficpilaagreatdoor", sum := "f5ac3b042a598f66f943963150b870907778cad78a6ff82278b1689760aacb31", func := "deedbox/deedboxlaw40.BulkSplits", spec := "bulkSplits", inPlace := ["internal/bytealg.Compare", "internal/bytealg.CountString", "internal/bytealg.IndexByteString", "internal/bytealg.IndexString", "internal/bytealg.IndexByte", "internal/bytealg.Index", "slices.overlaps[deedbox/api.Pair]", "slices.overlaps[deedbox/api.Kid]"], unfollowed := true, recurses := true, named := ["unicode/utf8.first", "unicode/utf8.acceptRanges", "internal/bytealg.MaxLen"], apart := false, laid := [("unicode/utf8.acceptRanges", laid_unicode_utf8_acceptRanges), ("unicode/utf8.first", laid_unicode_utf8_first)], narrowed := true }
def BulkSplitsUptoSaid : Prop := bulkSplitsUptoRow.holds Tryz.pinned (OpenSpec.upto bulkSplitsSpec)

end Rows
end Go.Proofs.YtopblipficpilaaGreatDoor
