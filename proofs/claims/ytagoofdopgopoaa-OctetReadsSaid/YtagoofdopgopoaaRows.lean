/-
  No cell of these rows narrows 'for every input' (looked for: loops, veiled, ifaces, maps, wideKeys, modest, calm, conditions, laid).
  DERIVED. THE GIVEN ROWS OF THIS SEAT. 11 by the template 'for every input the law returns true; each argument reads behind the call as it read before'; 0 by the template 'total and deterministic' (their statements: YtagoofdopgopoaaTotals.lean).
  GIVEN WITH THE SEED: the statements are not yours to turn. If you find one false, say at which input.
  Laid BY PROGRAM, IN A SANDBOX (cutbox-rows.mjs): the forced cells as the released guide's own fill.sh prints them over the translation 7af31d29c08cac0a… (all of the seat's roots in one cut). By AI agents, Wed Nov 11 2026. No macro, syntax, notation, axiom, sorry.
-/
import Derived.Test.YtagoofdopgopoaaChecked
import GoSem.Claim
import GoSem.ClaimJoined
import GoSem.ClaimMapViews
import Derived.JoinedTies
import Derived.KernelRfl
namespace Go.Proofs.Ytagoofdopgopoaa
/- THE CELL 'sum', in the pinned program and in every row, IS THE sha256 OF THE DUMP (.gsa) THAT YtagoofdopgopoaaProg.lean LOADS. Nothing in Lean hashes anything: it is a label: what it is worth is what the hold of that sum in a sandbox is worth. -/
noncomputable def Try.pinned : Pinned := { name := "ytagoofdopgopoaa", sum := "7af31d29c08cac0a2ad84621306a12fd4cc188f2901ff4219303aa8ac5982faf", checked := Try.checked }
namespace Rows
def none {H : Type} : Left H := { results := [], args := [] }

/-- 'deedboxlaw11.TapeDraws': WHATEVER THE INPUT: true; the input reads as it did. -/
def tapeDrawsSpec : ChangeSpec := { name := "tapeDraws", fn := fun _ => fun
  | [d1, d2] => { results := [.lit (.bool true)], args := [d1, d2] }
  | _ => none }
def tapeDrawsRow : OpenClaim := { program := "ytagoofdopgopoaa", sum := "7af31d29c08cac0a2ad84621306a12fd4cc188f2901ff4219303aa8ac5982faf", func := "deedbox/deedboxlaw11.TapeDraws", spec := "tapeDraws", unfollowed := true, recurses := true, apart := false }
def TapeDrawsSaid : Prop := tapeDrawsRow.holds Try.pinned (OpenSpec.ofChange tapeDrawsSpec)

/-- ITS FALSE NEIGHBOUR: 'it returns false'. Refute it at one input. -/
def tapeDrawsWrong : ChangeSpec := { name := "tapeDraws", fn := fun _ => fun
  | [d1, d2] => { results := [.lit (.bool false)], args := [d1, d2] }
  | _ => none }
def TapeDrawsWrongFalsely : Prop := tapeDrawsRow.holds Try.pinned (OpenSpec.ofChange tapeDrawsWrong)

/-- 'deedboxlaw11.TapeNoise': WHATEVER THE INPUT: true; the input reads as it did. -/
def tapeNoiseSpec : ChangeSpec := { name := "tapeNoise", fn := fun _ => fun
  | [d1, d2, d3] => { results := [.lit (.bool true)], args := [d1, d2, d3] }
  | _ => none }
def tapeNoiseRow : OpenClaim := { program := "ytagoofdopgopoaa", sum := "7af31d29c08cac0a2ad84621306a12fd4cc188f2901ff4219303aa8ac5982faf", func := "deedbox/deedboxlaw11.TapeNoise", spec := "tapeNoise", unfollowed := true, recurses := true, apart := false }
def TapeNoiseSaid : Prop := tapeNoiseRow.holds Try.pinned (OpenSpec.ofChange tapeNoiseSpec)

/-- ITS FALSE NEIGHBOUR: 'it returns false'. Refute it at one input. -/
def tapeNoiseWrong : ChangeSpec := { name := "tapeNoise", fn := fun _ => fun
  | [d1, d2, d3] => { results := [.lit (.bool false)], args := [d1, d2, d3] }
  | _ => none }
def TapeNoiseWrongFalsely : Prop := tapeNoiseRow.holds Try.pinned (OpenSpec.ofChange tapeNoiseWrong)

/-- 'deedboxlaw11.TapeApart': WHATEVER THE INPUT: true; the input reads as it did. -/
def tapeApartSpec : ChangeSpec := { name := "tapeApart", fn := fun _ => fun
  | [d1, d2, d3] => { results := [.lit (.bool true)], args := [d1, d2, d3] }
  | _ => none }
def tapeApartRow : OpenClaim := { program := "ytagoofdopgopoaa", sum := "7af31d29c08cac0a2ad84621306a12fd4cc188f2901ff4219303aa8ac5982faf", func := "deedbox/deedboxlaw11.TapeApart", spec := "tapeApart", unfollowed := true, recurses := true, apart := false }
def TapeApartSaid : Prop := tapeApartRow.holds Try.pinned (OpenSpec.ofChange tapeApartSpec)

/-- ITS FALSE NEIGHBOUR: 'it returns false'. Refute it at one input. -/
def tapeApartWrong : ChangeSpec := { name := "tapeApart", fn := fun _ => fun
  | [d1, d2, d3] => { results := [.lit (.bool false)], args := [d1, d2, d3] }
  | _ => none }
def TapeApartWrongFalsely : Prop := tapeApartRow.holds Try.pinned (OpenSpec.ofChange tapeApartWrong)

/-- 'deedboxlaw25.PathMakes': WHATEVER THE INPUT: true; the input reads as it did. -/
def pathMakesSpec : ChangeSpec := { name := "pathMakes", fn := fun _ => fun
  | [d1, d2, d3, d4] => { results := [.lit (.bool true)], args := [d1, d2, d3, d4] }
  | _ => none }
def pathMakesRow : OpenClaim := { program := "ytagoofdopgopoaa", sum := "7af31d29c08cac0a2ad84621306a12fd4cc188f2901ff4219303aa8ac5982faf", func := "deedbox/deedboxlaw25.PathMakes", spec := "pathMakes", recurses := true, apart := false }
def PathMakesSaid : Prop := pathMakesRow.holds Try.pinned (OpenSpec.ofChange pathMakesSpec)

/-- ITS FALSE NEIGHBOUR: 'it returns false'. Refute it at one input. -/
def pathMakesWrong : ChangeSpec := { name := "pathMakes", fn := fun _ => fun
  | [d1, d2, d3, d4] => { results := [.lit (.bool false)], args := [d1, d2, d3, d4] }
  | _ => none }
def PathMakesWrongFalsely : Prop := pathMakesRow.holds Try.pinned (OpenSpec.ofChange pathMakesWrong)

/-- 'deedboxlaw25.PathBack': WHATEVER THE INPUT: true; the input reads as it did. -/
def pathBackSpec : ChangeSpec := { name := "pathBack", fn := fun _ => fun
  | [d1, d2, d3, d4] => { results := [.lit (.bool true)], args := [d1, d2, d3, d4] }
  | _ => none }
def pathBackRow : OpenClaim := { program := "ytagoofdopgopoaa", sum := "7af31d29c08cac0a2ad84621306a12fd4cc188f2901ff4219303aa8ac5982faf", func := "deedbox/deedboxlaw25.PathBack", spec := "pathBack", apart := false }
def PathBackSaid : Prop := pathBackRow.holds Try.pinned (OpenSpec.ofChange pathBackSpec)

/-- ITS FALSE NEIGHBOUR: 'it returns false'. Refute it at one input. -/
def pathBackWrong : ChangeSpec := { name := "pathBack", fn := fun _ => fun
  | [d1, d2, d3, d4] => { results := [.lit (.bool false)], args := [d1, d2, d3, d4] }
  | _ => none }
def PathBackWrongFalsely : Prop := pathBackRow.holds Try.pinned (OpenSpec.ofChange pathBackWrong)

/-- 'deedboxlaw25.PathOrder': WHATEVER THE INPUT: true; the input reads as it did. -/
def pathOrderSpec : ChangeSpec := { name := "pathOrder", fn := fun _ => fun
  | [d1, d2, d3, d4, d5] => { results := [.lit (.bool true)], args := [d1, d2, d3, d4, d5] }
  | _ => none }
def pathOrderRow : OpenClaim := { program := "ytagoofdopgopoaa", sum := "7af31d29c08cac0a2ad84621306a12fd4cc188f2901ff4219303aa8ac5982faf", func := "deedbox/deedboxlaw25.PathOrder", spec := "pathOrder", apart := false }
def PathOrderSaid : Prop := pathOrderRow.holds Try.pinned (OpenSpec.ofChange pathOrderSpec)

/-- ITS FALSE NEIGHBOUR: 'it returns false'. Refute it at one input. -/
def pathOrderWrong : ChangeSpec := { name := "pathOrder", fn := fun _ => fun
  | [d1, d2, d3, d4, d5] => { results := [.lit (.bool false)], args := [d1, d2, d3, d4, d5] }
  | _ => none }
def PathOrderWrongFalsely : Prop := pathOrderRow.holds Try.pinned (OpenSpec.ofChange pathOrderWrong)

/-- 'deedboxlaw25.PathBegins': WHATEVER THE INPUT: true; the input reads as it did. -/
def pathBeginsSpec : ChangeSpec := { name := "pathBegins", fn := fun _ => fun
  | [d1, d2] => { results := [.lit (.bool true)], args := [d1, d2] }
  | _ => none }
def pathBeginsRow : OpenClaim := { program := "ytagoofdopgopoaa", sum := "7af31d29c08cac0a2ad84621306a12fd4cc188f2901ff4219303aa8ac5982faf", func := "deedbox/deedboxlaw25.PathBegins", spec := "pathBegins", apart := false }
def PathBeginsSaid : Prop := pathBeginsRow.holds Try.pinned (OpenSpec.ofChange pathBeginsSpec)

/-- ITS FALSE NEIGHBOUR: 'it returns false'. Refute it at one input. -/
def pathBeginsWrong : ChangeSpec := { name := "pathBegins", fn := fun _ => fun
  | [d1, d2] => { results := [.lit (.bool false)], args := [d1, d2] }
  | _ => none }
def PathBeginsWrongFalsely : Prop := pathBeginsRow.holds Try.pinned (OpenSpec.ofChange pathBeginsWrong)

/-- 'deedboxlaw01.OctetParts': WHATEVER THE INPUT: true; the input reads as it did. -/
def octetPartsSpec : ChangeSpec := { name := "octetParts", fn := fun _ => fun
  | [d] => { results := [.lit (.bool true)], args := [d] }
  | _ => none }
def octetPartsRow : OpenClaim := { program := "ytagoofdopgopoaa", sum := "7af31d29c08cac0a2ad84621306a12fd4cc188f2901ff4219303aa8ac5982faf", func := "deedbox/deedboxlaw01.OctetParts", spec := "octetParts", recurses := true, apart := false }
def OctetPartsSaid : Prop := octetPartsRow.holds Try.pinned (OpenSpec.ofChange octetPartsSpec)

/-- ITS FALSE NEIGHBOUR: 'it returns false'. Refute it at one input. -/
def octetPartsWrong : ChangeSpec := { name := "octetParts", fn := fun _ => fun
  | [d] => { results := [.lit (.bool false)], args := [d] }
  | _ => none }
def OctetPartsWrongFalsely : Prop := octetPartsRow.holds Try.pinned (OpenSpec.ofChange octetPartsWrong)

/-- 'deedboxlaw01.OctetApart': WHATEVER THE INPUT: true; the input reads as it did. -/
def octetApartSpec : ChangeSpec := { name := "octetApart", fn := fun _ => fun
  | [d1, d2] => { results := [.lit (.bool true)], args := [d1, d2] }
  | _ => none }
def octetApartRow : OpenClaim := { program := "ytagoofdopgopoaa", sum := "7af31d29c08cac0a2ad84621306a12fd4cc188f2901ff4219303aa8ac5982faf", func := "deedbox/deedboxlaw01.OctetApart", spec := "octetApart", apart := false }
def OctetApartSaid : Prop := octetApartRow.holds Try.pinned (OpenSpec.ofChange octetApartSpec)

/-- ITS FALSE NEIGHBOUR: 'it returns false'. Refute it at one input. -/
def octetApartWrong : ChangeSpec := { name := "octetApart", fn := fun _ => fun
  | [d1, d2] => { results := [.lit (.bool false)], args := [d1, d2] }
  | _ => none }
def OctetApartWrongFalsely : Prop := octetApartRow.holds Try.pinned (OpenSpec.ofChange octetApartWrong)

/-- 'deedboxlaw01.OctetHolds': WHATEVER THE INPUT: true; the input reads as it did. -/
def octetHoldsSpec : ChangeSpec := { name := "octetHolds", fn := fun _ => fun
  | [d1, d2] => { results := [.lit (.bool true)], args := [d1, d2] }
  | _ => none }
def octetHoldsRow : OpenClaim := { program := "ytagoofdopgopoaa", sum := "7af31d29c08cac0a2ad84621306a12fd4cc188f2901ff4219303aa8ac5982faf", func := "deedbox/deedboxlaw01.OctetHolds", spec := "octetHolds", apart := false }
def OctetHoldsSaid : Prop := octetHoldsRow.holds Try.pinned (OpenSpec.ofChange octetHoldsSpec)

/-- ITS FALSE NEIGHBOUR: 'it returns false'. Refute it at one input. -/
def octetHoldsWrong : ChangeSpec := { name := "octetHolds", fn := fun _ => fun
  | [d1, d2] => { results := [.lit (.bool false)], args := [d1, d2] }
  | _ => none }
def OctetHoldsWrongFalsely : Prop := octetHoldsRow.holds Try.pinned (OpenSpec.ofChange octetHoldsWrong)

/-- 'deedboxlaw01.OctetReads': WHATEVER THE INPUT: true; the input reads as it did. -/
def octetReadsSpec : ChangeSpec := { name := "octetReads", fn := fun _ => fun
  | [d1, d2] => { results := [.lit (.bool true)], args := [d1, d2] }
  | _ => none }
def octetReadsRow : OpenClaim := { program := "ytagoofdopgopoaa", sum := "7af31d29c08cac0a2ad84621306a12fd4cc188f2901ff4219303aa8ac5982faf", func := "deedbox/deedboxlaw01.OctetReads", spec := "octetReads", apart := false }
def OctetReadsSaid : Prop := octetReadsRow.holds Try.pinned (OpenSpec.ofChange octetReadsSpec)

/-- ITS FALSE NEIGHBOUR: 'it returns false'. Refute it at one input. -/
def octetReadsWrong : ChangeSpec := { name := "octetReads", fn := fun _ => fun
  | [d1, d2] => { results := [.lit (.bool false)], args := [d1, d2] }
  | _ => none }
def OctetReadsWrongFalsely : Prop := octetReadsRow.holds Try.pinned (OpenSpec.ofChange octetReadsWrong)

/- THE SECOND FORM. 'bulk': how many values and letters a reading holds, each counted each time it is reached (what is shared counts as often as it is met; a slice's spare places count too). A statement '..UptoSaid' is the law's where the arguments, and the package variables that the reading takes, are together of bulk at most 1048576: NARROWER than '..Said'. Prove '..Said' where nothing that the law and all that it calls make is longer than what came in: it says more and counts as full. Else prove '..UptoSaid'. A law counts once. -/
mutual
def uptoBulk {H : Type} : DataW H → Nat
  | .lit (.string bytes) => bytes.length + 1
  | .lit _ => 1
  | .nil => 1
  | .ptr d => uptoBulk d + 1
  | .slice elems spare => uptoBulkAll elems + uptoBulkAll spare + 1
  | .agg parts => uptoBulkAll parts + 1
  | .iface _ d => uptoBulk d + 1
  | .map entries => uptoBulkEntries entries + 1
  | .held _ => 1
def uptoBulkAll {H : Type} : List (DataW H) → Nat
  | [] => 0
  | d :: r => uptoBulk d + uptoBulkAll r
def uptoBulkEntries {H : Type} : List (Lit × DataW H) → Nat
  | [] => 0
  | x :: r => uptoBulkEntry x + uptoBulkEntries r
def uptoBulkEntry {H : Type} : Lit × DataW H → Nat
  | (.string bytes, d) => bytes.length + uptoBulk d + 1
  | (_, d) => uptoBulk d + 1
 end
def uptoSmall : (H : Type) → List (DataW H) → Bool := fun _ ds => decide (uptoBulkAll ds ≤ 1048576)
def OpenSpec.upto (s : _root_.Go.ChangeSpec) : _root_.Go.OpenSpec := { _root_.Go.OpenSpec.ofChange s with cond := some uptoSmall }

/-- 'deedboxlaw11.TapeDraws', WHERE WHAT IT READS IS OF BULK AT MOST 1048576: true; the input reads as it did. -/
def tapeDrawsUptoRow : OpenClaim := { program := "ytagoofdopgopoaa", sum := "7af31d29c08cac0a2ad84621306a12fd4cc188f2901ff4219303aa8ac5982faf", func := "deedbox/deedboxlaw11.TapeDraws", spec := "tapeDraws", unfollowed := true, recurses := true, apart := false, narrowed := true }
def TapeDrawsUptoSaid : Prop := tapeDrawsUptoRow.holds Try.pinned (OpenSpec.upto tapeDrawsSpec)

/-- 'deedboxlaw11.TapeNoise', WHERE WHAT IT READS IS OF BULK AT MOST 1048576: true; the input reads as it did. -/
def tapeNoiseUptoRow : OpenClaim := { program := "ytagoofdopgopoaa", sum := "7af31d29c08cac0a2ad84621306a12fd4cc188f2901ff4219303aa8ac5982faf", func := "deedbox/deedboxlaw11.TapeNoise", spec := "tapeNoise", unfollowed := true, recurses := true, apart := false, narrowed := true }
def TapeNoiseUptoSaid : Prop := tapeNoiseUptoRow.holds Try.pinned (OpenSpec.upto tapeNoiseSpec)

/-- 'deedboxlaw11.TapeApart', WHERE WHAT IT READS IS OF BULK AT MOST 1048576: true; the input reads as it did. -/
def tapeApartUptoRow : OpenClaim := { program := "ytagoofdopgopoaa", sum := "7af31d29c08cac0a2ad84621306a12fd4cc188f2901ff4219303aa8ac5982faf", func := "deedbox/deedboxlaw11.TapeApart", spec := "tapeApart", unfollowed := true, recurses := true, apart := false, narrowed := true }
def TapeApartUptoSaid : Prop := tapeApartUptoRow.holds Try.pinned (OpenSpec.upto tapeApartSpec)

/-- 'deedboxlaw25.PathMakes', WHERE WHAT IT READS IS OF BULK AT MOST 1048576: true; the input reads as it did. -/
def pathMakesUptoRow : OpenClaim := { program := "ytagoofdopgopoaa", sum := "7af31d29c08cac0a2ad84621306a12fd4cc188f2901ff4219303aa8ac5982faf", func := "deedbox/deedboxlaw25.PathMakes", spec := "pathMakes", recurses := true, apart := false, narrowed := true }
def PathMakesUptoSaid : Prop := pathMakesUptoRow.holds Try.pinned (OpenSpec.upto pathMakesSpec)

/-- 'deedboxlaw25.PathBack', WHERE WHAT IT READS IS OF BULK AT MOST 1048576: true; the input reads as it did. -/
def pathBackUptoRow : OpenClaim := { program := "ytagoofdopgopoaa", sum := "7af31d29c08cac0a2ad84621306a12fd4cc188f2901ff4219303aa8ac5982faf", func := "deedbox/deedboxlaw25.PathBack", spec := "pathBack", apart := false, narrowed := true }
def PathBackUptoSaid : Prop := pathBackUptoRow.holds Try.pinned (OpenSpec.upto pathBackSpec)

/-- 'deedboxlaw25.PathOrder', WHERE WHAT IT READS IS OF BULK AT MOST 1048576: true; the input reads as it did. -/
def pathOrderUptoRow : OpenClaim := { program := "ytagoofdopgopoaa", sum := "7af31d29c08cac0a2ad84621306a12fd4cc188f2901ff4219303aa8ac5982faf", func := "deedbox/deedboxlaw25.PathOrder", spec := "pathOrder", apart := false, narrowed := true }
def PathOrderUptoSaid : Prop := pathOrderUptoRow.holds Try.pinned (OpenSpec.upto pathOrderSpec)

/-- 'deedboxlaw25.PathBegins', WHERE WHAT IT READS IS OF BULK AT MOST 1048576: true; the input reads as it did. -/
def pathBeginsUptoRow : OpenClaim := { program := "ytagoofdopgopoaa", sum := "7af31d29c08cac0a2ad84621306a12fd4cc188f2901ff4219303aa8ac5982faf", func := "deedbox/deedboxlaw25.PathBegins", spec := "pathBegins", apart := false, narrowed := true }
def PathBeginsUptoSaid : Prop := pathBeginsUptoRow.holds Try.pinned (OpenSpec.upto pathBeginsSpec)

/-- 'deedboxlaw01.OctetParts', WHERE WHAT IT READS IS OF BULK AT MOST 1048576: true; the input reads as it did. -/
def octetPartsUptoRow : OpenClaim := { program := "ytagoofdopgopoaa", sum := "7af31d29c08cac0a2ad84621306a12fd4cc188f2901ff4219303aa8ac5982faf", func := "deedbox/deedboxlaw01.OctetParts", spec := "octetParts", recurses := true, apart := false, narrowed := true }
def OctetPartsUptoSaid : Prop := octetPartsUptoRow.holds Try.pinned (OpenSpec.upto octetPartsSpec)

/-- 'deedboxlaw01.OctetApart', WHERE WHAT IT READS IS OF BULK AT MOST 1048576: true; the input reads as it did. -/
def octetApartUptoRow : OpenClaim := { program := "ytagoofdopgopoaa", sum := "7af31d29c08cac0a2ad84621306a12fd4cc188f2901ff4219303aa8ac5982faf", func := "deedbox/deedboxlaw01.OctetApart", spec := "octetApart", apart := false, narrowed := true }
def OctetApartUptoSaid : Prop := octetApartUptoRow.holds Try.pinned (OpenSpec.upto octetApartSpec)

/-- 'deedboxlaw01.OctetHolds', WHERE WHAT IT READS IS OF BULK AT MOST 1048576: true; the input reads as it did. -/
def octetHoldsUptoRow : OpenClaim := { program := "ytagoofdopgopoaa", sum := "7af31d29c08cac0a2ad84621306a12fd4cc188f2901ff4219303aa8ac5982faf", func := "deedbox/deedboxlaw01.OctetHolds", spec := "octetHolds", apart := false, narrowed := true }
def OctetHoldsUptoSaid : Prop := octetHoldsUptoRow.holds Try.pinned (OpenSpec.upto octetHoldsSpec)

/-- 'deedboxlaw01.OctetReads', WHERE WHAT IT READS IS OF BULK AT MOST 1048576: true; the input reads as it did. -/
def octetReadsUptoRow : OpenClaim := { program := "ytagoofdopgopoaa", sum := "7af31d29c08cac0a2ad84621306a12fd4cc188f2901ff4219303aa8ac5982faf", func := "deedbox/deedboxlaw01.OctetReads", spec := "octetReads", apart := false, narrowed := true }
def OctetReadsUptoSaid : Prop := octetReadsUptoRow.holds Try.pinned (OpenSpec.upto octetReadsSpec)

end Rows
end Go.Proofs.Ytagoofdopgopoaa
