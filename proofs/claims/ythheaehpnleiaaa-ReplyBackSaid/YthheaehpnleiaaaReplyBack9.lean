/- bytes.Compare: a function whose body is no Go. -/
import Derived.Test.YthheaehpnleiaaaReplyBack8
import Derived.WalkKit
import Derived.Lib.Bytealg
import Derived.Lib.BytesEntry
namespace Go.Proofs.Ythheaehpnleiaaa.AX
open Go Go.Proofs
set_option maxRecDepth 100000
set_option linter.unusedVariables false
set_option linter.unusedSimpArgs false

/-- how two rows of bytes stand to each other -/
def cmpB (l m : List Int) : Int := Go.Lib.compareBytes (Go.Lib.bytesOf l) (Go.Lib.bytesOf m)
/-- bytes -/
def Byt (l : List Int) : Prop := ∀ x, x ∈ l → 0 ≤ x ∧ x < 256
end Go.Proofs.Ythheaehpnleiaaa.AX
