/-
What the law asks of its arguments, its one pure statement, and the walk of its code out of it.
-/
import Derived.Test.YtlneimpoholkhaaVPFnCloseOutx14
import Derived.Test.YtlneimpoholkhaaVOpen
import Derived.WalkKit
namespace Go.Proofs.Ytlneimpoholkhaa.PFnCloseOut
open Go.RowKit Go.ChangeShapes Go.WideShapes Go.Proofs.YtlneimpoholkhaaOpen Go.Proofs.YtlneimpoholkhaaW.PrintWords Go.Proofs.YtlneimpoholkhaaW.PrintLast Go.Proofs.YtlneimpoholkhaaW.PrintMore
set_option linter.unusedVariables false
/-- THE ONE PURE STATEMENT. -/
def laws_FnCloseOut.Ask : Prop := ∀ (l0 : List Int), (bSl 1 (bInt .u8)) l0 → ∃ k, laws_FnCloseOut.f k l0 = some true
end Go.Proofs.Ytlneimpoholkhaa.PFnCloseOut
