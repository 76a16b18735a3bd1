/-
What the law asks of its arguments, its one pure statement, and the walk of its code out of it.
-/
import Derived.Test.YtfhbnmlmobpjgaaPFnExtensionsx8
import Derived.Test.YtfhbnmlmobpjgaaOpen
import Derived.WalkKit
namespace Go.Proofs.Ytfhbnmlmobpjgaa.PFnExtensions
open Go.RowKit Go.ChangeShapes Go.WideShapes Go.Proofs.YtfhbnmlmobpjgaaOpen Go.Proofs.YtfhbnmlmobpjgaaW.PrintWords Go.Proofs.YtfhbnmlmobpjgaaW.PrintLast Go.Proofs.YtfhbnmlmobpjgaaW.PrintMore
set_option linter.unusedVariables false
/-- THE ONE PURE STATEMENT. -/
def laws_FnExtensions.Ask : Prop := ∀ (l0 : List Int), (bSl 1 (bInt .u8)) l0 → ∃ k, laws_FnExtensions.f k l0 = some true
end Go.Proofs.Ytfhbnmlmobpjgaa.PFnExtensions
