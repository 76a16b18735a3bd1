/-
What the law asks of its arguments, its one pure statement, and the walk of its code out of it.
-/
import Derived.Test.YtfhbnmlmobpjgaaVPFnAdmissiblex10
import Derived.Test.YtfhbnmlmobpjgaaVOpen
import Derived.WalkKit
namespace Go.Proofs.Ytfhbnmlmobpjgaa.PFnAdmissible
open Go.RowKit Go.ChangeShapes Go.WideShapes Go.Proofs.YtfhbnmlmobpjgaaOpen Go.Proofs.YtfhbnmlmobpjgaaW.PrintWords Go.Proofs.YtfhbnmlmobpjgaaW.PrintLast Go.Proofs.YtfhbnmlmobpjgaaW.PrintMore
set_option linter.unusedVariables false
/-- THE ONE PURE STATEMENT. -/
def laws_FnAdmissible.Ask : Prop := ∀ (l0 : List Int), (bSl 1 (bInt .u8)) l0 → ∃ k, laws_FnAdmissible.f k l0 = some true
end Go.Proofs.Ytfhbnmlmobpjgaa.PFnAdmissible
