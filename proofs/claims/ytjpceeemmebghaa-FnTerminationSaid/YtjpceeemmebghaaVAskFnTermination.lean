/-
What the law asks of its arguments, its one pure statement, and the walk of its code out of it.
-/
import Derived.Test.YtjpceeemmebghaaVPFnTerminationx11
import Derived.Test.YtjpceeemmebghaaVOpen
import Derived.WalkKit
namespace Go.Proofs.Ytjpceeemmebghaa.PFnTermination
open Go.RowKit Go.ChangeShapes Go.WideShapes Go.Proofs.YtjpceeemmebghaaOpen Go.Proofs.YtjpceeemmebghaaW.PrintWords Go.Proofs.YtjpceeemmebghaaW.PrintLast Go.Proofs.YtjpceeemmebghaaW.PrintMore
set_option linter.unusedVariables false
/-- THE ONE PURE STATEMENT. -/
def laws_FnTermination.Ask : Prop := ∀ (l0 : List Int), (bSl 1 (bInt .u8)) l0 → ∃ k, laws_FnTermination.f k l0 = some true
end Go.Proofs.Ytjpceeemmebghaa.PFnTermination
