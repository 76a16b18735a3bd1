/-
What the law asks of its arguments, its one pure statement, and the walk of its code out of it.
-/
import Derived.Test.YtjpceeemmebghaaPFnExactSetOffx3
import Derived.Test.YtjpceeemmebghaaOpen
import Derived.WalkKit
namespace Go.Proofs.Ytjpceeemmebghaa.PFnExactSetOff
open Go.RowKit Go.ChangeShapes Go.WideShapes Go.Proofs.YtjpceeemmebghaaOpen Go.Proofs.YtjpceeemmebghaaW.PrintWords Go.Proofs.YtjpceeemmebghaaW.PrintLast Go.Proofs.YtjpceeemmebghaaW.PrintMore
set_option linter.unusedVariables false
/-- THE ONE PURE STATEMENT. -/
def laws_FnExactSetOff.Ask : Prop := ∀ (a0 : Int) (l1 : List Int) (l2 : List Int), (bInt .i64) a0 → (bSl 8 (bInt .i64)) l1 → (bSl 8 (bInt .i64)) l2 → ∃ k, laws_FnExactSetOff.f k a0 l1 l2 = some true
end Go.Proofs.Ytjpceeemmebghaa.PFnExactSetOff
