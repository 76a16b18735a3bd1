/-
What the law asks of its arguments, its one pure statement, and the walk of its code out of it.
-/
import Derived.Test.YtlneimpoholkhaaPFnExactEstateDividendx9
import Derived.Test.YtlneimpoholkhaaOpen
import Derived.WalkKit
namespace Go.Proofs.Ytlneimpoholkhaa.PFnExactEstateDividend
open Go.RowKit Go.ChangeShapes Go.WideShapes Go.Proofs.YtlneimpoholkhaaOpen Go.Proofs.YtlneimpoholkhaaW.PrintWords Go.Proofs.YtlneimpoholkhaaW.PrintLast Go.Proofs.YtlneimpoholkhaaW.PrintMore
set_option linter.unusedVariables false
/-- THE ONE PURE STATEMENT. -/
def laws_FnExactEstateDividend.Ask : Prop := ∀ (a0 : Int) (l1 : List Int), (bInt .i64) a0 → (bSl 8 (bInt .i64)) l1 → ∃ k, laws_FnExactEstateDividend.f k a0 l1 = some true
end Go.Proofs.Ytlneimpoholkhaa.PFnExactEstateDividend
