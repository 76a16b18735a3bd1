/-
What the law asks of its arguments, its one pure statement, and the walk of its code out of it.
-/
import Derived.Test.YtlneimpoholkhaaPFnExactQuoteValuex4
import Derived.Test.YtlneimpoholkhaaOpen
import Derived.WalkKit
namespace Go.Proofs.Ytlneimpoholkhaa.PFnExactQuoteValue
open Go.RowKit Go.ChangeShapes Go.WideShapes Go.Proofs.YtlneimpoholkhaaOpen Go.Proofs.YtlneimpoholkhaaW.PrintWords Go.Proofs.YtlneimpoholkhaaW.PrintLast Go.Proofs.YtlneimpoholkhaaW.PrintMore
set_option linter.unusedVariables false
/-- THE ONE PURE STATEMENT. -/
def laws_FnExactQuoteValue.Ask : Prop := ∀ (l0 : List Int) (a1 : Int), (bSl 8 (bInt .i64)) l0 → (bInt .i64) a1 → ∃ k, laws_FnExactQuoteValue.f k l0 a1 = some true
end Go.Proofs.Ytlneimpoholkhaa.PFnExactQuoteValue
