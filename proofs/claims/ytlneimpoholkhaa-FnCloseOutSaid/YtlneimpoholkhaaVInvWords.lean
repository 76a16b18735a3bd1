/- Words for walks: of what print.sh laid, the part that this claim uses. No condition. -/
import Derived.Test.YtlneimpoholkhaaVInv
import Derived.Test.YtlneimpoholkhaaVFootNe
namespace Go.Proofs.YtlneimpoholkhaaW.PrintWords
open Go.RowKit
end Go.Proofs.YtlneimpoholkhaaW.PrintWords
namespace Go.Proofs.YtlneimpoholkhaaW.PrintLast
section
variable {ops : Array Oper} {a : Act} {o og : Oper} {g : Nat} {t : Tmp} {u : Bool}
end
end Go.Proofs.YtlneimpoholkhaaW.PrintLast
