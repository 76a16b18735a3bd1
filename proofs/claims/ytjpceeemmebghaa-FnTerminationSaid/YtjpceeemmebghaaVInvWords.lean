/- Words for walks: of what print.sh laid, the part that this claim uses. No condition. -/
import Derived.Test.YtjpceeemmebghaaVInv
import Derived.Test.YtjpceeemmebghaaVFootNe
namespace Go.Proofs.YtjpceeemmebghaaW.PrintWords
open Go.RowKit
end Go.Proofs.YtjpceeemmebghaaW.PrintWords
namespace Go.Proofs.YtjpceeemmebghaaW.PrintLast
section
variable {ops : Array Oper} {a : Act} {o og : Oper} {g : Nat} {t : Tmp} {u : Bool}
end
end Go.Proofs.YtjpceeemmebghaaW.PrintLast
