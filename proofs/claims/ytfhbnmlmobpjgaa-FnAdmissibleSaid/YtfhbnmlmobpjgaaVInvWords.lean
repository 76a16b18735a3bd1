/- Words for walks: of what print.sh laid, the part that this claim uses. No condition. -/
import Derived.Test.YtfhbnmlmobpjgaaVInv
import Derived.Test.YtfhbnmlmobpjgaaVFootNe
namespace Go.Proofs.YtfhbnmlmobpjgaaW.PrintWords
open Go.RowKit
end Go.Proofs.YtfhbnmlmobpjgaaW.PrintWords
namespace Go.Proofs.YtfhbnmlmobpjgaaW.PrintLast
section
variable {ops : Array Oper} {a : Act} {o og : Oper} {g : Nat} {t : Tmp} {u : Bool}
end
end Go.Proofs.YtfhbnmlmobpjgaaW.PrintLast
