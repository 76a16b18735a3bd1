/- Words for walks: of what print.sh laid, the part that this claim uses. No condition. -/
import Derived.Test.YtlneimpoholkhaaVWords
namespace Go.Proofs.YtlneimpoholkhaaW.PrintWords
open Go.RowKit
section
variable {P : Program} {ops : Array Oper} {rest : List Oper} {o : Oper} {a : Act} {Q : Exit → Act → World → Prop} {W : World}
end
end Go.Proofs.YtlneimpoholkhaaW.PrintWords
