/- Words for walks: of what print.sh laid, the part that this claim uses. No condition. -/
import Derived.Test.YtlneimpoholkhaaVTab
namespace Go.Proofs.YtlneimpoholkhaaW.PrintLast
section
variable {P : Program} {ops : Array Oper} {Q : Exit → Act → World → Prop} {md : Region.Mode} {S : World → Prop} {ds : List Nat} {T : Bool × List (List Nat × List Nat)}
end
end Go.Proofs.YtlneimpoholkhaaW.PrintLast
