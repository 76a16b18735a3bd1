/- Words for walks: of what print.sh laid, the part that this claim uses. No condition. -/
import Derived.Test.YtlneimpoholkhaaVWords
import Derived.Laws.StructEq
namespace Go.Proofs.YtlneimpoholkhaaW.PrintWords
open Go.RowKit
section
variable {P : Program} {d : Nat} {xs ys : Array Value} {f : Field} {fs : List Field} {a b : Value} {r s : Bool} {w : World}
end
end Go.Proofs.YtlneimpoholkhaaW.PrintWords
