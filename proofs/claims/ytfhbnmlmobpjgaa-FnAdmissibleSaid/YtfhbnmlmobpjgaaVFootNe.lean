/- Words for walks: of what print.sh laid, the part that this claim uses. No condition. -/
import Derived.Test.YtfhbnmlmobpjgaaVN
namespace Go.Proofs.YtfhbnmlmobpjgaaW.PrintWords
open Go.RowKit
namespace Kd
section
variable {α : Type} {d : Kd α} {W : World} {g n : Nat} {S ok : Nat → Prop} {A : Option Addr} {ad : Addr} {xs : List α}
end
end Kd
end Go.Proofs.YtfhbnmlmobpjgaaW.PrintWords
