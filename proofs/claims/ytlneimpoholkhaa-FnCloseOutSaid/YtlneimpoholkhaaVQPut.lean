/- Words for walks: of what print.sh laid, the part that this claim uses. No condition. -/
import Derived.Test.YtlneimpoholkhaaVWords
import Derived.Test.YtlneimpoholkhaaVLast
namespace Go.Proofs.YtlneimpoholkhaaW.PrintWords
open Go.RowKit
namespace Kd
section
variable {α : Type} {d : Kd α} {e base g o n cap : Nat} {ok okp : Nat → Prop} {w W : World} {v : Value} {xs : List α}
end
section
variable {α : Type} {enc : α → Value} {h1 : ∀ x, (enc x).oneCell' = true} {e base g o n cap : Nat} {ok : Nat → Prop} {W : World} {xs : List α}
end
end Kd
end Go.Proofs.YtlneimpoholkhaaW.PrintWords
