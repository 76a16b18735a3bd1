/- Each Go function that the law uses as a plain Lean function, and a proof that its code comes to what this function tells. No condition. -/
import Derived.Test.YtjpceeemmebghaaProg
import Derived.Below
import Derived.Deep.Draws
import Derived.Deep.AppendLies
import Derived.Maps.AppendAt
import Derived.OwnWalk
import Derived.Laws.BytesArg
import Derived.Laws.MakeOwn
import Derived.Laws.OwnMore
import Derived.Deep.OwnRows
import Derived.Tactics
import Derived.Lib.ConvBytes
import Derived.Laws.Slices
import Derived.WalkKit
import Derived.KernelRfl
import Derived.RowKit3
import Derived.Deep.LoopGhost
import Derived.Deep.QuietTactic
import Derived.BigQuiet
import Derived.WideLaws
import Derived.Deep.DeepCutAuto
import Derived.Deep.CutBlock
import Derived.Deep.RegionHeld3
import Derived.Laws.Rows
import Derived.Lib.AppendStr
import Derived.ArgAppend
import Derived.Laws.IdiomCopy
import Derived.OrdersHeld
import Derived.Laws.BitsLemmas
import Derived.RowKit
import Derived.Test.YtjpceeemmebghaaWWords
import Derived.Test.YtjpceeemmebghaaWLast
import Derived.Test.YtjpceeemmebghaaWTab
import Derived.Test.YtjpceeemmebghaaWFour
import Derived.Test.YtjpceeemmebghaaWQPut
import Derived.Test.YtjpceeemmebghaaWApart
import Derived.Test.YtjpceeemmebghaaWArr
import Derived.Test.YtjpceeemmebghaaWZeros
import Derived.Test.YtjpceeemmebghaaWFoot
import Derived.Test.YtjpceeemmebghaaWKept
import Derived.Test.YtjpceeemmebghaaWShare
import Derived.Test.YtjpceeemmebghaaWN
import Derived.Test.YtjpceeemmebghaaWFootNe
import Derived.Test.YtjpceeemmebghaaWAt
import Derived.Test.YtjpceeemmebghaaWEqStruct
import Derived.Test.YtjpceeemmebghaaWRepsOne
import Derived.Test.YtjpceeemmebghaaWInv
import Derived.Test.YtjpceeemmebghaaWInvWords
import Derived.Test.YtjpceeemmebghaaWGuard
import Derived.Test.YtjpceeemmebghaaWNEv
import Derived.Test.YtjpceeemmebghaaWMore
namespace Go.Proofs.Ytjpceeemmebghaa.PFnExactInterimAmount
open Go.RowKit Go.Proofs.YtjpceeemmebghaaW.PrintWords Go.Proofs.YtjpceeemmebghaaW.PrintLast Go.Proofs.YtjpceeemmebghaaW.PrintMore
attribute [local go_sem] max2_int min2_int max_two min_two max_three min_three max_four min_four   -- for this text's walks alone
set_option linter.unusedVariables false
set_option linter.unusedSimpArgs false



def errW : Option Int → Value
  | none => .nilIface
  | some c => .iface 0 (.int .i64 c)
theorem errW_none : errW none = .nilIface := rfl
theorem errW_some (c : Int) : errW (some c) = .iface 0 (.int .i64 c) := rfl

-- the values' own types

end Go.Proofs.Ytjpceeemmebghaa.PFnExactInterimAmount
