/- Each Go function that the law uses as a plain Lean function, and a proof that its code comes to what this function tells. No condition. -/
import Derived.Test.YtlneimpoholkhaaProg
import Derived.Below
import Derived.Deep.Draws
import Derived.Deep.AppendLies
import Derived.Maps.AppendAt
import Derived.OwnWalk
import Derived.Laws.BytesArg
import Derived.Laws.MakeOwn
import Derived.Laws.OwnMore
import Derived.Deep.OwnRows
import Derived.Tactics
import Derived.Lib.ConvBytes
import Derived.Laws.Slices
import Derived.WalkKit
import Derived.KernelRfl
import Derived.RowKit3
import Derived.Deep.LoopGhost
import Derived.Deep.QuietTactic
import Derived.BigQuiet
import Derived.WideLaws
import Derived.Deep.DeepCutAuto
import Derived.Deep.CutBlock
import Derived.Deep.RegionHeld3
import Derived.Laws.Rows
import Derived.Lib.AppendStr
import Derived.ArgAppend
import Derived.Laws.IdiomCopy
import Derived.OrdersHeld
import Derived.Laws.BitsLemmas
import Derived.RowKit
import Derived.Lib.SliceRun
import Derived.WalkSpells
import Derived.Test.YtlneimpoholkhaaFns
import Derived.Test.YtlneimpoholkhaaIns
import Derived.Test.YtlneimpoholkhaaSort
import Derived.Test.YtlneimpoholkhaaWWords
import Derived.Test.YtlneimpoholkhaaWLast
import Derived.Test.YtlneimpoholkhaaWTab
import Derived.Test.YtlneimpoholkhaaWFour
import Derived.Test.YtlneimpoholkhaaWQPut
import Derived.Test.YtlneimpoholkhaaWApart
import Derived.Test.YtlneimpoholkhaaWArr
import Derived.Test.YtlneimpoholkhaaWZeros
import Derived.Test.YtlneimpoholkhaaWFoot
import Derived.Test.YtlneimpoholkhaaWKept
import Derived.Test.YtlneimpoholkhaaWShare
import Derived.Test.YtlneimpoholkhaaWN
import Derived.Test.YtlneimpoholkhaaWFootNe
import Derived.Test.YtlneimpoholkhaaWAt
import Derived.Test.YtlneimpoholkhaaWEqStruct
import Derived.Test.YtlneimpoholkhaaWRepsOne
import Derived.Test.YtlneimpoholkhaaWInv
import Derived.Test.YtlneimpoholkhaaWInvWords
import Derived.Test.YtlneimpoholkhaaWGuard
import Derived.Test.YtlneimpoholkhaaWNEv
import Derived.Test.YtlneimpoholkhaaWMore
namespace Go.Proofs.Ytlneimpoholkhaa.PFnExactQuoteValue
open Go.RowKit Go.Proofs.YtlneimpoholkhaaW.PrintWords Go.Proofs.YtlneimpoholkhaaW.PrintLast Go.Proofs.YtlneimpoholkhaaW.PrintMore
attribute [local go_sem] max2_int min2_int max_two min_two max_three min_three max_four min_four   -- for this text's walks alone
set_option linter.unusedVariables false
set_option linter.unusedSimpArgs false



def errW : Option Int → Value
  | none => .nilIface
  | some c => .iface 0 (.int .i64 c)
theorem errW_none : errW none = .nilIface := rfl
theorem errW_some (c : Int) : errW (some c) = .iface 0 (.int .i64 c) := rfl

theorem info3 : (Try.prog.info? 3).map (fun i => (i.zero, i.size, i.bytes)) = some (some (.int .i64 0), 1, 8) := by kernel_rfl
-- the values' own types

end Go.Proofs.Ytlneimpoholkhaa.PFnExactQuoteValue
