/- Chapter 23: the law of a valid case holds. -/
import Derived.Test.YtgopmghiadpbcaaDoorBeePu
namespace Go.Bee.C23s
open Go Go.Bee Go.Proofs Go.Bee.Ty Go.Bee.C23
set_option linter.unusedVariables false
set_option maxRecDepth 20000
attribute [local irreducible] Go.Bee.bwp
theorem specValid_b (c : Cs) : BRet Tryd.prog 5 [] [.agg [.d (.sl 2 (c.fs.map Th.e)), .d (.sl 5 (c.rs.map Ru.e)), .d (.sl 2 (c.ss.map Sd.e))]] (.bool (head c && okS c)) [] := by
  refine bof Tryd.func5 ?_
  refine bgo ?_
  refine b_call (l23Good_b c) rfl rfl rfl rfl ?_
  refine bgo ?_
  trivial
theorem law_b (c : Cs) : BRet Tryd.prog 3 [] [.agg [.d (.sl 2 (c.fs.map Th.e)), .d (.sl 5 (c.rs.map Ru.e)), .d (.sl 2 (c.ss.map Sd.e))]] (.bool true) [] := by
  refine bof Tryd.func3 ?_
  refine bgo ?_
  refine b_call (szCase_b c 1048576 (by decide) (by decide)) rfl rfl rfl rfl ?_
  by_cases h : szCs c 1048576 < 0
  · refine bgo ?_
    trivial
  have ho := szCs_ok c (by omega)
  refine bgo ?_
  refine b_call (toCase_b c ho) rfl rfl rfl rfl ?_
  refine bgo ?_
  refine b_call (specValid_b c) rfl rfl rfl rfl ?_
  refine bgo ?_
  refine b_call (toCase_b c ho) rfl rfl rfl rfl ?_
  refine bgo ?_
  refine b_call (IsValidCase_b c) rfl rfl rfl rfl ?_
  rw [valid_eq c]
  refine bgo ?_
  refine b_call (toCase_b c ho) rfl rfl rfl rfl ?_
  refine bgo ?_
  refine b_call (eqCase_b c c) rfl rfl rfl rfl ?_
  rw [decide_eq_true rfl]
  generalize (head c && okS c) = b
  cases b
  · refine bgo ?_
    trivial
  · refine bgo ?_
    trivial
end Go.Bee.C23s
