/- Chapter 23: StatusOf, WeightsOf, NeededWeight: the model's words, and the laws. -/
import Derived.Test.YtkgjplamdmakpaaGreatDoorBeeAs
namespace Go.Bee.C23a
open Go Go.Bee Go.Proofs Go.Bee.Ty Go.Bee.C23 Go.Bee.C23s
set_option linter.unusedVariables false
set_option maxRecDepth 20000
attribute [local irreducible] Go.Bee.bwp vName
theorem good_b (c : Cs) : BRet Tryz.prog 62 [] [.agg [.d (.sl 2 (c.fs.map Th.e)), .d (.sl 5 (c.rs.map Ru.e)), .d (.sl 2 (c.ss.map Sd.e))]] (.bool (head c && okI c)) [] := by
  rw [valid_eq]; exact l23Good_b c
theorem accepted_b (c : Cs) (h : Fine c) : BRet Tryz.prog 65 [] [.agg [.d (.sl 2 (c.fs.map Th.e)), .d (.sl 5 (c.rs.map Ru.e)), .d (.sl 2 (c.ss.map Sd.e))]] (.own 30 2 ((accI c).map Th.e)) [] := by
  rw [acc_eq h]; exact l23Accepted_b c h
theorem specStatus_b (c : Cs) (n : List UInt8) (h : Fine c) : BRet Tryz.prog 83 [] [.agg [.d (.sl 2 (c.fs.map Th.e)), .d (.sl 5 (c.rs.map Ru.e)), .d (.sl 2 (c.ss.map Sd.e))], .str n] (.int (statusF (accI c) n)) [] := by
  refine bof Tryz.func83 ?_
  refine bgo ?_
  refine b_call (accepted_b c h) rfl rfl rfl rfl ?_
  generalize accI c = acc
  unfold statusF
  refine bgo ?_
  refine b_call (l23Has_b acc ⟨n, false⟩) rfl rfl rfl rfl ?_
  cases ha : acc.contains ⟨n, false⟩
  · refine bgo ?_
    refine b_call (l23Has_b acc ⟨n, true⟩) rfl rfl rfl rfl ?_
    cases hb : acc.contains ⟨n, true⟩
    · refine bgo ?_
      trivial
    · refine bgo ?_
      trivial
  · refine bgo ?_
    trivial
theorem specStatusOf_b (c : Cs) (n : List UInt8) : BRet Tryz.prog 51 [] [.agg [.d (.sl 2 (c.fs.map Th.e)), .d (.sl 5 (c.rs.map Ru.e)), .d (.sl 2 (c.ss.map Sd.e))], .str n]
    (.tup [.int (if (head c && okI c && vName n) = true then statusF (accI c) n else 0), .bool (head c && okI c && vName n)]) [] := by
  refine bof Tryz.func51 ?_
  refine bgo ?_
  refine b_call (good_b c) rfl rfl rfl rfl ?_
  cases hv : head c && okI c
  · refine bgo ?_
    trivial
  · have hf := head_fine hv
    refine bgo ?_
    refine b_call (l5Name_b n) rfl rfl rfl rfl ?_
    cases hn : vName n
    · refine bgo ?_
      trivial
    · refine bgo ?_
      refine b_call (specStatus_b c n hf) rfl rfl rfl rfl ?_
      refine bgo ?_
      trivial
theorem specWeightsOf_b (c : Cs) (t : Th) : BRet Tryz.prog 42 [] [.agg [.d (.sl 2 (c.fs.map Th.e)), .d (.sl 5 (c.rs.map Ru.e)), .d (.sl 2 (c.ss.map Sd.e))], .agg [.str t.n, .bool t.g]]
    (.tup [.int (if (head c && okI c && vName t.n) = true then wt c (accI c) t else 0), .int (if (head c && okI c && vName t.n) = true then wt c (accI c) (opp t) else 0), .bool (head c && okI c && vName t.n)]) [] := by
  refine bof Tryz.func42 ?_
  refine bgo ?_
  refine b_call (good_b c) rfl rfl rfl rfl ?_
  cases hv : head c && okI c
  · refine bgo ?_
    trivial
  · have hf := head_fine hv
    refine bgo ?_
    refine b_call (l5Name_b t.n) rfl rfl rfl rfl ?_
    cases hn : vName t.n
    · refine bgo ?_
      trivial
    · refine bgo ?_
      refine b_call (accepted_b c hf) rfl rfl rfl rfl ?_
      generalize accI c = acc
      refine bgo ?_
      refine b_call (l23Weight_b c t acc) rfl rfl rfl rfl ?_
      refine bgo ?_
      refine b_call (specOpp_b t) rfl rfl rfl rfl ?_
      refine bgo ?_
      refine b_call (l23Weight_b c (opp t) acc) rfl rfl rfl rfl ?_
      refine bgo ?_
      trivial
theorem lawStatus_b (c : Cs) (n : List UInt8) : BRet Tryz.prog 9 [] [.agg [.d (.sl 2 (c.fs.map Th.e)), .d (.sl 5 (c.rs.map Ru.e)), .d (.sl 2 (c.ss.map Sd.e))], .str n] (.bool true) [] := by
  refine bof Tryz.func9 ?_
  by_cases h0 : (n.length : Int) > 1048576
  · refine bgo ?_
    trivial
  refine bgo ?_
  refine b_call (szCase_b c 1048576 (by decide) (by decide)) rfl rfl rfl rfl ?_
  by_cases h : szCs c 1048576 < 0
  · refine bgo ?_
    trivial
  have ho := szCs_ok c (by omega)
  refine bgo ?_
  refine b_call (toCase_b c ho) rfl rfl rfl rfl ?_
  refine bgo ?_
  refine b_call (specStatusOf_b c n) rfl rfl rfl rfl ?_
  refine bgo ?_
  refine b_call (toCase_b c ho) rfl rfl rfl rfl ?_
  refine bgo ?_
  refine b_call (StatusOf_b c n) rfl rfl rfl rfl ?_
  generalize (if (head c && okI c && vName n) = true then statusF (accI c) n else 0) = q
  cases hv : (head c && okI c && vName n)
  all_goals
    refine bgo ?_
    refine b_call (toCase_b c ho) rfl rfl rfl rfl ?_
    refine bgo ?_
    refine b_call (eqCase_b c c) rfl rfl rfl rfl ?_
    rw [decide_eq_true rfl]
    refine bgo ?_
    trivial
theorem lawWeights_b (c : Cs) (t : Th) : BRet Tryz.prog 7 [] [.agg [.d (.sl 2 (c.fs.map Th.e)), .d (.sl 5 (c.rs.map Ru.e)), .d (.sl 2 (c.ss.map Sd.e))], .agg [.str t.n, .bool t.g]] (.bool true) [] := by
  refine bof Tryz.func7 ?_
  have hn := szCs_nice c 1048576 (by decide)
  refine bgo ?_
  refine b_call (szCase_b c 1048576 (by decide) (by decide)) rfl rfl rfl rfl ?_
  by_cases h : szCs c 1048576 < 0
  · refine bgo ?_
    trivial
  have ho := szCs_ok c (by omega)
  generalize szCs c 1048576 = x at *
  refine bgo ?_
  refine b_call (szThesis_b t x (by omega) (by omega)) rfl rfl rfl rfl ?_
  by_cases h2 : szTh t x < 0
  · refine bgo ?_
    trivial
  generalize szTh t x = y at *
  refine bgo ?_
  refine b_call (toCase_b c ho) rfl rfl rfl rfl ?_
  refine bgo ?_
  refine b_call (toThesis_b t) rfl rfl rfl rfl ?_
  refine bgo ?_
  refine b_call (specWeightsOf_b c t) rfl rfl rfl rfl ?_
  refine bgo ?_
  refine b_call (toCase_b c ho) rfl rfl rfl rfl ?_
  refine bgo ?_
  refine b_call (toThesis_b t) rfl rfl rfl rfl ?_
  refine bgo ?_
  refine b_call (WeightsOf_b c t) rfl rfl rfl rfl ?_
  generalize (if (head c && okI c && vName t.n) = true then wt c (accI c) t else 0) = q
  generalize (if (head c && okI c && vName t.n) = true then wt c (accI c) (opp t) else 0) = q2
  cases hv : (head c && okI c && vName t.n)
  all_goals
    refine bgo ?_
    refine b_call (toCase_b c ho) rfl rfl rfl rfl ?_
    refine bgo ?_
    refine b_call (eqCase_b c c) rfl rfl rfl rfl ?_
    rw [decide_eq_true rfl]
    refine bgo ?_
    trivial
end Go.Bee.C23a
