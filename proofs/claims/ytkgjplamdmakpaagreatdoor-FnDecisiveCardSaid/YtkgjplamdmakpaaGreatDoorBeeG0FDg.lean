/-
The logic and the walks, part 7. No condition.
-/
import Derived.Test.YtkgjplamdmakpaaGreatDoorBeeG0FDf
import Derived.Test.YtkgjplamdmakpaaGreatDoorBeeG0FDe
import Derived.Test.YtkgjplamdmakpaaGreatDoorProg
import Derived.Deep.RegionLaw
import Derived.Lib.SliceRun
import Derived.Lib.Walk
/- Chapter 23: AcceptedTheses, ApplicableRules: both sides and their laws. -/
namespace Go.Bee.Ar
open Go Go.Bee Go.Proofs Go.Bee.Ty Go.Bee.C23 Go.Bee.C23s Go.Bee.C23a Go.Bee.Mt Go.Bee.Mr Go.Bee.Cq Go.Bee.Ml Go.Bee.Dr
theorem slInt : SlT Tryz.prog 58 3 1 8 := ⟨_, _, ty58, rfl, ty3, rfl, rfl, rfl, by decide⟩
theorem tys : type_of% (And.intro Go.Bee.Ml.tys slInt.facts) := And.intro Go.Bee.Ml.tys slInt.facts
end Go.Bee.Ar
namespace Go.Bee.Ar
open Go Go.Bee Go.Proofs Go.Bee.Ty Go.Bee.C23 Go.Bee.C23s Go.Bee.C23a Go.Bee.Mt Go.Bee.Mr Go.Bee.Cq Go.Bee.Ml Go.Bee.Dr
set_option linter.unusedVariables false
set_option maxRecDepth 20000
attribute [local irreducible] Go.Bee.bwp
def ths (l : List Th) : List PD := l.map Th.e
theorem ths_plain (l : List Th) : ∀ x ∈ flat (ths l), x.plain = true := th_plain l
theorem ths_one (l : List Th) : ∀ x ∈ ths l, x.cells.length = 2 := fun x hx => by obtain ⟨t, _, rfl⟩ := List.mem_map.1 hx; rfl
theorem ths_app (a b : List Th) : ths (a ++ b) = ths a ++ ths b := List.map_append
def mkTh (n : Nat) (k : Int) : List Th := (List.range n).map fun (i : Nat) => (⟨mkT (k + 2 * (i : Int)), (k + 2 * (i : Int) + 1).tmod 3 == 0⟩ : Th)
theorem row_set2 {a b : List Th} {i : Nat} {v : Th} (hv : a[i]? = some v) (hb : i < b.length) :
    ((row (ths (a.take i ++ b.drop i))).set (i * 2) (.d (.str v.n))).set (i * 2 + 1) (.d (.bool v.g)) = row (ths (a.take (i + 1) ++ b.drop (i + 1))) := by
  obtain ⟨ha, rfl⟩ := List.getElem?_eq_some_iff.1 hv
  have h1 : (row (ths (a.take i))).length = i * 2 := by rw [row_len (ths_one _)]; simp [ths]; omega
  rw [List.drop_eq_getElem_cons hb, List.take_succ_eq_append_getElem ha, show b[i] :: b.drop (i + 1) = [b[i]] ++ b.drop (i + 1) from rfl]
  simp only [ths_app, row_app]
  rw [List.set_append_right _ _ (by omega), h1, Nat.sub_self]
  show (row (ths (a.take i)) ++ (([PV.d (.str b[i].n), PV.d (.bool b[i].g)] ++ row (ths (b.drop (i + 1)))).set 0 (.d (.str a[i].n)))).set (i * 2 + 1) _ = _
  rw [List.set_append_right _ _ (by omega), h1, show i * 2 + 1 - i * 2 = 1 by omega, List.append_assoc]
  rfl
theorem markThesisS_r (l : List Th) (k : Int) (h0 : 0 ≤ k) (hk : k + 2 * l.length ≤ 1099511627776) : BRet Tryz.prog 53 [row (ths l)] [.rsv (.a 0) 2 l.length, .int k] (.int (k + 2 * l.length)) [row (ths (mkTh l.length k))] := by
  refine bofp Tryz.func53 ?_
  have hml : (mkTh l.length k).length = l.length := by simp [mkTh]
  have hmi : ∀ i, i < l.length → (mkTh l.length k)[i]? = some (⟨mkT (k + 2 * (i : Int)), (k + 2 * (i : Int) + 1).tmod 3 == 0⟩ : Th) := fun i h => by simp [mkTh, h]
  generalize mkTh l.length k = m at *
  have hm0 : row (ths (m.take 0 ++ l.drop 0)) = row (ths l) := by simp
  have hm1 : row (ths (m.take l.length ++ l.drop l.length)) = row (ths m) := by rw [List.drop_length, List.append_nil, ← hml, List.take_length]
  refine bgo ?_
  refine b_lp (ι := Nat × Int) (fun i => [(0, .rsv (.a 0) 2 l.length), (1, .int i.2), (5, .int i.1)]) (fun i => [(.a 0, row (ths (m.take i.1 ++ l.drop i.1)))]) (fun i => i.1 ≤ l.length ∧ i.2 = k + 2 * i.1) (fun i => l.length - i.1) (0, k)
    ⟨hsT, ⟨_, rfl, HasC.of hm0.symm (row_ok _ _)⟩, trivial⟩ ⟨Nat.zero_le _, by simp⟩ ?_
  rintro ⟨i, j⟩ ⟨hi, hj⟩ I nx
  dsimp only at hi hj ⊢
  by_cases hlt : i < l.length
  · have hlm : (row (ths (m.take i ++ l.drop i))).length = l.length * 2 := by rw [row_len (ths_one _)]; simp [ths]; omega
    have hst := row_set2 (a := m) (b := l) (i := i) (hmi i hlt) hlt
    rw [← hj] at hst
    have hib : (i : Int) + 1 ≤ 1099511627776 := by omega
    have hkb : j + 2 ≤ 1099511627776 := by omega
    have hj0 : 0 ≤ j := by omega
    have hj2 : k + 2 * ((i + 1 : Nat) : Int) = j + 1 + 1 := by omega
    have h3 : ¬ ((3 : Int) = 0) := by decide
    have hmt := markText_b j (by omega)
    clear hj
    generalize hX : row (ths (m.take i ++ l.drop i)) = X at *
    refine bgo ?_
    refine b_call hmt rfl rfl rfl rfl ?_
    refine bgo ?_
    refine ⟨by omega, ?_, nx.go (i + 1, j + 1 + 1) ⟨hlt, hj2.symm⟩ (by dsimp only; omega) ⟨⟨⟨PLe.rfl, rfl⟩, ⟨PLe.rfl, rfl⟩, ⟨PLe.rfl, rfl⟩, trivial⟩, ⟨_, rfl, HasC.of ?_ (row_ok _ _)⟩, trivial⟩⟩
    · simp only [Nat.add_zero]
      rw [put_set X (i * 2) _ (by omega), List.length_set]; omega
    · simp only [Nat.add_zero]
      rw [put_set X (i * 2) _ (by omega), put_set _ (i * 2 + 1) _ (by rw [List.length_set]; omega)]
      exact hst
  · have hi2 : i = l.length := by omega
    subst hi2
    subst hj
    refine bgo ?_
    refine wk_mk [(1, .int (k + 2 * l.length))] [(.a 0, row (ths m))] ⟨hsT, ⟨_, rfl, HasC.of (by first | rfl | exact hm1) (row_ok _ _)⟩, trivial⟩ ?_
    refine bgo ?_
    exact ret_1p rfl rfl rfl (fun k => rfl) (row_gives _ trivial)
theorem heldThesisS_b (n : Nat) (k : Int) (h0 : 0 ≤ k) (hk : k + 2 * n ≤ 1099511627776) : BRet Tryz.prog 54 [] [.d (.sl 2 (ths (mkTh n k))), .int k] (.int (k + 2 * n)) [] := by
  refine bof Tryz.func54 ?_
  have hml : (mkTh n k).length = n := by simp [mkTh]
  have hmi : ∀ i, i < n → (mkTh n k)[i]? = some (⟨mkT (k + 2 * (i : Int)), (k + 2 * (i : Int) + 1).tmod 3 == 0⟩ : Th) := fun i h => by simp [mkTh, h]
  generalize mkTh n k = m at *
  have hll : (ths m).length = n := by simp [ths, hml]
  have hli : ∀ i, i < n → (ths m)[i]? = some (.agg [.str (mkT (k + 2 * (i : Int))), .bool ((k + 2 * (i : Int) + 1).tmod 3 == 0)]) := fun i h => by simp [ths, hmi i h, Th.e]
  generalize ths m = q at *
  refine bgo ?_
  refine b_lp (ι := Nat × Int) (fun i => [(0, .d (.sl 2 q)), (1, .int i.2), (5, .int i.1)]) (fun _ => []) (fun i => i.1 ≤ n ∧ i.2 = k + 2 * i.1) (fun i => n - i.1) (0, k) hs ⟨Nat.zero_le _, by simp⟩ ?_
  rintro ⟨i, j⟩ ⟨hi, hj⟩ I nx
  dsimp only at hi hj ⊢
  by_cases hlt : i < n
  · have hx := hli i hlt
    rw [← hj] at hx
    have hib : (i : Int) + 1 ≤ 1099511627776 := by omega
    have hkb : j + 2 ≤ 1099511627776 := by omega
    have hj0 : 0 ≤ j := by omega
    have hj2 : k + 2 * ((i + 1 : Nat) : Int) = j + 1 + 1 := by omega
    have hlt2 : i < q.length := by omega
    have h3 : ¬ ((3 : Int) = 0) := by decide
    have hmt := markText_b j (by omega)
    clear hj hml hmi hli
    refine bgo ?_
    refine b_call hmt rfl rfl rfl rfl ?_
    refine bgo ?_
    exact nx.go (i + 1, j + 1 + 1) ⟨hlt, hj2.symm⟩ (by dsimp only; omega) hs
  · have hi2 : i = n := by omega
    subst hi2
    subst hj
    have hlt2 : ¬ i < q.length := by omega
    refine bgo ?_
    refine wk_rfl ?_
    refine bgo ?_
    trivial
theorem eqThesisS_s (l : List Th) : BRet Tryz.prog 52 [] [.d (.sl 2 (ths l)), .d (.sl 2 (ths l))] (.bool true) [] := by
  have := eqThesisS_b l l
  rwa [decide_eq_true rfl] at this
def accO (c : Cs) : List Th := if (head c && okI c) = true then accI c else []
theorem AcceptedTheses_b (c : Cs) : BRet Tryz.prog 19 [] [caseP c] (.tup [.own 30 2 (ths (accO c)), .bool (head c && okI c)]) [] := by
  have hd : accO c = if (head c && okI c) = true then accI c else [] := rfl
  cases hv : head c && okI c
  · rw [hv, if_neg (by decide)] at hd
    rw [hd]
    refine BRet.less ?_ PLe.tupNil
    refine bof Tryz.func19 ?_
    refine bgo ?_
    refine b_call (IsValidCase_b c) rfl rfl rfl rfl ?_
    rw [hv]
    refine bgo ?_
    trivial
  · have hf := head_fine hv
    rw [hv, if_pos rfl] at hd
    rw [hd]
    refine bof Tryz.func19 ?_
    refine bgo ?_
    refine b_call (IsValidCase_b c) rfl rfl rfl rfl ?_
    rw [hv]
    refine bgo ?_
    refine b_call (acceptedTheses_b c hf) rfl rfl rfl rfl ?_
    refine bgo ?_
    rfl
theorem specAcceptedTheses_b (c : Cs) : BRet Tryz.prog 20 [] [caseP c] (.tup [.own 30 2 (ths (accO c)), .bool (head c && okI c)]) [] := by
  have hd : accO c = if (head c && okI c) = true then accI c else [] := rfl
  cases hv : head c && okI c
  · rw [hv, if_neg (by decide)] at hd
    rw [hd]
    refine bof Tryz.func20 ?_
    refine bgo ?_
    refine b_call (good_b c) rfl rfl rfl rfl ?_
    rw [hv]
    refine bgo ?_
    rfl
  · have hf := head_fine hv
    rw [hv, if_pos rfl] at hd
    rw [hd]
    refine bof Tryz.func20 ?_
    refine bgo ?_
    refine b_call (good_b c) rfl rfl rfl rfl ?_
    rw [hv]
    refine bgo ?_
    refine b_call (accepted_b c hf) rfl rfl rfl rfl ?_
    refine bgo ?_
    rfl
theorem acc_len (c : Cs) (h : Fine c) : (accI c).length ≤ 1048576 := by
  obtain ⟨o, ho⟩ := Option.isSome_iff_exists.1 h.ord
  unfold accI
  rw [ho]
  have h1 := goO_len _ _ _ ho
  have h2 := srt_len (allN c)
  have h3 := h.n
  have h4 := accepted_len c o []
  simp only [List.length_nil, Nat.zero_add] at h1 h4
  show (o.foldl (stepI c) []).length ≤ _
  omega
theorem accO_len (c : Cs) (h : 0 ≤ szCs c 1048576) : (accO c).length ≤ 1048576 := by
  unfold accO
  split
  · rename_i hv; exact acc_len c (head_fine hv)
  · simp
def appI (acc : List Th) : List Ru → Nat → List Int
  | [], _ => []
  | r :: l, i => if appl acc r = true then (i : Int) :: appI acc l (i + 1) else appI acc l (i + 1)
theorem appI_len (acc : List Th) : ∀ (l : List Ru) (i : Nat), (appI acc l i).length ≤ l.length
  | [], _ => Nat.le_refl _
  | r :: l, i => by
    have := appI_len acc l (i + 1)
    unfold appI
    split <;> simp <;> omega
def appO (c : Cs) : List Int := if (head c && okI c) = true then appI (accI c) c.rs 0 else []
theorem appO_len (c : Cs) (h : 0 ≤ szCs c 1048576) : (appO c).length ≤ 1048576 := by
  have := (szCs_ok c h).2.1
  have := appI_len (accI c) c.rs 0
  unfold appO
  split
  · omega
  · simp
theorem ints_app (a b : List Int) : ints (a ++ b) = ints a ++ ints b := List.map_append
theorem ApplicableRules_b (c : Cs) : BRet Tryz.prog 37 [] [caseP c] (.tup [.own 3 1 (ints (appO c)), .bool (head c && okI c)]) [] := by
  have hd : appO c = if (head c && okI c) = true then appI (accI c) c.rs 0 else [] := rfl
  cases hv : head c && okI c
  · rw [hv, if_neg (by decide)] at hd
    rw [hd]
    refine BRet.less ?_ PLe.tupNil
    refine bof Tryz.func37 ?_
    refine bgo ?_
    refine b_call (IsValidCase_b c) rfl rfl rfl rfl ?_
    rw [hv]
    refine bgo ?_
    trivial
  · have hf := head_fine hv
    rw [hv, if_pos rfl] at hd
    have hhv : head c = true := by simp only [Bool.and_eq_true] at hv; exact hv.1
    have hrl : c.rs.length ≤ 10 := by simp only [head, Bool.and_eq_true, decide_eq_true_eq] at hhv; omega
    rw [hd]
    generalize hr : appI (accI c) c.rs 0 = res
    refine bof Tryz.func37 ?_
    refine bgo ?_
    refine b_call (IsValidCase_b c) rfl rfl rfl rfl ?_
    rw [hv]
    refine bgo ?_
    refine b_call (acceptedTheses_b c hf) rfl rfl rfl rfl ?_
    generalize accI c = acc at *
    refine bgo ?_
    refine b_lp (ι := Nat × List Int) (fun i => [(4, .d (.sl 2 (acc.map Th.e))), (5, .own 3 1 (ints i.2)), (15, .d (.sl 5 (c.rs.map Ru.e))), (16, .int c.rs.length), (17, .int i.1)]) (fun _ => []) (fun i => i.1 ≤ c.rs.length ∧ i.2 ++ appI acc (c.rs.drop i.1) i.1 = res ∧ i.2.length ≤ i.1) (fun i => c.rs.length - i.1) (0, []) hs ⟨Nat.zero_le _, hr, Nat.le_refl _⟩ ?_
    clear hr
    rintro ⟨k, out⟩ ⟨hk, hj, hl⟩ I nx
    dsimp only at hk hj hl ⊢
    by_cases hlt : k < c.rs.length
    · have hx : c.rs[k]? = some c.rs[k] := List.getElem?_eq_getElem hlt
      rw [List.drop_eq_getElem_cons hlt] at hj
      have hoa := ints_app out [(k : Int)]
      have hol : (ints out).length = out.length := by simp [ints]
      have hob : (out.length + 1) * 9 ≤ 140737488355328 := by omega
      have hap := isApplicable_b c.rs[k] acc
      cases ha : appl acc c.rs[k]
      · have hj2 : out ++ appI acc (c.rs.drop (k + 1)) (k + 1) = res := by rw [← hj, show appI acc (c.rs[k] :: c.rs.drop (k + 1)) k = appI acc (c.rs.drop (k + 1)) (k + 1) from if_neg (by simp [ha])]
        rw [ha] at hap
        clear hj hoa
        refine bgo ?_
        refine b_call hap rfl rfl rfl rfl ?_
        refine bgo ?_
        exact nx.go (k + 1, out) ⟨hlt, hj2, by dsimp only; omega⟩ (by dsimp only; omega) hs
      · have hj2 : (out ++ [(k : Int)]) ++ appI acc (c.rs.drop (k + 1)) (k + 1) = res := by rw [← hj, show appI acc (c.rs[k] :: c.rs.drop (k + 1)) k = (k : Int) :: appI acc (c.rs.drop (k + 1)) (k + 1) from if_pos ha]; simp
        rw [ha] at hap
        clear hj
        refine bgo ?_
        refine b_call hap rfl rfl rfl rfl ?_
        refine bgo ?_
        refine nx.go (k + 1, out ++ [(k : Int)]) ⟨hlt, hj2, by simp; omega⟩ (by dsimp only; omega) ?_
        exact ⟨⟨⟨PLe.rfl, rfl⟩, ⟨PLe.eq (congrArg (PV.own 3 1) hoa.symm), rfl⟩, ⟨PLe.rfl, rfl⟩, ⟨PLe.rfl, rfl⟩, ⟨PLe.rfl, rfl⟩, trivial⟩, trivial⟩
    · have hk' : k = c.rs.length := by omega
      subst hk'
      rw [List.drop_length] at hj
      replace hj : out = res := by simpa [appI] using hj
      subst hj
      refine bgo ?_
      refine wk_rfl ?_
      refine bgo ?_
      trivial
theorem specApplicableRules_b (c : Cs) : BRet Tryz.prog 38 [] [caseP c] (.tup [.own 3 1 (ints (appO c)), .bool (head c && okI c)]) [] := by
  have hd : appO c = if (head c && okI c) = true then appI (accI c) c.rs 0 else [] := rfl
  cases hv : head c && okI c
  · rw [hv, if_neg (by decide)] at hd
    rw [hd]
    refine bof Tryz.func38 ?_
    refine bgo ?_
    refine b_call (good_b c) rfl rfl rfl rfl ?_
    rw [hv]
    refine bgo ?_
    rfl
  · have hf := head_fine hv
    rw [hv, if_pos rfl] at hd
    have hhv : head c = true := by simp only [Bool.and_eq_true] at hv; exact hv.1
    have hrl : c.rs.length ≤ 10 := by simp only [head, Bool.and_eq_true, decide_eq_true_eq] at hhv; omega
    rw [hd]
    generalize hr : appI (accI c) c.rs 0 = res
    refine bof Tryz.func38 ?_
    refine bgo ?_
    refine b_call (good_b c) rfl rfl rfl rfl ?_
    rw [hv]
    refine bgo ?_
    refine b_call (accepted_b c hf) rfl rfl rfl rfl ?_
    generalize accI c = acc at *
    refine bgo ?_
    refine b_lp (ι := Nat × List Int) (fun i => [(1, .ptr (.t 1) 0), (4, .own 3 1 (ints i.2)), (5, .d (.sl 2 (acc.map Th.e))), (6, .int i.1)]) (fun _ => [(.t 1, caseDs c)]) (fun i => i.1 ≤ c.rs.length ∧ i.2 ++ appI acc (c.rs.drop i.1) i.1 = res ∧ i.2.length ≤ i.1) (fun i => c.rs.length - i.1) (0, []) hs ⟨Nat.zero_le _, hr, Nat.le_refl _⟩ ?_
    clear hr
    rintro ⟨k, out⟩ ⟨hk, hj, hl⟩ I nx
    dsimp only at hk hj hl ⊢
    by_cases hlt : k < c.rs.length
    · have hx : c.rs[k]? = some c.rs[k] := List.getElem?_eq_getElem hlt
      rw [List.drop_eq_getElem_cons hlt] at hj
      have hoa := ints_app out [(k : Int)]
      have hol : (ints out).length = out.length := by simp [ints]
      have hob : (out.length + 1) * 9 ≤ 140737488355328 := by omega
      have hap := l23Applies_b c.rs[k] acc
      cases ha : appl acc c.rs[k]
      · have hj2 : out ++ appI acc (c.rs.drop (k + 1)) (k + 1) = res := by rw [← hj, show appI acc (c.rs[k] :: c.rs.drop (k + 1)) k = appI acc (c.rs.drop (k + 1)) (k + 1) from if_neg (by simp [ha])]
        rw [ha] at hap
        clear hj hoa
        refine bgo ?_
        refine b_call hap rfl rfl rfl rfl ?_
        refine bgo ?_
        exact nx.go (k + 1, out) ⟨hlt, hj2, by dsimp only; omega⟩ (by dsimp only; omega) hs
      · have hj2 : (out ++ [(k : Int)]) ++ appI acc (c.rs.drop (k + 1)) (k + 1) = res := by rw [← hj, show appI acc (c.rs[k] :: c.rs.drop (k + 1)) k = (k : Int) :: appI acc (c.rs.drop (k + 1)) (k + 1) from if_pos ha]; simp
        rw [ha] at hap
        clear hj
        refine bgo ?_
        refine b_call hap rfl rfl rfl rfl ?_
        refine bgo ?_
        refine nx.go (k + 1, out ++ [(k : Int)]) ⟨hlt, hj2, by simp; omega⟩ (by dsimp only; omega) ?_
        exact ⟨⟨⟨PLe.rfl, rfl⟩, ⟨PLe.eq (congrArg (PV.own 3 1) hoa.symm), rfl⟩, ⟨PLe.rfl, rfl⟩, ⟨PLe.rfl, rfl⟩, trivial⟩, ⟨_, rfl, HasC.same rfl⟩, trivial⟩
    · have hk' : k = c.rs.length := by omega
      subst hk'
      rw [List.drop_length] at hj
      replace hj : out = res := by simpa [appI] using hj
      subst hj
      refine bgo ?_
      refine wk_rfl ?_
      refine bgo ?_
      trivial
theorem lawAcceptedTheses_b (c : Cs) : BRet Tryz.prog 11 [] [caseP c] (.bool true) [] := by
  refine bofM [13] Tryz.func11 ?_
  refine bgo ?_
  refine b_call (szCase_b c 1048576 (by decide) (by decide)) rfl rfl rfl rfl ?_
  by_cases h : szCs c 1048576 < 0
  · refine bgo ?_
    trivial
  have ho := szCs_ok c (by omega)
  obtain ⟨hm0, hm1⟩ := mkCs_less c (by omega)
  have hmz := markCase_z c 1 (by decide) hm1
  generalize mkCs c 1 = mk1 at *
  have hmn : ¬ mk1 < 0 := by omega
  have hi := AcceptedTheses_b c
  have hs' := specAcceptedTheses_b c
  have hlen := accO_len c (by omega)
  generalize accO c = l at *
  generalize (head c && okI c) = ok at *
  refine bgo ?_
  refine b_call (toCase_b c ho) rfl rfl rfl rfl ?_
  refine bgo ?_
  refine b_call hs' rfl rfl rfl rfl ?_
  refine bgo ?_
  refine b_look (toCase_q c ho) rfl rfl (fun B => .cons lend3d .nil) take3 ?_
  refine bgo ?_
  by_cases hl : l = []
  · subst hl
    refine b_look hi rfl rfl (fun B => .cons lend3q .nil) take0 ?_
    refine bgo ?_
    refine b_call (eqThesisS_s []) rfl rfl rfl rfl ?_
    refine bgo ?_
    refine b_call (toCase_b c ho) rfl rfl rfl rfl ?_
    refine bgo ?_
    refine b_look (eqCase_s c) rfl rfl (fun B => .cons lend3q (.cons lend3o .nil)) takeB ?_
    refine bgo ?_
    refine wk_unq [(1, .ptr (.t 1) 0), (4, .d (.sl 2 (ths []))), (5, .bool ok), (6, .ptr (.t 6) 0), (7, .d (.sl 2 [])), (8, .bool ok), (9, .int 1)] [(.t 1, caseDs c), (.t 6, caseZ c)] hs ?_
    refine bgo ?_
    refine b_writes hmz rfl rfl rfl rfl ?_
    refine bgo ?_
    refine b_call (eqThesisS_s []) rfl rfl rfl rfl ?_
    refine bgo ?_
    refine b_call (markThesisS_0 1 (by decide) (by decide)) rfl rfl rfl rfl ?_
    refine bgo ?_
    refine b_call (heldThesisS_0 1 (by decide) (by decide)) rfl rfl rfl rfl ?_
    refine bgo ?_
    refine b_call (toCase_b c ho) rfl rfl rfl rfl ?_
    refine bgo ?_
    refine b_call hi rfl rfl rfl rfl ?_
    refine bgo ?_
    refine b_call (eqThesisS_s []) rfl rfl rfl rfl ?_
    refine bgo ?_
    refine b_call (heldThesisS_0 1 (by decide) (by decide)) rfl rfl rfl rfl ?_
    refine bgo ?_
    trivial
  · have hmr := markThesisS_r l 1 (by decide) (by omega)
    have hhb := heldThesisS_b l.length 1 (by decide) (by omega)
    have hmk : (mkTh l.length 1).length = l.length := by simp [mkTh]
    generalize mkTh l.length 1 = m at *
    have hmn2 : ¬ ((1 : Int) + 2 * l.length < 0) := by omega
    have hll : (ths l).length = l.length := by simp [ths]
    refine b_boxed 99 hi .one rfl rfl rfl (fun B => .cons lend3q .nil) rfl (by simpa [ths] using hl) (ths_plain l) rfl ?_
    refine bgo ?_
    refine b_lookb (eqThesisS_s l) rfl rfl rfl (.cons (lendR rfl (by first | rfl | exact hll) (ths_one l)) (.cons lendD .nil)) takeB ?_
    refine bgo ?_
    refine b_call (toCase_b c ho) rfl rfl rfl rfl ?_
    refine bgo ?_
    refine b_look (eqCase_s c) rfl rfl (fun B => .cons lend3q (.cons lend3o .nil)) takeB ?_
    refine bgo ?_
    refine wk_unq [(1, .ptr (.t 1) 0), (4, .d (.sl 2 (ths l))), (5, .bool ok), (6, .ptr (.t 6) 0), (7, .rsv (.t 99) 2 l.length), (8, .bool ok), (9, .int 1)] [(.t 1, caseDs c), (.t 6, caseZ c), (.t 99, row (ths l))] ⟨⟨⟨PLe.rfl, rfl⟩, ⟨PLe.own, rfl⟩, ⟨PLe.rfl, rfl⟩, ⟨PLe.rfl, rfl⟩, ⟨PLe.eq (by first | rfl | exact congrArg (PV.rsv (.t 99) 2) hll), rfl⟩, ⟨PLe.rfl, rfl⟩, ⟨PLe.rfl, rfl⟩, trivial⟩, ⟨_, rfl, HasC.same rfl⟩, ⟨_, rfl, HasC.same rfl⟩, ⟨_, rfl, HasC.of (unq_row _) (row_ok _ _)⟩, trivial⟩ ?_
    refine bgo ?_
    refine b_writes hmz rfl rfl rfl rfl ?_
    refine bgo ?_
    refine b_lookb (eqThesisS_s l) rfl rfl rfl (.cons (lendR rfl (by simp [ths]) (ths_one l)) (.cons lendD .nil)) takeB ?_
    refine bgo ?_
    refine b_callr hmr rfl rfl (row_pass _) (row_gives _ trivial) rfl rfl rfl rfl rfl ?_
    refine bgo ?_
    refine b_lookb hhb rfl rfl rfl (.cons (lendR rfl (by simp [ths, hmk]) (ths_one m)) (.cons lendD .nil)) takeI ?_
    refine bgo ?_
    refine b_call (toCase_b c ho) rfl rfl rfl rfl ?_
    refine bgo ?_
    refine b_call hi rfl rfl rfl rfl ?_
    refine bgo ?_
    refine b_call (eqThesisS_s l) rfl rfl rfl rfl ?_
    refine bgo ?_
    refine b_lookb hhb rfl rfl rfl (.cons (lendR rfl (by simp [ths, hmk]) (ths_one m)) (.cons lendD .nil)) takeI ?_
    refine bgo ?_
    trivial
theorem lawApplicableRules_b (c : Cs) : BRet Tryz.prog 12 [] [caseP c] (.bool true) [] := by
  refine bofM [13] Tryz.func12 ?_
  refine bgo ?_
  refine b_call (szCase_b c 1048576 (by decide) (by decide)) rfl rfl rfl rfl ?_
  by_cases h : szCs c 1048576 < 0
  · refine bgo ?_
    trivial
  have ho := szCs_ok c (by omega)
  obtain ⟨hm0, hm1⟩ := mkCs_less c (by omega)
  have hmz := markCase_z c 1 (by decide) hm1
  generalize mkCs c 1 = mk1 at *
  have hmn : ¬ mk1 < 0 := by omega
  have hi := ApplicableRules_b c
  have hs' := specApplicableRules_b c
  have hlen := appO_len c (by omega)
  generalize appO c = l at *
  generalize (head c && okI c) = ok at *
  refine bgo ?_
  refine b_call (toCase_b c ho) rfl rfl rfl rfl ?_
  refine bgo ?_
  refine b_call hs' rfl rfl rfl rfl ?_
  refine bgo ?_
  refine b_look (toCase_q c ho) rfl rfl (fun B => .cons lend3d .nil) take3 ?_
  refine bgo ?_
  by_cases hl : l = []
  · subst hl
    refine b_look hi rfl rfl (fun B => .cons lend3q .nil) take0 ?_
    refine bgo ?_
    refine b_call (eqIntS_s []) rfl rfl rfl rfl ?_
    refine bgo ?_
    refine b_call (toCase_b c ho) rfl rfl rfl rfl ?_
    refine bgo ?_
    refine b_look (eqCase_s c) rfl rfl (fun B => .cons lend3q (.cons lend3o .nil)) takeB ?_
    refine bgo ?_
    refine wk_unq [(1, .ptr (.t 1) 0), (4, .d (.sl 1 (ints []))), (5, .bool ok), (6, .ptr (.t 6) 0), (7, .d (.sl 1 [])), (8, .bool ok), (9, .int 1)] [(.t 1, caseDs c), (.t 6, caseZ c)] hs ?_
    refine bgo ?_
    refine b_writes hmz rfl rfl rfl rfl ?_
    refine bgo ?_
    refine b_call (eqIntS_s []) rfl rfl rfl rfl ?_
    refine bgo ?_
    refine b_call (markIntS_0 1 (by decide) (by decide)) rfl rfl rfl rfl ?_
    refine bgo ?_
    refine b_call (heldIntS_0 1 (by decide) (by decide)) rfl rfl rfl rfl ?_
    refine bgo ?_
    refine b_call (toCase_b c ho) rfl rfl rfl rfl ?_
    refine bgo ?_
    refine b_call hi rfl rfl rfl rfl ?_
    refine bgo ?_
    refine b_call (eqIntS_s []) rfl rfl rfl rfl ?_
    refine bgo ?_
    refine b_call (heldIntS_0 1 (by decide) (by decide)) rfl rfl rfl rfl ?_
    refine bgo ?_
    trivial
  · have hmr := markIntS_r l 1 (by decide) (by omega)
    have hhb := heldIntS_b l.length 1 (by decide) (by omega)
    have hmk : (mkI l.length 1).length = l.length := by simp [mkI]
    generalize mkI l.length 1 = m at *
    have hmn2 : ¬ ((1 : Int) + l.length < 0) := by omega
    have hll : (ints l).length = l.length := by simp [ints]
    refine b_boxed 99 hi .one rfl rfl rfl (fun B => .cons lend3q .nil) rfl (by simpa [ints] using hl) (ints_plain l) rfl ?_
    refine bgo ?_
    refine b_lookb (eqIntS_s l) rfl rfl rfl (.cons (lendR rfl (by first | rfl | exact hll) (ints_one l)) (.cons lendD .nil)) takeB ?_
    refine bgo ?_
    refine b_call (toCase_b c ho) rfl rfl rfl rfl ?_
    refine bgo ?_
    refine b_look (eqCase_s c) rfl rfl (fun B => .cons lend3q (.cons lend3o .nil)) takeB ?_
    refine bgo ?_
    refine wk_unq [(1, .ptr (.t 1) 0), (4, .d (.sl 1 (ints l))), (5, .bool ok), (6, .ptr (.t 6) 0), (7, .rsv (.t 99) 1 l.length), (8, .bool ok), (9, .int 1)] [(.t 1, caseDs c), (.t 6, caseZ c), (.t 99, row (ints l))] ⟨⟨⟨PLe.rfl, rfl⟩, ⟨PLe.own, rfl⟩, ⟨PLe.rfl, rfl⟩, ⟨PLe.rfl, rfl⟩, ⟨PLe.eq (by first | rfl | exact congrArg (PV.rsv (.t 99) 1) hll), rfl⟩, ⟨PLe.rfl, rfl⟩, ⟨PLe.rfl, rfl⟩, trivial⟩, ⟨_, rfl, HasC.same rfl⟩, ⟨_, rfl, HasC.same rfl⟩, ⟨_, rfl, HasC.of (unq_row _) (row_ok _ _)⟩, trivial⟩ ?_
    refine bgo ?_
    refine b_writes hmz rfl rfl rfl rfl ?_
    refine bgo ?_
    refine b_lookb (eqIntS_s l) rfl rfl rfl (.cons (lendR rfl (by simp [ints]) (ints_one l)) (.cons lendD .nil)) takeB ?_
    refine bgo ?_
    refine b_callr hmr rfl rfl (row_pass _) (row_gives _ trivial) rfl rfl rfl rfl rfl ?_
    refine bgo ?_
    refine b_lookb hhb rfl rfl rfl (.cons (lendR rfl (by simp [ints, hmk]) (ints_one m)) (.cons lendD .nil)) takeI ?_
    refine bgo ?_
    refine b_call (toCase_b c ho) rfl rfl rfl rfl ?_
    refine bgo ?_
    refine b_call hi rfl rfl rfl rfl ?_
    refine bgo ?_
    refine b_call (eqIntS_s l) rfl rfl rfl rfl ?_
    refine bgo ?_
    refine b_lookb hhb rfl rfl rfl (.cons (lendR rfl (by simp [ints, hmk]) (ints_one m)) (.cons lendD .nil)) takeI ?_
    refine bgo ?_
    trivial
end Go.Bee.Ar

/- slices.Delete at []impl.Thesis, one item, in its place. No condition. -/
namespace Go.Bee.C23s
open Go Go.Bee Go.Proofs Go.Bee.Ty Go.Bee.C23 Go.RowKit Go.Lib
set_option linter.unusedVariables false
theorem info_th : (Tryz.prog.info? 30).map (fun i => (i.zero, i.size, i.bytes)) = some (some (.agg #[.string ⟨#[]⟩, .bool false]), 2, 24) := by kernel_rfl
theorem und_ths : Tryz.prog.underlying 24 = some (.slice 30) := by kernel_rfl
theorem clear_th (w : World) (ty : TypeId) (b o c : Nat) (hc : ∀ j, j < 2 → (w.cell? ⟨b, o + j, none⟩).isSome = true) (hf : ∀ j, j < 2 → w.frozen? ⟨b, o + j, none⟩ = false) :
    (Builtin.clear_ #[24] ty #[.slice (some ⟨b, o, none⟩) 1 c]).run Tryz.prog w = .ok (.tuple #[]) (w.setCells b o [.string ⟨#[]⟩, .bool false]) := by
  obtain ⟨i, hi, hz, -, -⟩ := info_parts info_th
  have hv : ∀ w, (zeroValue 30).run Tryz.prog w = .ok (.agg #[.string ⟨#[]⟩, .bool false]) w := fun w => by simp [zeroValue, typeInfo, hi, hz]
  have hst := run_storeCells_cells (P := Tryz.prog) b o [.string ⟨#[]⟩, .bool false] 0 w (by simpa using hc) (by simpa using hf) (by intro v hv'; simp at hv'; rcases hv' with rfl | rfl <;> rfl)
  simp only [Nat.add_zero] at hst
  have hzc : (Builtin.zeroCells (Value.agg #[.string ⟨#[]⟩, .bool false]).cells 1).toList = [.string ⟨#[]⟩, .bool false] := by first | kernel_rfl | (simp [Builtin.zeroCells, Value.cells]; rfl) | simp [Builtin.zeroCells, Value.cells, Array.range]
  simp [Builtin.clear_, run_underlying und_ths, hv, hzc, hst]
set_option maxHeartbeats 4000000 in
set_option maxRecDepth 1000000 in
theorem del_raw (g off c n i j : Nat) (news : List Value) (w : World) (hij : i < j) (hj : j ≤ n) (hj1 : n - (i + (n - j)) = 1) (hnc : n ≤ c)
    (hl : news.length = (n - j) * 2) (h1 : ∀ u ∈ news, u.oneCell' = true) (hsrc : ∀ t u, news[t]? = some u → w.cell? ⟨g, off + j * 2 + t, none⟩ = some u)
    (hcell : ∀ t, t < n * 2 → (w.cell? ⟨g, off + t, none⟩).isSome = true ∧ w.frozen? ⟨g, off + t, none⟩ = false) :
    Calls Tryz.prog 81 #[.slice (some ⟨g, off, none⟩) n c, .int .i64 i, .int .i64 j] w fun e w' => e = .returned (.slice (some ⟨g, off, none⟩) (i + (n - j)) c) ∧
      w' = (w.drew.setCells g (off + i * 2) news).setCells g (off + (i + (n - j)) * 2) [.string ⟨#[]⟩, .bool false] := by
  obtain ⟨i0, hi0, hz0, hz1, hz2⟩ := info_parts info_th
  obtain ⟨A, hA, hsrc'⟩ : ∃ A : Addr, (if c = j then some (⟨g, off, none⟩ : Addr) else some ⟨g, off + j * 2, none⟩) = some A ∧ Hid (∀ t u, news[t]? = some u → w.drew.cell? (A.add t) = some u) := by
    by_cases h : c = j
    · refine ⟨⟨g, off, none⟩, by simp [h], fun t u hu => ?_⟩
      have h0 : news.length = 0 := by rw [hl]; have : n - j = 0 := by omega
                                      rw [this]
      rw [List.length_eq_zero_iff.1 h0] at hu
      simp at hu
    · refine ⟨⟨g, off + j * 2, none⟩, by simp [h], fun t u hu => ?_⟩
      rw [Addr.add_lit]
      exact hsrc t u hu
  have s1 : Hid (news.length = (n - j) * 2) := hl
  have s2 : Hid (∀ u ∈ news, u.oneCell' = true) := h1
  have s3 : Hid (∀ t, t < news.length → (w.drew.cell? ⟨g, off + i * 2 + t, none⟩).isSome = true ∧ w.drew.frozen? ⟨g, off + i * 2 + t, none⟩ = false) := by
    intro t ht
    rw [hl] at ht
    rw [Nat.add_assoc]
    exact hcell (i * 2 + t) (by omega)
  obtain ⟨W1, hW1⟩ : ∃ W1, W1 = w.drew.setCells g (off + i * 2) news := ⟨_, rfl⟩
  have hcl : ∀ ty, (Builtin.clear_ #[24] ty #[.slice (some ⟨g, off + (i + (n - j)) * 2, none⟩) 1 (c - (i + (n - j)))]).run Tryz.prog W1 = .ok (.tuple #[]) (W1.setCells g (off + (i + (n - j)) * 2) [.string ⟨#[]⟩, .bool false]) := fun ty => by
    refine clear_th W1 ty g _ _ (fun t ht => ?_) (fun t ht => ?_)
    · rw [hW1, Nat.add_assoc]
      rcases Nat.lt_or_ge ((i + (n - j)) * 2 + t) (i * 2) with h2 | h2
      · omega
      · rw [World.cell?_setCells_out]
        · exact (hcell _ (by omega)).1
        · intro _ _; right; simp only [hl]; omega
    · rw [hW1, World.frozen?_setCells, Nat.add_assoc]
      exact (hcell _ (by omega)).2
  have hW : Hid (W1 = w.drew.setCells g (off + i * 2) news) := hW1
  have hic : i ≤ c := by omega
  have hjc : j ≤ c := by omega
  clear hW1 hsrc hcell h1 hl
  go_enter Tryz.func81, Tryz.ntmps81
  go_wp2_with fail
  go_region_law (refine step_append_room rfl (.tmp 22) (.tmp 25) 24 rfl 30 i0 2 und_ths hi0 hz1 g off i c (by simp [Act.eval, Act.put]) A (n - j) (c - j) news (by simp [Act.eval, Act.put]) s1.out hsrc'.out s2.out (by omega) s3.out ?_; rw [← hW.out])
  go_wp2
  go_ret
  refine ⟨rfl, ?_⟩
  rw [← hW.out]
theorem setCells_heap (g : Nat) : ∀ (vs : List Value) (o : Nat) (w : World) (cs : Array Value) (e : TypeId), w.heap[g]? = some (.cells cs e (0, 0)) →
    ∃ cs', (w.setCells g o vs).heap[g]? = some (.cells cs' e (0, 0)) ∧ cs'.size = cs.size
  | [], o, w, cs, e, h => ⟨cs, h, rfl⟩
  | v :: r, o, w, cs, e, h => by
    obtain ⟨cs', h1, h2⟩ := setCells_heap g r (o + 1) (w.setCell ⟨g, o, none⟩ v) (cs.setIfInBounds o v) e (by simp [World.setCell, Array.getElem?_modify, h])
    exact ⟨cs', h1, by simpa using h2⟩
theorem setCells_size (g : Nat) : ∀ (vs : List Value) (o : Nat) (w : World), (w.setCells g o vs).heap.size = w.heap.size
  | [], o, w => rfl
  | v :: r, o, w => by rw [World.setCells, setCells_size g r]; simp [World.setCell]
theorem setCells_other (g : Nat) : ∀ (vs : List Value) (o : Nat) (w : World) (b : Nat), b ≠ g → (w.setCells g o vs).heap[b]? = w.heap[b]?
  | [], o, w, b, h => rfl
  | v :: r, o, w, b, h => by rw [World.setCells, setCells_other g r _ _ b h]; simp [World.setCell, Array.getElem?_modify, Ne.symm h]
theorem setCells_rest (g : Nat) : ∀ (vs : List Value) (o : Nat) (w : World), (w.setCells g o vs).os = w.os ∧ (w.setCells g o vs).tape = w.tape ∧ (w.setCells g o vs).output = w.output
  | [], o, w => ⟨rfl, rfl, rfl⟩
  | v :: r, o, w => setCells_rest g r (o + 1) (w.setCell ⟨g, o, none⟩ v)
theorem th_cells (l : List Th) : (flat (l.map Th.e)).length = l.length * 2 := by rw [flat_length (sz := 2)]; simp; intro e he; obtain ⟨t, -, rfl⟩ := List.mem_map.1 he; rfl
theorem th_scalar (l : List Th) : ∀ x ∈ flat (l.map Th.e), x.scalar = true ∧ x.plain = true := by
  intro x hx
  unfold flat at hx
  obtain ⟨y, hy, hx⟩ := List.mem_flatMap.1 hx
  obtain ⟨t, -, rfl⟩ := List.mem_map.1 hy
  simp [Th.e, PD.cells] at hx
  rcases hx with rfl | rfl <;> exact ⟨rfl, rfl⟩
/-- What the cells hold behind it. -/
def delRow (l : List Th) (i : Nat) : List PD := flat ((l.eraseIdx i).map Th.e) ++ [.str [], .bool false]
theorem delRow_eq (l : List Th) (i : Nat) (hi : i < l.length) : delRow l i = (flat (l.map Th.e)).take (i * 2) ++ (flat (l.map Th.e)).drop ((i + 1) * 2) ++ [.str [], .bool false] := by
  have hu : ∀ e ∈ l.map Th.e, e.cells.length = 2 := by intro e he; obtain ⟨t, -, rfl⟩ := List.mem_map.1 he; rfl
  rw [delRow, flat_take hu, flat_drop hu, ← flat_append, ← List.map_take, ← List.map_drop, ← List.map_append, List.eraseIdx_eq_take_drop_succ]
theorem delThesis_b (l : List Th) (i : Nat) (hi : i < l.length) : BRet Tryz.prog 81 [(flat (l.map Th.e)).map .d] [.rsv (.a 0) 2 l.length, .int (i : Nat), .int ((i + 1 : Nat) : Int)] (.rsv (.a 0) 2 (l.length - 1)) [(delRow l i).map .d] := by
  refine ⟨by kernel_rfl, rfl, fun G w vs Wr hvs hargs hp hown hbox hfz hfm htb => ?_⟩
  have hv0 := hargs 0 _ (vs[0]'(by simp at hvs; omega)) rfl (Array.getElem?_eq_getElem _)
  have hv1 := hargs 1 _ (vs[1]'(by simp at hvs; omega)) rfl (Array.getElem?_eq_getElem _)
  have hv2 := hargs 2 _ (vs[2]'(by simp at hvs; omega)) rfl (Array.getElem?_eq_getElem _)
  obtain ⟨c, hc1, hc2, hlive, hc4⟩ := hv0
  have hvs' : vs = #[.slice (some ⟨G.β (.a 0), 0, none⟩) l.length c, .int .i64 i, .int .i64 ((i + 1 : Nat) : Int)] := by
    have e1 : vs[1]'(by simp at hvs; omega) = .int .i64 i := by obtain ⟨h, -⟩ := hv1; generalize vs[1]'(by simp at hvs; omega) = q at h; cases h; rfl
    have e2 : vs[2]'(by simp at hvs; omega) = .int .i64 ((i + 1 : Nat) : Int) := by obtain ⟨h, -⟩ := hv2; generalize vs[2]'(by simp at hvs; omega) = q at h; cases h; rfl
    apply Array.ext (by simpa using hvs)
    intro j h1 h2
    have : j < 3 := by simpa using h2
    match j, this with
    | 0, _ => exact hc2
    | 1, _ => exact e1
    | 2, _ => exact e2
  subst hvs'
  generalize hgg : G.β (.a 0) = g at *
  obtain ⟨cs, e, hg, hsz, hone, hrep⟩ := hp.bx (.a 0) ((flat (l.map Th.e)).map .d) (by simp [bxOf])
  rw [hgg] at hg
  have hn := th_cells l
  simp only [List.length_map, hn] at hsz hone
  have hcell : ∀ t, w.cell? ⟨g, 0 + t, none⟩ = cs[t]? := fun t => by rw [Nat.zero_add]; simp [World.cell?, hg]
  have hcellD : ∀ (W : World), W.heap = w.heap → ∀ t, W.cell? ⟨g, t, none⟩ = cs[t]? := fun W hW t => by simp [World.cell?, hW, hg]
  obtain ⟨news, hnews⟩ : ∃ news, news = (cs.toList.drop ((i + 1) * 2)).take ((l.length - (i + 1)) * 2) := ⟨_, rfl⟩
  have hnl : news.length = (l.length - (i + 1)) * 2 := by rw [hnews]; simp; omega
  have hnget : ∀ t, t < (l.length - (i + 1)) * 2 → news[t]? = cs[(i + 1) * 2 + t]? := fun t ht => by
    rw [hnews, List.getElem?_take_of_lt ht, List.getElem?_drop, Array.getElem?_toList]
  have hmem : ∀ u ∈ news, u.oneCell' = true := fun u hu => by
    obtain ⟨t, ht, rfl⟩ := List.mem_iff_getElem.1 hu
    have h1 := hnget t (by omega)
    rw [List.getElem?_eq_getElem ht] at h1
    exact hone ((i + 1) * 2 + t) _ (by omega) h1.symm
  refine Calls.mono (del_raw g 0 c l.length i (i + 1) news w (by omega) (by omega) (by omega) hc1 hnl hmem (fun t u hu => ?_) (fun t ht => ⟨?_, ?_⟩)) ?_
  · rw [Nat.add_assoc, hcell, ← hnget t (by have := (List.getElem?_eq_some_iff.1 hu).1; omega)]; exact hu
  · rw [hcell, Array.getElem?_eq_getElem (by omega)]; rfl
  · simp [World.frozen?, hg]
  rintro e' w' ⟨rfl, hw'⟩
  have hlen' : i + (l.length - (i + 1)) = l.length - 1 := by omega
  rw [hlen'] at hw' ⊢
  simp only [Nat.zero_add] at hw'
  obtain ⟨cs1, k1, k2⟩ := setCells_heap g news (i * 2) w.drew cs e hg
  obtain ⟨cs2, k3, k4⟩ := setCells_heap g [.string ⟨#[]⟩, .bool false] ((l.length - 1) * 2) _ cs1 e k1
  rw [← hw'] at k3
  have hother : ∀ b, b ≠ g → w'.heap[b]? = w.heap[b]? := fun b hb => by rw [hw', setCells_other g _ _ _ b hb, setCells_other g _ _ _ b hb]; rfl
  have hsize : w'.heap.size = w.heap.size := by rw [hw', setCells_size, setCells_size]; rfl
  have hrest : w'.os = w.os ∧ w'.tape = w.tape ∧ w'.output = w.output := by
    rw [hw']
    obtain ⟨a1, a2, a3⟩ := setCells_rest g [.string ⟨#[]⟩, .bool false] ((l.length - 1) * 2) (w.drew.setCells g (i * 2) news)
    obtain ⟨b1, b2, b3⟩ := setCells_rest g news (i * 2) w.drew
    exact ⟨a1.trans b1, a2.trans b2, a3.trans b3⟩
  have hsome1 : ∀ t, t < l.length * 2 → ((w.drew.setCells g (i * 2) news).cell? ⟨g, t, none⟩).isSome = true := fun t ht => by
    simp only [World.cell?, k1]
    rw [Array.getElem?_eq_getElem (by omega)]; rfl
  have hc2' : ∀ t, w'.cell? ⟨g, t, none⟩ = cs2[t]? := fun t => by simp [World.cell?, k3]
  -- the cells behind it
  have hA : ∀ t, t < i * 2 → cs2[t]? = cs[t]? := fun t ht => by
    rw [← hc2', hw', World.cell?_setCells_out g _ _ _ _ (fun _ _ => .inl (by simp; omega)), World.cell?_setCells_out g _ _ _ _ (fun _ _ => .inl (by simp; omega))]
    exact hcellD _ rfl t
  have hB : ∀ t, t < (l.length - (i + 1)) * 2 → cs2[i * 2 + t]? = cs[(i + 1) * 2 + t]? := fun t ht => by
    rw [← hc2', hw', World.cell?_setCells_out g _ _ _ _ (fun _ _ => .inl (by simp; omega)), World.cell?_setCells_in g _ _ _ (fun j hj => by rw [hcellD w.drew rfl, Array.getElem?_eq_getElem (by omega)]; rfl) t (by omega), ← hnget t ht]
    exact (List.getElem?_eq_getElem _).symm
  have hC : ∀ t (ht : t < 2), cs2[(l.length - 1) * 2 + t]? = some ([Value.string ⟨#[]⟩, .bool false][t]'(by simpa using ht)) := fun t ht => by
    rw [← hc2', hw']
    exact World.cell?_setCells_in g _ _ _ (fun j hj => hsome1 _ (by simp at hj; omega)) t (by simpa using ht)
  have hrepS : ∀ t x u, (flat (l.map Th.e))[t]? = some x → cs[t]? = some u → RepC Tryz.prog G w' (.b (.a 0), 0, 0) (.d x) u := fun t x u hx hu => by
    have h1 := hrep t (.d x) u (by rw [List.getElem?_map, hx]; rfl) hu
    obtain ⟨h3, h4⟩ := th_scalar l x (List.mem_of_getElem? hx)
    exact ⟨plain_sc h4 h3 h1.1, h3⟩
  have hdl : (delRow l i).length = l.length * 2 := by
    rw [delRow, List.length_append, th_cells, List.length_eraseIdx_of_lt hi]; simp; omega
  have hkind : ∀ b, b ≠ g → KindSame w w' b := fun b hb => .of_heap (hother b hb)
  refine ⟨_, G, rfl, ⟨c, by omega, by rw [hgg], hlive, by omega⟩, ⟨fun b cells hb => ?_, fun b => ?_, hp.inj, fun k o hk => by rw [hsize]; exact hp.imlt k o hk, fun k p hk => by rw [hsize]; exact hp.ownlt k p hk, hp.boxim, hp.boxown⟩, ⟨hrest.1, hrest.2.1, hrest.2.2, by rw [hsize]; exact Nat.le_refl _, fun b hb hw => hother b (fun h => hw (by rw [h, ← hgg]; exact hbox _ hlive)), fun b o hb => ⟨hb, ?_⟩, fun b o hb => .inl hb⟩, fun k => rfl, fun k p hk => .inr (hown k p hk), fun k hk => ?_⟩
  · have hb0 : b = .a 0 ∧ cells = (delRow l i).map .d := by
      cases b with
      | t n => simp [bxOf] at hb
      | a k => cases k with
        | zero => simp [bxOf] at hb; exact ⟨rfl, hb.symm⟩
        | succ k => simp [bxOf] at hb
    obtain ⟨rfl, rfl⟩ := hb0
    have hpt : ∀ (j : Nat) x u, (delRow l i)[j]? = some x → cs2[j]? = some u → RepC Tryz.prog G w' (.b (.a 0), 0, 0) (.d x) u := fun j x u hx hu => by
      have hj : j < l.length * 2 := by rw [← hdl]; exact (List.getElem?_eq_some_iff.1 hx).1
      rw [delRow_eq l i hi] at hx
      have hi2 : i * 2 ≤ l.length * 2 := by omega
      rcases Nat.lt_or_ge j (i * 2) with h1 | h1
      · rw [List.append_assoc, List.getElem?_append_left (by simp [hn]; omega), List.getElem?_take_of_lt h1] at hx
        rw [hA j h1] at hu
        exact hrepS j x u hx hu
      · rcases Nat.lt_or_ge j ((l.length - 1) * 2) with h2 | h2
        · obtain ⟨t, rfl⟩ : ∃ t, j = i * 2 + t := ⟨j - i * 2, by omega⟩
          rw [List.append_assoc, List.getElem?_append_right (by simp [hn]; omega), List.getElem?_append_left (by simp [hn]; omega), List.getElem?_drop] at hx
          rw [hB t (by omega)] at hu
          have e1 : (i * 2 + t) - ((flat (l.map Th.e)).take (i * 2)).length = t := by simp [hn]; omega
          rw [e1] at hx
          exact hrepS _ x u hx hu
        · obtain ⟨t, rfl⟩ : ∃ t, j = (l.length - 1) * 2 + t := ⟨j - (l.length - 1) * 2, by omega⟩
          have ht : t < 2 := by omega
          rw [hC t ht] at hu
          rw [List.getElem?_append_right (by simp [hn]; omega)] at hx
          have e1 : (l.length - 1) * 2 + t - ((flat (l.map Th.e)).take (i * 2) ++ (flat (l.map Th.e)).drop ((i + 1) * 2)).length = t := by simp [hn]; omega
          rw [e1] at hx
          match t, ht with
          | 0, _ => simp at hx hu; subst hx; subst hu; exact ⟨.str [] (by simp), rfl⟩
          | 1, _ => simp at hx hu; subst hx; subst hu; exact ⟨.bool false, rfl⟩
    refine ⟨cs2, e, by rw [hgg]; exact k3, by rw [List.length_map, hdl]; omega, fun j u hj hu => ?_, fun j x u hx hu => ?_⟩
    · rw [List.length_map] at hj
      have := hpt j _ u (List.getElem?_eq_getElem hj) hu
      exact this.1.oneCell this.2
    · rw [List.getElem?_map] at hx
      obtain ⟨z, hz, rfl⟩ := Option.map_eq_some_iff.1 hx
      exact hpt j z u hz hu
  · rw [hp.live b]
    cases b with
    | t n => simp [bxOf]
    | a k => cases k <;> simp [bxOf]
  · have hb1 := hother b (fun h => hp.boxim _ hlive o (by rw [hgg, ← h]; exact hb))
    exact cell_of_heap hb1 o
  · have hk1 : k ≠ g := fun h => hk.2.2.1 _ hlive (by rw [hgg, h])
    exact ⟨hkind k hk1, by rw [hother k hk1]; exact hk.1, hk.2.1, hk.2.2.2.1⟩
end Go.Bee.C23s

/- Chapter 23: decisive facts: the code, the model and their law. -/
namespace Go.Bee.Df
open Go Go.Bee Go.Proofs Go.Bee.Ty Go.Bee.C23 Go.Bee.C23s Go.Bee.C23a Go.Bee.Mt Go.Bee.Mr Go.Bee.Cq Go.Bee.Ml Go.Bee.Ar
theorem tys : type_of% Go.Bee.Ar.tys := Go.Bee.Ar.tys
end Go.Bee.Df
namespace Go.Bee.Df
open Go Go.Bee Go.Proofs Go.Bee.Ty Go.Bee.C23 Go.Bee.C23s Go.Bee.C23a Go.Bee.Mt Go.Bee.Mr Go.Bee.Cq Go.Bee.Ml Go.Bee.Ar
set_option linter.unusedVariables false
set_option maxRecDepth 20000
attribute [local irreducible] Go.Bee.bwp
def lessI (c : Cs) (i : Nat) : Cs := less c (c.fs.eraseIdx i)
def decB (c : Cs) (n : List UInt8) (i : Nat) : Bool := decide (¬ statusF (accI (lessI c i)) n = statusF (accI c) n)
def decG (p : Nat → Bool) : Nat → Nat → List Int
  | 0, _ => []
  | m + 1, k => if p k = true then (k : Int) :: decG p m (k + 1) else decG p m (k + 1)
theorem decG_len (p : Nat → Bool) : ∀ (m k : Nat), (decG p m k).length ≤ m
  | 0, _ => Nat.le_refl _
  | m + 1, k => by
    have := decG_len p m (k + 1)
    unfold decG
    split <;> simp <;> omega
def dcf (c : Cs) (n : List UInt8) : List Int := if (head c && okI c && vName n) = true then decG (decB c n) c.fs.length 0 else []
theorem dcf_len (c : Cs) (n : List UInt8) (h : 0 ≤ szCs c 1048576) : (dcf c n).length ≤ 1048576 := by
  have := (szCs_ok c h).1
  have := decG_len (decB c n) c.fs.length 0
  unfold dcf
  split
  · omega
  · simp
theorem lessI_fine {c : Cs} (h : Fine c) (i : Nat) : Fine (lessI c i) := less_fine h (fun t ht => List.mem_of_mem_eraseIdx ht) (List.length_eraseIdx_le _ _)
theorem fs_few {c : Cs} (h : head c = true) : c.fs.length ≤ 12 := by
  simp only [head, Bool.and_eq_true] at h
  have := (thOk_all h.1.1.1.1.1).1
  omega
theorem ths_erase (l : List Th) (k : Nat) : (l.map Th.e).take k ++ (l.map Th.e).drop (k + 1) = (l.eraseIdx k).map Th.e := by
  rw [List.eraseIdx_eq_take_drop_succ, List.map_append, List.map_take, List.map_drop]
theorem ths_two (l : List Th) : ∀ x ∈ l.map Th.e, x.cells.length = 2 := fun x hx => by obtain ⟨t, _, rfl⟩ := List.mem_map.1 hx; rfl
theorem unb_row (l : List PD) (b : BN) (y : PD) (n : Nat) : ((l.map PV.d).map (PV.unbC b y n)).map (PV.killC b) = l.map PV.d := by
  rw [List.map_map, List.map_map]; rfl
theorem DecisiveFacts_b (c : Cs) (n : List UInt8) : BRet Tryz.prog 32 [] [caseP c, .str n] (.tup [.own 3 1 (ints (dcf c n)), .bool (head c && okI c && vName n)]) [] := by
  have hd : dcf c n = if (head c && okI c && vName n) = true then decG (decB c n) c.fs.length 0 else [] := rfl
  cases hv : head c && okI c
  · rw [hv, Bool.false_and, if_neg (by decide)] at hd
    rw [hd, Bool.false_and]
    refine BRet.less ?_ PLe.tupNil
    refine bof Tryz.func32 ?_
    refine bgo ?_
    refine b_call (IsValidCase_b c) rfl rfl rfl rfl ?_
    rw [hv]
    refine bgo ?_
    trivial
  rw [hv, Bool.true_and] at hd
  rw [Bool.true_and]
  cases hn : vName n
  · rw [hn, if_neg (by decide)] at hd
    rw [hd]
    refine BRet.less ?_ PLe.tupNil
    refine bof Tryz.func32 ?_
    refine bgo ?_
    refine b_call (IsValidCase_b c) rfl rfl rfl rfl ?_
    rw [hv]
    refine bgo ?_
    refine b_call (IsValidName_b n) rfl rfl rfl rfl ?_
    rw [hn]
    refine bgo ?_
    trivial
  have hf := head_fine hv
  have hhv : head c = true := by simp only [Bool.and_eq_true] at hv; exact hv.1
  have hfl := fs_few hhv
  rw [hn, if_pos rfl] at hd
  rw [hd]
  generalize hr : decG (decB c n) c.fs.length 0 = res
  refine bofM [9] Tryz.func32 ?_
  refine bgo ?_
  refine b_call (IsValidCase_b c) rfl rfl rfl rfl ?_
  rw [hv]
  refine bgo ?_
  refine b_call (IsValidName_b n) rfl rfl rfl rfl ?_
  rw [hn]
  refine bgo ?_
  refine b_lp (ι := Nat × List Int × List PD) (fun i => [(1, .str n), (2, .ptr (.t 2) 0), (6, .own 3 1 (ints i.2.1)), (7, .ptr (.t 7) 0), (21, .int c.fs.length), (22, .int i.1)])
    (fun i => [(.t 2, caseDs c), (.t 7, [.d (.sl 2 i.2.2), .d (.sl 5 (c.rs.map Ru.e)), .d (.sl 2 (c.ss.map Sd.e))])]) (fun i => i.1 ≤ c.fs.length ∧ i.2.1 ++ decG (decB c n) (c.fs.length - i.1) i.1 = res ∧ i.2.1.length ≤ i.1) (fun i => c.fs.length - i.1) (0, [], c.fs.map Th.e) hs ⟨Nat.zero_le _, hr, Nat.le_refl _⟩ ?_
  clear hr
  rintro ⟨k, out, fs'⟩ ⟨hk, hj, hl⟩ I nx
  dsimp only at hk hj hl ⊢
  by_cases hlt : k < c.fs.length
  · have hne : c.fs.map Th.e ≠ [] := fun e => by rw [List.map_eq_nil_iff.1 e] at hlt; exact absurd hlt (Nat.not_lt_zero _)
    have hll : (c.fs.map Th.e).length = c.fs.length := List.length_map ..
    rw [show c.fs.length - k = (c.fs.length - (k + 1)) + 1 by omega] at hj
    have hdl := delThesis_b c.fs k hlt
    have hel : ((c.fs.eraseIdx k).map Th.e).length = c.fs.length - 1 := by rw [List.length_map, List.length_eraseIdx_of_lt hlt]
    have hfi := lessI_fine hf k
    have hib : (k : Int) + 1 ≤ 1000 := by omega
    refine bgo ?_
    refine b_boxed1 99 (cloneThesis_b c.fs (by omega)) .one rfl rfl rfl (fun B => .cons lendD .nil) hne (th_plain c.fs) rfl ?_
    refine bgo ?_
    refine b_redo (ys := [.int .i64 k, .int .i64 ((k : Int) + 1)]) hdl (by first | rfl | exact congrArg (PV.rsv (.t 99) 2) hll) rfl (th_plain c.fs) rfl rfl rfl (fun y hy => by simp at hy; rcases hy with rfl | rfl <;> rfl) (fun y hy => ?_) ?_
    · unfold delRow at hy
      rcases List.mem_append.1 hy with h | h
      · exact th_plain _ y h
      · simp at h; rcases h with rfl | rfl <;> rfl
    refine bgo ?_
    refine wk_unb (.t 99) 2 (c.fs.length - 1) ((c.fs.eraseIdx k).map Th.e) [.str [], .bool false] (by unfold delRow; rw [List.map_append]; rfl) hel (ths_two _) (by omega)
      [(1, .str n), (2, .ptr (.t 2) 0), (6, .own 3 1 (ints out)), (7, .ptr (.t 7) 0), (8, .int k), (21, .int c.fs.length), (22, .int k)] [(.t 2, caseDs c), (.t 7, caseDs (lessI c k))] ⟨hsT, ⟨_, rfl, HasC.of (by rfl) rfl⟩, ⟨_, rfl, HasC.of (by simp [PV.unbC, PV.killC, lessI, less, caseDs]) rfl⟩, trivial⟩ ?_
    have hs1 := statusOf_b (lessI c k) n hfi
    have hs2 := statusOf_b c n hf
    clear hdl
    by_cases he : statusF (accI (lessI c k)) n = statusF (accI c) n
    · have hp : decB c n k = false := decide_eq_false (fun h => h he)
      have hj2 : out ++ decG (decB c n) (c.fs.length - (k + 1)) (k + 1) = res := by unfold decG at hj; rw [hp, if_neg (by decide)] at hj; exact hj
      rw [he] at hs1
      generalize statusF (accI c) n = x at *
      clear hj he
      refine bgo ?_
      refine b_call hs1 rfl rfl rfl rfl ?_
      refine bgo ?_
      refine b_call hs2 rfl rfl rfl rfl ?_
      refine bgo ?_
      exact nx.go (k + 1, out, (c.fs.eraseIdx k).map Th.e) ⟨hlt, hj2, by dsimp only; omega⟩ (by dsimp only; omega) hs
    · have hp : decB c n k = true := decide_eq_true he
      have hj2 : (out ++ [(k : Int)]) ++ decG (decB c n) (c.fs.length - (k + 1)) (k + 1) = res := by unfold decG at hj; rw [hp, if_pos rfl] at hj; rw [← hj, List.append_assoc]; rfl
      have hoa := ints_app out [(k : Int)]
      have hol : (ints out).length = out.length := by simp [ints]
      have hob : (out.length + 1) * 9 ≤ 140737488355328 := by omega
      generalize statusF (accI (lessI c k)) n = y at *
      generalize statusF (accI c) n = x at *
      clear hj
      refine bgo ?_
      refine b_call hs1 rfl rfl rfl rfl ?_
      refine bgo ?_
      refine b_call hs2 rfl rfl rfl rfl ?_
      refine bgo ?_
      refine nx.go (k + 1, out ++ [(k : Int)], (c.fs.eraseIdx k).map Th.e) ⟨hlt, hj2, by simp; omega⟩ (by dsimp only; omega) ?_
      exact ⟨⟨⟨PLe.rfl, rfl⟩, ⟨PLe.rfl, rfl⟩, ⟨PLe.eq (congrArg (PV.own 3 1) hoa.symm), rfl⟩, ⟨PLe.rfl, rfl⟩, ⟨PLe.rfl, rfl⟩, ⟨PLe.rfl, rfl⟩, trivial⟩, ⟨_, rfl, HasC.same rfl⟩, ⟨_, rfl, HasC.same rfl⟩, trivial⟩
  · have hk' : k = c.fs.length := by omega
    subst hk'
    rw [Nat.sub_self] at hj
    replace hj : out = res := by simpa [decG] using hj
    subst hj
    refine bgo ?_
    refine wk_rfl ?_
    refine bgo ?_
    trivial
theorem specDecisiveFacts_b (c : Cs) (n : List UInt8) : BRet Tryz.prog 33 [] [caseP c, .str n] (.tup [.own 3 1 (ints (dcf c n)), .bool (head c && okI c && vName n)]) [] := by
  have hd : dcf c n = if (head c && okI c && vName n) = true then decG (decB c n) c.fs.length 0 else [] := rfl
  cases hv : head c && okI c
  · rw [hv, Bool.false_and, if_neg (by decide)] at hd
    rw [hd, Bool.false_and]
    refine bof Tryz.func33 ?_
    refine bgo ?_
    refine b_call (good_b c) rfl rfl rfl rfl ?_
    rw [hv]
    refine bgo ?_
    first
      | trivial
      | rfl
  rw [hv, Bool.true_and] at hd
  rw [Bool.true_and]
  cases hn : vName n
  · rw [hn, if_neg (by decide)] at hd
    rw [hd]
    refine bof Tryz.func33 ?_
    refine bgo ?_
    refine b_call (good_b c) rfl rfl rfl rfl ?_
    rw [hv]
    refine bgo ?_
    refine b_call (l5Name_b n) rfl rfl rfl rfl ?_
    rw [hn]
    refine bgo ?_
    first
      | trivial
      | rfl
  have hf := head_fine hv
  have hhv : head c = true := by simp only [Bool.and_eq_true] at hv; exact hv.1
  have hfl := fs_few hhv
  rw [hn, if_pos rfl] at hd
  rw [hd]
  generalize hr : decG (decB c n) c.fs.length 0 = res
  refine bof Tryz.func33 ?_
  refine bgo ?_
  refine b_call (good_b c) rfl rfl rfl rfl ?_
  rw [hv]
  refine bgo ?_
  refine b_call (l5Name_b n) rfl rfl rfl rfl ?_
  rw [hn]
  refine bgo ?_
  refine b_call (specStatus_b c n hf) rfl rfl rfl rfl ?_
  refine bgo ?_
  refine b_lp (ι := Nat × List Int) (fun i => [(1, .str n), (2, .ptr (.t 2) 0), (6, .own 3 1 (ints i.2)), (7, .int (statusF (accI c) n)), (8, .int i.1)])
    (fun i => [(.t 2, caseDs c)]) (fun i => i.1 ≤ c.fs.length ∧ i.2 ++ decG (decB c n) (c.fs.length - i.1) i.1 = res ∧ i.2.length ≤ i.1) (fun i => c.fs.length - i.1) (0, []) hs ⟨Nat.zero_le _, hr, Nat.le_refl _⟩ ?_
  clear hr
  rintro ⟨k, out⟩ ⟨hk, hj, hl⟩ I nx
  dsimp only at hk hj hl ⊢
  by_cases hlt : k < c.fs.length
  · rw [show c.fs.length - k = (c.fs.length - (k + 1)) + 1 by omega] at hj
    have hs1 := specStatus_b (lessI c k) n (lessI_fine hf k)
    have hte := ths_erase c.fs k
    have hib : (k : Int) + 1 ≤ 1000 := by omega
    by_cases he : statusF (accI (lessI c k)) n = statusF (accI c) n
    · have hp : decB c n k = false := decide_eq_false (fun h => h he)
      have hj2 : out ++ decG (decB c n) (c.fs.length - (k + 1)) (k + 1) = res := by unfold decG at hj; rw [hp, if_neg (by decide)] at hj; exact hj
      rw [he] at hs1
      generalize statusF (accI c) n = x at *
      clear hj he
      refine bgo ?_
      refine ⟨rfl, ?_⟩
      refine b_call hs1 rfl rfl rfl rfl ?_
      refine bgo ?_
      exact nx.go (k + 1, out) ⟨hlt, hj2, by dsimp only; omega⟩ (by dsimp only; omega) hs
    · have hp : decB c n k = true := decide_eq_true he
      have hj2 : (out ++ [(k : Int)]) ++ decG (decB c n) (c.fs.length - (k + 1)) (k + 1) = res := by unfold decG at hj; rw [hp, if_pos rfl] at hj; rw [← hj, List.append_assoc]; rfl
      have hoa := ints_app out [(k : Int)]
      have hol : (ints out).length = out.length := by simp [ints]
      have hob : (out.length + 1) * 9 ≤ 140737488355328 := by omega
      generalize statusF (accI (lessI c k)) n = y at *
      generalize statusF (accI c) n = x at *
      clear hj
      refine bgo ?_
      refine ⟨rfl, ?_⟩
      refine b_call hs1 rfl rfl rfl rfl ?_
      refine bgo ?_
      refine nx.go (k + 1, out ++ [(k : Int)]) ⟨hlt, hj2, by simp; omega⟩ (by dsimp only; omega) ?_
      exact ⟨⟨⟨PLe.rfl, rfl⟩, ⟨PLe.rfl, rfl⟩, ⟨PLe.eq (congrArg (PV.own 3 1) hoa.symm), rfl⟩, ⟨PLe.rfl, rfl⟩, ⟨PLe.rfl, rfl⟩, trivial⟩, ⟨_, rfl, HasC.same rfl⟩, trivial⟩
  · have hk' : k = c.fs.length := by omega
    subst hk'
    rw [Nat.sub_self] at hj
    replace hj : out = res := by simpa [decG] using hj
    subst hj
    refine bgo ?_
    refine wk_rfl ?_
    refine bgo ?_
    trivial
theorem lawDecisiveFacts_b (c : Cs) (n : List UInt8) : BRet Tryz.prog 13 [] [caseP c, .str n] (.bool true) [] := by
  refine bofM [15] Tryz.func13 ?_
  by_cases hbig : (n.length : Int) > 1048576
  · refine bgo ?_
    trivial
  refine bgo ?_
  refine b_call (szCase_b c 1048576 (by decide) (by decide)) rfl rfl rfl rfl ?_
  by_cases h : szCs c 1048576 < 0
  · refine bgo ?_
    trivial
  have ho := szCs_ok c (by omega)
  obtain ⟨hm0, hm1⟩ := mkCs_less c (by omega)
  have hmz := markCase_z c 1 (by decide) hm1
  generalize mkCs c 1 = mk1 at *
  have hmn : ¬ mk1 < 0 := by omega
  have hi := DecisiveFacts_b c n
  have hs' := specDecisiveFacts_b c n
  have hlen := dcf_len c n (by omega)
  generalize dcf c n = l at *
  generalize (head c && okI c && vName n) = ok at *
  refine bgo ?_
  refine b_call (toCase_b c ho) rfl rfl rfl rfl ?_
  refine bgo ?_
  refine b_call hs' rfl rfl rfl rfl ?_
  refine bgo ?_
  refine b_look (toCase_q c ho) rfl rfl (fun B => .cons lend3d .nil) take3 ?_
  refine bgo ?_
  by_cases hl : l = []
  · subst hl
    refine b_look hi rfl rfl (fun B => .cons lend3q (.cons lendD .nil)) take0 ?_
    refine bgo ?_
    refine b_call (eqIntS_s []) rfl rfl rfl rfl ?_
    refine bgo ?_
    refine b_call (toCase_b c ho) rfl rfl rfl rfl ?_
    refine bgo ?_
    refine b_look (eqCase_s c) rfl rfl (fun B => .cons lend3q (.cons lend3o .nil)) takeB ?_
    refine bgo ?_
    refine wk_unq [(1, .str n), (2, .ptr (.t 2) 0), (6, .d (.sl 1 (ints []))), (7, .bool ok), (8, .ptr (.t 8) 0), (9, .d (.sl 1 [])), (10, .bool ok), (11, .int 1)] [(.t 2, caseDs c), (.t 8, caseZ c)] hs ?_
    refine bgo ?_
    refine b_writes hmz rfl rfl rfl rfl ?_
    refine bgo ?_
    refine b_call (eqIntS_s []) rfl rfl rfl rfl ?_
    refine bgo ?_
    refine b_call (markIntS_0 1 (by decide) (by decide)) rfl rfl rfl rfl ?_
    refine bgo ?_
    refine b_call (heldIntS_0 1 (by decide) (by decide)) rfl rfl rfl rfl ?_
    refine bgo ?_
    refine b_call (toCase_b c ho) rfl rfl rfl rfl ?_
    refine bgo ?_
    refine b_call hi rfl rfl rfl rfl ?_
    refine bgo ?_
    refine b_call (eqIntS_s []) rfl rfl rfl rfl ?_
    refine bgo ?_
    refine b_call (heldIntS_0 1 (by decide) (by decide)) rfl rfl rfl rfl ?_
    refine bgo ?_
    trivial
  · have hmr := markIntS_r l 1 (by decide) (by omega)
    have hhb := heldIntS_b l.length 1 (by decide) (by omega)
    have hmk : (mkI l.length 1).length = l.length := by simp [mkI]
    generalize mkI l.length 1 = m at *
    have hmn2 : ¬ ((1 : Int) + l.length < 0) := by omega
    have hll : (ints l).length = l.length := by simp [ints]
    refine b_boxed 99 hi .one rfl rfl rfl (fun B => .cons lend3q (.cons lendD .nil)) rfl (by simpa [ints] using hl) (ints_plain l) rfl ?_
    refine bgo ?_
    refine b_lookb (eqIntS_s l) rfl rfl rfl (.cons (lendR rfl (by first | rfl | exact hll) (ints_one l)) (.cons lendD .nil)) takeB ?_
    refine bgo ?_
    refine b_call (toCase_b c ho) rfl rfl rfl rfl ?_
    refine bgo ?_
    refine b_look (eqCase_s c) rfl rfl (fun B => .cons lend3q (.cons lend3o .nil)) takeB ?_
    refine bgo ?_
    refine wk_unq [(1, .str n), (2, .ptr (.t 2) 0), (6, .d (.sl 1 (ints l))), (7, .bool ok), (8, .ptr (.t 8) 0), (9, .rsv (.t 99) 1 l.length), (10, .bool ok), (11, .int 1)] [(.t 2, caseDs c), (.t 8, caseZ c), (.t 99, row (ints l))] ⟨⟨⟨PLe.rfl, rfl⟩, ⟨PLe.rfl, rfl⟩, ⟨PLe.own, rfl⟩, ⟨PLe.rfl, rfl⟩, ⟨PLe.rfl, rfl⟩, ⟨PLe.eq (by first | rfl | exact congrArg (PV.rsv (.t 99) 1) hll), rfl⟩, ⟨PLe.rfl, rfl⟩, ⟨PLe.rfl, rfl⟩, trivial⟩, ⟨_, rfl, HasC.same rfl⟩, ⟨_, rfl, HasC.same rfl⟩, ⟨_, rfl, HasC.of (unq_row _) (row_ok _ _)⟩, trivial⟩ ?_
    refine bgo ?_
    refine b_writes hmz rfl rfl rfl rfl ?_
    refine bgo ?_
    refine b_lookb (eqIntS_s l) rfl rfl rfl (.cons (lendR rfl (by simp [ints]) (ints_one l)) (.cons lendD .nil)) takeB ?_
    refine bgo ?_
    refine b_callr hmr rfl rfl (row_pass _) (row_gives _ trivial) rfl rfl rfl rfl rfl ?_
    refine bgo ?_
    refine b_lookb hhb rfl rfl rfl (.cons (lendR rfl (by simp [ints, hmk]) (ints_one m)) (.cons lendD .nil)) takeI ?_
    refine bgo ?_
    refine b_call (toCase_b c ho) rfl rfl rfl rfl ?_
    refine bgo ?_
    refine b_call hi rfl rfl rfl rfl ?_
    refine bgo ?_
    refine b_call (eqIntS_s l) rfl rfl rfl rfl ?_
    refine bgo ?_
    refine b_lookb hhb rfl rfl rfl (.cons (lendR rfl (by simp [ints, hmk]) (ints_one m)) (.cons lendD .nil)) takeI ?_
    refine bgo ?_
    trivial
end Go.Bee.Df

/- Chapter 23: FrameworkOf: both sides. -/
namespace Go.Bee.Fw
open Go Go.Bee Go.Proofs Go.Bee.Ty
theorem bF0 : evBuild Tryz.prog 69 [] = some (.agg [.d (.int .i64 0), .nilS]) := by kernel_rfl
theorem bF1 : ∀ n : Int, evBuild Tryz.prog 69 [(0, .d (.int .i64 n))] = some (.agg [.d (.int .i64 n), .nilS]) := fun n => by kernel_rfl
theorem bF2 : ∀ (n : Int) (e : Nat), evBuild Tryz.prog 69 [(0, .d (.int .i64 n)), (1, .own e 2 [])] = some (.agg [.d (.int .i64 n), .own e 2 []]) := fun n e => by kernel_rfl
theorem bA : ∀ a b : Int, evBuild Tryz.prog 120 [(0, .d (.int .i64 a)), (1, .d (.int .i64 b))] = some (.agg [.d (.int .i64 a), .d (.int .i64 b)]) := fun a b => by kernel_rfl
theorem sA : ∀ a b : Int, evBuildSlice Tryz.prog 67 1 [(0, .agg [.d (.int .i64 a), .d (.int .i64 b)])] = some (.own 120 2 [.agg [.int .i64 a, .int .i64 b]]) := fun a b => by kernel_rfl
theorem slAt : SlT Tryz.prog 67 120 2 16 := ⟨_, _, ty67, rfl, ty120, rfl, rfl, rfl, by decide⟩
theorem tys : type_of% (And.intro Go.Bee.Ar.tys (And.intro bF0 (And.intro bF1 (And.intro bF2 (And.intro bA (And.intro sA slAt.facts)))))) := And.intro Go.Bee.Ar.tys (And.intro bF0 (And.intro bF1 (And.intro bF2 (And.intro bA (And.intro sA slAt.facts)))))
end Go.Bee.Fw
namespace Go.Bee.Fw
open Go Go.Bee Go.Proofs Go.Bee.Ty Go.Bee.C23 Go.Bee.C23s Go.Bee.C23a Go.Bee.Mt Go.Bee.Mr Go.Bee.Cq Go.Bee.Ml Go.Bee.Ar Go.Bee.Dr
set_option linter.unusedVariables false
set_option maxRecDepth 20000
attribute [local irreducible] Go.Bee.bwp
def atk (r s : Ru) : Bool := (decide (r.c = opp s.c) && decide (r.wt ≥ s.wt)) || (s.es.contains r.c || s.ps.contains (opp r.c))
def fwRow (r : Ru) (i : Nat) : List Ru → Nat → List (Nat × Nat)
  | [], _ => []
  | s :: l, j => if atk r s = true then (i, j) :: fwRow r i l (j + 1) else fwRow r i l (j + 1)
def fwAll (rs : List Ru) : List Ru → Nat → List (Nat × Nat)
  | [], _ => []
  | r :: l, i => fwRow r i rs 0 ++ fwAll rs l (i + 1)
def ats (l : List (Nat × Nat)) : List PD := l.map fun p => .agg [.int .i64 (p.1 : Int), .int .i64 (p.2 : Int)]
theorem ats_app (a b : List (Nat × Nat)) : ats (a ++ b) = ats a ++ ats b := List.map_append
def fwN (c : Cs) : Nat := if (head c && okI c) = true then c.rs.length else 0
def fwO (c : Cs) : List (Nat × Nat) := if (head c && okI c) = true then fwAll c.rs c.rs 0 else []
theorem l23Attacks_b (r s : Ru) : BRet Tryz.prog 98 [] [.agg [.d (.sl 2 (r.ps.map Th.e)), .d (.sl 2 (r.es.map Th.e)), .str r.c.n, .bool r.c.g, .int r.wt], .agg [.d (.sl 2 (s.ps.map Th.e)), .d (.sl 2 (s.es.map Th.e)), .str s.c.n, .bool s.c.g, .int s.wt]] (.bool (atk r s)) [] := by
  refine bof Tryz.func98 ?_
  have key : atk r s = ((decide (r.c = opp s.c) && decide (r.wt ≥ s.wt)) || (s.es.contains r.c || s.ps.contains (opp r.c))) := rfl
  generalize atk r s = res at *
  by_cases hx : r.c = opp s.c ∧ r.wt ≥ s.wt
  · obtain ⟨he, hw⟩ := hx
    have : res = true := by rw [key, decide_eq_true he, decide_eq_true hw]; rfl
    subst this
    have he2 : (⟨r.c.n, r.c.g⟩ : Th) = ⟨s.c.n, !s.c.g⟩ := he
    clear key he
    refine bgo ?_
    refine b_call (specOpp_b s.c) rfl rfl rfl rfl ?_
    refine bgo ?_
    trivial
  · have hrest : res = (s.es.contains r.c || s.ps.contains (opp r.c)) := by
      rw [key]
      by_cases he : r.c = opp s.c
      · have hw : ¬ r.wt ≥ s.wt := fun h => hx ⟨he, h⟩
        rw [decide_eq_false hw]; simp
      · rw [decide_eq_false he]; simp
    clear key
    have h3 := l23Has_b s.es r.c
    have h4 := l23Has_b s.ps (opp r.c)
    by_cases he : r.c = opp s.c
    all_goals
      have he2 := he
      first
        | replace he2 : (⟨r.c.n, r.c.g⟩ : Th) = ⟨s.c.n, !s.c.g⟩ := he
        | replace he2 : ¬ (⟨r.c.n, r.c.g⟩ : Th) = ⟨s.c.n, !s.c.g⟩ := he
      have hw : r.c = opp s.c → ¬ r.wt ≥ s.wt := fun e h => hx ⟨e, h⟩
      first
        | replace hw := hw he
        | skip
      clear he hx
      cases e3 : s.es.contains r.c
      all_goals
        cases e4 : s.ps.contains (opp r.c)
        all_goals
          rw [e3] at h3
          rw [e4] at h4
          rw [e3, e4] at hrest
          subst hrest
          refine bgo ?_
          refine b_call (specOpp_b s.c) rfl rfl rfl rfl ?_
          refine bgo ?_
          refine b_call h3 rfl rfl rfl rfl ?_
          refine bgo ?_
          first
            | trivial
            | (refine b_call (specOpp_b r.c) rfl rfl rfl rfl ?_
               refine bgo ?_
               refine b_call h4 rfl rfl rfl rfl ?_
               refine bgo ?_
               trivial)
theorem PLe.fwNil {e sz : Nat} {n : PV} {x : PV} : PLe (.tup [.agg [n, .nilS], x]) (.tup [.agg [n, .own e sz []], x]) := ⟨fun P G w loc v h => by
  obtain ⟨vs, rfl, h1, h2⟩ := h
  refine ⟨vs, rfl, by simpa using h1, fun i y u hy hu => ?_⟩
  match i, hy with
  | 0, hy =>
    simp at hy; subst hy
    obtain ⟨cs, e1, e2, e3, e4⟩ := h2 0 (.agg [n, .nilS]) u rfl hu
    refine ⟨cs, e1, by simpa using e2, e3, fun j z q hz hq => ?_⟩
    match j, hz with
    | 0, hz => exact e4 0 z q (by simpa using hz) hq
    | 1, hz =>
      simp at hz; subst hz
      exact CLe.nilO.c P G w _ q (e4 1 .nilS q rfl hq)
    | j + 2, hz => simp at hz
  | i + 1, hy => exact h2 (i + 1) y u (by simpa using hy) hu⟩
theorem fwRow_len (r : Ru) (i : Nat) : ∀ (l : List Ru) (j : Nat), (fwRow r i l j).length ≤ l.length
  | [], _ => Nat.le_refl _
  | s :: l, j => by
    have := fwRow_len r i l (j + 1)
    unfold fwRow
    split <;> simp <;> omega
set_option maxHeartbeats 4000000 in
theorem FrameworkOf_b (c : Cs) : BRet Tryz.prog 43 [] [caseP c] (.tup [.agg [.int (fwN c), .own 120 2 (ats (fwO c))], .bool (head c && okI c)]) [] := by
  have hd : fwO c = if (head c && okI c) = true then fwAll c.rs c.rs 0 else [] := rfl
  have hn : fwN c = if (head c && okI c) = true then c.rs.length else 0 := rfl
  cases hv : head c && okI c
  · rw [hv, if_neg (by decide)] at hd hn
    rw [hd, hn]
    refine BRet.less ?_ PLe.fwNil
    refine bof Tryz.func43 ?_
    refine bgo ?_
    refine b_call (IsValidCase_b c) rfl rfl rfl rfl ?_
    rw [hv]
    refine bgo ?_
    exact ret_ct rfl rfl rfl ty69 rfl rfl rfl rfl rfl (fun k => rfl)
  · have hf := head_fine hv
    rw [hv, if_pos rfl] at hd hn
    have hhv : head c = true := by simp only [Bool.and_eq_true] at hv; exact hv.1
    have hrl : c.rs.length ≤ 10 := by simp only [head, Bool.and_eq_true, decide_eq_true_eq] at hhv; omega
    rw [hd, hn]
    generalize hr : fwAll c.rs c.rs 0 = res
    refine bof Tryz.func43 ?_
    refine bgo ?_
    refine b_call (IsValidCase_b c) rfl rfl rfl rfl ?_
    rw [hv]
    refine bgo ?_
    refine b_lp (ι := Nat × List (Nat × Nat)) (fun i => [(1, .ptr (.t 1) 0), (2, .ptr (.t 2) 0), (4, .ptr (.t 4) 0), (19, .d (.sl 5 (c.rs.map Ru.e))), (20, .int c.rs.length), (21, .int i.1)]) (fun i => [(.t 1, caseDs c), (.t 2, [.int 0, .nilS]), (.t 4, [.int c.rs.length, .own 120 2 (ats i.2)])])
      (fun i => i.1 ≤ c.rs.length ∧ i.2 ++ fwAll c.rs (c.rs.drop i.1) i.1 = res ∧ i.2.length ≤ i.1 * 10) (fun i => c.rs.length - i.1) (0, []) hs ⟨Nat.zero_le _, hr, Nat.le_refl _⟩ ?_
    clear hr
    rintro ⟨i, out⟩ ⟨hi, hj, hl⟩ I nx
    dsimp only at hi hj hl ⊢
    by_cases hlt : i < c.rs.length
    · have hx : c.rs[i]? = some c.rs[i] := List.getElem?_eq_getElem hlt
      rw [List.drop_eq_getElem_cons hlt] at hj
      replace hj : out ++ (fwRow c.rs[i] i c.rs 0 ++ fwAll c.rs (c.rs.drop (i + 1)) (i + 1)) = res := hj
      generalize hri : c.rs[i] = ri at *
      have hib : (i : Int) + 1 ≤ 1000 := by omega
      refine bgo ?_
      refine b_lp (ι := Nat × List (Nat × Nat)) (fun k => [(1, .ptr (.t 1) 0), (2, .ptr (.t 2) 0), (4, .ptr (.t 4) 0), (5, .int i), (6, .ptr (.t 6) 0), (19, .d (.sl 5 (c.rs.map Ru.e))), (20, .int c.rs.length), (21, .int i), (27, .d (.sl 5 (c.rs.map Ru.e))), (28, .int c.rs.length), (29, .int k.1)])
        (fun k => [(.t 1, caseDs c), (.t 2, [.int 0, .nilS]), (.t 4, [.int c.rs.length, .own 120 2 (ats k.2)]), (.t 6, [.d (.sl 2 (ri.ps.map Th.e)), .d (.sl 2 (ri.es.map Th.e)), .str ri.c.n, .bool ri.c.g, .int ri.wt])])
        (fun k => k.1 ≤ c.rs.length ∧ k.2 ++ fwRow ri i (c.rs.drop k.1) k.1 = out ++ fwRow ri i c.rs 0 ∧ k.2.length ≤ i * 10 + k.1) (fun k => c.rs.length - k.1) (0, out) hs ⟨Nat.zero_le _, rfl, by simpa using hl⟩ ?_
      rintro ⟨j, o2⟩ ⟨hj1, hj2, hl2⟩ I2 nx2
      dsimp only at hj1 hj2 hl2 ⊢
      by_cases hlt2 : j < c.rs.length
      · have hy : c.rs[j]? = some c.rs[j] := List.getElem?_eq_getElem hlt2
        rw [List.drop_eq_getElem_cons hlt2] at hj2
        generalize hrj : c.rs[j] = rj at *
        have hjb : (j : Int) + 1 ≤ 1000 := by omega
        have key : atk ri rj = ((decide (ri.c = opp rj.c) && decide (ri.wt ≥ rj.wt)) || (rj.es.contains ri.c || rj.ps.contains (opp ri.c))) := rfl
        have hoa := ats_app o2 [(i, j)]
        have hol : (ats o2).length = o2.length := by simp [ats]
        have hF : atk ri rj = false → o2 ++ fwRow ri i (c.rs.drop (j + 1)) (j + 1) = out ++ fwRow ri i c.rs 0 := fun ha => by rw [← hj2, show fwRow ri i (rj :: c.rs.drop (j + 1)) j = fwRow ri i (c.rs.drop (j + 1)) (j + 1) from if_neg (by simp [ha])]
        have hT : atk ri rj = true → (o2 ++ [(i, j)]) ++ fwRow ri i (c.rs.drop (j + 1)) (j + 1) = out ++ fwRow ri i c.rs 0 := fun ha => by rw [← hj2, show fwRow ri i (rj :: c.rs.drop (j + 1)) j = (i, j) :: fwRow ri i (c.rs.drop (j + 1)) (j + 1) from if_pos ha]; simp
        have h3 := containsTh_b rj.es ri.c
        have h4 := containsTh_b rj.ps (opp ri.c)
        clear hj2 hj
        by_cases hx9 : ri.c = opp rj.c ∧ ri.wt ≥ rj.wt
        · obtain ⟨he, hw⟩ := hx9
          have hj3 := hT (by rw [key, decide_eq_true he, decide_eq_true hw]; rfl)
          have he2 : (⟨ri.c.n, ri.c.g⟩ : Th) = ⟨rj.c.n, !rj.c.g⟩ := he
          clear key he hF hT h3 h4
          refine bgo ?_
          refine b_call (opposite_b rj.c) rfl rfl rfl rfl ?_
          refine bgo ?_
          refine nx2.go (j + 1, o2 ++ [(i, j)]) ⟨hlt2, hj3, by simp; omega⟩ (by dsimp only; omega) ?_
          exact ⟨⟨⟨PLe.rfl, rfl⟩, ⟨PLe.rfl, rfl⟩, ⟨PLe.rfl, rfl⟩, ⟨PLe.rfl, rfl⟩, ⟨PLe.rfl, rfl⟩, ⟨PLe.rfl, rfl⟩, ⟨PLe.rfl, rfl⟩, ⟨PLe.rfl, rfl⟩, ⟨PLe.rfl, rfl⟩, ⟨PLe.rfl, rfl⟩, ⟨PLe.rfl, rfl⟩, trivial⟩, ⟨_, rfl, HasC.same rfl⟩, ⟨_, rfl, HasC.same rfl⟩, ⟨_, rfl, ⟨⟨CLe.rfl, rfl⟩, ⟨CLe.eq (congrArg (PV.own 120 2) hoa.symm), rfl⟩, trivial⟩⟩, ⟨_, rfl, HasC.same rfl⟩, trivial⟩
        · have hrest : atk ri rj = (rj.es.contains ri.c || rj.ps.contains (opp ri.c)) := by
            rw [key]
            by_cases he : ri.c = opp rj.c
            · have hw : ¬ ri.wt ≥ rj.wt := fun h => hx9 ⟨he, h⟩
              rw [decide_eq_false hw]; simp
            · rw [decide_eq_false he]; simp
          clear key
          by_cases he : ri.c = opp rj.c
          all_goals
            have he2 := he
            first
              | replace he2 : (⟨ri.c.n, ri.c.g⟩ : Th) = ⟨rj.c.n, !rj.c.g⟩ := he
              | replace he2 : ¬ (⟨ri.c.n, ri.c.g⟩ : Th) = ⟨rj.c.n, !rj.c.g⟩ := he
            have hw : ri.c = opp rj.c → ¬ ri.wt ≥ rj.wt := fun e h => hx9 ⟨e, h⟩
            first
              | replace hw := hw he
              | skip
            clear he hx9
            cases e3 : rj.es.contains ri.c
            all_goals
              cases e4 : rj.ps.contains (opp ri.c)
              all_goals
                rw [e3] at h3
                rw [e4] at h4
                rw [e3, e4] at hrest
                first
                  | (have hj3 := hF hrest
                     clear hF hT hrest
                     refine bgo ?_
                     refine b_call (opposite_b rj.c) rfl rfl rfl rfl ?_
                     refine bgo ?_
                     refine b_call h3 rfl rfl rfl rfl ?_
                     refine bgo ?_
                     refine b_call (opposite_b ri.c) rfl rfl rfl rfl ?_
                     refine bgo ?_
                     refine b_call h4 rfl rfl rfl rfl ?_
                     refine bgo ?_
                     exact nx2.go (j + 1, o2) ⟨hlt2, hj3, by dsimp only; omega⟩ (by dsimp only; omega) hs)
                  | (have hj3 := hT hrest
                     clear hF hT hrest
                     refine bgo ?_
                     refine b_call (opposite_b rj.c) rfl rfl rfl rfl ?_
                     refine bgo ?_
                     refine b_call h3 rfl rfl rfl rfl ?_
                     refine bgo ?_
                     first
                       | skip
                     try (refine b_call (opposite_b ri.c) rfl rfl rfl rfl ?_; refine bgo ?_; refine b_call h4 rfl rfl rfl rfl ?_; refine bgo ?_)
                     refine nx2.go (j + 1, o2 ++ [(i, j)]) ⟨hlt2, hj3, by simp; omega⟩ (by dsimp only; omega) ?_
                     exact ⟨⟨⟨PLe.rfl, rfl⟩, ⟨PLe.rfl, rfl⟩, ⟨PLe.rfl, rfl⟩, ⟨PLe.rfl, rfl⟩, ⟨PLe.rfl, rfl⟩, ⟨PLe.rfl, rfl⟩, ⟨PLe.rfl, rfl⟩, ⟨PLe.rfl, rfl⟩, ⟨PLe.rfl, rfl⟩, ⟨PLe.rfl, rfl⟩, ⟨PLe.rfl, rfl⟩, trivial⟩, ⟨_, rfl, HasC.same rfl⟩, ⟨_, rfl, HasC.same rfl⟩, ⟨_, rfl, ⟨⟨CLe.rfl, rfl⟩, ⟨CLe.eq (congrArg (PV.own 120 2) hoa.symm), rfl⟩, trivial⟩⟩, ⟨_, rfl, HasC.same rfl⟩, trivial⟩)
      · have hj4 : j = c.rs.length := by omega
        subst hj4
        rw [List.drop_length] at hj2
        replace hj2 : o2 = out ++ fwRow ri i c.rs 0 := by simpa [fwRow] using hj2
        have hj5 : o2 ++ fwAll c.rs (c.rs.drop (i + 1)) (i + 1) = res := by rw [hj2, ← hj, List.append_assoc]
        clear hj2 hj
        refine bgo ?_
        refine wk_rfl ?_
        refine bgo ?_
        exact nx.go (i + 1, o2) ⟨hlt, hj5, by dsimp only; omega⟩ (by dsimp only; omega) hs
    · have hi2 : i = c.rs.length := by omega
      subst hi2
      rw [List.drop_length] at hj
      replace hj : out = res := by simpa [fwAll] using hj
      subst hj
      refine bgo ?_
      refine wk_rfl ?_
      refine bgo ?_
      exact ret_ct rfl rfl rfl ty69 rfl rfl rfl rfl rfl (fun k => rfl)
/-! The framework is a valid one. -/
def lexlt (p q : Nat × Nat) : Prop := p.1 < q.1 ∨ (p.1 = q.1 ∧ p.2 < q.2)
theorem fwRow_mem (r : Ru) (i : Nat) : ∀ (l : List Ru) (j : Nat) (p : Nat × Nat), p ∈ fwRow r i l j → p.1 = i ∧ j ≤ p.2 ∧ p.2 < j + l.length
  | [], _, p, h => by simp [fwRow] at h
  | s :: l, j, p, h => by
    unfold fwRow at h
    simp only [List.length_cons]
    split at h
    · rcases List.mem_cons.1 h with rfl | h
      · exact ⟨rfl, Nat.le_refl _, by dsimp only; omega⟩
      · have := fwRow_mem r i l (j + 1) p h; omega
    · have := fwRow_mem r i l (j + 1) p h; omega
theorem fwRow_pw (r : Ru) (i : Nat) : ∀ (l : List Ru) (j : Nat), (fwRow r i l j).Pairwise lexlt
  | [], _ => by simp [fwRow]
  | s :: l, j => by
    unfold fwRow
    split
    · refine List.pairwise_cons.2 ⟨fun p hp => ?_, fwRow_pw r i l (j + 1)⟩
      have := fwRow_mem r i l (j + 1) p hp
      right; dsimp only; omega
    · exact fwRow_pw r i l (j + 1)
theorem fwAll_mem (rs : List Ru) : ∀ (l : List Ru) (i : Nat) (p : Nat × Nat), p ∈ fwAll rs l i → i ≤ p.1 ∧ p.1 < i + l.length ∧ p.2 < rs.length
  | [], _, p, h => by simp [fwAll] at h
  | r :: l, i, p, h => by
    unfold fwAll at h
    simp only [List.length_cons]
    rcases List.mem_append.1 h with h | h
    · have := fwRow_mem r i rs 0 p h; omega
    · have := fwAll_mem rs l (i + 1) p h; omega
theorem fwAll_pw (rs : List Ru) : ∀ (l : List Ru) (i : Nat), (fwAll rs l i).Pairwise lexlt
  | [], _ => by simp [fwAll]
  | r :: l, i => by
    unfold fwAll
    refine List.pairwise_append.2 ⟨fwRow_pw r i rs 0, fwAll_pw rs l (i + 1), fun p hp q hq => ?_⟩
    have h1 := fwRow_mem r i rs 0 p hp
    have h2 := fwAll_mem rs l (i + 1) q hq
    left; omega
theorem fwAll_len (rs : List Ru) : ∀ (l : List Ru) (i : Nat), (fwAll rs l i).length ≤ l.length * rs.length
  | [], _ => by simp [fwAll]
  | r :: l, i => by
    have h1 := fwRow_len r i rs 0
    have h2 := fwAll_len rs l (i + 1)
    unfold fwAll
    rw [List.length_append, List.length_cons, Nat.add_mul]
    omega
theorem IsValidFramework_b (n : Nat) (l : List (Nat × Nat)) (hn : n ≤ 10) (hl : l.length ≤ 1048576) (hm : ∀ p ∈ l, p.1 < n ∧ p.2 < n) (hp : l.Pairwise lexlt) : BRet Tryz.prog 44 [] [.agg [.int n, .d (.sl 2 (ats l))]] (.bool true) [] := by
  refine bof Tryz.func44 ?_
  have hat : ∀ i (h : i < l.length), (ats l)[i]? = some (.agg [.int .i64 (l[i].1 : Int), .int .i64 (l[i].2 : Int)]) := fun i h => by simp [ats, h]
  have hal : (ats l).length = l.length := by simp [ats]
  generalize ats l = q at *
  have hin : inB (n : Int) 0 10 = true := by simp [inB]; omega
  have hwn := within_b n 0 10
  rw [hin] at hwn
  refine bgo ?_
  refine b_call hwn rfl rfl rfl rfl ?_
  refine bgo ?_
  refine b_lp (ι := Nat × Unit) (fun i => [(1, .ptr (.t 1) 0), (10, .d (.sl 2 q)), (11, .int l.length), (12, .int i.1)]) (fun _ => [(.t 1, [.int n, .d (.sl 2 q)])]) (fun i => i.1 ≤ l.length) (fun i => l.length - i.1) (0, ()) hs (Nat.zero_le _) ?_
  rintro ⟨i, u⟩ hi I nx
  dsimp only at hi ⊢
  by_cases hlt : i < l.length
  · have hx := hat i hlt
    have hb := hm l[i] (List.getElem_mem hlt)
    have h1 := within_b (l[i].1 : Int) 0 (n - 1)
    have h2 := within_b (l[i].2 : Int) 0 (n - 1)
    have e1 : inB (l[i].1 : Int) 0 (n - 1) = true := by simp [inB]; omega
    have e2 : inB (l[i].2 : Int) 0 (n - 1) = true := by simp [inB]; omega
    rw [e1] at h1
    rw [e2] at h2
    have hib : (i : Int) + 1 ≤ 1000000000 := by omega
    have hnb : (n : Int) ≤ 10 := by omega
    by_cases h0 : (i : Int) > 0
    · have hpi : i - 1 < l.length := by omega
      have hy := hat (i - 1) hpi
      have hlx := List.pairwise_iff_getElem.1 hp (i - 1) i hpi hlt (by omega)
      have hio : (i : Int) - 1 = ((i - 1 : Nat) : Int) := by omega
      generalize l[i] = a at *
      generalize l[i - 1] = b at *
      obtain ⟨a1, a2⟩ := a
      obtain ⟨b1, b2⟩ := b
      dsimp only [lexlt] at hlx h1 h2 hx hy hb ⊢
      have hn1 : ¬ (a1 : Int) < (b1 : Int) := by omega
      clear hat hm hp e1 e2
      by_cases hq : a1 = b1
      · subst hq
        have hn2 : ¬ (a2 : Int) ≤ (b2 : Int) := by omega
        clear hlx
        refine bgo ?_
        refine b_call h1 rfl rfl rfl rfl ?_
        refine bgo ?_
        refine b_call h2 rfl rfl rfl rfl ?_
        refine bgo ?_
        exact nx.go (i + 1, ()) hlt (by dsimp only; omega) hs
      · have hq3 : ((a1 : Int) == (b1 : Int)) = false := beq_false_of_ne (by omega)
        clear hlx hq
        refine bgo ?_
        refine b_call h1 rfl rfl rfl rfl ?_
        refine bgo ?_
        refine b_call h2 rfl rfl rfl rfl ?_
        refine bgo ?_
        exact nx.go (i + 1, ()) hlt (by dsimp only; omega) hs
    · clear hat
      refine bgo ?_
      refine b_call h1 rfl rfl rfl rfl ?_
      refine bgo ?_
      refine b_call h2 rfl rfl rfl rfl ?_
      refine bgo ?_
      exact nx.go (i + 1, ()) hlt (by dsimp only; omega) hs
  · have hlt2 : ¬ (i : Int) < l.length := by omega
    refine bgo ?_
    refine wk_rfl ?_
    refine bgo ?_
    trivial
end Go.Bee.Fw

/- Chapter 23: the weight that a thesis lacks: the code, the model and their law. -/
namespace Go.Bee
open Go
/-! What an argument may be read as. -/
theorem repSl {S : Nat → Nat → Prop} {w : World} {sz : Nat} {l l' : List PD} {v : Value} (hl : l'.length = l.length) (hu : ∀ e ∈ l', e.cells.length = sz) (hn : (flat l').length = (flat l).length)
    (hf : ∀ (i : Nat) x y, (flat l)[i]? = some x → (flat l')[i]? = some y → y.scalar = true ∧ ∀ u, RepD S w x u → RepD S w y u) (h : RepD S w (.sl sz l) v) : RepD S w (.sl sz l') v := by
  cases h with
  | nil => obtain rfl : l' = [] := List.length_eq_zero_iff.1 hl; exact .nil sz
  | emp _ a c => obtain rfl : l' = [] := List.length_eq_zero_iff.1 hl; exact .emp sz a c
  | sl _ _ g o c vs hb hc hu0 hs hvl hv hr =>
    rw [← hl]
    have hget : ∀ (i : Nat) y, (flat l')[i]? = some y → ∃ x, (flat l)[i]? = some x := fun i y hy => by
      have := (List.getElem?_eq_some_iff.1 hy).1
      exact ⟨_, List.getElem?_eq_getElem (by omega)⟩
    refine .sl sz l' g o c vs (by omega) (by omega) hu (fun y hy => ?_) (by omega) hv fun i y u hy hvu => ?_
    · obtain ⟨i, hi⟩ := List.mem_iff_getElem?.1 hy
      obtain ⟨x, hx⟩ := hget i y hi
      exact (hf i x y hx hi).1
    · obtain ⟨x, hx⟩ := hget i y hy
      exact (hf i x y hx hy).2 u (hr i x u hx hvu)
theorem CLe.d {x y : PD} (h : ∀ (S : Nat → Nat → Prop) (w : World) (v : Value), RepD S w x v → RepD S w y v ∧ (x.scalar = true → y.scalar = true)) : CLe (.d x) (.d y) := ⟨fun P G w p v hv => by
  obtain ⟨h1, h2⟩ := h _ _ _ hv.1
  exact ⟨h1, h2 hv.2⟩⟩
theorem PLe.agg3 {a a' b c : PV} (h : CLe a a') : PLe (.agg [b, a, c]) (.agg [b, a', c]) := ⟨fun P G w loc v hv => by
  obtain ⟨cs, e, hl, h1, hr⟩ := hv
  refine ⟨cs, e, hl, h1, fun j x u hx hu => ?_⟩
  match j, hx with
  | 0, hx => exact hr 0 x u hx hu
  | 1, hx => simp at hx; subst hx; exact h.c _ _ _ _ _ (hr 1 a u (by simp) hu)
  | 2, hx => exact hr 2 x u hx hu
  | n + 3, hx => simp at hx⟩
theorem BRet.arg1 {P : Program} {f : Nat} {bi bo : List (List PV)} {x y r : PV} (h : BRet P f bi [y] r bo) (hxy : PLe x y) : BRet P f bi [x] r bo :=
  ⟨h.1, h.2.1, fun G w vs Wr hs ha => h.2.2 G w vs Wr hs fun i z u hz hu => by
    match i, hz with
    | 0, hz => simp at hz; subst hz; exact hxy.t _ _ _ _ _ (ha 0 x u rfl hu)
    | n + 1, hz => simp at hz⟩
end Go.Bee
namespace Go.Bee.C23n
open Go Go.Bee Go.Proofs Go.Bee.Ty Go.Bee.C23
theorem bRu : ∀ (a : List UInt8) (b : Bool) (w : Int), evBuild Tryz.prog 36 [(2, .agg [.d (.str a), .d (.bool b)]), (3, .d (.int .i64 w))] = some (.agg [.nilS, .nilS, .d (.str a), .d (.bool b), .d (.int .i64 w)]) := fun a b w => by kernel_rfl
theorem sRu : ∀ (a : List UInt8) (b : Bool) (w : Int), evBuildSlice Tryz.prog 25 1 [(0, .agg [.nilS, .nilS, .d (.str a), .d (.bool b), .d (.int .i64 w)])] = some (.own 36 5 [.agg [.sl 0 [], .sl 0 [], .str a, .bool b, .int .i64 w]]) := fun a b w => by kernel_rfl
theorem tys : type_of% (And.intro Go.Bee.C23a.tys (And.intro bRu sRu)) := And.intro Go.Bee.C23a.tys (And.intro bRu sRu)
end Go.Bee.C23n
namespace Go.Bee.C23n
open Go Go.Bee Go.Proofs Go.Bee.Ty Go.Bee.C23 Go.Bee.C23s Go.Bee.C23a
set_option linter.unusedVariables false
set_option maxRecDepth 20000
attribute [local irreducible] Go.Bee.bwp vName
theorem allN_few (c : Cs) (h : head c = true) : (allN c).length ≤ 1000 := by
  simp only [head, Bool.and_eq_true, decide_eq_true_eq, List.all_eq_true] at h
  obtain ⟨⟨⟨⟨⟨h1, h2⟩, h3⟩, h4⟩, h5⟩, h6⟩ := h
  have hr : ∀ r ∈ c.rs, r.ps.length ≤ 4 ∧ r.es.length ≤ 4 := fun r hr => by
    have := h5 r hr
    simp only [ruOk, Bool.and_eq_true] at this
    have a := (thOk_all this.1.1.1).1
    have b := (thOk_all this.1.1.2).1
    omega
  have hf := (thOk_all h1).1
  have key : ∀ l : List Ru, (∀ r ∈ l, r.ps.length ≤ 4 ∧ r.es.length ≤ 4) → (l.flatMap ruN).length ≤ 9 * l.length := by
    intro l
    induction l with
    | nil => simp
    | cons r l ih =>
      intro h
      have a := h r (List.mem_cons_self ..)
      have b := ih fun x hx => h x (List.mem_cons_of_mem _ hx)
      rw [List.flatMap_cons, List.length_append, List.length_cons]
      simp only [ruN, nb, List.length_append, List.length_map, List.length_cons, List.length_nil]
      omega
  have := key c.rs hr
  rw [allN_eq, List.length_append, List.length_map]
  omega
def mr (t : Th) (w : Int) : Ru := ⟨[], [], t, w⟩
theorem more_mr (c : Cs) (t : Th) (w : Int) : more c t w = ⟨c.fs, c.rs ++ [mr t w], c.ss⟩ := rfl
theorem ru_scalar {rs : List Ru} : ∀ x ∈ flat (rs.map Ru.e), x.scalar = true := by
  intro x hx
  obtain ⟨y, hy, hxy⟩ := List.mem_flatMap.1 hx
  obtain ⟨r, _, rfl⟩ := List.mem_map.1 hy
  simp only [Ru.e, PD.cells, List.mem_cons, List.not_mem_nil, or_false] at hxy
  rcases hxy with rfl | rfl | rfl | rfl | rfl <;> rfl
theorem emp_any {S : Nat → Nat → Prop} {w : World} {a b : Nat} {v : Value} (h : RepD S w (.sl a []) v) : RepD S w (.sl b []) v := by
  generalize e : PD.sl a [] = x at h
  cases h <;> cases e
  · exact .nil b
  · rename_i g o c vs _ _ _ _ _ _ _
    exact .emp b ⟨g, o, none⟩ c
  · rename_i ad c; exact .emp b ad c
theorem mrLe (c : Cs) (t : Th) (w : Int) : PLe (.agg [.d (.sl 2 (c.fs.map Th.e)), .d (.sl 5 (c.rs.map Ru.e ++ [.agg [.sl 0 [], .sl 0 [], .str t.n, .bool t.g, .int .i64 w]])), .d (.sl 2 (c.ss.map Sd.e))])
    (.agg [.d (.sl 2 (c.fs.map Th.e)), .d (.sl 5 ((c.rs ++ [mr t w]).map Ru.e)), .d (.sl 2 (c.ss.map Sd.e))]) := by
  refine PLe.agg3 (CLe.d fun S w0 v h => ⟨?_, fun _ => rfl⟩)
  have hfl : ∀ (z : PD), z.cells.length = 5 → flat (c.rs.map Ru.e ++ [z]) = flat (c.rs.map Ru.e) ++ z.cells := fun z _ => by simp [flat]
  refine repSl (by simp) (fun e he => ?_) ?_ (fun i x y hx hy => ?_) h
  · obtain ⟨r, _, rfl⟩ := List.mem_map.1 he; rfl
  · rw [List.map_append, hfl _ rfl]
    show (flat (c.rs.map Ru.e ++ [(mr t w).e])).length = _
    rw [hfl _ rfl]; simp [mr, Ru.e, PD.cells]
  · rw [hfl _ rfl] at hx
    rw [List.map_append] at hy
    replace hy : (flat (c.rs.map Ru.e ++ [(mr t w).e]))[i]? = some y := hy
    rw [hfl _ rfl] at hy
    by_cases hi : i < (flat (c.rs.map Ru.e)).length
    · rw [List.getElem?_append_left hi] at hx hy
      rw [hx] at hy; cases hy
      exact ⟨ru_scalar x (List.mem_of_getElem? hx), fun _ h => h⟩
    · rw [List.getElem?_append_right (by omega)] at hx hy
      generalize i - (flat (c.rs.map Ru.e)).length = j at hx hy
      match j, hx, hy with
      | 0, hx, hy => simp [PD.cells, mr, Ru.e] at hx hy; subst hx; subst hy; exact ⟨rfl, fun _ h => emp_any h⟩
      | 1, hx, hy => simp [PD.cells, mr, Ru.e] at hx hy; subst hx; subst hy; exact ⟨rfl, fun _ h => emp_any h⟩
      | 2, hx, hy => simp [PD.cells, mr, Ru.e] at hx hy; subst hx; subst hy; exact ⟨rfl, fun _ h => h⟩
      | 3, hx, hy => simp [PD.cells, mr, Ru.e] at hx hy; subst hx; subst hy; exact ⟨rfl, fun _ h => h⟩
      | 4, hx, hy => simp [PD.cells, mr, Ru.e] at hx hy; subst hx; subst hy; exact ⟨rfl, fun _ h => h⟩
      | n + 5, hx, hy => simp [PD.cells] at hx
/-- The first weight from w on, of n, that serves. -/
def needF (p : Int → Bool) : Nat → Int → Int × Bool
  | 0, _ => (0, false)
  | n + 1, w => if p w = true then (w, true) else needF p n (w + 1)
def need (c : Cs) (t : Th) : Int × Bool :=
  if (head c && okI c && vName t.n) = true ∧ ¬ c.rs.length = 10 then (if (accI c).contains t = true then (0, true) else needF (fun w => (accI (more c t w)).contains t) 1000 1) else (0, false)
theorem cloneRule_b (l : List Ru) (hl : l.length ≤ 1048576) : BRet Tryz.prog 61 [] [.d (.sl 5 (l.map Ru.e))] (.own 36 5 (l.map Ru.e)) [] := by
  refine BRet.nil0 (by kernel_rfl) (fun h => ?_) ?_
  · rw [h]
    refine bofW Tryz.func61 ?_
    refine bgo ?_
    refine wk_of (Weak.nil_own 36 5 (t := 2) rfl) ?_
    refine bgo ?_
    trivial
  · refine bof Tryz.func61 ?_
    refine bgo ?_
    trivial
theorem NeededWeight_b (c : Cs) (t : Th) : BRet Tryz.prog 16 [] [.agg [.d (.sl 2 (c.fs.map Th.e)), .d (.sl 5 (c.rs.map Ru.e)), .d (.sl 2 (c.ss.map Sd.e))], .agg [.str t.n, .bool t.g]]
    (.tup [.int (need c t).1, .bool (need c t).2]) [] := by
  refine bof Tryz.func16 ?_
  have hno : ¬ ((head c && okI c && vName t.n) = true ∧ ¬ c.rs.length = 10) → need c t = (0, false) := fun h => if_neg h
  have hyes : ((head c && okI c && vName t.n) = true ∧ ¬ c.rs.length = 10) → need c t = (if (accI c).contains t = true then (0, true) else needF (fun w => (accI (more c t w)).contains t) 1000 1) := fun h => if_pos h
  generalize need c t = res at *
  refine bgo ?_
  refine b_call (IsValidCase_b c) rfl rfl rfl rfl ?_
  cases hv : head c && okI c
  · have := hno (by rw [hv]; simp)
    subst this
    refine bgo ?_
    trivial
  · have hf := head_fine hv
    have hh : head c = true := by simp only [Bool.and_eq_true] at hv; exact hv.1
    have hfew := allN_few c hh
    have hrl : c.rs.length ≤ 10 := by simp only [head, Bool.and_eq_true, decide_eq_true_eq] at hh; omega
    refine bgo ?_
    refine b_call (IsValidName_b t.n) rfl rfl rfl rfl ?_
    cases hn : vName t.n
    · have := hno (by rw [hv, hn]; simp)
      subst this
      refine bgo ?_
      trivial
    · have hne := vName_ne hn
      by_cases h10 : (c.rs.length : Int) = 10
      · have := hno (by simp; omega)
        subst this
        refine bgo ?_
        trivial
      · have hr := hyes ⟨by rw [hv, hn]; rfl, by omega⟩
        clear hno hyes
        refine bgo ?_
        refine b_call (acceptedTheses_b c hf) rfl rfl rfl rfl ?_
        refine bgo ?_
        refine b_call (containsTh_b (accI c) t) rfl rfl rfl rfl ?_
        cases ha : (accI c).contains t
        · rw [ha] at hr
          replace hr : needF (fun w => (accI (more c t w)).contains t) 1000 1 = res := hr.symm
          refine bgo ?_
          refine b_lp (ι := Nat × List PD) (fun i => [(2, .ptr (.t 2) 0), (3, .ptr (.t 3) 0), (6, .ptr (.t 6) 0), (7, .int (i.1 + 1))])
            (fun i => [(.t 2, [.d (.sl 2 (c.fs.map Th.e)), .d (.sl 5 (c.rs.map Ru.e)), .d (.sl 2 (c.ss.map Sd.e))]), (.t 3, [.str t.n, .bool t.g]), (.t 6, [.d (.sl 2 (c.fs.map Th.e)), .d (.sl 5 i.2), .d (.sl 2 (c.ss.map Sd.e))])])
            (fun i => i.1 ≤ 1000 ∧ needF (fun w => (accI (more c t w)).contains t) (1000 - i.1) (i.1 + 1) = res) (fun i => 1000 - i.1) (0, c.rs.map Ru.e) hs ⟨Nat.zero_le _, hr⟩ ?_
          clear hr
          rintro ⟨k, rs⟩ ⟨hk, hr⟩ I nx
          dsimp only at hk hr ⊢
          by_cases hlt : k < 1000
          · have hmf := more_fine hf t (k + 1) hne (by omega) (by omega) (by omega)
            have hacc := acceptedTheses_b (more c t (k + 1)) hmf
            rw [show 1000 - k = (1000 - (k + 1)) + 1 by omega] at hr
            unfold needF at hr
            rw [more_mr] at hacc hr
            generalize accI ⟨c.fs, c.rs ++ [mr t (k + 1)], c.ss⟩ = acc at *
            have hlt2 : (k : Int) + 1 ≤ 1000 := by omega
            refine bgo ?_
            refine b_call (cloneRule_b c.rs (by omega)) rfl rfl rfl rfl ?_
            refine bgo ?_
            refine ⟨rfl, ?_⟩
            refine b_call (hacc.arg1 (mrLe c t (k + 1))) rfl rfl rfl rfl ?_
            refine bgo ?_
            refine b_call (containsTh_b acc t) rfl rfl rfl rfl ?_
            cases hc : acc.contains t
            · rw [hc] at hr
              refine bgo ?_
              exact nx.go (k + 1, c.rs.map Ru.e ++ [.agg [.sl 0 [], .sl 0 [], .str t.n, .bool t.g, .int .i64 (k + 1)]]) ⟨hlt, by rw [if_neg (by decide)] at hr; exact hr⟩ (by dsimp only; omega) hs
            · rw [hc] at hr
              replace hr : ((k : Int) + 1, true) = res := hr
              subst hr
              refine bgo ?_
              trivial
          · have hk' : k = 1000 := by omega
            subst hk'
            replace hr : (0, false) = res := hr
            subst hr
            refine bgo ?_
            refine wk_rfl ?_
            refine bgo ?_
            trivial
        · rw [ha] at hr
          replace hr : res = (0, true) := hr
          subst hr
          refine bgo ?_
          trivial
theorem specNeededWeight_b (c : Cs) (t : Th) : BRet Tryz.prog 17 [] [.agg [.d (.sl 2 (c.fs.map Th.e)), .d (.sl 5 (c.rs.map Ru.e)), .d (.sl 2 (c.ss.map Sd.e))], .agg [.str t.n, .bool t.g]]
    (.tup [.int (need c t).1, .bool (need c t).2]) [] := by
  refine bof Tryz.func17 ?_
  have hno : ¬ ((head c && okI c && vName t.n) = true ∧ ¬ c.rs.length = 10) → need c t = (0, false) := fun h => if_neg h
  have hyes : ((head c && okI c && vName t.n) = true ∧ ¬ c.rs.length = 10) → need c t = (if (accI c).contains t = true then (0, true) else needF (fun w => (accI (more c t w)).contains t) 1000 1) := fun h => if_pos h
  generalize need c t = res at *
  refine bgo ?_
  refine b_call (good_b c) rfl rfl rfl rfl ?_
  cases hv : head c && okI c
  · have := hno (by rw [hv]; simp)
    subst this
    refine bgo ?_
    trivial
  · have hf := head_fine hv
    have hh : head c = true := by simp only [Bool.and_eq_true] at hv; exact hv.1
    have hfew := allN_few c hh
    have hrl : c.rs.length ≤ 10 := by simp only [head, Bool.and_eq_true, decide_eq_true_eq] at hh; omega
    refine bgo ?_
    refine b_call (l5Name_b t.n) rfl rfl rfl rfl ?_
    cases hn : vName t.n
    · have := hno (by rw [hv, hn]; simp)
      subst this
      refine bgo ?_
      trivial
    · have hne := vName_ne hn
      by_cases h10 : (c.rs.length : Int) = 10
      · have := hno (by simp; omega)
        subst this
        refine bgo ?_
        trivial
      · have hr := hyes ⟨by rw [hv, hn]; rfl, by omega⟩
        clear hno hyes
        refine bgo ?_
        refine b_call (accepted_b c hf) rfl rfl rfl rfl ?_
        refine bgo ?_
        refine b_call (l23Has_b (accI c) t) rfl rfl rfl rfl ?_
        cases ha : (accI c).contains t
        · rw [ha] at hr
          replace hr : needF (fun w => (accI (more c t w)).contains t) 1000 1 = res := hr.symm
          refine bgo ?_
          refine b_lp (ι := Nat × Unit) (fun i => [(2, .ptr (.t 2) 0), (3, .ptr (.t 3) 0), (6, .int (i.1 + 1))])
            (fun i => [(.t 2, [.d (.sl 2 (c.fs.map Th.e)), .d (.sl 5 (c.rs.map Ru.e)), .d (.sl 2 (c.ss.map Sd.e))]), (.t 3, [.str t.n, .bool t.g])])
            (fun i => i.1 ≤ 1000 ∧ needF (fun w => (accI (more c t w)).contains t) (1000 - i.1) (i.1 + 1) = res) (fun i => 1000 - i.1) (0, ()) hs ⟨Nat.zero_le _, hr⟩ ?_
          clear hr
          rintro ⟨k, rs⟩ ⟨hk, hr⟩ I nx
          dsimp only at hk hr ⊢
          by_cases hlt : k < 1000
          · have hmf := more_fine hf t (k + 1) hne (by omega) (by omega) (by omega)
            have hacc := accepted_b (more c t (k + 1)) hmf
            rw [show 1000 - k = (1000 - (k + 1)) + 1 by omega] at hr
            unfold needF at hr
            rw [more_mr] at hacc hr
            generalize accI ⟨c.fs, c.rs ++ [mr t (k + 1)], c.ss⟩ = acc at *
            have hlt2 : (k : Int) + 1 ≤ 1000 := by omega
            refine bgo ?_
            refine ⟨rfl, ?_⟩
            refine b_call (hacc.arg1 (mrLe c t (k + 1))) rfl rfl rfl rfl ?_
            refine bgo ?_
            refine b_call (l23Has_b acc t) rfl rfl rfl rfl ?_
            cases hc : acc.contains t
            · rw [hc] at hr
              refine bgo ?_
              exact nx.go (k + 1, ()) ⟨hlt, by rw [if_neg (by decide)] at hr; exact hr⟩ (by dsimp only; omega) hs
            · rw [hc] at hr
              replace hr : ((k : Int) + 1, true) = res := hr
              subst hr
              refine bgo ?_
              trivial
          · have hk' : k = 1000 := by omega
            subst hk'
            replace hr : (0, false) = res := hr
            subst hr
            refine bgo ?_
            refine wk_rfl ?_
            refine bgo ?_
            trivial
        · rw [ha] at hr
          replace hr : res = (0, true) := hr
          subst hr
          refine bgo ?_
          trivial
theorem lawNeeded_b (c : Cs) (t : Th) : BRet Tryz.prog 10 [] [.agg [.d (.sl 2 (c.fs.map Th.e)), .d (.sl 5 (c.rs.map Ru.e)), .d (.sl 2 (c.ss.map Sd.e))], .agg [.str t.n, .bool t.g]] (.bool true) [] := by
  refine bof Tryz.func10 ?_
  have hn := szCs_nice c 1048576 (by decide)
  refine bgo ?_
  refine b_call (szCase_b c 1048576 (by decide) (by decide)) rfl rfl rfl rfl ?_
  by_cases h : szCs c 1048576 < 0
  · refine bgo ?_
    trivial
  have ho := szCs_ok c (by omega)
  generalize szCs c 1048576 = x at *
  refine bgo ?_
  refine b_call (szThesis_b t x (by omega) (by omega)) rfl rfl rfl rfl ?_
  by_cases h2 : szTh t x < 0
  · refine bgo ?_
    trivial
  generalize szTh t x = y at *
  refine bgo ?_
  refine b_call (toCase_b c ho) rfl rfl rfl rfl ?_
  refine bgo ?_
  refine b_call (toThesis_b t) rfl rfl rfl rfl ?_
  refine bgo ?_
  refine b_call (specNeededWeight_b c t) rfl rfl rfl rfl ?_
  refine bgo ?_
  refine b_call (toCase_b c ho) rfl rfl rfl rfl ?_
  refine bgo ?_
  refine b_call (toThesis_b t) rfl rfl rfl rfl ?_
  refine bgo ?_
  refine b_call (NeededWeight_b c t) rfl rfl rfl rfl ?_
  generalize (need c t).1 = q
  cases (need c t).2
  all_goals
    refine bgo ?_
    refine b_call (toCase_b c ho) rfl rfl rfl rfl ?_
    refine bgo ?_
    refine b_call (eqCase_b c c) rfl rfl rfl rfl ?_
    rw [decide_eq_true rfl]
    refine bgo ?_
    trivial
end Go.Bee.C23n

/- Chapter 23: what the cursor draws. -/
namespace Go.Bee.Ds
open Go Go.Bee Go.Proofs Go.Bee.Ty Go.Bee.Dr Go.Bee.C23
theorem s2 : ∀ (a b : List UInt8), evBuildSlice Tryz.prog 47 2 [(0, .d (.str a)), (1, .d (.str b))] = some (.own 9 1 [.str a, .str b]) := fun a b => by kernel_rfl
theorem s3 : ∀ (a b c : List UInt8), evBuildSlice Tryz.prog 47 3 [(0, .d (.str a)), (1, .d (.str b)), (2, .d (.str c))] = some (.own 9 1 [.str a, .str b, .str c]) := fun a b c => by kernel_rfl
theorem s4 : ∀ (a b c d : List UInt8), evBuildSlice Tryz.prog 47 4 [(0, .d (.str a)), (1, .d (.str b)), (2, .d (.str c)), (3, .d (.str d))] = some (.own 9 1 [.str a, .str b, .str c, .str d]) := fun a b c d => by kernel_rfl
theorem s6 : ∀ (a b c d e f : List UInt8), evBuildSlice Tryz.prog 47 6 [(0, .d (.str a)), (1, .d (.str b)), (2, .d (.str c)), (3, .d (.str d)), (4, .d (.str e)), (5, .d (.str f))] = some (.own 9 1 [.str a, .str b, .str c, .str d, .str e, .str f]) := fun a b c d e f => by kernel_rfl
theorem s10 : ∀ (a b c d e f g h i j : List UInt8), evBuildSlice Tryz.prog 47 10 [(0, .d (.str a)), (1, .d (.str b)), (2, .d (.str c)), (3, .d (.str d)), (4, .d (.str e)), (5, .d (.str f)), (6, .d (.str g)), (7, .d (.str h)), (8, .d (.str i)), (9, .d (.str j))] = some (.own 9 1 [.str a, .str b, .str c, .str d, .str e, .str f, .str g, .str h, .str i, .str j]) := fun a b c d e f g h i j => by kernel_rfl
theorem i3 : ∀ (a b c : Int), evBuildSlice Tryz.prog 58 3 [(0, .d (.int .i64 a)), (1, .d (.int .i64 b)), (2, .d (.int .i64 c))] = some (.own 3 1 [.int .i64 a, .int .i64 b, .int .i64 c]) := fun a b c => by kernel_rfl
theorem i8 : ∀ (a b c d e f g h : Int), evBuildSlice Tryz.prog 58 8 [(0, .d (.int .i64 a)), (1, .d (.int .i64 b)), (2, .d (.int .i64 c)), (3, .d (.int .i64 d)), (4, .d (.int .i64 e)), (5, .d (.int .i64 f)), (6, .d (.int .i64 g)), (7, .d (.int .i64 h))] = some (.own 3 1 [.int .i64 a, .int .i64 b, .int .i64 c, .int .i64 d, .int .i64 e, .int .i64 f, .int .i64 g, .int .i64 h]) := fun a b c d e f g h => by kernel_rfl
theorem tys : type_of% (And.intro Go.Bee.C23n.tys (And.intro s2 (And.intro s3 (And.intro s4 (And.intro s6 (And.intro s10 (And.intro i3 i8))))))) := And.intro Go.Bee.C23n.tys (And.intro s2 (And.intro s3 (And.intro s4 (And.intro s6 (And.intro s10 (And.intro i3 i8))))))
end Go.Bee.Ds
namespace Go.Bee.Ds
open Go Go.Bee Go.Proofs Go.Bee.Ty Go.Bee.Dr Go.Bee.C23 Go.Bee.C23s Go.Bee.C23a Go.Bee.C23n
set_option linter.unusedVariables false
set_option maxRecDepth 20000
attribute [local irreducible] Go.Bee.bwp
theorem pkR_lt (bs : List UInt8) (s : Cu) {n m : Int} (h : n ≤ m) (hm : 1 ≤ m) : 0 ≤ pkR bs s n ∧ pkR bs s n < m := by
  by_cases h1 : 1 ≤ n
  · have := pkR_in bs s h1; omega
  · have : pkR bs s n = 0 := by unfold pkR; rw [if_pos (by omega)]
    omega
theorem pk_nat (bs : List UInt8) (s : Cu) {n m : Int} (h : n ≤ m) (hm : 1 ≤ m) : ∃ j : Nat, pkR bs s n = j ∧ (j : Int) < m := by
  have := pkR_lt bs s h hm
  exact ⟨(pkR bs s n).toNat, by omega, by omega⟩
def ofV (bs : List UInt8) (s : Cu) (l : List Tx) : Tx := l.getD (pkR bs s l.length).toNat []
theorem of_b (bs : List UInt8) (s : Cu) (l : List Tx) (h : s.a ≤ 4611686018427387000) (hl : 1 ≤ l.length) : BRet Tryz.prog 87 [s.c bs] [.ptr (.a 0) 0, .d (.sl 1 (l.map .str))] (.str (ofV bs s l)) [(pkS bs s l.length).c bs] := by
  refine bofp Tryz.func87 ?_
  obtain ⟨j, hj, hjl⟩ := pk_nat bs s (Int.le_refl (l.length : Int)) (by omega)
  have hlt : j < l.length := by omega
  have hx : l[j]? = some l[j] := List.getElem?_eq_getElem hlt
  have hv : ofV bs s l = l[j] := by unfold ofV; rw [hj, Int.toNat_natCast, List.getD_eq_getElem?_getD, hx]; rfl
  rw [hv]
  refine bgo ?_
  refine b_callp (pick_b bs s l.length h) rfl rfl rfl rfl rfl rfl rfl rfl rfl rfl ?_
  rw [hj]
  clear hj hv
  generalize pkS bs s l.length = s1
  refine bgo ?_
  exact ret_1p rfl rfl rfl (fun k => rfl) rfl
def amV (bs : List UInt8) (s : Cu) (l : List Int) : Int := l.getD (pkR bs s l.length).toNat 0
theorem among_b (bs : List UInt8) (s : Cu) (l : List Int) (h : s.a ≤ 4611686018427387000) (hl : 1 ≤ l.length) : BRet Tryz.prog 131 [s.c bs] [.ptr (.a 0) 0, .d (.sl 1 (l.map (.int .i64)))] (.int (amV bs s l)) [(pkS bs s l.length).c bs] := by
  refine bofp Tryz.func131 ?_
  obtain ⟨j, hj, hjl⟩ := pk_nat bs s (Int.le_refl (l.length : Int)) (by omega)
  have hlt : j < l.length := by omega
  have hx : l[j]? = some l[j] := List.getElem?_eq_getElem hlt
  have hv : amV bs s l = l[j] := by unfold amV; rw [hj, Int.toNat_natCast, List.getD_eq_getElem?_getD, hx]; rfl
  rw [hv]
  refine bgo ?_
  refine b_callp (pick_b bs s l.length h) rfl rfl rfl rfl rfl rfl rfl rfl rfl rfl ?_
  rw [hj]
  clear hj hv
  generalize pkS bs s l.length = s1
  refine bgo ?_
  exact ret_1p rfl rfl rfl (fun k => rfl) rfl
def lea (a b : Int) : Int := if a < b then a else b
theorem least_b (a b : Int) : BRet Tryz.prog 132 [] [.int a, .int b] (.int (lea a b)) [] := by
  refine bof Tryz.func132 ?_
  unfold lea
  by_cases h : a < b
  · rw [if_pos h]
    refine bgo ?_
    trivial
  · rw [if_neg h]
    refine bgo ?_
    trivial
def N6 : List Tx := [[97], [98], [99], [100], [101], [102]]
theorem n6_at {j : Nat} (h : (j : Int) < 6) : ([.str [97], .str [98], .str [99], .str [100], .str [101], .str [102]] : List PD)[j]? = some (.str (N6.getD j [])) := by
  match j, h with
  | 0, _ => rfl
  | 1, _ => rfl
  | 2, _ => rfl
  | 3, _ => rfl
  | 4, _ => rfl
  | 5, _ => rfl
  | n + 6, h => omega
def thV (bs : List UInt8) (s : Cu) (k : Int) : Th := ⟨N6.getD (pkR bs s (lea k 6)).toNat [], pkR bs (pkS bs s (lea k 6)) 3 == 0⟩
def thS (bs : List UInt8) (s : Cu) (k : Int) : Cu := pkS bs (pkS bs s (lea k 6)) 3
theorem thS_a (bs : List UInt8) (s : Cu) (k : Int) : (thS bs s k).a ≤ s.a + 4 := by
  have h1 := pkS_a bs s (lea k 6)
  have h2 := pkS_a bs (pkS bs s (lea k 6)) 3
  unfold thS; omega
theorem thesis_b (bs : List UInt8) (s : Cu) (k : Int) (h : s.a ≤ 4611686018427386000) : BRet Tryz.prog 85 [s.c bs] [.ptr (.a 0) 0, .int k] (.agg [.str (thV bs s k).n, .bool (thV bs s k).g]) [(thS bs s k).c bs] := by
  refine bofp Tryz.func85 ?_
  have hle : lea k 6 ≤ 6 := by unfold lea; split <;> omega
  obtain ⟨j, hj, hjl⟩ := pk_nat bs s hle (by decide)
  have hx := n6_at hjl
  have ha := pkS_a bs s (lea k 6)
  unfold thV thS
  rw [hj, Int.toNat_natCast]
  refine bgo ?_
  refine b_call (least_b k 6) rfl rfl rfl rfl ?_
  refine bgo ?_
  refine b_callp (pick_b bs s (lea k 6) (by omega)) rfl rfl rfl rfl rfl (by kernel_rfl) (by kernel_rfl) rfl rfl rfl ?_
  rw [hj]
  generalize pkS bs s (lea k 6) = s1 at *
  refine bgo ?_
  refine b_callp (one_b bs s1 3 (by omega)) rfl rfl rfl rfl rfl (by kernel_rfl) (by kernel_rfl) rfl rfl rfl ?_
  generalize N6.getD j [] = nm at *
  generalize (pkR bs s1 3 == 0) = g
  generalize pkS bs s1 3 = s2
  refine bgo ?_
  refine ⟨rfl, ?_⟩
  exact ret_cp rfl rfl ty30 rfl rfl rfl rfl rfl (fun k => rfl) rfl
def thsL (bs : List UInt8) (k : Int) : Nat → List Th → Cu → List Th × Cu
  | 0, out, s => (out, s)
  | n + 1, out, s => thsL bs k n (out ++ [thV bs s k]) (thS bs s k)
theorem thsL_len (bs : List UInt8) (k : Int) : ∀ (n : Nat) (out : List Th) (s : Cu), (thsL bs k n out s).1.length = out.length + n ∧ (thsL bs k n out s).2.a ≤ s.a + 4 * n
  | 0, out, s => ⟨rfl, Nat.le_refl _⟩
  | n + 1, out, s => by
    obtain ⟨h1, h2⟩ := thsL_len bs k n (out ++ [thV bs s k]) (thS bs s k)
    have h3 := thS_a bs s k
    unfold thsL
    simp at h1
    omega
def thsP (bs : List UInt8) (s : Cu) (c m : Int) : List Th × Cu := if m > 0 then thsL bs m (pkR bs s (c + 1)).toNat [] (pkS bs s (c + 1)) else ([], pkS bs s (c + 1))
theorem thsP_in (bs : List UInt8) (s : Cu) (c m : Int) (hc : c ≤ 2) : (thsP bs s c m).1.length ≤ 2 ∧ (thsP bs s c m).2.a ≤ s.a + 10 := by
  obtain ⟨j, hj, hjl⟩ := pk_nat bs s (show c + 1 ≤ 3 by omega) (by decide)
  have h1 := pkS_a bs s (c + 1)
  unfold thsP
  rw [hj, Int.toNat_natCast]
  split
  · obtain ⟨h2, h3⟩ := thsL_len bs m j [] (pkS bs s (c + 1))
    simp at h2
    omega
  · exact ⟨Nat.zero_le _, by dsimp only; omega⟩
theorem theses_b (bs : List UInt8) (s : Cu) (c m : Int) (h : s.a ≤ 4611686018427380000) (hc : c ≤ 2) (hc0 : 0 ≤ c) : BRet Tryz.prog 144 [s.c bs] [.ptr (.a 0) 0, .int c, .int m] (.own 30 2 ((thsP bs s c m).1.map Th.e)) [(thsP bs s c m).2.c bs] := by
  refine bofp Tryz.func144 ?_
  obtain ⟨j, hj, hjl⟩ := pk_nat bs s (show c + 1 ≤ 3 by omega) (by decide)
  have ha := pkS_a bs s (c + 1)
  have hP : thsP bs s c m = if m > 0 then thsL bs m j [] (pkS bs s (c + 1)) else ([], pkS bs s (c + 1)) := by unfold thsP; rw [hj, Int.toNat_natCast]
  generalize thsP bs s c m = res at *
  refine bgo ?_
  refine b_callp (pick_b bs s (c + 1) (by omega)) rfl rfl rfl rfl rfl rfl rfl rfl rfl rfl ?_
  rw [hj]
  generalize pkS bs s (c + 1) = s1 at *
  clear hj
  by_cases hm : m > 0
  · rw [if_pos hm] at hP
    replace hP := hP.symm
    refine bgo ?_
    refine b_lp (ι := Nat × List Th × Cu) (fun i => [(0, .ptr (.a 0) 0), (2, .int m), (7, .own 30 2 (i.2.1.map Th.e)), (8, .int i.1)]) (fun i => [(.a 0, i.2.2.c bs)])
      (fun i => i.1 ≤ j ∧ i.2.1.length + i.1 = j ∧ i.2.2.a + 4 * i.1 ≤ s1.a + 4 * j ∧ thsL bs m i.1 i.2.1 i.2.2 = res) (fun i => i.1) (j, [], s1) hs ⟨Nat.le_refl _, by simp, Nat.le_refl _, hP⟩ ?_
    clear hP
    rintro ⟨k, out, s2⟩ ⟨hk, hl, hsa, hr⟩ I nx
    dsimp only at hk hl hsa hr ⊢
    cases k with
    | zero =>
      subst hr
      have hz : ¬ ((0 : Nat) : Int) > 0 := by omega
      refine bgo ?_
      refine wk_rfl ?_
      refine bgo ?_
      exact ret_1p rfl rfl rfl (fun k => rfl) rfl
    | succ k =>
      have hz : ((k + 1 : Nat) : Int) > 0 := by omega
      have hs3 := thS_a bs s2 m
      unfold thsL at hr
      refine bgo ?_
      refine b_callp (thesis_b bs s2 m (by omega)) rfl rfl rfl rfl rfl rfl rfl rfl rfl rfl ?_
      generalize thV bs s2 m = t at *
      generalize thS bs s2 m = s3 at *
      refine bgo ?_
      rw [append_th, show ((k + 1 : Nat) : Int) - 1 = k by omega]
      exact nx.go (k, out ++ [t], s3) ⟨by omega, by simp; omega, by dsimp only; omega, hr⟩ (by dsimp only; omega) hs
  · rw [if_neg hm] at hP
    subst hP
    refine bgo ?_
    refine b_lp (ι := Unit) (fun i => [(0, .ptr (.a 0) 0), (2, .int m), (7, .own 30 2 []), (8, .int j)]) (fun i => [(.a 0, s1.c bs)]) (fun _ => True) (fun _ => 0) () hs trivial ?_
    rintro _ _ I nx
    by_cases hj0 : (j : Int) > 0
    · refine bgo ?_
      refine wk_rfl ?_
      refine bgo ?_
      exact ret_1p rfl rfl rfl (fun k => rfl) rfl
    · refine bgo ?_
      refine wk_rfl ?_
      refine bgo ?_
      exact ret_1p rfl rfl rfl (fun k => rfl) rfl
end Go.Bee.Ds

/- Chapter 23: the case that the cursor draws. -/
namespace Go.Bee.Dt
open Go Go.Bee Go.Proofs Go.Bee.Ty Go.Bee.C23
theorem bCs0 : evBuild Tryz.prog 28 [] = some (.agg [.nilS, .nilS, .nilS]) := by kernel_rfl
theorem bRu2 : ∀ (a : List UInt8) (b : Bool) (w : Int), evBuild Tryz.prog 36 [(2, .agg [.d (.str a), .d (.bool b)]), (3, .d (.int .i64 w))] = some (.agg [.nilS, .nilS, .d (.str a), .d (.bool b), .d (.int .i64 w)]) := fun a b w => by kernel_rfl
theorem sRu2 : ∀ (p e : List PD) (a : List UInt8) (b : Bool) (w : Int), evBuildSlice Tryz.prog 25 1 [(0, .agg [.d (.sl 2 p), .d (.sl 2 e), .d (.str a), .d (.bool b), .d (.int .i64 w)])] = some (.own 36 5 [.agg [.sl 2 p, .sl 2 e, .str a, .bool b, .int .i64 w]]) := fun p e a b w => by kernel_rfl
theorem bSd : ∀ (a : List UInt8) (k : Int), evBuild Tryz.prog 116 [(0, .d (.str a)), (1, .d (.int .i64 k))] = some (.agg [.d (.str a), .d (.int .i64 k)]) := fun a k => by kernel_rfl
theorem sSd : ∀ (a : List UInt8) (k : Int), evBuildSlice Tryz.prog 26 1 [(0, .agg [.d (.str a), .d (.int .i64 k)])] = some (.own 116 2 [.agg [.str a, .int .i64 k]]) := fun a k => by kernel_rfl
theorem tys : type_of% (And.intro Go.Bee.Ds.tys (And.intro bCs0 (And.intro sRu2 (And.intro bSd sSd)))) := And.intro Go.Bee.Ds.tys (And.intro bCs0 (And.intro sRu2 (And.intro bSd sSd)))
end Go.Bee.Dt
namespace Go.Bee.Dt
open Go Go.Bee Go.Proofs Go.Bee.Ty Go.Bee.Dr Go.Bee.Ds Go.Bee.C23 Go.Bee.C23s Go.Bee.C23a Go.Bee.C23n
set_option linter.unusedVariables false
set_option maxRecDepth 20000
attribute [local irreducible] Go.Bee.bwp
def W8 : List Int := [1, 100, 300, 400, 500, 600, 700, 1000]
def d1 (bs : List UInt8) : Nat → List Th → Cu → List Th × Cu
  | 0, fs, s => (fs, s)
  | n + 1, fs, s => if (pkR bs s 2 == 0) = true then d1 bs n (fs ++ [⟨N6.getD (3 - n) [], pkR bs (pkS bs s 2) 3 == 0⟩]) (pkS bs (pkS bs s 2) 3) else d1 bs n fs (pkS bs s 2)
def ruD (bs : List UInt8) (s : Cu) : Ru × Cu :=
  let p1 := thsP bs (pkS bs (pkS bs (pkS bs s 5) 3) W8.length) 2 (1 + pkR bs s 5)
  let p2 := thsP bs p1.2 1 (1 + pkR bs s 5)
  (⟨p1.1, p2.1, ⟨N6.getD (1 + pkR bs s 5).toNat [], pkR bs (pkS bs s 5) 3 == 0⟩, amV bs (pkS bs (pkS bs s 5) 3) W8⟩, p2.2)
def d2 (bs : List UInt8) : Nat → List Ru → Cu → List Ru × Cu
  | 0, rs, s => (rs, s)
  | n + 1, rs, s => d2 bs n (rs ++ [(ruD bs s).1]) (ruD bs s).2
def d3 (bs : List UInt8) : Nat → List Sd → Cu → List Sd × Cu
  | 0, ss, s => (ss, s)
  | n + 1, ss, s => if (pkR bs s 3 == 0) = true then d3 bs n (ss ++ [⟨N6.getD (5 - n) [], 1 + pkR bs (pkS bs s 3) 4⟩]) (pkS bs (pkS bs s 3) 4) else d3 bs n ss (pkS bs s 3)
theorem d1_in (bs : List UInt8) : ∀ (n : Nat) (fs : List Th) (s : Cu), (d1 bs n fs s).1.length ≤ fs.length + n ∧ (d1 bs n fs s).2.a ≤ s.a + 4 * n
  | 0, fs, s => ⟨Nat.le_refl _, Nat.le_refl _⟩
  | n + 1, fs, s => by
    have a1 := pkS_a bs s 2
    have a2 := pkS_a bs (pkS bs s 2) 3
    unfold d1
    split
    · obtain ⟨h1, h2⟩ := d1_in bs n (fs ++ [⟨N6.getD (3 - n) [], pkR bs (pkS bs s 2) 3 == 0⟩]) (pkS bs (pkS bs s 2) 3)
      rw [List.length_append] at h1; simp only [List.length_cons, List.length_nil] at h1; omega
    · obtain ⟨h1, h2⟩ := d1_in bs n fs (pkS bs s 2)
      omega
theorem d3_in (bs : List UInt8) : ∀ (n : Nat) (fs : List Sd) (s : Cu), (d3 bs n fs s).1.length ≤ fs.length + n ∧ (d3 bs n fs s).2.a ≤ s.a + 4 * n
  | 0, fs, s => ⟨Nat.le_refl _, Nat.le_refl _⟩
  | n + 1, fs, s => by
    have a1 := pkS_a bs s 3
    have a2 := pkS_a bs (pkS bs s 3) 4
    unfold d3
    split
    · obtain ⟨h1, h2⟩ := d3_in bs n (fs ++ [⟨N6.getD (5 - n) [], 1 + pkR bs (pkS bs s 3) 4⟩]) (pkS bs (pkS bs s 3) 4)
      rw [List.length_append] at h1; simp only [List.length_cons, List.length_nil] at h1; omega
    · obtain ⟨h1, h2⟩ := d3_in bs n fs (pkS bs s 3)
      omega
theorem ruD_a (bs : List UInt8) (s : Cu) : (ruD bs s).2.a ≤ s.a + 26 := by
  have a1 := pkS_a bs s 5
  have a2 := pkS_a bs (pkS bs s 5) 3
  have a3 := pkS_a bs (pkS bs (pkS bs s 5) 3) W8.length
  have a4 := thsP_in bs (pkS bs (pkS bs (pkS bs s 5) 3) W8.length) 2 (1 + pkR bs s 5) (by decide)
  have a5 := thsP_in bs (thsP bs (pkS bs (pkS bs (pkS bs s 5) 3) W8.length) 2 (1 + pkR bs s 5)).2 1 (1 + pkR bs s 5) (by decide)
  unfold ruD
  dsimp only
  omega
theorem d2_in (bs : List UInt8) : ∀ (n : Nat) (rs : List Ru) (s : Cu), (d2 bs n rs s).1.length = rs.length + n ∧ (d2 bs n rs s).2.a ≤ s.a + 26 * n
  | 0, fs, s => ⟨rfl, Nat.le_refl _⟩
  | n + 1, rs, s => by
    have a1 := ruD_a bs s
    unfold d2
    obtain ⟨h1, h2⟩ := d2_in bs n (rs ++ [(ruD bs s).1]) (ruD bs s).2
    rw [List.length_append] at h1; simp only [List.length_cons, List.length_nil] at h1; omega
def disP (bs : List UInt8) (s : Cu) : Cs × Cu :=
  let p1 := d1 bs 4 [] s
  let p2 := d2 bs (pkR bs p1.2 8).toNat [] (pkS bs p1.2 8)
  let p3 := d3 bs 6 [] p2.2
  (⟨p1.1, p2.1, p3.1⟩, p3.2)
theorem append_ru (rs : List Ru) (p e : List Th) (a : Tx) (b : Bool) (w : Int) : rs.map Ru.e ++ [.agg [.sl 2 (p.map Th.e), .sl 2 (e.map Th.e), .str a, .bool b, .int .i64 w]] = (rs ++ [(⟨p, e, ⟨a, b⟩, w⟩ : Ru)]).map Ru.e := by rw [List.map_append]; rfl
theorem append_sd (ss : List Sd) (a : Tx) (k : Int) : ss.map Sd.e ++ [.agg [.str a, .int .i64 k]] = (ss ++ [(⟨a, k⟩ : Sd)]).map Sd.e := by rw [List.map_append]; rfl
theorem append_th' (fs : List Th) (a : Tx) (b : Bool) : fs.map Th.e ++ [.agg [.str a, .bool b]] = (fs ++ [(⟨a, b⟩ : Th)]).map Th.e := by rw [List.map_append]; rfl
abbrev P6 : List PD := [.str [97], .str [98], .str [99], .str [100], .str [101], .str [102]]
abbrev caseC (fs : List Th) (rs : List Ru) (ss : List Sd) : List PV := [.own 30 2 (fs.map Th.e), .own 36 5 (rs.map Ru.e), .own 116 2 (ss.map Sd.e)]
theorem dispute_b (bs : List UInt8) (s : Cu) (h : s.a ≤ 4611686018427370000) : BRet Tryz.prog 129 [s.c bs] [.ptr (.a 0) 0] (.agg (caseC (disP bs s).1.fs (disP bs s).1.rs (disP bs s).1.ss)) [(disP bs s).2.c bs] := by
  refine bofp Tryz.func129 ?_
  have e0 : disP bs s = (⟨(d1 bs 4 [] s).1, (d2 bs (pkR bs (d1 bs 4 [] s).2 8).toNat [] (pkS bs (d1 bs 4 [] s).2 8)).1, (d3 bs 6 [] (d2 bs (pkR bs (d1 bs 4 [] s).2 8).toNat [] (pkS bs (d1 bs 4 [] s).2 8)).2).1⟩, (d3 bs 6 [] (d2 bs (pkR bs (d1 bs 4 [] s).2 8).toNat [] (pkS bs (d1 bs 4 [] s).2 8)).2).2) := rfl
  rw [e0]
  dsimp only
  clear e0
  have hd1 := d1_in bs 4 [] s
  obtain ⟨q1, hq1⟩ : ∃ q, d1 bs 4 [] s = q := ⟨_, rfl⟩
  rw [hq1] at hd1 ⊢
  obtain ⟨n2, hn2, hn2l⟩ := pk_nat bs q1.2 (Int.le_refl 8) (by decide)
  rw [hn2, Int.toNat_natCast]
  refine bgo ?_
  refine b_lp (ι := Nat × List Th × Cu) (fun i => [(0, .ptr (.a 0) 0), (2, .ptr (.t 2) 0), (3, .ptr (.t 3) 0), (4, .d (.sl 1 P6)), (5, .int i.1)]) (fun i => [(.a 0, i.2.2.c bs), (.t 2, [.nilS, .nilS, .nilS]), (.t 3, caseC i.2.1 [] [])])
    (fun i => i.1 ≤ 4 ∧ i.2.1.length ≤ i.1 ∧ i.2.2.a ≤ s.a + 4 * i.1 ∧ d1 bs (4 - i.1) i.2.1 i.2.2 = q1) (fun i => 4 - i.1) (0, [], s) hs ⟨Nat.zero_le _, Nat.le_refl _, Nat.le_refl _, hq1⟩ ?_
  clear hq1
  rintro ⟨k, fs, s2⟩ ⟨hk, hl, hsa, hr⟩ I nx
  dsimp only at hk hl hsa hr ⊢
  by_cases hlt : (k : Int) < 4
  · rw [show 4 - k = (3 - k) + 1 by omega] at hr
    unfold d1 at hr
    rw [show 3 - (3 - k) = k by omega] at hr
    have hx := n6_at (j := k) (by omega)
    have a1 := pkS_a bs s2 2
    have a2 := pkS_a bs (pkS bs s2 2) 3
    refine bgo ?_
    refine b_callp (one_b bs s2 2 (by omega)) rfl rfl rfl rfl rfl rfl rfl rfl rfl rfl ?_
    generalize pkS bs s2 2 = s3 at *
    cases hb : (pkR bs s2 2 == 0)
    · rw [hb, if_neg (by decide)] at hr
      refine bgo ?_
      exact nx.go (k + 1, fs, s3) ⟨by omega, by dsimp only; omega, by dsimp only; omega, by rw [show 4 - (k + 1) = 3 - k by omega]; exact hr⟩ (by dsimp only; omega) hs
    · rw [hb, if_pos rfl] at hr
      refine bgo ?_
      refine ⟨rfl, ?_⟩
      refine b_callp (one_b bs s3 3 (by omega)) rfl rfl rfl rfl rfl (by kernel_rfl) (by kernel_rfl) rfl rfl rfl ?_
      generalize (pkR bs s3 3 == 0) = g at *
      generalize pkS bs s3 3 = s4 at *
      generalize N6.getD k [] = nm at *
      refine bgo ?_
      refine ⟨rfl, ?_⟩
      rw [append_th']
      exact nx.go (k + 1, fs ++ [⟨nm, g⟩], s4) ⟨by omega, by simp; omega, by dsimp only; omega, by rw [show 4 - (k + 1) = 3 - k by omega]; exact hr⟩ (by dsimp only; omega) hs
  · obtain rfl : k = 4 := by omega
    replace hr : (fs, s2) = q1 := hr
    subst hr
    dsimp only at hn2 hd1 ⊢
    have hfl : fs.length ≤ 4 := by omega
    clear nx hd1 hl
    refine bgo ?_
    refine wk_rfl ?_
    refine bgo ?_
    have a1 := pkS_a bs s2 8
    refine b_callp (pick_b bs s2 8 (by omega)) rfl rfl rfl rfl rfl rfl rfl rfl rfl rfl ?_
    rw [hn2]
    clear hn2
    generalize pkS bs s2 8 = s3 at *
    have hd2 := d2_in bs n2 [] s3
    obtain ⟨q2, hq2⟩ : ∃ q, d2 bs n2 [] s3 = q := ⟨_, rfl⟩
    rw [hq2] at hd2 ⊢
    refine bgo ?_
    refine b_lp (ι := Nat × List Ru × Cu) (fun i => [(0, .ptr (.a 0) 0), (2, .ptr (.t 2) 0), (3, .ptr (.t 3) 0), (4, .d (.sl 1 P6)), (6, .int i.1)]) (fun i => [(.a 0, i.2.2.c bs), (.t 2, [.nilS, .nilS, .nilS]), (.t 3, caseC fs i.2.1 [])])
      (fun i => i.1 ≤ n2 ∧ i.2.1.length + i.1 = n2 ∧ i.2.2.a + 26 * i.1 ≤ s3.a + 26 * n2 ∧ d2 bs i.1 i.2.1 i.2.2 = q2) (fun i => i.1) (n2, [], s3) hs ⟨Nat.le_refl _, by simp, Nat.le_refl _, hq2⟩ ?_
    clear hq2
    rintro ⟨k, rs, s4⟩ ⟨hk2, hl2, hsa2, hr2⟩ I nx
    dsimp only at hk2 hl2 hsa2 hr2 ⊢
    cases k with
    | succ k =>
      have hz : ((k + 1 : Nat) : Int) > 0 := by omega
      have hra := ruD_a bs s4
      unfold d2 at hr2
      have b1 := pkS_a bs s4 5
      have b2 := pkS_a bs (pkS bs s4 5) 3
      have b3 := pkS_a bs (pkS bs (pkS bs s4 5) 3) W8.length
      have hv := pkR_lt bs s4 (Int.le_refl 5) (by decide)
      have b4 := thsP_in bs (pkS bs (pkS bs (pkS bs s4 5) 3) W8.length) 2 (1 + pkR bs s4 5) (by decide)
      have b5 := thsP_in bs (thsP bs (pkS bs (pkS bs (pkS bs s4 5) 3) W8.length) 2 (1 + pkR bs s4 5)).2 1 (1 + pkR bs s4 5) (by decide)
      unfold ruD at hr2 hra
      dsimp only at hr2 hra
      refine bgo ?_
      refine b_callp (pick_b bs s4 5 (by omega)) rfl rfl rfl rfl rfl rfl rfl rfl rfl rfl ?_
      generalize pkR bs s4 5 = v at *
      generalize pkS bs s4 5 = s5 at *
      have hx := n6_at (j := (1 + v).toNat) (by omega)
      have hv0 : 0 ≤ 1 + v := by omega
      generalize N6.getD (1 + v).toNat [] = nm at *
      refine bgo ?_
      refine b_callp (one_b bs s5 3 (by omega)) rfl rfl rfl rfl rfl (by kernel_rfl) (by kernel_rfl) rfl rfl rfl ?_
      generalize (pkR bs s5 3 == 0) = g at *
      generalize pkS bs s5 3 = s6 at *
      refine bgo ?_
      refine b_callp (among_b bs s6 W8 (by omega) (by decide)) rfl rfl rfl rfl rfl (by kernel_rfl) (by kernel_rfl) rfl rfl rfl ?_
      generalize amV bs s6 W8 = wv at *
      generalize pkS bs s6 W8.length = s7 at *
      refine bgo ?_
      refine ⟨rfl, rfl, ?_⟩
      refine b_callp (theses_b bs s7 2 (1 + v) (by omega) (by decide) (by decide)) rfl rfl rfl rfl rfl rfl rfl rfl rfl rfl ?_
      generalize thsP bs s7 2 (1 + v) = p1 at *
      refine bgo ?_
      refine b_callp (theses_b bs p1.2 1 (1 + v) (by omega) (by decide) (by decide)) rfl rfl rfl rfl rfl rfl rfl rfl rfl rfl ?_
      generalize thsP bs p1.2 1 (1 + v) = p2 at *
      refine bgo ?_
      rw [append_ru, show ((k + 1 : Nat) : Int) - 1 = k by omega]
      exact nx.go (k, rs ++ [⟨p1.1, p2.1, ⟨nm, g⟩, wv⟩], p2.2) ⟨by omega, by simp; omega, by dsimp only; omega, hr2⟩ (by dsimp only; omega) hs
    | zero =>
      replace hr2 : (rs, s4) = q2 := hr2
      subst hr2
      dsimp only at hd2 ⊢
      have hz : ¬ ((0 : Nat) : Int) > 0 := by omega
      have hrl : rs.length ≤ 8 := by omega
      clear nx hd2
      have hd3 := d3_in bs 6 [] s4
      obtain ⟨q3, hq3⟩ : ∃ q, d3 bs 6 [] s4 = q := ⟨_, rfl⟩
      rw [hq3] at hd3 ⊢
      refine bgo ?_
      refine wk_rfl ?_
      refine bgo ?_
      refine b_lp (ι := Nat × List Sd × Cu) (fun i => [(0, .ptr (.a 0) 0), (2, .ptr (.t 2) 0), (3, .ptr (.t 3) 0), (4, .d (.sl 1 P6)), (9, .int i.1)]) (fun i => [(.a 0, i.2.2.c bs), (.t 2, [.nilS, .nilS, .nilS]), (.t 3, caseC fs rs i.2.1)])
        (fun i => i.1 ≤ 6 ∧ i.2.1.length ≤ i.1 ∧ i.2.2.a ≤ s4.a + 4 * i.1 ∧ d3 bs (6 - i.1) i.2.1 i.2.2 = q3) (fun i => 6 - i.1) (0, [], s4) hs ⟨Nat.zero_le _, Nat.le_refl _, Nat.le_refl _, hq3⟩ ?_
      clear hq3
      rintro ⟨k, ss, s5⟩ ⟨hk3, hl3, hsa3, hr3⟩ I nx
      dsimp only at hk3 hl3 hsa3 hr3 ⊢
      by_cases hlt3 : (k : Int) < 6
      · rw [show 6 - k = (5 - k) + 1 by omega] at hr3
        unfold d3 at hr3
        rw [show 5 - (5 - k) = k by omega] at hr3
        have hx := n6_at (j := k) (by omega)
        have c1 := pkS_a bs s5 3
        have c2 := pkS_a bs (pkS bs s5 3) 4
        refine bgo ?_
        refine b_callp (one_b bs s5 3 (by omega)) rfl rfl rfl rfl rfl rfl rfl rfl rfl rfl ?_
        generalize pkS bs s5 3 = s6 at *
        cases hb : (pkR bs s5 3 == 0)
        · rw [hb, if_neg (by decide)] at hr3
          refine bgo ?_
          exact nx.go (k + 1, ss, s6) ⟨by omega, by dsimp only; omega, by dsimp only; omega, by rw [show 6 - (k + 1) = 5 - k by omega]; exact hr3⟩ (by dsimp only; omega) hs
        · rw [hb, if_pos rfl] at hr3
          have hv4 := pkR_lt bs s6 (Int.le_refl 4) (by decide)
          refine bgo ?_
          refine ⟨rfl, ?_⟩
          refine b_callp (pick_b bs s6 4 (by omega)) rfl rfl rfl rfl rfl (by kernel_rfl) (by kernel_rfl) rfl rfl rfl ?_
          generalize pkR bs s6 4 = v at *
          generalize pkS bs s6 4 = s7 at *
          generalize N6.getD k [] = nm at *
          refine bgo ?_
          refine ⟨rfl, ?_⟩
          rw [append_sd]
          exact nx.go (k + 1, ss ++ [⟨nm, 1 + v⟩], s7) ⟨by omega, by simp; omega, by dsimp only; omega, by rw [show 6 - (k + 1) = 5 - k by omega]; exact hr3⟩ (by dsimp only; omega) hs
      · obtain rfl : k = 6 := by omega
        replace hr3 : (ss, s5) = q3 := hr3
        subst hr3
        dsimp only
        refine bgo ?_
        refine wk_rfl ?_
        refine bgo ?_
        exact ret_cp rfl rfl ty28 rfl rfl rfl rfl rfl (fun k => rfl) rfl
end Go.Bee.Dt

/- Chapter 23: a case with a flaw, as the cursor draws it. -/
namespace Go.Bee
open Go
theorem BRet.res {P : Program} {f : Nat} {bi bo : List (List PV)} {args : List PV} {r r' : PV} (h : BRet P f bi args r bo) (hle : PLe r r') : BRet P f bi args r' bo :=
  ⟨h.1, h.2.1, fun G w vs Wr a b c d e g g2 tb => Calls.mono (h.2.2 G w vs Wr a b c d e g g2 tb) fun x w' hx => by
    obtain ⟨v, G', h1, h2, h3⟩ := hx
    exact ⟨v, G', h1, hle.t _ _ _ _ _ h2, h3⟩⟩
theorem CLe.own' {e sz : Nat} {l l' : List PD} (hl : l'.length = l.length) (hu : ∀ x ∈ l', x.cells.length = sz) (hd : ∀ (S : Nat → Nat → Prop) (w : World) (v : Value), RepD S w (.sl sz l) v → RepD S w (.sl sz l') v) : CLe (.own e sz l) (.own e sz l') := ⟨fun P G w p v hv => by
  obtain ⟨h1, h2⟩ := hv
  refine ⟨hd _ _ _ h1, ?_⟩
  rcases h2 with ⟨h3, h4⟩ | ⟨vs, h3, h4, h5⟩
  · refine .inl ⟨by rw [hl]; exact h3, fun hne => h4 fun he => hne ?_⟩
    subst he
    exact List.length_eq_zero_iff.1 hl
  · exact .inr ⟨vs, by rw [hl]; exact h3, ⟨fun e => h4.1 (by rw [e] at hl; exact List.length_eq_zero_iff.1 hl.symm), hu⟩, h5⟩⟩
/-- The last row may be read as another. -/
theorem rowLast {S : Nat → Nat → Prop} {w : World} {sz : Nat} {l : List PD} {x y : PD} {v : Value} (hu : ∀ e ∈ l, e.cells.length = sz) (hs : ∀ c ∈ flat l, c.scalar = true) (hx : x.cells.length = sz) (hy : y.cells.length = sz)
    (hxy : ∀ (i : Nat) a b, x.cells[i]? = some a → y.cells[i]? = some b → b.scalar = true ∧ ∀ u, RepD S w a u → RepD S w b u) (h : RepD S w (.sl sz (l ++ [x])) v) : RepD S w (.sl sz (l ++ [y])) v := by
  have hfl : ∀ (z : PD), flat (l ++ [z]) = flat l ++ z.cells := fun z => by simp [flat]
  refine repSl (by simp) (fun e he => ?_) ?_ (fun i a b ha hb => ?_) h
  · rcases List.mem_append.1 he with h1 | h1
    · exact hu e h1
    · rw [List.mem_singleton.1 h1]; exact hy
  · rw [hfl, hfl, List.length_append, List.length_append, hx, hy]
  · rw [hfl] at ha hb
    by_cases hi : i < (flat l).length
    · rw [List.getElem?_append_left hi] at ha hb
      rw [ha] at hb; cases hb
      exact ⟨hs a (List.mem_of_getElem? ha), fun _ h => h⟩
    · rw [List.getElem?_append_right (by omega)] at ha hb
      exact hxy _ a b ha hb
end Go.Bee
namespace Go.Bee.Du
open Go Go.Bee Go.Proofs Go.Bee.Ty Go.Bee.Dr Go.Bee.Ds Go.Bee.Dt Go.Bee.C23 Go.Bee.C23s Go.Bee.C23a Go.Bee.C23n
/-- A rule whose exceptions (and conditions) were never set. -/
theorem ruLe (rs : List Ru) (p : List Th) (c d : Nat) (q : List PD) (hq : (c = 2 ∧ q = p.map Th.e) ∨ (q = [] ∧ p = [])) (a : Tx) (b : Bool) (w : Int) (e : Nat) : CLe (.own e 5 (rs.map Ru.e ++ [.agg [.sl c q, .sl d [], .str a, .bool b, .int .i64 w]])) (.own e 5 ((rs ++ [(⟨p, [], ⟨a, b⟩, w⟩ : Ru)]).map Ru.e)) := by
  rw [List.map_append]
  have hlen : ∀ e ∈ rs.map Ru.e, e.cells.length = 5 := fun e he => by
    obtain ⟨r, _, rfl⟩ := List.mem_map.1 he; rfl
  refine CLe.own' (by simp) (fun x hx => ?_) fun S w0 v h => rowLast hlen ru_scalar rfl rfl (fun i x y hx hy => ?_) h
  · rcases List.mem_append.1 hx with h1 | h1
    · exact hlen x h1
    · obtain ⟨r, _, rfl⟩ := List.mem_map.1 h1; rfl
  · match i, hx, hy with
    | 0, hx, hy =>
      simp [PD.cells, Ru.e] at hx hy; subst hx; subst hy
      refine ⟨rfl, fun u hu => ?_⟩
      rcases hq with ⟨rfl, rfl⟩ | ⟨rfl, rfl⟩
      · exact hu
      · exact emp_any hu
    | 1, hx, hy => simp [PD.cells, Ru.e] at hx hy; subst hx; subst hy; exact ⟨rfl, fun _ h => emp_any h⟩
    | 2, hx, hy => simp [PD.cells, Ru.e] at hx hy; subst hx; subst hy; exact ⟨rfl, fun _ h => h⟩
    | 3, hx, hy => simp [PD.cells, Ru.e] at hx hy; subst hx; subst hy; exact ⟨rfl, fun _ h => h⟩
    | 4, hx, hy => simp [PD.cells, Ru.e] at hx hy; subst hx; subst hy; exact ⟨rfl, fun _ h => h⟩
    | n + 5, hx, hy => simp [PD.cells] at hx
theorem disP_in (bs : List UInt8) (s : Cu) : (disP bs s).1.fs.length ≤ 4 ∧ (disP bs s).1.rs.length ≤ 8 ∧ (disP bs s).1.ss.length ≤ 6 ∧ (disP bs s).2.a ≤ s.a + 300 := by
  have h1 := d1_in bs 4 [] s
  obtain ⟨n2, hn2, hn2l⟩ := pk_nat bs (d1 bs 4 [] s).2 (Int.le_refl 8) (by decide)
  have h2 := d2_in bs n2 [] (pkS bs (d1 bs 4 [] s).2 8)
  have h3 := d3_in bs 6 [] (d2 bs n2 [] (pkS bs (d1 bs 4 [] s).2 8)).2
  have h4 := pkS_a bs (d1 bs 4 [] s).2 8
  unfold disP
  dsimp only
  rw [hn2, Int.toNat_natCast]
  simp only [List.length_nil] at h1 h2 h3
  omega
def L4 : List Tx := [[97], [], [88], [102]]
def L2 : List Tx := [[97], [103]]
def K3 : List Int := [0, 5, 1001]
def K4 : List Int := [0, 5, 1]
def R7 : Ru := ⟨[], [], ⟨[102], false⟩, 7⟩
def d4 (bs : List UInt8) : Nat → List Ru → Cu → List Ru × Cu
  | 0, rs, s => (rs, pkS bs s 2)
  | n + 1, rs, s => if (rs.length : Int) < 10 + pkR bs s 2 then d4 bs n (rs ++ [R7]) (pkS bs s 2) else (rs, pkS bs s 2)
theorem d4_in (bs : List UInt8) : ∀ (n : Nat) (rs : List Ru) (s : Cu), (d4 bs n rs s).1.length ≤ rs.length + n ∧ (d4 bs n rs s).2.a ≤ s.a + 2 * n + 2
  | 0, rs, s => ⟨Nat.le_refl _, pkS_a bs s 2⟩
  | n + 1, rs, s => by
    have a1 := pkS_a bs s 2
    unfold d4
    split
    · obtain ⟨h1, h2⟩ := d4_in bs n (rs ++ [R7]) (pkS bs s 2)
      rw [List.length_append] at h1; simp only [List.length_cons, List.length_nil] at h1
      omega
    · dsimp only; omega
def anyP (bs : List UInt8) (s : Cu) : Cs × Cu :=
  let p := disP bs s
  let v := pkR bs p.2 30
  let s1 := pkS bs p.2 30
  if v = 0 then (⟨p.1.fs ++ [⟨ofV bs s1 L4, false⟩], p.1.rs, p.1.ss⟩, pkS bs s1 L4.length)
  else if v = 1 then (⟨p.1.fs, p.1.rs ++ [⟨[thV bs s1 6], [], thV bs (thS bs s1 6) 3, amV bs (thS bs (thS bs s1 6) 3) K3⟩], p.1.ss⟩, pkS bs (thS bs (thS bs s1 6) 3) K3.length)
  else if v = 2 then (⟨p.1.fs, p.1.rs, p.1.ss ++ [⟨ofV bs s1 L2, amV bs (pkS bs s1 L2.length) K4⟩]⟩, pkS bs (pkS bs s1 L2.length) K4.length)
  else if v = 3 then (⟨p.1.fs, (d4 bs (11 - p.1.rs.length) p.1.rs s1).1, p.1.ss⟩, (d4 bs (11 - p.1.rs.length) p.1.rs s1).2)
  else (p.1, s1)
end Go.Bee.Du
namespace Go.Bee.Du
open Go Go.Bee Go.Proofs Go.Bee.Ty
theorem bTh1' : ∀ (a : List UInt8), evBuild Tryz.prog 30 [(0, .d (.str a))] = some (.agg [.d (.str a), .d (.bool false)]) := Go.Bee.C23s.bTh1
theorem bRu3 : ∀ (x : PD) (q : List PD) (a : List UInt8) (b : Bool) (w : Int), evBuild Tryz.prog 36 [(0, .own 30 2 (x :: q)), (2, .agg [.d (.str a), .d (.bool b)]), (3, .d (.int .i64 w))] = some (.agg [.d (.sl 2 (x :: q)), .nilS, .d (.str a), .d (.bool b), .d (.int .i64 w)]) := fun x q a b w => by kernel_rfl
theorem sRu3 : ∀ (q : List PD) (a : List UInt8) (b : Bool) (w : Int), evBuildSlice Tryz.prog 25 1 [(0, .agg [.d (.sl 2 q), .nilS, .d (.str a), .d (.bool b), .d (.int .i64 w)])] = some (.own 36 5 [.agg [.sl 2 q, .sl 0 [], .str a, .bool b, .int .i64 w]]) := fun q a b w => by kernel_rfl
theorem tys : type_of% (And.intro Go.Bee.Dt.tys (And.intro bRu3 sRu3)) := And.intro Go.Bee.Dt.tys (And.intro bRu3 sRu3)
end Go.Bee.Du
namespace Go.Bee.Du
open Go Go.Bee Go.Proofs Go.Bee.Ty Go.Bee.Dr Go.Bee.Ds Go.Bee.Dt Go.Bee.C23 Go.Bee.C23s Go.Bee.C23a Go.Bee.C23n
set_option linter.unusedVariables false
set_option maxRecDepth 20000
attribute [local irreducible] Go.Bee.bwp
theorem anyDispute_b (bs : List UInt8) (s : Cu) (h : s.a ≤ 4611686018427360000) : BRet Tryz.prog 84 [s.c bs] [.ptr (.a 0) 0] (.agg (caseC (anyP bs s).1.fs (anyP bs s).1.rs (anyP bs s).1.ss)) [(anyP bs s).2.c bs] := by
  have hd := disP_in bs s
  have hv := pkR_lt bs (disP bs s).2 (Int.le_refl 30) (by decide)
  have ha := pkS_a bs (disP bs s).2 30
  have hdis := dispute_b bs s (by omega)
  unfold anyP
  dsimp only
  generalize disP bs s = q at *
  obtain ⟨⟨fs, rs, ss⟩, s0⟩ := q
  dsimp only at hd hv ha hdis ⊢
  have hpick := pick_b bs s0 30 (by omega)
  generalize pkR bs s0 30 = v at *
  generalize pkS bs s0 30 = s1 at *
  by_cases h0 : v = 0
  · subst h0
    rw [if_pos rfl]
    have hof := of_b bs s1 L4 (by omega) (by decide)
    generalize ofV bs s1 L4 = nm at *
    generalize pkS bs s1 L4.length = s2 at *
    refine bofp Tryz.func84 ?_
    refine bgo ?_
    refine b_callp hdis rfl rfl rfl rfl rfl rfl rfl rfl rfl rfl ?_
    refine bgo ?_
    refine b_callp hpick rfl rfl rfl rfl rfl rfl rfl rfl rfl rfl ?_
    refine bgo ?_
    refine ⟨rfl, ?_⟩
    refine b_callp hof rfl rfl rfl rfl rfl (by kernel_rfl) (by kernel_rfl) rfl rfl rfl ?_
    refine bgo ?_
    refine ⟨rfl, ?_⟩
    rw [append_th']
    exact ret_cp rfl rfl ty28 rfl rfl rfl rfl rfl (fun k => rfl) rfl
  rw [if_neg h0]
  by_cases h2 : v = 2
  · subst h2
    rw [if_neg (by decide), if_pos rfl]
    have hof := of_b bs s1 L2 (by omega) (by decide)
    have ha2 := pkS_a bs s1 L2.length
    generalize ofV bs s1 L2 = nm at *
    generalize pkS bs s1 L2.length = s2 at *
    have ham := among_b bs s2 K4 (by omega) (by decide)
    generalize amV bs s2 K4 = kv at *
    generalize pkS bs s2 K4.length = s3 at *
    refine bofp Tryz.func84 ?_
    refine bgo ?_
    refine b_callp hdis rfl rfl rfl rfl rfl rfl rfl rfl rfl rfl ?_
    refine bgo ?_
    refine b_callp hpick rfl rfl rfl rfl rfl rfl rfl rfl rfl rfl ?_
    refine bgo ?_
    refine ⟨fun h => absurd h (by decide), fun _ => ?_⟩
    refine ⟨rfl, ?_⟩
    refine b_callp hof rfl rfl rfl rfl rfl (by kernel_rfl) (by kernel_rfl) rfl rfl rfl ?_
    refine bgo ?_
    refine b_callp ham rfl rfl rfl rfl rfl (by kernel_rfl) (by kernel_rfl) rfl rfl rfl ?_
    refine bgo ?_
    refine ⟨rfl, ?_⟩
    rw [append_sd]
    exact ret_cp rfl rfl ty28 rfl rfl rfl rfl rfl (fun k => rfl) rfl
  by_cases h1 : v = 1
  · subst h1
    rw [if_pos rfl]
    have ht := thesis_b bs s1 6 (by omega)
    have ha2 := thS_a bs s1 6
    generalize thV bs s1 6 = t at *
    generalize thS bs s1 6 = s2 at *
    have hu := thesis_b bs s2 3 (by omega)
    have ha3 := thS_a bs s2 3
    generalize thV bs s2 3 = u at *
    generalize thS bs s2 3 = s3 at *
    have ham := among_b bs s3 K3 (by omega) (by decide)
    generalize amV bs s3 K3 = kv at *
    generalize pkS bs s3 K3.length = s4 at *
    refine BRet.res (r := .agg [.own 30 2 (fs.map Th.e), .own 36 5 (rs.map Ru.e ++ [.agg [.sl 2 [.agg [.str t.n, .bool t.g]], .sl 0 [], .str u.n, .bool u.g, .int .i64 kv]]), .own 116 2 (ss.map Sd.e)]) ?_
      (PLe.agg3 (ruLe rs [t] 2 0 [t.e] (.inl ⟨rfl, rfl⟩) u.n u.g kv _))
    refine bofp Tryz.func84 ?_
    refine bgo ?_
    refine b_callp hdis rfl rfl rfl rfl rfl rfl rfl rfl rfl rfl ?_
    refine bgo ?_
    refine b_callp hpick rfl rfl rfl rfl rfl rfl rfl rfl rfl rfl ?_
    refine bgo ?_
    refine ⟨rfl, ?_⟩
    refine b_callp ht rfl rfl rfl rfl rfl (by kernel_rfl) (by kernel_rfl) rfl rfl rfl ?_
    refine bgo ?_
    refine b_callp hu rfl rfl rfl rfl rfl (by kernel_rfl) (by kernel_rfl) rfl rfl rfl ?_
    refine bgo ?_
    refine b_callp ham rfl rfl rfl rfl rfl (by kernel_rfl) (by kernel_rfl) rfl rfl rfl ?_
    refine bgo ?_
    refine ⟨rfl, ?_⟩
    exact ret_cp rfl rfl ty28 rfl rfl rfl rfl rfl (fun k => rfl) rfl
  rw [if_neg h1, if_neg h2]
  by_cases h3 : v = 3
  · subst h3
    rw [if_pos rfl]
    dsimp only
    obtain ⟨q, hq⟩ : ∃ q, d4 bs (11 - rs.length) rs s1 = q := ⟨_, rfl⟩
    rw [hq]
    refine bofp Tryz.func84 ?_
    refine bgo ?_
    refine b_callp hdis rfl rfl rfl rfl rfl rfl rfl rfl rfl rfl ?_
    refine bgo ?_
    refine b_callp hpick rfl rfl rfl rfl rfl rfl rfl rfl rfl rfl ?_
    refine bgo ?_
    refine b_lp (ι := Nat × List Ru × Cu) (fun i => [(0, .ptr (.a 0) 0), (2, .ptr (.t 2) 0), (3, .ptr (.t 3) 0)]) (fun i => [(.a 0, i.2.2.c bs), (.t 2, [.nilS, .nilS, .nilS]), (.t 3, caseC fs i.2.1 ss)])
      (fun i => i.1 + i.2.1.length = 11 ∧ i.2.2.a + 2 * i.1 ≤ s1.a + 22 ∧ d4 bs i.1 i.2.1 i.2.2 = q) (fun i => i.1) (11 - rs.length, rs, s1) hs ⟨by dsimp only; omega, by dsimp only; omega, hq⟩ ?_
    clear hq hdis hpick
    rintro ⟨n, rs2, s2⟩ ⟨hn, hsa, hr⟩ I nx
    dsimp only at hn hsa hr ⊢
    have hv2 := pkR_lt bs s2 (Int.le_refl 2) (by decide)
    have ha2 := pkS_a bs s2 2
    have hp2 := pick_b bs s2 2 (by omega)
    have hd : d4 bs n rs2 s2 = if (rs2.length : Int) < 10 + pkR bs s2 2 then d4 bs (n - 1) (rs2 ++ [R7]) (pkS bs s2 2) else (rs2, pkS bs s2 2) := by
      cases n with
      | zero => rw [if_neg (by omega)]; rfl
      | succ n => rfl
    rw [hd] at hr
    clear hd
    generalize pkR bs s2 2 = w at *
    generalize pkS bs s2 2 = s3 at *
    refine bgo ?_
    refine b_callp hp2 rfl rfl rfl rfl rfl (by kernel_rfl) (by kernel_rfl) rfl rfl rfl ?_
    by_cases hc : (rs2.length : Int) < 10 + w
    · rw [if_pos hc] at hr
      refine bgo ?_
      refine nx.go (n - 1, rs2 ++ [R7], s3) ⟨by simp; omega, by dsimp only; omega, hr⟩ (by dsimp only; omega) ?_
      exact ⟨hsT, ⟨_, rfl, ⟨CLe.rfl, rfl⟩, ⟨CLe.rfl, rfl⟩, ⟨CLe.rfl, rfl⟩, trivial⟩, ⟨_, rfl, ⟨CLe.rfl, rfl⟩, ⟨CLe.rfl, rfl⟩, ⟨CLe.rfl, rfl⟩, trivial⟩, ⟨_, rfl, ⟨CLe.rfl, rfl⟩, ⟨ruLe rs2 [] 0 0 [] (.inr ⟨rfl, rfl⟩) [102] false 7 _, rfl⟩, ⟨CLe.rfl, rfl⟩, trivial⟩, trivial⟩
    · rw [if_neg hc] at hr
      subst hr
      refine bgo ?_
      refine wk_rfl ?_
      refine bgo ?_
      exact ret_cp rfl rfl ty28 rfl rfl rfl rfl rfl (fun k => rfl) rfl
  · have h3' : (v == 3) = false := by simpa using h3
    refine bofp Tryz.func84 ?_
    refine bgo ?_
    refine b_callp hdis rfl rfl rfl rfl rfl rfl rfl rfl rfl rfl ?_
    refine bgo ?_
    refine b_callp hpick rfl rfl rfl rfl rfl rfl rfl rfl rfl rfl ?_
    refine bgo ?_
    exact ret_cp rfl rfl ty28 rfl rfl rfl rfl rfl (fun k => rfl) rfl
end Go.Bee.Du

/- Chapter 23: the inputs that are drawn for the laws. -/
namespace Go.Bee.Dv
open Go Go.Bee Go.Proofs Go.Bee.Ty
theorem bCu1 : ∀ (q : List PD), evBuild Tryz.prog 105 [(0, .d (.sl 1 q))] = some (.agg [.d (.sl 1 q), .d (.int .i64 0), .d (.int .u64 0)]) := fun q => by kernel_rfl
theorem tys : type_of% (And.intro Go.Bee.Du.tys bCu1) := And.intro Go.Bee.Du.tys bCu1
end Go.Bee.Dv
namespace Go.Bee.Dv
open Go Go.Bee Go.Proofs Go.Bee.Ty Go.Bee.Dr Go.Bee.Ds Go.Bee.Dt Go.Bee.Du Go.Bee.C23 Go.Bee.C23s Go.Bee.C23a Go.Bee.C23n
set_option linter.unusedVariables false
set_option maxRecDepth 20000
attribute [local irreducible] Go.Bee.bwp
theorem anyP_in (bs : List UInt8) (s : Cu) : (anyP bs s).1.fs.length ≤ 5 ∧ (anyP bs s).1.rs.length ≤ 11 ∧ (anyP bs s).1.ss.length ≤ 7 ∧ (anyP bs s).2.a ≤ s.a + 350 := by
  have hd := disP_in bs s
  have ha := pkS_a bs (disP bs s).2 30
  unfold anyP
  dsimp only
  generalize disP bs s = q at *
  generalize pkS bs q.2 30 = s1 at *
  have e1 := pkS_a bs s1 L4.length
  have e2 := thS_a bs s1 6
  have e3 := thS_a bs (thS bs s1 6) 3
  have e4 := pkS_a bs (thS bs (thS bs s1 6) 3) K3.length
  have e5 := pkS_a bs s1 L2.length
  have e6 := pkS_a bs (pkS bs s1 L2.length) K4.length
  have e7 := d4_in bs (11 - q.1.rs.length) q.1.rs s1
  split
  · simp only [List.length_append, List.length_cons, List.length_nil]; omega
  · split
    · simp only [List.length_append, List.length_cons, List.length_nil]; omega
    · split
      · simp only [List.length_append, List.length_cons, List.length_nil]; omega
      · split
        · dsimp only; omega
        · dsimp only; omega
def L3 : List Tx := [[], [65], [122, 122]]
def drW (bs : List UInt8) : Cs × Th :=
  let p := anyP bs ⟨0, 0⟩
  let t := thV bs p.2 6
  let s2 := thS bs p.2 6
  (p.1, if (pkR bs s2 30 == 0) = true then ⟨ofV bs (pkS bs s2 30) L3, t.g⟩ else t)
theorem DrawWeightsOf_b (bs : List UInt8) : BRet Tryz.prog 36 [] [.d (.sl 1 (by1 bs))] (.tup [.agg (caseC (drW bs).1.fs (drW bs).1.rs (drW bs).1.ss), .agg [.str (drW bs).2.n, .bool (drW bs).2.g]]) [] := by
  refine bof Tryz.func36 ?_
  have hin := anyP_in bs ⟨0, 0⟩
  have hany := anyDispute_b bs ⟨0, 0⟩ (by decide)
  unfold drW
  dsimp only
  generalize anyP bs ⟨0, 0⟩ = q at *
  obtain ⟨⟨fs, rs, ss⟩, s1⟩ := q
  dsimp only at hin hany ⊢
  have ht := thesis_b bs s1 6 (by omega)
  have ha2 := thS_a bs s1 6
  generalize thV bs s1 6 = t at *
  generalize thS bs s1 6 = s2 at *
  have ho := one_b bs s2 30 (by omega)
  have ha3 := pkS_a bs s2 30
  generalize (pkR bs s2 30 == 0) = b at *
  generalize pkS bs s2 30 = s3 at *
  refine bgo ?_
  refine b_callp hany rfl rfl rfl rfl rfl rfl rfl rfl rfl rfl ?_
  refine bgo ?_
  refine b_callp ht rfl rfl rfl rfl rfl rfl rfl rfl rfl rfl ?_
  refine bgo ?_
  refine b_callp ho rfl rfl rfl rfl rfl rfl rfl rfl rfl rfl ?_
  cases b
  · refine bgo ?_
    exact ⟨rfl, rfl, rfl, rfl, ret_cc rfl rfl rfl rfl (by decide) ty28 ty30 rfl rfl rfl rfl rfl rfl rfl (fun k => rfl)⟩
  · have L := of_b bs s3 L3 (by omega) (by decide)
    refine bgo ?_
    refine b_callp L rfl rfl rfl rfl rfl rfl rfl rfl rfl rfl ?_
    refine bgo ?_
    exact ⟨rfl, rfl, rfl, rfl, ret_cc rfl rfl rfl rfl (by decide) ty28 ty30 rfl rfl rfl rfl rfl rfl rfl (fun k => rfl)⟩
theorem DrawNeededWeight_b (bs : List UInt8) : BRet Tryz.prog 15 [] [.d (.sl 1 (by1 bs))] (.tup [.agg (caseC (drW bs).1.fs (drW bs).1.rs (drW bs).1.ss), .agg [.str (drW bs).2.n, .bool (drW bs).2.g]]) [] := by
  refine bof Tryz.func15 ?_
  have h := DrawWeightsOf_b bs
  generalize drW bs = q at *
  obtain ⟨⟨fs, rs, ss⟩, t⟩ := q
  refine bgo ?_
  refine b_call h rfl rfl rfl rfl ?_
  refine bgo ?_
  exact ret_cc rfl rfl rfl rfl (by decide) ty28 ty30 rfl rfl rfl rfl rfl rfl rfl (fun k => rfl)
def L10 : List Tx := [[97], [98], [99], [100], [101], [102], [102], [101], [103], []]
def drS (bs : List UInt8) : Cs × Tx := ((anyP bs ⟨0, 0⟩).1, ofV bs (anyP bs ⟨0, 0⟩).2 L10)
theorem DrawStatusOf_b (bs : List UInt8) : BRet Tryz.prog 80 [] [.d (.sl 1 (by1 bs))] (.tup [.agg (caseC (drS bs).1.fs (drS bs).1.rs (drS bs).1.ss), .str (drS bs).2]) [] := by
  refine bof Tryz.func80 ?_
  have hin := anyP_in bs ⟨0, 0⟩
  have hany := anyDispute_b bs ⟨0, 0⟩ (by decide)
  unfold drS
  dsimp only
  generalize anyP bs ⟨0, 0⟩ = q at *
  obtain ⟨⟨fs, rs, ss⟩, s1⟩ := q
  dsimp only at hin hany ⊢
  have L := of_b bs s1 L10 (by omega) (by decide)
  refine bgo ?_
  refine b_callp hany rfl rfl rfl rfl rfl rfl rfl rfl rfl rfl ?_
  refine bgo ?_
  refine b_callp L rfl rfl rfl rfl rfl rfl rfl rfl rfl rfl ?_
  refine bgo ?_
  exact ret_ct rfl rfl rfl ty28 rfl rfl rfl rfl rfl (fun k => rfl)
theorem DrawDecisiveFacts_b (bs : List UInt8) : BRet Tryz.prog 31 [] [.d (.sl 1 (by1 bs))] (.tup [.agg (caseC (drS bs).1.fs (drS bs).1.rs (drS bs).1.ss), .str (drS bs).2]) [] := by
  refine bof Tryz.func31 ?_
  have h := DrawStatusOf_b bs
  generalize drS bs = q at *
  obtain ⟨⟨fs, rs, ss⟩, t⟩ := q
  refine bgo ?_
  refine b_call h rfl rfl rfl rfl ?_
  refine bgo ?_
  exact ret_ct rfl rfl rfl ty28 rfl rfl rfl rfl rfl (fun k => rfl)
theorem drW_in (bs : List UInt8) : (drW bs).1.fs.length ≤ 5 ∧ (drW bs).1.rs.length ≤ 11 ∧ (drW bs).1.ss.length ≤ 7 := by
  have := anyP_in bs ⟨0, 0⟩
  unfold drW
  dsimp only
  omega
theorem drS_in (bs : List UInt8) : (drS bs).1.fs.length ≤ 5 ∧ (drS bs).1.rs.length ≤ 11 ∧ (drS bs).1.ss.length ≤ 7 := by
  have := anyP_in bs ⟨0, 0⟩
  unfold drS
  dsimp only
  omega
end Go.Bee.Dv

/- Chapter 23: FnProofRules. -/
namespace Go.Bee.Pr
open Go Go.Bee Go.Proofs Go.Bee.Ty
theorem tys : type_of% (And.intro Go.Bee.Fw.tys Go.Bee.Dv.tys) := And.intro Go.Bee.Fw.tys Go.Bee.Dv.tys
end Go.Bee.Pr
namespace Go.Bee.Pr
open Go Go.Bee Go.Proofs Go.Bee.Ty Go.Bee.C23 Go.Bee.C23s Go.Bee.C23a Go.Bee.Mt Go.Bee.Mr Go.Bee.Cq Go.Bee.Ml Go.Bee.Ar Go.Bee.Dr Go.Bee.Fw Go.Bee.Dv Go.Bee.Dt
set_option linter.unusedVariables false
set_option maxRecDepth 20000
attribute [local irreducible] Go.Bee.bwp
theorem vBig_b (bs : List UInt8) : BRet Tryz.prog 14 [] [.d (.sl 1 (by1 bs))] (.bool (decide ((bs.length : Int) > 65536))) [] := by
  refine bof Tryz.func14 ?_
  have hl := by1_len bs
  generalize by1 bs = q at *
  refine bgo ?_
  first
    | trivial
    | rfl
theorem vTexts_s (l : List (List UInt8)) : BRet Tryz.prog 39 [] [.d (.sl 1 (txts l)), .d (.sl 1 (txts l))] (.bool true) [] := by
  refine BRet.len 0 (by kernel_rfl) rfl fun hl => ?_
  refine bof Tryz.func39 ?_
  have hll : (txts l).length = l.length := by simp [txts]
  have hli : ∀ i (h : i < l.length), (txts l)[i]? = some (PD.str l[i]) := fun i h => by simp [txts, h]
  generalize txts l = q at *
  refine bgo ?_
  refine b_lp (ι := Nat × Unit) (fun i => [(0, .d (.sl 1 q)), (1, .d (.sl 1 q)), (5, .int i.1)]) (fun _ => []) (fun i => i.1 ≤ l.length) (fun i => l.length - i.1) (0, ()) hs (Nat.zero_le _) ?_
  rintro ⟨i, u⟩ hi I nx
  dsimp only at hi ⊢
  by_cases hlt : i < l.length
  · have hx := hli i hlt
    generalize l[i] = x at *
    have hib : (i : Int) + 1 ≤ 1099511627776000 := by omega
    have hlt2 : i < q.length := by omega
    clear hli
    refine bgo ?_
    exact nx.go (i + 1, ()) hlt (by dsimp only; omega) hs
  · have hlt2 : ¬ i < q.length := by omega
    refine bgo ?_
    refine wk_rfl ?_
    refine bgo ?_
    trivial
theorem vInts_s (l : List Int) : BRet Tryz.prog 34 [] [.d (.sl 1 (ints l)), .d (.sl 1 (ints l))] (.bool true) [] := by
  refine BRet.len 0 (by kernel_rfl) rfl fun hl => ?_
  refine bof Tryz.func34 ?_
  have hll : (ints l).length = l.length := by simp [ints]
  have hli : ∀ i (h : i < l.length), (ints l)[i]? = some (PD.int .i64 l[i]) := fun i h => by simp [ints, h]
  generalize ints l = q at *
  refine bgo ?_
  refine b_lp (ι := Nat × Unit) (fun i => [(0, .d (.sl 1 q)), (1, .d (.sl 1 q)), (5, .int i.1)]) (fun _ => []) (fun i => i.1 ≤ l.length) (fun i => l.length - i.1) (0, ()) hs (Nat.zero_le _) ?_
  rintro ⟨i, u⟩ hi I nx
  dsimp only at hi ⊢
  by_cases hlt : i < l.length
  · have hx := hli i hlt
    generalize l[i] = x at *
    have hib : (i : Int) + 1 ≤ 1099511627776000 := by omega
    have hlt2 : i < q.length := by omega
    clear hli
    refine bgo ?_
    exact nx.go (i + 1, ()) hlt (by dsimp only; omega) hs
  · have hlt2 : ¬ i < q.length := by omega
    refine bgo ?_
    refine wk_rfl ?_
    refine bgo ?_
    trivial
/-! The greatest weight of the rules that apply. -/
def mostF (rs : List Ru) (t : Th) (m : Int) (x : Int) : Int := match rs[x.toNat]? with
  | some r => if r.c = t ∧ r.wt > m then r.wt else m
  | none => m
theorem most_eq (rs : List Ru) (acc : List Th) (t : Th) : ∀ (l : List Ru) (i : Nat) (m : Int), rs.drop i = l → (appI acc l i).foldl (mostF rs t) m = l.foldl (wtF acc t) m
  | [], _, m, _ => rfl
  | r :: l, i, m, h => by
    have hi : rs[i]? = some r := by
      have := congrArg (fun q => q[0]?) h
      simpa using this
    have ht : rs.drop (i + 1) = l := by rw [← List.drop_drop, h]; rfl
    have ih := fun m => most_eq rs acc t l (i + 1) m ht
    unfold appI
    rw [List.foldl_cons]
    cases ha : appl acc r
    · rw [if_neg (by simp), ih]
      congr 1
      unfold wtF; rw [ha]; simp
    · rw [if_pos rfl, List.foldl_cons, ih]
      congr 1
      unfold mostF wtF
      rw [show ((i : Int)).toNat = i from rfl, hi, ha]
      by_cases hc : r.c = t
      · by_cases hw : r.wt > m
        · simp [hc, hw]; omega
        · simp [hc, hw]; omega
      · simp [hc]
theorem appI_mem (acc : List Th) : ∀ (l : List Ru) (i : Nat) (x : Int), x ∈ appI acc l i → ∃ k : Nat, x = k ∧ i ≤ k ∧ k < i + l.length
  | [], _, x, h => by simp [appI] at h
  | r :: l, i, x, h => by
    unfold appI at h
    simp only [List.length_cons]
    split at h
    · rcases List.mem_cons.1 h with rfl | h
      · exact ⟨i, rfl, Nat.le_refl _, by omega⟩
      · obtain ⟨k, h1, h2, h3⟩ := appI_mem acc l (i + 1) x h
        exact ⟨k, h1, by omega, by omega⟩
    · obtain ⟨k, h1, h2, h3⟩ := appI_mem acc l (i + 1) x h
      exact ⟨k, h1, by omega, by omega⟩
theorem lawProofRules_b (bs : List UInt8) : BRet Tryz.prog 6 [] [.d (.sl 1 (by1 bs))] (.bool true) [] := by
  refine bof Tryz.func6 ?_
  have hbig := vBig_b bs
  have hdr := DrawWeightsOf_b bs
  obtain ⟨h1, h2, h3⟩ := drW_in bs
  by_cases hb : (bs.length : Int) > 65536
  · rw [decide_eq_true hb] at hbig
    refine bgo ?_
    refine b_call hbig rfl rfl rfl rfl ?_
    refine bgo ?_
    trivial
  rw [decide_eq_false hb] at hbig
  generalize drW bs = q at *
  obtain ⟨c, t⟩ := q
  dsimp only at h1 h2 h3 hdr
  generalize by1 bs = code at *
  clear hb
  have hdo := DecisionOrder_b c
  have hso := specDecisionOrder_b c
  have har := ApplicableRules_b c
  have hsr := specApplicableRules_b c
  have hva := IsValidCase_b c
  have hwi := WeightsOf_b c t
  have hws := specWeightsOf_b c t
  have hfw := FrameworkOf_b c
  refine bgo ?_
  refine b_call hbig rfl rfl rfl rfl ?_
  refine bgo ?_
  refine b_call hdr rfl rfl rfl rfl ?_
  refine bgo ?_
  refine b_call hdo rfl rfl rfl rfl ?_
  refine bgo ?_
  refine b_call har rfl rfl rfl rfl ?_
  refine bgo ?_
  refine b_call hso rfl rfl rfl rfl ?_
  refine bgo ?_
  refine b_call hsr rfl rfl rfl rfl ?_
  refine bgo ?_
  refine b_call (vTexts_s _) rfl rfl rfl rfl ?_
  refine bgo ?_
  refine b_call (vInts_s _) rfl rfl rfl rfl ?_
  refine bgo ?_
  refine b_call hva rfl rfl rfl rfl ?_
  cases hn : (head c && okI c && vName t.n)
  · rw [hn, if_neg (by decide), if_neg (by decide)] at hwi hws
    generalize (head c && okI c) = ok at *
    refine bgo ?_
    refine b_call hwi rfl rfl rfl rfl ?_
    refine bgo ?_
    refine b_call hws rfl rfl rfl rfl ?_
    refine bgo ?_
    trivial
  · rw [hn, if_pos rfl, if_pos rfl] at hwi hws
    have hv : (head c && okI c) = true := by simp only [Bool.and_eq_true] at hn ⊢; exact hn.1
    have hao : appO c = appI (accI c) c.rs 0 := if_pos hv
    have hfo : fwO c = fwAll c.rs c.rs 0 := if_pos hv
    have hfn : fwN c = c.rs.length := if_pos hv
    have hhv : head c = true := by simp only [Bool.and_eq_true] at hv; exact hv.1
    have hrl : c.rs.length ≤ 10 := by simp only [head, Bool.and_eq_true, decide_eq_true_eq] at hhv; omega
    have hmost : (appO c).foldl (mostF c.rs t) 0 = wt c (accI c) t := by rw [hao]; exact most_eq c.rs (accI c) t c.rs 0 0 rfl
    have hmem : ∀ x ∈ appO c, ∃ k : Nat, x = k ∧ k < c.rs.length := fun x hx => by
      rw [hao] at hx
      obtain ⟨k, e1, e2, e3⟩ := appI_mem _ _ _ _ hx
      exact ⟨k, e1, by omega⟩
    have hal : (appO c).length ≤ c.rs.length := by rw [hao]; exact appI_len _ _ _
    have hvf := IsValidFramework_b c.rs.length (fwO c) hrl (by have := fwAll_len c.rs c.rs 0; rw [hfo]; have : c.rs.length * c.rs.length ≤ 10 * 10 := Nat.mul_le_mul hrl hrl; omega) (fun p hp => by rw [hfo] at hp; have := fwAll_mem c.rs c.rs 0 p hp; omega) (by rw [hfo]; exact fwAll_pw c.rs c.rs 0)
    clear hao hfo
    rw [hfn] at hfw
    rw [hv] at hfw
    generalize wt c (accI c) (opp t) = pq at *
    generalize wt c (accI c) t = p at *
    generalize fwO c = fo at *
    generalize decO c = od at *
    have hil : (ints (appO c)).length = (appO c).length := by simp [ints]
    have hit : ∀ i (h : i < (appO c).length), (ints (appO c))[i]? = some (.int .i64 (appO c)[i]) := fun i h => by simp [ints, h]
    generalize appO c = L at *
    rw [hv]
    refine bgo ?_
    refine b_call hwi rfl rfl rfl rfl ?_
    refine bgo ?_
    refine b_call hws rfl rfl rfl rfl ?_
    refine bgo ?_
    refine b_lp (ι := Nat × Int) (fun i => [(3, .ptr (.t 3) 0), (4, .ptr (.t 4) 0), (7, .d (.sl 1 (ints L))), (13, .int p), (19, .int i.2), (20, .int i.1)]) (fun _ => [(.t 3, caseDs c), (.t 4, [.str t.n, .bool t.g])]) (fun i => i.1 ≤ L.length ∧ (L.drop i.1).foldl (mostF c.rs t) i.2 = p) (fun i => L.length - i.1) (0, 0) hs ⟨Nat.zero_le _, hmost⟩ ?_
    clear hmost
    rintro ⟨i, m⟩ ⟨hi, hj⟩ I nx
    dsimp only at hi hj ⊢
    by_cases hlt : i < L.length
    · obtain ⟨k, hk, hkr⟩ := hmem L[i] (List.getElem_mem hlt)
      have hx := hit i hlt
      rw [List.drop_eq_getElem_cons hlt, List.foldl_cons] at hj
      rw [hk] at hx hj
      have hy : c.rs[k]? = some c.rs[k] := List.getElem?_eq_getElem hkr
      have hmf : mostF c.rs t m k = if c.rs[k].c = t ∧ c.rs[k].wt > m then c.rs[k].wt else m := by unfold mostF; rw [show ((k : Int)).toNat = k from rfl, hy]
      rw [hmf] at hj
      have hkn : ¬ (k : Int) ≥ c.rs.length := by omega
      have hlt2 : i < (ints L).length := by omega
      have hib : (i : Int) + 1 ≤ 1000 := by omega
      generalize c.rs[k] = r at *
      clear hmf hit hmem hk
      by_cases hc : r.c = t
      · have hc2 : (⟨r.c.n, r.c.g⟩ : Th) = ⟨t.n, t.g⟩ := hc
        by_cases hw : r.wt > m
        · rw [if_pos ⟨hc, hw⟩] at hj
          clear hc
          refine bgo ?_
          exact ⟨rfl, rfl, nx.go (i + 1, r.wt) ⟨hlt, hj⟩ (by dsimp only; omega) hs⟩
        · rw [if_neg (fun h => hw h.2)] at hj
          clear hc
          refine bgo ?_
          exact ⟨rfl, rfl, nx.go (i + 1, m) ⟨hlt, hj⟩ (by dsimp only; omega) hs⟩
      · have hc2 : ¬ (⟨r.c.n, r.c.g⟩ : Th) = ⟨t.n, t.g⟩ := hc
        rw [if_neg (fun h => hc h.1)] at hj
        clear hc
        refine bgo ?_
        exact ⟨rfl, rfl, nx.go (i + 1, m) ⟨hlt, hj⟩ (by dsimp only; omega) hs⟩
    · have hi2 : i = L.length := by omega
      subst hi2
      rw [List.drop_length] at hj
      replace hj : m = p := hj
      subst hj
      have hlt2 : ¬ (L.length : Int) < L.length := by omega
      refine bgo ?_
      refine wk_rfl ?_
      refine bgo ?_
      refine b_call hfw rfl rfl rfl rfl ?_
      refine bgo ?_
      refine b_call hvf rfl rfl rfl rfl ?_
      refine bgo ?_
      trivial
end Go.Bee.Pr

/- Chapter 23: FnDecisive. -/
namespace Go.Bee.De
open Go Go.Bee Go.Proofs Go.Bee.Ty
theorem tys : type_of% Go.Bee.Pr.tys := Go.Bee.Pr.tys
end Go.Bee.De
namespace Go.Bee.De
open Go Go.Bee Go.Proofs Go.Bee.Ty Go.Bee.C23 Go.Bee.C23s Go.Bee.C23a Go.Bee.Mt Go.Bee.Mr Go.Bee.Cq Go.Bee.Ml Go.Bee.Ar Go.Bee.Dr Go.Bee.Fw Go.Bee.Dv Go.Bee.Dt Go.Bee.Df Go.Bee.Pr
set_option linter.unusedVariables false
set_option maxRecDepth 20000
attribute [local irreducible] Go.Bee.bwp
theorem nd_pw (l : List Th) : nd l = true ↔ l.Pairwise fun a b => a.n ≠ b.n := by
  unfold nd rall
  rw [List.all_eq_true, List.pairwise_iff_getElem]
  simp only [List.mem_range]
  constructor
  · intro h i j hi hj hij e
    have := h j hj
    rw [nd1_at hj] at this
    simp only [Bool.not_eq_true', List.any_eq_false, beq_iff_eq] at this
    exact this l[i] (List.mem_take_iff_getElem.2 ⟨i, by omega, rfl⟩) e
  · intro h i hi
    rw [nd1_at hi]
    simp only [Bool.not_eq_true', List.any_eq_false, beq_iff_eq]
    intro o ho e
    obtain ⟨j, hj, rfl⟩ := List.mem_take_iff_getElem.1 ho
    exact h j i (by omega) hi (by omega) e
theorem head_less {c : Cs} (h : head c = true) (k : Nat) : head (lessI c k) = true := by
  simp only [head, Bool.and_eq_true] at h ⊢
  obtain ⟨⟨⟨⟨⟨h1, h2⟩, h3⟩, h4⟩, h5⟩, h6⟩ := h
  refine ⟨⟨⟨⟨⟨?_, h2⟩, h3⟩, ?_⟩, h5⟩, h6⟩
  · simp only [thOk, Bool.and_eq_true, List.all_eq_true, decide_eq_true_eq] at h1 ⊢
    refine ⟨fun t ht => h1.1 t (List.mem_of_mem_eraseIdx ht), ?_⟩
    have := List.length_eraseIdx_le c.fs k
    show ((c.fs.eraseIdx k).length : Int) ≤ 12
    omega
  · rw [nd_pw] at h4 ⊢
    exact h4.sublist (List.eraseIdx_sublist _ _)
theorem ok_less {c : Cs} (h : (head c && okI c) = true) (k : Nat) : (head (lessI c k) && okI (lessI c k)) = true := by
  simp only [Bool.and_eq_true] at h ⊢
  exact ⟨head_less h.1 k, less_order (fun t ht => List.mem_of_mem_eraseIdx ht) h.2⟩
theorem decG_mem (p : Nat → Bool) (x : Nat) : ∀ (m k : Nat), (x : Int) ∈ decG p m k ↔ k ≤ x ∧ x < k + m ∧ p x = true
  | 0, k => by simp [decG]; omega
  | m + 1, k => by
    have ih := decG_mem p x m (k + 1)
    unfold decG
    cases hp : p k
    · rw [if_neg (by simp), ih]
      constructor
      · rintro ⟨a, b, c⟩; exact ⟨by omega, by omega, c⟩
      · rintro ⟨a, b, c⟩
        have : x ≠ k := fun e => by rw [e, hp] at c; cases c
        exact ⟨by omega, by omega, c⟩
    · rw [if_pos rfl, List.mem_cons, ih]
      constructor
      · rintro (e | ⟨a, b, c⟩)
        · have : x = k := by omega
          subst this; exact ⟨Nat.le_refl _, by omega, hp⟩
        · exact ⟨by omega, by omega, c⟩
      · rintro ⟨a, b, c⟩
        by_cases e : x = k
        · exact .inl (by omega)
        · exact .inr ⟨by omega, by omega, c⟩
theorem rIn_b (l : List Int) (x : Int) : BRet Tryz.prog 35 [] [.d (.sl 1 (ints l)), .int x] (.bool (decide (x ∈ l))) [] := by
  refine BRet.len 0 (by kernel_rfl) rfl fun hl => ?_
  refine bof Tryz.func35 ?_
  have hll : (ints l).length = l.length := by simp [ints]
  have hli : ∀ i (h : i < l.length), (ints l)[i]? = some (.int .i64 l[i]) := fun i h => by simp [ints, h]
  have hr : decide (x ∈ l.drop 0) = decide (x ∈ l) := rfl
  generalize decide (x ∈ l) = res at *
  generalize ints l = q at *
  refine bgo ?_
  refine b_lp (ι := Nat × Unit) (fun i => [(0, .d (.sl 1 q)), (1, .int x), (5, .int i.1)]) (fun _ => []) (fun i => i.1 ≤ l.length ∧ decide (x ∈ l.drop i.1) = res) (fun i => l.length - i.1) (0, ()) hs ⟨Nat.zero_le _, hr⟩ ?_
  clear hr
  rintro ⟨i, u⟩ ⟨hi, hr⟩ I nx
  dsimp only at hi hr ⊢
  by_cases hlt : i < l.length
  · have hx := hli i hlt
    rw [List.drop_eq_getElem_cons hlt] at hr
    generalize l[i] = y at *
    have hib : (i : Int) + 1 ≤ 1099511627776000 := by omega
    have hlt2 : i < q.length := by omega
    clear hli
    by_cases he : y = x
    · have : res = true := by rw [← hr, he]; simp
      subst this
      refine bgo ?_
      trivial
    · have hr2 : decide (x ∈ l.drop (i + 1)) = res := by rw [← hr]; simp [Ne.symm he]
      refine bgo ?_
      exact nx.go (i + 1, ()) ⟨hlt, hr2⟩ (by dsimp only; omega) hs
  · have hi2 : i = l.length := by omega
    subst hi2
    rw [List.drop_length] at hr
    replace hr : false = res := by simpa using hr
    subst hr
    have hlt2 : ¬ l.length < q.length := by omega
    refine bgo ?_
    refine wk_rfl ?_
    refine bgo ?_
    trivial
theorem lawDecisive_b (bs : List UInt8) : BRet Tryz.prog 5 [] [.d (.sl 1 (by1 bs))] (.bool true) [] := by
  refine bof Tryz.func5 ?_
  have hbig := vBig_b bs
  have hdr := DrawDecisiveFacts_b bs
  obtain ⟨h1, h2, h3⟩ := drS_in bs
  by_cases hb : (bs.length : Int) > 65536
  · rw [decide_eq_true hb] at hbig
    refine bgo ?_
    refine b_call hbig rfl rfl rfl rfl ?_
    refine bgo ?_
    trivial
  rw [decide_eq_false hb] at hbig
  generalize drS bs = q at *
  obtain ⟨c, n⟩ := q
  dsimp only at h1 h2 h3 hdr
  generalize by1 bs = code at *
  clear hb
  have hdi := DecisiveFacts_b c n
  have hds := specDecisiveFacts_b c n
  have hst := StatusOf_b c n
  refine bgo ?_
  refine b_call hbig rfl rfl rfl rfl ?_
  refine bgo ?_
  refine b_call hdr rfl rfl rfl rfl ?_
  refine bgo ?_
  refine b_call hdi rfl rfl rfl rfl ?_
  refine bgo ?_
  refine b_call hds rfl rfl rfl rfl ?_
  refine bgo ?_
  refine b_call (vInts_s _) rfl rfl rfl rfl ?_
  cases hv : (head c && okI c && vName n)
  · refine bgo ?_
    refine b_call (vInts_s _) rfl rfl rfl rfl ?_
    refine bgo ?_
    trivial
  · rw [hv, if_pos rfl] at hst
    have hv2 : (head c && okI c) = true := by simp only [Bool.and_eq_true] at hv ⊢; exact hv.1
    have hnn : vName n = true := by simp only [Bool.and_eq_true] at hv ⊢; exact hv.2
    have hmem : ∀ k < c.fs.length, decide ((k : Int) ∈ dcf c n) = decB c n k := fun k hk => by
      have hd : dcf c n = decG (decB c n) c.fs.length 0 := if_pos hv
      rw [hd]
      have := decG_mem (decB c n) k c.fs.length 0
      cases hp : decB c n k
      · exact decide_eq_false fun h => by have := (this.1 h).2.2; rw [hp] at this; cases this
      · exact decide_eq_true (this.2 ⟨Nat.zero_le _, by omega, hp⟩)
    have hsl : ∀ k, BRet Tryz.prog 21 [] [caseP (lessI c k), .str n] (.tup [.int (statusF (accI (lessI c k)) n), .bool true]) [] := fun k => by
      have := StatusOf_b (lessI c k) n
      rw [ok_less hv2 k, hnn] at this
      exact this
    have hin := rIn_b (dcf c n)
    generalize dcf c n = L at *
    refine bgo ?_
    refine b_call hst rfl rfl rfl rfl ?_
    refine bgo ?_
    refine b_lp (ι := Nat × Unit) (fun i => [(3, .ptr (.t 3) 0), (4, .str n), (5, .d (.sl 1 (ints L))), (9, .int (statusF (accI c) n)), (11, .int i.1)]) (fun _ => [(.t 3, caseDs c)]) (fun i => i.1 ≤ c.fs.length) (fun i => c.fs.length - i.1) (0, ()) hs (Nat.zero_le _) ?_
    rintro ⟨k, u⟩ hk I nx
    dsimp only at hk ⊢
    by_cases hlt : k < c.fs.length
    · have hs1 := hsl k
      have hte := ths_erase c.fs k
      have hib : (k : Int) + 1 ≤ 1000 := by omega
      have hink := hin k
      rw [hmem k hlt] at hink
      by_cases he : statusF (accI (lessI c k)) n = statusF (accI c) n
      · have hp : decB c n k = false := decide_eq_false (fun h => h he)
        rw [hp] at hink
        rw [he] at hs1
        generalize statusF (accI c) n = x at *
        clear he hmem
        refine bgo ?_
        refine ⟨rfl, ?_⟩
        refine b_call hs1 rfl rfl rfl rfl ?_
        refine bgo ?_
        refine b_call hink rfl rfl rfl rfl ?_
        refine bgo ?_
        exact nx.go (k + 1, ()) hlt (by dsimp only; omega) hs
      · have hp : decB c n k = true := decide_eq_true he
        rw [hp] at hink
        generalize statusF (accI (lessI c k)) n = y at *
        generalize statusF (accI c) n = x at *
        clear hmem
        refine bgo ?_
        refine ⟨rfl, ?_⟩
        refine b_call hs1 rfl rfl rfl rfl ?_
        refine bgo ?_
        refine b_call hink rfl rfl rfl rfl ?_
        refine bgo ?_
        exact ⟨fun h => absurd (bne_iff_ne.2 he) h, fun _ => nx.go (k + 1, ()) hlt (by dsimp only; omega) hs⟩
    · have hk' : k = c.fs.length := by omega
      subst hk'
      refine bgo ?_
      refine wk_rfl ?_
      refine bgo ?_
      trivial
end Go.Bee.De
