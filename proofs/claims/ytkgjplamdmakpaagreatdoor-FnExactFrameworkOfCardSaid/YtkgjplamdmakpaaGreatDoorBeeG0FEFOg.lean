/-
The logic and the walks, part 7. No condition.
-/
import Derived.Test.YtkgjplamdmakpaaGreatDoorBeeG0FEFOf
import Derived.Test.YtkgjplamdmakpaaGreatDoorBeeG0FEFOd
import Derived.ChangeArms
import Derived.SizedLaws
import Derived.Deep.Slices
import Derived.ChangeOld
import Derived.Below
import Derived.Carry
import Derived.ProofKit
import Derived.Test.YtkgjplamdmakpaaGreatDoorBeeG0FEFOe
/- Chapter 23: AcceptedTheses, ApplicableRules: both sides and their laws. -/
namespace Go.Bee.Ar
open Go Go.Bee Go.Proofs Go.Bee.Ty Go.Bee.C23 Go.Bee.C23s Go.Bee.C23a Go.Bee.Mt Go.Bee.Mr Go.Bee.Cq Go.Bee.Ml Go.Bee.Dr
theorem slInt : SlT Tryz.prog 58 3 1 8 := ⟨_, _, ty58, rfl, ty3, rfl, rfl, rfl, by decide⟩
theorem tys : type_of% (And.intro Go.Bee.Ml.tys slInt.facts) := And.intro Go.Bee.Ml.tys slInt.facts
end Go.Bee.Ar
namespace Go.Bee.Ar
open Go Go.Bee Go.Proofs Go.Bee.Ty Go.Bee.C23 Go.Bee.C23s Go.Bee.C23a Go.Bee.Mt Go.Bee.Mr Go.Bee.Cq Go.Bee.Ml Go.Bee.Dr
set_option linter.unusedVariables false
set_option maxRecDepth 20000
attribute [local irreducible] Go.Bee.bwp
def ths (l : List Th) : List PD := l.map Th.e
theorem ths_plain (l : List Th) : ∀ x ∈ flat (ths l), x.plain = true := th_plain l
theorem ths_one (l : List Th) : ∀ x ∈ ths l, x.cells.length = 2 := fun x hx => by obtain ⟨t, _, rfl⟩ := List.mem_map.1 hx; rfl
theorem ths_app (a b : List Th) : ths (a ++ b) = ths a ++ ths b := List.map_append
def mkTh (n : Nat) (k : Int) : List Th := (List.range n).map fun (i : Nat) => (⟨mkT (k + 2 * (i : Int)), (k + 2 * (i : Int) + 1).tmod 3 == 0⟩ : Th)
theorem row_set2 {a b : List Th} {i : Nat} {v : Th} (hv : a[i]? = some v) (hb : i < b.length) :
    ((row (ths (a.take i ++ b.drop i))).set (i * 2) (.d (.str v.n))).set (i * 2 + 1) (.d (.bool v.g)) = row (ths (a.take (i + 1) ++ b.drop (i + 1))) := by
  obtain ⟨ha, rfl⟩ := List.getElem?_eq_some_iff.1 hv
  have h1 : (row (ths (a.take i))).length = i * 2 := by rw [row_len (ths_one _)]; simp [ths]; omega
  rw [List.drop_eq_getElem_cons hb, List.take_succ_eq_append_getElem ha, show b[i] :: b.drop (i + 1) = [b[i]] ++ b.drop (i + 1) from rfl]
  simp only [ths_app, row_app]
  rw [List.set_append_right _ _ (by omega), h1, Nat.sub_self]
  show (row (ths (a.take i)) ++ (([PV.d (.str b[i].n), PV.d (.bool b[i].g)] ++ row (ths (b.drop (i + 1)))).set 0 (.d (.str a[i].n)))).set (i * 2 + 1) _ = _
  rw [List.set_append_right _ _ (by omega), h1, show i * 2 + 1 - i * 2 = 1 by omega, List.append_assoc]
  rfl
theorem markThesisS_r (l : List Th) (k : Int) (h0 : 0 ≤ k) (hk : k + 2 * l.length ≤ 1099511627776) : BRet Tryz.prog 53 [row (ths l)] [.rsv (.a 0) 2 l.length, .int k] (.int (k + 2 * l.length)) [row (ths (mkTh l.length k))] := by
  refine bofp Tryz.func53 ?_
  have hml : (mkTh l.length k).length = l.length := by simp [mkTh]
  have hmi : ∀ i, i < l.length → (mkTh l.length k)[i]? = some (⟨mkT (k + 2 * (i : Int)), (k + 2 * (i : Int) + 1).tmod 3 == 0⟩ : Th) := fun i h => by simp [mkTh, h]
  generalize mkTh l.length k = m at *
  have hm0 : row (ths (m.take 0 ++ l.drop 0)) = row (ths l) := by simp
  have hm1 : row (ths (m.take l.length ++ l.drop l.length)) = row (ths m) := by rw [List.drop_length, List.append_nil, ← hml, List.take_length]
  refine bgo ?_
  refine b_lp (ι := Nat × Int) (fun i => [(0, .rsv (.a 0) 2 l.length), (1, .int i.2), (5, .int i.1)]) (fun i => [(.a 0, row (ths (m.take i.1 ++ l.drop i.1)))]) (fun i => i.1 ≤ l.length ∧ i.2 = k + 2 * i.1) (fun i => l.length - i.1) (0, k)
    ⟨hsT, ⟨_, rfl, HasC.of hm0.symm (row_ok _ _)⟩, trivial⟩ ⟨Nat.zero_le _, by simp⟩ ?_
  rintro ⟨i, j⟩ ⟨hi, hj⟩ I nx
  dsimp only at hi hj ⊢
  by_cases hlt : i < l.length
  · have hlm : (row (ths (m.take i ++ l.drop i))).length = l.length * 2 := by rw [row_len (ths_one _)]; simp [ths]; omega
    have hst := row_set2 (a := m) (b := l) (i := i) (hmi i hlt) hlt
    rw [← hj] at hst
    have hib : (i : Int) + 1 ≤ 1099511627776 := by omega
    have hkb : j + 2 ≤ 1099511627776 := by omega
    have hj0 : 0 ≤ j := by omega
    have hj2 : k + 2 * ((i + 1 : Nat) : Int) = j + 1 + 1 := by omega
    have h3 : ¬ ((3 : Int) = 0) := by decide
    have hmt := markText_b j (by omega)
    clear hj
    generalize hX : row (ths (m.take i ++ l.drop i)) = X at *
    refine bgo ?_
    refine b_call hmt rfl rfl rfl rfl ?_
    refine bgo ?_
    refine ⟨by omega, ?_, nx.go (i + 1, j + 1 + 1) ⟨hlt, hj2.symm⟩ (by dsimp only; omega) ⟨⟨⟨PLe.rfl, rfl⟩, ⟨PLe.rfl, rfl⟩, ⟨PLe.rfl, rfl⟩, trivial⟩, ⟨_, rfl, HasC.of ?_ (row_ok _ _)⟩, trivial⟩⟩
    · simp only [Nat.add_zero]
      rw [put_set X (i * 2) _ (by omega), List.length_set]; omega
    · simp only [Nat.add_zero]
      rw [put_set X (i * 2) _ (by omega), put_set _ (i * 2 + 1) _ (by rw [List.length_set]; omega)]
      exact hst
  · have hi2 : i = l.length := by omega
    subst hi2
    subst hj
    refine bgo ?_
    refine wk_mk [(1, .int (k + 2 * l.length))] [(.a 0, row (ths m))] ⟨hsT, ⟨_, rfl, HasC.of (by first | rfl | exact hm1) (row_ok _ _)⟩, trivial⟩ ?_
    refine bgo ?_
    exact ret_1p rfl rfl rfl (fun k => rfl) (row_gives _ trivial)
theorem heldThesisS_b (n : Nat) (k : Int) (h0 : 0 ≤ k) (hk : k + 2 * n ≤ 1099511627776) : BRet Tryz.prog 54 [] [.d (.sl 2 (ths (mkTh n k))), .int k] (.int (k + 2 * n)) [] := by
  refine bof Tryz.func54 ?_
  have hml : (mkTh n k).length = n := by simp [mkTh]
  have hmi : ∀ i, i < n → (mkTh n k)[i]? = some (⟨mkT (k + 2 * (i : Int)), (k + 2 * (i : Int) + 1).tmod 3 == 0⟩ : Th) := fun i h => by simp [mkTh, h]
  generalize mkTh n k = m at *
  have hll : (ths m).length = n := by simp [ths, hml]
  have hli : ∀ i, i < n → (ths m)[i]? = some (.agg [.str (mkT (k + 2 * (i : Int))), .bool ((k + 2 * (i : Int) + 1).tmod 3 == 0)]) := fun i h => by simp [ths, hmi i h, Th.e]
  generalize ths m = q at *
  refine bgo ?_
  refine b_lp (ι := Nat × Int) (fun i => [(0, .d (.sl 2 q)), (1, .int i.2), (5, .int i.1)]) (fun _ => []) (fun i => i.1 ≤ n ∧ i.2 = k + 2 * i.1) (fun i => n - i.1) (0, k) hs ⟨Nat.zero_le _, by simp⟩ ?_
  rintro ⟨i, j⟩ ⟨hi, hj⟩ I nx
  dsimp only at hi hj ⊢
  by_cases hlt : i < n
  · have hx := hli i hlt
    rw [← hj] at hx
    have hib : (i : Int) + 1 ≤ 1099511627776 := by omega
    have hkb : j + 2 ≤ 1099511627776 := by omega
    have hj0 : 0 ≤ j := by omega
    have hj2 : k + 2 * ((i + 1 : Nat) : Int) = j + 1 + 1 := by omega
    have hlt2 : i < q.length := by omega
    have h3 : ¬ ((3 : Int) = 0) := by decide
    have hmt := markText_b j (by omega)
    clear hj hml hmi hli
    refine bgo ?_
    refine b_call hmt rfl rfl rfl rfl ?_
    refine bgo ?_
    exact nx.go (i + 1, j + 1 + 1) ⟨hlt, hj2.symm⟩ (by dsimp only; omega) hs
  · have hi2 : i = n := by omega
    subst hi2
    subst hj
    have hlt2 : ¬ i < q.length := by omega
    refine bgo ?_
    refine wk_rfl ?_
    refine bgo ?_
    trivial
theorem eqThesisS_s (l : List Th) : BRet Tryz.prog 52 [] [.d (.sl 2 (ths l)), .d (.sl 2 (ths l))] (.bool true) [] := by
  have := eqThesisS_b l l
  rwa [decide_eq_true rfl] at this
def accO (c : Cs) : List Th := if (head c && okI c) = true then accI c else []
theorem AcceptedTheses_b (c : Cs) : BRet Tryz.prog 19 [] [caseP c] (.tup [.own 30 2 (ths (accO c)), .bool (head c && okI c)]) [] := by
  have hd : accO c = if (head c && okI c) = true then accI c else [] := rfl
  cases hv : head c && okI c
  · rw [hv, if_neg (by decide)] at hd
    rw [hd]
    refine BRet.less ?_ PLe.tupNil
    refine bof Tryz.func19 ?_
    refine bgo ?_
    refine b_call (IsValidCase_b c) rfl rfl rfl rfl ?_
    rw [hv]
    refine bgo ?_
    trivial
  · have hf := head_fine hv
    rw [hv, if_pos rfl] at hd
    rw [hd]
    refine bof Tryz.func19 ?_
    refine bgo ?_
    refine b_call (IsValidCase_b c) rfl rfl rfl rfl ?_
    rw [hv]
    refine bgo ?_
    refine b_call (acceptedTheses_b c hf) rfl rfl rfl rfl ?_
    refine bgo ?_
    rfl
theorem specAcceptedTheses_b (c : Cs) : BRet Tryz.prog 20 [] [caseP c] (.tup [.own 30 2 (ths (accO c)), .bool (head c && okI c)]) [] := by
  have hd : accO c = if (head c && okI c) = true then accI c else [] := rfl
  cases hv : head c && okI c
  · rw [hv, if_neg (by decide)] at hd
    rw [hd]
    refine bof Tryz.func20 ?_
    refine bgo ?_
    refine b_call (good_b c) rfl rfl rfl rfl ?_
    rw [hv]
    refine bgo ?_
    rfl
  · have hf := head_fine hv
    rw [hv, if_pos rfl] at hd
    rw [hd]
    refine bof Tryz.func20 ?_
    refine bgo ?_
    refine b_call (good_b c) rfl rfl rfl rfl ?_
    rw [hv]
    refine bgo ?_
    refine b_call (accepted_b c hf) rfl rfl rfl rfl ?_
    refine bgo ?_
    rfl
theorem acc_len (c : Cs) (h : Fine c) : (accI c).length ≤ 1048576 := by
  obtain ⟨o, ho⟩ := Option.isSome_iff_exists.1 h.ord
  unfold accI
  rw [ho]
  have h1 := goO_len _ _ _ ho
  have h2 := srt_len (allN c)
  have h3 := h.n
  have h4 := accepted_len c o []
  simp only [List.length_nil, Nat.zero_add] at h1 h4
  show (o.foldl (stepI c) []).length ≤ _
  omega
theorem accO_len (c : Cs) (h : 0 ≤ szCs c 1048576) : (accO c).length ≤ 1048576 := by
  unfold accO
  split
  · rename_i hv; exact acc_len c (head_fine hv)
  · simp
def appI (acc : List Th) : List Ru → Nat → List Int
  | [], _ => []
  | r :: l, i => if appl acc r = true then (i : Int) :: appI acc l (i + 1) else appI acc l (i + 1)
theorem appI_len (acc : List Th) : ∀ (l : List Ru) (i : Nat), (appI acc l i).length ≤ l.length
  | [], _ => Nat.le_refl _
  | r :: l, i => by
    have := appI_len acc l (i + 1)
    unfold appI
    split <;> simp <;> omega
def appO (c : Cs) : List Int := if (head c && okI c) = true then appI (accI c) c.rs 0 else []
theorem appO_len (c : Cs) (h : 0 ≤ szCs c 1048576) : (appO c).length ≤ 1048576 := by
  have := (szCs_ok c h).2.1
  have := appI_len (accI c) c.rs 0
  unfold appO
  split
  · omega
  · simp
theorem ints_app (a b : List Int) : ints (a ++ b) = ints a ++ ints b := List.map_append
theorem ApplicableRules_b (c : Cs) : BRet Tryz.prog 37 [] [caseP c] (.tup [.own 3 1 (ints (appO c)), .bool (head c && okI c)]) [] := by
  have hd : appO c = if (head c && okI c) = true then appI (accI c) c.rs 0 else [] := rfl
  cases hv : head c && okI c
  · rw [hv, if_neg (by decide)] at hd
    rw [hd]
    refine BRet.less ?_ PLe.tupNil
    refine bof Tryz.func37 ?_
    refine bgo ?_
    refine b_call (IsValidCase_b c) rfl rfl rfl rfl ?_
    rw [hv]
    refine bgo ?_
    trivial
  · have hf := head_fine hv
    rw [hv, if_pos rfl] at hd
    have hhv : head c = true := by simp only [Bool.and_eq_true] at hv; exact hv.1
    have hrl : c.rs.length ≤ 10 := by simp only [head, Bool.and_eq_true, decide_eq_true_eq] at hhv; omega
    rw [hd]
    generalize hr : appI (accI c) c.rs 0 = res
    refine bof Tryz.func37 ?_
    refine bgo ?_
    refine b_call (IsValidCase_b c) rfl rfl rfl rfl ?_
    rw [hv]
    refine bgo ?_
    refine b_call (acceptedTheses_b c hf) rfl rfl rfl rfl ?_
    generalize accI c = acc at *
    refine bgo ?_
    refine b_lp (ι := Nat × List Int) (fun i => [(4, .d (.sl 2 (acc.map Th.e))), (5, .own 3 1 (ints i.2)), (15, .d (.sl 5 (c.rs.map Ru.e))), (16, .int c.rs.length), (17, .int i.1)]) (fun _ => []) (fun i => i.1 ≤ c.rs.length ∧ i.2 ++ appI acc (c.rs.drop i.1) i.1 = res ∧ i.2.length ≤ i.1) (fun i => c.rs.length - i.1) (0, []) hs ⟨Nat.zero_le _, hr, Nat.le_refl _⟩ ?_
    clear hr
    rintro ⟨k, out⟩ ⟨hk, hj, hl⟩ I nx
    dsimp only at hk hj hl ⊢
    by_cases hlt : k < c.rs.length
    · have hx : c.rs[k]? = some c.rs[k] := List.getElem?_eq_getElem hlt
      rw [List.drop_eq_getElem_cons hlt] at hj
      have hoa := ints_app out [(k : Int)]
      have hol : (ints out).length = out.length := by simp [ints]
      have hob : (out.length + 1) * 9 ≤ 140737488355328 := by omega
      have hap := isApplicable_b c.rs[k] acc
      cases ha : appl acc c.rs[k]
      · have hj2 : out ++ appI acc (c.rs.drop (k + 1)) (k + 1) = res := by rw [← hj, show appI acc (c.rs[k] :: c.rs.drop (k + 1)) k = appI acc (c.rs.drop (k + 1)) (k + 1) from if_neg (by simp [ha])]
        rw [ha] at hap
        clear hj hoa
        refine bgo ?_
        refine b_call hap rfl rfl rfl rfl ?_
        refine bgo ?_
        exact nx.go (k + 1, out) ⟨hlt, hj2, by dsimp only; omega⟩ (by dsimp only; omega) hs
      · have hj2 : (out ++ [(k : Int)]) ++ appI acc (c.rs.drop (k + 1)) (k + 1) = res := by rw [← hj, show appI acc (c.rs[k] :: c.rs.drop (k + 1)) k = (k : Int) :: appI acc (c.rs.drop (k + 1)) (k + 1) from if_pos ha]; simp
        rw [ha] at hap
        clear hj
        refine bgo ?_
        refine b_call hap rfl rfl rfl rfl ?_
        refine bgo ?_
        refine nx.go (k + 1, out ++ [(k : Int)]) ⟨hlt, hj2, by simp; omega⟩ (by dsimp only; omega) ?_
        exact ⟨⟨⟨PLe.rfl, rfl⟩, ⟨PLe.eq (congrArg (PV.own 3 1) hoa.symm), rfl⟩, ⟨PLe.rfl, rfl⟩, ⟨PLe.rfl, rfl⟩, ⟨PLe.rfl, rfl⟩, trivial⟩, trivial⟩
    · have hk' : k = c.rs.length := by omega
      subst hk'
      rw [List.drop_length] at hj
      replace hj : out = res := by simpa [appI] using hj
      subst hj
      refine bgo ?_
      refine wk_rfl ?_
      refine bgo ?_
      trivial
theorem specApplicableRules_b (c : Cs) : BRet Tryz.prog 38 [] [caseP c] (.tup [.own 3 1 (ints (appO c)), .bool (head c && okI c)]) [] := by
  have hd : appO c = if (head c && okI c) = true then appI (accI c) c.rs 0 else [] := rfl
  cases hv : head c && okI c
  · rw [hv, if_neg (by decide)] at hd
    rw [hd]
    refine bof Tryz.func38 ?_
    refine bgo ?_
    refine b_call (good_b c) rfl rfl rfl rfl ?_
    rw [hv]
    refine bgo ?_
    rfl
  · have hf := head_fine hv
    rw [hv, if_pos rfl] at hd
    have hhv : head c = true := by simp only [Bool.and_eq_true] at hv; exact hv.1
    have hrl : c.rs.length ≤ 10 := by simp only [head, Bool.and_eq_true, decide_eq_true_eq] at hhv; omega
    rw [hd]
    generalize hr : appI (accI c) c.rs 0 = res
    refine bof Tryz.func38 ?_
    refine bgo ?_
    refine b_call (good_b c) rfl rfl rfl rfl ?_
    rw [hv]
    refine bgo ?_
    refine b_call (accepted_b c hf) rfl rfl rfl rfl ?_
    generalize accI c = acc at *
    refine bgo ?_
    refine b_lp (ι := Nat × List Int) (fun i => [(1, .ptr (.t 1) 0), (4, .own 3 1 (ints i.2)), (5, .d (.sl 2 (acc.map Th.e))), (6, .int i.1)]) (fun _ => [(.t 1, caseDs c)]) (fun i => i.1 ≤ c.rs.length ∧ i.2 ++ appI acc (c.rs.drop i.1) i.1 = res ∧ i.2.length ≤ i.1) (fun i => c.rs.length - i.1) (0, []) hs ⟨Nat.zero_le _, hr, Nat.le_refl _⟩ ?_
    clear hr
    rintro ⟨k, out⟩ ⟨hk, hj, hl⟩ I nx
    dsimp only at hk hj hl ⊢
    by_cases hlt : k < c.rs.length
    · have hx : c.rs[k]? = some c.rs[k] := List.getElem?_eq_getElem hlt
      rw [List.drop_eq_getElem_cons hlt] at hj
      have hoa := ints_app out [(k : Int)]
      have hol : (ints out).length = out.length := by simp [ints]
      have hob : (out.length + 1) * 9 ≤ 140737488355328 := by omega
      have hap := l23Applies_b c.rs[k] acc
      cases ha : appl acc c.rs[k]
      · have hj2 : out ++ appI acc (c.rs.drop (k + 1)) (k + 1) = res := by rw [← hj, show appI acc (c.rs[k] :: c.rs.drop (k + 1)) k = appI acc (c.rs.drop (k + 1)) (k + 1) from if_neg (by simp [ha])]
        rw [ha] at hap
        clear hj hoa
        refine bgo ?_
        refine b_call hap rfl rfl rfl rfl ?_
        refine bgo ?_
        exact nx.go (k + 1, out) ⟨hlt, hj2, by dsimp only; omega⟩ (by dsimp only; omega) hs
      · have hj2 : (out ++ [(k : Int)]) ++ appI acc (c.rs.drop (k + 1)) (k + 1) = res := by rw [← hj, show appI acc (c.rs[k] :: c.rs.drop (k + 1)) k = (k : Int) :: appI acc (c.rs.drop (k + 1)) (k + 1) from if_pos ha]; simp
        rw [ha] at hap
        clear hj
        refine bgo ?_
        refine b_call hap rfl rfl rfl rfl ?_
        refine bgo ?_
        refine nx.go (k + 1, out ++ [(k : Int)]) ⟨hlt, hj2, by simp; omega⟩ (by dsimp only; omega) ?_
        exact ⟨⟨⟨PLe.rfl, rfl⟩, ⟨PLe.eq (congrArg (PV.own 3 1) hoa.symm), rfl⟩, ⟨PLe.rfl, rfl⟩, ⟨PLe.rfl, rfl⟩, trivial⟩, ⟨_, rfl, HasC.same rfl⟩, trivial⟩
    · have hk' : k = c.rs.length := by omega
      subst hk'
      rw [List.drop_length] at hj
      replace hj : out = res := by simpa [appI] using hj
      subst hj
      refine bgo ?_
      refine wk_rfl ?_
      refine bgo ?_
      trivial
theorem lawAcceptedTheses_b (c : Cs) : BRet Tryz.prog 11 [] [caseP c] (.bool true) [] := by
  refine bofM [13] Tryz.func11 ?_
  refine bgo ?_
  refine b_call (szCase_b c 1048576 (by decide) (by decide)) rfl rfl rfl rfl ?_
  by_cases h : szCs c 1048576 < 0
  · refine bgo ?_
    trivial
  have ho := szCs_ok c (by omega)
  obtain ⟨hm0, hm1⟩ := mkCs_less c (by omega)
  have hmz := markCase_z c 1 (by decide) hm1
  generalize mkCs c 1 = mk1 at *
  have hmn : ¬ mk1 < 0 := by omega
  have hi := AcceptedTheses_b c
  have hs' := specAcceptedTheses_b c
  have hlen := accO_len c (by omega)
  generalize accO c = l at *
  generalize (head c && okI c) = ok at *
  refine bgo ?_
  refine b_call (toCase_b c ho) rfl rfl rfl rfl ?_
  refine bgo ?_
  refine b_call hs' rfl rfl rfl rfl ?_
  refine bgo ?_
  refine b_look (toCase_q c ho) rfl rfl (fun B => .cons lend3d .nil) take3 ?_
  refine bgo ?_
  by_cases hl : l = []
  · subst hl
    refine b_look hi rfl rfl (fun B => .cons lend3q .nil) take0 ?_
    refine bgo ?_
    refine b_call (eqThesisS_s []) rfl rfl rfl rfl ?_
    refine bgo ?_
    refine b_call (toCase_b c ho) rfl rfl rfl rfl ?_
    refine bgo ?_
    refine b_look (eqCase_s c) rfl rfl (fun B => .cons lend3q (.cons lend3o .nil)) takeB ?_
    refine bgo ?_
    refine wk_unq [(1, .ptr (.t 1) 0), (4, .d (.sl 2 (ths []))), (5, .bool ok), (6, .ptr (.t 6) 0), (7, .d (.sl 2 [])), (8, .bool ok), (9, .int 1)] [(.t 1, caseDs c), (.t 6, caseZ c)] hs ?_
    refine bgo ?_
    refine b_writes hmz rfl rfl rfl rfl ?_
    refine bgo ?_
    refine b_call (eqThesisS_s []) rfl rfl rfl rfl ?_
    refine bgo ?_
    refine b_call (markThesisS_0 1 (by decide) (by decide)) rfl rfl rfl rfl ?_
    refine bgo ?_
    refine b_call (heldThesisS_0 1 (by decide) (by decide)) rfl rfl rfl rfl ?_
    refine bgo ?_
    refine b_call (toCase_b c ho) rfl rfl rfl rfl ?_
    refine bgo ?_
    refine b_call hi rfl rfl rfl rfl ?_
    refine bgo ?_
    refine b_call (eqThesisS_s []) rfl rfl rfl rfl ?_
    refine bgo ?_
    refine b_call (heldThesisS_0 1 (by decide) (by decide)) rfl rfl rfl rfl ?_
    refine bgo ?_
    trivial
  · have hmr := markThesisS_r l 1 (by decide) (by omega)
    have hhb := heldThesisS_b l.length 1 (by decide) (by omega)
    have hmk : (mkTh l.length 1).length = l.length := by simp [mkTh]
    generalize mkTh l.length 1 = m at *
    have hmn2 : ¬ ((1 : Int) + 2 * l.length < 0) := by omega
    have hll : (ths l).length = l.length := by simp [ths]
    refine b_boxed 99 hi .one rfl rfl rfl (fun B => .cons lend3q .nil) rfl (by simpa [ths] using hl) (ths_plain l) rfl ?_
    refine bgo ?_
    refine b_lookb (eqThesisS_s l) rfl rfl rfl (.cons (lendR rfl (by first | rfl | exact hll) (ths_one l)) (.cons lendD .nil)) takeB ?_
    refine bgo ?_
    refine b_call (toCase_b c ho) rfl rfl rfl rfl ?_
    refine bgo ?_
    refine b_look (eqCase_s c) rfl rfl (fun B => .cons lend3q (.cons lend3o .nil)) takeB ?_
    refine bgo ?_
    refine wk_unq [(1, .ptr (.t 1) 0), (4, .d (.sl 2 (ths l))), (5, .bool ok), (6, .ptr (.t 6) 0), (7, .rsv (.t 99) 2 l.length), (8, .bool ok), (9, .int 1)] [(.t 1, caseDs c), (.t 6, caseZ c), (.t 99, row (ths l))] ⟨⟨⟨PLe.rfl, rfl⟩, ⟨PLe.own, rfl⟩, ⟨PLe.rfl, rfl⟩, ⟨PLe.rfl, rfl⟩, ⟨PLe.eq (by first | rfl | exact congrArg (PV.rsv (.t 99) 2) hll), rfl⟩, ⟨PLe.rfl, rfl⟩, ⟨PLe.rfl, rfl⟩, trivial⟩, ⟨_, rfl, HasC.same rfl⟩, ⟨_, rfl, HasC.same rfl⟩, ⟨_, rfl, HasC.of (unq_row _) (row_ok _ _)⟩, trivial⟩ ?_
    refine bgo ?_
    refine b_writes hmz rfl rfl rfl rfl ?_
    refine bgo ?_
    refine b_lookb (eqThesisS_s l) rfl rfl rfl (.cons (lendR rfl (by simp [ths]) (ths_one l)) (.cons lendD .nil)) takeB ?_
    refine bgo ?_
    refine b_callr hmr rfl rfl (row_pass _) (row_gives _ trivial) rfl rfl rfl rfl rfl ?_
    refine bgo ?_
    refine b_lookb hhb rfl rfl rfl (.cons (lendR rfl (by simp [ths, hmk]) (ths_one m)) (.cons lendD .nil)) takeI ?_
    refine bgo ?_
    refine b_call (toCase_b c ho) rfl rfl rfl rfl ?_
    refine bgo ?_
    refine b_call hi rfl rfl rfl rfl ?_
    refine bgo ?_
    refine b_call (eqThesisS_s l) rfl rfl rfl rfl ?_
    refine bgo ?_
    refine b_lookb hhb rfl rfl rfl (.cons (lendR rfl (by simp [ths, hmk]) (ths_one m)) (.cons lendD .nil)) takeI ?_
    refine bgo ?_
    trivial
theorem lawApplicableRules_b (c : Cs) : BRet Tryz.prog 12 [] [caseP c] (.bool true) [] := by
  refine bofM [13] Tryz.func12 ?_
  refine bgo ?_
  refine b_call (szCase_b c 1048576 (by decide) (by decide)) rfl rfl rfl rfl ?_
  by_cases h : szCs c 1048576 < 0
  · refine bgo ?_
    trivial
  have ho := szCs_ok c (by omega)
  obtain ⟨hm0, hm1⟩ := mkCs_less c (by omega)
  have hmz := markCase_z c 1 (by decide) hm1
  generalize mkCs c 1 = mk1 at *
  have hmn : ¬ mk1 < 0 := by omega
  have hi := ApplicableRules_b c
  have hs' := specApplicableRules_b c
  have hlen := appO_len c (by omega)
  generalize appO c = l at *
  generalize (head c && okI c) = ok at *
  refine bgo ?_
  refine b_call (toCase_b c ho) rfl rfl rfl rfl ?_
  refine bgo ?_
  refine b_call hs' rfl rfl rfl rfl ?_
  refine bgo ?_
  refine b_look (toCase_q c ho) rfl rfl (fun B => .cons lend3d .nil) take3 ?_
  refine bgo ?_
  by_cases hl : l = []
  · subst hl
    refine b_look hi rfl rfl (fun B => .cons lend3q .nil) take0 ?_
    refine bgo ?_
    refine b_call (eqIntS_s []) rfl rfl rfl rfl ?_
    refine bgo ?_
    refine b_call (toCase_b c ho) rfl rfl rfl rfl ?_
    refine bgo ?_
    refine b_look (eqCase_s c) rfl rfl (fun B => .cons lend3q (.cons lend3o .nil)) takeB ?_
    refine bgo ?_
    refine wk_unq [(1, .ptr (.t 1) 0), (4, .d (.sl 1 (ints []))), (5, .bool ok), (6, .ptr (.t 6) 0), (7, .d (.sl 1 [])), (8, .bool ok), (9, .int 1)] [(.t 1, caseDs c), (.t 6, caseZ c)] hs ?_
    refine bgo ?_
    refine b_writes hmz rfl rfl rfl rfl ?_
    refine bgo ?_
    refine b_call (eqIntS_s []) rfl rfl rfl rfl ?_
    refine bgo ?_
    refine b_call (markIntS_0 1 (by decide) (by decide)) rfl rfl rfl rfl ?_
    refine bgo ?_
    refine b_call (heldIntS_0 1 (by decide) (by decide)) rfl rfl rfl rfl ?_
    refine bgo ?_
    refine b_call (toCase_b c ho) rfl rfl rfl rfl ?_
    refine bgo ?_
    refine b_call hi rfl rfl rfl rfl ?_
    refine bgo ?_
    refine b_call (eqIntS_s []) rfl rfl rfl rfl ?_
    refine bgo ?_
    refine b_call (heldIntS_0 1 (by decide) (by decide)) rfl rfl rfl rfl ?_
    refine bgo ?_
    trivial
  · have hmr := markIntS_r l 1 (by decide) (by omega)
    have hhb := heldIntS_b l.length 1 (by decide) (by omega)
    have hmk : (mkI l.length 1).length = l.length := by simp [mkI]
    generalize mkI l.length 1 = m at *
    have hmn2 : ¬ ((1 : Int) + l.length < 0) := by omega
    have hll : (ints l).length = l.length := by simp [ints]
    refine b_boxed 99 hi .one rfl rfl rfl (fun B => .cons lend3q .nil) rfl (by simpa [ints] using hl) (ints_plain l) rfl ?_
    refine bgo ?_
    refine b_lookb (eqIntS_s l) rfl rfl rfl (.cons (lendR rfl (by first | rfl | exact hll) (ints_one l)) (.cons lendD .nil)) takeB ?_
    refine bgo ?_
    refine b_call (toCase_b c ho) rfl rfl rfl rfl ?_
    refine bgo ?_
    refine b_look (eqCase_s c) rfl rfl (fun B => .cons lend3q (.cons lend3o .nil)) takeB ?_
    refine bgo ?_
    refine wk_unq [(1, .ptr (.t 1) 0), (4, .d (.sl 1 (ints l))), (5, .bool ok), (6, .ptr (.t 6) 0), (7, .rsv (.t 99) 1 l.length), (8, .bool ok), (9, .int 1)] [(.t 1, caseDs c), (.t 6, caseZ c), (.t 99, row (ints l))] ⟨⟨⟨PLe.rfl, rfl⟩, ⟨PLe.own, rfl⟩, ⟨PLe.rfl, rfl⟩, ⟨PLe.rfl, rfl⟩, ⟨PLe.eq (by first | rfl | exact congrArg (PV.rsv (.t 99) 1) hll), rfl⟩, ⟨PLe.rfl, rfl⟩, ⟨PLe.rfl, rfl⟩, trivial⟩, ⟨_, rfl, HasC.same rfl⟩, ⟨_, rfl, HasC.same rfl⟩, ⟨_, rfl, HasC.of (unq_row _) (row_ok _ _)⟩, trivial⟩ ?_
    refine bgo ?_
    refine b_writes hmz rfl rfl rfl rfl ?_
    refine bgo ?_
    refine b_lookb (eqIntS_s l) rfl rfl rfl (.cons (lendR rfl (by simp [ints]) (ints_one l)) (.cons lendD .nil)) takeB ?_
    refine bgo ?_
    refine b_callr hmr rfl rfl (row_pass _) (row_gives _ trivial) rfl rfl rfl rfl rfl ?_
    refine bgo ?_
    refine b_lookb hhb rfl rfl rfl (.cons (lendR rfl (by simp [ints, hmk]) (ints_one m)) (.cons lendD .nil)) takeI ?_
    refine bgo ?_
    refine b_call (toCase_b c ho) rfl rfl rfl rfl ?_
    refine bgo ?_
    refine b_call hi rfl rfl rfl rfl ?_
    refine bgo ?_
    refine b_call (eqIntS_s l) rfl rfl rfl rfl ?_
    refine bgo ?_
    refine b_lookb hhb rfl rfl rfl (.cons (lendR rfl (by simp [ints, hmk]) (ints_one m)) (.cons lendD .nil)) takeI ?_
    refine bgo ?_
    trivial
end Go.Bee.Ar

/- Chapter 23: FrameworkOf: both sides. -/
namespace Go.Bee.Fw
open Go Go.Bee Go.Proofs Go.Bee.Ty
theorem bF0 : evBuild Tryz.prog 69 [] = some (.agg [.d (.int .i64 0), .nilS]) := by kernel_rfl
theorem bF1 : ∀ n : Int, evBuild Tryz.prog 69 [(0, .d (.int .i64 n))] = some (.agg [.d (.int .i64 n), .nilS]) := fun n => by kernel_rfl
theorem bF2 : ∀ (n : Int) (e : Nat), evBuild Tryz.prog 69 [(0, .d (.int .i64 n)), (1, .own e 2 [])] = some (.agg [.d (.int .i64 n), .own e 2 []]) := fun n e => by kernel_rfl
theorem bA : ∀ a b : Int, evBuild Tryz.prog 120 [(0, .d (.int .i64 a)), (1, .d (.int .i64 b))] = some (.agg [.d (.int .i64 a), .d (.int .i64 b)]) := fun a b => by kernel_rfl
theorem sA : ∀ a b : Int, evBuildSlice Tryz.prog 67 1 [(0, .agg [.d (.int .i64 a), .d (.int .i64 b)])] = some (.own 120 2 [.agg [.int .i64 a, .int .i64 b]]) := fun a b => by kernel_rfl
theorem slAt : SlT Tryz.prog 67 120 2 16 := ⟨_, _, ty67, rfl, ty120, rfl, rfl, rfl, by decide⟩
theorem tys : type_of% (And.intro Go.Bee.Ar.tys (And.intro bF0 (And.intro bF1 (And.intro bF2 (And.intro bA (And.intro sA slAt.facts)))))) := And.intro Go.Bee.Ar.tys (And.intro bF0 (And.intro bF1 (And.intro bF2 (And.intro bA (And.intro sA slAt.facts)))))
end Go.Bee.Fw
namespace Go.Bee.Fw
open Go Go.Bee Go.Proofs Go.Bee.Ty Go.Bee.C23 Go.Bee.C23s Go.Bee.C23a Go.Bee.Mt Go.Bee.Mr Go.Bee.Cq Go.Bee.Ml Go.Bee.Ar Go.Bee.Dr
set_option linter.unusedVariables false
set_option maxRecDepth 20000
attribute [local irreducible] Go.Bee.bwp
def atk (r s : Ru) : Bool := (decide (r.c = opp s.c) && decide (r.wt ≥ s.wt)) || (s.es.contains r.c || s.ps.contains (opp r.c))
def fwRow (r : Ru) (i : Nat) : List Ru → Nat → List (Nat × Nat)
  | [], _ => []
  | s :: l, j => if atk r s = true then (i, j) :: fwRow r i l (j + 1) else fwRow r i l (j + 1)
def fwAll (rs : List Ru) : List Ru → Nat → List (Nat × Nat)
  | [], _ => []
  | r :: l, i => fwRow r i rs 0 ++ fwAll rs l (i + 1)
def ats (l : List (Nat × Nat)) : List PD := l.map fun p => .agg [.int .i64 (p.1 : Int), .int .i64 (p.2 : Int)]
theorem ats_app (a b : List (Nat × Nat)) : ats (a ++ b) = ats a ++ ats b := List.map_append
def fwN (c : Cs) : Nat := if (head c && okI c) = true then c.rs.length else 0
def fwO (c : Cs) : List (Nat × Nat) := if (head c && okI c) = true then fwAll c.rs c.rs 0 else []
theorem l23Attacks_b (r s : Ru) : BRet Tryz.prog 98 [] [.agg [.d (.sl 2 (r.ps.map Th.e)), .d (.sl 2 (r.es.map Th.e)), .str r.c.n, .bool r.c.g, .int r.wt], .agg [.d (.sl 2 (s.ps.map Th.e)), .d (.sl 2 (s.es.map Th.e)), .str s.c.n, .bool s.c.g, .int s.wt]] (.bool (atk r s)) [] := by
  refine bof Tryz.func98 ?_
  have key : atk r s = ((decide (r.c = opp s.c) && decide (r.wt ≥ s.wt)) || (s.es.contains r.c || s.ps.contains (opp r.c))) := rfl
  generalize atk r s = res at *
  by_cases hx : r.c = opp s.c ∧ r.wt ≥ s.wt
  · obtain ⟨he, hw⟩ := hx
    have : res = true := by rw [key, decide_eq_true he, decide_eq_true hw]; rfl
    subst this
    have he2 : (⟨r.c.n, r.c.g⟩ : Th) = ⟨s.c.n, !s.c.g⟩ := he
    clear key he
    refine bgo ?_
    refine b_call (specOpp_b s.c) rfl rfl rfl rfl ?_
    refine bgo ?_
    trivial
  · have hrest : res = (s.es.contains r.c || s.ps.contains (opp r.c)) := by
      rw [key]
      by_cases he : r.c = opp s.c
      · have hw : ¬ r.wt ≥ s.wt := fun h => hx ⟨he, h⟩
        rw [decide_eq_false hw]; simp
      · rw [decide_eq_false he]; simp
    clear key
    have h3 := l23Has_b s.es r.c
    have h4 := l23Has_b s.ps (opp r.c)
    by_cases he : r.c = opp s.c
    all_goals
      have he2 := he
      first
        | replace he2 : (⟨r.c.n, r.c.g⟩ : Th) = ⟨s.c.n, !s.c.g⟩ := he
        | replace he2 : ¬ (⟨r.c.n, r.c.g⟩ : Th) = ⟨s.c.n, !s.c.g⟩ := he
      have hw : r.c = opp s.c → ¬ r.wt ≥ s.wt := fun e h => hx ⟨e, h⟩
      first
        | replace hw := hw he
        | skip
      clear he hx
      cases e3 : s.es.contains r.c
      all_goals
        cases e4 : s.ps.contains (opp r.c)
        all_goals
          rw [e3] at h3
          rw [e4] at h4
          rw [e3, e4] at hrest
          subst hrest
          refine bgo ?_
          refine b_call (specOpp_b s.c) rfl rfl rfl rfl ?_
          refine bgo ?_
          refine b_call h3 rfl rfl rfl rfl ?_
          refine bgo ?_
          first
            | trivial
            | (refine b_call (specOpp_b r.c) rfl rfl rfl rfl ?_
               refine bgo ?_
               refine b_call h4 rfl rfl rfl rfl ?_
               refine bgo ?_
               trivial)
theorem PLe.fwNil {e sz : Nat} {n : PV} {x : PV} : PLe (.tup [.agg [n, .nilS], x]) (.tup [.agg [n, .own e sz []], x]) := ⟨fun P G w loc v h => by
  obtain ⟨vs, rfl, h1, h2⟩ := h
  refine ⟨vs, rfl, by simpa using h1, fun i y u hy hu => ?_⟩
  match i, hy with
  | 0, hy =>
    simp at hy; subst hy
    obtain ⟨cs, e1, e2, e3, e4⟩ := h2 0 (.agg [n, .nilS]) u rfl hu
    refine ⟨cs, e1, by simpa using e2, e3, fun j z q hz hq => ?_⟩
    match j, hz with
    | 0, hz => exact e4 0 z q (by simpa using hz) hq
    | 1, hz =>
      simp at hz; subst hz
      exact CLe.nilO.c P G w _ q (e4 1 .nilS q rfl hq)
    | j + 2, hz => simp at hz
  | i + 1, hy => exact h2 (i + 1) y u (by simpa using hy) hu⟩
theorem fwRow_len (r : Ru) (i : Nat) : ∀ (l : List Ru) (j : Nat), (fwRow r i l j).length ≤ l.length
  | [], _ => Nat.le_refl _
  | s :: l, j => by
    have := fwRow_len r i l (j + 1)
    unfold fwRow
    split <;> simp <;> omega
set_option maxHeartbeats 4000000 in
theorem FrameworkOf_b (c : Cs) : BRet Tryz.prog 43 [] [caseP c] (.tup [.agg [.int (fwN c), .own 120 2 (ats (fwO c))], .bool (head c && okI c)]) [] := by
  have hd : fwO c = if (head c && okI c) = true then fwAll c.rs c.rs 0 else [] := rfl
  have hn : fwN c = if (head c && okI c) = true then c.rs.length else 0 := rfl
  cases hv : head c && okI c
  · rw [hv, if_neg (by decide)] at hd hn
    rw [hd, hn]
    refine BRet.less ?_ PLe.fwNil
    refine bof Tryz.func43 ?_
    refine bgo ?_
    refine b_call (IsValidCase_b c) rfl rfl rfl rfl ?_
    rw [hv]
    refine bgo ?_
    exact ret_ct rfl rfl rfl ty69 rfl rfl rfl rfl rfl (fun k => rfl)
  · have hf := head_fine hv
    rw [hv, if_pos rfl] at hd hn
    have hhv : head c = true := by simp only [Bool.and_eq_true] at hv; exact hv.1
    have hrl : c.rs.length ≤ 10 := by simp only [head, Bool.and_eq_true, decide_eq_true_eq] at hhv; omega
    rw [hd, hn]
    generalize hr : fwAll c.rs c.rs 0 = res
    refine bof Tryz.func43 ?_
    refine bgo ?_
    refine b_call (IsValidCase_b c) rfl rfl rfl rfl ?_
    rw [hv]
    refine bgo ?_
    refine b_lp (ι := Nat × List (Nat × Nat)) (fun i => [(1, .ptr (.t 1) 0), (2, .ptr (.t 2) 0), (4, .ptr (.t 4) 0), (19, .d (.sl 5 (c.rs.map Ru.e))), (20, .int c.rs.length), (21, .int i.1)]) (fun i => [(.t 1, caseDs c), (.t 2, [.int 0, .nilS]), (.t 4, [.int c.rs.length, .own 120 2 (ats i.2)])])
      (fun i => i.1 ≤ c.rs.length ∧ i.2 ++ fwAll c.rs (c.rs.drop i.1) i.1 = res ∧ i.2.length ≤ i.1 * 10) (fun i => c.rs.length - i.1) (0, []) hs ⟨Nat.zero_le _, hr, Nat.le_refl _⟩ ?_
    clear hr
    rintro ⟨i, out⟩ ⟨hi, hj, hl⟩ I nx
    dsimp only at hi hj hl ⊢
    by_cases hlt : i < c.rs.length
    · have hx : c.rs[i]? = some c.rs[i] := List.getElem?_eq_getElem hlt
      rw [List.drop_eq_getElem_cons hlt] at hj
      replace hj : out ++ (fwRow c.rs[i] i c.rs 0 ++ fwAll c.rs (c.rs.drop (i + 1)) (i + 1)) = res := hj
      generalize hri : c.rs[i] = ri at *
      have hib : (i : Int) + 1 ≤ 1000 := by omega
      refine bgo ?_
      refine b_lp (ι := Nat × List (Nat × Nat)) (fun k => [(1, .ptr (.t 1) 0), (2, .ptr (.t 2) 0), (4, .ptr (.t 4) 0), (5, .int i), (6, .ptr (.t 6) 0), (19, .d (.sl 5 (c.rs.map Ru.e))), (20, .int c.rs.length), (21, .int i), (27, .d (.sl 5 (c.rs.map Ru.e))), (28, .int c.rs.length), (29, .int k.1)])
        (fun k => [(.t 1, caseDs c), (.t 2, [.int 0, .nilS]), (.t 4, [.int c.rs.length, .own 120 2 (ats k.2)]), (.t 6, [.d (.sl 2 (ri.ps.map Th.e)), .d (.sl 2 (ri.es.map Th.e)), .str ri.c.n, .bool ri.c.g, .int ri.wt])])
        (fun k => k.1 ≤ c.rs.length ∧ k.2 ++ fwRow ri i (c.rs.drop k.1) k.1 = out ++ fwRow ri i c.rs 0 ∧ k.2.length ≤ i * 10 + k.1) (fun k => c.rs.length - k.1) (0, out) hs ⟨Nat.zero_le _, rfl, by simpa using hl⟩ ?_
      rintro ⟨j, o2⟩ ⟨hj1, hj2, hl2⟩ I2 nx2
      dsimp only at hj1 hj2 hl2 ⊢
      by_cases hlt2 : j < c.rs.length
      · have hy : c.rs[j]? = some c.rs[j] := List.getElem?_eq_getElem hlt2
        rw [List.drop_eq_getElem_cons hlt2] at hj2
        generalize hrj : c.rs[j] = rj at *
        have hjb : (j : Int) + 1 ≤ 1000 := by omega
        have key : atk ri rj = ((decide (ri.c = opp rj.c) && decide (ri.wt ≥ rj.wt)) || (rj.es.contains ri.c || rj.ps.contains (opp ri.c))) := rfl
        have hoa := ats_app o2 [(i, j)]
        have hol : (ats o2).length = o2.length := by simp [ats]
        have hF : atk ri rj = false → o2 ++ fwRow ri i (c.rs.drop (j + 1)) (j + 1) = out ++ fwRow ri i c.rs 0 := fun ha => by rw [← hj2, show fwRow ri i (rj :: c.rs.drop (j + 1)) j = fwRow ri i (c.rs.drop (j + 1)) (j + 1) from if_neg (by simp [ha])]
        have hT : atk ri rj = true → (o2 ++ [(i, j)]) ++ fwRow ri i (c.rs.drop (j + 1)) (j + 1) = out ++ fwRow ri i c.rs 0 := fun ha => by rw [← hj2, show fwRow ri i (rj :: c.rs.drop (j + 1)) j = (i, j) :: fwRow ri i (c.rs.drop (j + 1)) (j + 1) from if_pos ha]; simp
        have h3 := containsTh_b rj.es ri.c
        have h4 := containsTh_b rj.ps (opp ri.c)
        clear hj2 hj
        by_cases hx9 : ri.c = opp rj.c ∧ ri.wt ≥ rj.wt
        · obtain ⟨he, hw⟩ := hx9
          have hj3 := hT (by rw [key, decide_eq_true he, decide_eq_true hw]; rfl)
          have he2 : (⟨ri.c.n, ri.c.g⟩ : Th) = ⟨rj.c.n, !rj.c.g⟩ := he
          clear key he hF hT h3 h4
          refine bgo ?_
          refine b_call (opposite_b rj.c) rfl rfl rfl rfl ?_
          refine bgo ?_
          refine nx2.go (j + 1, o2 ++ [(i, j)]) ⟨hlt2, hj3, by simp; omega⟩ (by dsimp only; omega) ?_
          exact ⟨⟨⟨PLe.rfl, rfl⟩, ⟨PLe.rfl, rfl⟩, ⟨PLe.rfl, rfl⟩, ⟨PLe.rfl, rfl⟩, ⟨PLe.rfl, rfl⟩, ⟨PLe.rfl, rfl⟩, ⟨PLe.rfl, rfl⟩, ⟨PLe.rfl, rfl⟩, ⟨PLe.rfl, rfl⟩, ⟨PLe.rfl, rfl⟩, ⟨PLe.rfl, rfl⟩, trivial⟩, ⟨_, rfl, HasC.same rfl⟩, ⟨_, rfl, HasC.same rfl⟩, ⟨_, rfl, ⟨⟨CLe.rfl, rfl⟩, ⟨CLe.eq (congrArg (PV.own 120 2) hoa.symm), rfl⟩, trivial⟩⟩, ⟨_, rfl, HasC.same rfl⟩, trivial⟩
        · have hrest : atk ri rj = (rj.es.contains ri.c || rj.ps.contains (opp ri.c)) := by
            rw [key]
            by_cases he : ri.c = opp rj.c
            · have hw : ¬ ri.wt ≥ rj.wt := fun h => hx9 ⟨he, h⟩
              rw [decide_eq_false hw]; simp
            · rw [decide_eq_false he]; simp
          clear key
          by_cases he : ri.c = opp rj.c
          all_goals
            have he2 := he
            first
              | replace he2 : (⟨ri.c.n, ri.c.g⟩ : Th) = ⟨rj.c.n, !rj.c.g⟩ := he
              | replace he2 : ¬ (⟨ri.c.n, ri.c.g⟩ : Th) = ⟨rj.c.n, !rj.c.g⟩ := he
            have hw : ri.c = opp rj.c → ¬ ri.wt ≥ rj.wt := fun e h => hx9 ⟨e, h⟩
            first
              | replace hw := hw he
              | skip
            clear he hx9
            cases e3 : rj.es.contains ri.c
            all_goals
              cases e4 : rj.ps.contains (opp ri.c)
              all_goals
                rw [e3] at h3
                rw [e4] at h4
                rw [e3, e4] at hrest
                first
                  | (have hj3 := hF hrest
                     clear hF hT hrest
                     refine bgo ?_
                     refine b_call (opposite_b rj.c) rfl rfl rfl rfl ?_
                     refine bgo ?_
                     refine b_call h3 rfl rfl rfl rfl ?_
                     refine bgo ?_
                     refine b_call (opposite_b ri.c) rfl rfl rfl rfl ?_
                     refine bgo ?_
                     refine b_call h4 rfl rfl rfl rfl ?_
                     refine bgo ?_
                     exact nx2.go (j + 1, o2) ⟨hlt2, hj3, by dsimp only; omega⟩ (by dsimp only; omega) hs)
                  | (have hj3 := hT hrest
                     clear hF hT hrest
                     refine bgo ?_
                     refine b_call (opposite_b rj.c) rfl rfl rfl rfl ?_
                     refine bgo ?_
                     refine b_call h3 rfl rfl rfl rfl ?_
                     refine bgo ?_
                     first
                       | skip
                     try (refine b_call (opposite_b ri.c) rfl rfl rfl rfl ?_; refine bgo ?_; refine b_call h4 rfl rfl rfl rfl ?_; refine bgo ?_)
                     refine nx2.go (j + 1, o2 ++ [(i, j)]) ⟨hlt2, hj3, by simp; omega⟩ (by dsimp only; omega) ?_
                     exact ⟨⟨⟨PLe.rfl, rfl⟩, ⟨PLe.rfl, rfl⟩, ⟨PLe.rfl, rfl⟩, ⟨PLe.rfl, rfl⟩, ⟨PLe.rfl, rfl⟩, ⟨PLe.rfl, rfl⟩, ⟨PLe.rfl, rfl⟩, ⟨PLe.rfl, rfl⟩, ⟨PLe.rfl, rfl⟩, ⟨PLe.rfl, rfl⟩, ⟨PLe.rfl, rfl⟩, trivial⟩, ⟨_, rfl, HasC.same rfl⟩, ⟨_, rfl, HasC.same rfl⟩, ⟨_, rfl, ⟨⟨CLe.rfl, rfl⟩, ⟨CLe.eq (congrArg (PV.own 120 2) hoa.symm), rfl⟩, trivial⟩⟩, ⟨_, rfl, HasC.same rfl⟩, trivial⟩)
      · have hj4 : j = c.rs.length := by omega
        subst hj4
        rw [List.drop_length] at hj2
        replace hj2 : o2 = out ++ fwRow ri i c.rs 0 := by simpa [fwRow] using hj2
        have hj5 : o2 ++ fwAll c.rs (c.rs.drop (i + 1)) (i + 1) = res := by rw [hj2, ← hj, List.append_assoc]
        clear hj2 hj
        refine bgo ?_
        refine wk_rfl ?_
        refine bgo ?_
        exact nx.go (i + 1, o2) ⟨hlt, hj5, by dsimp only; omega⟩ (by dsimp only; omega) hs
    · have hi2 : i = c.rs.length := by omega
      subst hi2
      rw [List.drop_length] at hj
      replace hj : out = res := by simpa [fwAll] using hj
      subst hj
      refine bgo ?_
      refine wk_rfl ?_
      refine bgo ?_
      exact ret_ct rfl rfl rfl ty69 rfl rfl rfl rfl rfl (fun k => rfl)
/-! The framework is a valid one. -/
def lexlt (p q : Nat × Nat) : Prop := p.1 < q.1 ∨ (p.1 = q.1 ∧ p.2 < q.2)
theorem fwRow_mem (r : Ru) (i : Nat) : ∀ (l : List Ru) (j : Nat) (p : Nat × Nat), p ∈ fwRow r i l j → p.1 = i ∧ j ≤ p.2 ∧ p.2 < j + l.length
  | [], _, p, h => by simp [fwRow] at h
  | s :: l, j, p, h => by
    unfold fwRow at h
    simp only [List.length_cons]
    split at h
    · rcases List.mem_cons.1 h with rfl | h
      · exact ⟨rfl, Nat.le_refl _, by dsimp only; omega⟩
      · have := fwRow_mem r i l (j + 1) p h; omega
    · have := fwRow_mem r i l (j + 1) p h; omega
theorem fwRow_pw (r : Ru) (i : Nat) : ∀ (l : List Ru) (j : Nat), (fwRow r i l j).Pairwise lexlt
  | [], _ => by simp [fwRow]
  | s :: l, j => by
    unfold fwRow
    split
    · refine List.pairwise_cons.2 ⟨fun p hp => ?_, fwRow_pw r i l (j + 1)⟩
      have := fwRow_mem r i l (j + 1) p hp
      right; dsimp only; omega
    · exact fwRow_pw r i l (j + 1)
theorem fwAll_mem (rs : List Ru) : ∀ (l : List Ru) (i : Nat) (p : Nat × Nat), p ∈ fwAll rs l i → i ≤ p.1 ∧ p.1 < i + l.length ∧ p.2 < rs.length
  | [], _, p, h => by simp [fwAll] at h
  | r :: l, i, p, h => by
    unfold fwAll at h
    simp only [List.length_cons]
    rcases List.mem_append.1 h with h | h
    · have := fwRow_mem r i rs 0 p h; omega
    · have := fwAll_mem rs l (i + 1) p h; omega
theorem fwAll_pw (rs : List Ru) : ∀ (l : List Ru) (i : Nat), (fwAll rs l i).Pairwise lexlt
  | [], _ => by simp [fwAll]
  | r :: l, i => by
    unfold fwAll
    refine List.pairwise_append.2 ⟨fwRow_pw r i rs 0, fwAll_pw rs l (i + 1), fun p hp q hq => ?_⟩
    have h1 := fwRow_mem r i rs 0 p hp
    have h2 := fwAll_mem rs l (i + 1) q hq
    left; omega
theorem fwAll_len (rs : List Ru) : ∀ (l : List Ru) (i : Nat), (fwAll rs l i).length ≤ l.length * rs.length
  | [], _ => by simp [fwAll]
  | r :: l, i => by
    have h1 := fwRow_len r i rs 0
    have h2 := fwAll_len rs l (i + 1)
    unfold fwAll
    rw [List.length_append, List.length_cons, Nat.add_mul]
    omega
theorem IsValidFramework_b (n : Nat) (l : List (Nat × Nat)) (hn : n ≤ 10) (hl : l.length ≤ 1048576) (hm : ∀ p ∈ l, p.1 < n ∧ p.2 < n) (hp : l.Pairwise lexlt) : BRet Tryz.prog 44 [] [.agg [.int n, .d (.sl 2 (ats l))]] (.bool true) [] := by
  refine bof Tryz.func44 ?_
  have hat : ∀ i (h : i < l.length), (ats l)[i]? = some (.agg [.int .i64 (l[i].1 : Int), .int .i64 (l[i].2 : Int)]) := fun i h => by simp [ats, h]
  have hal : (ats l).length = l.length := by simp [ats]
  generalize ats l = q at *
  have hin : inB (n : Int) 0 10 = true := by simp [inB]; omega
  have hwn := within_b n 0 10
  rw [hin] at hwn
  refine bgo ?_
  refine b_call hwn rfl rfl rfl rfl ?_
  refine bgo ?_
  refine b_lp (ι := Nat × Unit) (fun i => [(1, .ptr (.t 1) 0), (10, .d (.sl 2 q)), (11, .int l.length), (12, .int i.1)]) (fun _ => [(.t 1, [.int n, .d (.sl 2 q)])]) (fun i => i.1 ≤ l.length) (fun i => l.length - i.1) (0, ()) hs (Nat.zero_le _) ?_
  rintro ⟨i, u⟩ hi I nx
  dsimp only at hi ⊢
  by_cases hlt : i < l.length
  · have hx := hat i hlt
    have hb := hm l[i] (List.getElem_mem hlt)
    have h1 := within_b (l[i].1 : Int) 0 (n - 1)
    have h2 := within_b (l[i].2 : Int) 0 (n - 1)
    have e1 : inB (l[i].1 : Int) 0 (n - 1) = true := by simp [inB]; omega
    have e2 : inB (l[i].2 : Int) 0 (n - 1) = true := by simp [inB]; omega
    rw [e1] at h1
    rw [e2] at h2
    have hib : (i : Int) + 1 ≤ 1000000000 := by omega
    have hnb : (n : Int) ≤ 10 := by omega
    by_cases h0 : (i : Int) > 0
    · have hpi : i - 1 < l.length := by omega
      have hy := hat (i - 1) hpi
      have hlx := List.pairwise_iff_getElem.1 hp (i - 1) i hpi hlt (by omega)
      have hio : (i : Int) - 1 = ((i - 1 : Nat) : Int) := by omega
      generalize l[i] = a at *
      generalize l[i - 1] = b at *
      obtain ⟨a1, a2⟩ := a
      obtain ⟨b1, b2⟩ := b
      dsimp only [lexlt] at hlx h1 h2 hx hy hb ⊢
      have hn1 : ¬ (a1 : Int) < (b1 : Int) := by omega
      clear hat hm hp e1 e2
      by_cases hq : a1 = b1
      · subst hq
        have hn2 : ¬ (a2 : Int) ≤ (b2 : Int) := by omega
        clear hlx
        refine bgo ?_
        refine b_call h1 rfl rfl rfl rfl ?_
        refine bgo ?_
        refine b_call h2 rfl rfl rfl rfl ?_
        refine bgo ?_
        exact nx.go (i + 1, ()) hlt (by dsimp only; omega) hs
      · have hq3 : ((a1 : Int) == (b1 : Int)) = false := beq_false_of_ne (by omega)
        clear hlx hq
        refine bgo ?_
        refine b_call h1 rfl rfl rfl rfl ?_
        refine bgo ?_
        refine b_call h2 rfl rfl rfl rfl ?_
        refine bgo ?_
        exact nx.go (i + 1, ()) hlt (by dsimp only; omega) hs
    · clear hat
      refine bgo ?_
      refine b_call h1 rfl rfl rfl rfl ?_
      refine bgo ?_
      refine b_call h2 rfl rfl rfl rfl ?_
      refine bgo ?_
      exact nx.go (i + 1, ()) hlt (by dsimp only; omega) hs
  · have hlt2 : ¬ (i : Int) < l.length := by omega
    refine bgo ?_
    refine wk_rfl ?_
    refine bgo ?_
    trivial
end Go.Bee.Fw

/- Chapter 23: the law of FrameworkOf. -/
namespace Go.Bee.Fl
open Go Go.Bee Go.Proofs Go.Bee.Ty
theorem tys : type_of% Go.Bee.Fw.tys := Go.Bee.Fw.tys
end Go.Bee.Fl
namespace Go.Bee.Fl
open Go Go.Bee Go.Proofs Go.Bee.Ty Go.Bee.C23 Go.Bee.C23s Go.Bee.C23a Go.Bee.Mt Go.Bee.Mr Go.Bee.Cq Go.Bee.Ml Go.Bee.Ar Go.Bee.Dr Go.Bee.Fw
set_option linter.unusedVariables false
set_option maxRecDepth 20000
attribute [local irreducible] Go.Bee.bwp
theorem specFrameworkOf_b (c : Cs) : BRet Tryz.prog 47 [] [caseP c] (.tup [.agg [.int (fwN c), .own 120 2 (ats (fwO c))], .bool (head c && okI c)]) [] := by
  have hd : fwO c = if (head c && okI c) = true then fwAll c.rs c.rs 0 else [] := rfl
  have hn : fwN c = if (head c && okI c) = true then c.rs.length else 0 := rfl
  cases hv : head c && okI c
  · rw [hv, if_neg (by decide)] at hd hn
    rw [hd, hn]
    refine BRet.less ?_ PLe.fwNil
    refine bof Tryz.func47 ?_
    refine bgo ?_
    refine b_call (good_b c) rfl rfl rfl rfl ?_
    rw [hv]
    refine bgo ?_
    exact ret_ct rfl rfl rfl ty69 rfl rfl rfl rfl rfl (fun k => rfl)
  · have hf := head_fine hv
    rw [hv, if_pos rfl] at hd hn
    have hhv : head c = true := by simp only [Bool.and_eq_true] at hv; exact hv.1
    have hrl : c.rs.length ≤ 10 := by simp only [head, Bool.and_eq_true, decide_eq_true_eq] at hhv; omega
    rw [hd, hn]
    generalize hr : fwAll c.rs c.rs 0 = res
    refine bof Tryz.func47 ?_
    refine bgo ?_
    refine b_call (good_b c) rfl rfl rfl rfl ?_
    rw [hv]
    refine bgo ?_
    refine b_lp (ι := Nat × List (Nat × Nat)) (fun i => [(1, .ptr (.t 1) 0), (2, .ptr (.t 2) 0), (4, .ptr (.t 4) 0), (5, .int i.1)]) (fun i => [(.t 1, caseDs c), (.t 2, [.int 0, .nilS]), (.t 4, [.int c.rs.length, .own 120 2 (ats i.2)])])
      (fun i => i.1 ≤ c.rs.length ∧ i.2 ++ fwAll c.rs (c.rs.drop i.1) i.1 = res ∧ i.2.length ≤ i.1 * 10) (fun i => c.rs.length - i.1) (0, []) hs ⟨Nat.zero_le _, hr, Nat.le_refl _⟩ ?_
    clear hr
    rintro ⟨i, out⟩ ⟨hi, hj, hl⟩ I nx
    dsimp only at hi hj hl ⊢
    by_cases hlt : i < c.rs.length
    · have hx : c.rs[i]? = some c.rs[i] := List.getElem?_eq_getElem hlt
      rw [List.drop_eq_getElem_cons hlt] at hj
      replace hj : out ++ (fwRow c.rs[i] i c.rs 0 ++ fwAll c.rs (c.rs.drop (i + 1)) (i + 1)) = res := hj
      generalize hri : c.rs[i] = ri at *
      have hib : (i : Int) + 1 ≤ 1000 := by omega
      refine bgo ?_
      refine b_lp (ι := Nat × List (Nat × Nat)) (fun k => [(1, .ptr (.t 1) 0), (2, .ptr (.t 2) 0), (4, .ptr (.t 4) 0), (5, .int i), (6, .int k.1)]) (fun k => [(.t 1, caseDs c), (.t 2, [.int 0, .nilS]), (.t 4, [.int c.rs.length, .own 120 2 (ats k.2)])])
        (fun k => k.1 ≤ c.rs.length ∧ k.2 ++ fwRow ri i (c.rs.drop k.1) k.1 = out ++ fwRow ri i c.rs 0 ∧ k.2.length ≤ i * 10 + k.1) (fun k => c.rs.length - k.1) (0, out) hs ⟨Nat.zero_le _, rfl, by simpa using hl⟩ ?_
      rintro ⟨j, o2⟩ ⟨hj1, hj2, hl2⟩ I2 nx2
      dsimp only at hj1 hj2 hl2 ⊢
      by_cases hlt2 : j < c.rs.length
      · have hy : c.rs[j]? = some c.rs[j] := List.getElem?_eq_getElem hlt2
        rw [List.drop_eq_getElem_cons hlt2] at hj2
        generalize hrj : c.rs[j] = rj at *
        have hat := l23Attacks_b ri rj
        have hjb : (j : Int) + 1 ≤ 1000 := by omega
        cases ha : atk ri rj
        · have hj3 : o2 ++ fwRow ri i (c.rs.drop (j + 1)) (j + 1) = out ++ fwRow ri i c.rs 0 := by rw [← hj2, show fwRow ri i (rj :: c.rs.drop (j + 1)) j = fwRow ri i (c.rs.drop (j + 1)) (j + 1) from if_neg (by simp [ha])]
          rw [ha] at hat
          clear hj2 hj
          refine bgo ?_
          refine b_call hat rfl rfl rfl rfl ?_
          refine bgo ?_
          exact nx2.go (j + 1, o2) ⟨hlt2, hj3, by dsimp only; omega⟩ (by dsimp only; omega) hs
        · have hj3 : (o2 ++ [(i, j)]) ++ fwRow ri i (c.rs.drop (j + 1)) (j + 1) = out ++ fwRow ri i c.rs 0 := by rw [← hj2, show fwRow ri i (rj :: c.rs.drop (j + 1)) j = (i, j) :: fwRow ri i (c.rs.drop (j + 1)) (j + 1) from if_pos ha]; simp
          rw [ha] at hat
          have hoa := ats_app o2 [(i, j)]
          have hol : (ats o2).length = o2.length := by simp [ats]
          clear hj2 hj
          refine bgo ?_
          refine b_call hat rfl rfl rfl rfl ?_
          refine bgo ?_
          refine nx2.go (j + 1, o2 ++ [(i, j)]) ⟨hlt2, hj3, by simp; omega⟩ (by dsimp only; omega) ?_
          exact ⟨⟨⟨PLe.rfl, rfl⟩, ⟨PLe.rfl, rfl⟩, ⟨PLe.rfl, rfl⟩, ⟨PLe.rfl, rfl⟩, ⟨PLe.rfl, rfl⟩, trivial⟩, ⟨_, rfl, HasC.same rfl⟩, ⟨_, rfl, HasC.same rfl⟩, ⟨_, rfl, ⟨⟨CLe.rfl, rfl⟩, ⟨CLe.eq (congrArg (PV.own 120 2) hoa.symm), rfl⟩, trivial⟩⟩, trivial⟩
      · have hj4 : j = c.rs.length := by omega
        subst hj4
        rw [List.drop_length] at hj2
        replace hj2 : o2 = out ++ fwRow ri i c.rs 0 := by simpa [fwRow] using hj2
        have hj5 : o2 ++ fwAll c.rs (c.rs.drop (i + 1)) (i + 1) = res := by rw [hj2, ← hj, List.append_assoc]
        clear hj2 hj
        refine bgo ?_
        refine wk_rfl ?_
        refine bgo ?_
        exact nx.go (i + 1, o2) ⟨hlt, hj5, by dsimp only; omega⟩ (by dsimp only; omega) hs
    · have hi2 : i = c.rs.length := by omega
      subst hi2
      rw [List.drop_length] at hj
      replace hj : out = res := by simpa [fwAll] using hj
      subst hj
      refine bgo ?_
      refine wk_rfl ?_
      refine bgo ?_
      exact ret_ct rfl rfl rfl ty69 rfl rfl rfl rfl rfl (fun k => rfl)
theorem ats_two (l : List (Nat × Nat)) : ∀ x ∈ ats l, x.cells.length = 2 := fun x hx => by obtain ⟨t, _, rfl⟩ := List.mem_map.1 hx; rfl
theorem ats_plain (l : List (Nat × Nat)) : ∀ x ∈ flat (ats l), x.plain = true := by
  intro x hx
  obtain ⟨y, hy, hxy⟩ := List.mem_flatMap.1 hx
  obtain ⟨t, _, rfl⟩ := List.mem_map.1 hy
  simp only [PD.cells, List.mem_cons, List.not_mem_nil, or_false] at hxy
  rcases hxy with rfl | rfl <;> rfl
theorem row_at2 {a b : List (Nat × Nat)} {i : Nat} {v : Nat × Nat} (hv : a[i]? = some v) (hb : i < b.length) :
    ((row (ats (a.take i ++ b.drop i))).set (i * 2) (.d (.int .i64 (v.1 : Int)))).set (i * 2 + 1) (.d (.int .i64 (v.2 : Int))) = row (ats (a.take (i + 1) ++ b.drop (i + 1))) := by
  obtain ⟨ha, rfl⟩ := List.getElem?_eq_some_iff.1 hv
  have h1 : (row (ats (a.take i))).length = i * 2 := by rw [row_len (ats_two _)]; simp [ats]; omega
  rw [List.drop_eq_getElem_cons hb, List.take_succ_eq_append_getElem ha, show b[i] :: b.drop (i + 1) = [b[i]] ++ b.drop (i + 1) from rfl]
  simp only [ats_app, row_app]
  rw [List.set_append_right _ _ (by omega), h1, Nat.sub_self]
  show (row (ats (a.take i)) ++ (([PV.d (.int .i64 (b[i].1 : Int)), PV.d (.int .i64 (b[i].2 : Int))] ++ row (ats (b.drop (i + 1)))).set 0 (.d (.int .i64 (a[i].1 : Int))))).set (i * 2 + 1) _ = _
  rw [List.set_append_right _ _ (by omega), h1, show i * 2 + 1 - i * 2 = 1 by omega, List.append_assoc]
  rfl
/-- Marks from k on, k a natural number. -/
def mkA (n k : Nat) : List (Nat × Nat) := (List.range n).map fun i => (k + 2 * i, k + 2 * i + 1)
theorem markAttackS_r (l : List (Nat × Nat)) (k : Nat) (hk : k + 2 * l.length ≤ 1099511627776) : BRet Tryz.prog 100 [row (ats l)] [.rsv (.a 0) 2 l.length, .int k] (.int (k + 2 * l.length : Nat)) [row (ats (mkA l.length k))] := by
  refine bofp Tryz.func100 ?_
  have hml : (mkA l.length k).length = l.length := by simp [mkA]
  have hmi : ∀ i, i < l.length → (mkA l.length k)[i]? = some (k + 2 * i, k + 2 * i + 1) := fun i h => by simp [mkA, h]
  generalize mkA l.length k = m at *
  have hm0 : row (ats (m.take 0 ++ l.drop 0)) = row (ats l) := by simp
  have hm1 : row (ats (m.take l.length ++ l.drop l.length)) = row (ats m) := by rw [List.drop_length, List.append_nil, ← hml, List.take_length]
  refine bgo ?_
  refine b_lp (ι := Nat × Nat) (fun i => [(0, .rsv (.a 0) 2 l.length), (1, .int i.2), (5, .int i.1)]) (fun i => [(.a 0, row (ats (m.take i.1 ++ l.drop i.1)))]) (fun i => i.1 ≤ l.length ∧ i.2 = k + 2 * i.1) (fun i => l.length - i.1) (0, k)
    ⟨hsT, ⟨_, rfl, HasC.of hm0.symm (row_ok _ _)⟩, trivial⟩ ⟨Nat.zero_le _, by simp⟩ ?_
  rintro ⟨i, j⟩ ⟨hi, hj⟩ I nx
  dsimp only at hi hj ⊢
  by_cases hlt : i < l.length
  · have hlm : (row (ats (m.take i ++ l.drop i))).length = l.length * 2 := by rw [row_len (ats_two _)]; simp [ats]; omega
    have hst := row_at2 (a := m) (b := l) (i := i) (hmi i hlt) hlt
    rw [← hj] at hst
    have hib : (i : Int) + 1 ≤ 1099511627776 := by omega
    have hkb : (j : Int) + 2 ≤ 1099511627776 := by omega
    have hj2 : k + 2 * (i + 1) = j + 1 + 1 := by omega
    clear hj
    generalize hX : row (ats (m.take i ++ l.drop i)) = X at *
    refine bgo ?_
    refine ⟨by omega, ?_, nx.go (i + 1, j + 1 + 1) ⟨hlt, hj2.symm⟩ (by dsimp only; omega) ⟨⟨⟨PLe.rfl, rfl⟩, ⟨PLe.rfl, rfl⟩, ⟨PLe.rfl, rfl⟩, trivial⟩, ⟨_, rfl, HasC.of ?_ (row_ok _ _)⟩, trivial⟩⟩
    · simp only [Nat.add_zero]
      rw [put_set X (i * 2) _ (by omega), List.length_set]; omega
    · simp only [Nat.add_zero]
      rw [put_set X (i * 2) _ (by omega), put_set _ (i * 2 + 1) _ (by rw [List.length_set]; omega)]
      exact hst
  · have hi2 : i = l.length := by omega
    subst hi2
    subst hj
    refine bgo ?_
    refine wk_mk [(1, .int (k + 2 * l.length : Nat))] [(.a 0, row (ats m))] ⟨hsT, ⟨_, rfl, HasC.of (by first | rfl | exact hm1) (row_ok _ _)⟩, trivial⟩ ?_
    refine bgo ?_
    exact ret_1p rfl rfl rfl (fun k => rfl) (row_gives _ trivial)
theorem heldAttackS_b (n k : Nat) (hk : k + 2 * n ≤ 1099511627776) : BRet Tryz.prog 101 [] [.d (.sl 2 (ats (mkA n k))), .int k] (.int (k + 2 * n : Nat)) [] := by
  refine bof Tryz.func101 ?_
  have hml : (mkA n k).length = n := by simp [mkA]
  have hll : (ats (mkA n k)).length = n := by simp [ats, hml]
  have hli : ∀ i, i < n → (ats (mkA n k))[i]? = some (.agg [.int .i64 ((k + 2 * i : Nat) : Int), .int .i64 ((k + 2 * i + 1 : Nat) : Int)]) := fun i h => by simp [ats, mkA, h]
  generalize ats (mkA n k) = q at *
  refine bgo ?_
  refine b_lp (ι := Nat × Nat) (fun i => [(0, .d (.sl 2 q)), (1, .int i.2), (5, .int i.1)]) (fun _ => []) (fun i => i.1 ≤ n ∧ i.2 = k + 2 * i.1) (fun i => n - i.1) (0, k) hs ⟨Nat.zero_le _, by simp⟩ ?_
  rintro ⟨i, j⟩ ⟨hi, hj⟩ I nx
  dsimp only at hi hj ⊢
  by_cases hlt : i < n
  · have hx := hli i hlt
    rw [← hj] at hx
    have hx1 : (j : Int) + 1 = ((j + 1 : Nat) : Int) := by omega
    have hib : (i : Int) + 1 ≤ 1099511627776 := by omega
    have hkb : (j : Int) + 2 ≤ 1099511627776 := by omega
    have hj2 : k + 2 * (i + 1) = j + 1 + 1 := by omega
    have hlt2 : i < q.length := by omega
    clear hj hml hli hx1
    refine bgo ?_
    exact ⟨fun h => absurd rfl h, fun _ => nx.go (i + 1, j + 1 + 1) ⟨hlt, hj2.symm⟩ (by dsimp only; omega) hs⟩
  · have hi2 : i = n := by omega
    subst hi2
    subst hj
    have hlt2 : ¬ i < q.length := by omega
    refine bgo ?_
    refine wk_rfl ?_
    refine bgo ?_
    trivial
theorem eqAttack_s (a b : Int) : BRet Tryz.prog 138 [] [.agg [.int a, .int b], .agg [.int a, .int b]] (.bool true) [] := by
  refine bof Tryz.func138 ?_
  refine bgo ?_
  first
    | trivial
    | rfl
theorem eqAttackS_s (l : List (Nat × Nat)) : BRet Tryz.prog 99 [] [.d (.sl 2 (ats l)), .d (.sl 2 (ats l))] (.bool true) [] := by
  refine BRet.len 0 (by kernel_rfl) rfl fun hl => ?_
  refine bof Tryz.func99 ?_
  have hll : (ats l).length = l.length := by simp [ats]
  have hli : ∀ i (h : i < l.length), (ats l)[i]? = some (.agg [.int .i64 (l[i].1 : Int), .int .i64 (l[i].2 : Int)]) := fun i h => by simp [ats, h]
  generalize ats l = q at *
  refine bgo ?_
  refine b_lp (ι := Nat × Unit) (fun i => [(0, .d (.sl 2 q)), (1, .d (.sl 2 q)), (5, .int i.1)]) (fun _ => []) (fun i => i.1 ≤ l.length) (fun i => l.length - i.1) (0, ()) hs (Nat.zero_le _) ?_
  rintro ⟨i, u⟩ hi I nx
  dsimp only at hi ⊢
  by_cases hlt : i < l.length
  · have hx := hli i hlt
    have he := eqAttack_s (l[i].1 : Int) (l[i].2 : Int)
    generalize l[i] = x at *
    have hib : (i : Int) + 1 ≤ 1099511627776000 := by omega
    have hlt2 : i < q.length := by omega
    clear hli
    refine bgo ?_
    refine b_call he rfl rfl rfl rfl ?_
    refine bgo ?_
    exact nx.go (i + 1, ()) hlt (by dsimp only; omega) hs
  · have hlt2 : ¬ i < q.length := by omega
    refine bgo ?_
    refine wk_rfl ?_
    refine bgo ?_
    trivial
theorem markFramework_r (n : Int) (l : List (Nat × Nat)) (k : Nat) (hk : k + 2 * l.length ≤ 1099511627776) : BRet Tryz.prog 49 [row (ats l)] [.agg [.int n, .rsv (.a 0) 2 l.length], .int k] (.int (k + 2 * l.length : Nat)) [row (ats (mkA l.length k))] := by
  refine bofp Tryz.func49 ?_
  have h := markAttackS_r l k hk
  refine bgo ?_
  refine b_callr h rfl rfl (row_pass _) (row_gives _ trivial) rfl rfl rfl rfl rfl ?_
  refine bgo ?_
  exact ret_1p rfl rfl rfl (fun k => rfl) (row_gives _ trivial)
theorem heldFramework_b (n : Int) (m k : Nat) (hk : k + 2 * m ≤ 1099511627776) : BRet Tryz.prog 50 [] [.agg [.int n, .d (.sl 2 (ats (mkA m k)))], .int k] (.int (k + 2 * m : Nat)) [] := by
  refine bof Tryz.func50 ?_
  have h := heldAttackS_b m k hk
  have hn : ¬ (((k + 2 * m : Nat) : Int) < 0) := by omega
  generalize ats (mkA m k) = q at *
  refine bgo ?_
  refine b_call h rfl rfl rfl rfl ?_
  refine bgo ?_
  trivial
theorem eqFramework_s (n : Int) (l : List (Nat × Nat)) : BRet Tryz.prog 48 [] [.agg [.int n, .d (.sl 2 (ats l))], .agg [.int n, .d (.sl 2 (ats l))]] (.bool true) [] := by
  refine bof Tryz.func48 ?_
  have h := eqAttackS_s l
  generalize ats l = q at *
  refine bgo ?_
  refine b_call h rfl rfl rfl rfl ?_
  refine bgo ?_
  trivial
theorem markAttackS_0 (k : Int) (h : 0 ≤ k) (h2 : k ≤ 1099511627776) : BRet Tryz.prog 100 [] [.d (.sl 2 []), .int k] (.int k) [] := by
  refine bof Tryz.func100 ?_
  refine bgo ?_
  refine b_lp (ι := Nat × Unit) (fun i => [(0, .d (.sl 2 [])), (1, .int k), (5, .int i.1)]) (fun _ => []) (fun _ => True) (fun i => 0) (0, ()) hs trivial ?_
  rintro ⟨i, u⟩ - I nx
  dsimp only
  have hlt : ¬ (i : Int) < 0 := by omega
  refine bgo ?_
  refine wk_rfl ?_
  refine bgo ?_
  trivial
theorem markFramework_0 (n : Int) : BRet Tryz.prog 49 [] [.agg [.int n, .d (.sl 2 [])], .int 1] (.int 1) [] := by
  refine bof Tryz.func49 ?_
  refine bgo ?_
  refine b_call (markAttackS_0 1 (by decide) (by decide)) rfl rfl rfl rfl ?_
  refine bgo ?_
  trivial
theorem take0f {n : PD} {hn : n.plain = true} {e sz : Nat} {x : Bool} : TakeT (.tup [.agg [.d n, .own e sz []], .d (.bool x)]) (.tup [.agg [.d n, .d (.sl sz [])], .d (.bool x)]) :=
  .tup _ _ (.cons (.agg _ _ (.cons (.d _ hn) (.cons (.own0 _ _) .nil))) (.cons (.one _ _ (.d _ rfl)) .nil))
theorem lendF {B : Bx} {b : BN} {x : PD} {sz n : Nat} {l : List PD} (hb : B b = some (row l)) (hl : l.length = n) (hu : ∀ x ∈ l, x.cells.length = sz) : LendV B (.agg [.d x, .rsv b sz n]) (.agg [.d x, .d (.sl sz l)]) := .agg _ _ (.cons (.d _) (.cons (.rsv b sz n l [] (by rw [List.append_nil]; exact hb) hl hu) .nil))
theorem lendG {B : Bx} {x y : PD} : LendV B (.agg [.d x, .d y]) (.agg [.d x, .d y]) := .agg _ _ (.cons (.d _) (.cons (.d _) .nil))
theorem fwO_len (c : Cs) : (fwO c).length ≤ 100 := by
  unfold fwO
  split
  · rename_i hv
    have hhv : head c = true := by simp only [Bool.and_eq_true] at hv; exact hv.1
    have hrl : c.rs.length ≤ 10 := by simp only [head, Bool.and_eq_true, decide_eq_true_eq] at hhv; omega
    have h1 := fwAll_len c.rs c.rs 0
    have h2 : c.rs.length * c.rs.length ≤ 10 * 10 := Nat.mul_le_mul hrl hrl
    omega
  · simp
theorem lawFrameworkOf_b (c : Cs) : BRet Tryz.prog 8 [] [caseP c] (.bool true) [] := by
  refine bofM [13] Tryz.func8 ?_
  refine bgo ?_
  refine b_call (szCase_b c 1048576 (by decide) (by decide)) rfl rfl rfl rfl ?_
  by_cases h : szCs c 1048576 < 0
  · refine bgo ?_
    trivial
  have ho := szCs_ok c (by omega)
  obtain ⟨hm0, hm1⟩ := mkCs_less c (by omega)
  have hmz := markCase_z c 1 (by decide) hm1
  generalize mkCs c 1 = mk1 at *
  have hmn : ¬ mk1 < 0 := by omega
  have hi := FrameworkOf_b c
  have hs' := specFrameworkOf_b c
  have hlen := fwO_len c
  generalize fwO c = l at *
  generalize (fwN c : Int) = n at *
  generalize (head c && okI c) = ok at *
  refine bgo ?_
  refine b_call (toCase_b c ho) rfl rfl rfl rfl ?_
  refine bgo ?_
  refine b_call hs' rfl rfl rfl rfl ?_
  refine bgo ?_
  refine b_look (toCase_q c ho) rfl rfl (fun B => .cons lend3d .nil) take3 ?_
  refine bgo ?_
  by_cases hl : l = []
  · subst hl
    refine b_look hi rfl rfl (fun B => .cons lend3q .nil) (take0f (hn := rfl)) ?_
    refine bgo ?_
    refine b_call (eqFramework_s n []) rfl rfl rfl rfl ?_
    refine bgo ?_
    refine b_call (toCase_b c ho) rfl rfl rfl rfl ?_
    refine bgo ?_
    refine b_look (eqCase_s c) rfl rfl (fun B => .cons lend3q (.cons lend3o .nil)) takeB ?_
    refine bgo ?_
    refine wk_unq [(1, .ptr (.t 1) 0), (4, .ptr (.t 4) 0), (5, .bool ok), (6, .ptr (.t 6) 0), (7, .ptr (.t 7) 0), (8, .bool ok), (9, .int 1)] [(.t 1, caseDs c), (.t 6, caseZ c), (.t 4, [.int n, .d (.sl 2 (ats []))]), (.t 7, [.int n, .d (.sl 2 [])])] hs ?_
    refine bgo ?_
    refine b_writes hmz rfl rfl rfl rfl ?_
    refine bgo ?_
    refine b_call (eqFramework_s n []) rfl rfl rfl rfl ?_
    refine bgo ?_
    refine b_call (markFramework_0 n) rfl rfl rfl rfl ?_
    refine bgo ?_
    refine b_call (heldFramework_b n 0 1 (by decide)) rfl rfl rfl rfl ?_
    refine bgo ?_
    refine b_call (toCase_b c ho) rfl rfl rfl rfl ?_
    refine bgo ?_
    refine b_call hi rfl rfl rfl rfl ?_
    refine bgo ?_
    refine b_call (eqFramework_s n []) rfl rfl rfl rfl ?_
    refine bgo ?_
    refine b_call (heldFramework_b n 0 1 (by decide)) rfl rfl rfl rfl ?_
    refine bgo ?_
    trivial
  · have hmr := markFramework_r n l 1 (by omega)
    have hhb := heldFramework_b n l.length 1 (by omega)
    have hmk : (mkA l.length 1).length = l.length := by simp [mkA]
    generalize mkA l.length 1 = m at *
    have hmn2 : ¬ (((1 + 2 * l.length : Nat) : Int) < 0) := by omega
    have hll : (ats l).length = l.length := by simp [ats]
    refine b_boxed 99 hi (.agg1 _ rfl) rfl rfl rfl (fun B => .cons lend3q .nil) rfl (by simpa [ats] using hl) (ats_plain l) rfl ?_
    refine bgo ?_
    refine b_lookb (eqFramework_s n l) rfl rfl rfl (.cons (lendF rfl (by first | rfl | exact hll) (ats_two l)) (.cons lendG .nil)) takeB ?_
    refine bgo ?_
    refine b_call (toCase_b c ho) rfl rfl rfl rfl ?_
    refine bgo ?_
    refine b_look (eqCase_s c) rfl rfl (fun B => .cons lend3q (.cons lend3o .nil)) takeB ?_
    refine bgo ?_
    refine wk_unq [(1, .ptr (.t 1) 0), (4, .ptr (.t 4) 0), (5, .bool ok), (6, .ptr (.t 6) 0), (7, .ptr (.t 7) 0), (8, .bool ok), (9, .int 1)] [(.t 1, caseDs c), (.t 6, caseZ c), (.t 4, [.int n, .d (.sl 2 (ats l))]), (.t 7, [.int n, .rsv (.t 99) 2 l.length]), (.t 99, row (ats l))] ⟨hsT, ⟨_, rfl, HasC.same rfl⟩, ⟨_, rfl, HasC.same rfl⟩, ⟨_, rfl, ⟨⟨CLe.rfl, rfl⟩, ⟨CLe.own, rfl⟩, trivial⟩⟩, ⟨_, rfl, ⟨⟨CLe.rfl, rfl⟩, ⟨CLe.eq (by first | rfl | exact congrArg (PV.rsv (.t 99) 2) hll), rfl⟩, trivial⟩⟩, ⟨_, rfl, HasC.of (unq_row _) (row_ok _ _)⟩, trivial⟩ ?_
    refine bgo ?_
    refine b_writes hmz rfl rfl rfl rfl ?_
    refine bgo ?_
    refine b_lookb (eqFramework_s n l) rfl rfl rfl (.cons (lendF rfl (by first | rfl | exact hll) (ats_two l)) (.cons lendG .nil)) takeB ?_
    refine bgo ?_
    refine b_callra hmr rfl rfl (row_pass _) (row_gives _ trivial) rfl rfl rfl rfl rfl ?_
    refine bgo ?_
    refine b_lookb hhb rfl rfl rfl (.cons (lendF rfl (by simp [ats, hmk]) (ats_two m)) (.cons lendD .nil)) takeI ?_
    refine bgo ?_
    refine b_call (toCase_b c ho) rfl rfl rfl rfl ?_
    refine bgo ?_
    refine b_call hi rfl rfl rfl rfl ?_
    refine bgo ?_
    refine b_call (eqFramework_s n l) rfl rfl rfl rfl ?_
    refine bgo ?_
    refine b_lookb hhb rfl rfl rfl (.cons (lendF rfl (by simp [ats, hmk]) (ats_two m)) (.cons lendD .nil)) takeI ?_
    refine bgo ?_
    trivial
end Go.Bee.Fl

/-
What reads as data is data of the logic; a call that gives true out of it is what a row asks. No condition.
-/
namespace Go.Bee
open Go.ChangeShapes Go.WideShapes Go.ChangeAt Go.RowKit
set_option linter.unusedVariables false

def Old (w : World) : Nat → Nat → Prop := fun g _ => g < w.heap.size
def Cells (w : World) (ps : List PD) (cs : List Value) : Prop := ps.length = cs.length ∧ (∀ x ∈ ps, x.scalar = true) ∧ ∀ (i : Nat) x v, ps[i]? = some x → cs[i]? = some v → RepD (Old w) w x v
theorem Cells.append {w : World} {ps ps' : List PD} {cs cs' : List Value} (h : Cells w ps cs) (k : Cells w ps' cs') : Cells w (ps ++ ps') (cs ++ cs') := by
  obtain ⟨h1, h2, h3⟩ := h
  obtain ⟨k1, k2, k3⟩ := k
  refine ⟨by simp [h1, k1], fun x hx => (List.mem_append.1 hx).elim (h2 x) (k2 x), fun i x v hx hv => ?_⟩
  by_cases hi : i < ps.length
  · rw [List.getElem?_append_left hi] at hx
    rw [List.getElem?_append_left (by omega)] at hv
    exact h3 i x v hx hv
  · rw [List.getElem?_append_right (by omega)] at hx hv
    rw [h1] at hx
    exact k3 _ x v hx hv
/-- All that reads as data of type t is e of something, of which B is true. -/
def OpnN {α : Type} (P : Program) (t : TypeId) (e : α → PD) (B : α → Prop) (fuel : Nat) : Prop :=
  ∀ (H : Type) (enc : TypeId × Value → H) (w : World) (spare : Nat → Bool) (held : Bool) (cs : List Value) (x : DataW H × List MemPlace),
    DataW.trod enc P w 0 spare held fuel t cs = some x → (∀ n ∈ x.1.weights P t, n ≤ reachBytes) → ∃ a, B a ∧ Cells w (e a).cells cs
def Opn {α : Type} (P : Program) (t : TypeId) (e : α → PD) (B : α → Prop) : Prop := ∀ fuel, OpnN P t e B fuel
theorem cells_one {w : World} {x : PD} {v : Value} (hs : x.scalar = true) (h : RepD (Old w) w x v) : Cells w x.cells [v] := by
  have hc : x.cells = [x] := by cases x <;> first | rfl | simp [PD.scalar] at hs
  rw [hc]
  refine ⟨rfl, by simpa using hs, fun i y u hy hu => ?_⟩
  cases i with
  | zero => simp at hy hu; subst hy; subst hu; exact h
  | succ i => simp at hy
theorem opn_int {P : Program} {t : TypeId} {k : IntKind} (ht : P.underlying t = some (.int k)) : Opn P t (fun n : Int => .int k n) (fun n => (Lit.int k n).wf = true) := by
  intro fuel H enc w spare held cs x h _
  obtain ⟨n, rfl, _, hw⟩ := DataW.trod_int ht h
  exact ⟨n, hw, cells_one rfl (.int k n)⟩
theorem opn_bool {P : Program} {t : TypeId} (ht : P.underlying t = some .bool) : Opn P t PD.bool (fun _ => True) := by
  intro fuel H enc w spare held cs x h _
  obtain ⟨n, rfl, _⟩ := DataW.trod_bool ht h
  exact ⟨n, trivial, cells_one rfl (.bool n)⟩
theorem opn_str {P : Program} {t : TypeId} (ht : P.underlying t = some .string) : Opn P t PD.str (fun _ => True) := by
  intro fuel H enc w spare held cs x h hb
  obtain ⟨s, rfl, rfl, _⟩ := DataW.trod_string ht h
  have := hb s.data.toList.length (by simp [DataW.weights])
  refine ⟨s.data.toList, trivial, cells_one rfl ?_⟩
  have hr := RepD.str (S := Old w) (w := w) s.data.toList (by unfold reachBytes at this; omega)
  simpa using hr
theorem choose_list {α : Type} (n : Nat) (R : Nat → α → Prop) (h : ∀ i, i < n → ∃ y, R i y) : ∃ ys : List α, ys.length = n ∧ ∀ i y, ys[i]? = some y → R i y := by
  induction n with
  | zero => exact ⟨[], rfl, fun i y hy => by simp at hy⟩
  | succ n ih =>
    obtain ⟨ys, hl, hr⟩ := ih (fun i hi => h i (by omega))
    obtain ⟨y, hy⟩ := h n (by omega)
    refine ⟨ys ++ [y], by simp [hl], fun i z hz => ?_⟩
    by_cases hi : i < ys.length
    · rw [List.getElem?_append_left hi] at hz
      exact hr i z hz
    · rw [List.getElem?_append_right (by omega)] at hz
      have : i = ys.length := by
        have := (List.getElem?_eq_some_iff.1 hz).1
        simp at this
        omega
      subst this
      simp at hz
      subst hz
      rw [hl]
      exact hy
theorem mem_weightsAll {H : Type} (P : Program) (e : TypeId) {n : Nat} : ∀ (l : List (DataW H)) (d : DataW H), d ∈ l → n ∈ d.weights P e → n ∈ DataW.weightsAll P e l
  | [], d, hd, _ => by simp at hd
  | a :: l, d, hd, hn => by
    rw [DataW.weightsAll, List.mem_append]
    rcases List.mem_cons.1 hd with rfl | hd
    · exact .inl hn
    · exact .inr (mem_weightsAll P e l d hd hn)
theorem cell_lt {w : World} {a : Addr} {v : Value} (h : w.cell? a = some v) : a.block < w.heap.size ∧ a.spot = none := by
  unfold World.cell? at h
  split at h
  · rename_i c _ _ hc
    split at h
    · cases h
    · rename_i hs
      exact ⟨(Array.getElem?_eq_some_iff.1 hc).1, by simpa using hs⟩
  · cases h
theorem run_of_each {w : World} {sz g : Nat} {α : Type} {e : α → PD} : ∀ (ys : List α) (o : Nat), (∀ (i : Nat) y, ys[i]? = some y → ∃ cs : List Value, cs.length = sz ∧ (∀ (j : Nat) u, cs[j]? = some u → w.cell? ⟨g, o + i * sz + j, none⟩ = some u) ∧ Cells w (e y).cells cs) →
    ∃ vs : List Value, vs.length = ys.length * sz ∧ Cells w (flat (ys.map e)) vs ∧ ∀ (i : Nat) v, vs[i]? = some v → w.cell? ⟨g, o + i, none⟩ = some v
  | [], o, _ => ⟨[], by simp, ⟨by simp [flat], by simp [flat], by simp [flat]⟩, by simp⟩
  | y :: ys, o, h => by
    obtain ⟨cs, h1, h2, h3⟩ := h 0 y rfl
    obtain ⟨vs, k1, k2, k3⟩ := run_of_each (w := w) (sz := sz) (g := g) (e := e) ys (o + sz) (fun i z hz => by
      obtain ⟨cs', q1, q2, q3⟩ := h (i + 1) z (by simpa using hz)
      refine ⟨cs', q1, fun j u hu => ?_, q3⟩
      rw [← q2 j u hu]
      congr 2
      rw [Nat.add_mul]; omega)
    refine ⟨cs ++ vs, by simp [h1, k1, Nat.add_mul]; omega, ?_, fun i v hv => ?_⟩
    · rw [List.map_cons, flat_cons]; exact h3.append k2
    · by_cases hi : i < cs.length
      · rw [List.getElem?_append_left hi] at hv
        have := h2 i v hv
        simpa using this
      · rw [List.getElem?_append_right (by omega)] at hv
        rw [← k3 _ v hv]
        congr 2
        omega
theorem opn_slice {P : Program} {t e : TypeId} {α : Type} {d : α → PD} {B : α → Prop} {sz fuel : Nat} (ht : P.underlying t = some (.slice e)) (hC : P.cellsOf e = sz) (hz : 0 < sz) (hby : 0 < P.bytesOf e)
    (h : ∀ n, n < fuel → OpnN P e d B n) : OpnN P t (fun l : List α => .sl sz (l.map d)) (fun l => ∀ a ∈ l, B a) fuel := by
  intro H enc w spare held cs x hx hw
  rcases DataW.trod_slice ht hx with ⟨rfl, _⟩ | ⟨a, len, cap, elems, rest, n, rfl, rfl, rfl, _, hl, hm, hlen, hel, _, _⟩
  · exact ⟨[], by simp, cells_one rfl (.nil sz)⟩
  · have hw2 : ∀ y ∈ elems, ∀ k ∈ y.1.weights P e, k ≤ reachBytes := fun y hy k hk => hw k (by
      rw [DataW.weights, ht]
      refine List.mem_cons_of_mem _ (List.mem_append_left _ (mem_weightsAll P e _ y.1 (List.mem_map_of_mem hy) hk)))
    obtain ⟨ys, hyl, hy⟩ := choose_list (α := α) len (fun i y => ∃ cs', w.cells? 0 (a.add (i * sz)) sz = some cs' ∧ B y ∧ Cells w (d y).cells cs') (fun i hi => by
      have h1 := hel i hi
      rw [List.getElem?_eq_getElem (by omega), Option.bind_eq_some_iff] at h1
      obtain ⟨cs', hc, hd⟩ := h1
      obtain ⟨y, hB, hk⟩ := h n (by omega) H enc w spare held cs' _ hd (hw2 _ (List.getElem_mem _))
      rw [hC] at hc
      exact ⟨y, cs', hc, hB, hk⟩)
    refine ⟨ys, fun y hm => ?_, cells_one rfl ?_⟩
    · obtain ⟨i, hi⟩ := List.getElem?_of_mem hm
      exact (hy i y hi).choose_spec.2.1
    · by_cases h0 : ys = []
      · subst h0
        simp only [List.length_nil] at hyl
        subst hyl
        exact .emp sz a cap
      · have hpos : 0 < ys.length := List.length_pos_iff.2 h0
        obtain ⟨cs0, hc0, -, hk0⟩ := hy 0 ys[0] (List.getElem?_eq_getElem hpos)
        obtain ⟨_, hcl0, hat0⟩ := World.cells?_some hc0
        have hcell := hat0 0 hz
        rw [List.getElem?_eq_getElem (by omega)] at hcell
        have hsp := (cell_lt hcell).2
        have hbl := (cell_lt hcell).1
        obtain ⟨g, o, sp⟩ := a
        have hsp' : sp = none := by simpa [Addr.add] using hsp
        subst hsp'
        obtain ⟨vs, k1, k2, k3⟩ := run_of_each (w := w) (sz := sz) (g := g) (e := d) ys o (fun i y hyi => by
          obtain ⟨cs', hc, hB, hk⟩ := hy i y hyi
          obtain ⟨_, hcl, hat⟩ := World.cells?_some hc
          refine ⟨cs', hcl, fun j u hu => ?_, hk⟩
          have hj : j < sz := by rw [← hcl]; exact (List.getElem?_eq_some_iff.1 hu).1
          have := hat j hj
          rw [hu, Addr.add_lit, Addr.add_lit] at this
          exact this)
        have hll : ys.length = (ys.map d).length := by simp
        have hmax : ys.length ≤ 140737488355328 := by
          have h1 : (elems.length + rest.length) * P.bytesOf e ≤ reachBytes := hw _ (by simp [DataW.weights, ht])
          have h2 : ys.length ≤ (elems.length + rest.length) * P.bytesOf e := Nat.le_trans (by omega) (Nat.le_mul_of_pos_right _ hby)
          unfold reachBytes at h1; omega
        rw [← hyl, hll]
        refine .sl sz (ys.map d) g o cap vs (by rw [← hll]; exact hmax) (by rw [← hll]; omega) (fun x hx => ?_) k2.2.1 k2.1.symm (fun i v hv => ⟨(cell_lt (k3 i v hv)).1, k3 i v hv⟩) k2.2.2
        obtain ⟨y, hym, rfl⟩ := List.mem_map.1 hx
        obtain ⟨i, hi⟩ := List.getElem?_of_mem hym
        obtain ⟨cs', hc, _, hk⟩ := hy i y hi
        obtain ⟨_, hcl, _⟩ := World.cells?_some hc
        rw [hk.1, hcl]
/-! Structs: field by field. -/
def OpnF {α : Type} (P : Program) (fs : List Field) (off : Nat) (e : α → List PD) (B : α → Prop) (n : Nat) : Prop :=
  ∀ (H : Type) (enc : TypeId × Value → H) (w : World) (spare : Nat → Bool) (held : Bool) (cs : List Value) (xs : List (DataW H × List MemPlace)), xs.length = fs.length →
    (∀ (i : Nat) (f : Field), fs[i]? = some f → DataW.trod enc P w 0 spare held n f.type ((cs.drop f.offset).take (P.cellsOf f.type)) = xs[i]?) →
    (∀ k ∈ DataW.weightsEach P (fs.map (·.type)) (xs.map (·.1)), k ≤ reachBytes) → ∃ y, B y ∧ Cells w (e y) (cs.drop off)
theorem opnF_nil {P : Program} {n off : Nat} : OpnF P [] off (fun _ : Unit => []) (fun _ => True) n → True := fun _ => trivial
theorem opnF_one {P : Program} {α : Type} {e : α → PD} {B : α → Prop} {n sz : Nat} {f : Field} {off : Nat} (ho : f.offset = off) (hC : P.cellsOf f.type = sz) (h : OpnN P f.type e B n) :
    ∀ (H : Type) (enc : TypeId × Value → H) (w : World) (spare : Nat → Bool) (held : Bool) (cs : List Value) (xs : List (DataW H × List MemPlace)), xs.length = [f].length → cs.length = off + sz →
    (∀ (i : Nat) (g : Field), [f][i]? = some g → DataW.trod enc P w 0 spare held n g.type ((cs.drop g.offset).take (P.cellsOf g.type)) = xs[i]?) →
    (∀ k ∈ DataW.weightsEach P ([f].map (·.type)) (xs.map (·.1)), k ≤ reachBytes) → ∃ y, B y ∧ Cells w (e y).cells (cs.drop off) := by
  intro H enc w spare held cs xs hl hcl hx hw
  match xs, hl with
  | [x], _ =>
    have h1 := hx 0 f rfl
    obtain ⟨y, hB, hk⟩ := h H enc w spare held _ x h1 (fun k hk => hw k (by simp [DataW.weightsEach, hk]))
    rw [ho, hC, List.take_of_length_le (by simp; omega)] at hk
    exact ⟨y, hB, hk⟩
/-- A struct's fields from off on read as e of something. -/
def OpnS {α : Type} (P : Program) (fs : List Field) (off len : Nat) (e : α → List PD) (B : α → Prop) (n : Nat) : Prop :=
  ∀ (H : Type) (enc : TypeId × Value → H) (w : World) (spare : Nat → Bool) (held : Bool) (cs : List Value) (xs : List (DataW H × List MemPlace)), xs.length = fs.length → cs.length = len →
    (∀ (i : Nat) (f : Field), fs[i]? = some f → DataW.trod enc P w 0 spare held n f.type ((cs.drop f.offset).take (P.cellsOf f.type)) = xs[i]?) →
    (∀ k ∈ DataW.weightsEach P (fs.map (·.type)) (xs.map (·.1)), k ≤ reachBytes) → ∃ y, B y ∧ Cells w (e y) (cs.drop off)
theorem opnS_one {P : Program} {α : Type} {e : α → PD} {B : α → Prop} {n off len : Nat} {f : Field} (ho : f.offset = off) (hC : off + P.cellsOf f.type = len) (h : OpnN P f.type e B n) : OpnS P [f] off len (fun y => (e y).cells) B n := by
  intro H enc w spare held cs xs hl hcl hx hw
  match xs, hl with
  | [x], _ =>
    have h1 := hx 0 f rfl
    obtain ⟨y, hB, hk⟩ := h H enc w spare held _ x h1 (fun k hk => hw k (by simp [DataW.weightsEach, hk]))
    rw [ho, List.take_of_length_le (by simp; omega)] at hk
    exact ⟨y, hB, hk⟩
theorem opnS_cons {P : Program} {α β : Type} {e : α → PD} {e2 : β → List PD} {B : α → Prop} {B2 : β → Prop} {n off off2 len : Nat} {f : Field} {fs : List Field} (ho : f.offset = off) (ho2 : off + P.cellsOf f.type = off2) (h : OpnN P f.type e B n) (h2 : OpnS P fs off2 len e2 B2 n) :
    OpnS P (f :: fs) off len (fun y : α × β => (e y.1).cells ++ e2 y.2) (fun y => B y.1 ∧ B2 y.2) n := by
  intro H enc w spare held cs xs hl hcl hx hw
  match xs, hl with
  | x :: xs, hl =>
    have h1 := hx 0 f rfl
    obtain ⟨y, hB, hk⟩ := h H enc w spare held _ x h1 (fun k hk => hw k (by simp [DataW.weightsEach, hk]))
    obtain ⟨y2, hB2, hk2⟩ := h2 H enc w spare held cs xs (by simpa using hl) hcl (fun i g hg => hx (i + 1) g (by simpa using hg)) (fun k hk => hw k (by simp [DataW.weightsEach, hk]))
    refine ⟨(y, y2), ⟨hB, hB2⟩, ?_⟩
    have e1 : cs.drop off = (cs.drop off).take (P.cellsOf f.type) ++ cs.drop off2 := by
      rw [← ho2, ← List.drop_drop, List.take_append_drop]
    rw [e1]
    rw [ho] at hk
    exact hk.append hk2
theorem opn_struct {P : Program} {t : TypeId} {α β : Type} {fs : Array Field} {d : α → List PD} {e : β → PD} {B : α → Prop} {n len : Nat} (f : α → β) (ht : P.underlying t = some (.struct fs)) (hC : P.cellsOf t = len) (he : ∀ y, (e (f y)).cells = d y)
    (h : ∀ m, m < n → OpnS P fs.toList 0 len d B m) : OpnN P t e (fun b => ∃ a, f a = b ∧ B a) n := by
  intro H enc w spare held cs x hx hw
  obtain ⟨xs, m, rfl, rfl, hl, hxl, hf⟩ := DataW.trod_struct ht hx
  obtain ⟨y, hB, hk⟩ := h m (by omega) H enc w spare held cs xs (by simpa using hxl) (by rw [hl, hC]) (fun i f hi => hf i f (by simpa using hi)) (fun k hk => hw k (by rw [DataW.weights, ht]; exact hk))
  refine ⟨f y, ⟨y, rfl, hB⟩, ?_⟩
  rw [he]
  simpa using hk
theorem OpnN.imp {α : Type} {P : Program} {t : TypeId} {e : α → PD} {B B' : α → Prop} {n : Nat} (h : OpnN P t e B n) (hb : ∀ a, B a → B' a) : OpnN P t e B' n := by
  intro H enc w spare held cs x hx hw
  obtain ⟨a, hB, hk⟩ := h H enc w spare held cs x hx hw
  exact ⟨a, hb a hB, hk⟩

theorem weights_of_each {H : Type} {P : Program} {ts : List TypeId} {ds : List (DataW H)} {j : Nat} {t : TypeId} {d : DataW H} (h : (DataW.weightsEach P ts ds).all (· ≤ reachBytes) = true) (ht : ts[j]? = some t) (hd : ds[j]? = some d) : ∀ n ∈ d.weights P t, n ≤ reachBytes := by
  intro n hn
  have := List.all_eq_true.1 h _ (DataW.weights_mem_each ht hd n hn)
  simpa using this
/-- A law's argument, by its reading. -/
theorem arg_opn {H : Type} {enc : TypeId × Value → H} {P : Program} {t : TypeId} {α : Type} {e : α → PD} {B : α → Prop} {W : World} {spare : Nat → Bool} {held : Bool} {v : Value} {x : DataW H} {p : List MemPlace} {ts : List TypeId} {ds : List (DataW H)} {j : Nat} (h : Opn P t e B)
    (hsz : (DataW.weightsEach P ts ds).all (· ≤ reachBytes) = true) (ht : ts[j]? = some t) (hd : ds[j]? = some x) (hv : DataW.Trod enc P W 0 spare held t v x p) : ∃ y, B y ∧ Cells W (e y).cells v.cells.toList := by
  obtain ⟨fuel, hf⟩ := hv
  exact h fuel H enc W spare held _ _ hf (weights_of_each hsz ht hd)
/-- The ghost at a call's start: all that lies there stays as it is. -/
def G0 (W : World) : Gh := { im := Old W, β := fun _ => 0, live := fun _ => False, own := fun _ => none, fz := fun g => g < W.heap.size }
theorem G0_hp (P : Program) (W : World) : Hp P (G0 W) W (bxOf []) :=
  ⟨fun b cells hc => (by cases b <;> simp [bxOf] at hc), fun b => (by cases b <;> simp [bxOf, G0]), fun b b' hl => False.elim hl, fun g o h => h, fun g p hg => (by cases hg), fun b hl => False.elim hl, fun b hl => False.elim hl⟩
theorem rep_agg {P : Program} {W : World} {i : Nat} {ps : List PD} {cs : Array Value} (h : Cells W ps cs.toList) : RepT P (G0 W) W (.t i) (.agg (ps.map .d)) (.agg cs) := by
  obtain ⟨h1, h2, h3⟩ := h
  refine ⟨cs, rfl, by simp [h1], fun u hu => ?_, fun j x u hx hu => ?_⟩
  · obtain ⟨j, hj, rfl⟩ := Array.mem_iff_getElem.1 hu
    have hj2 : j < ps.length := by rw [h1]; simpa using hj
    exact (h3 j ps[j] cs[j] (List.getElem?_eq_getElem hj2) (by simp [hj])).oneCell (h2 _ (List.getElem_mem hj2))
  · rw [List.getElem?_map] at hx
    obtain ⟨y, hy, rfl⟩ := Option.map_eq_some_iff.1 hx
    exact ⟨h3 j y u hy (by simpa using hu), h2 y (List.mem_of_getElem? hy)⟩
theorem rep_one {P : Program} {W : World} {i : Nat} {x : PD} {v : Value} (hs : x.scalar = true) (hv : v.cells = #[v]) (h : Cells W x.cells v.cells.toList) : RepT P (G0 W) W (.t i) (.d x) v := by
  have hc : x.cells = [x] := by cases x <;> first | rfl | simp [PD.scalar] at hs
  rw [hc, hv] at h
  exact ⟨h.2.2 0 x v rfl rfl, hs⟩
/-- A call that is told to give true, made from outside. -/
theorem call_true {P : Program} {f : Nat} {args : List PV} {vs : Array Value} {W : World} (h : BRet P f [] args (.bool true) []) (hl : vs.size = args.length) (ha : ∀ (i : Nat) x u, args[i]? = some x → vs[i]? = some u → RepT P (G0 W) W (.t i) x u) :
    Calls P f vs W fun e W' => e = .returned (.bool true) ∧ Below W.heap.size W W' := by
  refine Calls.mono (h.2.2 (G0 W) W vs (fun _ => False) hl ha (G0_hp P W) (fun g p hg => by cases hg) (fun b hl => False.elim hl) (fun g hg => ⟨hg, id⟩) (fun g h1 _ => h1)) ?_
  rintro e W' ⟨v, G', rfl, hv, -, hx, -⟩
  obtain ⟨hv, -⟩ := hv
  cases hv
  exact ⟨rfl, hx.os, hx.tape, hx.output, hx.size, fun k hk => hx.old k hk id⟩
end Go.Bee

/- Chapter 23: what a law's arguments read as. -/
namespace Go.Bee.C23
open Go Go.Bee Go.Proofs Go.Bee.Ty
set_option linter.unusedVariables false
theorem opnTh : Opn Tryz.prog 73 Th.e (fun _ => True) := fun n => by
  refine (opn_struct (n := n) (len := 2) (fun y : List UInt8 × Bool => (⟨y.1, y.2⟩ : Th)) Tryz.underlying73 (by kernel_rfl) ?_
    (fun m _ => opnS_cons (off2 := 1) rfl ?_ (opn_str Tryz.underlying9 m) (opnS_one rfl ?_ (opn_bool Tryz.underlying4 m)))).imp fun _ _ => trivial
  · intro _; rfl
  · kernel_rfl
  · kernel_rfl
theorem opnSd : Opn Tryz.prog 134 Sd.e (fun _ => True) := fun n => by
  refine (opn_struct (n := n) (len := 2) (fun y : List UInt8 × Int => (⟨y.1, y.2⟩ : Sd)) Tryz.underlying134 (by kernel_rfl) ?_
    (fun m _ => opnS_cons (off2 := 1) rfl ?_ (opn_str Tryz.underlying9 m) (opnS_one rfl ?_ (opn_int Tryz.underlying3 m)))).imp fun _ _ => trivial
  · intro _; rfl
  · kernel_rfl
  · kernel_rfl
theorem opnThs (n : Nat) : OpnN Tryz.prog 41 (fun l : List Th => .sl 2 (l.map Th.e)) (fun _ => True) n :=
  (opn_slice (sz := 2) Tryz.underlying41 (by kernel_rfl) (by decide) (of_decide_eq_true (by kernel_rfl)) (fun m _ => opnTh m)).imp fun _ _ => trivial
theorem opnRu : Opn Tryz.prog 132 Ru.e (fun _ => True) := fun n => by
  refine (opn_struct (n := n) (len := 5) (fun y : List Th × List Th × Th × Int => (⟨y.1, y.2.1, y.2.2.1, y.2.2.2⟩ : Ru)) Tryz.underlying132 (by kernel_rfl) ?_
    (fun m _ => opnS_cons (off2 := 1) rfl ?_ (opnThs m) (opnS_cons (off2 := 2) rfl ?_ (opnThs m) (opnS_cons (off2 := 4) rfl ?_ (opnTh m) (opnS_one rfl ?_ (opn_int Tryz.underlying3 m)))))).imp fun _ _ => trivial
  · intro _; rfl
  · kernel_rfl
  · kernel_rfl
  · kernel_rfl
  · kernel_rfl
theorem opnCs : Opn Tryz.prog 45 (fun c : Cs => .agg [.sl 2 (c.fs.map Th.e), .sl 5 (c.rs.map Ru.e), .sl 2 (c.ss.map Sd.e)]) (fun _ => True) := fun n => by
  refine (opn_struct (n := n) (len := 3) (fun y : List Th × List Ru × List Sd => (⟨y.1, y.2.1, y.2.2⟩ : Cs)) Tryz.underlying45 (by kernel_rfl) ?_
    (fun m _ => opnS_cons (off2 := 1) rfl ?_ (opnThs m) (opnS_cons (off2 := 2) rfl ?_ (opn_slice (sz := 5) Tryz.underlying42 (by kernel_rfl) (by decide) (of_decide_eq_true (by kernel_rfl)) (fun k _ => opnRu k))
      (opnS_one rfl ?_ (opn_slice (sz := 2) Tryz.underlying43 (by kernel_rfl) (by decide) (of_decide_eq_true (by kernel_rfl)) (fun k _ => opnSd k)))))).imp fun _ _ => trivial
  · intro _; rfl
  · kernel_rfl
  · kernel_rfl
  · kernel_rfl
end Go.Bee.C23
