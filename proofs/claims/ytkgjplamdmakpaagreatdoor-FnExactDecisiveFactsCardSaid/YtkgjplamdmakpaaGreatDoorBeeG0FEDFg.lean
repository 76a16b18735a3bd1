/-
The logic and the walks, part 7. No condition.
-/
import Derived.Test.YtkgjplamdmakpaaGreatDoorBeeG0FEDFf
import Derived.Test.YtkgjplamdmakpaaGreatDoorBeeG0FEDFe
import Derived.Test.YtkgjplamdmakpaaGreatDoorProg
import Derived.Deep.RegionLaw
import Derived.Lib.SliceRun
import Derived.Lib.Walk
import Derived.Test.YtkgjplamdmakpaaGreatDoorBeeG0FEDFd
import Derived.ChangeArms
import Derived.SizedLaws
import Derived.Deep.Slices
import Derived.ChangeOld
import Derived.Below
import Derived.Carry
import Derived.ProofKit
/- Chapter 23: AcceptedTheses, ApplicableRules: both sides and their laws. -/
namespace Go.Bee.Ar
open Go Go.Bee Go.Proofs Go.Bee.Ty Go.Bee.C23 Go.Bee.C23s Go.Bee.C23a Go.Bee.Mt Go.Bee.Mr Go.Bee.Cq Go.Bee.Ml Go.Bee.Dr
theorem slInt : SlT Tryz.prog 58 3 1 8 := ⟨_, _, ty58, rfl, ty3, rfl, rfl, rfl, by decide⟩
theorem tys : type_of% (And.intro Go.Bee.Ml.tys slInt.facts) := And.intro Go.Bee.Ml.tys slInt.facts
end Go.Bee.Ar
namespace Go.Bee.Ar
open Go Go.Bee Go.Proofs Go.Bee.Ty Go.Bee.C23 Go.Bee.C23s Go.Bee.C23a Go.Bee.Mt Go.Bee.Mr Go.Bee.Cq Go.Bee.Ml Go.Bee.Dr
set_option linter.unusedVariables false
set_option maxRecDepth 20000
attribute [local irreducible] Go.Bee.bwp
def ths (l : List Th) : List PD := l.map Th.e
theorem ths_plain (l : List Th) : ∀ x ∈ flat (ths l), x.plain = true := th_plain l
theorem ths_one (l : List Th) : ∀ x ∈ ths l, x.cells.length = 2 := fun x hx => by obtain ⟨t, _, rfl⟩ := List.mem_map.1 hx; rfl
theorem ths_app (a b : List Th) : ths (a ++ b) = ths a ++ ths b := List.map_append
def mkTh (n : Nat) (k : Int) : List Th := (List.range n).map fun (i : Nat) => (⟨mkT (k + 2 * (i : Int)), (k + 2 * (i : Int) + 1).tmod 3 == 0⟩ : Th)
theorem row_set2 {a b : List Th} {i : Nat} {v : Th} (hv : a[i]? = some v) (hb : i < b.length) :
    ((row (ths (a.take i ++ b.drop i))).set (i * 2) (.d (.str v.n))).set (i * 2 + 1) (.d (.bool v.g)) = row (ths (a.take (i + 1) ++ b.drop (i + 1))) := by
  obtain ⟨ha, rfl⟩ := List.getElem?_eq_some_iff.1 hv
  have h1 : (row (ths (a.take i))).length = i * 2 := by rw [row_len (ths_one _)]; simp [ths]; omega
  rw [List.drop_eq_getElem_cons hb, List.take_succ_eq_append_getElem ha, show b[i] :: b.drop (i + 1) = [b[i]] ++ b.drop (i + 1) from rfl]
  simp only [ths_app, row_app]
  rw [List.set_append_right _ _ (by omega), h1, Nat.sub_self]
  show (row (ths (a.take i)) ++ (([PV.d (.str b[i].n), PV.d (.bool b[i].g)] ++ row (ths (b.drop (i + 1)))).set 0 (.d (.str a[i].n)))).set (i * 2 + 1) _ = _
  rw [List.set_append_right _ _ (by omega), h1, show i * 2 + 1 - i * 2 = 1 by omega, List.append_assoc]
  rfl
theorem markThesisS_r (l : List Th) (k : Int) (h0 : 0 ≤ k) (hk : k + 2 * l.length ≤ 1099511627776) : BRet Tryz.prog 53 [row (ths l)] [.rsv (.a 0) 2 l.length, .int k] (.int (k + 2 * l.length)) [row (ths (mkTh l.length k))] := by
  refine bofp Tryz.func53 ?_
  have hml : (mkTh l.length k).length = l.length := by simp [mkTh]
  have hmi : ∀ i, i < l.length → (mkTh l.length k)[i]? = some (⟨mkT (k + 2 * (i : Int)), (k + 2 * (i : Int) + 1).tmod 3 == 0⟩ : Th) := fun i h => by simp [mkTh, h]
  generalize mkTh l.length k = m at *
  have hm0 : row (ths (m.take 0 ++ l.drop 0)) = row (ths l) := by simp
  have hm1 : row (ths (m.take l.length ++ l.drop l.length)) = row (ths m) := by rw [List.drop_length, List.append_nil, ← hml, List.take_length]
  refine bgo ?_
  refine b_lp (ι := Nat × Int) (fun i => [(0, .rsv (.a 0) 2 l.length), (1, .int i.2), (5, .int i.1)]) (fun i => [(.a 0, row (ths (m.take i.1 ++ l.drop i.1)))]) (fun i => i.1 ≤ l.length ∧ i.2 = k + 2 * i.1) (fun i => l.length - i.1) (0, k)
    ⟨hsT, ⟨_, rfl, HasC.of hm0.symm (row_ok _ _)⟩, trivial⟩ ⟨Nat.zero_le _, by simp⟩ ?_
  rintro ⟨i, j⟩ ⟨hi, hj⟩ I nx
  dsimp only at hi hj ⊢
  by_cases hlt : i < l.length
  · have hlm : (row (ths (m.take i ++ l.drop i))).length = l.length * 2 := by rw [row_len (ths_one _)]; simp [ths]; omega
    have hst := row_set2 (a := m) (b := l) (i := i) (hmi i hlt) hlt
    rw [← hj] at hst
    have hib : (i : Int) + 1 ≤ 1099511627776 := by omega
    have hkb : j + 2 ≤ 1099511627776 := by omega
    have hj0 : 0 ≤ j := by omega
    have hj2 : k + 2 * ((i + 1 : Nat) : Int) = j + 1 + 1 := by omega
    have h3 : ¬ ((3 : Int) = 0) := by decide
    have hmt := markText_b j (by omega)
    clear hj
    generalize hX : row (ths (m.take i ++ l.drop i)) = X at *
    refine bgo ?_
    refine b_call hmt rfl rfl rfl rfl ?_
    refine bgo ?_
    refine ⟨by omega, ?_, nx.go (i + 1, j + 1 + 1) ⟨hlt, hj2.symm⟩ (by dsimp only; omega) ⟨⟨⟨PLe.rfl, rfl⟩, ⟨PLe.rfl, rfl⟩, ⟨PLe.rfl, rfl⟩, trivial⟩, ⟨_, rfl, HasC.of ?_ (row_ok _ _)⟩, trivial⟩⟩
    · simp only [Nat.add_zero]
      rw [put_set X (i * 2) _ (by omega), List.length_set]; omega
    · simp only [Nat.add_zero]
      rw [put_set X (i * 2) _ (by omega), put_set _ (i * 2 + 1) _ (by rw [List.length_set]; omega)]
      exact hst
  · have hi2 : i = l.length := by omega
    subst hi2
    subst hj
    refine bgo ?_
    refine wk_mk [(1, .int (k + 2 * l.length))] [(.a 0, row (ths m))] ⟨hsT, ⟨_, rfl, HasC.of (by first | rfl | exact hm1) (row_ok _ _)⟩, trivial⟩ ?_
    refine bgo ?_
    exact ret_1p rfl rfl rfl (fun k => rfl) (row_gives _ trivial)
theorem heldThesisS_b (n : Nat) (k : Int) (h0 : 0 ≤ k) (hk : k + 2 * n ≤ 1099511627776) : BRet Tryz.prog 54 [] [.d (.sl 2 (ths (mkTh n k))), .int k] (.int (k + 2 * n)) [] := by
  refine bof Tryz.func54 ?_
  have hml : (mkTh n k).length = n := by simp [mkTh]
  have hmi : ∀ i, i < n → (mkTh n k)[i]? = some (⟨mkT (k + 2 * (i : Int)), (k + 2 * (i : Int) + 1).tmod 3 == 0⟩ : Th) := fun i h => by simp [mkTh, h]
  generalize mkTh n k = m at *
  have hll : (ths m).length = n := by simp [ths, hml]
  have hli : ∀ i, i < n → (ths m)[i]? = some (.agg [.str (mkT (k + 2 * (i : Int))), .bool ((k + 2 * (i : Int) + 1).tmod 3 == 0)]) := fun i h => by simp [ths, hmi i h, Th.e]
  generalize ths m = q at *
  refine bgo ?_
  refine b_lp (ι := Nat × Int) (fun i => [(0, .d (.sl 2 q)), (1, .int i.2), (5, .int i.1)]) (fun _ => []) (fun i => i.1 ≤ n ∧ i.2 = k + 2 * i.1) (fun i => n - i.1) (0, k) hs ⟨Nat.zero_le _, by simp⟩ ?_
  rintro ⟨i, j⟩ ⟨hi, hj⟩ I nx
  dsimp only at hi hj ⊢
  by_cases hlt : i < n
  · have hx := hli i hlt
    rw [← hj] at hx
    have hib : (i : Int) + 1 ≤ 1099511627776 := by omega
    have hkb : j + 2 ≤ 1099511627776 := by omega
    have hj0 : 0 ≤ j := by omega
    have hj2 : k + 2 * ((i + 1 : Nat) : Int) = j + 1 + 1 := by omega
    have hlt2 : i < q.length := by omega
    have h3 : ¬ ((3 : Int) = 0) := by decide
    have hmt := markText_b j (by omega)
    clear hj hml hmi hli
    refine bgo ?_
    refine b_call hmt rfl rfl rfl rfl ?_
    refine bgo ?_
    exact nx.go (i + 1, j + 1 + 1) ⟨hlt, hj2.symm⟩ (by dsimp only; omega) hs
  · have hi2 : i = n := by omega
    subst hi2
    subst hj
    have hlt2 : ¬ i < q.length := by omega
    refine bgo ?_
    refine wk_rfl ?_
    refine bgo ?_
    trivial
theorem eqThesisS_s (l : List Th) : BRet Tryz.prog 52 [] [.d (.sl 2 (ths l)), .d (.sl 2 (ths l))] (.bool true) [] := by
  have := eqThesisS_b l l
  rwa [decide_eq_true rfl] at this
def accO (c : Cs) : List Th := if (head c && okI c) = true then accI c else []
theorem AcceptedTheses_b (c : Cs) : BRet Tryz.prog 19 [] [caseP c] (.tup [.own 30 2 (ths (accO c)), .bool (head c && okI c)]) [] := by
  have hd : accO c = if (head c && okI c) = true then accI c else [] := rfl
  cases hv : head c && okI c
  · rw [hv, if_neg (by decide)] at hd
    rw [hd]
    refine BRet.less ?_ PLe.tupNil
    refine bof Tryz.func19 ?_
    refine bgo ?_
    refine b_call (IsValidCase_b c) rfl rfl rfl rfl ?_
    rw [hv]
    refine bgo ?_
    trivial
  · have hf := head_fine hv
    rw [hv, if_pos rfl] at hd
    rw [hd]
    refine bof Tryz.func19 ?_
    refine bgo ?_
    refine b_call (IsValidCase_b c) rfl rfl rfl rfl ?_
    rw [hv]
    refine bgo ?_
    refine b_call (acceptedTheses_b c hf) rfl rfl rfl rfl ?_
    refine bgo ?_
    rfl
theorem specAcceptedTheses_b (c : Cs) : BRet Tryz.prog 20 [] [caseP c] (.tup [.own 30 2 (ths (accO c)), .bool (head c && okI c)]) [] := by
  have hd : accO c = if (head c && okI c) = true then accI c else [] := rfl
  cases hv : head c && okI c
  · rw [hv, if_neg (by decide)] at hd
    rw [hd]
    refine bof Tryz.func20 ?_
    refine bgo ?_
    refine b_call (good_b c) rfl rfl rfl rfl ?_
    rw [hv]
    refine bgo ?_
    rfl
  · have hf := head_fine hv
    rw [hv, if_pos rfl] at hd
    rw [hd]
    refine bof Tryz.func20 ?_
    refine bgo ?_
    refine b_call (good_b c) rfl rfl rfl rfl ?_
    rw [hv]
    refine bgo ?_
    refine b_call (accepted_b c hf) rfl rfl rfl rfl ?_
    refine bgo ?_
    rfl
theorem acc_len (c : Cs) (h : Fine c) : (accI c).length ≤ 1048576 := by
  obtain ⟨o, ho⟩ := Option.isSome_iff_exists.1 h.ord
  unfold accI
  rw [ho]
  have h1 := goO_len _ _ _ ho
  have h2 := srt_len (allN c)
  have h3 := h.n
  have h4 := accepted_len c o []
  simp only [List.length_nil, Nat.zero_add] at h1 h4
  show (o.foldl (stepI c) []).length ≤ _
  omega
theorem accO_len (c : Cs) (h : 0 ≤ szCs c 1048576) : (accO c).length ≤ 1048576 := by
  unfold accO
  split
  · rename_i hv; exact acc_len c (head_fine hv)
  · simp
def appI (acc : List Th) : List Ru → Nat → List Int
  | [], _ => []
  | r :: l, i => if appl acc r = true then (i : Int) :: appI acc l (i + 1) else appI acc l (i + 1)
theorem appI_len (acc : List Th) : ∀ (l : List Ru) (i : Nat), (appI acc l i).length ≤ l.length
  | [], _ => Nat.le_refl _
  | r :: l, i => by
    have := appI_len acc l (i + 1)
    unfold appI
    split <;> simp <;> omega
def appO (c : Cs) : List Int := if (head c && okI c) = true then appI (accI c) c.rs 0 else []
theorem appO_len (c : Cs) (h : 0 ≤ szCs c 1048576) : (appO c).length ≤ 1048576 := by
  have := (szCs_ok c h).2.1
  have := appI_len (accI c) c.rs 0
  unfold appO
  split
  · omega
  · simp
theorem ints_app (a b : List Int) : ints (a ++ b) = ints a ++ ints b := List.map_append
theorem ApplicableRules_b (c : Cs) : BRet Tryz.prog 37 [] [caseP c] (.tup [.own 3 1 (ints (appO c)), .bool (head c && okI c)]) [] := by
  have hd : appO c = if (head c && okI c) = true then appI (accI c) c.rs 0 else [] := rfl
  cases hv : head c && okI c
  · rw [hv, if_neg (by decide)] at hd
    rw [hd]
    refine BRet.less ?_ PLe.tupNil
    refine bof Tryz.func37 ?_
    refine bgo ?_
    refine b_call (IsValidCase_b c) rfl rfl rfl rfl ?_
    rw [hv]
    refine bgo ?_
    trivial
  · have hf := head_fine hv
    rw [hv, if_pos rfl] at hd
    have hhv : head c = true := by simp only [Bool.and_eq_true] at hv; exact hv.1
    have hrl : c.rs.length ≤ 10 := by simp only [head, Bool.and_eq_true, decide_eq_true_eq] at hhv; omega
    rw [hd]
    generalize hr : appI (accI c) c.rs 0 = res
    refine bof Tryz.func37 ?_
    refine bgo ?_
    refine b_call (IsValidCase_b c) rfl rfl rfl rfl ?_
    rw [hv]
    refine bgo ?_
    refine b_call (acceptedTheses_b c hf) rfl rfl rfl rfl ?_
    generalize accI c = acc at *
    refine bgo ?_
    refine b_lp (ι := Nat × List Int) (fun i => [(4, .d (.sl 2 (acc.map Th.e))), (5, .own 3 1 (ints i.2)), (15, .d (.sl 5 (c.rs.map Ru.e))), (16, .int c.rs.length), (17, .int i.1)]) (fun _ => []) (fun i => i.1 ≤ c.rs.length ∧ i.2 ++ appI acc (c.rs.drop i.1) i.1 = res ∧ i.2.length ≤ i.1) (fun i => c.rs.length - i.1) (0, []) hs ⟨Nat.zero_le _, hr, Nat.le_refl _⟩ ?_
    clear hr
    rintro ⟨k, out⟩ ⟨hk, hj, hl⟩ I nx
    dsimp only at hk hj hl ⊢
    by_cases hlt : k < c.rs.length
    · have hx : c.rs[k]? = some c.rs[k] := List.getElem?_eq_getElem hlt
      rw [List.drop_eq_getElem_cons hlt] at hj
      have hoa := ints_app out [(k : Int)]
      have hol : (ints out).length = out.length := by simp [ints]
      have hob : (out.length + 1) * 9 ≤ 140737488355328 := by omega
      have hap := isApplicable_b c.rs[k] acc
      cases ha : appl acc c.rs[k]
      · have hj2 : out ++ appI acc (c.rs.drop (k + 1)) (k + 1) = res := by rw [← hj, show appI acc (c.rs[k] :: c.rs.drop (k + 1)) k = appI acc (c.rs.drop (k + 1)) (k + 1) from if_neg (by simp [ha])]
        rw [ha] at hap
        clear hj hoa
        refine bgo ?_
        refine b_call hap rfl rfl rfl rfl ?_
        refine bgo ?_
        exact nx.go (k + 1, out) ⟨hlt, hj2, by dsimp only; omega⟩ (by dsimp only; omega) hs
      · have hj2 : (out ++ [(k : Int)]) ++ appI acc (c.rs.drop (k + 1)) (k + 1) = res := by rw [← hj, show appI acc (c.rs[k] :: c.rs.drop (k + 1)) k = (k : Int) :: appI acc (c.rs.drop (k + 1)) (k + 1) from if_pos ha]; simp
        rw [ha] at hap
        clear hj
        refine bgo ?_
        refine b_call hap rfl rfl rfl rfl ?_
        refine bgo ?_
        refine nx.go (k + 1, out ++ [(k : Int)]) ⟨hlt, hj2, by simp; omega⟩ (by dsimp only; omega) ?_
        exact ⟨⟨⟨PLe.rfl, rfl⟩, ⟨PLe.eq (congrArg (PV.own 3 1) hoa.symm), rfl⟩, ⟨PLe.rfl, rfl⟩, ⟨PLe.rfl, rfl⟩, ⟨PLe.rfl, rfl⟩, trivial⟩, trivial⟩
    · have hk' : k = c.rs.length := by omega
      subst hk'
      rw [List.drop_length] at hj
      replace hj : out = res := by simpa [appI] using hj
      subst hj
      refine bgo ?_
      refine wk_rfl ?_
      refine bgo ?_
      trivial
theorem specApplicableRules_b (c : Cs) : BRet Tryz.prog 38 [] [caseP c] (.tup [.own 3 1 (ints (appO c)), .bool (head c && okI c)]) [] := by
  have hd : appO c = if (head c && okI c) = true then appI (accI c) c.rs 0 else [] := rfl
  cases hv : head c && okI c
  · rw [hv, if_neg (by decide)] at hd
    rw [hd]
    refine bof Tryz.func38 ?_
    refine bgo ?_
    refine b_call (good_b c) rfl rfl rfl rfl ?_
    rw [hv]
    refine bgo ?_
    rfl
  · have hf := head_fine hv
    rw [hv, if_pos rfl] at hd
    have hhv : head c = true := by simp only [Bool.and_eq_true] at hv; exact hv.1
    have hrl : c.rs.length ≤ 10 := by simp only [head, Bool.and_eq_true, decide_eq_true_eq] at hhv; omega
    rw [hd]
    generalize hr : appI (accI c) c.rs 0 = res
    refine bof Tryz.func38 ?_
    refine bgo ?_
    refine b_call (good_b c) rfl rfl rfl rfl ?_
    rw [hv]
    refine bgo ?_
    refine b_call (accepted_b c hf) rfl rfl rfl rfl ?_
    generalize accI c = acc at *
    refine bgo ?_
    refine b_lp (ι := Nat × List Int) (fun i => [(1, .ptr (.t 1) 0), (4, .own 3 1 (ints i.2)), (5, .d (.sl 2 (acc.map Th.e))), (6, .int i.1)]) (fun _ => [(.t 1, caseDs c)]) (fun i => i.1 ≤ c.rs.length ∧ i.2 ++ appI acc (c.rs.drop i.1) i.1 = res ∧ i.2.length ≤ i.1) (fun i => c.rs.length - i.1) (0, []) hs ⟨Nat.zero_le _, hr, Nat.le_refl _⟩ ?_
    clear hr
    rintro ⟨k, out⟩ ⟨hk, hj, hl⟩ I nx
    dsimp only at hk hj hl ⊢
    by_cases hlt : k < c.rs.length
    · have hx : c.rs[k]? = some c.rs[k] := List.getElem?_eq_getElem hlt
      rw [List.drop_eq_getElem_cons hlt] at hj
      have hoa := ints_app out [(k : Int)]
      have hol : (ints out).length = out.length := by simp [ints]
      have hob : (out.length + 1) * 9 ≤ 140737488355328 := by omega
      have hap := l23Applies_b c.rs[k] acc
      cases ha : appl acc c.rs[k]
      · have hj2 : out ++ appI acc (c.rs.drop (k + 1)) (k + 1) = res := by rw [← hj, show appI acc (c.rs[k] :: c.rs.drop (k + 1)) k = appI acc (c.rs.drop (k + 1)) (k + 1) from if_neg (by simp [ha])]
        rw [ha] at hap
        clear hj hoa
        refine bgo ?_
        refine b_call hap rfl rfl rfl rfl ?_
        refine bgo ?_
        exact nx.go (k + 1, out) ⟨hlt, hj2, by dsimp only; omega⟩ (by dsimp only; omega) hs
      · have hj2 : (out ++ [(k : Int)]) ++ appI acc (c.rs.drop (k + 1)) (k + 1) = res := by rw [← hj, show appI acc (c.rs[k] :: c.rs.drop (k + 1)) k = (k : Int) :: appI acc (c.rs.drop (k + 1)) (k + 1) from if_pos ha]; simp
        rw [ha] at hap
        clear hj
        refine bgo ?_
        refine b_call hap rfl rfl rfl rfl ?_
        refine bgo ?_
        refine nx.go (k + 1, out ++ [(k : Int)]) ⟨hlt, hj2, by simp; omega⟩ (by dsimp only; omega) ?_
        exact ⟨⟨⟨PLe.rfl, rfl⟩, ⟨PLe.eq (congrArg (PV.own 3 1) hoa.symm), rfl⟩, ⟨PLe.rfl, rfl⟩, ⟨PLe.rfl, rfl⟩, trivial⟩, ⟨_, rfl, HasC.same rfl⟩, trivial⟩
    · have hk' : k = c.rs.length := by omega
      subst hk'
      rw [List.drop_length] at hj
      replace hj : out = res := by simpa [appI] using hj
      subst hj
      refine bgo ?_
      refine wk_rfl ?_
      refine bgo ?_
      trivial
theorem lawAcceptedTheses_b (c : Cs) : BRet Tryz.prog 11 [] [caseP c] (.bool true) [] := by
  refine bofM [13] Tryz.func11 ?_
  refine bgo ?_
  refine b_call (szCase_b c 1048576 (by decide) (by decide)) rfl rfl rfl rfl ?_
  by_cases h : szCs c 1048576 < 0
  · refine bgo ?_
    trivial
  have ho := szCs_ok c (by omega)
  obtain ⟨hm0, hm1⟩ := mkCs_less c (by omega)
  have hmz := markCase_z c 1 (by decide) hm1
  generalize mkCs c 1 = mk1 at *
  have hmn : ¬ mk1 < 0 := by omega
  have hi := AcceptedTheses_b c
  have hs' := specAcceptedTheses_b c
  have hlen := accO_len c (by omega)
  generalize accO c = l at *
  generalize (head c && okI c) = ok at *
  refine bgo ?_
  refine b_call (toCase_b c ho) rfl rfl rfl rfl ?_
  refine bgo ?_
  refine b_call hs' rfl rfl rfl rfl ?_
  refine bgo ?_
  refine b_look (toCase_q c ho) rfl rfl (fun B => .cons lend3d .nil) take3 ?_
  refine bgo ?_
  by_cases hl : l = []
  · subst hl
    refine b_look hi rfl rfl (fun B => .cons lend3q .nil) take0 ?_
    refine bgo ?_
    refine b_call (eqThesisS_s []) rfl rfl rfl rfl ?_
    refine bgo ?_
    refine b_call (toCase_b c ho) rfl rfl rfl rfl ?_
    refine bgo ?_
    refine b_look (eqCase_s c) rfl rfl (fun B => .cons lend3q (.cons lend3o .nil)) takeB ?_
    refine bgo ?_
    refine wk_unq [(1, .ptr (.t 1) 0), (4, .d (.sl 2 (ths []))), (5, .bool ok), (6, .ptr (.t 6) 0), (7, .d (.sl 2 [])), (8, .bool ok), (9, .int 1)] [(.t 1, caseDs c), (.t 6, caseZ c)] hs ?_
    refine bgo ?_
    refine b_writes hmz rfl rfl rfl rfl ?_
    refine bgo ?_
    refine b_call (eqThesisS_s []) rfl rfl rfl rfl ?_
    refine bgo ?_
    refine b_call (markThesisS_0 1 (by decide) (by decide)) rfl rfl rfl rfl ?_
    refine bgo ?_
    refine b_call (heldThesisS_0 1 (by decide) (by decide)) rfl rfl rfl rfl ?_
    refine bgo ?_
    refine b_call (toCase_b c ho) rfl rfl rfl rfl ?_
    refine bgo ?_
    refine b_call hi rfl rfl rfl rfl ?_
    refine bgo ?_
    refine b_call (eqThesisS_s []) rfl rfl rfl rfl ?_
    refine bgo ?_
    refine b_call (heldThesisS_0 1 (by decide) (by decide)) rfl rfl rfl rfl ?_
    refine bgo ?_
    trivial
  · have hmr := markThesisS_r l 1 (by decide) (by omega)
    have hhb := heldThesisS_b l.length 1 (by decide) (by omega)
    have hmk : (mkTh l.length 1).length = l.length := by simp [mkTh]
    generalize mkTh l.length 1 = m at *
    have hmn2 : ¬ ((1 : Int) + 2 * l.length < 0) := by omega
    have hll : (ths l).length = l.length := by simp [ths]
    refine b_boxed 99 hi .one rfl rfl rfl (fun B => .cons lend3q .nil) rfl (by simpa [ths] using hl) (ths_plain l) rfl ?_
    refine bgo ?_
    refine b_lookb (eqThesisS_s l) rfl rfl rfl (.cons (lendR rfl (by first | rfl | exact hll) (ths_one l)) (.cons lendD .nil)) takeB ?_
    refine bgo ?_
    refine b_call (toCase_b c ho) rfl rfl rfl rfl ?_
    refine bgo ?_
    refine b_look (eqCase_s c) rfl rfl (fun B => .cons lend3q (.cons lend3o .nil)) takeB ?_
    refine bgo ?_
    refine wk_unq [(1, .ptr (.t 1) 0), (4, .d (.sl 2 (ths l))), (5, .bool ok), (6, .ptr (.t 6) 0), (7, .rsv (.t 99) 2 l.length), (8, .bool ok), (9, .int 1)] [(.t 1, caseDs c), (.t 6, caseZ c), (.t 99, row (ths l))] ⟨⟨⟨PLe.rfl, rfl⟩, ⟨PLe.own, rfl⟩, ⟨PLe.rfl, rfl⟩, ⟨PLe.rfl, rfl⟩, ⟨PLe.eq (by first | rfl | exact congrArg (PV.rsv (.t 99) 2) hll), rfl⟩, ⟨PLe.rfl, rfl⟩, ⟨PLe.rfl, rfl⟩, trivial⟩, ⟨_, rfl, HasC.same rfl⟩, ⟨_, rfl, HasC.same rfl⟩, ⟨_, rfl, HasC.of (unq_row _) (row_ok _ _)⟩, trivial⟩ ?_
    refine bgo ?_
    refine b_writes hmz rfl rfl rfl rfl ?_
    refine bgo ?_
    refine b_lookb (eqThesisS_s l) rfl rfl rfl (.cons (lendR rfl (by simp [ths]) (ths_one l)) (.cons lendD .nil)) takeB ?_
    refine bgo ?_
    refine b_callr hmr rfl rfl (row_pass _) (row_gives _ trivial) rfl rfl rfl rfl rfl ?_
    refine bgo ?_
    refine b_lookb hhb rfl rfl rfl (.cons (lendR rfl (by simp [ths, hmk]) (ths_one m)) (.cons lendD .nil)) takeI ?_
    refine bgo ?_
    refine b_call (toCase_b c ho) rfl rfl rfl rfl ?_
    refine bgo ?_
    refine b_call hi rfl rfl rfl rfl ?_
    refine bgo ?_
    refine b_call (eqThesisS_s l) rfl rfl rfl rfl ?_
    refine bgo ?_
    refine b_lookb hhb rfl rfl rfl (.cons (lendR rfl (by simp [ths, hmk]) (ths_one m)) (.cons lendD .nil)) takeI ?_
    refine bgo ?_
    trivial
theorem lawApplicableRules_b (c : Cs) : BRet Tryz.prog 12 [] [caseP c] (.bool true) [] := by
  refine bofM [13] Tryz.func12 ?_
  refine bgo ?_
  refine b_call (szCase_b c 1048576 (by decide) (by decide)) rfl rfl rfl rfl ?_
  by_cases h : szCs c 1048576 < 0
  · refine bgo ?_
    trivial
  have ho := szCs_ok c (by omega)
  obtain ⟨hm0, hm1⟩ := mkCs_less c (by omega)
  have hmz := markCase_z c 1 (by decide) hm1
  generalize mkCs c 1 = mk1 at *
  have hmn : ¬ mk1 < 0 := by omega
  have hi := ApplicableRules_b c
  have hs' := specApplicableRules_b c
  have hlen := appO_len c (by omega)
  generalize appO c = l at *
  generalize (head c && okI c) = ok at *
  refine bgo ?_
  refine b_call (toCase_b c ho) rfl rfl rfl rfl ?_
  refine bgo ?_
  refine b_call hs' rfl rfl rfl rfl ?_
  refine bgo ?_
  refine b_look (toCase_q c ho) rfl rfl (fun B => .cons lend3d .nil) take3 ?_
  refine bgo ?_
  by_cases hl : l = []
  · subst hl
    refine b_look hi rfl rfl (fun B => .cons lend3q .nil) take0 ?_
    refine bgo ?_
    refine b_call (eqIntS_s []) rfl rfl rfl rfl ?_
    refine bgo ?_
    refine b_call (toCase_b c ho) rfl rfl rfl rfl ?_
    refine bgo ?_
    refine b_look (eqCase_s c) rfl rfl (fun B => .cons lend3q (.cons lend3o .nil)) takeB ?_
    refine bgo ?_
    refine wk_unq [(1, .ptr (.t 1) 0), (4, .d (.sl 1 (ints []))), (5, .bool ok), (6, .ptr (.t 6) 0), (7, .d (.sl 1 [])), (8, .bool ok), (9, .int 1)] [(.t 1, caseDs c), (.t 6, caseZ c)] hs ?_
    refine bgo ?_
    refine b_writes hmz rfl rfl rfl rfl ?_
    refine bgo ?_
    refine b_call (eqIntS_s []) rfl rfl rfl rfl ?_
    refine bgo ?_
    refine b_call (markIntS_0 1 (by decide) (by decide)) rfl rfl rfl rfl ?_
    refine bgo ?_
    refine b_call (heldIntS_0 1 (by decide) (by decide)) rfl rfl rfl rfl ?_
    refine bgo ?_
    refine b_call (toCase_b c ho) rfl rfl rfl rfl ?_
    refine bgo ?_
    refine b_call hi rfl rfl rfl rfl ?_
    refine bgo ?_
    refine b_call (eqIntS_s []) rfl rfl rfl rfl ?_
    refine bgo ?_
    refine b_call (heldIntS_0 1 (by decide) (by decide)) rfl rfl rfl rfl ?_
    refine bgo ?_
    trivial
  · have hmr := markIntS_r l 1 (by decide) (by omega)
    have hhb := heldIntS_b l.length 1 (by decide) (by omega)
    have hmk : (mkI l.length 1).length = l.length := by simp [mkI]
    generalize mkI l.length 1 = m at *
    have hmn2 : ¬ ((1 : Int) + l.length < 0) := by omega
    have hll : (ints l).length = l.length := by simp [ints]
    refine b_boxed 99 hi .one rfl rfl rfl (fun B => .cons lend3q .nil) rfl (by simpa [ints] using hl) (ints_plain l) rfl ?_
    refine bgo ?_
    refine b_lookb (eqIntS_s l) rfl rfl rfl (.cons (lendR rfl (by first | rfl | exact hll) (ints_one l)) (.cons lendD .nil)) takeB ?_
    refine bgo ?_
    refine b_call (toCase_b c ho) rfl rfl rfl rfl ?_
    refine bgo ?_
    refine b_look (eqCase_s c) rfl rfl (fun B => .cons lend3q (.cons lend3o .nil)) takeB ?_
    refine bgo ?_
    refine wk_unq [(1, .ptr (.t 1) 0), (4, .d (.sl 1 (ints l))), (5, .bool ok), (6, .ptr (.t 6) 0), (7, .rsv (.t 99) 1 l.length), (8, .bool ok), (9, .int 1)] [(.t 1, caseDs c), (.t 6, caseZ c), (.t 99, row (ints l))] ⟨⟨⟨PLe.rfl, rfl⟩, ⟨PLe.own, rfl⟩, ⟨PLe.rfl, rfl⟩, ⟨PLe.rfl, rfl⟩, ⟨PLe.eq (by first | rfl | exact congrArg (PV.rsv (.t 99) 1) hll), rfl⟩, ⟨PLe.rfl, rfl⟩, ⟨PLe.rfl, rfl⟩, trivial⟩, ⟨_, rfl, HasC.same rfl⟩, ⟨_, rfl, HasC.same rfl⟩, ⟨_, rfl, HasC.of (unq_row _) (row_ok _ _)⟩, trivial⟩ ?_
    refine bgo ?_
    refine b_writes hmz rfl rfl rfl rfl ?_
    refine bgo ?_
    refine b_lookb (eqIntS_s l) rfl rfl rfl (.cons (lendR rfl (by simp [ints]) (ints_one l)) (.cons lendD .nil)) takeB ?_
    refine bgo ?_
    refine b_callr hmr rfl rfl (row_pass _) (row_gives _ trivial) rfl rfl rfl rfl rfl ?_
    refine bgo ?_
    refine b_lookb hhb rfl rfl rfl (.cons (lendR rfl (by simp [ints, hmk]) (ints_one m)) (.cons lendD .nil)) takeI ?_
    refine bgo ?_
    refine b_call (toCase_b c ho) rfl rfl rfl rfl ?_
    refine bgo ?_
    refine b_call hi rfl rfl rfl rfl ?_
    refine bgo ?_
    refine b_call (eqIntS_s l) rfl rfl rfl rfl ?_
    refine bgo ?_
    refine b_lookb hhb rfl rfl rfl (.cons (lendR rfl (by simp [ints, hmk]) (ints_one m)) (.cons lendD .nil)) takeI ?_
    refine bgo ?_
    trivial
end Go.Bee.Ar

/- slices.Delete at []impl.Thesis, one item, in its place. No condition. -/
namespace Go.Bee.C23s
open Go Go.Bee Go.Proofs Go.Bee.Ty Go.Bee.C23 Go.RowKit Go.Lib
set_option linter.unusedVariables false
theorem info_th : (Tryz.prog.info? 30).map (fun i => (i.zero, i.size, i.bytes)) = some (some (.agg #[.string ⟨#[]⟩, .bool false]), 2, 24) := by kernel_rfl
theorem und_ths : Tryz.prog.underlying 24 = some (.slice 30) := by kernel_rfl
theorem clear_th (w : World) (ty : TypeId) (b o c : Nat) (hc : ∀ j, j < 2 → (w.cell? ⟨b, o + j, none⟩).isSome = true) (hf : ∀ j, j < 2 → w.frozen? ⟨b, o + j, none⟩ = false) :
    (Builtin.clear_ #[24] ty #[.slice (some ⟨b, o, none⟩) 1 c]).run Tryz.prog w = .ok (.tuple #[]) (w.setCells b o [.string ⟨#[]⟩, .bool false]) := by
  obtain ⟨i, hi, hz, -, -⟩ := info_parts info_th
  have hv : ∀ w, (zeroValue 30).run Tryz.prog w = .ok (.agg #[.string ⟨#[]⟩, .bool false]) w := fun w => by simp [zeroValue, typeInfo, hi, hz]
  have hst := run_storeCells_cells (P := Tryz.prog) b o [.string ⟨#[]⟩, .bool false] 0 w (by simpa using hc) (by simpa using hf) (by intro v hv'; simp at hv'; rcases hv' with rfl | rfl <;> rfl)
  simp only [Nat.add_zero] at hst
  have hzc : (Builtin.zeroCells (Value.agg #[.string ⟨#[]⟩, .bool false]).cells 1).toList = [.string ⟨#[]⟩, .bool false] := by first | kernel_rfl | (simp [Builtin.zeroCells, Value.cells]; rfl) | simp [Builtin.zeroCells, Value.cells, Array.range]
  simp [Builtin.clear_, run_underlying und_ths, hv, hzc, hst]
set_option maxHeartbeats 4000000 in
set_option maxRecDepth 1000000 in
theorem del_raw (g off c n i j : Nat) (news : List Value) (w : World) (hij : i < j) (hj : j ≤ n) (hj1 : n - (i + (n - j)) = 1) (hnc : n ≤ c)
    (hl : news.length = (n - j) * 2) (h1 : ∀ u ∈ news, u.oneCell' = true) (hsrc : ∀ t u, news[t]? = some u → w.cell? ⟨g, off + j * 2 + t, none⟩ = some u)
    (hcell : ∀ t, t < n * 2 → (w.cell? ⟨g, off + t, none⟩).isSome = true ∧ w.frozen? ⟨g, off + t, none⟩ = false) :
    Calls Tryz.prog 81 #[.slice (some ⟨g, off, none⟩) n c, .int .i64 i, .int .i64 j] w fun e w' => e = .returned (.slice (some ⟨g, off, none⟩) (i + (n - j)) c) ∧
      w' = (w.drew.setCells g (off + i * 2) news).setCells g (off + (i + (n - j)) * 2) [.string ⟨#[]⟩, .bool false] := by
  obtain ⟨i0, hi0, hz0, hz1, hz2⟩ := info_parts info_th
  obtain ⟨A, hA, hsrc'⟩ : ∃ A : Addr, (if c = j then some (⟨g, off, none⟩ : Addr) else some ⟨g, off + j * 2, none⟩) = some A ∧ Hid (∀ t u, news[t]? = some u → w.drew.cell? (A.add t) = some u) := by
    by_cases h : c = j
    · refine ⟨⟨g, off, none⟩, by simp [h], fun t u hu => ?_⟩
      have h0 : news.length = 0 := by rw [hl]; have : n - j = 0 := by omega
                                      rw [this]
      rw [List.length_eq_zero_iff.1 h0] at hu
      simp at hu
    · refine ⟨⟨g, off + j * 2, none⟩, by simp [h], fun t u hu => ?_⟩
      rw [Addr.add_lit]
      exact hsrc t u hu
  have s1 : Hid (news.length = (n - j) * 2) := hl
  have s2 : Hid (∀ u ∈ news, u.oneCell' = true) := h1
  have s3 : Hid (∀ t, t < news.length → (w.drew.cell? ⟨g, off + i * 2 + t, none⟩).isSome = true ∧ w.drew.frozen? ⟨g, off + i * 2 + t, none⟩ = false) := by
    intro t ht
    rw [hl] at ht
    rw [Nat.add_assoc]
    exact hcell (i * 2 + t) (by omega)
  obtain ⟨W1, hW1⟩ : ∃ W1, W1 = w.drew.setCells g (off + i * 2) news := ⟨_, rfl⟩
  have hcl : ∀ ty, (Builtin.clear_ #[24] ty #[.slice (some ⟨g, off + (i + (n - j)) * 2, none⟩) 1 (c - (i + (n - j)))]).run Tryz.prog W1 = .ok (.tuple #[]) (W1.setCells g (off + (i + (n - j)) * 2) [.string ⟨#[]⟩, .bool false]) := fun ty => by
    refine clear_th W1 ty g _ _ (fun t ht => ?_) (fun t ht => ?_)
    · rw [hW1, Nat.add_assoc]
      rcases Nat.lt_or_ge ((i + (n - j)) * 2 + t) (i * 2) with h2 | h2
      · omega
      · rw [World.cell?_setCells_out]
        · exact (hcell _ (by omega)).1
        · intro _ _; right; simp only [hl]; omega
    · rw [hW1, World.frozen?_setCells, Nat.add_assoc]
      exact (hcell _ (by omega)).2
  have hW : Hid (W1 = w.drew.setCells g (off + i * 2) news) := hW1
  have hic : i ≤ c := by omega
  have hjc : j ≤ c := by omega
  clear hW1 hsrc hcell h1 hl
  go_enter Tryz.func81, Tryz.ntmps81
  go_wp2_with fail
  go_region_law (refine step_append_room rfl (.tmp 22) (.tmp 25) 24 rfl 30 i0 2 und_ths hi0 hz1 g off i c (by simp [Act.eval, Act.put]) A (n - j) (c - j) news (by simp [Act.eval, Act.put]) s1.out hsrc'.out s2.out (by omega) s3.out ?_; rw [← hW.out])
  go_wp2
  go_ret
  refine ⟨rfl, ?_⟩
  rw [← hW.out]
theorem setCells_heap (g : Nat) : ∀ (vs : List Value) (o : Nat) (w : World) (cs : Array Value) (e : TypeId), w.heap[g]? = some (.cells cs e (0, 0)) →
    ∃ cs', (w.setCells g o vs).heap[g]? = some (.cells cs' e (0, 0)) ∧ cs'.size = cs.size
  | [], o, w, cs, e, h => ⟨cs, h, rfl⟩
  | v :: r, o, w, cs, e, h => by
    obtain ⟨cs', h1, h2⟩ := setCells_heap g r (o + 1) (w.setCell ⟨g, o, none⟩ v) (cs.setIfInBounds o v) e (by simp [World.setCell, Array.getElem?_modify, h])
    exact ⟨cs', h1, by simpa using h2⟩
theorem setCells_size (g : Nat) : ∀ (vs : List Value) (o : Nat) (w : World), (w.setCells g o vs).heap.size = w.heap.size
  | [], o, w => rfl
  | v :: r, o, w => by rw [World.setCells, setCells_size g r]; simp [World.setCell]
theorem setCells_other (g : Nat) : ∀ (vs : List Value) (o : Nat) (w : World) (b : Nat), b ≠ g → (w.setCells g o vs).heap[b]? = w.heap[b]?
  | [], o, w, b, h => rfl
  | v :: r, o, w, b, h => by rw [World.setCells, setCells_other g r _ _ b h]; simp [World.setCell, Array.getElem?_modify, Ne.symm h]
theorem setCells_rest (g : Nat) : ∀ (vs : List Value) (o : Nat) (w : World), (w.setCells g o vs).os = w.os ∧ (w.setCells g o vs).tape = w.tape ∧ (w.setCells g o vs).output = w.output
  | [], o, w => ⟨rfl, rfl, rfl⟩
  | v :: r, o, w => setCells_rest g r (o + 1) (w.setCell ⟨g, o, none⟩ v)
theorem th_cells (l : List Th) : (flat (l.map Th.e)).length = l.length * 2 := by rw [flat_length (sz := 2)]; simp; intro e he; obtain ⟨t, -, rfl⟩ := List.mem_map.1 he; rfl
theorem th_scalar (l : List Th) : ∀ x ∈ flat (l.map Th.e), x.scalar = true ∧ x.plain = true := by
  intro x hx
  unfold flat at hx
  obtain ⟨y, hy, hx⟩ := List.mem_flatMap.1 hx
  obtain ⟨t, -, rfl⟩ := List.mem_map.1 hy
  simp [Th.e, PD.cells] at hx
  rcases hx with rfl | rfl <;> exact ⟨rfl, rfl⟩
/-- What the cells hold behind it. -/
def delRow (l : List Th) (i : Nat) : List PD := flat ((l.eraseIdx i).map Th.e) ++ [.str [], .bool false]
theorem delRow_eq (l : List Th) (i : Nat) (hi : i < l.length) : delRow l i = (flat (l.map Th.e)).take (i * 2) ++ (flat (l.map Th.e)).drop ((i + 1) * 2) ++ [.str [], .bool false] := by
  have hu : ∀ e ∈ l.map Th.e, e.cells.length = 2 := by intro e he; obtain ⟨t, -, rfl⟩ := List.mem_map.1 he; rfl
  rw [delRow, flat_take hu, flat_drop hu, ← flat_append, ← List.map_take, ← List.map_drop, ← List.map_append, List.eraseIdx_eq_take_drop_succ]
theorem delThesis_b (l : List Th) (i : Nat) (hi : i < l.length) : BRet Tryz.prog 81 [(flat (l.map Th.e)).map .d] [.rsv (.a 0) 2 l.length, .int (i : Nat), .int ((i + 1 : Nat) : Int)] (.rsv (.a 0) 2 (l.length - 1)) [(delRow l i).map .d] := by
  refine ⟨by kernel_rfl, rfl, fun G w vs Wr hvs hargs hp hown hbox hfz hfm => ?_⟩
  have hv0 := hargs 0 _ (vs[0]'(by simp at hvs; omega)) rfl (Array.getElem?_eq_getElem _)
  have hv1 := hargs 1 _ (vs[1]'(by simp at hvs; omega)) rfl (Array.getElem?_eq_getElem _)
  have hv2 := hargs 2 _ (vs[2]'(by simp at hvs; omega)) rfl (Array.getElem?_eq_getElem _)
  obtain ⟨c, hc1, hc2, hlive, hc4⟩ := hv0
  have hvs' : vs = #[.slice (some ⟨G.β (.a 0), 0, none⟩) l.length c, .int .i64 i, .int .i64 ((i + 1 : Nat) : Int)] := by
    have e1 : vs[1]'(by simp at hvs; omega) = .int .i64 i := by obtain ⟨h, -⟩ := hv1; generalize vs[1]'(by simp at hvs; omega) = q at h; cases h; rfl
    have e2 : vs[2]'(by simp at hvs; omega) = .int .i64 ((i + 1 : Nat) : Int) := by obtain ⟨h, -⟩ := hv2; generalize vs[2]'(by simp at hvs; omega) = q at h; cases h; rfl
    apply Array.ext (by simpa using hvs)
    intro j h1 h2
    have : j < 3 := by simpa using h2
    match j, this with
    | 0, _ => exact hc2
    | 1, _ => exact e1
    | 2, _ => exact e2
  subst hvs'
  generalize hgg : G.β (.a 0) = g at *
  obtain ⟨cs, e, hg, hsz, hone, hrep⟩ := hp.bx (.a 0) ((flat (l.map Th.e)).map .d) (by simp [bxOf])
  rw [hgg] at hg
  have hn := th_cells l
  simp only [List.length_map, hn] at hsz hone
  have hcell : ∀ t, w.cell? ⟨g, 0 + t, none⟩ = cs[t]? := fun t => by rw [Nat.zero_add]; simp [World.cell?, hg]
  have hcellD : ∀ (W : World), W.heap = w.heap → ∀ t, W.cell? ⟨g, t, none⟩ = cs[t]? := fun W hW t => by simp [World.cell?, hW, hg]
  obtain ⟨news, hnews⟩ : ∃ news, news = (cs.toList.drop ((i + 1) * 2)).take ((l.length - (i + 1)) * 2) := ⟨_, rfl⟩
  have hnl : news.length = (l.length - (i + 1)) * 2 := by rw [hnews]; simp; omega
  have hnget : ∀ t, t < (l.length - (i + 1)) * 2 → news[t]? = cs[(i + 1) * 2 + t]? := fun t ht => by
    rw [hnews, List.getElem?_take_of_lt ht, List.getElem?_drop, Array.getElem?_toList]
  have hmem : ∀ u ∈ news, u.oneCell' = true := fun u hu => by
    obtain ⟨t, ht, rfl⟩ := List.mem_iff_getElem.1 hu
    have h1 := hnget t (by omega)
    rw [List.getElem?_eq_getElem ht] at h1
    exact hone ((i + 1) * 2 + t) _ (by omega) h1.symm
  refine Calls.mono (del_raw g 0 c l.length i (i + 1) news w (by omega) (by omega) (by omega) hc1 hnl hmem (fun t u hu => ?_) (fun t ht => ⟨?_, ?_⟩)) ?_
  · rw [Nat.add_assoc, hcell, ← hnget t (by have := (List.getElem?_eq_some_iff.1 hu).1; omega)]; exact hu
  · rw [hcell, Array.getElem?_eq_getElem (by omega)]; rfl
  · simp [World.frozen?, hg]
  rintro e' w' ⟨rfl, hw'⟩
  have hlen' : i + (l.length - (i + 1)) = l.length - 1 := by omega
  rw [hlen'] at hw' ⊢
  simp only [Nat.zero_add] at hw'
  obtain ⟨cs1, k1, k2⟩ := setCells_heap g news (i * 2) w.drew cs e hg
  obtain ⟨cs2, k3, k4⟩ := setCells_heap g [.string ⟨#[]⟩, .bool false] ((l.length - 1) * 2) _ cs1 e k1
  rw [← hw'] at k3
  have hother : ∀ b, b ≠ g → w'.heap[b]? = w.heap[b]? := fun b hb => by rw [hw', setCells_other g _ _ _ b hb, setCells_other g _ _ _ b hb]; rfl
  have hsize : w'.heap.size = w.heap.size := by rw [hw', setCells_size, setCells_size]; rfl
  have hrest : w'.os = w.os ∧ w'.tape = w.tape ∧ w'.output = w.output := by
    rw [hw']
    obtain ⟨a1, a2, a3⟩ := setCells_rest g [.string ⟨#[]⟩, .bool false] ((l.length - 1) * 2) (w.drew.setCells g (i * 2) news)
    obtain ⟨b1, b2, b3⟩ := setCells_rest g news (i * 2) w.drew
    exact ⟨a1.trans b1, a2.trans b2, a3.trans b3⟩
  have hsome1 : ∀ t, t < l.length * 2 → ((w.drew.setCells g (i * 2) news).cell? ⟨g, t, none⟩).isSome = true := fun t ht => by
    simp only [World.cell?, k1]
    rw [Array.getElem?_eq_getElem (by omega)]; rfl
  have hc2' : ∀ t, w'.cell? ⟨g, t, none⟩ = cs2[t]? := fun t => by simp [World.cell?, k3]
  -- the cells behind it
  have hA : ∀ t, t < i * 2 → cs2[t]? = cs[t]? := fun t ht => by
    rw [← hc2', hw', World.cell?_setCells_out g _ _ _ _ (fun _ _ => .inl (by simp; omega)), World.cell?_setCells_out g _ _ _ _ (fun _ _ => .inl (by simp; omega))]
    exact hcellD _ rfl t
  have hB : ∀ t, t < (l.length - (i + 1)) * 2 → cs2[i * 2 + t]? = cs[(i + 1) * 2 + t]? := fun t ht => by
    rw [← hc2', hw', World.cell?_setCells_out g _ _ _ _ (fun _ _ => .inl (by simp; omega)), World.cell?_setCells_in g _ _ _ (fun j hj => by rw [hcellD w.drew rfl, Array.getElem?_eq_getElem (by omega)]; rfl) t (by omega), ← hnget t ht]
    exact (List.getElem?_eq_getElem _).symm
  have hC : ∀ t (ht : t < 2), cs2[(l.length - 1) * 2 + t]? = some ([Value.string ⟨#[]⟩, .bool false][t]'(by simpa using ht)) := fun t ht => by
    rw [← hc2', hw']
    exact World.cell?_setCells_in g _ _ _ (fun j hj => hsome1 _ (by simp at hj; omega)) t (by simpa using ht)
  have hrepS : ∀ t x u, (flat (l.map Th.e))[t]? = some x → cs[t]? = some u → RepC Tryz.prog G w' (.b (.a 0), 0, 0) (.d x) u := fun t x u hx hu => by
    have h1 := hrep t (.d x) u (by rw [List.getElem?_map, hx]; rfl) hu
    obtain ⟨h3, h4⟩ := th_scalar l x (List.mem_of_getElem? hx)
    exact ⟨plain_sc h4 h3 h1.1, h3⟩
  have hdl : (delRow l i).length = l.length * 2 := by
    rw [delRow, List.length_append, th_cells, List.length_eraseIdx_of_lt hi]; simp; omega
  have hkind : ∀ b, b ≠ g → KindSame w w' b := fun b hb => .of_heap (hother b hb)
  refine ⟨_, G, rfl, ⟨c, by omega, by rw [hgg], hlive, by omega⟩, ⟨fun b cells hb => ?_, fun b => ?_, hp.inj, fun k o hk => by rw [hsize]; exact hp.imlt k o hk, fun k p hk => by rw [hsize]; exact hp.ownlt k p hk, hp.boxim, hp.boxown⟩, ⟨hrest.1, hrest.2.1, hrest.2.2, by rw [hsize]; exact Nat.le_refl _, fun b hb hw => hother b (fun h => hw (by rw [h, ← hgg]; exact hbox _ hlive)), fun b o hb => ⟨hb, ?_⟩, fun b o hb => .inl hb⟩, fun k => rfl, fun k p hk => .inr (hown k p hk), fun k hk => ?_⟩
  · have hb0 : b = .a 0 ∧ cells = (delRow l i).map .d := by
      cases b with
      | t n => simp [bxOf] at hb
      | a k => cases k with
        | zero => simp [bxOf] at hb; exact ⟨rfl, hb.symm⟩
        | succ k => simp [bxOf] at hb
    obtain ⟨rfl, rfl⟩ := hb0
    have hpt : ∀ (j : Nat) x u, (delRow l i)[j]? = some x → cs2[j]? = some u → RepC Tryz.prog G w' (.b (.a 0), 0, 0) (.d x) u := fun j x u hx hu => by
      have hj : j < l.length * 2 := by rw [← hdl]; exact (List.getElem?_eq_some_iff.1 hx).1
      rw [delRow_eq l i hi] at hx
      have hi2 : i * 2 ≤ l.length * 2 := by omega
      rcases Nat.lt_or_ge j (i * 2) with h1 | h1
      · rw [List.append_assoc, List.getElem?_append_left (by simp [hn]; omega), List.getElem?_take_of_lt h1] at hx
        rw [hA j h1] at hu
        exact hrepS j x u hx hu
      · rcases Nat.lt_or_ge j ((l.length - 1) * 2) with h2 | h2
        · obtain ⟨t, rfl⟩ : ∃ t, j = i * 2 + t := ⟨j - i * 2, by omega⟩
          rw [List.append_assoc, List.getElem?_append_right (by simp [hn]; omega), List.getElem?_append_left (by simp [hn]; omega), List.getElem?_drop] at hx
          rw [hB t (by omega)] at hu
          have e1 : (i * 2 + t) - ((flat (l.map Th.e)).take (i * 2)).length = t := by simp [hn]; omega
          rw [e1] at hx
          exact hrepS _ x u hx hu
        · obtain ⟨t, rfl⟩ : ∃ t, j = (l.length - 1) * 2 + t := ⟨j - (l.length - 1) * 2, by omega⟩
          have ht : t < 2 := by omega
          rw [hC t ht] at hu
          rw [List.getElem?_append_right (by simp [hn]; omega)] at hx
          have e1 : (l.length - 1) * 2 + t - ((flat (l.map Th.e)).take (i * 2) ++ (flat (l.map Th.e)).drop ((i + 1) * 2)).length = t := by simp [hn]; omega
          rw [e1] at hx
          match t, ht with
          | 0, _ => simp at hx hu; subst hx; subst hu; exact ⟨.str [] (by simp), rfl⟩
          | 1, _ => simp at hx hu; subst hx; subst hu; exact ⟨.bool false, rfl⟩
    refine ⟨cs2, e, by rw [hgg]; exact k3, by rw [List.length_map, hdl]; omega, fun j u hj hu => ?_, fun j x u hx hu => ?_⟩
    · rw [List.length_map] at hj
      have := hpt j _ u (List.getElem?_eq_getElem hj) hu
      exact this.1.oneCell this.2
    · rw [List.getElem?_map] at hx
      obtain ⟨z, hz, rfl⟩ := Option.map_eq_some_iff.1 hx
      exact hpt j z u hz hu
  · rw [hp.live b]
    cases b with
    | t n => simp [bxOf]
    | a k => cases k <;> simp [bxOf]
  · have hb1 := hother b (fun h => hp.boxim _ hlive o (by rw [hgg, ← h]; exact hb))
    exact cell_of_heap hb1 o
  · have hk1 : k ≠ g := fun h => hk.2.2.1 _ hlive (by rw [hgg, h])
    exact ⟨hkind k hk1, by rw [hother k hk1]; exact hk.1, hk.2.1, hk.2.2.2.1⟩
end Go.Bee.C23s

/- Chapter 23: decisive facts: the code, the model and their law. -/
namespace Go.Bee.Df
open Go Go.Bee Go.Proofs Go.Bee.Ty Go.Bee.C23 Go.Bee.C23s Go.Bee.C23a Go.Bee.Mt Go.Bee.Mr Go.Bee.Cq Go.Bee.Ml Go.Bee.Ar
theorem tys : type_of% Go.Bee.Ar.tys := Go.Bee.Ar.tys
end Go.Bee.Df
namespace Go.Bee.Df
open Go Go.Bee Go.Proofs Go.Bee.Ty Go.Bee.C23 Go.Bee.C23s Go.Bee.C23a Go.Bee.Mt Go.Bee.Mr Go.Bee.Cq Go.Bee.Ml Go.Bee.Ar
set_option linter.unusedVariables false
set_option maxRecDepth 20000
attribute [local irreducible] Go.Bee.bwp
def lessI (c : Cs) (i : Nat) : Cs := less c (c.fs.eraseIdx i)
def decB (c : Cs) (n : List UInt8) (i : Nat) : Bool := decide (¬ statusF (accI (lessI c i)) n = statusF (accI c) n)
def decG (p : Nat → Bool) : Nat → Nat → List Int
  | 0, _ => []
  | m + 1, k => if p k = true then (k : Int) :: decG p m (k + 1) else decG p m (k + 1)
theorem decG_len (p : Nat → Bool) : ∀ (m k : Nat), (decG p m k).length ≤ m
  | 0, _ => Nat.le_refl _
  | m + 1, k => by
    have := decG_len p m (k + 1)
    unfold decG
    split <;> simp <;> omega
def dcf (c : Cs) (n : List UInt8) : List Int := if (head c && okI c && vName n) = true then decG (decB c n) c.fs.length 0 else []
theorem dcf_len (c : Cs) (n : List UInt8) (h : 0 ≤ szCs c 1048576) : (dcf c n).length ≤ 1048576 := by
  have := (szCs_ok c h).1
  have := decG_len (decB c n) c.fs.length 0
  unfold dcf
  split
  · omega
  · simp
theorem lessI_fine {c : Cs} (h : Fine c) (i : Nat) : Fine (lessI c i) := less_fine h (fun t ht => List.mem_of_mem_eraseIdx ht) (List.length_eraseIdx_le _ _)
theorem fs_few {c : Cs} (h : head c = true) : c.fs.length ≤ 12 := by
  simp only [head, Bool.and_eq_true] at h
  have := (thOk_all h.1.1.1.1.1).1
  omega
theorem ths_erase (l : List Th) (k : Nat) : (l.map Th.e).take k ++ (l.map Th.e).drop (k + 1) = (l.eraseIdx k).map Th.e := by
  rw [List.eraseIdx_eq_take_drop_succ, List.map_append, List.map_take, List.map_drop]
theorem ths_two (l : List Th) : ∀ x ∈ l.map Th.e, x.cells.length = 2 := fun x hx => by obtain ⟨t, _, rfl⟩ := List.mem_map.1 hx; rfl
theorem unb_row (l : List PD) (b : BN) (y : PD) (n : Nat) : ((l.map PV.d).map (PV.unbC b y n)).map (PV.killC b) = l.map PV.d := by
  rw [List.map_map, List.map_map]; rfl
theorem DecisiveFacts_b (c : Cs) (n : List UInt8) : BRet Tryz.prog 32 [] [caseP c, .str n] (.tup [.own 3 1 (ints (dcf c n)), .bool (head c && okI c && vName n)]) [] := by
  have hd : dcf c n = if (head c && okI c && vName n) = true then decG (decB c n) c.fs.length 0 else [] := rfl
  cases hv : head c && okI c
  · rw [hv, Bool.false_and, if_neg (by decide)] at hd
    rw [hd, Bool.false_and]
    refine BRet.less ?_ PLe.tupNil
    refine bof Tryz.func32 ?_
    refine bgo ?_
    refine b_call (IsValidCase_b c) rfl rfl rfl rfl ?_
    rw [hv]
    refine bgo ?_
    trivial
  rw [hv, Bool.true_and] at hd
  rw [Bool.true_and]
  cases hn : vName n
  · rw [hn, if_neg (by decide)] at hd
    rw [hd]
    refine BRet.less ?_ PLe.tupNil
    refine bof Tryz.func32 ?_
    refine bgo ?_
    refine b_call (IsValidCase_b c) rfl rfl rfl rfl ?_
    rw [hv]
    refine bgo ?_
    refine b_call (IsValidName_b n) rfl rfl rfl rfl ?_
    rw [hn]
    refine bgo ?_
    trivial
  have hf := head_fine hv
  have hhv : head c = true := by simp only [Bool.and_eq_true] at hv; exact hv.1
  have hfl := fs_few hhv
  rw [hn, if_pos rfl] at hd
  rw [hd]
  generalize hr : decG (decB c n) c.fs.length 0 = res
  refine bofM [9] Tryz.func32 ?_
  refine bgo ?_
  refine b_call (IsValidCase_b c) rfl rfl rfl rfl ?_
  rw [hv]
  refine bgo ?_
  refine b_call (IsValidName_b n) rfl rfl rfl rfl ?_
  rw [hn]
  refine bgo ?_
  refine b_lp (ι := Nat × List Int × List PD) (fun i => [(1, .str n), (2, .ptr (.t 2) 0), (6, .own 3 1 (ints i.2.1)), (7, .ptr (.t 7) 0), (21, .int c.fs.length), (22, .int i.1)])
    (fun i => [(.t 2, caseDs c), (.t 7, [.d (.sl 2 i.2.2), .d (.sl 5 (c.rs.map Ru.e)), .d (.sl 2 (c.ss.map Sd.e))])]) (fun i => i.1 ≤ c.fs.length ∧ i.2.1 ++ decG (decB c n) (c.fs.length - i.1) i.1 = res ∧ i.2.1.length ≤ i.1) (fun i => c.fs.length - i.1) (0, [], c.fs.map Th.e) hs ⟨Nat.zero_le _, hr, Nat.le_refl _⟩ ?_
  clear hr
  rintro ⟨k, out, fs'⟩ ⟨hk, hj, hl⟩ I nx
  dsimp only at hk hj hl ⊢
  by_cases hlt : k < c.fs.length
  · have hne : c.fs.map Th.e ≠ [] := fun e => by rw [List.map_eq_nil_iff.1 e] at hlt; exact absurd hlt (Nat.not_lt_zero _)
    have hll : (c.fs.map Th.e).length = c.fs.length := List.length_map ..
    rw [show c.fs.length - k = (c.fs.length - (k + 1)) + 1 by omega] at hj
    have hdl := delThesis_b c.fs k hlt
    have hel : ((c.fs.eraseIdx k).map Th.e).length = c.fs.length - 1 := by rw [List.length_map, List.length_eraseIdx_of_lt hlt]
    have hfi := lessI_fine hf k
    have hib : (k : Int) + 1 ≤ 1000 := by omega
    refine bgo ?_
    refine b_boxed1 99 (cloneThesis_b c.fs (by omega)) .one rfl rfl rfl (fun B => .cons lendD .nil) hne (th_plain c.fs) rfl ?_
    refine bgo ?_
    refine b_redo (ys := [.int .i64 k, .int .i64 ((k : Int) + 1)]) hdl (by first | rfl | exact congrArg (PV.rsv (.t 99) 2) hll) rfl (th_plain c.fs) rfl rfl rfl (fun y hy => by simp at hy; rcases hy with rfl | rfl <;> rfl) (fun y hy => ?_) ?_
    · unfold delRow at hy
      rcases List.mem_append.1 hy with h | h
      · exact th_plain _ y h
      · simp at h; rcases h with rfl | rfl <;> rfl
    refine bgo ?_
    refine wk_unb (.t 99) 2 (c.fs.length - 1) ((c.fs.eraseIdx k).map Th.e) [.str [], .bool false] (by unfold delRow; rw [List.map_append]; rfl) hel (ths_two _) (by omega)
      [(1, .str n), (2, .ptr (.t 2) 0), (6, .own 3 1 (ints out)), (7, .ptr (.t 7) 0), (8, .int k), (21, .int c.fs.length), (22, .int k)] [(.t 2, caseDs c), (.t 7, caseDs (lessI c k))] ⟨hsT, ⟨_, rfl, HasC.of (by rfl) rfl⟩, ⟨_, rfl, HasC.of (by simp [PV.unbC, PV.killC, lessI, less, caseDs]) rfl⟩, trivial⟩ ?_
    have hs1 := statusOf_b (lessI c k) n hfi
    have hs2 := statusOf_b c n hf
    clear hdl
    by_cases he : statusF (accI (lessI c k)) n = statusF (accI c) n
    · have hp : decB c n k = false := decide_eq_false (fun h => h he)
      have hj2 : out ++ decG (decB c n) (c.fs.length - (k + 1)) (k + 1) = res := by unfold decG at hj; rw [hp, if_neg (by decide)] at hj; exact hj
      rw [he] at hs1
      generalize statusF (accI c) n = x at *
      clear hj he
      refine bgo ?_
      refine b_call hs1 rfl rfl rfl rfl ?_
      refine bgo ?_
      refine b_call hs2 rfl rfl rfl rfl ?_
      refine bgo ?_
      exact nx.go (k + 1, out, (c.fs.eraseIdx k).map Th.e) ⟨hlt, hj2, by dsimp only; omega⟩ (by dsimp only; omega) hs
    · have hp : decB c n k = true := decide_eq_true he
      have hj2 : (out ++ [(k : Int)]) ++ decG (decB c n) (c.fs.length - (k + 1)) (k + 1) = res := by unfold decG at hj; rw [hp, if_pos rfl] at hj; rw [← hj, List.append_assoc]; rfl
      have hoa := ints_app out [(k : Int)]
      have hol : (ints out).length = out.length := by simp [ints]
      have hob : (out.length + 1) * 9 ≤ 140737488355328 := by omega
      generalize statusF (accI (lessI c k)) n = y at *
      generalize statusF (accI c) n = x at *
      clear hj
      refine bgo ?_
      refine b_call hs1 rfl rfl rfl rfl ?_
      refine bgo ?_
      refine b_call hs2 rfl rfl rfl rfl ?_
      refine bgo ?_
      refine nx.go (k + 1, out ++ [(k : Int)], (c.fs.eraseIdx k).map Th.e) ⟨hlt, hj2, by simp; omega⟩ (by dsimp only; omega) ?_
      exact ⟨⟨⟨PLe.rfl, rfl⟩, ⟨PLe.rfl, rfl⟩, ⟨PLe.eq (congrArg (PV.own 3 1) hoa.symm), rfl⟩, ⟨PLe.rfl, rfl⟩, ⟨PLe.rfl, rfl⟩, ⟨PLe.rfl, rfl⟩, trivial⟩, ⟨_, rfl, HasC.same rfl⟩, ⟨_, rfl, HasC.same rfl⟩, trivial⟩
  · have hk' : k = c.fs.length := by omega
    subst hk'
    rw [Nat.sub_self] at hj
    replace hj : out = res := by simpa [decG] using hj
    subst hj
    refine bgo ?_
    refine wk_rfl ?_
    refine bgo ?_
    trivial
theorem specDecisiveFacts_b (c : Cs) (n : List UInt8) : BRet Tryz.prog 33 [] [caseP c, .str n] (.tup [.own 3 1 (ints (dcf c n)), .bool (head c && okI c && vName n)]) [] := by
  have hd : dcf c n = if (head c && okI c && vName n) = true then decG (decB c n) c.fs.length 0 else [] := rfl
  cases hv : head c && okI c
  · rw [hv, Bool.false_and, if_neg (by decide)] at hd
    rw [hd, Bool.false_and]
    refine bof Tryz.func33 ?_
    refine bgo ?_
    refine b_call (good_b c) rfl rfl rfl rfl ?_
    rw [hv]
    refine bgo ?_
    first
      | trivial
      | rfl
  rw [hv, Bool.true_and] at hd
  rw [Bool.true_and]
  cases hn : vName n
  · rw [hn, if_neg (by decide)] at hd
    rw [hd]
    refine bof Tryz.func33 ?_
    refine bgo ?_
    refine b_call (good_b c) rfl rfl rfl rfl ?_
    rw [hv]
    refine bgo ?_
    refine b_call (l5Name_b n) rfl rfl rfl rfl ?_
    rw [hn]
    refine bgo ?_
    first
      | trivial
      | rfl
  have hf := head_fine hv
  have hhv : head c = true := by simp only [Bool.and_eq_true] at hv; exact hv.1
  have hfl := fs_few hhv
  rw [hn, if_pos rfl] at hd
  rw [hd]
  generalize hr : decG (decB c n) c.fs.length 0 = res
  refine bof Tryz.func33 ?_
  refine bgo ?_
  refine b_call (good_b c) rfl rfl rfl rfl ?_
  rw [hv]
  refine bgo ?_
  refine b_call (l5Name_b n) rfl rfl rfl rfl ?_
  rw [hn]
  refine bgo ?_
  refine b_call (specStatus_b c n hf) rfl rfl rfl rfl ?_
  refine bgo ?_
  refine b_lp (ι := Nat × List Int) (fun i => [(1, .str n), (2, .ptr (.t 2) 0), (6, .own 3 1 (ints i.2)), (7, .int (statusF (accI c) n)), (8, .int i.1)])
    (fun i => [(.t 2, caseDs c)]) (fun i => i.1 ≤ c.fs.length ∧ i.2 ++ decG (decB c n) (c.fs.length - i.1) i.1 = res ∧ i.2.length ≤ i.1) (fun i => c.fs.length - i.1) (0, []) hs ⟨Nat.zero_le _, hr, Nat.le_refl _⟩ ?_
  clear hr
  rintro ⟨k, out⟩ ⟨hk, hj, hl⟩ I nx
  dsimp only at hk hj hl ⊢
  by_cases hlt : k < c.fs.length
  · rw [show c.fs.length - k = (c.fs.length - (k + 1)) + 1 by omega] at hj
    have hs1 := specStatus_b (lessI c k) n (lessI_fine hf k)
    have hte := ths_erase c.fs k
    have hib : (k : Int) + 1 ≤ 1000 := by omega
    by_cases he : statusF (accI (lessI c k)) n = statusF (accI c) n
    · have hp : decB c n k = false := decide_eq_false (fun h => h he)
      have hj2 : out ++ decG (decB c n) (c.fs.length - (k + 1)) (k + 1) = res := by unfold decG at hj; rw [hp, if_neg (by decide)] at hj; exact hj
      rw [he] at hs1
      generalize statusF (accI c) n = x at *
      clear hj he
      refine bgo ?_
      refine ⟨rfl, ?_⟩
      refine b_call hs1 rfl rfl rfl rfl ?_
      refine bgo ?_
      exact nx.go (k + 1, out) ⟨hlt, hj2, by dsimp only; omega⟩ (by dsimp only; omega) hs
    · have hp : decB c n k = true := decide_eq_true he
      have hj2 : (out ++ [(k : Int)]) ++ decG (decB c n) (c.fs.length - (k + 1)) (k + 1) = res := by unfold decG at hj; rw [hp, if_pos rfl] at hj; rw [← hj, List.append_assoc]; rfl
      have hoa := ints_app out [(k : Int)]
      have hol : (ints out).length = out.length := by simp [ints]
      have hob : (out.length + 1) * 9 ≤ 140737488355328 := by omega
      generalize statusF (accI (lessI c k)) n = y at *
      generalize statusF (accI c) n = x at *
      clear hj
      refine bgo ?_
      refine ⟨rfl, ?_⟩
      refine b_call hs1 rfl rfl rfl rfl ?_
      refine bgo ?_
      refine nx.go (k + 1, out ++ [(k : Int)]) ⟨hlt, hj2, by simp; omega⟩ (by dsimp only; omega) ?_
      exact ⟨⟨⟨PLe.rfl, rfl⟩, ⟨PLe.rfl, rfl⟩, ⟨PLe.eq (congrArg (PV.own 3 1) hoa.symm), rfl⟩, ⟨PLe.rfl, rfl⟩, ⟨PLe.rfl, rfl⟩, trivial⟩, ⟨_, rfl, HasC.same rfl⟩, trivial⟩
  · have hk' : k = c.fs.length := by omega
    subst hk'
    rw [Nat.sub_self] at hj
    replace hj : out = res := by simpa [decG] using hj
    subst hj
    refine bgo ?_
    refine wk_rfl ?_
    refine bgo ?_
    trivial
theorem lawDecisiveFacts_b (c : Cs) (n : List UInt8) : BRet Tryz.prog 13 [] [caseP c, .str n] (.bool true) [] := by
  refine bofM [15] Tryz.func13 ?_
  by_cases hbig : (n.length : Int) > 1048576
  · refine bgo ?_
    trivial
  refine bgo ?_
  refine b_call (szCase_b c 1048576 (by decide) (by decide)) rfl rfl rfl rfl ?_
  by_cases h : szCs c 1048576 < 0
  · refine bgo ?_
    trivial
  have ho := szCs_ok c (by omega)
  obtain ⟨hm0, hm1⟩ := mkCs_less c (by omega)
  have hmz := markCase_z c 1 (by decide) hm1
  generalize mkCs c 1 = mk1 at *
  have hmn : ¬ mk1 < 0 := by omega
  have hi := DecisiveFacts_b c n
  have hs' := specDecisiveFacts_b c n
  have hlen := dcf_len c n (by omega)
  generalize dcf c n = l at *
  generalize (head c && okI c && vName n) = ok at *
  refine bgo ?_
  refine b_call (toCase_b c ho) rfl rfl rfl rfl ?_
  refine bgo ?_
  refine b_call hs' rfl rfl rfl rfl ?_
  refine bgo ?_
  refine b_look (toCase_q c ho) rfl rfl (fun B => .cons lend3d .nil) take3 ?_
  refine bgo ?_
  by_cases hl : l = []
  · subst hl
    refine b_look hi rfl rfl (fun B => .cons lend3q (.cons lendD .nil)) take0 ?_
    refine bgo ?_
    refine b_call (eqIntS_s []) rfl rfl rfl rfl ?_
    refine bgo ?_
    refine b_call (toCase_b c ho) rfl rfl rfl rfl ?_
    refine bgo ?_
    refine b_look (eqCase_s c) rfl rfl (fun B => .cons lend3q (.cons lend3o .nil)) takeB ?_
    refine bgo ?_
    refine wk_unq [(1, .str n), (2, .ptr (.t 2) 0), (6, .d (.sl 1 (ints []))), (7, .bool ok), (8, .ptr (.t 8) 0), (9, .d (.sl 1 [])), (10, .bool ok), (11, .int 1)] [(.t 2, caseDs c), (.t 8, caseZ c)] hs ?_
    refine bgo ?_
    refine b_writes hmz rfl rfl rfl rfl ?_
    refine bgo ?_
    refine b_call (eqIntS_s []) rfl rfl rfl rfl ?_
    refine bgo ?_
    refine b_call (markIntS_0 1 (by decide) (by decide)) rfl rfl rfl rfl ?_
    refine bgo ?_
    refine b_call (heldIntS_0 1 (by decide) (by decide)) rfl rfl rfl rfl ?_
    refine bgo ?_
    refine b_call (toCase_b c ho) rfl rfl rfl rfl ?_
    refine bgo ?_
    refine b_call hi rfl rfl rfl rfl ?_
    refine bgo ?_
    refine b_call (eqIntS_s []) rfl rfl rfl rfl ?_
    refine bgo ?_
    refine b_call (heldIntS_0 1 (by decide) (by decide)) rfl rfl rfl rfl ?_
    refine bgo ?_
    trivial
  · have hmr := markIntS_r l 1 (by decide) (by omega)
    have hhb := heldIntS_b l.length 1 (by decide) (by omega)
    have hmk : (mkI l.length 1).length = l.length := by simp [mkI]
    generalize mkI l.length 1 = m at *
    have hmn2 : ¬ ((1 : Int) + l.length < 0) := by omega
    have hll : (ints l).length = l.length := by simp [ints]
    refine b_boxed 99 hi .one rfl rfl rfl (fun B => .cons lend3q (.cons lendD .nil)) rfl (by simpa [ints] using hl) (ints_plain l) rfl ?_
    refine bgo ?_
    refine b_lookb (eqIntS_s l) rfl rfl rfl (.cons (lendR rfl (by first | rfl | exact hll) (ints_one l)) (.cons lendD .nil)) takeB ?_
    refine bgo ?_
    refine b_call (toCase_b c ho) rfl rfl rfl rfl ?_
    refine bgo ?_
    refine b_look (eqCase_s c) rfl rfl (fun B => .cons lend3q (.cons lend3o .nil)) takeB ?_
    refine bgo ?_
    refine wk_unq [(1, .str n), (2, .ptr (.t 2) 0), (6, .d (.sl 1 (ints l))), (7, .bool ok), (8, .ptr (.t 8) 0), (9, .rsv (.t 99) 1 l.length), (10, .bool ok), (11, .int 1)] [(.t 2, caseDs c), (.t 8, caseZ c), (.t 99, row (ints l))] ⟨⟨⟨PLe.rfl, rfl⟩, ⟨PLe.rfl, rfl⟩, ⟨PLe.own, rfl⟩, ⟨PLe.rfl, rfl⟩, ⟨PLe.rfl, rfl⟩, ⟨PLe.eq (by first | rfl | exact congrArg (PV.rsv (.t 99) 1) hll), rfl⟩, ⟨PLe.rfl, rfl⟩, ⟨PLe.rfl, rfl⟩, trivial⟩, ⟨_, rfl, HasC.same rfl⟩, ⟨_, rfl, HasC.same rfl⟩, ⟨_, rfl, HasC.of (unq_row _) (row_ok _ _)⟩, trivial⟩ ?_
    refine bgo ?_
    refine b_writes hmz rfl rfl rfl rfl ?_
    refine bgo ?_
    refine b_lookb (eqIntS_s l) rfl rfl rfl (.cons (lendR rfl (by simp [ints]) (ints_one l)) (.cons lendD .nil)) takeB ?_
    refine bgo ?_
    refine b_callr hmr rfl rfl (row_pass _) (row_gives _ trivial) rfl rfl rfl rfl rfl ?_
    refine bgo ?_
    refine b_lookb hhb rfl rfl rfl (.cons (lendR rfl (by simp [ints, hmk]) (ints_one m)) (.cons lendD .nil)) takeI ?_
    refine bgo ?_
    refine b_call (toCase_b c ho) rfl rfl rfl rfl ?_
    refine bgo ?_
    refine b_call hi rfl rfl rfl rfl ?_
    refine bgo ?_
    refine b_call (eqIntS_s l) rfl rfl rfl rfl ?_
    refine bgo ?_
    refine b_lookb hhb rfl rfl rfl (.cons (lendR rfl (by simp [ints, hmk]) (ints_one m)) (.cons lendD .nil)) takeI ?_
    refine bgo ?_
    trivial
end Go.Bee.Df

/-
What reads as data is data of the logic; a call that gives true out of it is what a row asks. No condition.
-/
namespace Go.Bee
open Go.ChangeShapes Go.WideShapes Go.ChangeAt Go.RowKit
set_option linter.unusedVariables false

def Old (w : World) : Nat → Nat → Prop := fun g _ => g < w.heap.size
def Cells (w : World) (ps : List PD) (cs : List Value) : Prop := ps.length = cs.length ∧ (∀ x ∈ ps, x.scalar = true) ∧ ∀ (i : Nat) x v, ps[i]? = some x → cs[i]? = some v → RepD (Old w) w x v
theorem Cells.append {w : World} {ps ps' : List PD} {cs cs' : List Value} (h : Cells w ps cs) (k : Cells w ps' cs') : Cells w (ps ++ ps') (cs ++ cs') := by
  obtain ⟨h1, h2, h3⟩ := h
  obtain ⟨k1, k2, k3⟩ := k
  refine ⟨by simp [h1, k1], fun x hx => (List.mem_append.1 hx).elim (h2 x) (k2 x), fun i x v hx hv => ?_⟩
  by_cases hi : i < ps.length
  · rw [List.getElem?_append_left hi] at hx
    rw [List.getElem?_append_left (by omega)] at hv
    exact h3 i x v hx hv
  · rw [List.getElem?_append_right (by omega)] at hx hv
    rw [h1] at hx
    exact k3 _ x v hx hv
/-- All that reads as data of type t is e of something, of which B is true. -/
def OpnN {α : Type} (P : Program) (t : TypeId) (e : α → PD) (B : α → Prop) (fuel : Nat) : Prop :=
  ∀ (H : Type) (enc : TypeId × Value → H) (w : World) (spare : Nat → Bool) (held : Bool) (cs : List Value) (x : DataW H × List MemPlace),
    DataW.trod enc P w 0 spare held fuel t cs = some x → (∀ n ∈ x.1.weights P t, n ≤ reachBytes) → ∃ a, B a ∧ Cells w (e a).cells cs
def Opn {α : Type} (P : Program) (t : TypeId) (e : α → PD) (B : α → Prop) : Prop := ∀ fuel, OpnN P t e B fuel
theorem cells_one {w : World} {x : PD} {v : Value} (hs : x.scalar = true) (h : RepD (Old w) w x v) : Cells w x.cells [v] := by
  have hc : x.cells = [x] := by cases x <;> first | rfl | simp [PD.scalar] at hs
  rw [hc]
  refine ⟨rfl, by simpa using hs, fun i y u hy hu => ?_⟩
  cases i with
  | zero => simp at hy hu; subst hy; subst hu; exact h
  | succ i => simp at hy
theorem opn_int {P : Program} {t : TypeId} {k : IntKind} (ht : P.underlying t = some (.int k)) : Opn P t (fun n : Int => .int k n) (fun n => (Lit.int k n).wf = true) := by
  intro fuel H enc w spare held cs x h _
  obtain ⟨n, rfl, _, hw⟩ := DataW.trod_int ht h
  exact ⟨n, hw, cells_one rfl (.int k n)⟩
theorem opn_bool {P : Program} {t : TypeId} (ht : P.underlying t = some .bool) : Opn P t PD.bool (fun _ => True) := by
  intro fuel H enc w spare held cs x h _
  obtain ⟨n, rfl, _⟩ := DataW.trod_bool ht h
  exact ⟨n, trivial, cells_one rfl (.bool n)⟩
theorem opn_str {P : Program} {t : TypeId} (ht : P.underlying t = some .string) : Opn P t PD.str (fun _ => True) := by
  intro fuel H enc w spare held cs x h hb
  obtain ⟨s, rfl, rfl, _⟩ := DataW.trod_string ht h
  have := hb s.data.toList.length (by simp [DataW.weights])
  refine ⟨s.data.toList, trivial, cells_one rfl ?_⟩
  have hr := RepD.str (S := Old w) (w := w) s.data.toList (by unfold reachBytes at this; omega)
  simpa using hr
theorem choose_list {α : Type} (n : Nat) (R : Nat → α → Prop) (h : ∀ i, i < n → ∃ y, R i y) : ∃ ys : List α, ys.length = n ∧ ∀ i y, ys[i]? = some y → R i y := by
  induction n with
  | zero => exact ⟨[], rfl, fun i y hy => by simp at hy⟩
  | succ n ih =>
    obtain ⟨ys, hl, hr⟩ := ih (fun i hi => h i (by omega))
    obtain ⟨y, hy⟩ := h n (by omega)
    refine ⟨ys ++ [y], by simp [hl], fun i z hz => ?_⟩
    by_cases hi : i < ys.length
    · rw [List.getElem?_append_left hi] at hz
      exact hr i z hz
    · rw [List.getElem?_append_right (by omega)] at hz
      have : i = ys.length := by
        have := (List.getElem?_eq_some_iff.1 hz).1
        simp at this
        omega
      subst this
      simp at hz
      subst hz
      rw [hl]
      exact hy
theorem mem_weightsAll {H : Type} (P : Program) (e : TypeId) {n : Nat} : ∀ (l : List (DataW H)) (d : DataW H), d ∈ l → n ∈ d.weights P e → n ∈ DataW.weightsAll P e l
  | [], d, hd, _ => by simp at hd
  | a :: l, d, hd, hn => by
    rw [DataW.weightsAll, List.mem_append]
    rcases List.mem_cons.1 hd with rfl | hd
    · exact .inl hn
    · exact .inr (mem_weightsAll P e l d hd hn)
theorem cell_lt {w : World} {a : Addr} {v : Value} (h : w.cell? a = some v) : a.block < w.heap.size ∧ a.spot = none := by
  unfold World.cell? at h
  split at h
  · rename_i c _ _ hc
    split at h
    · cases h
    · rename_i hs
      exact ⟨(Array.getElem?_eq_some_iff.1 hc).1, by simpa using hs⟩
  · cases h
theorem run_of_each {w : World} {sz g : Nat} {α : Type} {e : α → PD} : ∀ (ys : List α) (o : Nat), (∀ (i : Nat) y, ys[i]? = some y → ∃ cs : List Value, cs.length = sz ∧ (∀ (j : Nat) u, cs[j]? = some u → w.cell? ⟨g, o + i * sz + j, none⟩ = some u) ∧ Cells w (e y).cells cs) →
    ∃ vs : List Value, vs.length = ys.length * sz ∧ Cells w (flat (ys.map e)) vs ∧ ∀ (i : Nat) v, vs[i]? = some v → w.cell? ⟨g, o + i, none⟩ = some v
  | [], o, _ => ⟨[], by simp, ⟨by simp [flat], by simp [flat], by simp [flat]⟩, by simp⟩
  | y :: ys, o, h => by
    obtain ⟨cs, h1, h2, h3⟩ := h 0 y rfl
    obtain ⟨vs, k1, k2, k3⟩ := run_of_each (w := w) (sz := sz) (g := g) (e := e) ys (o + sz) (fun i z hz => by
      obtain ⟨cs', q1, q2, q3⟩ := h (i + 1) z (by simpa using hz)
      refine ⟨cs', q1, fun j u hu => ?_, q3⟩
      rw [← q2 j u hu]
      congr 2
      rw [Nat.add_mul]; omega)
    refine ⟨cs ++ vs, by simp [h1, k1, Nat.add_mul]; omega, ?_, fun i v hv => ?_⟩
    · rw [List.map_cons, flat_cons]; exact h3.append k2
    · by_cases hi : i < cs.length
      · rw [List.getElem?_append_left hi] at hv
        have := h2 i v hv
        simpa using this
      · rw [List.getElem?_append_right (by omega)] at hv
        rw [← k3 _ v hv]
        congr 2
        omega
theorem opn_slice {P : Program} {t e : TypeId} {α : Type} {d : α → PD} {B : α → Prop} {sz fuel : Nat} (ht : P.underlying t = some (.slice e)) (hC : P.cellsOf e = sz) (hz : 0 < sz) (hby : 0 < P.bytesOf e)
    (h : ∀ n, n < fuel → OpnN P e d B n) : OpnN P t (fun l : List α => .sl sz (l.map d)) (fun l => ∀ a ∈ l, B a) fuel := by
  intro H enc w spare held cs x hx hw
  rcases DataW.trod_slice ht hx with ⟨rfl, _⟩ | ⟨a, len, cap, elems, rest, n, rfl, rfl, rfl, _, hl, hm, hlen, hel, _, _⟩
  · exact ⟨[], by simp, cells_one rfl (.nil sz)⟩
  · have hw2 : ∀ y ∈ elems, ∀ k ∈ y.1.weights P e, k ≤ reachBytes := fun y hy k hk => hw k (by
      rw [DataW.weights, ht]
      refine List.mem_cons_of_mem _ (List.mem_append_left _ (mem_weightsAll P e _ y.1 (List.mem_map_of_mem hy) hk)))
    obtain ⟨ys, hyl, hy⟩ := choose_list (α := α) len (fun i y => ∃ cs', w.cells? 0 (a.add (i * sz)) sz = some cs' ∧ B y ∧ Cells w (d y).cells cs') (fun i hi => by
      have h1 := hel i hi
      rw [List.getElem?_eq_getElem (by omega), Option.bind_eq_some_iff] at h1
      obtain ⟨cs', hc, hd⟩ := h1
      obtain ⟨y, hB, hk⟩ := h n (by omega) H enc w spare held cs' _ hd (hw2 _ (List.getElem_mem _))
      rw [hC] at hc
      exact ⟨y, cs', hc, hB, hk⟩)
    refine ⟨ys, fun y hm => ?_, cells_one rfl ?_⟩
    · obtain ⟨i, hi⟩ := List.getElem?_of_mem hm
      exact (hy i y hi).choose_spec.2.1
    · by_cases h0 : ys = []
      · subst h0
        simp only [List.length_nil] at hyl
        subst hyl
        exact .emp sz a cap
      · have hpos : 0 < ys.length := List.length_pos_iff.2 h0
        obtain ⟨cs0, hc0, -, hk0⟩ := hy 0 ys[0] (List.getElem?_eq_getElem hpos)
        obtain ⟨_, hcl0, hat0⟩ := World.cells?_some hc0
        have hcell := hat0 0 hz
        rw [List.getElem?_eq_getElem (by omega)] at hcell
        have hsp := (cell_lt hcell).2
        have hbl := (cell_lt hcell).1
        obtain ⟨g, o, sp⟩ := a
        have hsp' : sp = none := by simpa [Addr.add] using hsp
        subst hsp'
        obtain ⟨vs, k1, k2, k3⟩ := run_of_each (w := w) (sz := sz) (g := g) (e := d) ys o (fun i y hyi => by
          obtain ⟨cs', hc, hB, hk⟩ := hy i y hyi
          obtain ⟨_, hcl, hat⟩ := World.cells?_some hc
          refine ⟨cs', hcl, fun j u hu => ?_, hk⟩
          have hj : j < sz := by rw [← hcl]; exact (List.getElem?_eq_some_iff.1 hu).1
          have := hat j hj
          rw [hu, Addr.add_lit, Addr.add_lit] at this
          exact this)
        have hll : ys.length = (ys.map d).length := by simp
        have hmax : ys.length ≤ 140737488355328 := by
          have h1 : (elems.length + rest.length) * P.bytesOf e ≤ reachBytes := hw _ (by simp [DataW.weights, ht])
          have h2 : ys.length ≤ (elems.length + rest.length) * P.bytesOf e := Nat.le_trans (by omega) (Nat.le_mul_of_pos_right _ hby)
          unfold reachBytes at h1; omega
        rw [← hyl, hll]
        refine .sl sz (ys.map d) g o cap vs (by rw [← hll]; exact hmax) (by rw [← hll]; omega) (fun x hx => ?_) k2.2.1 k2.1.symm (fun i v hv => ⟨(cell_lt (k3 i v hv)).1, k3 i v hv⟩) k2.2.2
        obtain ⟨y, hym, rfl⟩ := List.mem_map.1 hx
        obtain ⟨i, hi⟩ := List.getElem?_of_mem hym
        obtain ⟨cs', hc, _, hk⟩ := hy i y hi
        obtain ⟨_, hcl, _⟩ := World.cells?_some hc
        rw [hk.1, hcl]
/-! Structs: field by field. -/
def OpnF {α : Type} (P : Program) (fs : List Field) (off : Nat) (e : α → List PD) (B : α → Prop) (n : Nat) : Prop :=
  ∀ (H : Type) (enc : TypeId × Value → H) (w : World) (spare : Nat → Bool) (held : Bool) (cs : List Value) (xs : List (DataW H × List MemPlace)), xs.length = fs.length →
    (∀ (i : Nat) (f : Field), fs[i]? = some f → DataW.trod enc P w 0 spare held n f.type ((cs.drop f.offset).take (P.cellsOf f.type)) = xs[i]?) →
    (∀ k ∈ DataW.weightsEach P (fs.map (·.type)) (xs.map (·.1)), k ≤ reachBytes) → ∃ y, B y ∧ Cells w (e y) (cs.drop off)
theorem opnF_nil {P : Program} {n off : Nat} : OpnF P [] off (fun _ : Unit => []) (fun _ => True) n → True := fun _ => trivial
theorem opnF_one {P : Program} {α : Type} {e : α → PD} {B : α → Prop} {n sz : Nat} {f : Field} {off : Nat} (ho : f.offset = off) (hC : P.cellsOf f.type = sz) (h : OpnN P f.type e B n) :
    ∀ (H : Type) (enc : TypeId × Value → H) (w : World) (spare : Nat → Bool) (held : Bool) (cs : List Value) (xs : List (DataW H × List MemPlace)), xs.length = [f].length → cs.length = off + sz →
    (∀ (i : Nat) (g : Field), [f][i]? = some g → DataW.trod enc P w 0 spare held n g.type ((cs.drop g.offset).take (P.cellsOf g.type)) = xs[i]?) →
    (∀ k ∈ DataW.weightsEach P ([f].map (·.type)) (xs.map (·.1)), k ≤ reachBytes) → ∃ y, B y ∧ Cells w (e y).cells (cs.drop off) := by
  intro H enc w spare held cs xs hl hcl hx hw
  match xs, hl with
  | [x], _ =>
    have h1 := hx 0 f rfl
    obtain ⟨y, hB, hk⟩ := h H enc w spare held _ x h1 (fun k hk => hw k (by simp [DataW.weightsEach, hk]))
    rw [ho, hC, List.take_of_length_le (by simp; omega)] at hk
    exact ⟨y, hB, hk⟩
/-- A struct's fields from off on read as e of something. -/
def OpnS {α : Type} (P : Program) (fs : List Field) (off len : Nat) (e : α → List PD) (B : α → Prop) (n : Nat) : Prop :=
  ∀ (H : Type) (enc : TypeId × Value → H) (w : World) (spare : Nat → Bool) (held : Bool) (cs : List Value) (xs : List (DataW H × List MemPlace)), xs.length = fs.length → cs.length = len →
    (∀ (i : Nat) (f : Field), fs[i]? = some f → DataW.trod enc P w 0 spare held n f.type ((cs.drop f.offset).take (P.cellsOf f.type)) = xs[i]?) →
    (∀ k ∈ DataW.weightsEach P (fs.map (·.type)) (xs.map (·.1)), k ≤ reachBytes) → ∃ y, B y ∧ Cells w (e y) (cs.drop off)
theorem opnS_one {P : Program} {α : Type} {e : α → PD} {B : α → Prop} {n off len : Nat} {f : Field} (ho : f.offset = off) (hC : off + P.cellsOf f.type = len) (h : OpnN P f.type e B n) : OpnS P [f] off len (fun y => (e y).cells) B n := by
  intro H enc w spare held cs xs hl hcl hx hw
  match xs, hl with
  | [x], _ =>
    have h1 := hx 0 f rfl
    obtain ⟨y, hB, hk⟩ := h H enc w spare held _ x h1 (fun k hk => hw k (by simp [DataW.weightsEach, hk]))
    rw [ho, List.take_of_length_le (by simp; omega)] at hk
    exact ⟨y, hB, hk⟩
theorem opnS_cons {P : Program} {α β : Type} {e : α → PD} {e2 : β → List PD} {B : α → Prop} {B2 : β → Prop} {n off off2 len : Nat} {f : Field} {fs : List Field} (ho : f.offset = off) (ho2 : off + P.cellsOf f.type = off2) (h : OpnN P f.type e B n) (h2 : OpnS P fs off2 len e2 B2 n) :
    OpnS P (f :: fs) off len (fun y : α × β => (e y.1).cells ++ e2 y.2) (fun y => B y.1 ∧ B2 y.2) n := by
  intro H enc w spare held cs xs hl hcl hx hw
  match xs, hl with
  | x :: xs, hl =>
    have h1 := hx 0 f rfl
    obtain ⟨y, hB, hk⟩ := h H enc w spare held _ x h1 (fun k hk => hw k (by simp [DataW.weightsEach, hk]))
    obtain ⟨y2, hB2, hk2⟩ := h2 H enc w spare held cs xs (by simpa using hl) hcl (fun i g hg => hx (i + 1) g (by simpa using hg)) (fun k hk => hw k (by simp [DataW.weightsEach, hk]))
    refine ⟨(y, y2), ⟨hB, hB2⟩, ?_⟩
    have e1 : cs.drop off = (cs.drop off).take (P.cellsOf f.type) ++ cs.drop off2 := by
      rw [← ho2, ← List.drop_drop, List.take_append_drop]
    rw [e1]
    rw [ho] at hk
    exact hk.append hk2
theorem opn_struct {P : Program} {t : TypeId} {α β : Type} {fs : Array Field} {d : α → List PD} {e : β → PD} {B : α → Prop} {n len : Nat} (f : α → β) (ht : P.underlying t = some (.struct fs)) (hC : P.cellsOf t = len) (he : ∀ y, (e (f y)).cells = d y)
    (h : ∀ m, m < n → OpnS P fs.toList 0 len d B m) : OpnN P t e (fun b => ∃ a, f a = b ∧ B a) n := by
  intro H enc w spare held cs x hx hw
  obtain ⟨xs, m, rfl, rfl, hl, hxl, hf⟩ := DataW.trod_struct ht hx
  obtain ⟨y, hB, hk⟩ := h m (by omega) H enc w spare held cs xs (by simpa using hxl) (by rw [hl, hC]) (fun i f hi => hf i f (by simpa using hi)) (fun k hk => hw k (by rw [DataW.weights, ht]; exact hk))
  refine ⟨f y, ⟨y, rfl, hB⟩, ?_⟩
  rw [he]
  simpa using hk
theorem OpnN.imp {α : Type} {P : Program} {t : TypeId} {e : α → PD} {B B' : α → Prop} {n : Nat} (h : OpnN P t e B n) (hb : ∀ a, B a → B' a) : OpnN P t e B' n := by
  intro H enc w spare held cs x hx hw
  obtain ⟨a, hB, hk⟩ := h H enc w spare held cs x hx hw
  exact ⟨a, hb a hB, hk⟩

theorem weights_of_each {H : Type} {P : Program} {ts : List TypeId} {ds : List (DataW H)} {j : Nat} {t : TypeId} {d : DataW H} (h : (DataW.weightsEach P ts ds).all (· ≤ reachBytes) = true) (ht : ts[j]? = some t) (hd : ds[j]? = some d) : ∀ n ∈ d.weights P t, n ≤ reachBytes := by
  intro n hn
  have := List.all_eq_true.1 h _ (DataW.weights_mem_each ht hd n hn)
  simpa using this
/-- A law's argument, by its reading. -/
theorem arg_opn {H : Type} {enc : TypeId × Value → H} {P : Program} {t : TypeId} {α : Type} {e : α → PD} {B : α → Prop} {W : World} {spare : Nat → Bool} {held : Bool} {v : Value} {x : DataW H} {p : List MemPlace} {ts : List TypeId} {ds : List (DataW H)} {j : Nat} (h : Opn P t e B)
    (hsz : (DataW.weightsEach P ts ds).all (· ≤ reachBytes) = true) (ht : ts[j]? = some t) (hd : ds[j]? = some x) (hv : DataW.Trod enc P W 0 spare held t v x p) : ∃ y, B y ∧ Cells W (e y).cells v.cells.toList := by
  obtain ⟨fuel, hf⟩ := hv
  exact h fuel H enc W spare held _ _ hf (weights_of_each hsz ht hd)
/-- The ghost at a call's start: all that lies there stays as it is. -/
def G0 (W : World) : Gh := { im := Old W, β := fun _ => 0, live := fun _ => False, own := fun _ => none, fz := fun g => g < W.heap.size }
theorem G0_hp (P : Program) (W : World) : Hp P (G0 W) W (bxOf []) :=
  ⟨fun b cells hc => (by cases b <;> simp [bxOf] at hc), fun b => (by cases b <;> simp [bxOf, G0]), fun b b' hl => False.elim hl, fun g o h => h, fun g p hg => (by cases hg), fun b hl => False.elim hl, fun b hl => False.elim hl⟩
theorem rep_agg {P : Program} {W : World} {i : Nat} {ps : List PD} {cs : Array Value} (h : Cells W ps cs.toList) : RepT P (G0 W) W (.t i) (.agg (ps.map .d)) (.agg cs) := by
  obtain ⟨h1, h2, h3⟩ := h
  refine ⟨cs, rfl, by simp [h1], fun u hu => ?_, fun j x u hx hu => ?_⟩
  · obtain ⟨j, hj, rfl⟩ := Array.mem_iff_getElem.1 hu
    have hj2 : j < ps.length := by rw [h1]; simpa using hj
    exact (h3 j ps[j] cs[j] (List.getElem?_eq_getElem hj2) (by simp [hj])).oneCell (h2 _ (List.getElem_mem hj2))
  · rw [List.getElem?_map] at hx
    obtain ⟨y, hy, rfl⟩ := Option.map_eq_some_iff.1 hx
    exact ⟨h3 j y u hy (by simpa using hu), h2 y (List.mem_of_getElem? hy)⟩
theorem rep_one {P : Program} {W : World} {i : Nat} {x : PD} {v : Value} (hs : x.scalar = true) (hv : v.cells = #[v]) (h : Cells W x.cells v.cells.toList) : RepT P (G0 W) W (.t i) (.d x) v := by
  have hc : x.cells = [x] := by cases x <;> first | rfl | simp [PD.scalar] at hs
  rw [hc, hv] at h
  exact ⟨h.2.2 0 x v rfl rfl, hs⟩
/-- A call that is told to give true, made from outside. -/
theorem call_true {P : Program} {f : Nat} {args : List PV} {vs : Array Value} {W : World} (h : BRet P f [] args (.bool true) []) (hl : vs.size = args.length) (ha : ∀ (i : Nat) x u, args[i]? = some x → vs[i]? = some u → RepT P (G0 W) W (.t i) x u) :
    Calls P f vs W fun e W' => e = .returned (.bool true) ∧ Below W.heap.size W W' := by
  refine Calls.mono (h.2.2 (G0 W) W vs (fun _ => False) hl ha (G0_hp P W) (fun g p hg => by cases hg) (fun b hl => False.elim hl) (fun g hg => ⟨hg, id⟩) (fun g h1 _ => h1)) ?_
  rintro e W' ⟨v, G', rfl, hv, -, hx, -⟩
  obtain ⟨hv, -⟩ := hv
  cases hv
  exact ⟨rfl, hx.os, hx.tape, hx.output, hx.size, fun k hk => hx.old k hk id⟩
end Go.Bee

/- Chapter 23: what a law's arguments read as. -/
namespace Go.Bee.C23
open Go Go.Bee Go.Proofs Go.Bee.Ty
set_option linter.unusedVariables false
theorem opnTh : Opn Tryz.prog 73 Th.e (fun _ => True) := fun n => by
  refine (opn_struct (n := n) (len := 2) (fun y : List UInt8 × Bool => (⟨y.1, y.2⟩ : Th)) Tryz.underlying73 (by kernel_rfl) ?_
    (fun m _ => opnS_cons (off2 := 1) rfl ?_ (opn_str Tryz.underlying9 m) (opnS_one rfl ?_ (opn_bool Tryz.underlying4 m)))).imp fun _ _ => trivial
  · intro _; rfl
  · kernel_rfl
  · kernel_rfl
theorem opnSd : Opn Tryz.prog 134 Sd.e (fun _ => True) := fun n => by
  refine (opn_struct (n := n) (len := 2) (fun y : List UInt8 × Int => (⟨y.1, y.2⟩ : Sd)) Tryz.underlying134 (by kernel_rfl) ?_
    (fun m _ => opnS_cons (off2 := 1) rfl ?_ (opn_str Tryz.underlying9 m) (opnS_one rfl ?_ (opn_int Tryz.underlying3 m)))).imp fun _ _ => trivial
  · intro _; rfl
  · kernel_rfl
  · kernel_rfl
theorem opnThs (n : Nat) : OpnN Tryz.prog 41 (fun l : List Th => .sl 2 (l.map Th.e)) (fun _ => True) n :=
  (opn_slice (sz := 2) Tryz.underlying41 (by kernel_rfl) (by decide) (of_decide_eq_true (by kernel_rfl)) (fun m _ => opnTh m)).imp fun _ _ => trivial
theorem opnRu : Opn Tryz.prog 132 Ru.e (fun _ => True) := fun n => by
  refine (opn_struct (n := n) (len := 5) (fun y : List Th × List Th × Th × Int => (⟨y.1, y.2.1, y.2.2.1, y.2.2.2⟩ : Ru)) Tryz.underlying132 (by kernel_rfl) ?_
    (fun m _ => opnS_cons (off2 := 1) rfl ?_ (opnThs m) (opnS_cons (off2 := 2) rfl ?_ (opnThs m) (opnS_cons (off2 := 4) rfl ?_ (opnTh m) (opnS_one rfl ?_ (opn_int Tryz.underlying3 m)))))).imp fun _ _ => trivial
  · intro _; rfl
  · kernel_rfl
  · kernel_rfl
  · kernel_rfl
  · kernel_rfl
theorem opnCs : Opn Tryz.prog 45 (fun c : Cs => .agg [.sl 2 (c.fs.map Th.e), .sl 5 (c.rs.map Ru.e), .sl 2 (c.ss.map Sd.e)]) (fun _ => True) := fun n => by
  refine (opn_struct (n := n) (len := 3) (fun y : List Th × List Ru × List Sd => (⟨y.1, y.2.1, y.2.2⟩ : Cs)) Tryz.underlying45 (by kernel_rfl) ?_
    (fun m _ => opnS_cons (off2 := 1) rfl ?_ (opnThs m) (opnS_cons (off2 := 2) rfl ?_ (opn_slice (sz := 5) Tryz.underlying42 (by kernel_rfl) (by decide) (of_decide_eq_true (by kernel_rfl)) (fun k _ => opnRu k))
      (opnS_one rfl ?_ (opn_slice (sz := 2) Tryz.underlying43 (by kernel_rfl) (by decide) (of_decide_eq_true (by kernel_rfl)) (fun k _ => opnSd k)))))).imp fun _ _ => trivial
  · intro _; rfl
  · kernel_rfl
  · kernel_rfl
  · kernel_rfl
end Go.Bee.C23
