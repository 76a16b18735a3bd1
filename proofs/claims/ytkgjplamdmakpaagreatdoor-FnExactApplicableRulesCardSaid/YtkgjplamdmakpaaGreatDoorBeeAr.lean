/- Chapter 23: AcceptedTheses, ApplicableRules: both sides and their laws. -/
import Derived.Test.YtkgjplamdmakpaaGreatDoorBeeMl
namespace Go.Bee.Ar
open Go Go.Bee Go.Proofs Go.Bee.Ty Go.Bee.C23 Go.Bee.C23s Go.Bee.C23a Go.Bee.Mt Go.Bee.Mr Go.Bee.Cq Go.Bee.Ml Go.Bee.Dr
theorem slInt : SlT Tryz.prog 58 3 1 8 := ⟨_, _, ty58, rfl, ty3, rfl, rfl, rfl, by decide⟩
theorem tys : type_of% (And.intro Go.Bee.Ml.tys slInt.facts) := And.intro Go.Bee.Ml.tys slInt.facts
end Go.Bee.Ar
namespace Go.Bee.Ar
open Go Go.Bee Go.Proofs Go.Bee.Ty Go.Bee.C23 Go.Bee.C23s Go.Bee.C23a Go.Bee.Mt Go.Bee.Mr Go.Bee.Cq Go.Bee.Ml Go.Bee.Dr
set_option linter.unusedVariables false
set_option maxRecDepth 20000
attribute [local irreducible] Go.Bee.bwp
def ths (l : List Th) : List PD := l.map Th.e
theorem ths_plain (l : List Th) : ∀ x ∈ flat (ths l), x.plain = true := th_plain l
theorem ths_one (l : List Th) : ∀ x ∈ ths l, x.cells.length = 2 := fun x hx => by obtain ⟨t, _, rfl⟩ := List.mem_map.1 hx; rfl
theorem ths_app (a b : List Th) : ths (a ++ b) = ths a ++ ths b := List.map_append
def mkTh (n : Nat) (k : Int) : List Th := (List.range n).map fun (i : Nat) => (⟨mkT (k + 2 * (i : Int)), (k + 2 * (i : Int) + 1).tmod 3 == 0⟩ : Th)
theorem row_set2 {a b : List Th} {i : Nat} {v : Th} (hv : a[i]? = some v) (hb : i < b.length) :
    ((row (ths (a.take i ++ b.drop i))).set (i * 2) (.d (.str v.n))).set (i * 2 + 1) (.d (.bool v.g)) = row (ths (a.take (i + 1) ++ b.drop (i + 1))) := by
  obtain ⟨ha, rfl⟩ := List.getElem?_eq_some_iff.1 hv
  have h1 : (row (ths (a.take i))).length = i * 2 := by rw [row_len (ths_one _)]; simp [ths]; omega
  rw [List.drop_eq_getElem_cons hb, List.take_succ_eq_append_getElem ha, show b[i] :: b.drop (i + 1) = [b[i]] ++ b.drop (i + 1) from rfl]
  simp only [ths_app, row_app]
  rw [List.set_append_right _ _ (by omega), h1, Nat.sub_self]
  show (row (ths (a.take i)) ++ (([PV.d (.str b[i].n), PV.d (.bool b[i].g)] ++ row (ths (b.drop (i + 1)))).set 0 (.d (.str a[i].n)))).set (i * 2 + 1) _ = _
  rw [List.set_append_right _ _ (by omega), h1, show i * 2 + 1 - i * 2 = 1 by omega, List.append_assoc]
  rfl
theorem markThesisS_r (l : List Th) (k : Int) (h0 : 0 ≤ k) (hk : k + 2 * l.length ≤ 1099511627776) : BRet Tryz.prog 53 [row (ths l)] [.rsv (.a 0) 2 l.length, .int k] (.int (k + 2 * l.length)) [row (ths (mkTh l.length k))] := by
  refine bofp Tryz.func53 ?_
  have hml : (mkTh l.length k).length = l.length := by simp [mkTh]
  have hmi : ∀ i, i < l.length → (mkTh l.length k)[i]? = some (⟨mkT (k + 2 * (i : Int)), (k + 2 * (i : Int) + 1).tmod 3 == 0⟩ : Th) := fun i h => by simp [mkTh, h]
  generalize mkTh l.length k = m at *
  have hm0 : row (ths (m.take 0 ++ l.drop 0)) = row (ths l) := by simp
  have hm1 : row (ths (m.take l.length ++ l.drop l.length)) = row (ths m) := by rw [List.drop_length, List.append_nil, ← hml, List.take_length]
  refine bgo ?_
  refine b_lp (ι := Nat × Int) (fun i => [(0, .rsv (.a 0) 2 l.length), (1, .int i.2), (5, .int i.1)]) (fun i => [(.a 0, row (ths (m.take i.1 ++ l.drop i.1)))]) (fun i => i.1 ≤ l.length ∧ i.2 = k + 2 * i.1) (fun i => l.length - i.1) (0, k)
    ⟨hsT, ⟨_, rfl, HasC.of hm0.symm (row_ok _ _)⟩, trivial⟩ ⟨Nat.zero_le _, by simp⟩ ?_
  rintro ⟨i, j⟩ ⟨hi, hj⟩ I nx
  dsimp only at hi hj ⊢
  by_cases hlt : i < l.length
  · have hlm : (row (ths (m.take i ++ l.drop i))).length = l.length * 2 := by rw [row_len (ths_one _)]; simp [ths]; omega
    have hst := row_set2 (a := m) (b := l) (i := i) (hmi i hlt) hlt
    rw [← hj] at hst
    have hib : (i : Int) + 1 ≤ 1099511627776 := by omega
    have hkb : j + 2 ≤ 1099511627776 := by omega
    have hj0 : 0 ≤ j := by omega
    have hj2 : k + 2 * ((i + 1 : Nat) : Int) = j + 1 + 1 := by omega
    have h3 : ¬ ((3 : Int) = 0) := by decide
    have hmt := markText_b j (by omega)
    clear hj
    generalize hX : row (ths (m.take i ++ l.drop i)) = X at *
    refine bgo ?_
    refine b_call hmt rfl rfl rfl rfl ?_
    refine bgo ?_
    refine ⟨by omega, ?_, nx.go (i + 1, j + 1 + 1) ⟨hlt, hj2.symm⟩ (by dsimp only; omega) ⟨⟨⟨PLe.rfl, rfl⟩, ⟨PLe.rfl, rfl⟩, ⟨PLe.rfl, rfl⟩, trivial⟩, ⟨_, rfl, HasC.of ?_ (row_ok _ _)⟩, trivial⟩⟩
    · simp only [Nat.add_zero]
      rw [put_set X (i * 2) _ (by omega), List.length_set]; omega
    · simp only [Nat.add_zero]
      rw [put_set X (i * 2) _ (by omega), put_set _ (i * 2 + 1) _ (by rw [List.length_set]; omega)]
      exact hst
  · have hi2 : i = l.length := by omega
    subst hi2
    subst hj
    refine bgo ?_
    refine wk_mk [(1, .int (k + 2 * l.length))] [(.a 0, row (ths m))] ⟨hsT, ⟨_, rfl, HasC.of (by first | rfl | exact hm1) (row_ok _ _)⟩, trivial⟩ ?_
    refine bgo ?_
    exact ret_1p rfl rfl rfl (fun k => rfl) (row_gives _ trivial)
theorem heldThesisS_b (n : Nat) (k : Int) (h0 : 0 ≤ k) (hk : k + 2 * n ≤ 1099511627776) : BRet Tryz.prog 54 [] [.d (.sl 2 (ths (mkTh n k))), .int k] (.int (k + 2 * n)) [] := by
  refine bof Tryz.func54 ?_
  have hml : (mkTh n k).length = n := by simp [mkTh]
  have hmi : ∀ i, i < n → (mkTh n k)[i]? = some (⟨mkT (k + 2 * (i : Int)), (k + 2 * (i : Int) + 1).tmod 3 == 0⟩ : Th) := fun i h => by simp [mkTh, h]
  generalize mkTh n k = m at *
  have hll : (ths m).length = n := by simp [ths, hml]
  have hli : ∀ i, i < n → (ths m)[i]? = some (.agg [.str (mkT (k + 2 * (i : Int))), .bool ((k + 2 * (i : Int) + 1).tmod 3 == 0)]) := fun i h => by simp [ths, hmi i h, Th.e]
  generalize ths m = q at *
  refine bgo ?_
  refine b_lp (ι := Nat × Int) (fun i => [(0, .d (.sl 2 q)), (1, .int i.2), (5, .int i.1)]) (fun _ => []) (fun i => i.1 ≤ n ∧ i.2 = k + 2 * i.1) (fun i => n - i.1) (0, k) hs ⟨Nat.zero_le _, by simp⟩ ?_
  rintro ⟨i, j⟩ ⟨hi, hj⟩ I nx
  dsimp only at hi hj ⊢
  by_cases hlt : i < n
  · have hx := hli i hlt
    rw [← hj] at hx
    have hib : (i : Int) + 1 ≤ 1099511627776 := by omega
    have hkb : j + 2 ≤ 1099511627776 := by omega
    have hj0 : 0 ≤ j := by omega
    have hj2 : k + 2 * ((i + 1 : Nat) : Int) = j + 1 + 1 := by omega
    have hlt2 : i < q.length := by omega
    have h3 : ¬ ((3 : Int) = 0) := by decide
    have hmt := markText_b j (by omega)
    clear hj hml hmi hli
    refine bgo ?_
    refine b_call hmt rfl rfl rfl rfl ?_
    refine bgo ?_
    exact nx.go (i + 1, j + 1 + 1) ⟨hlt, hj2.symm⟩ (by dsimp only; omega) hs
  · have hi2 : i = n := by omega
    subst hi2
    subst hj
    have hlt2 : ¬ i < q.length := by omega
    refine bgo ?_
    refine wk_rfl ?_
    refine bgo ?_
    trivial
theorem eqThesisS_s (l : List Th) : BRet Tryz.prog 52 [] [.d (.sl 2 (ths l)), .d (.sl 2 (ths l))] (.bool true) [] := by
  have := eqThesisS_b l l
  rwa [decide_eq_true rfl] at this
def accO (c : Cs) : List Th := if (head c && okI c) = true then accI c else []
theorem AcceptedTheses_b (c : Cs) : BRet Tryz.prog 19 [] [caseP c] (.tup [.own 30 2 (ths (accO c)), .bool (head c && okI c)]) [] := by
  have hd : accO c = if (head c && okI c) = true then accI c else [] := rfl
  cases hv : head c && okI c
  · rw [hv, if_neg (by decide)] at hd
    rw [hd]
    refine BRet.less ?_ PLe.tupNil
    refine bof Tryz.func19 ?_
    refine bgo ?_
    refine b_call (IsValidCase_b c) rfl rfl rfl rfl ?_
    rw [hv]
    refine bgo ?_
    trivial
  · have hf := head_fine hv
    rw [hv, if_pos rfl] at hd
    rw [hd]
    refine bof Tryz.func19 ?_
    refine bgo ?_
    refine b_call (IsValidCase_b c) rfl rfl rfl rfl ?_
    rw [hv]
    refine bgo ?_
    refine b_call (acceptedTheses_b c hf) rfl rfl rfl rfl ?_
    refine bgo ?_
    rfl
theorem specAcceptedTheses_b (c : Cs) : BRet Tryz.prog 20 [] [caseP c] (.tup [.own 30 2 (ths (accO c)), .bool (head c && okI c)]) [] := by
  have hd : accO c = if (head c && okI c) = true then accI c else [] := rfl
  cases hv : head c && okI c
  · rw [hv, if_neg (by decide)] at hd
    rw [hd]
    refine bof Tryz.func20 ?_
    refine bgo ?_
    refine b_call (good_b c) rfl rfl rfl rfl ?_
    rw [hv]
    refine bgo ?_
    rfl
  · have hf := head_fine hv
    rw [hv, if_pos rfl] at hd
    rw [hd]
    refine bof Tryz.func20 ?_
    refine bgo ?_
    refine b_call (good_b c) rfl rfl rfl rfl ?_
    rw [hv]
    refine bgo ?_
    refine b_call (accepted_b c hf) rfl rfl rfl rfl ?_
    refine bgo ?_
    rfl
theorem acc_len (c : Cs) (h : Fine c) : (accI c).length ≤ 1048576 := by
  obtain ⟨o, ho⟩ := Option.isSome_iff_exists.1 h.ord
  unfold accI
  rw [ho]
  have h1 := goO_len _ _ _ ho
  have h2 := srt_len (allN c)
  have h3 := h.n
  have h4 := accepted_len c o []
  simp only [List.length_nil, Nat.zero_add] at h1 h4
  show (o.foldl (stepI c) []).length ≤ _
  omega
theorem accO_len (c : Cs) (h : 0 ≤ szCs c 1048576) : (accO c).length ≤ 1048576 := by
  unfold accO
  split
  · rename_i hv; exact acc_len c (head_fine hv)
  · simp
def appI (acc : List Th) : List Ru → Nat → List Int
  | [], _ => []
  | r :: l, i => if appl acc r = true then (i : Int) :: appI acc l (i + 1) else appI acc l (i + 1)
theorem appI_len (acc : List Th) : ∀ (l : List Ru) (i : Nat), (appI acc l i).length ≤ l.length
  | [], _ => Nat.le_refl _
  | r :: l, i => by
    have := appI_len acc l (i + 1)
    unfold appI
    split <;> simp <;> omega
def appO (c : Cs) : List Int := if (head c && okI c) = true then appI (accI c) c.rs 0 else []
theorem appO_len (c : Cs) (h : 0 ≤ szCs c 1048576) : (appO c).length ≤ 1048576 := by
  have := (szCs_ok c h).2.1
  have := appI_len (accI c) c.rs 0
  unfold appO
  split
  · omega
  · simp
theorem ints_app (a b : List Int) : ints (a ++ b) = ints a ++ ints b := List.map_append
theorem ApplicableRules_b (c : Cs) : BRet Tryz.prog 37 [] [caseP c] (.tup [.own 3 1 (ints (appO c)), .bool (head c && okI c)]) [] := by
  have hd : appO c = if (head c && okI c) = true then appI (accI c) c.rs 0 else [] := rfl
  cases hv : head c && okI c
  · rw [hv, if_neg (by decide)] at hd
    rw [hd]
    refine BRet.less ?_ PLe.tupNil
    refine bof Tryz.func37 ?_
    refine bgo ?_
    refine b_call (IsValidCase_b c) rfl rfl rfl rfl ?_
    rw [hv]
    refine bgo ?_
    trivial
  · have hf := head_fine hv
    rw [hv, if_pos rfl] at hd
    have hhv : head c = true := by simp only [Bool.and_eq_true] at hv; exact hv.1
    have hrl : c.rs.length ≤ 10 := by simp only [head, Bool.and_eq_true, decide_eq_true_eq] at hhv; omega
    rw [hd]
    generalize hr : appI (accI c) c.rs 0 = res
    refine bof Tryz.func37 ?_
    refine bgo ?_
    refine b_call (IsValidCase_b c) rfl rfl rfl rfl ?_
    rw [hv]
    refine bgo ?_
    refine b_call (acceptedTheses_b c hf) rfl rfl rfl rfl ?_
    generalize accI c = acc at *
    refine bgo ?_
    refine b_lp (ι := Nat × List Int) (fun i => [(4, .d (.sl 2 (acc.map Th.e))), (5, .own 3 1 (ints i.2)), (15, .d (.sl 5 (c.rs.map Ru.e))), (16, .int c.rs.length), (17, .int i.1)]) (fun _ => []) (fun i => i.1 ≤ c.rs.length ∧ i.2 ++ appI acc (c.rs.drop i.1) i.1 = res ∧ i.2.length ≤ i.1) (fun i => c.rs.length - i.1) (0, []) hs ⟨Nat.zero_le _, hr, Nat.le_refl _⟩ ?_
    clear hr
    rintro ⟨k, out⟩ ⟨hk, hj, hl⟩ I nx
    dsimp only at hk hj hl ⊢
    by_cases hlt : k < c.rs.length
    · have hx : c.rs[k]? = some c.rs[k] := List.getElem?_eq_getElem hlt
      rw [List.drop_eq_getElem_cons hlt] at hj
      have hoa := ints_app out [(k : Int)]
      have hol : (ints out).length = out.length := by simp [ints]
      have hob : (out.length + 1) * 9 ≤ 140737488355328 := by omega
      have hap := isApplicable_b c.rs[k] acc
      cases ha : appl acc c.rs[k]
      · have hj2 : out ++ appI acc (c.rs.drop (k + 1)) (k + 1) = res := by rw [← hj, show appI acc (c.rs[k] :: c.rs.drop (k + 1)) k = appI acc (c.rs.drop (k + 1)) (k + 1) from if_neg (by simp [ha])]
        rw [ha] at hap
        clear hj hoa
        refine bgo ?_
        refine b_call hap rfl rfl rfl rfl ?_
        refine bgo ?_
        exact nx.go (k + 1, out) ⟨hlt, hj2, by dsimp only; omega⟩ (by dsimp only; omega) hs
      · have hj2 : (out ++ [(k : Int)]) ++ appI acc (c.rs.drop (k + 1)) (k + 1) = res := by rw [← hj, show appI acc (c.rs[k] :: c.rs.drop (k + 1)) k = (k : Int) :: appI acc (c.rs.drop (k + 1)) (k + 1) from if_pos ha]; simp
        rw [ha] at hap
        clear hj
        refine bgo ?_
        refine b_call hap rfl rfl rfl rfl ?_
        refine bgo ?_
        refine nx.go (k + 1, out ++ [(k : Int)]) ⟨hlt, hj2, by simp; omega⟩ (by dsimp only; omega) ?_
        exact ⟨⟨⟨PLe.rfl, rfl⟩, ⟨PLe.eq (congrArg (PV.own 3 1) hoa.symm), rfl⟩, ⟨PLe.rfl, rfl⟩, ⟨PLe.rfl, rfl⟩, ⟨PLe.rfl, rfl⟩, trivial⟩, trivial⟩
    · have hk' : k = c.rs.length := by omega
      subst hk'
      rw [List.drop_length] at hj
      replace hj : out = res := by simpa [appI] using hj
      subst hj
      refine bgo ?_
      refine wk_rfl ?_
      refine bgo ?_
      trivial
theorem specApplicableRules_b (c : Cs) : BRet Tryz.prog 38 [] [caseP c] (.tup [.own 3 1 (ints (appO c)), .bool (head c && okI c)]) [] := by
  have hd : appO c = if (head c && okI c) = true then appI (accI c) c.rs 0 else [] := rfl
  cases hv : head c && okI c
  · rw [hv, if_neg (by decide)] at hd
    rw [hd]
    refine bof Tryz.func38 ?_
    refine bgo ?_
    refine b_call (good_b c) rfl rfl rfl rfl ?_
    rw [hv]
    refine bgo ?_
    rfl
  · have hf := head_fine hv
    rw [hv, if_pos rfl] at hd
    have hhv : head c = true := by simp only [Bool.and_eq_true] at hv; exact hv.1
    have hrl : c.rs.length ≤ 10 := by simp only [head, Bool.and_eq_true, decide_eq_true_eq] at hhv; omega
    rw [hd]
    generalize hr : appI (accI c) c.rs 0 = res
    refine bof Tryz.func38 ?_
    refine bgo ?_
    refine b_call (good_b c) rfl rfl rfl rfl ?_
    rw [hv]
    refine bgo ?_
    refine b_call (accepted_b c hf) rfl rfl rfl rfl ?_
    generalize accI c = acc at *
    refine bgo ?_
    refine b_lp (ι := Nat × List Int) (fun i => [(1, .ptr (.t 1) 0), (4, .own 3 1 (ints i.2)), (5, .d (.sl 2 (acc.map Th.e))), (6, .int i.1)]) (fun _ => [(.t 1, caseDs c)]) (fun i => i.1 ≤ c.rs.length ∧ i.2 ++ appI acc (c.rs.drop i.1) i.1 = res ∧ i.2.length ≤ i.1) (fun i => c.rs.length - i.1) (0, []) hs ⟨Nat.zero_le _, hr, Nat.le_refl _⟩ ?_
    clear hr
    rintro ⟨k, out⟩ ⟨hk, hj, hl⟩ I nx
    dsimp only at hk hj hl ⊢
    by_cases hlt : k < c.rs.length
    · have hx : c.rs[k]? = some c.rs[k] := List.getElem?_eq_getElem hlt
      rw [List.drop_eq_getElem_cons hlt] at hj
      have hoa := ints_app out [(k : Int)]
      have hol : (ints out).length = out.length := by simp [ints]
      have hob : (out.length + 1) * 9 ≤ 140737488355328 := by omega
      have hap := l23Applies_b c.rs[k] acc
      cases ha : appl acc c.rs[k]
      · have hj2 : out ++ appI acc (c.rs.drop (k + 1)) (k + 1) = res := by rw [← hj, show appI acc (c.rs[k] :: c.rs.drop (k + 1)) k = appI acc (c.rs.drop (k + 1)) (k + 1) from if_neg (by simp [ha])]
        rw [ha] at hap
        clear hj hoa
        refine bgo ?_
        refine b_call hap rfl rfl rfl rfl ?_
        refine bgo ?_
        exact nx.go (k + 1, out) ⟨hlt, hj2, by dsimp only; omega⟩ (by dsimp only; omega) hs
      · have hj2 : (out ++ [(k : Int)]) ++ appI acc (c.rs.drop (k + 1)) (k + 1) = res := by rw [← hj, show appI acc (c.rs[k] :: c.rs.drop (k + 1)) k = (k : Int) :: appI acc (c.rs.drop (k + 1)) (k + 1) from if_pos ha]; simp
        rw [ha] at hap
        clear hj
        refine bgo ?_
        refine b_call hap rfl rfl rfl rfl ?_
        refine bgo ?_
        refine nx.go (k + 1, out ++ [(k : Int)]) ⟨hlt, hj2, by simp; omega⟩ (by dsimp only; omega) ?_
        exact ⟨⟨⟨PLe.rfl, rfl⟩, ⟨PLe.eq (congrArg (PV.own 3 1) hoa.symm), rfl⟩, ⟨PLe.rfl, rfl⟩, ⟨PLe.rfl, rfl⟩, trivial⟩, ⟨_, rfl, HasC.same rfl⟩, trivial⟩
    · have hk' : k = c.rs.length := by omega
      subst hk'
      rw [List.drop_length] at hj
      replace hj : out = res := by simpa [appI] using hj
      subst hj
      refine bgo ?_
      refine wk_rfl ?_
      refine bgo ?_
      trivial
theorem lawAcceptedTheses_b (c : Cs) : BRet Tryz.prog 11 [] [caseP c] (.bool true) [] := by
  refine bofM [13] Tryz.func11 ?_
  refine bgo ?_
  refine b_call (szCase_b c 1048576 (by decide) (by decide)) rfl rfl rfl rfl ?_
  by_cases h : szCs c 1048576 < 0
  · refine bgo ?_
    trivial
  have ho := szCs_ok c (by omega)
  obtain ⟨hm0, hm1⟩ := mkCs_less c (by omega)
  have hmz := markCase_z c 1 (by decide) hm1
  generalize mkCs c 1 = mk1 at *
  have hmn : ¬ mk1 < 0 := by omega
  have hi := AcceptedTheses_b c
  have hs' := specAcceptedTheses_b c
  have hlen := accO_len c (by omega)
  generalize accO c = l at *
  generalize (head c && okI c) = ok at *
  refine bgo ?_
  refine b_call (toCase_b c ho) rfl rfl rfl rfl ?_
  refine bgo ?_
  refine b_call hs' rfl rfl rfl rfl ?_
  refine bgo ?_
  refine b_look (toCase_q c ho) rfl rfl (fun B => .cons lend3d .nil) take3 ?_
  refine bgo ?_
  by_cases hl : l = []
  · subst hl
    refine b_look hi rfl rfl (fun B => .cons lend3q .nil) take0 ?_
    refine bgo ?_
    refine b_call (eqThesisS_s []) rfl rfl rfl rfl ?_
    refine bgo ?_
    refine b_call (toCase_b c ho) rfl rfl rfl rfl ?_
    refine bgo ?_
    refine b_look (eqCase_s c) rfl rfl (fun B => .cons lend3q (.cons lend3o .nil)) takeB ?_
    refine bgo ?_
    refine wk_unq [(1, .ptr (.t 1) 0), (4, .d (.sl 2 (ths []))), (5, .bool ok), (6, .ptr (.t 6) 0), (7, .d (.sl 2 [])), (8, .bool ok), (9, .int 1)] [(.t 1, caseDs c), (.t 6, caseZ c)] hs ?_
    refine bgo ?_
    refine b_writes hmz rfl rfl rfl rfl ?_
    refine bgo ?_
    refine b_call (eqThesisS_s []) rfl rfl rfl rfl ?_
    refine bgo ?_
    refine b_call (markThesisS_0 1 (by decide) (by decide)) rfl rfl rfl rfl ?_
    refine bgo ?_
    refine b_call (heldThesisS_0 1 (by decide) (by decide)) rfl rfl rfl rfl ?_
    refine bgo ?_
    refine b_call (toCase_b c ho) rfl rfl rfl rfl ?_
    refine bgo ?_
    refine b_call hi rfl rfl rfl rfl ?_
    refine bgo ?_
    refine b_call (eqThesisS_s []) rfl rfl rfl rfl ?_
    refine bgo ?_
    refine b_call (heldThesisS_0 1 (by decide) (by decide)) rfl rfl rfl rfl ?_
    refine bgo ?_
    trivial
  · have hmr := markThesisS_r l 1 (by decide) (by omega)
    have hhb := heldThesisS_b l.length 1 (by decide) (by omega)
    have hmk : (mkTh l.length 1).length = l.length := by simp [mkTh]
    generalize mkTh l.length 1 = m at *
    have hmn2 : ¬ ((1 : Int) + 2 * l.length < 0) := by omega
    have hll : (ths l).length = l.length := by simp [ths]
    refine b_boxed 99 hi .one rfl rfl rfl (fun B => .cons lend3q .nil) rfl (by simpa [ths] using hl) (ths_plain l) rfl ?_
    refine bgo ?_
    refine b_lookb (eqThesisS_s l) rfl rfl rfl (.cons (lendR rfl (by first | rfl | exact hll) (ths_one l)) (.cons lendD .nil)) takeB ?_
    refine bgo ?_
    refine b_call (toCase_b c ho) rfl rfl rfl rfl ?_
    refine bgo ?_
    refine b_look (eqCase_s c) rfl rfl (fun B => .cons lend3q (.cons lend3o .nil)) takeB ?_
    refine bgo ?_
    refine wk_unq [(1, .ptr (.t 1) 0), (4, .d (.sl 2 (ths l))), (5, .bool ok), (6, .ptr (.t 6) 0), (7, .rsv (.t 99) 2 l.length), (8, .bool ok), (9, .int 1)] [(.t 1, caseDs c), (.t 6, caseZ c), (.t 99, row (ths l))] ⟨⟨⟨PLe.rfl, rfl⟩, ⟨PLe.own, rfl⟩, ⟨PLe.rfl, rfl⟩, ⟨PLe.rfl, rfl⟩, ⟨PLe.eq (by first | rfl | exact congrArg (PV.rsv (.t 99) 2) hll), rfl⟩, ⟨PLe.rfl, rfl⟩, ⟨PLe.rfl, rfl⟩, trivial⟩, ⟨_, rfl, HasC.same rfl⟩, ⟨_, rfl, HasC.same rfl⟩, ⟨_, rfl, HasC.of (unq_row _) (row_ok _ _)⟩, trivial⟩ ?_
    refine bgo ?_
    refine b_writes hmz rfl rfl rfl rfl ?_
    refine bgo ?_
    refine b_lookb (eqThesisS_s l) rfl rfl rfl (.cons (lendR rfl (by simp [ths]) (ths_one l)) (.cons lendD .nil)) takeB ?_
    refine bgo ?_
    refine b_callr hmr rfl rfl (row_pass _) (row_gives _ trivial) rfl rfl rfl rfl rfl ?_
    refine bgo ?_
    refine b_lookb hhb rfl rfl rfl (.cons (lendR rfl (by simp [ths, hmk]) (ths_one m)) (.cons lendD .nil)) takeI ?_
    refine bgo ?_
    refine b_call (toCase_b c ho) rfl rfl rfl rfl ?_
    refine bgo ?_
    refine b_call hi rfl rfl rfl rfl ?_
    refine bgo ?_
    refine b_call (eqThesisS_s l) rfl rfl rfl rfl ?_
    refine bgo ?_
    refine b_lookb hhb rfl rfl rfl (.cons (lendR rfl (by simp [ths, hmk]) (ths_one m)) (.cons lendD .nil)) takeI ?_
    refine bgo ?_
    trivial
theorem lawApplicableRules_b (c : Cs) : BRet Tryz.prog 12 [] [caseP c] (.bool true) [] := by
  refine bofM [13] Tryz.func12 ?_
  refine bgo ?_
  refine b_call (szCase_b c 1048576 (by decide) (by decide)) rfl rfl rfl rfl ?_
  by_cases h : szCs c 1048576 < 0
  · refine bgo ?_
    trivial
  have ho := szCs_ok c (by omega)
  obtain ⟨hm0, hm1⟩ := mkCs_less c (by omega)
  have hmz := markCase_z c 1 (by decide) hm1
  generalize mkCs c 1 = mk1 at *
  have hmn : ¬ mk1 < 0 := by omega
  have hi := ApplicableRules_b c
  have hs' := specApplicableRules_b c
  have hlen := appO_len c (by omega)
  generalize appO c = l at *
  generalize (head c && okI c) = ok at *
  refine bgo ?_
  refine b_call (toCase_b c ho) rfl rfl rfl rfl ?_
  refine bgo ?_
  refine b_call hs' rfl rfl rfl rfl ?_
  refine bgo ?_
  refine b_look (toCase_q c ho) rfl rfl (fun B => .cons lend3d .nil) take3 ?_
  refine bgo ?_
  by_cases hl : l = []
  · subst hl
    refine b_look hi rfl rfl (fun B => .cons lend3q .nil) take0 ?_
    refine bgo ?_
    refine b_call (eqIntS_s []) rfl rfl rfl rfl ?_
    refine bgo ?_
    refine b_call (toCase_b c ho) rfl rfl rfl rfl ?_
    refine bgo ?_
    refine b_look (eqCase_s c) rfl rfl (fun B => .cons lend3q (.cons lend3o .nil)) takeB ?_
    refine bgo ?_
    refine wk_unq [(1, .ptr (.t 1) 0), (4, .d (.sl 1 (ints []))), (5, .bool ok), (6, .ptr (.t 6) 0), (7, .d (.sl 1 [])), (8, .bool ok), (9, .int 1)] [(.t 1, caseDs c), (.t 6, caseZ c)] hs ?_
    refine bgo ?_
    refine b_writes hmz rfl rfl rfl rfl ?_
    refine bgo ?_
    refine b_call (eqIntS_s []) rfl rfl rfl rfl ?_
    refine bgo ?_
    refine b_call (markIntS_0 1 (by decide) (by decide)) rfl rfl rfl rfl ?_
    refine bgo ?_
    refine b_call (heldIntS_0 1 (by decide) (by decide)) rfl rfl rfl rfl ?_
    refine bgo ?_
    refine b_call (toCase_b c ho) rfl rfl rfl rfl ?_
    refine bgo ?_
    refine b_call hi rfl rfl rfl rfl ?_
    refine bgo ?_
    refine b_call (eqIntS_s []) rfl rfl rfl rfl ?_
    refine bgo ?_
    refine b_call (heldIntS_0 1 (by decide) (by decide)) rfl rfl rfl rfl ?_
    refine bgo ?_
    trivial
  · have hmr := markIntS_r l 1 (by decide) (by omega)
    have hhb := heldIntS_b l.length 1 (by decide) (by omega)
    have hmk : (mkI l.length 1).length = l.length := by simp [mkI]
    generalize mkI l.length 1 = m at *
    have hmn2 : ¬ ((1 : Int) + l.length < 0) := by omega
    have hll : (ints l).length = l.length := by simp [ints]
    refine b_boxed 99 hi .one rfl rfl rfl (fun B => .cons lend3q .nil) rfl (by simpa [ints] using hl) (ints_plain l) rfl ?_
    refine bgo ?_
    refine b_lookb (eqIntS_s l) rfl rfl rfl (.cons (lendR rfl (by first | rfl | exact hll) (ints_one l)) (.cons lendD .nil)) takeB ?_
    refine bgo ?_
    refine b_call (toCase_b c ho) rfl rfl rfl rfl ?_
    refine bgo ?_
    refine b_look (eqCase_s c) rfl rfl (fun B => .cons lend3q (.cons lend3o .nil)) takeB ?_
    refine bgo ?_
    refine wk_unq [(1, .ptr (.t 1) 0), (4, .d (.sl 1 (ints l))), (5, .bool ok), (6, .ptr (.t 6) 0), (7, .rsv (.t 99) 1 l.length), (8, .bool ok), (9, .int 1)] [(.t 1, caseDs c), (.t 6, caseZ c), (.t 99, row (ints l))] ⟨⟨⟨PLe.rfl, rfl⟩, ⟨PLe.own, rfl⟩, ⟨PLe.rfl, rfl⟩, ⟨PLe.rfl, rfl⟩, ⟨PLe.eq (by first | rfl | exact congrArg (PV.rsv (.t 99) 1) hll), rfl⟩, ⟨PLe.rfl, rfl⟩, ⟨PLe.rfl, rfl⟩, trivial⟩, ⟨_, rfl, HasC.same rfl⟩, ⟨_, rfl, HasC.same rfl⟩, ⟨_, rfl, HasC.of (unq_row _) (row_ok _ _)⟩, trivial⟩ ?_
    refine bgo ?_
    refine b_writes hmz rfl rfl rfl rfl ?_
    refine bgo ?_
    refine b_lookb (eqIntS_s l) rfl rfl rfl (.cons (lendR rfl (by simp [ints]) (ints_one l)) (.cons lendD .nil)) takeB ?_
    refine bgo ?_
    refine b_callr hmr rfl rfl (row_pass _) (row_gives _ trivial) rfl rfl rfl rfl rfl ?_
    refine bgo ?_
    refine b_lookb hhb rfl rfl rfl (.cons (lendR rfl (by simp [ints, hmk]) (ints_one m)) (.cons lendD .nil)) takeI ?_
    refine bgo ?_
    refine b_call (toCase_b c ho) rfl rfl rfl rfl ?_
    refine bgo ?_
    refine b_call hi rfl rfl rfl rfl ?_
    refine bgo ?_
    refine b_call (eqIntS_s l) rfl rfl rfl rfl ?_
    refine bgo ?_
    refine b_lookb hhb rfl rfl rfl (.cons (lendR rfl (by simp [ints, hmk]) (ints_one m)) (.cons lendD .nil)) takeI ?_
    refine bgo ?_
    trivial
end Go.Bee.Ar
