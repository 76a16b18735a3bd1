/- Chapter 23: accepted theses, as the code reckons them. -/
import Derived.Test.YtkgjplamdmakpaaGreatDoorBeePa
namespace Go.Bee.C23s
open Go Go.Bee Go.Proofs Go.Bee.Ty Go.Bee.C23
set_option linter.unusedVariables false
theorem eqTh0 : ∀ (a : List UInt8) (b : Bool) (c : List UInt8) (d : Bool), evEq Tryz.prog .eql 30 [.d (.str a), .d (.bool b)] [.d (.str c), .d (.bool d)] = some (.d (.bool (a == c && (b == d && true)))) := fun a b c d => by kernel_rfl
theorem eqTh : ∀ (a : List UInt8) (b : Bool) (c : List UInt8) (d : Bool), evEq Tryz.prog .eql 30 [.d (.str a), .d (.bool b)] [.d (.str c), .d (.bool d)] = some (.d (.bool (decide ((⟨a, b⟩ : Th) = ⟨c, d⟩)))) := fun a b c d => by
  rw [eqTh0]
  congr 3
  by_cases h : a = c <;> by_cases h2 : b = d <;> simp [h, h2]
theorem bTh2 : ∀ (a : List UInt8) (b : Bool), evBuild Tryz.prog 30 [(0, .d (.str a)), (1, .d (.bool b))] = some (.agg [.d (.str a), .d (.bool b)]) := fun a b => by kernel_rfl
theorem bTh1 : ∀ (a : List UInt8), evBuild Tryz.prog 30 [(0, .d (.str a))] = some (.agg [.d (.str a), .d (.bool false)]) := fun a => by kernel_rfl
theorem sTh1 : ∀ (a : List UInt8) (b : Bool), evBuildSlice Tryz.prog 24 1 [(0, .agg [.d (.str a), .d (.bool b)])] = some (.own 30 2 [.agg [.str a, .bool b]]) := fun a b => by kernel_rfl
theorem sTh2 : ∀ (a : List UInt8) (b : Bool) (c : List UInt8) (d : Bool), evBuildSlice Tryz.prog 24 2 [(0, .agg [.d (.str a), .d (.bool b)]), (1, .agg [.d (.str c), .d (.bool d)])] = some (.own 30 2 [.agg [.str a, .bool b], .agg [.str c, .bool d]]) := fun a b c d => by kernel_rfl
end Go.Bee.C23s
namespace Go.Bee.C23a
theorem tys : type_of% (And.intro Go.Bee.C23s.tys (And.intro Go.Bee.C23s.eqTh (And.intro Go.Bee.C23s.bTh2 (And.intro Go.Bee.C23s.bTh1 (And.intro Go.Bee.C23s.sTh1 Go.Bee.C23s.sTh2))))) := And.intro Go.Bee.C23s.tys (And.intro Go.Bee.C23s.eqTh (And.intro Go.Bee.C23s.bTh2 (And.intro Go.Bee.C23s.bTh1 (And.intro Go.Bee.C23s.sTh1 Go.Bee.C23s.sTh2))))
end Go.Bee.C23a
namespace Go.Bee.C23a
open Go Go.Bee Go.Proofs Go.Bee.Ty Go.Bee.C23 Go.Bee.C23s
set_option linter.unusedVariables false
set_option maxRecDepth 20000
attribute [local irreducible] Go.Bee.bwp vName
theorem indexTh_b (l : List Th) (t : Th) : BRet Tryz.prog 105 [] [.d (.sl 2 (l.map Th.e)), .agg [.str t.n, .bool t.g]] (.int (idx (fun x => t == x) l 0)) [] := by
  refine BRet.len 0 (by kernel_rfl) rfl fun hl => ?_
  refine bof Tryz.func105 ?_
  simp only [List.length_map] at hl
  generalize hr : idx (fun x => t == x) l 0 = r
  refine bgo ?_
  refine b_lp (ι := Nat) (fun k => [(0, .d (.sl 2 (l.map Th.e))), (3, .ptr (.t 3) 0), (7, .int l.length), (8, .int k)]) (fun _ => [(.t 3, [.str t.n, .bool t.g])]) (fun k => k ≤ l.length ∧ idx (fun x => t == x) (l.drop k) k = r) (fun k => l.length - k) 0 hs ⟨Nat.zero_le _, hr⟩ ?_
  clear hr
  rintro k ⟨hk, hj⟩ I nx
  by_cases hlt : k < l.length
  · have hx : l[k]? = some l[k] := List.getElem?_eq_getElem hlt
    rw [idx_step hlt] at hj
    by_cases he : t = l[k]
    · rw [if_pos (by simpa using he)] at hj
      have he2 : (⟨t.n, t.g⟩ : Th) = ⟨l[k].n, l[k].g⟩ := he
      subst hj
      clear he nx
      refine bgo ?_
      trivial
    · rw [if_neg (by simpa using he)] at hj
      have he2 : ¬ (⟨t.n, t.g⟩ : Th) = ⟨l[k].n, l[k].g⟩ := he
      have hj2 := hj
      clear he hj
      refine bgo ?_
      exact nx.go (k + 1) ⟨hlt, hj2⟩ (by omega) hs
  · have hk' : k = l.length := by omega
    subst hk'
    rw [List.drop_length] at hj
    subst hj
    refine bgo ?_
    refine wk_rfl ?_
    refine bgo ?_
    rfl
theorem containsTh_b (l : List Th) (t : Th) : BRet Tryz.prog 59 [] [.d (.sl 2 (l.map Th.e)), .agg [.str t.n, .bool t.g]] (.bool (l.contains t)) [] := by
  refine bof Tryz.func59 ?_
  refine bgo ?_
  refine b_call (indexTh_b l t) rfl rfl rfl rfl ?_
  refine bgo ?_
  rw [List.contains_eq_any_beq, ← idx_any _ l 0]
theorem opposite_b (t : Th) : BRet Tryz.prog 95 [] [.agg [.str t.n, .bool t.g]] (.agg [.str t.n, .bool (!t.g)]) [] := by
  refine bof Tryz.func95 ?_
  refine bgo ?_
  trivial
theorem f133_b (t : Th) (acc : List Th) : BRet Tryz.prog 133 [] [.agg [.str t.n, .bool t.g], .eptr [.sl 2 (acc.map Th.e)]] (.bool (acc.contains t)) [] := by
  refine bof Tryz.func133 ?_
  refine bgo ?_
  refine b_call (containsTh_b acc t) rfl rfl rfl rfl ?_
  refine bgo ?_
  trivial
theorem f134_b (t : Th) (acc : List Th) : BRet Tryz.prog 134 [] [.agg [.str t.n, .bool t.g], .efn (Kof (fun _ : Th => True) Th.e (fun t => acc.contains t))] (.bool (!acc.contains t)) [] := by
  refine bof Tryz.func134 ?_
  refine bgo ?_
  refine b_fnb [Th.e t] rfl rfl rfl (Kof_e Th.inj _ t trivial) ?_
  refine bgo ?_
  trivial
theorem isApplicable_b (r : Ru) (acc : List Th) : BRet Tryz.prog 88 [] [.agg [.d (.sl 2 (r.ps.map Th.e)), .d (.sl 2 (r.es.map Th.e)), .str r.c.n, .bool r.c.g, .int r.wt], .d (.sl 2 (acc.map Th.e))] (.bool (appl acc r)) [] := by
  refine bof Tryz.func88 ?_
  refine bgo ?_
  refine b_callc2 (containsFuncThesis_b (fun _ => True) r.ps (fun _ _ => trivial) (fun t => !acc.contains t)) rfl rfl rfl rfl
    (by exact Kof_okR (.cons _ _ _ _ (.fn (.t 5) _ _ _ rfl (Kof_ok0 (ok := fun _ : Th => True) (e := Th.e) (p := fun t => acc.contains t) (cs := [.eptr [.sl 2 (acc.map Th.e)]]) rfl (by kernel_rfl) fun t _ => f133_b t acc)) .nil) (by kernel_rfl) fun t _ => f134_b t acc) rfl ?_
  have ha : appl acc r = (!(r.ps.any fun t => !acc.contains t) && !(r.es.any fun t => acc.contains t)) := rfl
  rw [ha]
  clear ha
  cases r.ps.any fun t => !acc.contains t
  · refine bgo ?_
    refine b_callc2 (containsFuncThesis_b (fun _ => True) r.es (fun _ _ => trivial) (fun t => acc.contains t)) rfl rfl rfl rfl
      (by exact Kof_ok (cs := [.eptr [.sl 2 (acc.map Th.e)]]) rfl (by kernel_rfl) fun t _ => f133_b t acc) rfl ?_
    refine bgo ?_
    trivial
  · refine bgo ?_
    trivial
theorem greatestWeight_b (c : Cs) (t : Th) (acc : List Th) : BRet Tryz.prog 94 [] [.agg [.d (.sl 2 (c.fs.map Th.e)), .d (.sl 5 (c.rs.map Ru.e)), .d (.sl 2 (c.ss.map Sd.e))], .agg [.str t.n, .bool t.g], .d (.sl 2 (acc.map Th.e))] (.int (wt c acc t)) [] := by
  refine BRet.alen 0 1 (by kernel_rfl) rfl rfl fun hl => ?_
  refine bof Tryz.func94 ?_
  simp only [List.length_map] at hl
  generalize hr : wt c acc t = res
  unfold wt at hr
  refine bgo ?_
  refine b_lp (ι := Nat × Int) (fun i => [(2, .d (.sl 2 (acc.map Th.e))), (4, .ptr (.t 4) 0), (7, .int i.2), (11, .d (.sl 5 (c.rs.map Ru.e))), (12, .int c.rs.length), (13, .int i.1)]) (fun _ => [(.t 4, [.str t.n, .bool t.g])])
    (fun i => i.1 ≤ c.rs.length ∧ (c.rs.drop i.1).foldl (wtF acc t) i.2 = res) (fun i => c.rs.length - i.1) (0, 0) hs ⟨Nat.zero_le _, hr⟩ ?_
  clear hr
  rintro ⟨k, m⟩ ⟨hk, hj⟩ I nx
  dsimp only at hk hj ⊢
  by_cases hlt : k < c.rs.length
  · have hx : c.rs[k]? = some c.rs[k] := List.getElem?_eq_getElem hlt
    rw [List.drop_eq_getElem_cons hlt, List.foldl_cons] at hj
    have hw : wtF acc t m c.rs[k] = if (decide (c.rs[k].c = t) && appl acc c.rs[k]) = true then max m c.rs[k].wt else m := rfl
    generalize wtF acc t m c.rs[k] = m2 at hj hw
    by_cases he : c.rs[k].c = t
    · have he2 : (⟨c.rs[k].c.n, c.rs[k].c.g⟩ : Th) = ⟨t.n, t.g⟩ := he
      rw [decide_eq_true he, Bool.true_and] at hw
      have hj2 := hj
      clear he hj
      refine bgo ?_
      refine b_call (isApplicable_b c.rs[k] acc) rfl rfl rfl rfl ?_
      cases ha : appl acc c.rs[k]
      · rw [ha] at hw
        simp only [Bool.false_eq_true, if_false] at hw
        subst hw
        refine bgo ?_
        exact nx.go (k + 1, m2) ⟨hlt, hj2⟩ (by dsimp only; omega) hs
      · rw [ha] at hw
        simp only [if_true] at hw
        subst hw
        refine bgo ?_
        exact nx.go (k + 1, max m c.rs[k].wt) ⟨hlt, hj2⟩ (by dsimp only; omega) hs
    · have he2 : ¬ (⟨c.rs[k].c.n, c.rs[k].c.g⟩ : Th) = ⟨t.n, t.g⟩ := he
      rw [decide_eq_false he, Bool.false_and] at hw
      simp only [Bool.false_eq_true, if_false] at hw
      subst hw
      have hj2 := hj
      clear he hj
      refine bgo ?_
      exact nx.go (k + 1, m2) ⟨hlt, hj2⟩ (by dsimp only; omega) hs
  · have hk' : k = c.rs.length := by omega
    subst hk'
    rw [List.drop_length] at hj
    have hm : m = res := hj
    subst hm
    refine bgo ?_
    refine wk_rfl ?_
    refine bgo ?_
    trivial
theorem isConvincing_b (c : Cs) (t : Th) (acc : List Th) (hw : ∀ r ∈ c.rs, 1 ≤ r.wt ∧ r.wt ≤ 1000) : BRet Tryz.prog 106 [] [.agg [.d (.sl 2 (c.fs.map Th.e)), .d (.sl 5 (c.rs.map Ru.e)), .d (.sl 2 (c.ss.map Sd.e))], .agg [.str t.n, .bool t.g], .d (.sl 2 (acc.map Th.e))] (.bool (convI c acc t)) [] := by
  refine BRet.alen 0 2 (by kernel_rfl) rfl rfl fun hl => ?_
  refine bof Tryz.func106 ?_
  simp only [List.length_map] at hl
  generalize hr : convI c acc t = res
  unfold convI kindI at hr
  have hp := wt_in hw acc t
  have hq := wt_in hw acc (opp t)
  refine bgo ?_
  refine b_call (greatestWeight_b c t acc) rfl rfl rfl rfl ?_
  refine bgo ?_
  refine b_call (opposite_b t) rfl rfl rfl rfl ?_
  refine bgo ?_
  refine b_call (greatestWeight_b c (opp t) acc) rfl rfl rfl rfl ?_
  generalize wt c acc t = p at *
  generalize wt c acc (opp t) = q at *
  refine bgo ?_
  refine b_lp (ι := Nat × Int) (fun i => [(4, .ptr (.t 4) 0), (7, .int p), (8, .int q), (9, .int i.2), (22, .d (.sl 2 (c.ss.map Sd.e))), (23, .int c.ss.length), (24, .int i.1)]) (fun _ => [(.t 4, [.str t.n, .bool t.g])])
    (fun i => i.1 ≤ c.ss.length ∧ conv ((c.ss.drop i.1).foldl (kindF t.n) i.2) p q = res) (fun i => c.ss.length - i.1) (0, 2) hs ⟨Nat.zero_le _, hr⟩ ?_
  clear hr
  rintro ⟨k, m⟩ ⟨hk, hj⟩ I nx
  dsimp only at hk hj ⊢
  by_cases hlt : k < c.ss.length
  · have hx : c.ss[k]? = some c.ss[k] := List.getElem?_eq_getElem hlt
    rw [List.drop_eq_getElem_cons hlt, List.foldl_cons] at hj
    have hw : kindF t.n m c.ss[k] = if c.ss[k].n = t.n then c.ss[k].k else m := rfl
    generalize kindF t.n m c.ss[k] = m2 at hj hw
    have hj2 := hj
    clear hj
    by_cases he : c.ss[k].n = t.n
    · rw [if_pos he] at hw
      subst hw
      have heb : (c.ss[k].n == t.n) = true := by simpa using he
      clear he
      refine bgo ?_
      exact nx.go (k + 1, c.ss[k].k) ⟨hlt, hj2⟩ (by dsimp only; omega) hs
    · rw [if_neg he] at hw
      subst hw
      have heb : (c.ss[k].n == t.n) = false := by simpa using he
      clear he
      refine bgo ?_
      exact nx.go (k + 1, m2) ⟨hlt, hj2⟩ (by dsimp only; omega) hs
  · have hk' : k = c.ss.length := by omega
    subst hk'
    rw [List.drop_length, List.foldl_nil] at hj
    have hj2 := hj
    clear hj nx
    refine bgo ?_
    refine wk_mk [(7, .int p), (8, .int q), (9, .int m)] [] hs ?_
    subst hj2
    unfold conv
    by_cases h0 : p = 0
    · subst h0
      refine bgo ?_
      trivial
    rw [if_neg h0]
    by_cases h1 : m = 1
    · subst h1
      refine bgo ?_
      trivial
    rw [if_neg h1]
    by_cases h2 : m = 2
    · subst h2
      refine bgo ?_
      trivial
    rw [if_neg h2]
    by_cases h3 : m = 3
    · subst h3
      by_cases h4 : p ≥ 500
      · refine bgo ?_
        trivial
      · refine bgo ?_
        trivial
    · rw [if_neg h3]
      by_cases h4 : p ≥ 500
      · by_cases h5 : p - q ≥ 200
        · refine bgo ?_
          trivial
        · refine bgo ?_
          trivial
      · refine bgo ?_
        trivial
end Go.Bee.C23a
