/- Chapter 23: accepted theses, as the model reckons them. -/
import Derived.Test.YtkgjplamdmakpaaGreatDoorBeeAj
namespace Go.Bee.C23a
open Go Go.Bee Go.Proofs Go.Bee.Ty Go.Bee.C23 Go.Bee.C23s
set_option linter.unusedVariables false
set_option maxRecDepth 20000
attribute [local irreducible] Go.Bee.bwp vName
theorem specOpp_b (t : Th) : BRet Tryz.prog 97 [] [.agg [.str t.n, .bool t.g]] (.agg [.str t.n, .bool (!t.g)]) [] := by
  refine bof Tryz.func97 ?_
  refine bgo ?_
  trivial
theorem contains_drop {l : List Th} {t : Th} {k : Nat} (hk : k < l.length) : (l.drop k).contains t = (decide (t = l[k]) || (l.drop (k + 1)).contains t) := by
  rw [List.drop_eq_getElem_cons hk, List.contains_cons]
  congr 1
theorem l23Has_b (l : List Th) (t : Th) : BRet Tryz.prog 64 [] [.d (.sl 2 (l.map Th.e)), .agg [.str t.n, .bool t.g]] (.bool (l.contains t)) [] := by
  refine BRet.len 0 (by kernel_rfl) rfl fun hl => ?_
  refine bof Tryz.func64 ?_
  simp only [List.length_map] at hl
  generalize hr : l.contains t = r
  refine bgo ?_
  refine b_lp (ι := Nat) (fun k => [(0, .d (.sl 2 (l.map Th.e))), (3, .ptr (.t 3) 0), (5, .int k)]) (fun _ => [(.t 3, [.str t.n, .bool t.g])]) (fun k => k ≤ l.length ∧ (l.drop k).contains t = r) (fun k => l.length - k) 0 hs ⟨Nat.zero_le _, hr⟩ ?_
  clear hr
  rintro k ⟨hk, hj⟩ I nx
  by_cases hlt : k < l.length
  · have hx : l[k]? = some l[k] := List.getElem?_eq_getElem hlt
    rw [contains_drop hlt] at hj
    by_cases he : t = l[k]
    · rw [decide_eq_true he, Bool.true_or] at hj
      have he2 : (⟨l[k].n, l[k].g⟩ : Th) = ⟨t.n, t.g⟩ := he.symm
      subst hj
      clear he nx
      refine bgo ?_
      trivial
    · rw [decide_eq_false he, Bool.false_or] at hj
      have he2 : ¬ (⟨l[k].n, l[k].g⟩ : Th) = ⟨t.n, t.g⟩ := fun e => he (Eq.symm e)
      have hj2 := hj
      clear he hj
      refine bgo ?_
      exact nx.go (k + 1) ⟨hlt, hj2⟩ (by omega) hs
  · have hk' : k = l.length := by omega
    subst hk'
    rw [List.drop_length] at hj
    subst hj
    refine bgo ?_
    refine wk_rfl ?_
    refine bgo ?_
    trivial
theorem l23Applies_b (r : Ru) (acc : List Th) : BRet Tryz.prog 89 [] [.agg [.d (.sl 2 (r.ps.map Th.e)), .d (.sl 2 (r.es.map Th.e)), .str r.c.n, .bool r.c.g, .int r.wt], .d (.sl 2 (acc.map Th.e))] (.bool (appl acc r)) [] := by
  refine BRet.alen 0 0 (by kernel_rfl) rfl rfl fun hl => ?_
  refine BRet.alen 0 1 (by kernel_rfl) rfl rfl fun hl2 => ?_
  refine bof Tryz.func89 ?_
  simp only [List.length_map] at hl hl2
  have hr : appl acc r = ((r.ps.all fun t => acc.contains t) && (r.es.all fun t => !acc.contains t)) := by
    unfold appl
    rw [List.any_eq_not_all_not, List.any_eq_not_all_not]; simp
  generalize appl acc r = res at *
  have hr1 : (r.ps.all fun t => acc.contains t) = false → res = false := fun e => by rw [hr, e]; rfl
  have hr3 : (r.ps.all fun t => acc.contains t) = true → res = (r.es.all fun t => !acc.contains t) := fun e => by rw [hr, e]; rfl
  clear hr
  refine bgo ?_
  refine b_lp (ι := Nat) (fun k => [(1, .d (.sl 2 (acc.map Th.e))), (2, .ptr (.t 2) 0), (5, .int k)]) (fun _ => [(.t 2, [.d (.sl 2 (r.ps.map Th.e)), .d (.sl 2 (r.es.map Th.e)), .str r.c.n, .bool r.c.g, .int r.wt])])
    (fun k => k ≤ r.ps.length ∧ ((r.ps.take k).all fun t => acc.contains t) = true) (fun k => r.ps.length - k) 0 hs ⟨Nat.zero_le _, rfl⟩ ?_
  rintro k ⟨hk, hj⟩ I nx
  by_cases hlt : k < r.ps.length
  · have hx : r.ps[k]? = some r.ps[k] := List.getElem?_eq_getElem hlt
    have hst := all_step (p := fun t => acc.contains t) hlt hj
    have hbd := all_bad (p := fun t => acc.contains t) hlt
    clear hj hr3
    refine bgo ?_
    refine b_call (l23Has_b acc r.ps[k]) rfl rfl rfl rfl ?_
    cases ha : acc.contains r.ps[k]
    · have hz := hr1 (hbd ha)
      clear hst hbd hr1
      subst hz
      refine bgo ?_
      trivial
    · have := hst ha
      clear hst hbd hr1
      refine bgo ?_
      exact nx.go (k + 1) ⟨hlt, this⟩ (by omega) hs
  have hk' : k = r.ps.length := by omega
  subst hk'
  rw [List.take_length] at hj
  have hr4 := hr3 hj
  have hr5 : (r.es.all fun t => !acc.contains t) = false → res = false := fun e => by rw [hr4, e]
  have hr6 : (r.es.all fun t => !acc.contains t) = true → res = true := fun e => by rw [hr4, e]
  clear hj hlt hk nx hr1 hr3 hr4
  refine bgo ?_
  refine wk_rfl ?_
  refine bgo ?_
  refine b_lp (ι := Nat) (fun k => [(1, .d (.sl 2 (acc.map Th.e))), (2, .ptr (.t 2) 0), (6, .int k)]) (fun _ => [(.t 2, [.d (.sl 2 (r.ps.map Th.e)), .d (.sl 2 (r.es.map Th.e)), .str r.c.n, .bool r.c.g, .int r.wt])])
    (fun k => k ≤ r.es.length ∧ ((r.es.take k).all fun t => !acc.contains t) = true) (fun k => r.es.length - k) 0 hs ⟨Nat.zero_le _, rfl⟩ ?_
  clear I
  rintro k ⟨hk, hj⟩ I nx
  by_cases hlt : k < r.es.length
  · have hx : r.es[k]? = some r.es[k] := List.getElem?_eq_getElem hlt
    have hst := all_step (p := fun t => !acc.contains t) hlt hj
    have hbd := all_bad (p := fun t => !acc.contains t) hlt
    clear hj hr6
    refine bgo ?_
    refine b_call (l23Has_b acc r.es[k]) rfl rfl rfl rfl ?_
    cases ha : acc.contains r.es[k]
    · have := hst (by rw [ha]; rfl)
      clear hst hbd hr5
      refine bgo ?_
      exact nx.go (k + 1) ⟨hlt, this⟩ (by omega) hs
    · have hz := hr5 (hbd (by rw [ha]; rfl))
      clear hst hbd hr5
      subst hz
      refine bgo ?_
      trivial
  have hk' : k = r.es.length := by omega
  subst hk'
  rw [List.take_length] at hj
  have hz := hr6 hj
  clear hj hlt hk nx hr5 hr6
  subst hz
  refine bgo ?_
  refine wk_rfl ?_
  refine bgo ?_
  trivial
theorem l1Most_b (a b : Int) : BRet Tryz.prog 137 [] [.int a, .int b] (.int (max a b)) [] := by
  refine bof Tryz.func137 ?_
  by_cases h : a > b
  · rw [Int.max_eq_left (by omega)]
    refine bgo ?_
    trivial
  · rw [Int.max_eq_right (by omega)]
    refine bgo ?_
    trivial
theorem l23Weight_b (c : Cs) (t : Th) (acc : List Th) : BRet Tryz.prog 96 [] [.agg [.d (.sl 2 (c.fs.map Th.e)), .d (.sl 5 (c.rs.map Ru.e)), .d (.sl 2 (c.ss.map Sd.e))], .agg [.str t.n, .bool t.g], .d (.sl 2 (acc.map Th.e))] (.int (wt c acc t)) [] := by
  refine BRet.alen 0 1 (by kernel_rfl) rfl rfl fun hl => ?_
  refine bof Tryz.func96 ?_
  simp only [List.length_map] at hl
  generalize hr : wt c acc t = res
  unfold wt at hr
  refine bgo ?_
  refine b_lp (ι := Nat × Int) (fun i => [(2, .d (.sl 2 (acc.map Th.e))), (3, .ptr (.t 3) 0), (4, .ptr (.t 4) 0), (7, .int i.2), (8, .int i.1)]) (fun _ => [(.t 3, [.d (.sl 2 (c.fs.map Th.e)), .d (.sl 5 (c.rs.map Ru.e)), .d (.sl 2 (c.ss.map Sd.e))]), (.t 4, [.str t.n, .bool t.g])])
    (fun i => i.1 ≤ c.rs.length ∧ (c.rs.drop i.1).foldl (wtF acc t) i.2 = res) (fun i => c.rs.length - i.1) (0, 0) hs ⟨Nat.zero_le _, hr⟩ ?_
  clear hr
  rintro ⟨k, m⟩ ⟨hk, hj⟩ I nx
  dsimp only at hk hj ⊢
  by_cases hlt : k < c.rs.length
  · have hx : c.rs[k]? = some c.rs[k] := List.getElem?_eq_getElem hlt
    rw [List.drop_eq_getElem_cons hlt, List.foldl_cons] at hj
    have hw : wtF acc t m c.rs[k] = if (decide (c.rs[k].c = t) && appl acc c.rs[k]) = true then max m c.rs[k].wt else m := rfl
    generalize wtF acc t m c.rs[k] = m2 at hj hw
    by_cases he : c.rs[k].c = t
    · have he2 : (⟨c.rs[k].c.n, c.rs[k].c.g⟩ : Th) = ⟨t.n, t.g⟩ := he
      rw [decide_eq_true he, Bool.true_and] at hw
      have hj2 := hj
      clear he hj
      refine bgo ?_
      refine b_call (l23Applies_b c.rs[k] acc) rfl rfl rfl rfl ?_
      cases ha : appl acc c.rs[k]
      · rw [ha] at hw
        simp only [Bool.false_eq_true, if_false] at hw
        subst hw
        refine bgo ?_
        exact nx.go (k + 1, m2) ⟨hlt, hj2⟩ (by dsimp only; omega) hs
      · rw [ha] at hw
        simp only [if_true] at hw
        subst hw
        refine bgo ?_
        refine b_call (l1Most_b m c.rs[k].wt) rfl rfl rfl rfl ?_
        refine bgo ?_
        exact nx.go (k + 1, max m c.rs[k].wt) ⟨hlt, hj2⟩ (by dsimp only; omega) hs
    · have he2 : ¬ (⟨c.rs[k].c.n, c.rs[k].c.g⟩ : Th) = ⟨t.n, t.g⟩ := he
      rw [decide_eq_false he, Bool.false_and] at hw
      simp only [Bool.false_eq_true, if_false] at hw
      subst hw
      have hj2 := hj
      clear he hj
      refine bgo ?_
      exact nx.go (k + 1, m2) ⟨hlt, hj2⟩ (by dsimp only; omega) hs
  · have hk' : k = c.rs.length := by omega
    subst hk'
    rw [List.drop_length] at hj
    have hm : m = res := hj
    subst hm
    refine bgo ?_
    refine wk_rfl ?_
    refine bgo ?_
    trivial
def sdk : Option Sd → Int
  | some s => s.k
  | none => 2
theorem kindS_eq (c : Cs) (n : List UInt8) : kindS c n = sdk (c.ss.find? fun s => s.n == n) := by
  unfold kindS
  cases c.ss.find? fun s => s.n == n <;> rfl
theorem append_th2 (out : List Th) (n : List UInt8) (g : Bool) : out.map Th.e ++ [.agg [.str n, .bool g]] = (out ++ [(⟨n, g⟩ : Th)]).map Th.e := append_th out ⟨n, g⟩
theorem l23Standard_b (c : Cs) (n : List UInt8) : BRet Tryz.prog 111 [] [.agg [.d (.sl 2 (c.fs.map Th.e)), .d (.sl 5 (c.rs.map Ru.e)), .d (.sl 2 (c.ss.map Sd.e))], .str n] (.int (kindS c n)) [] := by
  refine BRet.alen 0 2 (by kernel_rfl) rfl rfl fun hl => ?_
  refine bof Tryz.func111 ?_
  simp only [List.length_map] at hl
  rw [kindS_eq]
  generalize hr : sdk (c.ss.find? fun s => s.n == n) = res
  refine bgo ?_
  refine b_lp (ι := Nat) (fun k => [(1, .str n), (2, .ptr (.t 2) 0), (5, .int k)]) (fun _ => [(.t 2, [.d (.sl 2 (c.fs.map Th.e)), .d (.sl 5 (c.rs.map Ru.e)), .d (.sl 2 (c.ss.map Sd.e))])])
    (fun k => k ≤ c.ss.length ∧ sdk ((c.ss.drop k).find? fun s => s.n == n) = res) (fun k => c.ss.length - k) 0 hs ⟨Nat.zero_le _, hr⟩ ?_
  clear hr
  rintro k ⟨hk, hj⟩ I nx
  by_cases hlt : k < c.ss.length
  · have hx : c.ss[k]? = some c.ss[k] := List.getElem?_eq_getElem hlt
    rw [find_step1 hlt] at hj
    cases he : c.ss[k].n == n
    · rw [he] at hj
      have hj2 := hj
      clear hj
      refine bgo ?_
      exact nx.go (k + 1) ⟨hlt, hj2⟩ (by omega) hs
    · rw [he] at hj
      have hj2 : c.ss[k].k = res := hj
      subst hj2
      clear hj nx
      refine bgo ?_
      trivial
  · have hk' : k = c.ss.length := by omega
    subst hk'
    rw [List.drop_length] at hj
    have hj2 : 2 = res := hj
    subst hj2
    clear hj nx
    refine bgo ?_
    refine wk_rfl ?_
    refine bgo ?_
    trivial
theorem l23Meets_b (m p q : Int) (hp : 0 ≤ p ∧ p ≤ 1000) (hq : 0 ≤ q ∧ q ≤ 1000) : BRet Tryz.prog 112 [] [.int m, .int p, .int q] (.bool (meets m p q)) [] := by
  refine bof Tryz.func112 ?_
  unfold meets
  by_cases h1 : m = 1
  · subst h1
    refine bgo ?_
    trivial
  rw [if_neg h1]
  by_cases h2 : m = 2
  · subst h2
    by_cases h0 : p > 0
    · refine bgo ?_
      trivial
    · refine bgo ?_
      trivial
  rw [if_neg h2]
  by_cases h3 : m = 3
  · subst h3
    by_cases h4 : p ≥ 500
    · refine bgo ?_
      trivial
    · refine bgo ?_
      trivial
  · rw [if_neg h3]
    by_cases h4 : p ≥ 500
    · by_cases h5 : p - q ≥ 200
      · refine bgo ?_
        trivial
      · refine bgo ?_
        trivial
    · refine bgo ?_
      trivial
theorem stepS_len (c : Cs) (out : List Th) (n : List UInt8) : (stepS c out n).length ≤ out.length + 1 := by
  unfold stepS; repeat' split
  all_goals simp
theorem l23Accepted_b (c : Cs) (h : Fine c) : BRet Tryz.prog 65 [] [.agg [.d (.sl 2 (c.fs.map Th.e)), .d (.sl 5 (c.rs.map Ru.e)), .d (.sl 2 (c.ss.map Sd.e))]] (.own 30 2 ((accS c).map Th.e)) [] := by
  refine bof Tryz.func65 ?_
  refine bgo ?_
  have hn2 := put_le c h.n
  have hd := l23Order_b c h.n h.ru hn2
  refine b_call hd rfl rfl rfl rfl ?_
  have hol : (orderS c).length ≤ 1048576 := by
    have := goS_len c (names2 c) (names2 c).length []
    unfold orderS; simp at this; omega
  generalize ho : accS c = res
  unfold accS at ho
  clear hd hn2
  generalize orderS c = o at *
  refine bgo ?_
  refine b_lp (ι := Nat × List Th) (fun i => [(1, .ptr (.t 1) 0), (3, .own 30 2 (i.2.map Th.e)), (4, .own 9 1 (o.map .str)), (5, .int i.1)]) (fun _ => [(.t 1, [.d (.sl 2 (c.fs.map Th.e)), .d (.sl 5 (c.rs.map Ru.e)), .d (.sl 2 (c.ss.map Sd.e))])])
    (fun i => i.1 ≤ o.length ∧ i.2.length ≤ i.1 ∧ (o.drop i.1).foldl (stepS c) i.2 = res) (fun i => o.length - i.1) (0, []) hs ⟨Nat.zero_le _, Nat.le_refl _, ho⟩ ?_
  clear ho
  rintro ⟨k, out⟩ ⟨hk, hl, hj⟩ I nx
  dsimp only at hk hl hj ⊢
  by_cases hlt : k < o.length
  · have hx : o[k]? = some o[k] := List.getElem?_eq_getElem hlt
    rw [List.drop_eq_getElem_cons hlt, List.foldl_cons] at hj
    have hsl := stepS_len c out o[k]
    generalize hst : stepS c out o[k] = out2 at *
    unfold stepS at hst
    have hout : out.length ≤ 1048576 := by omega
    have hj2 := hj
    clear hj
    generalize o[k] = n at *
    refine bgo ?_
    refine b_call (specOpp_b ⟨n, false⟩) rfl rfl rfl rfl ?_
    refine bgo ?_
    refine b_call (l23Has_b c.fs ⟨n, false⟩) rfl rfl rfl rfl ?_
    cases ha : c.fs.contains (⟨n, false⟩ : Th)
    · rw [ha] at hst
      simp only [Bool.false_eq_true, if_false] at hst
      refine bgo ?_
      refine b_call (l23Has_b c.fs ⟨n, true⟩) rfl rfl rfl rfl ?_
      cases hb : c.fs.contains (⟨n, true⟩ : Th)
      · rw [hb] at hst
        simp only [Bool.false_eq_true, if_false] at hst
        have hp := wt_in h.wt out ⟨n, false⟩
        have hq := wt_in h.wt out ⟨n, true⟩
        refine bgo ?_
        refine b_call (l23Weight_b c ⟨n, false⟩ out) rfl rfl rfl rfl ?_
        refine bgo ?_
        refine b_call (l23Weight_b c ⟨n, true⟩ out) rfl rfl rfl rfl ?_
        refine bgo ?_
        refine b_call (l23Standard_b c n) rfl rfl rfl rfl ?_
        generalize kindS c n = kd at *
        generalize wt c out ⟨n, false⟩ = p at *
        generalize wt c out ⟨n, true⟩ = q at *
        refine bgo ?_
        refine b_call (l23Meets_b kd p q hp hq) rfl rfl rfl rfl ?_
        refine bgo ?_
        refine b_call (l23Meets_b kd q p hq hp) rfl rfl rfl rfl ?_
        generalize meets kd p q = x at *
        generalize meets kd q p = y at *
        cases x <;> cases y <;> simp only [Bool.false_and, Bool.true_and, Bool.not_false, Bool.not_true, Bool.false_eq_true, if_false, if_true] at hst <;> subst hst
        · refine bgo ?_
          exact nx.go (k + 1, out) ⟨hlt, by dsimp only; omega, hj2⟩ (by dsimp only; omega) hs
        · refine bgo ?_
          rw [append_th2 out n true]
          exact nx.go (k + 1, out ++ [⟨n, true⟩]) ⟨hlt, by simp; omega, hj2⟩ (by dsimp only; omega) hs
        · refine bgo ?_
          rw [append_th2 out n false]
          exact nx.go (k + 1, out ++ [⟨n, false⟩]) ⟨hlt, by simp; omega, hj2⟩ (by dsimp only; omega) hs
        · refine bgo ?_
          exact nx.go (k + 1, out) ⟨hlt, by dsimp only; omega, hj2⟩ (by dsimp only; omega) hs
      · rw [hb] at hst
        simp only [if_true] at hst
        subst hst
        refine bgo ?_
        rw [append_th2 out n true]
        exact nx.go (k + 1, out ++ [⟨n, true⟩]) ⟨hlt, by simp; omega, hj2⟩ (by dsimp only; omega) hs
    · rw [ha] at hst
      simp only [if_true] at hst
      subst hst
      refine bgo ?_
      rw [append_th2 out n false]
      exact nx.go (k + 1, out ++ [⟨n, false⟩]) ⟨hlt, by simp; omega, hj2⟩ (by dsimp only; omega) hs
  · have hk' : k = o.length := by omega
    subst hk'
    rw [List.drop_length] at hj
    have hm : out = res := hj
    subst hm
    refine bgo ?_
    refine wk_rfl ?_
    refine bgo ?_
    trivial
end Go.Bee.C23a
