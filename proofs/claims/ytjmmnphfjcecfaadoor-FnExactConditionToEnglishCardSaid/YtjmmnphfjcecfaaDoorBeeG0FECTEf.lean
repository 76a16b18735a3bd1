/-
The logic and the walks, part 6. No condition.
-/
import Derived.Test.YtjmmnphfjcecfaaDoorBeeG0FECTEe
/- Conditions: the laws' sizes, copies and comparison. -/
namespace Go.Bee.C24n
open Go Go.Bee Go.Proofs Go.Bee.Ty Go.Bee.Cn
theorem bPk : evBuildSlice Tryd.prog 72 7 [(0, .d (.int .i64 (-1))), (1, .d (.int .i64 0)), (2, .d (.int .i64 0)), (3, .d (.int .i64 0)), (4, .d (.int .i64 1)), (5, .d (.int .i64 2)), (6, .d (.int .i64 2))] = some (.own 3 1 [.int .i64 (-1), .int .i64 0, .int .i64 0, .int .i64 0, .int .i64 1, .int .i64 2, .int .i64 2]) := by kernel_rfl
theorem tys : type_of% (And.intro Go.Bee.C24d.tys (And.intro Cd.e_eq bPk)) := And.intro Go.Bee.C24d.tys (And.intro Cd.e_eq bPk)
end Go.Bee.C24n
namespace Go.Bee.C24n
open Go Go.Bee Go.Proofs Go.Bee.Ty Go.Bee.C23 Go.Bee.C23s Go.Bee.Da Go.Bee.C24 Go.Bee.C24c Go.Bee.C24d Go.Bee.Cn
set_option linter.unusedVariables false
set_option maxRecDepth 20000
attribute [local irreducible] Go.Bee.bwp
theorem szConditionS_b (l : List Cd) (ih : ∀ c ∈ l, ∀ x : Int, 0 ≤ x → x ≤ 1048576 → BRet Tryd.prog 12 [] [.agg [.int c.op, .str c.nm, .int c.dy, .d (.sl 4 (c.ps.map Cd.e))], .int x] (.int (szC c x)) [])
    (x : Int) (h0 : 0 ≤ x) (hx : x ≤ 1048576) : BRet Tryd.prog 23 [] [.d (.sl 4 (l.map Cd.e)), .int x] (.int (szL szC l x)) [] := by
  refine BRet.len 0 (by kernel_rfl) rfl fun hl => ?_
  simp only [List.length_map] at hl
  refine bof Tryd.func23 ?_
  generalize hr : szL szC l x = r
  unfold szL at hr
  by_cases hneg : x - (l.length : Int) < 0
  · rw [if_pos hneg] at hr
    subst hr
    refine bgo ?_
    trivial
  · rw [if_neg hneg] at hr
    refine bgo ?_
    refine b_lp (ι := Nat × Int) (fun i => [(0, .d (.sl 4 (l.map Cd.e))), (1, .int i.2), (5, .int i.1)]) (fun _ => []) (fun i => i.1 ≤ l.length ∧ 0 ≤ i.2 ∧ i.2 ≤ x ∧ szF szC (l.drop i.1) i.2 = r) (fun i => l.length - i.1) (0, x - l.length) hs ⟨Nat.zero_le _, by dsimp only; omega, by dsimp only; omega, hr⟩ ?_
    clear hr
    rintro ⟨k, y⟩ ⟨hk, hy0, hyx, hj⟩ I nx
    dsimp only at hk hy0 hyx hj ⊢
    by_cases hlt : k < l.length
    · have hx : l[k]? = some l[k] := List.getElem?_eq_getElem hlt
      have hc := ih l[k] (List.getElem_mem hlt) y hy0 (by omega)
      have hn := szC_nice l[k] y hy0
      rw [szF_step hlt] at hj
      have hb : (k : Int) + 1 ≤ 1099511627776000 := by omega
      generalize hgs : l[k] = s at *
      generalize szC s y = z at *
      clear ih
      by_cases hb2 : z < 0
      · rw [if_pos hb2] at hj
        subst hj
        refine bgo ?_
        refine b_call hc rfl rfl rfl rfl ?_
        refine bgo ?_
        trivial
      · rw [if_neg hb2] at hj
        refine bgo ?_
        refine b_call hc rfl rfl rfl rfl ?_
        refine bgo ?_
        exact nx.go (k + 1, z) ⟨hlt, by dsimp only; omega, by dsimp only; omega, hj⟩ (by dsimp only; omega) hs
    · have hk' : k = l.length := by omega
      subst hk'
      rw [List.drop_length] at hj
      have hj2 : y = r := hj
      subst hj2
      clear hj ih
      refine bgo ?_
      refine wk_rfl ?_
      refine bgo ?_
      trivial
theorem szCondition_b (c : Cd) : ∀ x : Int, 0 ≤ x → x ≤ 1048576 → BRet Tryd.prog 12 [] [.agg [.int c.op, .str c.nm, .int c.dy, .d (.sl 4 (c.ps.map Cd.e))], .int x] (.int (szC c x)) [] := by
  refine Cd.ind (P := fun c => ∀ x : Int, 0 ≤ x → x ≤ 1048576 → BRet Tryd.prog 12 [] [.agg [.int c.op, .str c.nm, .int c.dy, .d (.sl 4 (c.ps.map Cd.e))], .int x] (.int (szC c x)) []) (fun c ih x h0 hx => ?_) c
  refine BRet.aslen 0 1 (by kernel_rfl) rfl rfl fun hl => ?_
  have hc := fun h1 => szConditionS_b c.ps ih (x - c.nm.length) h1 (by omega)
  have hn := szL_nice szC_nice c.ps (x - c.nm.length)
  rw [szC_eq]
  clear ih
  refine bof Tryd.func12 ?_
  generalize c.op = o at *
  generalize c.nm = n at *
  generalize c.dy = d at *
  generalize c.ps = ps at *
  by_cases h : x - (n.length : Int) < 0
  · rw [if_pos h]
    refine bgo ?_
    trivial
  · rw [if_neg h]
    have hc := hc (by omega)
    have hn := hn (by omega)
    generalize szL szC ps (x - (n.length : Int)) = z at *
    refine bgo ?_
    refine b_call hc rfl rfl rfl rfl ?_
    by_cases hz : z < 0
    · obtain rfl : z = -1 := by omega
      refine bgo ?_
      trivial
    · refine bgo ?_
      trivial
def Cd.z : List PV := [.int 0, .d (.str []), .int 0, .nilS]
theorem toConditionS_b (l : List Cd) (hl : l.length ≤ 1048576) (ih : ∀ c ∈ l, BRet Tryd.prog 14 [] [.agg [.int c.op, .str c.nm, .int c.dy, .d (.sl 4 (c.ps.map Cd.e))]] (.agg [.int c.op, .str c.nm, .int c.dy, .own 41 4 (c.ps.map Cd.e)]) []) :
    BRet Tryd.prog 26 [] [.d (.sl 4 (l.map Cd.e))] (.own 41 4 (l.map Cd.e)) [] := by
  refine bof Tryd.func26 ?_
  have hce : ∀ x ∈ l.map Cd.e, x.cells.length = 4 := fun x hx => by obtain ⟨y, _, rfl⟩ := List.mem_map.1 hx; rw [Cd.e_eq]; rfl
  refine bgo ?_
  refine ⟨by omega, by omega, ?_⟩
  refine b_loop (fun n st => ∃ k : Nat, n = l.length - k ∧ k ≤ l.length ∧ st.tm 0 = .d (.sl 4 (l.map Cd.e)) ∧ st.tm 3 = .rsl (.t 7) 41 4 l.length ∧ st.tm 4 = .int k ∧ st.bx (.t 7) = some (filling (l.map Cd.e) Cd.z l.length k) ∧ ∀ b, b ≠ .t 7 → st.bx b = none) l.length
    ⟨0, rfl, Nat.zero_le _, rfl, rfl, rfl, by rw [filling_0]; rfl, fun b hb => by simp [bx_put, bx_strip1, bx_sbx, bx_init, bxOf_nil, hb]⟩ ?_
  rintro n st ⟨k, rfl, hk, t0, t3, t4, t7, hb⟩
  by_cases hlt : k < l.length
  · have hx : l[k]? = some l[k] := List.getElem?_eq_getElem hlt
    have hc := ih l[k] (List.getElem_mem hlt)
    have hfl := filling_len (l := l.map Cd.e) (zero := Cd.z) (n := l.length) (k := k) (sz := 4) rfl hce (by simp) hk
    have hfs := filling_step (l := l.map Cd.e) (zero := Cd.z) (n := l.length) (k := k) (sz := 4) rfl hce (by simp) (by simpa using hlt)
    have hfb : (List.take (k * 4) (filling (l.map Cd.e) Cd.z l.length k) ++ [PV.int l[k].op, PV.str l[k].nm, PV.int l[k].dy, PV.own 41 4 (l[k].ps.map Cd.e)] ++ List.drop (k * 4 + 4) (filling (l.map Cd.e) Cd.z l.length k)).map PV.bC = filling (l.map Cd.e) Cd.z l.length (k + 1) := by
      rw [List.map_append, List.map_append, List.map_take, List.map_drop, filling_bC rfl, ← hfs, List.getElem_map, Cd.e_eq]; rfl
    clear ih hce hfs
    refine bgo ?_
    refine b_call hc rfl rfl rfl rfl ?_
    refine bgo ?_
    refine ⟨by omega, _, _, Weak.bC (.t 7), by omega, k + 1, rfl, hlt, t0, t3, rfl, congrArg some hfb, fun b hne => ?_⟩
    have := hb b hne
    simp [bx_put, bx_strip1, bx_sbx, hne, this]
  · have hk' : k = l.length := by omega
    subst hk'
    clear ih
    refine bgo ?_
    refine made (t := 3) (l := l.map Cd.e) t3 (t7.trans ?_) (by simp) hce hb fun s s3 hb => ?_
    · rw [← filling_n (l.map Cd.e) Cd.z, List.length_map]
    refine bgo ?_
    trivial
theorem toCondition_b (c : Cd) : c.size ≤ 1048577 → BRet Tryd.prog 14 [] [.agg [.int c.op, .str c.nm, .int c.dy, .d (.sl 4 (c.ps.map Cd.e))]] (.agg [.int c.op, .str c.nm, .int c.dy, .own 41 4 (c.ps.map Cd.e)]) [] := by
  refine Cd.ind (P := fun c => c.size ≤ 1048577 → BRet Tryd.prog 14 [] [.agg [.int c.op, .str c.nm, .int c.dy, .d (.sl 4 (c.ps.map Cd.e))]] (.agg [.int c.op, .str c.nm, .int c.dy, .own 41 4 (c.ps.map Cd.e)]) []) (fun c ih hsz => ?_) c
  have h1 := size_eq c
  have h2 := sizes_len c.ps
  have hc := toConditionS_b c.ps (by omega) (fun x hx => ih x hx (by have := size_part hx; omega))
  clear ih
  refine bof Tryd.func14 ?_
  generalize c.op = o at *
  generalize c.nm = n at *
  generalize c.dy = d at *
  generalize c.ps = ps at *
  refine bgo ?_
  refine b_call hc rfl rfl rfl rfl ?_
  refine bgo ?_
  trivial
theorem eqConditionS_s (l : List Cd) (ih : ∀ c ∈ l, BRet Tryd.prog 16 [] [.agg [.int c.op, .str c.nm, .int c.dy, .d (.sl 4 (c.ps.map Cd.e))], .agg [.int c.op, .str c.nm, .int c.dy, .d (.sl 4 (c.ps.map Cd.e))]] (.bool true) []) :
    BRet Tryd.prog 29 [] [.d (.sl 4 (l.map Cd.e)), .d (.sl 4 (l.map Cd.e))] (.bool true) [] := by
  refine BRet.len 0 (by kernel_rfl) rfl fun hl => ?_
  simp only [List.length_map] at hl
  refine bof Tryd.func29 ?_
  refine bgo ?_
  refine b_lp (ι := Nat × Unit) (fun i => [(0, .d (.sl 4 (l.map Cd.e))), (1, .d (.sl 4 (l.map Cd.e))), (5, .int i.1)]) (fun _ => []) (fun i => i.1 ≤ l.length) (fun i => l.length - i.1) (0, ()) hs (Nat.zero_le _) ?_
  rintro ⟨i, u⟩ hi I nx
  dsimp only at hi ⊢
  by_cases hlt : i < l.length
  · have hx : l[i]? = some l[i] := List.getElem?_eq_getElem hlt
    have hc := ih l[i] (List.getElem_mem hlt)
    generalize l[i] = x at *
    have hib : (i : Int) + 1 ≤ 1099511627776000 := by omega
    clear ih
    refine bgo ?_
    refine b_call hc rfl rfl rfl rfl ?_
    refine bgo ?_
    exact nx.go (i + 1, ()) hlt (by dsimp only; omega) hs
  · have hlt2 : ¬ i < l.length := by omega
    clear ih
    refine bgo ?_
    refine wk_rfl ?_
    refine bgo ?_
    trivial
theorem eqCondition_s (c : Cd) : BRet Tryd.prog 16 [] [.agg [.int c.op, .str c.nm, .int c.dy, .d (.sl 4 (c.ps.map Cd.e))], .agg [.int c.op, .str c.nm, .int c.dy, .d (.sl 4 (c.ps.map Cd.e))]] (.bool true) [] := by
  refine Cd.ind (P := fun c => BRet Tryd.prog 16 [] [.agg [.int c.op, .str c.nm, .int c.dy, .d (.sl 4 (c.ps.map Cd.e))], .agg [.int c.op, .str c.nm, .int c.dy, .d (.sl 4 (c.ps.map Cd.e))]] (.bool true) []) (fun c ih => ?_) c
  have hc := eqConditionS_s c.ps ih
  clear ih
  refine bof Tryd.func16 ?_
  generalize c.op = o at *
  generalize c.nm = n at *
  generalize c.dy = d at *
  generalize c.ps = ps at *
  refine bgo ?_
  refine b_call hc rfl rfl rfl rfl ?_
  refine bgo ?_
  trivial
end Go.Bee.C24n

/- Conditions: forms, counts, English; the law. -/
namespace Go.Bee.C24n
open Go Go.Bee Go.Proofs Go.Bee.Ty Go.Bee.C23 Go.Bee.C23s Go.Bee.Da Go.Bee.C24 Go.Bee.C24c Go.Bee.C24d Go.Bee.Cn
set_option linter.unusedVariables false
set_option maxRecDepth 20000
attribute [local irreducible] Go.Bee.bwp
theorem formS_op {o d : Int} {n : Tx} {k : Nat} (h : ¬ (1 ≤ o ∧ o ≤ 6)) : formS o n d k = false := by
  unfold formS inB
  by_cases h1 : o ≥ 1
  · have h2 : ¬ o ≤ 6 := by omega
    simp [h2]
  · simp [h1]
theorem l5Form1_b (n : Tx) (d : Int) (l : List PD) : BRet Tryd.prog 56 [] [.agg [.int 1, .str n, .int d, .d (.sl 4 l)]] (.bool (formS 1 n d l.length)) [] := by
  refine BRet.alen 0 3 (by kernel_rfl) rfl rfl fun hl => ?_
  have hnm := l5Name_b n
  have hdy := l3Good_b d
  have n12 : ¬ ((1 : Int) = 2) := by decide
  have n13 : ¬ ((1 : Int) = 3) := by decide
  have n14 : ¬ ((1 : Int) = 4) := by decide
  have n15 : ¬ ((1 : Int) = 5) := by decide
  have n16 : ¬ ((1 : Int) = 6) := by decide
  have hf : formS 1 n d l.length = (decide (l.length = 0) && n.isEmpty && decide (d = 0)) := rfl
  rw [hf]
  clear hf
  refine bof Tryd.func56 ?_
  by_cases h1 : l.length = 0
  · have h1b : (l.length : Int) = 0 := by omega
    rw [decide_eq_true h1]
    clear h1
    by_cases h2 : n = []
    · subst h2
      by_cases h3 : d = 0
      · subst h3
        refine bgo ?_
        first
          | trivial
          | rfl
      · have h3c : (d == 0) = false := by rw [beq_eq_false_iff_ne]; exact h3
        rw [decide_eq_false h3]
        refine bgo ?_
        first
          | trivial
          | (simp [h3]; done)
    · have h2b : n.isEmpty = false := by cases n <;> simp_all
      have h2c : (n == []) = false := by rw [beq_eq_false_iff_ne]; exact h2
      rw [h2b]
      refine bgo ?_
      first
        | trivial
        | (refine ⟨by simp [h2]; rfl, by simp [h2]⟩; done)
  · have h1c : ((l.length : Int) == 0) = false := by rw [beq_eq_false_iff_ne]; omega
    have h1b : ¬ (l.length : Int) = 0 := by omega
    rw [decide_eq_false h1]
    clear h1
    refine bgo ?_
    first
      | trivial
      | rfl
theorem l5Form4_b (n : Tx) (d : Int) (l : List PD) : BRet Tryd.prog 56 [] [.agg [.int 4, .str n, .int d, .d (.sl 4 l)]] (.bool (formS 4 n d l.length)) [] := by
  refine BRet.alen 0 3 (by kernel_rfl) rfl rfl fun hl => ?_
  have hnm := l5Name_b n
  have hdy := l3Good_b d
  have n41 : ¬ ((4 : Int) = 1) := by decide
  have n42 : ¬ ((4 : Int) = 2) := by decide
  have n43 : ¬ ((4 : Int) = 3) := by decide
  have n45 : ¬ ((4 : Int) = 5) := by decide
  have n46 : ¬ ((4 : Int) = 6) := by decide
  have hf : formS 4 n d l.length = (decide (l.length = 1) && n.isEmpty && decide (d = 0)) := rfl
  rw [hf]
  clear hf
  refine bof Tryd.func56 ?_
  by_cases h1 : l.length = 1
  · have h1b : (l.length : Int) = 1 := by omega
    rw [decide_eq_true h1]
    clear h1
    by_cases h2 : n = []
    · subst h2
      by_cases h3 : d = 0
      · subst h3
        refine bgo ?_
        first
          | trivial
          | rfl
      · have h3c : (d == 0) = false := by rw [beq_eq_false_iff_ne]; exact h3
        rw [decide_eq_false h3]
        refine bgo ?_
        first
          | trivial
          | (simp [h3]; done)
    · have h2b : n.isEmpty = false := by cases n <;> simp_all
      have h2c : (n == []) = false := by rw [beq_eq_false_iff_ne]; exact h2
      rw [h2b]
      refine bgo ?_
      first
        | trivial
        | (refine ⟨by simp [h2]; rfl, by simp [h2]⟩; done)
  · have h1c : ((l.length : Int) == 1) = false := by rw [beq_eq_false_iff_ne]; omega
    have h1b : ¬ (l.length : Int) = 1 := by omega
    rw [decide_eq_false h1]
    clear h1
    refine bgo ?_
    first
      | trivial
      | rfl
theorem l5Form5_b (n : Tx) (d : Int) (l : List PD) : BRet Tryd.prog 56 [] [.agg [.int 5, .str n, .int d, .d (.sl 4 l)]] (.bool (formS 5 n d l.length)) [] := by
  refine BRet.alen 0 3 (by kernel_rfl) rfl rfl fun hl => ?_
  have hnm := l5Name_b n
  have hdy := l3Good_b d
  have n51 : ¬ ((5 : Int) = 1) := by decide
  have n52 : ¬ ((5 : Int) = 2) := by decide
  have n53 : ¬ ((5 : Int) = 3) := by decide
  have n54 : ¬ ((5 : Int) = 4) := by decide
  have n56 : ¬ ((5 : Int) = 6) := by decide
  have hf : formS 5 n d l.length = (decide (l.length = 2) && n.isEmpty && decide (d = 0)) := rfl
  rw [hf]
  clear hf
  refine bof Tryd.func56 ?_
  by_cases h1 : l.length = 2
  · have h1b : (l.length : Int) = 2 := by omega
    rw [decide_eq_true h1]
    clear h1
    by_cases h2 : n = []
    · subst h2
      by_cases h3 : d = 0
      · subst h3
        refine bgo ?_
        first
          | trivial
          | rfl
      · have h3c : (d == 0) = false := by rw [beq_eq_false_iff_ne]; exact h3
        rw [decide_eq_false h3]
        refine bgo ?_
        first
          | trivial
          | (simp [h3]; done)
    · have h2b : n.isEmpty = false := by cases n <;> simp_all
      have h2c : (n == []) = false := by rw [beq_eq_false_iff_ne]; exact h2
      rw [h2b]
      refine bgo ?_
      first
        | trivial
        | (refine ⟨by simp [h2]; rfl, by simp [h2]⟩; done)
  · have h1c : ((l.length : Int) == 2) = false := by rw [beq_eq_false_iff_ne]; omega
    have h1b : ¬ (l.length : Int) = 2 := by omega
    rw [decide_eq_false h1]
    clear h1
    refine bgo ?_
    first
      | trivial
      | rfl
theorem l5Form6_b (n : Tx) (d : Int) (l : List PD) : BRet Tryd.prog 56 [] [.agg [.int 6, .str n, .int d, .d (.sl 4 l)]] (.bool (formS 6 n d l.length)) [] := by
  refine BRet.alen 0 3 (by kernel_rfl) rfl rfl fun hl => ?_
  have hnm := l5Name_b n
  have hdy := l3Good_b d
  have n61 : ¬ ((6 : Int) = 1) := by decide
  have n62 : ¬ ((6 : Int) = 2) := by decide
  have n63 : ¬ ((6 : Int) = 3) := by decide
  have n64 : ¬ ((6 : Int) = 4) := by decide
  have n65 : ¬ ((6 : Int) = 5) := by decide
  have hf : formS 6 n d l.length = (decide (l.length = 2) && n.isEmpty && decide (d = 0)) := rfl
  rw [hf]
  clear hf
  refine bof Tryd.func56 ?_
  by_cases h1 : l.length = 2
  · have h1b : (l.length : Int) = 2 := by omega
    rw [decide_eq_true h1]
    clear h1
    by_cases h2 : n = []
    · subst h2
      by_cases h3 : d = 0
      · subst h3
        refine bgo ?_
        first
          | trivial
          | rfl
      · have h3c : (d == 0) = false := by rw [beq_eq_false_iff_ne]; exact h3
        rw [decide_eq_false h3]
        refine bgo ?_
        first
          | trivial
          | (simp [h3]; done)
    · have h2b : n.isEmpty = false := by cases n <;> simp_all
      have h2c : (n == []) = false := by rw [beq_eq_false_iff_ne]; exact h2
      rw [h2b]
      refine bgo ?_
      first
        | trivial
        | (refine ⟨by simp [h2]; rfl, by simp [h2]⟩; done)
  · have h1c : ((l.length : Int) == 2) = false := by rw [beq_eq_false_iff_ne]; omega
    have h1b : ¬ (l.length : Int) = 2 := by omega
    rw [decide_eq_false h1]
    clear h1
    refine bgo ?_
    first
      | trivial
      | rfl
theorem l5Form2_b (n : Tx) (d : Int) (l : List PD) : BRet Tryd.prog 56 [] [.agg [.int 2, .str n, .int d, .d (.sl 4 l)]] (.bool (formS 2 n d l.length)) [] := by
  refine BRet.alen 0 3 (by kernel_rfl) rfl rfl fun hl => ?_
  have hnm := l5Name_b n
  have hdy := l3Good_b d
  have n21 : ¬ ((2 : Int) = 1) := by decide
  have n23 : ¬ ((2 : Int) = 3) := by decide
  have n24 : ¬ ((2 : Int) = 4) := by decide
  have n25 : ¬ ((2 : Int) = 5) := by decide
  have n26 : ¬ ((2 : Int) = 6) := by decide
  have hf : formS 2 n d l.length = (decide (l.length = 0) && vName n && decide (d = 0)) := rfl
  rw [hf]
  clear hf
  refine bof Tryd.func56 ?_
  by_cases h1 : l.length = 0
  · have h1b : (l.length : Int) = 0 := by omega
    rw [decide_eq_true h1]
    clear h1
    cases hv : vName n
    · rw [hv] at hnm
      refine bgo ?_
      refine b_call hnm rfl rfl rfl rfl ?_
      refine bgo ?_
      first
        | trivial
        | rfl
    · rw [hv] at hnm
      by_cases h3 : d = 0
      · subst h3
        refine bgo ?_
        refine b_call hnm rfl rfl rfl rfl ?_
        refine bgo ?_
        first
          | trivial
          | rfl
      · have h3c : (d == 0) = false := by rw [beq_eq_false_iff_ne]; exact h3
        rw [decide_eq_false h3]
        refine bgo ?_
        refine b_call hnm rfl rfl rfl rfl ?_
        refine bgo ?_
        first
          | trivial
          | rfl
  · have h1c : ((l.length : Int) == 0) = false := by rw [beq_eq_false_iff_ne]; omega
    have h1b : ¬ (l.length : Int) = 0 := by omega
    rw [decide_eq_false h1]
    clear h1
    refine bgo ?_
    first
      | trivial
      | rfl
theorem l5Form3_b (n : Tx) (d : Int) (l : List PD) : BRet Tryd.prog 56 [] [.agg [.int 3, .str n, .int d, .d (.sl 4 l)]] (.bool (formS 3 n d l.length)) [] := by
  refine BRet.alen 0 3 (by kernel_rfl) rfl rfl fun hl => ?_
  have hnm := l5Name_b n
  have hdy := l3Good_b d
  have n31 : ¬ ((3 : Int) = 1) := by decide
  have n32 : ¬ ((3 : Int) = 2) := by decide
  have n34 : ¬ ((3 : Int) = 4) := by decide
  have n35 : ¬ ((3 : Int) = 5) := by decide
  have n36 : ¬ ((3 : Int) = 6) := by decide
  have hf : formS 3 n d l.length = (decide (l.length = 0) && n.isEmpty && inB d 0 36524) := rfl
  rw [hf]
  clear hf
  refine bof Tryd.func56 ?_
  by_cases h1 : l.length = 0
  · have h1b : (l.length : Int) = 0 := by omega
    rw [decide_eq_true h1]
    clear h1
    by_cases h2 : n = []
    · subst h2
      refine bgo ?_
      refine b_call hdy rfl rfl rfl rfl ?_
      refine bgo ?_
      first
        | trivial
        | rfl
    · have h2b : n.isEmpty = false := by cases n <;> simp_all
      have h2c : (n == []) = false := by rw [beq_eq_false_iff_ne]; exact h2
      rw [h2b]
      refine bgo ?_
      first
        | trivial
        | (refine ⟨by simp [h2]; rfl, by simp [h2]⟩; done)
  · have h1c : ((l.length : Int) == 0) = false := by rw [beq_eq_false_iff_ne]; omega
    have h1b : ¬ (l.length : Int) = 0 := by omega
    rw [decide_eq_false h1]
    clear h1
    refine bgo ?_
    first
      | trivial
      | rfl
theorem l5Form_b (o : Int) (n : Tx) (d : Int) (l : List PD) : BRet Tryd.prog 56 [] [.agg [.int o, .str n, .int d, .d (.sl 4 l)]] (.bool (formS o n d l.length)) [] := by
  by_cases ho : 1 ≤ o ∧ o ≤ 6
  · rcases (by omega : o = 1 ∨ o = 2 ∨ o = 3 ∨ o = 4 ∨ o = 5 ∨ o = 6) with rfl | rfl | rfl | rfl | rfl | rfl
    · exact l5Form1_b n d l
    · exact l5Form2_b n d l
    · exact l5Form3_b n d l
    · exact l5Form4_b n d l
    · exact l5Form5_b n d l
    · exact l5Form6_b n d l
  · refine BRet.alen 0 3 (by kernel_rfl) rfl rfl fun hl => ?_
    rw [formS_op ho]
    have h1 : ¬ o = 1 := by omega
    have h2 : ¬ o = 2 := by omega
    have h3 : ¬ o = 3 := by omega
    have h4 : ¬ o = 4 := by omega
    have h5 : ¬ o = 5 := by omega
    have h6 : ¬ o = 6 := by omega
    refine bof Tryd.func56 ?_
    refine bgo ?_
    trivial
theorem l5Forms_b (c : Cd) : BRet Tryd.prog 42 [] [.agg [.int c.op, .str c.nm, .int c.dy, .d (.sl 4 (c.ps.map Cd.e))]] (.bool (forms c)) [] := by
  refine Cd.ind (P := fun c => BRet Tryd.prog 42 [] [.agg [.int c.op, .str c.nm, .int c.dy, .d (.sl 4 (c.ps.map Cd.e))]] (.bool (forms c)) []) (fun c ih => ?_) c
  refine BRet.alen 0 3 (by kernel_rfl) rfl rfl fun hl => ?_
  have hf := l5Form_b c.op c.nm c.dy (c.ps.map Cd.e)
  rw [forms_eq]
  rw [List.length_map] at hf hl
  refine bof Tryd.func42 ?_
  generalize c.op = o at *
  generalize c.nm = n at *
  generalize c.dy = d at *
  generalize c.ps = l at *
  cases hv : formS o n d l.length
  · rw [hv] at hf
    refine bgo ?_
    refine b_call hf rfl rfl rfl rfl ?_
    refine bgo ?_
    trivial
  rw [hv] at hf
  rw [Bool.true_and]
  generalize hr : l.all forms = r
  refine bgo ?_
  refine b_call hf rfl rfl rfl rfl ?_
  refine bgo ?_
  refine b_lp (ι := Nat × Unit) (fun i => [(1, .ptr (.t 1) 0), (3, .int i.1)]) (fun _ => [(.t 1, [.int o, .str n, .int d, .d (.sl 4 (l.map Cd.e))])]) (fun i => i.1 ≤ l.length ∧ (l.drop i.1).all forms = r) (fun i => l.length - i.1) (0, ()) hs ⟨Nat.zero_le _, hr⟩ ?_
  clear hr hf
  rintro ⟨k, u⟩ ⟨hk, hj⟩ I nx
  dsimp only at hk hj ⊢
  by_cases hlt : k < l.length
  · have hx : l[k]? = some l[k] := List.getElem?_eq_getElem hlt
    have hc := ih l[k] (List.getElem_mem hlt)
    rw [List.drop_eq_getElem_cons hlt, List.all_cons] at hj
    have hb : (k : Int) + 1 ≤ 1099511627776000 := by omega
    generalize l[k] = x at *
    clear ih
    cases hfx : forms x
    · rw [hfx] at hc hj
      have hj : false = r := hj
      subst hj
      refine bgo ?_
      refine b_call hc rfl rfl rfl rfl ?_
      refine bgo ?_
      trivial
    · rw [hfx] at hc hj
      rw [Bool.true_and] at hj
      refine bgo ?_
      refine b_call hc rfl rfl rfl rfl ?_
      refine bgo ?_
      exact nx.go (k + 1, ()) ⟨hlt, hj⟩ (by dsimp only; omega) hs
  · have hk' : k = l.length := by omega
    subst hk'
    rw [List.drop_length] at hj
    have hj : true = r := hj
    subst hj
    clear ih
    refine bgo ?_
    refine wk_rfl ?_
    refine bgo ?_
    trivial
theorem l5Size_b (c : Cd) : c.size ≤ 1048577 → BRet Tryd.prog 43 [] [.agg [.int c.op, .str c.nm, .int c.dy, .d (.sl 4 (c.ps.map Cd.e))]] (.int c.size) [] := by
  refine Cd.ind (P := fun c => c.size ≤ 1048577 → BRet Tryd.prog 43 [] [.agg [.int c.op, .str c.nm, .int c.dy, .d (.sl 4 (c.ps.map Cd.e))]] (.int c.size) []) (fun c ih hsz => ?_) c
  refine BRet.alen 0 3 (by kernel_rfl) rfl rfl fun hl => ?_
  have hse := size_eq c
  have hih : ∀ x ∈ c.ps, BRet Tryd.prog 43 [] [.agg [.int x.op, .str x.nm, .int x.dy, .d (.sl 4 (x.ps.map Cd.e))]] (.int x.size) [] := fun x hx => ih x hx (by have := size_part hx; omega)
  have hml := fun x (hx : x ∈ c.ps) => size_part hx
  clear ih
  rw [List.length_map] at hl
  refine bof Tryd.func43 ?_
  generalize c.op = o at *
  generalize c.nm = n at *
  generalize c.dy = d at *
  generalize c.ps = l at *
  generalize hN : c.size = N at *
  clear hN
  have hse2 : Go.RowKit.Hid (1 + Cd.sizes l = N) := hse.symm
  clear hse
  refine bgo ?_
  refine b_lp (ι := Nat × Nat) (fun i => [(1, .ptr (.t 1) 0), (3, .int i.2), (4, .int i.1)]) (fun _ => [(.t 1, [.int o, .str n, .int d, .d (.sl 4 (l.map Cd.e))])]) (fun i => i.1 ≤ l.length ∧ i.2 + Cd.sizes (l.drop i.1) = N) (fun i => l.length - i.1) (0, 1) hs ⟨Nat.zero_le _, hse2.out⟩ ?_
  clear hse2
  rintro ⟨k, y⟩ ⟨hk, hj⟩ I nx
  dsimp only at hk hj ⊢
  by_cases hlt : k < l.length
  · have hx : l[k]? = some l[k] := List.getElem?_eq_getElem hlt
    have hc := hih l[k] (List.getElem_mem hlt)
    rw [sizes_drop l k hlt] at hj
    have hb : (k : Int) + 1 ≤ 1099511627776000 := by omega
    generalize l[k] = x at *
    clear hih hml
    generalize hz : x.size = z at *
    have hyz : y + z ≤ 1048577 := by omega
    refine bgo ?_
    refine b_call hc rfl rfl rfl rfl ?_
    refine bgo ?_
    exact nx.go (k + 1, y + z) ⟨hlt, by dsimp only; omega⟩ (by dsimp only; omega) hs
  · have hk' : k = l.length := by omega
    subst hk'
    rw [List.drop_length, sizes_nil] at hj
    have hj : y = N := hj
    subst hj
    clear hih hml
    refine bgo ?_
    refine wk_rfl ?_
    refine bgo ?_
    trivial
theorem l5Good_b (c : Cd) (hsz : c.size ≤ 1048577) : BRet Tryd.prog 24 [] [.agg [.int c.op, .str c.nm, .int c.dy, .d (.sl 4 (c.ps.map Cd.e))]] (.bool (okCd c)) [] := by
  have hf := l5Forms_b c
  have hz := l5Size_b c hsz
  unfold okCd
  generalize c.op = o at *
  generalize c.nm = n at *
  generalize c.dy = d at *
  generalize c.ps = l at *
  generalize c.size = N at *
  refine bof Tryd.func24 ?_
  cases hv : forms c
  · rw [hv] at hf
    refine bgo ?_
    refine b_call hf rfl rfl rfl rfl ?_
    refine bgo ?_
    first
      | trivial
      | rfl
  · rw [hv] at hf
    refine bgo ?_
    refine b_call hf rfl rfl rfl rfl ?_
    refine bgo ?_
    refine b_call hz rfl rfl rfl rfl ?_
    by_cases h15 : N ≤ 15
    · have h15b : (N : Int) ≤ 15 := by omega
      rw [decide_eq_true h15]
      refine bgo ?_
      first
        | trivial
        | rfl
    · have h15b : ¬ (N : Int) ≤ 15 := by omega
      rw [decide_eq_false h15]
      refine bgo ?_
      first
        | trivial
        | rfl
end Go.Bee.C24n

/- Conditions: counts, English; the law. -/
namespace Go.Bee.C24n
open Go Go.Bee Go.Proofs Go.Bee.Ty Go.Bee.C23 Go.Bee.C23s Go.Bee.Da Go.Bee.C24 Go.Bee.C24c Go.Bee.C24d Go.Bee.Cn
set_option linter.unusedVariables false
set_option maxRecDepth 20000
attribute [local irreducible] Go.Bee.bwp
theorem conditionEnglish_b (c : Cd) : forms c = true → c.size ≤ 15 → BRet Tryd.prog 28 [] [.agg [.int c.op, .str c.nm, .int c.dy, .d (.sl 4 (c.ps.map Cd.e))]] (.str (eng c)) [] := by
  refine Cd.ind (P := fun c => forms c = true → c.size ≤ 15 → BRet Tryd.prog 28 [] [.agg [.int c.op, .str c.nm, .int c.dy, .d (.sl 4 (c.ps.map Cd.e))]] (.str (eng c)) []) (fun c ih hf hsz => ?_) c
  have hse := size_eq c
  have hc := forms_cases hf
  have hel := fun x (hx : forms x = true) => eng_len x hx
  obtain ⟨o, n, d, ps⟩ := c
  simp only [Cd.op, Cd.nm, Cd.dy, Cd.ps] at hc ih hse ⊢
  rcases hc with ⟨rfl, rfl⟩ | ⟨rfl, rfl, hv⟩ | ⟨rfl, rfl, hd⟩ | ⟨rfl, a, rfl, ha⟩ | ⟨rfl, a, b, rfl, ha, hb⟩ | ⟨rfl, a, b, rfl, ha, hb⟩
  · rw [eng, if_pos rfl]
    have n12 : ¬ ((1 : Int) = 2) := by decide
    have n13 : ¬ ((1 : Int) = 3) := by decide
    have n14 : ¬ ((1 : Int) = 4) := by decide
    have n15 : ¬ ((1 : Int) = 5) := by decide
    have n16 : ¬ ((1 : Int) = 6) := by decide
    clear ih hel hse hf
    refine bof Tryd.func28 ?_
    refine bgo ?_
    trivial
  · have hvl := (Go.Bee.C24d.vName_len hv).2
    rw [eng, if_neg (by decide), if_pos rfl]
    clear ih hel hse hf hv
    refine bof Tryd.func28 ?_
    refine bgo ?_
    repeat (refine ifK (by omega) ?_; refine bgo ?_)
    trivial
  · have hdl := Go.Bee.C24d.dateT_len hd.1 hd.2
    have hdt := dateText_b d hd.1 hd.2
    have n32 : ¬ ((3 : Int) = 2) := by decide
    rw [eng, if_neg (by decide), if_neg (by decide), if_pos rfl]
    clear ih hel hse hf
    generalize dateT d = t at *
    refine bof Tryd.func28 ?_
    refine bgo ?_
    refine b_call hdt rfl rfl rfl rfl ?_
    refine bgo ?_
    repeat (refine ifK (by omega) ?_; refine bgo ?_)
    trivial
  · rw [sizes_cons, sizes_nil] at hse
    have h1 := ih a (by simp) ha (by omega)
    have h2 := hel a ha
    have n42 : ¬ ((4 : Int) = 2) := by decide
    have n43 : ¬ ((4 : Int) = 3) := by decide
    rw [eng, if_neg (by decide), if_neg (by decide), if_neg (by decide), if_pos rfl, engs_eq]
    rw [show (List.map eng [a]).getD 0 [] = eng a from rfl]
    clear ih hel hf
    generalize eng a = t at *
    have hx : (List.map Cd.e [a])[0]? = some a.e := rfl
    have hxl : (List.map Cd.e [a]).length = 1 := rfl
    generalize List.map Cd.e [a] = q at *
    refine bof Tryd.func28 ?_
    refine bgo ?_
    refine b_call h1 rfl rfl rfl rfl ?_
    refine bgo ?_
    repeat (refine ifK (by omega) ?_; refine bgo ?_)
    trivial
  · rw [sizes_cons, sizes_cons, sizes_nil] at hse
    have h1 := ih a (by simp) ha (by have := size_eq b; omega)
    have h2 := ih b (by simp) hb (by have := size_eq a; omega)
    have h3 := hel a ha
    have h4 := hel b hb
    have n52 : ¬ ((5 : Int) = 2) := by decide
    have n53 : ¬ ((5 : Int) = 3) := by decide
    have n54 : ¬ ((5 : Int) = 4) := by decide
    rw [eng, if_neg (by decide), if_neg (by decide), if_neg (by decide), if_neg (by decide), if_pos rfl, engs_eq]
    rw [show (List.map eng [a, b]).getD 0 [] = eng a from rfl, show (List.map eng [a, b]).getD 1 [] = eng b from rfl]
    clear ih hel hf
    generalize eng a = t at *
    generalize eng b = u at *
    have hx : (List.map Cd.e [a, b])[0]? = some a.e := rfl
    have hx1 : (List.map Cd.e [a, b])[1]? = some b.e := rfl
    have hxl : (List.map Cd.e [a, b]).length = 2 := rfl
    generalize List.map Cd.e [a, b] = q at *
    refine bof Tryd.func28 ?_
    refine bgo ?_
    refine b_call h1 rfl rfl rfl rfl ?_
    refine bgo ?_
    repeat (refine ifK (by omega) ?_; refine bgo ?_)
    refine b_call h2 rfl rfl rfl rfl ?_
    refine bgo ?_
    repeat (refine ifK (by omega) ?_; refine bgo ?_)
    trivial
  · rw [sizes_cons, sizes_cons, sizes_nil] at hse
    have h1 := ih a (by simp) ha (by have := size_eq b; omega)
    have h2 := ih b (by simp) hb (by have := size_eq a; omega)
    have h3 := hel a ha
    have h4 := hel b hb
    have n62 : ¬ ((6 : Int) = 2) := by decide
    have n63 : ¬ ((6 : Int) = 3) := by decide
    have n64 : ¬ ((6 : Int) = 4) := by decide
    have n65 : ¬ ((6 : Int) = 5) := by decide
    rw [eng, if_neg (by decide), if_neg (by decide), if_neg (by decide), if_neg (by decide), if_neg (by decide), engs_eq]
    rw [show (List.map eng [a, b]).getD 0 [] = eng a from rfl, show (List.map eng [a, b]).getD 1 [] = eng b from rfl]
    clear ih hel hf
    generalize eng a = t at *
    generalize eng b = u at *
    have hx : (List.map Cd.e [a, b])[0]? = some a.e := rfl
    have hx1 : (List.map Cd.e [a, b])[1]? = some b.e := rfl
    have hxl : (List.map Cd.e [a, b]).length = 2 := rfl
    generalize List.map Cd.e [a, b] = q at *
    refine bof Tryd.func28 ?_
    refine bgo ?_
    refine b_call h1 rfl rfl rfl rfl ?_
    refine bgo ?_
    repeat (refine ifK (by omega) ?_; refine bgo ?_)
    refine b_call h2 rfl rfl rfl rfl ?_
    refine bgo ?_
    repeat (refine ifK (by omega) ?_; refine bgo ?_)
    trivial
theorem l24Condition_b (c : Cd) : forms c = true → c.size ≤ 15 → BRet Tryd.prog 25 [] [.agg [.int c.op, .str c.nm, .int c.dy, .d (.sl 4 (c.ps.map Cd.e))]] (.str (eng c)) [] := by
  refine Cd.ind (P := fun c => forms c = true → c.size ≤ 15 → BRet Tryd.prog 25 [] [.agg [.int c.op, .str c.nm, .int c.dy, .d (.sl 4 (c.ps.map Cd.e))]] (.str (eng c)) []) (fun c ih hf hsz => ?_) c
  have hse := size_eq c
  have hc := forms_cases hf
  have hel := fun x (hx : forms x = true) => eng_len x hx
  obtain ⟨o, n, d, ps⟩ := c
  simp only [Cd.op, Cd.nm, Cd.dy, Cd.ps] at hc ih hse ⊢
  rcases hc with ⟨rfl, rfl⟩ | ⟨rfl, rfl, hv⟩ | ⟨rfl, rfl, hd⟩ | ⟨rfl, a, rfl, ha⟩ | ⟨rfl, a, b, rfl, ha, hb⟩ | ⟨rfl, a, b, rfl, ha, hb⟩
  · rw [eng, if_pos rfl]
    clear ih hel hse hf
    refine bof Tryd.func25 ?_
    refine bgo ?_
    trivial
  · have hvl := (Go.Bee.C24d.vName_len hv).2
    have n21 : ¬ ((2 : Int) = 1) := by decide
    rw [eng, if_neg (by decide), if_pos rfl]
    clear ih hel hse hf hv
    refine bof Tryd.func25 ?_
    refine bgo ?_
    repeat (refine ifK (by omega) ?_; refine bgo ?_)
    trivial
  · have hdl := Go.Bee.C24d.dateT_len hd.1 hd.2
    have hdt := l3Text_b d hd.1 hd.2
    have n31 : ¬ ((3 : Int) = 1) := by decide
    have n32 : ¬ ((3 : Int) = 2) := by decide
    rw [eng, if_neg (by decide), if_neg (by decide), if_pos rfl]
    clear ih hel hse hf
    generalize dateT d = t at *
    refine bof Tryd.func25 ?_
    refine bgo ?_
    refine b_call hdt rfl rfl rfl rfl ?_
    refine bgo ?_
    repeat (refine ifK (by omega) ?_; refine bgo ?_)
    trivial
  · rw [sizes_cons, sizes_nil] at hse
    have h1 := ih a (by simp) ha (by omega)
    have h2 := hel a ha
    have n41 : ¬ ((4 : Int) = 1) := by decide
    have n42 : ¬ ((4 : Int) = 2) := by decide
    have n43 : ¬ ((4 : Int) = 3) := by decide
    rw [eng, if_neg (by decide), if_neg (by decide), if_neg (by decide), if_pos rfl, engs_eq]
    rw [show (List.map eng [a]).getD 0 [] = eng a from rfl]
    clear ih hel hf
    generalize eng a = t at *
    have hx : (List.map Cd.e [a])[0]? = some a.e := rfl
    have hxl : (List.map Cd.e [a]).length = 1 := rfl
    generalize List.map Cd.e [a] = q at *
    refine bof Tryd.func25 ?_
    refine bgo ?_
    refine b_call h1 rfl rfl rfl rfl ?_
    refine bgo ?_
    repeat (refine ifK (by omega) ?_; refine bgo ?_)
    trivial
  · rw [sizes_cons, sizes_cons, sizes_nil] at hse
    have h1 := ih a (by simp) ha (by have := size_eq b; omega)
    have h2 := ih b (by simp) hb (by have := size_eq a; omega)
    have h3 := hel a ha
    have h4 := hel b hb
    have n51 : ¬ ((5 : Int) = 1) := by decide
    have n52 : ¬ ((5 : Int) = 2) := by decide
    have n53 : ¬ ((5 : Int) = 3) := by decide
    have n54 : ¬ ((5 : Int) = 4) := by decide
    rw [eng, if_neg (by decide), if_neg (by decide), if_neg (by decide), if_neg (by decide), if_pos rfl, engs_eq]
    rw [show (List.map eng [a, b]).getD 0 [] = eng a from rfl, show (List.map eng [a, b]).getD 1 [] = eng b from rfl]
    clear ih hel hf
    generalize eng a = t at *
    generalize eng b = u at *
    have hx : (List.map Cd.e [a, b])[0]? = some a.e := rfl
    have hx1 : (List.map Cd.e [a, b])[1]? = some b.e := rfl
    have hxl : (List.map Cd.e [a, b]).length = 2 := rfl
    generalize List.map Cd.e [a, b] = q at *
    refine bof Tryd.func25 ?_
    refine bgo ?_
    refine b_call h1 rfl rfl rfl rfl ?_
    refine bgo ?_
    repeat (refine ifK (by omega) ?_; refine bgo ?_)
    refine b_call h2 rfl rfl rfl rfl ?_
    refine bgo ?_
    repeat (refine ifK (by omega) ?_; refine bgo ?_)
    trivial
  · rw [sizes_cons, sizes_cons, sizes_nil] at hse
    have h1 := ih a (by simp) ha (by have := size_eq b; omega)
    have h2 := ih b (by simp) hb (by have := size_eq a; omega)
    have h3 := hel a ha
    have h4 := hel b hb
    have n61 : ¬ ((6 : Int) = 1) := by decide
    have n62 : ¬ ((6 : Int) = 2) := by decide
    have n63 : ¬ ((6 : Int) = 3) := by decide
    have n64 : ¬ ((6 : Int) = 4) := by decide
    have n65 : ¬ ((6 : Int) = 5) := by decide
    rw [eng, if_neg (by decide), if_neg (by decide), if_neg (by decide), if_neg (by decide), if_neg (by decide), engs_eq]
    rw [show (List.map eng [a, b]).getD 0 [] = eng a from rfl, show (List.map eng [a, b]).getD 1 [] = eng b from rfl]
    clear ih hel hf
    generalize eng a = t at *
    generalize eng b = u at *
    have hx : (List.map Cd.e [a, b])[0]? = some a.e := rfl
    have hx1 : (List.map Cd.e [a, b])[1]? = some b.e := rfl
    have hxl : (List.map Cd.e [a, b]).length = 2 := rfl
    generalize List.map Cd.e [a, b] = q at *
    refine bof Tryd.func25 ?_
    refine bgo ?_
    refine b_call h1 rfl rfl rfl rfl ?_
    refine bgo ?_
    repeat (refine ifK (by omega) ?_; refine bgo ?_)
    refine b_call h2 rfl rfl rfl rfl ?_
    refine bgo ?_
    repeat (refine ifK (by omega) ?_; refine bgo ?_)
    trivial
end Go.Bee.C24n

/- Conditions: the count. -/
namespace Go.Bee.C24n
open Go Go.Bee Go.Proofs Go.Bee.Ty Go.Bee.C23 Go.Bee.C23s Go.Bee.Da Go.Bee.C24 Go.Bee.C24c Go.Bee.C24d Go.Bee.Cn
set_option linter.unusedVariables false
set_option maxRecDepth 20000
attribute [local irreducible] Go.Bee.bwp
theorem count1_b (n : Tx) (d : Int) (l : List Cd) (ih : ∀ x ∈ l, ∀ so : Int, 0 ≤ so → so ≤ 15 → BRet Tryd.prog 44 [] [.agg [.int x.op, .str x.nm, .int x.dy, .d (.sl 4 (x.ps.map Cd.e))], .int so] (.int (cnt x so)) [])
    (so : Int) (h0 : 0 ≤ so) (h1 : ¬ so + 1 > 15) : BRet Tryd.prog 44 [] [.agg [.int 1, .str n, .int d, .d (.sl 4 (l.map Cd.e))], .int so] (.int (if formS 1 n d l.length = true then szF cnt l (so + 1) else -1)) [] := by
  refine BRet.alen 0 3 (by kernel_rfl) rfl rfl fun hl => ?_
  rw [List.length_map] at hl
  have hnm := IsValidName_b n
  have hdy := isDay_b d
  have f1 : ((false : Bool) == true) = false := rfl
  have f2 : (!false) = true := rfl
  have f3 : ((true : Bool) == true) = true := rfl
  have f4 : (!true) = false := rfl
  have f5 : ((true : Bool) == false) = false := rfl
  have f6 : ((false : Bool) == false) = true := rfl
  have z00 : ((0 : Int) != 0) = false := rfl
  have z33 : ((1 : Int) != 3) = true := rfl
  have hwi := within_b 1 1 6
  rw [show inB 1 1 6 = true from rfl] at hwi
  have n12 : ¬ ((1 : Int) = 2) := by decide
  have m12 : ((1 : Int) == 2) = false := rfl
  have n13 : ¬ ((1 : Int) = 3) := by decide
  have m13 : ((1 : Int) == 3) = false := rfl
  have hf : formS 1 n d l.length = (decide (l.length = 0) && n.isEmpty && decide (d = 0)) := rfl
  rw [hf]
  clear hf
  refine bof Tryd.func44 ?_
  by_cases hk : l.length = 0
  · have hkb : (l.length : Int) = 0 := by omega
    rw [decide_eq_true hk]
    clear hk
    by_cases h2 : n = []
    · subst h2
      by_cases h3 : d = 0
      · subst h3
        rw [show inB 0 0 36524 = true from rfl] at hdy
        rw [show (true && List.isEmpty ([] : Tx) && decide ((0 : Int) = 0)) = true from rfl]
        rw [if_pos rfl]
        generalize hr : szF cnt l (so + 1) = r
        refine bgo ?_
        refine b_call hwi rfl rfl rfl rfl ?_
        refine bgo ?_
        refine b_call hdy rfl rfl rfl rfl ?_
        refine bgo ?_
        refine b_lp (ι := Nat × Int) (fun i => [(1, .int i.2), (65, .d (.sl 4 (l.map Cd.e))), (66, .int 0), (67, .int i.1)]) (fun _ => []) (fun i => i.1 ≤ l.length ∧ 0 ≤ i.2 ∧ i.2 ≤ 15 ∧ szF cnt (l.drop i.1) i.2 = r) (fun i => l.length - i.1) (0, so + 1) hs ⟨Nat.zero_le _, by dsimp only; omega, by dsimp only; omega, hr⟩ ?_
        clear hr h0 h1 hnm hdy hwi
        rintro ⟨k, y⟩ ⟨hk2, hy0, hyx, hj⟩ I nx
        dsimp only at hk2 hy0 hyx hj ⊢
        by_cases hlt : k < l.length
        · exfalso; omega
        · obtain rfl : k = l.length := by omega
          have hltb : ¬ (l.length : Int) < 0 := by omega
          rw [List.drop_length] at hj
          have hj : y = r := hj
          subst hj
          clear ih
          refine bgo ?_
          refine wk_rfl ?_
          refine bgo ?_
          trivial
      · have h3c : (d == 0) = false := by rw [beq_eq_false_iff_ne]; exact h3
        have h3d : (d != 0) = true := by rw [bne_iff_ne]; exact h3
        rw [decide_eq_false h3]
        clear ih
        refine bgo ?_
        refine b_call hwi rfl rfl rfl rfl ?_
        refine bgo ?_
        trivial
    · have h2b : n.isEmpty = false := by cases n <;> simp_all
      have h2c : (n == []) = false := by rw [beq_eq_false_iff_ne]; exact h2
      have h2d : (n != []) = true := by rw [bne_iff_ne]; exact h2
      rw [h2b]
      clear ih
      refine bgo ?_
      refine b_call hwi rfl rfl rfl rfl ?_
      refine bgo ?_
      trivial
  · have hkb : ¬ (l.length : Int) = 0 := by omega
    have hkc : ((l.length : Int) == 0) = false := by rw [beq_eq_false_iff_ne]; exact hkb
    rw [decide_eq_false hk]
    clear hk ih
    refine bgo ?_
    refine b_call hwi rfl rfl rfl rfl ?_
    refine bgo ?_
    trivial
theorem count4_b (n : Tx) (d : Int) (l : List Cd) (ih : ∀ x ∈ l, ∀ so : Int, 0 ≤ so → so ≤ 15 → BRet Tryd.prog 44 [] [.agg [.int x.op, .str x.nm, .int x.dy, .d (.sl 4 (x.ps.map Cd.e))], .int so] (.int (cnt x so)) [])
    (so : Int) (h0 : 0 ≤ so) (h1 : ¬ so + 1 > 15) : BRet Tryd.prog 44 [] [.agg [.int 4, .str n, .int d, .d (.sl 4 (l.map Cd.e))], .int so] (.int (if formS 4 n d l.length = true then szF cnt l (so + 1) else -1)) [] := by
  refine BRet.alen 0 3 (by kernel_rfl) rfl rfl fun hl => ?_
  rw [List.length_map] at hl
  have hnm := IsValidName_b n
  have hdy := isDay_b d
  have f1 : ((false : Bool) == true) = false := rfl
  have f2 : (!false) = true := rfl
  have f3 : ((true : Bool) == true) = true := rfl
  have f4 : (!true) = false := rfl
  have f5 : ((true : Bool) == false) = false := rfl
  have f6 : ((false : Bool) == false) = true := rfl
  have z00 : ((0 : Int) != 0) = false := rfl
  have z33 : ((4 : Int) != 3) = true := rfl
  have hwi := within_b 4 1 6
  rw [show inB 4 1 6 = true from rfl] at hwi
  have n42 : ¬ ((4 : Int) = 2) := by decide
  have m42 : ((4 : Int) == 2) = false := rfl
  have n43 : ¬ ((4 : Int) = 3) := by decide
  have m43 : ((4 : Int) == 3) = false := rfl
  have hf : formS 4 n d l.length = (decide (l.length = 1) && n.isEmpty && decide (d = 0)) := rfl
  rw [hf]
  clear hf
  refine bof Tryd.func44 ?_
  by_cases hk : l.length = 1
  · have hkb : (l.length : Int) = 1 := by omega
    rw [decide_eq_true hk]
    clear hk
    by_cases h2 : n = []
    · subst h2
      by_cases h3 : d = 0
      · subst h3
        rw [show inB 0 0 36524 = true from rfl] at hdy
        rw [show (true && List.isEmpty ([] : Tx) && decide ((0 : Int) = 0)) = true from rfl]
        rw [if_pos rfl]
        generalize hr : szF cnt l (so + 1) = r
        refine bgo ?_
        refine b_call hwi rfl rfl rfl rfl ?_
        refine bgo ?_
        refine b_call hdy rfl rfl rfl rfl ?_
        refine bgo ?_
        refine b_lp (ι := Nat × Int) (fun i => [(1, .int i.2), (65, .d (.sl 4 (l.map Cd.e))), (66, .int 1), (67, .int i.1)]) (fun _ => []) (fun i => i.1 ≤ l.length ∧ 0 ≤ i.2 ∧ i.2 ≤ 15 ∧ szF cnt (l.drop i.1) i.2 = r) (fun i => l.length - i.1) (0, so + 1) hs ⟨Nat.zero_le _, by dsimp only; omega, by dsimp only; omega, hr⟩ ?_
        clear hr h0 h1 hnm hdy hwi
        rintro ⟨k, y⟩ ⟨hk2, hy0, hyx, hj⟩ I nx
        dsimp only at hk2 hy0 hyx hj ⊢
        by_cases hlt : k < l.length
        · have hx : l[k]? = some l[k] := List.getElem?_eq_getElem hlt
          have hltb : (k : Int) < 1 := by omega
          have hc := ih l[k] (List.getElem_mem hlt) y hy0 hyx
          have hin := cnt_in l[k] hy0 hyx
          rw [szF_step hlt] at hj
          have hb : (k : Int) + 1 ≤ 1099511627776000 := by omega
          generalize l[k] = x at *
          generalize cnt x y = z at *
          clear ih
          by_cases hz : z < 0
          · rw [if_pos hz] at hj
            subst hj
            refine bgo ?_
            refine b_call hc rfl rfl rfl rfl ?_
            refine bgo ?_
            trivial
          · rw [if_neg hz] at hj
            refine bgo ?_
            refine b_call hc rfl rfl rfl rfl ?_
            refine bgo ?_
            exact nx.go (k + 1, z) ⟨hlt, by dsimp only; omega, by dsimp only; omega, hj⟩ (by dsimp only; omega) hs
        · obtain rfl : k = l.length := by omega
          have hltb : ¬ (l.length : Int) < 1 := by omega
          rw [List.drop_length] at hj
          have hj : y = r := hj
          subst hj
          clear ih
          refine bgo ?_
          refine wk_rfl ?_
          refine bgo ?_
          trivial
      · have h3c : (d == 0) = false := by rw [beq_eq_false_iff_ne]; exact h3
        have h3d : (d != 0) = true := by rw [bne_iff_ne]; exact h3
        rw [decide_eq_false h3]
        clear ih
        refine bgo ?_
        refine b_call hwi rfl rfl rfl rfl ?_
        refine bgo ?_
        trivial
    · have h2b : n.isEmpty = false := by cases n <;> simp_all
      have h2c : (n == []) = false := by rw [beq_eq_false_iff_ne]; exact h2
      have h2d : (n != []) = true := by rw [bne_iff_ne]; exact h2
      rw [h2b]
      clear ih
      refine bgo ?_
      refine b_call hwi rfl rfl rfl rfl ?_
      refine bgo ?_
      trivial
  · have hkb : ¬ (l.length : Int) = 1 := by omega
    have hkc : ((l.length : Int) == 1) = false := by rw [beq_eq_false_iff_ne]; exact hkb
    rw [decide_eq_false hk]
    clear hk ih
    refine bgo ?_
    refine b_call hwi rfl rfl rfl rfl ?_
    refine bgo ?_
    trivial
theorem count5_b (n : Tx) (d : Int) (l : List Cd) (ih : ∀ x ∈ l, ∀ so : Int, 0 ≤ so → so ≤ 15 → BRet Tryd.prog 44 [] [.agg [.int x.op, .str x.nm, .int x.dy, .d (.sl 4 (x.ps.map Cd.e))], .int so] (.int (cnt x so)) [])
    (so : Int) (h0 : 0 ≤ so) (h1 : ¬ so + 1 > 15) : BRet Tryd.prog 44 [] [.agg [.int 5, .str n, .int d, .d (.sl 4 (l.map Cd.e))], .int so] (.int (if formS 5 n d l.length = true then szF cnt l (so + 1) else -1)) [] := by
  refine BRet.alen 0 3 (by kernel_rfl) rfl rfl fun hl => ?_
  rw [List.length_map] at hl
  have hnm := IsValidName_b n
  have hdy := isDay_b d
  have f1 : ((false : Bool) == true) = false := rfl
  have f2 : (!false) = true := rfl
  have f3 : ((true : Bool) == true) = true := rfl
  have f4 : (!true) = false := rfl
  have f5 : ((true : Bool) == false) = false := rfl
  have f6 : ((false : Bool) == false) = true := rfl
  have z00 : ((0 : Int) != 0) = false := rfl
  have z33 : ((5 : Int) != 3) = true := rfl
  have hwi := within_b 5 1 6
  rw [show inB 5 1 6 = true from rfl] at hwi
  have n52 : ¬ ((5 : Int) = 2) := by decide
  have m52 : ((5 : Int) == 2) = false := rfl
  have n53 : ¬ ((5 : Int) = 3) := by decide
  have m53 : ((5 : Int) == 3) = false := rfl
  have hf : formS 5 n d l.length = (decide (l.length = 2) && n.isEmpty && decide (d = 0)) := rfl
  rw [hf]
  clear hf
  refine bof Tryd.func44 ?_
  by_cases hk : l.length = 2
  · have hkb : (l.length : Int) = 2 := by omega
    rw [decide_eq_true hk]
    clear hk
    by_cases h2 : n = []
    · subst h2
      by_cases h3 : d = 0
      · subst h3
        rw [show inB 0 0 36524 = true from rfl] at hdy
        rw [show (true && List.isEmpty ([] : Tx) && decide ((0 : Int) = 0)) = true from rfl]
        rw [if_pos rfl]
        generalize hr : szF cnt l (so + 1) = r
        refine bgo ?_
        refine b_call hwi rfl rfl rfl rfl ?_
        refine bgo ?_
        refine b_call hdy rfl rfl rfl rfl ?_
        refine bgo ?_
        refine b_lp (ι := Nat × Int) (fun i => [(1, .int i.2), (65, .d (.sl 4 (l.map Cd.e))), (66, .int 2), (67, .int i.1)]) (fun _ => []) (fun i => i.1 ≤ l.length ∧ 0 ≤ i.2 ∧ i.2 ≤ 15 ∧ szF cnt (l.drop i.1) i.2 = r) (fun i => l.length - i.1) (0, so + 1) hs ⟨Nat.zero_le _, by dsimp only; omega, by dsimp only; omega, hr⟩ ?_
        clear hr h0 h1 hnm hdy hwi
        rintro ⟨k, y⟩ ⟨hk2, hy0, hyx, hj⟩ I nx
        dsimp only at hk2 hy0 hyx hj ⊢
        by_cases hlt : k < l.length
        · have hx : l[k]? = some l[k] := List.getElem?_eq_getElem hlt
          have hltb : (k : Int) < 2 := by omega
          have hc := ih l[k] (List.getElem_mem hlt) y hy0 hyx
          have hin := cnt_in l[k] hy0 hyx
          rw [szF_step hlt] at hj
          have hb : (k : Int) + 1 ≤ 1099511627776000 := by omega
          generalize l[k] = x at *
          generalize cnt x y = z at *
          clear ih
          by_cases hz : z < 0
          · rw [if_pos hz] at hj
            subst hj
            refine bgo ?_
            refine b_call hc rfl rfl rfl rfl ?_
            refine bgo ?_
            trivial
          · rw [if_neg hz] at hj
            refine bgo ?_
            refine b_call hc rfl rfl rfl rfl ?_
            refine bgo ?_
            exact nx.go (k + 1, z) ⟨hlt, by dsimp only; omega, by dsimp only; omega, hj⟩ (by dsimp only; omega) hs
        · obtain rfl : k = l.length := by omega
          have hltb : ¬ (l.length : Int) < 2 := by omega
          rw [List.drop_length] at hj
          have hj : y = r := hj
          subst hj
          clear ih
          refine bgo ?_
          refine wk_rfl ?_
          refine bgo ?_
          trivial
      · have h3c : (d == 0) = false := by rw [beq_eq_false_iff_ne]; exact h3
        have h3d : (d != 0) = true := by rw [bne_iff_ne]; exact h3
        rw [decide_eq_false h3]
        clear ih
        refine bgo ?_
        refine b_call hwi rfl rfl rfl rfl ?_
        refine bgo ?_
        trivial
    · have h2b : n.isEmpty = false := by cases n <;> simp_all
      have h2c : (n == []) = false := by rw [beq_eq_false_iff_ne]; exact h2
      have h2d : (n != []) = true := by rw [bne_iff_ne]; exact h2
      rw [h2b]
      clear ih
      refine bgo ?_
      refine b_call hwi rfl rfl rfl rfl ?_
      refine bgo ?_
      trivial
  · have hkb : ¬ (l.length : Int) = 2 := by omega
    have hkc : ((l.length : Int) == 2) = false := by rw [beq_eq_false_iff_ne]; exact hkb
    rw [decide_eq_false hk]
    clear hk ih
    refine bgo ?_
    refine b_call hwi rfl rfl rfl rfl ?_
    refine bgo ?_
    trivial
theorem count6_b (n : Tx) (d : Int) (l : List Cd) (ih : ∀ x ∈ l, ∀ so : Int, 0 ≤ so → so ≤ 15 → BRet Tryd.prog 44 [] [.agg [.int x.op, .str x.nm, .int x.dy, .d (.sl 4 (x.ps.map Cd.e))], .int so] (.int (cnt x so)) [])
    (so : Int) (h0 : 0 ≤ so) (h1 : ¬ so + 1 > 15) : BRet Tryd.prog 44 [] [.agg [.int 6, .str n, .int d, .d (.sl 4 (l.map Cd.e))], .int so] (.int (if formS 6 n d l.length = true then szF cnt l (so + 1) else -1)) [] := by
  refine BRet.alen 0 3 (by kernel_rfl) rfl rfl fun hl => ?_
  rw [List.length_map] at hl
  have hnm := IsValidName_b n
  have hdy := isDay_b d
  have f1 : ((false : Bool) == true) = false := rfl
  have f2 : (!false) = true := rfl
  have f3 : ((true : Bool) == true) = true := rfl
  have f4 : (!true) = false := rfl
  have f5 : ((true : Bool) == false) = false := rfl
  have f6 : ((false : Bool) == false) = true := rfl
  have z00 : ((0 : Int) != 0) = false := rfl
  have z33 : ((6 : Int) != 3) = true := rfl
  have hwi := within_b 6 1 6
  rw [show inB 6 1 6 = true from rfl] at hwi
  have n62 : ¬ ((6 : Int) = 2) := by decide
  have m62 : ((6 : Int) == 2) = false := rfl
  have n63 : ¬ ((6 : Int) = 3) := by decide
  have m63 : ((6 : Int) == 3) = false := rfl
  have hf : formS 6 n d l.length = (decide (l.length = 2) && n.isEmpty && decide (d = 0)) := rfl
  rw [hf]
  clear hf
  refine bof Tryd.func44 ?_
  by_cases hk : l.length = 2
  · have hkb : (l.length : Int) = 2 := by omega
    rw [decide_eq_true hk]
    clear hk
    by_cases h2 : n = []
    · subst h2
      by_cases h3 : d = 0
      · subst h3
        rw [show inB 0 0 36524 = true from rfl] at hdy
        rw [show (true && List.isEmpty ([] : Tx) && decide ((0 : Int) = 0)) = true from rfl]
        rw [if_pos rfl]
        generalize hr : szF cnt l (so + 1) = r
        refine bgo ?_
        refine b_call hwi rfl rfl rfl rfl ?_
        refine bgo ?_
        refine b_call hdy rfl rfl rfl rfl ?_
        refine bgo ?_
        refine b_lp (ι := Nat × Int) (fun i => [(1, .int i.2), (65, .d (.sl 4 (l.map Cd.e))), (66, .int 2), (67, .int i.1)]) (fun _ => []) (fun i => i.1 ≤ l.length ∧ 0 ≤ i.2 ∧ i.2 ≤ 15 ∧ szF cnt (l.drop i.1) i.2 = r) (fun i => l.length - i.1) (0, so + 1) hs ⟨Nat.zero_le _, by dsimp only; omega, by dsimp only; omega, hr⟩ ?_
        clear hr h0 h1 hnm hdy hwi
        rintro ⟨k, y⟩ ⟨hk2, hy0, hyx, hj⟩ I nx
        dsimp only at hk2 hy0 hyx hj ⊢
        by_cases hlt : k < l.length
        · have hx : l[k]? = some l[k] := List.getElem?_eq_getElem hlt
          have hltb : (k : Int) < 2 := by omega
          have hc := ih l[k] (List.getElem_mem hlt) y hy0 hyx
          have hin := cnt_in l[k] hy0 hyx
          rw [szF_step hlt] at hj
          have hb : (k : Int) + 1 ≤ 1099511627776000 := by omega
          generalize l[k] = x at *
          generalize cnt x y = z at *
          clear ih
          by_cases hz : z < 0
          · rw [if_pos hz] at hj
            subst hj
            refine bgo ?_
            refine b_call hc rfl rfl rfl rfl ?_
            refine bgo ?_
            trivial
          · rw [if_neg hz] at hj
            refine bgo ?_
            refine b_call hc rfl rfl rfl rfl ?_
            refine bgo ?_
            exact nx.go (k + 1, z) ⟨hlt, by dsimp only; omega, by dsimp only; omega, hj⟩ (by dsimp only; omega) hs
        · obtain rfl : k = l.length := by omega
          have hltb : ¬ (l.length : Int) < 2 := by omega
          rw [List.drop_length] at hj
          have hj : y = r := hj
          subst hj
          clear ih
          refine bgo ?_
          refine wk_rfl ?_
          refine bgo ?_
          trivial
      · have h3c : (d == 0) = false := by rw [beq_eq_false_iff_ne]; exact h3
        have h3d : (d != 0) = true := by rw [bne_iff_ne]; exact h3
        rw [decide_eq_false h3]
        clear ih
        refine bgo ?_
        refine b_call hwi rfl rfl rfl rfl ?_
        refine bgo ?_
        trivial
    · have h2b : n.isEmpty = false := by cases n <;> simp_all
      have h2c : (n == []) = false := by rw [beq_eq_false_iff_ne]; exact h2
      have h2d : (n != []) = true := by rw [bne_iff_ne]; exact h2
      rw [h2b]
      clear ih
      refine bgo ?_
      refine b_call hwi rfl rfl rfl rfl ?_
      refine bgo ?_
      trivial
  · have hkb : ¬ (l.length : Int) = 2 := by omega
    have hkc : ((l.length : Int) == 2) = false := by rw [beq_eq_false_iff_ne]; exact hkb
    rw [decide_eq_false hk]
    clear hk ih
    refine bgo ?_
    refine b_call hwi rfl rfl rfl rfl ?_
    refine bgo ?_
    trivial
theorem count2_b (n : Tx) (d : Int) (l : List Cd) (ih : ∀ x ∈ l, ∀ so : Int, 0 ≤ so → so ≤ 15 → BRet Tryd.prog 44 [] [.agg [.int x.op, .str x.nm, .int x.dy, .d (.sl 4 (x.ps.map Cd.e))], .int so] (.int (cnt x so)) [])
    (so : Int) (h0 : 0 ≤ so) (h1 : ¬ so + 1 > 15) : BRet Tryd.prog 44 [] [.agg [.int 2, .str n, .int d, .d (.sl 4 (l.map Cd.e))], .int so] (.int (if formS 2 n d l.length = true then szF cnt l (so + 1) else -1)) [] := by
  refine BRet.alen 0 3 (by kernel_rfl) rfl rfl fun hl => ?_
  rw [List.length_map] at hl
  have hnm := IsValidName_b n
  have hdy := isDay_b d
  have f1 : ((false : Bool) == true) = false := rfl
  have f2 : (!false) = true := rfl
  have f3 : ((true : Bool) == true) = true := rfl
  have f4 : (!true) = false := rfl
  have f5 : ((true : Bool) == false) = false := rfl
  have f6 : ((false : Bool) == false) = true := rfl
  have z00 : ((0 : Int) != 0) = false := rfl
  have z33 : ((2 : Int) != 3) = true := rfl
  have hwi := within_b 2 1 6
  rw [show inB 2 1 6 = true from rfl] at hwi
  have n23 : ¬ ((2 : Int) = 3) := by decide
  have m23 : ((2 : Int) == 3) = false := rfl
  have hf : formS 2 n d l.length = (decide (l.length = 0) && vName n && decide (d = 0)) := rfl
  rw [hf]
  clear hf
  refine bof Tryd.func44 ?_
  by_cases hk : l.length = 0
  · have hkb : (l.length : Int) = 0 := by omega
    rw [decide_eq_true hk]
    clear hk
    by_cases h2 : n = []
    · subst h2
      rw [show vName [] = false from rfl]
      clear ih
      refine bgo ?_
      refine b_call hwi rfl rfl rfl rfl ?_
      refine bgo ?_
      trivial
    · have h2c : (n == []) = false := by rw [beq_eq_false_iff_ne]; exact h2
      have h2d : (n != []) = true := by rw [bne_iff_ne]; exact h2
      cases hv : vName n
      · rw [hv] at hnm
        clear ih
        refine bgo ?_
        refine b_call hwi rfl rfl rfl rfl ?_
        refine bgo ?_
        refine b_call hnm rfl rfl rfl rfl ?_
        refine bgo ?_
        trivial
      · rw [hv] at hnm
        by_cases h3 : d = 0
        · subst h3
          rw [show inB 0 0 36524 = true from rfl] at hdy
          rw [show (true && true && decide ((0 : Int) = 0)) = true from rfl]
          rw [if_pos rfl]
          generalize hr : szF cnt l (so + 1) = r
          refine bgo ?_
          refine b_call hwi rfl rfl rfl rfl ?_
          refine bgo ?_
          refine b_call hnm rfl rfl rfl rfl ?_
          refine bgo ?_
          refine b_call hdy rfl rfl rfl rfl ?_
          refine bgo ?_
          refine b_lp (ι := Nat × Int) (fun i => [(1, .int i.2), (65, .d (.sl 4 (l.map Cd.e))), (66, .int 0), (67, .int i.1)]) (fun _ => []) (fun i => i.1 ≤ l.length ∧ 0 ≤ i.2 ∧ i.2 ≤ 15 ∧ szF cnt (l.drop i.1) i.2 = r) (fun i => l.length - i.1) (0, so + 1) hs ⟨Nat.zero_le _, by dsimp only; omega, by dsimp only; omega, hr⟩ ?_
          clear hr h0 h1 hnm hdy hwi
          rintro ⟨k, y⟩ ⟨hk2, hy0, hyx, hj⟩ I nx
          dsimp only at hk2 hy0 hyx hj ⊢
          by_cases hlt : k < l.length
          · exfalso; omega
          · obtain rfl : k = l.length := by omega
            have hltb : ¬ (l.length : Int) < 0 := by omega
            rw [List.drop_length] at hj
            have hj : y = r := hj
            subst hj
            clear ih
            refine bgo ?_
            refine wk_rfl ?_
            refine bgo ?_
            trivial
        · have h3c : (d == 0) = false := by rw [beq_eq_false_iff_ne]; exact h3
          have h3d : (d != 0) = true := by rw [bne_iff_ne]; exact h3
          rw [decide_eq_false h3]
          clear ih
          refine bgo ?_
          refine b_call hwi rfl rfl rfl rfl ?_
          refine bgo ?_
          refine b_call hnm rfl rfl rfl rfl ?_
          refine bgo ?_
          trivial
  · have hkb : ¬ (l.length : Int) = 0 := by omega
    have hkc : ((l.length : Int) == 0) = false := by rw [beq_eq_false_iff_ne]; exact hkb
    rw [decide_eq_false hk]
    clear hk ih
    refine bgo ?_
    refine b_call hwi rfl rfl rfl rfl ?_
    refine bgo ?_
    trivial
theorem count3_b (n : Tx) (d : Int) (l : List Cd) (ih : ∀ x ∈ l, ∀ so : Int, 0 ≤ so → so ≤ 15 → BRet Tryd.prog 44 [] [.agg [.int x.op, .str x.nm, .int x.dy, .d (.sl 4 (x.ps.map Cd.e))], .int so] (.int (cnt x so)) [])
    (so : Int) (h0 : 0 ≤ so) (h1 : ¬ so + 1 > 15) : BRet Tryd.prog 44 [] [.agg [.int 3, .str n, .int d, .d (.sl 4 (l.map Cd.e))], .int so] (.int (if formS 3 n d l.length = true then szF cnt l (so + 1) else -1)) [] := by
  refine BRet.alen 0 3 (by kernel_rfl) rfl rfl fun hl => ?_
  rw [List.length_map] at hl
  have hnm := IsValidName_b n
  have hdy := isDay_b d
  have f1 : ((false : Bool) == true) = false := rfl
  have f2 : (!false) = true := rfl
  have f3 : ((true : Bool) == true) = true := rfl
  have f4 : (!true) = false := rfl
  have f5 : ((true : Bool) == false) = false := rfl
  have f6 : ((false : Bool) == false) = true := rfl
  have z00 : ((0 : Int) != 0) = false := rfl
  have z33 : ((3 : Int) != 3) = false := rfl
  have hwi := within_b 3 1 6
  rw [show inB 3 1 6 = true from rfl] at hwi
  have n32 : ¬ ((3 : Int) = 2) := by decide
  have m32 : ((3 : Int) == 2) = false := rfl
  have hf : formS 3 n d l.length = (decide (l.length = 0) && n.isEmpty && inB d 0 36524) := rfl
  rw [hf]
  clear hf
  refine bof Tryd.func44 ?_
  by_cases hk : l.length = 0
  · have hkb : (l.length : Int) = 0 := by omega
    rw [decide_eq_true hk]
    clear hk
    by_cases h2 : n = []
    · subst h2
      cases hd : inB d 0 36524
      · rw [hd] at hdy
        clear ih
        refine bgo ?_
        refine b_call hwi rfl rfl rfl rfl ?_
        refine bgo ?_
        refine b_call hdy rfl rfl rfl rfl ?_
        refine bgo ?_
        trivial
      · rw [hd] at hdy
        rw [show (true && List.isEmpty ([] : Tx) && true) = true from rfl]
        rw [if_pos rfl]
        generalize hr : szF cnt l (so + 1) = r
        refine bgo ?_
        refine b_call hwi rfl rfl rfl rfl ?_
        refine bgo ?_
        refine b_call hdy rfl rfl rfl rfl ?_
        refine bgo ?_
        refine b_lp (ι := Nat × Int) (fun i => [(1, .int i.2), (65, .d (.sl 4 (l.map Cd.e))), (66, .int 0), (67, .int i.1)]) (fun _ => []) (fun i => i.1 ≤ l.length ∧ 0 ≤ i.2 ∧ i.2 ≤ 15 ∧ szF cnt (l.drop i.1) i.2 = r) (fun i => l.length - i.1) (0, so + 1) hs ⟨Nat.zero_le _, by dsimp only; omega, by dsimp only; omega, hr⟩ ?_
        clear hr h0 h1 hnm hdy hwi
        rintro ⟨k, y⟩ ⟨hk2, hy0, hyx, hj⟩ I nx
        dsimp only at hk2 hy0 hyx hj ⊢
        by_cases hlt : k < l.length
        · exfalso; omega
        · obtain rfl : k = l.length := by omega
          have hltb : ¬ (l.length : Int) < 0 := by omega
          rw [List.drop_length] at hj
          have hj : y = r := hj
          subst hj
          clear ih
          refine bgo ?_
          refine wk_rfl ?_
          refine bgo ?_
          trivial
    · have h2b : n.isEmpty = false := by cases n <;> simp_all
      have h2c : (n == []) = false := by rw [beq_eq_false_iff_ne]; exact h2
      have h2d : (n != []) = true := by rw [bne_iff_ne]; exact h2
      rw [h2b]
      clear ih
      refine bgo ?_
      refine b_call hwi rfl rfl rfl rfl ?_
      refine bgo ?_
      trivial
  · have hkb : ¬ (l.length : Int) = 0 := by omega
    have hkc : ((l.length : Int) == 0) = false := by rw [beq_eq_false_iff_ne]; exact hkb
    rw [decide_eq_false hk]
    clear hk ih
    refine bgo ?_
    refine b_call hwi rfl rfl rfl rfl ?_
    refine bgo ?_
    trivial
end Go.Bee.C24n

/- Conditions: valid ones; the law of their English. -/
namespace Go.Bee.C24n
open Go Go.Bee Go.Proofs Go.Bee.Ty Go.Bee.C23 Go.Bee.C23s Go.Bee.Da Go.Bee.C24 Go.Bee.C24c Go.Bee.C24d Go.Bee.Cn
set_option linter.unusedVariables false
set_option maxRecDepth 20000
attribute [local irreducible] Go.Bee.bwp
theorem countCondition_b (c : Cd) : ∀ so : Int, 0 ≤ so → so ≤ 15 → BRet Tryd.prog 44 [] [.agg [.int c.op, .str c.nm, .int c.dy, .d (.sl 4 (c.ps.map Cd.e))], .int so] (.int (cnt c so)) [] := by
  refine Cd.ind (P := fun c => ∀ so : Int, 0 ≤ so → so ≤ 15 → BRet Tryd.prog 44 [] [.agg [.int c.op, .str c.nm, .int c.dy, .d (.sl 4 (c.ps.map Cd.e))], .int so] (.int (cnt c so)) []) (fun c ih so h0 h1 => ?_) c
  rw [cnt_eq]
  generalize c.op = o at *
  generalize c.nm = n at *
  generalize c.dy = d at *
  generalize c.ps = l at *
  by_cases h15 : so + 1 > 15
  · rw [if_pos (by omega)]
    refine BRet.alen 0 3 (by kernel_rfl) rfl rfl fun hl => ?_
    clear ih
    refine bof Tryd.func44 ?_
    refine bgo ?_
    trivial
  rw [if_neg (by omega)]
  by_cases ho : 1 ≤ o ∧ o ≤ 6
  · rcases (by omega : o = 1 ∨ o = 2 ∨ o = 3 ∨ o = 4 ∨ o = 5 ∨ o = 6) with rfl | rfl | rfl | rfl | rfl | rfl
    · exact count1_b n d l ih so h0 h15
    · exact count2_b n d l ih so h0 h15
    · exact count3_b n d l ih so h0 h15
    · exact count4_b n d l ih so h0 h15
    · exact count5_b n d l ih so h0 h15
    · exact count6_b n d l ih so h0 h15
  · refine BRet.alen 0 3 (by kernel_rfl) rfl rfl fun hl => ?_
    have hwi := within_b o 1 6
    have hfl : inB o 1 6 = false := by
      unfold inB
      by_cases h : o ≥ 1
      · have h2 : ¬ o ≤ 6 := by omega
        simp [h2]
      · simp [h]
    rw [hfl] at hwi
    rw [if_neg (by rw [formS_op ho]; decide)]
    clear ih
    refine bof Tryd.func44 ?_
    refine bgo ?_
    refine b_call hwi rfl rfl rfl rfl ?_
    refine bgo ?_
    trivial
theorem IsValidCondition_b (c : Cd) : BRet Tryd.prog 27 [] [.agg [.int c.op, .str c.nm, .int c.dy, .d (.sl 4 (c.ps.map Cd.e))]] (.bool (okCd c)) [] := by
  have hc := countCondition_b c 0 (by decide) (by decide)
  rw [← cnt_ok]
  generalize c.op = o at *
  generalize c.nm = n at *
  generalize c.dy = d at *
  generalize c.ps = l at *
  generalize cnt c 0 = z at *
  refine bof Tryd.func27 ?_
  refine bgo ?_
  refine b_call hc rfl rfl rfl rfl ?_
  refine bgo ?_
  trivial
def engR (c : Cd) : Tx := if okCd c = true then eng c else []
theorem okCd_in {c : Cd} (h : okCd c = true) : forms c = true ∧ c.size ≤ 15 := by
  unfold okCd at h
  rw [Bool.and_eq_true] at h
  exact ⟨h.1, of_decide_eq_true h.2⟩
theorem ConditionToEnglish_b (c : Cd) : BRet Tryd.prog 15 [] [.agg [.int c.op, .str c.nm, .int c.dy, .d (.sl 4 (c.ps.map Cd.e))]] (.tup [.str (engR c), .bool (okCd c)]) [] := by
  have hv := IsValidCondition_b c
  have he := fun h1 h2 => conditionEnglish_b c h1 h2
  have hok := @okCd_in c
  unfold engR
  generalize c.op = o at *
  generalize c.nm = n at *
  generalize c.dy = d at *
  generalize c.ps = l at *
  refine bof Tryd.func15 ?_
  cases h : okCd c
  · rw [h] at hv
    clear he hok
    refine bgo ?_
    refine b_call hv rfl rfl rfl rfl ?_
    refine bgo ?_
    trivial
  · rw [h] at hv
    have he := he (hok h).1 (hok h).2
    rw [if_pos rfl]
    clear hok
    refine bgo ?_
    refine b_call hv rfl rfl rfl rfl ?_
    refine bgo ?_
    refine b_call he rfl rfl rfl rfl ?_
    refine bgo ?_
    trivial
theorem specConditionToEnglish_b (c : Cd) (hsz : c.size ≤ 1048577) : BRet Tryd.prog 13 [] [.agg [.int c.op, .str c.nm, .int c.dy, .d (.sl 4 (c.ps.map Cd.e))]] (.tup [.str (engR c), .bool (okCd c)]) [] := by
  have hv := l5Good_b c hsz
  have he := fun h1 h2 => l24Condition_b c h1 h2
  have hok := @okCd_in c
  unfold engR
  generalize c.op = o at *
  generalize c.nm = n at *
  generalize c.dy = d at *
  generalize c.ps = l at *
  refine bof Tryd.func13 ?_
  cases h : okCd c
  · rw [h] at hv
    clear he hok
    refine bgo ?_
    refine b_call hv rfl rfl rfl rfl ?_
    refine bgo ?_
    trivial
  · rw [h] at hv
    have he := he (hok h).1 (hok h).2
    rw [if_pos rfl]
    clear hok
    refine bgo ?_
    refine b_call hv rfl rfl rfl rfl ?_
    refine bgo ?_
    refine b_call he rfl rfl rfl rfl ?_
    refine bgo ?_
    trivial
theorem lawCondition_b (c : Cd) : BRet Tryd.prog 4 [] [.agg [.int c.op, .str c.nm, .int c.dy, .d (.sl 4 (c.ps.map Cd.e))]] (.bool true) [] := by
  have h1 := szCondition_b c 1048576 (by decide) (by decide)
  have h2 := szC_size c 1048576 (by decide)
  have h3 := fun h => specConditionToEnglish_b c h
  have h4 := ConditionToEnglish_b c
  have h5 := fun h => toCondition_b c h
  have h6 := eqCondition_s c
  generalize c.op = o at *
  generalize c.nm = n at *
  generalize c.dy = d at *
  generalize c.ps = l at *
  generalize engR c = r at *
  generalize okCd c = ok at *
  generalize szC c 1048576 = z at *
  generalize c.size = N at *
  refine bof Tryd.func4 ?_
  by_cases hz : z < 0
  · clear h2 h3 h5
    refine bgo ?_
    refine b_call h1 rfl rfl rfl rfl ?_
    refine bgo ?_
    trivial
  · have hN : N ≤ 1048577 := by have := h2 (by omega); omega
    have h3 := h3 hN
    have h5 := h5 hN
    clear h2
    refine bgo ?_
    refine b_call h1 rfl rfl rfl rfl ?_
    refine bgo ?_
    refine b_call h5 rfl rfl rfl rfl ?_
    refine bgo ?_
    refine b_call h3 rfl rfl rfl rfl ?_
    refine bgo ?_
    refine b_call h5 rfl rfl rfl rfl ?_
    refine bgo ?_
    refine b_call h4 rfl rfl rfl rfl ?_
    refine bgo ?_
    refine b_call h5 rfl rfl rfl rfl ?_
    refine bgo ?_
    refine b_call h6 rfl rfl rfl rfl ?_
    refine bgo ?_
    trivial
theorem opnCdN (n : Nat) : OpnN Tryd.prog 36 Cd.e (fun _ => True) n := by
  induction n using Nat.strongRecOn with
  | _ n ih =>
    refine (opn_struct (n := n) (len := 4) (fun y : Int × List UInt8 × Int × List Cd => Cd.mk y.1 y.2.1 y.2.2.1 y.2.2.2) Tryd.underlying36 (by kernel_rfl) ?_
      (fun m hm => opnS_cons (off2 := 1) rfl ?_ (opn_int Tryd.underlying3 m) (opnS_cons (off2 := 2) rfl ?_ (opn_str Tryd.underlying9 m) (opnS_cons (off2 := 3) rfl ?_ (opn_int Tryd.underlying3 m)
        (opnS_one rfl ?_ (opn_slice (sz := 4) Tryd.underlying34 (by kernel_rfl) (by decide) (of_decide_eq_true (by kernel_rfl)) (fun k hk => ih k (by omega)))))))).imp fun _ _ => trivial
    · intro y; rw [Cd.e_eq]; rfl
    · kernel_rfl
    · kernel_rfl
    · kernel_rfl
    · kernel_rfl
theorem opnCd : Opn Tryd.prog 36 (fun c : Cd => .agg [.int .i64 c.op, .str c.nm, .int .i64 c.dy, .sl 4 (c.ps.map Cd.e)]) (fun _ => True) := by
  intro n H enc w spare held cs x hx hw
  obtain ⟨a, hB, hc⟩ := opnCdN n H enc w spare held cs x hx hw
  rw [Cd.e_eq] at hc
  exact ⟨a, hB, hc⟩
end Go.Bee.C24n
