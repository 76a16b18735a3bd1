/-
The logic and the walks, part 7. No condition.
-/
import Derived.Test.YtkgjplamdmakpaaGreatDoorBeeG0FPRf
import Derived.Test.YtkgjplamdmakpaaGreatDoorBeeG0FPRe
import Derived.Test.YtkgjplamdmakpaaGreatDoorBeeG0FPRd
import Derived.ChangeArms
import Derived.SizedLaws
import Derived.Deep.Slices
import Derived.ChangeOld
import Derived.Below
import Derived.Carry
import Derived.ProofKit
/- Chapter 23: FrameworkOf: both sides. -/
namespace Go.Bee.Fw
open Go Go.Bee Go.Proofs Go.Bee.Ty
theorem bF0 : evBuild Tryz.prog 69 [] = some (.agg [.d (.int .i64 0), .nilS]) := by kernel_rfl
theorem bF1 : ∀ n : Int, evBuild Tryz.prog 69 [(0, .d (.int .i64 n))] = some (.agg [.d (.int .i64 n), .nilS]) := fun n => by kernel_rfl
theorem bF2 : ∀ (n : Int) (e : Nat), evBuild Tryz.prog 69 [(0, .d (.int .i64 n)), (1, .own e 2 [])] = some (.agg [.d (.int .i64 n), .d (.sl 2 [])]) := fun n e => by kernel_rfl
theorem bA : ∀ a b : Int, evBuild Tryz.prog 120 [(0, .d (.int .i64 a)), (1, .d (.int .i64 b))] = some (.agg [.d (.int .i64 a), .d (.int .i64 b)]) := fun a b => by kernel_rfl
theorem sA : ∀ a b : Int, evBuildSlice Tryz.prog 67 1 [(0, .agg [.d (.int .i64 a), .d (.int .i64 b)])] = some (.own 120 2 [.agg [.int .i64 a, .int .i64 b]]) := fun a b => by kernel_rfl
theorem slAt : SlT Tryz.prog 67 120 2 16 := ⟨_, _, ty67, rfl, ty120, rfl, rfl, rfl, by decide⟩
theorem tys : type_of% (And.intro Go.Bee.Ar.tys (And.intro bF0 (And.intro bF1 (And.intro bF2 (And.intro bA (And.intro sA slAt.facts)))))) := And.intro Go.Bee.Ar.tys (And.intro bF0 (And.intro bF1 (And.intro bF2 (And.intro bA (And.intro sA slAt.facts)))))
end Go.Bee.Fw
namespace Go.Bee.Fw
open Go Go.Bee Go.Proofs Go.Bee.Ty Go.Bee.C23 Go.Bee.C23s Go.Bee.C23a Go.Bee.Mt Go.Bee.Mr Go.Bee.Cq Go.Bee.Ml Go.Bee.Ar Go.Bee.Dr
set_option linter.unusedVariables false
set_option maxRecDepth 20000
attribute [local irreducible] Go.Bee.bwp
def atk (r s : Ru) : Bool := (decide (r.c = opp s.c) && decide (r.wt ≥ s.wt)) || (s.es.contains r.c || s.ps.contains (opp r.c))
def fwRow (r : Ru) (i : Nat) : List Ru → Nat → List (Nat × Nat)
  | [], _ => []
  | s :: l, j => if atk r s = true then (i, j) :: fwRow r i l (j + 1) else fwRow r i l (j + 1)
def fwAll (rs : List Ru) : List Ru → Nat → List (Nat × Nat)
  | [], _ => []
  | r :: l, i => fwRow r i rs 0 ++ fwAll rs l (i + 1)
def ats (l : List (Nat × Nat)) : List PD := l.map fun p => .agg [.int .i64 (p.1 : Int), .int .i64 (p.2 : Int)]
theorem ats_app (a b : List (Nat × Nat)) : ats (a ++ b) = ats a ++ ats b := List.map_append
def fwN (c : Cs) : Nat := if (head c && okI c) = true then c.rs.length else 0
def fwO (c : Cs) : List (Nat × Nat) := if (head c && okI c) = true then fwAll c.rs c.rs 0 else []
theorem l23Attacks_b (r s : Ru) : BRet Tryz.prog 98 [] [.agg [.d (.sl 2 (r.ps.map Th.e)), .d (.sl 2 (r.es.map Th.e)), .str r.c.n, .bool r.c.g, .int r.wt], .agg [.d (.sl 2 (s.ps.map Th.e)), .d (.sl 2 (s.es.map Th.e)), .str s.c.n, .bool s.c.g, .int s.wt]] (.bool (atk r s)) [] := by
  refine bof Tryz.func98 ?_
  have key : atk r s = ((decide (r.c = opp s.c) && decide (r.wt ≥ s.wt)) || (s.es.contains r.c || s.ps.contains (opp r.c))) := rfl
  generalize atk r s = res at *
  by_cases hx : r.c = opp s.c ∧ r.wt ≥ s.wt
  · obtain ⟨he, hw⟩ := hx
    have : res = true := by rw [key, decide_eq_true he, decide_eq_true hw]; rfl
    subst this
    have he2 : (⟨r.c.n, r.c.g⟩ : Th) = ⟨s.c.n, !s.c.g⟩ := he
    clear key he
    refine bgo ?_
    refine b_call (specOpp_b s.c) rfl rfl rfl rfl ?_
    refine bgo ?_
    trivial
  · have hrest : res = (s.es.contains r.c || s.ps.contains (opp r.c)) := by
      rw [key]
      by_cases he : r.c = opp s.c
      · have hw : ¬ r.wt ≥ s.wt := fun h => hx ⟨he, h⟩
        rw [decide_eq_false hw]; simp
      · rw [decide_eq_false he]; simp
    clear key
    have h3 := l23Has_b s.es r.c
    have h4 := l23Has_b s.ps (opp r.c)
    by_cases he : r.c = opp s.c
    all_goals
      have he2 := he
      first
        | replace he2 : (⟨r.c.n, r.c.g⟩ : Th) = ⟨s.c.n, !s.c.g⟩ := he
        | replace he2 : ¬ (⟨r.c.n, r.c.g⟩ : Th) = ⟨s.c.n, !s.c.g⟩ := he
      have hw : r.c = opp s.c → ¬ r.wt ≥ s.wt := fun e h => hx ⟨e, h⟩
      first
        | replace hw := hw he
        | skip
      clear he hx
      cases e3 : s.es.contains r.c
      all_goals
        cases e4 : s.ps.contains (opp r.c)
        all_goals
          rw [e3] at h3
          rw [e4] at h4
          rw [e3, e4] at hrest
          subst hrest
          refine bgo ?_
          refine b_call (specOpp_b s.c) rfl rfl rfl rfl ?_
          refine bgo ?_
          refine b_call h3 rfl rfl rfl rfl ?_
          refine bgo ?_
          first
            | trivial
            | (refine b_call (specOpp_b r.c) rfl rfl rfl rfl ?_
               refine bgo ?_
               refine b_call h4 rfl rfl rfl rfl ?_
               refine bgo ?_
               trivial)
theorem PLe.fwNil {e sz : Nat} {n : PV} {x : PV} : PLe (.tup [.agg [n, .nilS], x]) (.tup [.agg [n, .own e sz []], x]) := ⟨fun P G w loc v h => by
  obtain ⟨vs, rfl, h1, h2⟩ := h
  refine ⟨vs, rfl, by simpa using h1, fun i y u hy hu => ?_⟩
  match i, hy with
  | 0, hy =>
    simp at hy; subst hy
    obtain ⟨cs, e1, e2, e3, e4⟩ := h2 0 (.agg [n, .nilS]) u rfl hu
    refine ⟨cs, e1, by simpa using e2, e3, fun j z q hz hq => ?_⟩
    match j, hz with
    | 0, hz => exact e4 0 z q (by simpa using hz) hq
    | 1, hz =>
      simp at hz; subst hz
      exact CLe.nilO.c P G w _ q (e4 1 .nilS q rfl hq)
    | j + 2, hz => simp at hz
  | i + 1, hy => exact h2 (i + 1) y u (by simpa using hy) hu⟩
theorem fwRow_len (r : Ru) (i : Nat) : ∀ (l : List Ru) (j : Nat), (fwRow r i l j).length ≤ l.length
  | [], _ => Nat.le_refl _
  | s :: l, j => by
    have := fwRow_len r i l (j + 1)
    unfold fwRow
    split <;> simp <;> omega
set_option maxHeartbeats 4000000 in
theorem FrameworkOf_b (c : Cs) : BRet Tryz.prog 43 [] [caseP c] (.tup [.agg [.int (fwN c), .own 120 2 (ats (fwO c))], .bool (head c && okI c)]) [] := by
  have hd : fwO c = if (head c && okI c) = true then fwAll c.rs c.rs 0 else [] := rfl
  have hn : fwN c = if (head c && okI c) = true then c.rs.length else 0 := rfl
  cases hv : head c && okI c
  · rw [hv, if_neg (by decide)] at hd hn
    rw [hd, hn]
    refine BRet.less ?_ PLe.fwNil
    refine bof Tryz.func43 ?_
    refine bgo ?_
    refine b_call (IsValidCase_b c) rfl rfl rfl rfl ?_
    rw [hv]
    refine bgo ?_
    exact ret_ct rfl rfl rfl ty69 rfl rfl rfl rfl rfl (fun k => rfl)
  · have hf := head_fine hv
    rw [hv, if_pos rfl] at hd hn
    have hhv : head c = true := by simp only [Bool.and_eq_true] at hv; exact hv.1
    have hrl : c.rs.length ≤ 10 := by simp only [head, Bool.and_eq_true, decide_eq_true_eq] at hhv; omega
    rw [hd, hn]
    generalize hr : fwAll c.rs c.rs 0 = res
    refine bof Tryz.func43 ?_
    refine bgo ?_
    refine b_call (IsValidCase_b c) rfl rfl rfl rfl ?_
    rw [hv]
    refine bgo ?_
    refine b_lp (ι := Nat × List (Nat × Nat)) (fun i => [(1, .ptr (.t 1) 0), (2, .ptr (.t 2) 0), (4, .ptr (.t 4) 0), (19, .d (.sl 5 (c.rs.map Ru.e))), (20, .int c.rs.length), (21, .int i.1)]) (fun i => [(.t 1, caseDs c), (.t 2, [.int 0, .nilS]), (.t 4, [.int c.rs.length, .own 120 2 (ats i.2)])])
      (fun i => i.1 ≤ c.rs.length ∧ i.2 ++ fwAll c.rs (c.rs.drop i.1) i.1 = res ∧ i.2.length ≤ i.1 * 10) (fun i => c.rs.length - i.1) (0, []) hs ⟨Nat.zero_le _, hr, Nat.le_refl _⟩ ?_
    clear hr
    rintro ⟨i, out⟩ ⟨hi, hj, hl⟩ I nx
    dsimp only at hi hj hl ⊢
    by_cases hlt : i < c.rs.length
    · have hx : c.rs[i]? = some c.rs[i] := List.getElem?_eq_getElem hlt
      rw [List.drop_eq_getElem_cons hlt] at hj
      replace hj : out ++ (fwRow c.rs[i] i c.rs 0 ++ fwAll c.rs (c.rs.drop (i + 1)) (i + 1)) = res := hj
      generalize hri : c.rs[i] = ri at *
      have hib : (i : Int) + 1 ≤ 1000 := by omega
      refine bgo ?_
      refine b_lp (ι := Nat × List (Nat × Nat)) (fun k => [(1, .ptr (.t 1) 0), (2, .ptr (.t 2) 0), (4, .ptr (.t 4) 0), (5, .int i), (6, .ptr (.t 6) 0), (19, .d (.sl 5 (c.rs.map Ru.e))), (20, .int c.rs.length), (21, .int i), (27, .d (.sl 5 (c.rs.map Ru.e))), (28, .int c.rs.length), (29, .int k.1)])
        (fun k => [(.t 1, caseDs c), (.t 2, [.int 0, .nilS]), (.t 4, [.int c.rs.length, .own 120 2 (ats k.2)]), (.t 6, [.d (.sl 2 (ri.ps.map Th.e)), .d (.sl 2 (ri.es.map Th.e)), .str ri.c.n, .bool ri.c.g, .int ri.wt])])
        (fun k => k.1 ≤ c.rs.length ∧ k.2 ++ fwRow ri i (c.rs.drop k.1) k.1 = out ++ fwRow ri i c.rs 0 ∧ k.2.length ≤ i * 10 + k.1) (fun k => c.rs.length - k.1) (0, out) hs ⟨Nat.zero_le _, rfl, by simpa using hl⟩ ?_
      rintro ⟨j, o2⟩ ⟨hj1, hj2, hl2⟩ I2 nx2
      dsimp only at hj1 hj2 hl2 ⊢
      by_cases hlt2 : j < c.rs.length
      · have hy : c.rs[j]? = some c.rs[j] := List.getElem?_eq_getElem hlt2
        rw [List.drop_eq_getElem_cons hlt2] at hj2
        generalize hrj : c.rs[j] = rj at *
        have hjb : (j : Int) + 1 ≤ 1000 := by omega
        have key : atk ri rj = ((decide (ri.c = opp rj.c) && decide (ri.wt ≥ rj.wt)) || (rj.es.contains ri.c || rj.ps.contains (opp ri.c))) := rfl
        have hoa := ats_app o2 [(i, j)]
        have hol : (ats o2).length = o2.length := by simp [ats]
        have hF : atk ri rj = false → o2 ++ fwRow ri i (c.rs.drop (j + 1)) (j + 1) = out ++ fwRow ri i c.rs 0 := fun ha => by rw [← hj2, show fwRow ri i (rj :: c.rs.drop (j + 1)) j = fwRow ri i (c.rs.drop (j + 1)) (j + 1) from if_neg (by simp [ha])]
        have hT : atk ri rj = true → (o2 ++ [(i, j)]) ++ fwRow ri i (c.rs.drop (j + 1)) (j + 1) = out ++ fwRow ri i c.rs 0 := fun ha => by rw [← hj2, show fwRow ri i (rj :: c.rs.drop (j + 1)) j = (i, j) :: fwRow ri i (c.rs.drop (j + 1)) (j + 1) from if_pos ha]; simp
        have h3 := containsTh_b rj.es ri.c
        have h4 := containsTh_b rj.ps (opp ri.c)
        clear hj2 hj
        by_cases hx9 : ri.c = opp rj.c ∧ ri.wt ≥ rj.wt
        · obtain ⟨he, hw⟩ := hx9
          have hj3 := hT (by rw [key, decide_eq_true he, decide_eq_true hw]; rfl)
          have he2 : (⟨ri.c.n, ri.c.g⟩ : Th) = ⟨rj.c.n, !rj.c.g⟩ := he
          clear key he hF hT h3 h4
          refine bgo ?_
          refine b_call (opposite_b rj.c) rfl rfl rfl rfl ?_
          refine bgo ?_
          refine nx2.go (j + 1, o2 ++ [(i, j)]) ⟨hlt2, hj3, by simp; omega⟩ (by dsimp only; omega) ?_
          exact ⟨⟨⟨PLe.rfl, rfl⟩, ⟨PLe.rfl, rfl⟩, ⟨PLe.rfl, rfl⟩, ⟨PLe.rfl, rfl⟩, ⟨PLe.rfl, rfl⟩, ⟨PLe.rfl, rfl⟩, ⟨PLe.rfl, rfl⟩, ⟨PLe.rfl, rfl⟩, ⟨PLe.rfl, rfl⟩, ⟨PLe.rfl, rfl⟩, ⟨PLe.rfl, rfl⟩, trivial⟩, ⟨_, rfl, HasC.same rfl⟩, ⟨_, rfl, HasC.same rfl⟩, ⟨_, rfl, ⟨⟨CLe.rfl, rfl⟩, ⟨CLe.eq (congrArg (PV.own 120 2) hoa.symm), rfl⟩, trivial⟩⟩, ⟨_, rfl, HasC.same rfl⟩, trivial⟩
        · have hrest : atk ri rj = (rj.es.contains ri.c || rj.ps.contains (opp ri.c)) := by
            rw [key]
            by_cases he : ri.c = opp rj.c
            · have hw : ¬ ri.wt ≥ rj.wt := fun h => hx9 ⟨he, h⟩
              rw [decide_eq_false hw]; simp
            · rw [decide_eq_false he]; simp
          clear key
          by_cases he : ri.c = opp rj.c
          all_goals
            have he2 := he
            first
              | replace he2 : (⟨ri.c.n, ri.c.g⟩ : Th) = ⟨rj.c.n, !rj.c.g⟩ := he
              | replace he2 : ¬ (⟨ri.c.n, ri.c.g⟩ : Th) = ⟨rj.c.n, !rj.c.g⟩ := he
            have hw : ri.c = opp rj.c → ¬ ri.wt ≥ rj.wt := fun e h => hx9 ⟨e, h⟩
            first
              | replace hw := hw he
              | skip
            clear he hx9
            cases e3 : rj.es.contains ri.c
            all_goals
              cases e4 : rj.ps.contains (opp ri.c)
              all_goals
                rw [e3] at h3
                rw [e4] at h4
                rw [e3, e4] at hrest
                first
                  | (have hj3 := hF hrest
                     clear hF hT hrest
                     refine bgo ?_
                     refine b_call (opposite_b rj.c) rfl rfl rfl rfl ?_
                     refine bgo ?_
                     refine b_call h3 rfl rfl rfl rfl ?_
                     refine bgo ?_
                     refine b_call (opposite_b ri.c) rfl rfl rfl rfl ?_
                     refine bgo ?_
                     refine b_call h4 rfl rfl rfl rfl ?_
                     refine bgo ?_
                     exact nx2.go (j + 1, o2) ⟨hlt2, hj3, by dsimp only; omega⟩ (by dsimp only; omega) hs)
                  | (have hj3 := hT hrest
                     clear hF hT hrest
                     refine bgo ?_
                     refine b_call (opposite_b rj.c) rfl rfl rfl rfl ?_
                     refine bgo ?_
                     refine b_call h3 rfl rfl rfl rfl ?_
                     refine bgo ?_
                     first
                       | skip
                     try (refine b_call (opposite_b ri.c) rfl rfl rfl rfl ?_; refine bgo ?_; refine b_call h4 rfl rfl rfl rfl ?_; refine bgo ?_)
                     refine nx2.go (j + 1, o2 ++ [(i, j)]) ⟨hlt2, hj3, by simp; omega⟩ (by dsimp only; omega) ?_
                     exact ⟨⟨⟨PLe.rfl, rfl⟩, ⟨PLe.rfl, rfl⟩, ⟨PLe.rfl, rfl⟩, ⟨PLe.rfl, rfl⟩, ⟨PLe.rfl, rfl⟩, ⟨PLe.rfl, rfl⟩, ⟨PLe.rfl, rfl⟩, ⟨PLe.rfl, rfl⟩, ⟨PLe.rfl, rfl⟩, ⟨PLe.rfl, rfl⟩, ⟨PLe.rfl, rfl⟩, trivial⟩, ⟨_, rfl, HasC.same rfl⟩, ⟨_, rfl, HasC.same rfl⟩, ⟨_, rfl, ⟨⟨CLe.rfl, rfl⟩, ⟨CLe.eq (congrArg (PV.own 120 2) hoa.symm), rfl⟩, trivial⟩⟩, ⟨_, rfl, HasC.same rfl⟩, trivial⟩)
      · have hj4 : j = c.rs.length := by omega
        subst hj4
        rw [List.drop_length] at hj2
        replace hj2 : o2 = out ++ fwRow ri i c.rs 0 := by simpa [fwRow] using hj2
        have hj5 : o2 ++ fwAll c.rs (c.rs.drop (i + 1)) (i + 1) = res := by rw [hj2, ← hj, List.append_assoc]
        clear hj2 hj
        refine bgo ?_
        refine wk_rfl ?_
        refine bgo ?_
        exact nx.go (i + 1, o2) ⟨hlt, hj5, by dsimp only; omega⟩ (by dsimp only; omega) hs
    · have hi2 : i = c.rs.length := by omega
      subst hi2
      rw [List.drop_length] at hj
      replace hj : out = res := by simpa [fwAll] using hj
      subst hj
      refine bgo ?_
      refine wk_rfl ?_
      refine bgo ?_
      exact ret_ct rfl rfl rfl ty69 rfl rfl rfl rfl rfl (fun k => rfl)
/-! The framework is a valid one. -/
def lexlt (p q : Nat × Nat) : Prop := p.1 < q.1 ∨ (p.1 = q.1 ∧ p.2 < q.2)
theorem fwRow_mem (r : Ru) (i : Nat) : ∀ (l : List Ru) (j : Nat) (p : Nat × Nat), p ∈ fwRow r i l j → p.1 = i ∧ j ≤ p.2 ∧ p.2 < j + l.length
  | [], _, p, h => by simp [fwRow] at h
  | s :: l, j, p, h => by
    unfold fwRow at h
    simp only [List.length_cons]
    split at h
    · rcases List.mem_cons.1 h with rfl | h
      · exact ⟨rfl, Nat.le_refl _, by dsimp only; omega⟩
      · have := fwRow_mem r i l (j + 1) p h; omega
    · have := fwRow_mem r i l (j + 1) p h; omega
theorem fwRow_pw (r : Ru) (i : Nat) : ∀ (l : List Ru) (j : Nat), (fwRow r i l j).Pairwise lexlt
  | [], _ => by simp [fwRow]
  | s :: l, j => by
    unfold fwRow
    split
    · refine List.pairwise_cons.2 ⟨fun p hp => ?_, fwRow_pw r i l (j + 1)⟩
      have := fwRow_mem r i l (j + 1) p hp
      right; dsimp only; omega
    · exact fwRow_pw r i l (j + 1)
theorem fwAll_mem (rs : List Ru) : ∀ (l : List Ru) (i : Nat) (p : Nat × Nat), p ∈ fwAll rs l i → i ≤ p.1 ∧ p.1 < i + l.length ∧ p.2 < rs.length
  | [], _, p, h => by simp [fwAll] at h
  | r :: l, i, p, h => by
    unfold fwAll at h
    simp only [List.length_cons]
    rcases List.mem_append.1 h with h | h
    · have := fwRow_mem r i rs 0 p h; omega
    · have := fwAll_mem rs l (i + 1) p h; omega
theorem fwAll_pw (rs : List Ru) : ∀ (l : List Ru) (i : Nat), (fwAll rs l i).Pairwise lexlt
  | [], _ => by simp [fwAll]
  | r :: l, i => by
    unfold fwAll
    refine List.pairwise_append.2 ⟨fwRow_pw r i rs 0, fwAll_pw rs l (i + 1), fun p hp q hq => ?_⟩
    have h1 := fwRow_mem r i rs 0 p hp
    have h2 := fwAll_mem rs l (i + 1) q hq
    left; omega
theorem fwAll_len (rs : List Ru) : ∀ (l : List Ru) (i : Nat), (fwAll rs l i).length ≤ l.length * rs.length
  | [], _ => by simp [fwAll]
  | r :: l, i => by
    have h1 := fwRow_len r i rs 0
    have h2 := fwAll_len rs l (i + 1)
    unfold fwAll
    rw [List.length_append, List.length_cons, Nat.add_mul]
    omega
theorem IsValidFramework_b (n : Nat) (l : List (Nat × Nat)) (hn : n ≤ 10) (hl : l.length ≤ 1048576) (hm : ∀ p ∈ l, p.1 < n ∧ p.2 < n) (hp : l.Pairwise lexlt) : BRet Tryz.prog 44 [] [.agg [.int n, .d (.sl 2 (ats l))]] (.bool true) [] := by
  refine bof Tryz.func44 ?_
  have hat : ∀ i (h : i < l.length), (ats l)[i]? = some (.agg [.int .i64 (l[i].1 : Int), .int .i64 (l[i].2 : Int)]) := fun i h => by simp [ats, h]
  have hal : (ats l).length = l.length := by simp [ats]
  generalize ats l = q at *
  have hin : inB (n : Int) 0 10 = true := by simp [inB]; omega
  have hwn := within_b n 0 10
  rw [hin] at hwn
  refine bgo ?_
  refine b_call hwn rfl rfl rfl rfl ?_
  refine bgo ?_
  refine b_lp (ι := Nat × Unit) (fun i => [(1, .ptr (.t 1) 0), (10, .d (.sl 2 q)), (11, .int l.length), (12, .int i.1)]) (fun _ => [(.t 1, [.int n, .d (.sl 2 q)])]) (fun i => i.1 ≤ l.length) (fun i => l.length - i.1) (0, ()) hs (Nat.zero_le _) ?_
  rintro ⟨i, u⟩ hi I nx
  dsimp only at hi ⊢
  by_cases hlt : i < l.length
  · have hx := hat i hlt
    have hb := hm l[i] (List.getElem_mem hlt)
    have h1 := within_b (l[i].1 : Int) 0 (n - 1)
    have h2 := within_b (l[i].2 : Int) 0 (n - 1)
    have e1 : inB (l[i].1 : Int) 0 (n - 1) = true := by simp [inB]; omega
    have e2 : inB (l[i].2 : Int) 0 (n - 1) = true := by simp [inB]; omega
    rw [e1] at h1
    rw [e2] at h2
    have hib : (i : Int) + 1 ≤ 1000000000 := by omega
    have hnb : (n : Int) ≤ 10 := by omega
    by_cases h0 : (i : Int) > 0
    · have hpi : i - 1 < l.length := by omega
      have hy := hat (i - 1) hpi
      have hlx := List.pairwise_iff_getElem.1 hp (i - 1) i hpi hlt (by omega)
      have hio : (i : Int) - 1 = ((i - 1 : Nat) : Int) := by omega
      generalize l[i] = a at *
      generalize l[i - 1] = b at *
      obtain ⟨a1, a2⟩ := a
      obtain ⟨b1, b2⟩ := b
      dsimp only [lexlt] at hlx h1 h2 hx hy hb ⊢
      have hn1 : ¬ (a1 : Int) < (b1 : Int) := by omega
      clear hat hm hp e1 e2
      by_cases hq : a1 = b1
      · subst hq
        have hn2 : ¬ (a2 : Int) ≤ (b2 : Int) := by omega
        clear hlx
        refine bgo ?_
        refine b_call h1 rfl rfl rfl rfl ?_
        refine bgo ?_
        refine b_call h2 rfl rfl rfl rfl ?_
        refine bgo ?_
        exact nx.go (i + 1, ()) hlt (by dsimp only; omega) hs
      · have hq3 : ((a1 : Int) == (b1 : Int)) = false := beq_false_of_ne (by omega)
        clear hlx hq
        refine bgo ?_
        refine b_call h1 rfl rfl rfl rfl ?_
        refine bgo ?_
        refine b_call h2 rfl rfl rfl rfl ?_
        refine bgo ?_
        exact nx.go (i + 1, ()) hlt (by dsimp only; omega) hs
    · clear hat
      refine bgo ?_
      refine b_call h1 rfl rfl rfl rfl ?_
      refine bgo ?_
      refine b_call h2 rfl rfl rfl rfl ?_
      refine bgo ?_
      exact nx.go (i + 1, ()) hlt (by dsimp only; omega) hs
  · have hlt2 : ¬ (i : Int) < l.length := by omega
    refine bgo ?_
    refine wk_rfl ?_
    refine bgo ?_
    trivial
end Go.Bee.Fw

/- Chapter 23: the weight that a thesis lacks: the code, the model and their law. -/
namespace Go.Bee
open Go
/-! What an argument may be read as. -/
theorem repSl {S : Nat → Nat → Prop} {w : World} {sz : Nat} {l l' : List PD} {v : Value} (hl : l'.length = l.length) (hu : ∀ e ∈ l', e.cells.length = sz) (hn : (flat l').length = (flat l).length)
    (hf : ∀ (i : Nat) x y, (flat l)[i]? = some x → (flat l')[i]? = some y → y.scalar = true ∧ ∀ u, RepD S w x u → RepD S w y u) (h : RepD S w (.sl sz l) v) : RepD S w (.sl sz l') v := by
  cases h with
  | nil => obtain rfl : l' = [] := List.length_eq_zero_iff.1 hl; exact .nil sz
  | emp _ a c => obtain rfl : l' = [] := List.length_eq_zero_iff.1 hl; exact .emp sz a c
  | sl _ _ g o c vs hb hc hu0 hs hvl hv hr =>
    rw [← hl]
    have hget : ∀ (i : Nat) y, (flat l')[i]? = some y → ∃ x, (flat l)[i]? = some x := fun i y hy => by
      have := (List.getElem?_eq_some_iff.1 hy).1
      exact ⟨_, List.getElem?_eq_getElem (by omega)⟩
    refine .sl sz l' g o c vs (by omega) (by omega) hu (fun y hy => ?_) (by omega) hv fun i y u hy hvu => ?_
    · obtain ⟨i, hi⟩ := List.mem_iff_getElem?.1 hy
      obtain ⟨x, hx⟩ := hget i y hi
      exact (hf i x y hx hi).1
    · obtain ⟨x, hx⟩ := hget i y hy
      exact (hf i x y hx hy).2 u (hr i x u hx hvu)
theorem CLe.d {x y : PD} (h : ∀ (S : Nat → Nat → Prop) (w : World) (v : Value), RepD S w x v → RepD S w y v ∧ (x.scalar = true → y.scalar = true)) : CLe (.d x) (.d y) := ⟨fun P G w p v hv => by
  obtain ⟨h1, h2⟩ := h _ _ _ hv.1
  exact ⟨h1, h2 hv.2⟩⟩
theorem PLe.agg3 {a a' b c : PV} (h : CLe a a') : PLe (.agg [b, a, c]) (.agg [b, a', c]) := ⟨fun P G w loc v hv => by
  obtain ⟨cs, e, hl, h1, hr⟩ := hv
  refine ⟨cs, e, hl, h1, fun j x u hx hu => ?_⟩
  match j, hx with
  | 0, hx => exact hr 0 x u hx hu
  | 1, hx => simp at hx; subst hx; exact h.c _ _ _ _ _ (hr 1 a u (by simp) hu)
  | 2, hx => exact hr 2 x u hx hu
  | n + 3, hx => simp at hx⟩
theorem BRet.arg1 {P : Program} {f : Nat} {bi bo : List (List PV)} {x y r : PV} (h : BRet P f bi [y] r bo) (hxy : PLe x y) : BRet P f bi [x] r bo :=
  ⟨h.1, h.2.1, fun G w vs Wr hs ha => h.2.2 G w vs Wr hs fun i z u hz hu => by
    match i, hz with
    | 0, hz => simp at hz; subst hz; exact hxy.t _ _ _ _ _ (ha 0 x u rfl hu)
    | n + 1, hz => simp at hz⟩
end Go.Bee
namespace Go.Bee.C23n
open Go Go.Bee Go.Proofs Go.Bee.Ty Go.Bee.C23
theorem bRu : ∀ (a : List UInt8) (b : Bool) (w : Int), evBuild Tryz.prog 36 [(2, .agg [.d (.str a), .d (.bool b)]), (3, .d (.int .i64 w))] = some (.agg [.nilS, .nilS, .d (.str a), .d (.bool b), .d (.int .i64 w)]) := fun a b w => by kernel_rfl
theorem sRu : ∀ (a : List UInt8) (b : Bool) (w : Int), evBuildSlice Tryz.prog 25 1 [(0, .agg [.nilS, .nilS, .d (.str a), .d (.bool b), .d (.int .i64 w)])] = some (.own 36 5 [.agg [.sl 0 [], .sl 0 [], .str a, .bool b, .int .i64 w]]) := fun a b w => by kernel_rfl
theorem tys : type_of% (And.intro Go.Bee.C23a.tys (And.intro bRu sRu)) := And.intro Go.Bee.C23a.tys (And.intro bRu sRu)
end Go.Bee.C23n
namespace Go.Bee.C23n
open Go Go.Bee Go.Proofs Go.Bee.Ty Go.Bee.C23 Go.Bee.C23s Go.Bee.C23a
set_option linter.unusedVariables false
set_option maxRecDepth 20000
attribute [local irreducible] Go.Bee.bwp vName
theorem allN_few (c : Cs) (h : head c = true) : (allN c).length ≤ 1000 := by
  simp only [head, Bool.and_eq_true, decide_eq_true_eq, List.all_eq_true] at h
  obtain ⟨⟨⟨⟨⟨h1, h2⟩, h3⟩, h4⟩, h5⟩, h6⟩ := h
  have hr : ∀ r ∈ c.rs, r.ps.length ≤ 4 ∧ r.es.length ≤ 4 := fun r hr => by
    have := h5 r hr
    simp only [ruOk, Bool.and_eq_true] at this
    have a := (thOk_all this.1.1.1).1
    have b := (thOk_all this.1.1.2).1
    omega
  have hf := (thOk_all h1).1
  have key : ∀ l : List Ru, (∀ r ∈ l, r.ps.length ≤ 4 ∧ r.es.length ≤ 4) → (l.flatMap ruN).length ≤ 9 * l.length := by
    intro l
    induction l with
    | nil => simp
    | cons r l ih =>
      intro h
      have a := h r (List.mem_cons_self ..)
      have b := ih fun x hx => h x (List.mem_cons_of_mem _ hx)
      rw [List.flatMap_cons, List.length_append, List.length_cons]
      simp only [ruN, nb, List.length_append, List.length_map, List.length_cons, List.length_nil]
      omega
  have := key c.rs hr
  rw [allN_eq, List.length_append, List.length_map]
  omega
def mr (t : Th) (w : Int) : Ru := ⟨[], [], t, w⟩
theorem more_mr (c : Cs) (t : Th) (w : Int) : more c t w = ⟨c.fs, c.rs ++ [mr t w], c.ss⟩ := rfl
theorem ru_scalar {rs : List Ru} : ∀ x ∈ flat (rs.map Ru.e), x.scalar = true := by
  intro x hx
  obtain ⟨y, hy, hxy⟩ := List.mem_flatMap.1 hx
  obtain ⟨r, _, rfl⟩ := List.mem_map.1 hy
  simp only [Ru.e, PD.cells, List.mem_cons, List.not_mem_nil, or_false] at hxy
  rcases hxy with rfl | rfl | rfl | rfl | rfl <;> rfl
theorem emp_any {S : Nat → Nat → Prop} {w : World} {a b : Nat} {v : Value} (h : RepD S w (.sl a []) v) : RepD S w (.sl b []) v := by
  generalize e : PD.sl a [] = x at h
  cases h <;> cases e
  · exact .nil b
  · rename_i g o c vs _ _ _ _ _ _ _
    exact .emp b ⟨g, o, none⟩ c
  · rename_i ad c; exact .emp b ad c
theorem mrLe (c : Cs) (t : Th) (w : Int) : PLe (.agg [.d (.sl 2 (c.fs.map Th.e)), .d (.sl 5 (c.rs.map Ru.e ++ [.agg [.sl 0 [], .sl 0 [], .str t.n, .bool t.g, .int .i64 w]])), .d (.sl 2 (c.ss.map Sd.e))])
    (.agg [.d (.sl 2 (c.fs.map Th.e)), .d (.sl 5 ((c.rs ++ [mr t w]).map Ru.e)), .d (.sl 2 (c.ss.map Sd.e))]) := by
  refine PLe.agg3 (CLe.d fun S w0 v h => ⟨?_, fun _ => rfl⟩)
  have hfl : ∀ (z : PD), z.cells.length = 5 → flat (c.rs.map Ru.e ++ [z]) = flat (c.rs.map Ru.e) ++ z.cells := fun z _ => by simp [flat]
  refine repSl (by simp) (fun e he => ?_) ?_ (fun i x y hx hy => ?_) h
  · obtain ⟨r, _, rfl⟩ := List.mem_map.1 he; rfl
  · rw [List.map_append, hfl _ rfl]
    show (flat (c.rs.map Ru.e ++ [(mr t w).e])).length = _
    rw [hfl _ rfl]; simp [mr, Ru.e, PD.cells]
  · rw [hfl _ rfl] at hx
    rw [List.map_append] at hy
    replace hy : (flat (c.rs.map Ru.e ++ [(mr t w).e]))[i]? = some y := hy
    rw [hfl _ rfl] at hy
    by_cases hi : i < (flat (c.rs.map Ru.e)).length
    · rw [List.getElem?_append_left hi] at hx hy
      rw [hx] at hy; cases hy
      exact ⟨ru_scalar x (List.mem_of_getElem? hx), fun _ h => h⟩
    · rw [List.getElem?_append_right (by omega)] at hx hy
      generalize i - (flat (c.rs.map Ru.e)).length = j at hx hy
      match j, hx, hy with
      | 0, hx, hy => simp [PD.cells, mr, Ru.e] at hx hy; subst hx; subst hy; exact ⟨rfl, fun _ h => emp_any h⟩
      | 1, hx, hy => simp [PD.cells, mr, Ru.e] at hx hy; subst hx; subst hy; exact ⟨rfl, fun _ h => emp_any h⟩
      | 2, hx, hy => simp [PD.cells, mr, Ru.e] at hx hy; subst hx; subst hy; exact ⟨rfl, fun _ h => h⟩
      | 3, hx, hy => simp [PD.cells, mr, Ru.e] at hx hy; subst hx; subst hy; exact ⟨rfl, fun _ h => h⟩
      | 4, hx, hy => simp [PD.cells, mr, Ru.e] at hx hy; subst hx; subst hy; exact ⟨rfl, fun _ h => h⟩
      | n + 5, hx, hy => simp [PD.cells] at hx
/-- The first weight from w on, of n, that serves. -/
def needF (p : Int → Bool) : Nat → Int → Int × Bool
  | 0, _ => (0, false)
  | n + 1, w => if p w = true then (w, true) else needF p n (w + 1)
def need (c : Cs) (t : Th) : Int × Bool :=
  if (head c && okI c && vName t.n) = true ∧ ¬ c.rs.length = 10 then (if (accI c).contains t = true then (0, true) else needF (fun w => (accI (more c t w)).contains t) 1000 1) else (0, false)
theorem cloneRule_b (l : List Ru) (hl : l.length ≤ 1048576) : BRet Tryz.prog 61 [] [.d (.sl 5 (l.map Ru.e))] (.own 36 5 (l.map Ru.e)) [] := by
  refine BRet.nil0 (by kernel_rfl) (fun h => ?_) ?_
  · rw [h]
    refine bofW Tryz.func61 ?_
    refine bgo ?_
    refine wk_of (Weak.nil_own 36 5 (t := 2) rfl) ?_
    refine bgo ?_
    trivial
  · refine bof Tryz.func61 ?_
    refine bgo ?_
    trivial
theorem NeededWeight_b (c : Cs) (t : Th) : BRet Tryz.prog 16 [] [.agg [.d (.sl 2 (c.fs.map Th.e)), .d (.sl 5 (c.rs.map Ru.e)), .d (.sl 2 (c.ss.map Sd.e))], .agg [.str t.n, .bool t.g]]
    (.tup [.int (need c t).1, .bool (need c t).2]) [] := by
  refine bof Tryz.func16 ?_
  have hno : ¬ ((head c && okI c && vName t.n) = true ∧ ¬ c.rs.length = 10) → need c t = (0, false) := fun h => if_neg h
  have hyes : ((head c && okI c && vName t.n) = true ∧ ¬ c.rs.length = 10) → need c t = (if (accI c).contains t = true then (0, true) else needF (fun w => (accI (more c t w)).contains t) 1000 1) := fun h => if_pos h
  generalize need c t = res at *
  refine bgo ?_
  refine b_call (IsValidCase_b c) rfl rfl rfl rfl ?_
  cases hv : head c && okI c
  · have := hno (by rw [hv]; simp)
    subst this
    refine bgo ?_
    trivial
  · have hf := head_fine hv
    have hh : head c = true := by simp only [Bool.and_eq_true] at hv; exact hv.1
    have hfew := allN_few c hh
    have hrl : c.rs.length ≤ 10 := by simp only [head, Bool.and_eq_true, decide_eq_true_eq] at hh; omega
    refine bgo ?_
    refine b_call (IsValidName_b t.n) rfl rfl rfl rfl ?_
    cases hn : vName t.n
    · have := hno (by rw [hv, hn]; simp)
      subst this
      refine bgo ?_
      trivial
    · have hne := vName_ne hn
      by_cases h10 : (c.rs.length : Int) = 10
      · have := hno (by simp; omega)
        subst this
        refine bgo ?_
        trivial
      · have hr := hyes ⟨by rw [hv, hn]; rfl, by omega⟩
        clear hno hyes
        refine bgo ?_
        refine b_call (acceptedTheses_b c hf) rfl rfl rfl rfl ?_
        refine bgo ?_
        refine b_call (containsTh_b (accI c) t) rfl rfl rfl rfl ?_
        cases ha : (accI c).contains t
        · rw [ha] at hr
          replace hr : needF (fun w => (accI (more c t w)).contains t) 1000 1 = res := hr.symm
          refine bgo ?_
          refine b_lp (ι := Nat × List PD) (fun i => [(2, .ptr (.t 2) 0), (3, .ptr (.t 3) 0), (6, .ptr (.t 6) 0), (7, .int (i.1 + 1))])
            (fun i => [(.t 2, [.d (.sl 2 (c.fs.map Th.e)), .d (.sl 5 (c.rs.map Ru.e)), .d (.sl 2 (c.ss.map Sd.e))]), (.t 3, [.str t.n, .bool t.g]), (.t 6, [.d (.sl 2 (c.fs.map Th.e)), .d (.sl 5 i.2), .d (.sl 2 (c.ss.map Sd.e))])])
            (fun i => i.1 ≤ 1000 ∧ needF (fun w => (accI (more c t w)).contains t) (1000 - i.1) (i.1 + 1) = res) (fun i => 1000 - i.1) (0, c.rs.map Ru.e) hs ⟨Nat.zero_le _, hr⟩ ?_
          clear hr
          rintro ⟨k, rs⟩ ⟨hk, hr⟩ I nx
          dsimp only at hk hr ⊢
          by_cases hlt : k < 1000
          · have hmf := more_fine hf t (k + 1) hne (by omega) (by omega) (by omega)
            have hacc := acceptedTheses_b (more c t (k + 1)) hmf
            rw [show 1000 - k = (1000 - (k + 1)) + 1 by omega] at hr
            unfold needF at hr
            rw [more_mr] at hacc hr
            generalize accI ⟨c.fs, c.rs ++ [mr t (k + 1)], c.ss⟩ = acc at *
            have hlt2 : (k : Int) + 1 ≤ 1000 := by omega
            refine bgo ?_
            refine b_call (cloneRule_b c.rs (by omega)) rfl rfl rfl rfl ?_
            refine bgo ?_
            refine ⟨rfl, ?_⟩
            refine b_call (hacc.arg1 (mrLe c t (k + 1))) rfl rfl rfl rfl ?_
            refine bgo ?_
            refine b_call (containsTh_b acc t) rfl rfl rfl rfl ?_
            cases hc : acc.contains t
            · rw [hc] at hr
              refine bgo ?_
              exact nx.go (k + 1, c.rs.map Ru.e ++ [.agg [.sl 0 [], .sl 0 [], .str t.n, .bool t.g, .int .i64 (k + 1)]]) ⟨hlt, by rw [if_neg (by decide)] at hr; exact hr⟩ (by dsimp only; omega) hs
            · rw [hc] at hr
              replace hr : ((k : Int) + 1, true) = res := hr
              subst hr
              refine bgo ?_
              trivial
          · have hk' : k = 1000 := by omega
            subst hk'
            replace hr : (0, false) = res := hr
            subst hr
            refine bgo ?_
            refine wk_rfl ?_
            refine bgo ?_
            trivial
        · rw [ha] at hr
          replace hr : res = (0, true) := hr
          subst hr
          refine bgo ?_
          trivial
theorem specNeededWeight_b (c : Cs) (t : Th) : BRet Tryz.prog 17 [] [.agg [.d (.sl 2 (c.fs.map Th.e)), .d (.sl 5 (c.rs.map Ru.e)), .d (.sl 2 (c.ss.map Sd.e))], .agg [.str t.n, .bool t.g]]
    (.tup [.int (need c t).1, .bool (need c t).2]) [] := by
  refine bof Tryz.func17 ?_
  have hno : ¬ ((head c && okI c && vName t.n) = true ∧ ¬ c.rs.length = 10) → need c t = (0, false) := fun h => if_neg h
  have hyes : ((head c && okI c && vName t.n) = true ∧ ¬ c.rs.length = 10) → need c t = (if (accI c).contains t = true then (0, true) else needF (fun w => (accI (more c t w)).contains t) 1000 1) := fun h => if_pos h
  generalize need c t = res at *
  refine bgo ?_
  refine b_call (good_b c) rfl rfl rfl rfl ?_
  cases hv : head c && okI c
  · have := hno (by rw [hv]; simp)
    subst this
    refine bgo ?_
    trivial
  · have hf := head_fine hv
    have hh : head c = true := by simp only [Bool.and_eq_true] at hv; exact hv.1
    have hfew := allN_few c hh
    have hrl : c.rs.length ≤ 10 := by simp only [head, Bool.and_eq_true, decide_eq_true_eq] at hh; omega
    refine bgo ?_
    refine b_call (l5Name_b t.n) rfl rfl rfl rfl ?_
    cases hn : vName t.n
    · have := hno (by rw [hv, hn]; simp)
      subst this
      refine bgo ?_
      trivial
    · have hne := vName_ne hn
      by_cases h10 : (c.rs.length : Int) = 10
      · have := hno (by simp; omega)
        subst this
        refine bgo ?_
        trivial
      · have hr := hyes ⟨by rw [hv, hn]; rfl, by omega⟩
        clear hno hyes
        refine bgo ?_
        refine b_call (accepted_b c hf) rfl rfl rfl rfl ?_
        refine bgo ?_
        refine b_call (l23Has_b (accI c) t) rfl rfl rfl rfl ?_
        cases ha : (accI c).contains t
        · rw [ha] at hr
          replace hr : needF (fun w => (accI (more c t w)).contains t) 1000 1 = res := hr.symm
          refine bgo ?_
          refine b_lp (ι := Nat × Unit) (fun i => [(2, .ptr (.t 2) 0), (3, .ptr (.t 3) 0), (6, .int (i.1 + 1))])
            (fun i => [(.t 2, [.d (.sl 2 (c.fs.map Th.e)), .d (.sl 5 (c.rs.map Ru.e)), .d (.sl 2 (c.ss.map Sd.e))]), (.t 3, [.str t.n, .bool t.g])])
            (fun i => i.1 ≤ 1000 ∧ needF (fun w => (accI (more c t w)).contains t) (1000 - i.1) (i.1 + 1) = res) (fun i => 1000 - i.1) (0, ()) hs ⟨Nat.zero_le _, hr⟩ ?_
          clear hr
          rintro ⟨k, rs⟩ ⟨hk, hr⟩ I nx
          dsimp only at hk hr ⊢
          by_cases hlt : k < 1000
          · have hmf := more_fine hf t (k + 1) hne (by omega) (by omega) (by omega)
            have hacc := accepted_b (more c t (k + 1)) hmf
            rw [show 1000 - k = (1000 - (k + 1)) + 1 by omega] at hr
            unfold needF at hr
            rw [more_mr] at hacc hr
            generalize accI ⟨c.fs, c.rs ++ [mr t (k + 1)], c.ss⟩ = acc at *
            have hlt2 : (k : Int) + 1 ≤ 1000 := by omega
            refine bgo ?_
            refine ⟨rfl, ?_⟩
            refine b_call (hacc.arg1 (mrLe c t (k + 1))) rfl rfl rfl rfl ?_
            refine bgo ?_
            refine b_call (l23Has_b acc t) rfl rfl rfl rfl ?_
            cases hc : acc.contains t
            · rw [hc] at hr
              refine bgo ?_
              exact nx.go (k + 1, ()) ⟨hlt, by rw [if_neg (by decide)] at hr; exact hr⟩ (by dsimp only; omega) hs
            · rw [hc] at hr
              replace hr : ((k : Int) + 1, true) = res := hr
              subst hr
              refine bgo ?_
              trivial
          · have hk' : k = 1000 := by omega
            subst hk'
            replace hr : (0, false) = res := hr
            subst hr
            refine bgo ?_
            refine wk_rfl ?_
            refine bgo ?_
            trivial
        · rw [ha] at hr
          replace hr : res = (0, true) := hr
          subst hr
          refine bgo ?_
          trivial
theorem lawNeeded_b (c : Cs) (t : Th) : BRet Tryz.prog 10 [] [.agg [.d (.sl 2 (c.fs.map Th.e)), .d (.sl 5 (c.rs.map Ru.e)), .d (.sl 2 (c.ss.map Sd.e))], .agg [.str t.n, .bool t.g]] (.bool true) [] := by
  refine bof Tryz.func10 ?_
  have hn := szCs_nice c 1048576 (by decide)
  refine bgo ?_
  refine b_call (szCase_b c 1048576 (by decide) (by decide)) rfl rfl rfl rfl ?_
  by_cases h : szCs c 1048576 < 0
  · refine bgo ?_
    trivial
  have ho := szCs_ok c (by omega)
  generalize szCs c 1048576 = x at *
  refine bgo ?_
  refine b_call (szThesis_b t x (by omega) (by omega)) rfl rfl rfl rfl ?_
  by_cases h2 : szTh t x < 0
  · refine bgo ?_
    trivial
  generalize szTh t x = y at *
  refine bgo ?_
  refine b_call (toCase_b c ho) rfl rfl rfl rfl ?_
  refine bgo ?_
  refine b_call (toThesis_b t) rfl rfl rfl rfl ?_
  refine bgo ?_
  refine b_call (specNeededWeight_b c t) rfl rfl rfl rfl ?_
  refine bgo ?_
  refine b_call (toCase_b c ho) rfl rfl rfl rfl ?_
  refine bgo ?_
  refine b_call (toThesis_b t) rfl rfl rfl rfl ?_
  refine bgo ?_
  refine b_call (NeededWeight_b c t) rfl rfl rfl rfl ?_
  generalize (need c t).1 = q
  cases (need c t).2
  all_goals
    refine bgo ?_
    refine b_call (toCase_b c ho) rfl rfl rfl rfl ?_
    refine bgo ?_
    refine b_call (eqCase_b c c) rfl rfl rfl rfl ?_
    rw [decide_eq_true rfl]
    refine bgo ?_
    trivial
end Go.Bee.C23n

/- Chapter 23: what the cursor draws. -/
namespace Go.Bee.Ds
open Go Go.Bee Go.Proofs Go.Bee.Ty Go.Bee.Dr Go.Bee.C23
theorem s2 : ∀ (a b : List UInt8), evBuildSlice Tryz.prog 47 2 [(0, .d (.str a)), (1, .d (.str b))] = some (.own 9 1 [.str a, .str b]) := fun a b => by kernel_rfl
theorem s3 : ∀ (a b c : List UInt8), evBuildSlice Tryz.prog 47 3 [(0, .d (.str a)), (1, .d (.str b)), (2, .d (.str c))] = some (.own 9 1 [.str a, .str b, .str c]) := fun a b c => by kernel_rfl
theorem s4 : ∀ (a b c d : List UInt8), evBuildSlice Tryz.prog 47 4 [(0, .d (.str a)), (1, .d (.str b)), (2, .d (.str c)), (3, .d (.str d))] = some (.own 9 1 [.str a, .str b, .str c, .str d]) := fun a b c d => by kernel_rfl
theorem s6 : ∀ (a b c d e f : List UInt8), evBuildSlice Tryz.prog 47 6 [(0, .d (.str a)), (1, .d (.str b)), (2, .d (.str c)), (3, .d (.str d)), (4, .d (.str e)), (5, .d (.str f))] = some (.own 9 1 [.str a, .str b, .str c, .str d, .str e, .str f]) := fun a b c d e f => by kernel_rfl
theorem s10 : ∀ (a b c d e f g h i j : List UInt8), evBuildSlice Tryz.prog 47 10 [(0, .d (.str a)), (1, .d (.str b)), (2, .d (.str c)), (3, .d (.str d)), (4, .d (.str e)), (5, .d (.str f)), (6, .d (.str g)), (7, .d (.str h)), (8, .d (.str i)), (9, .d (.str j))] = some (.own 9 1 [.str a, .str b, .str c, .str d, .str e, .str f, .str g, .str h, .str i, .str j]) := fun a b c d e f g h i j => by kernel_rfl
theorem i3 : ∀ (a b c : Int), evBuildSlice Tryz.prog 58 3 [(0, .d (.int .i64 a)), (1, .d (.int .i64 b)), (2, .d (.int .i64 c))] = some (.own 3 1 [.int .i64 a, .int .i64 b, .int .i64 c]) := fun a b c => by kernel_rfl
theorem i8 : ∀ (a b c d e f g h : Int), evBuildSlice Tryz.prog 58 8 [(0, .d (.int .i64 a)), (1, .d (.int .i64 b)), (2, .d (.int .i64 c)), (3, .d (.int .i64 d)), (4, .d (.int .i64 e)), (5, .d (.int .i64 f)), (6, .d (.int .i64 g)), (7, .d (.int .i64 h))] = some (.own 3 1 [.int .i64 a, .int .i64 b, .int .i64 c, .int .i64 d, .int .i64 e, .int .i64 f, .int .i64 g, .int .i64 h]) := fun a b c d e f g h => by kernel_rfl
theorem tys : type_of% (And.intro Go.Bee.C23n.tys (And.intro s2 (And.intro s3 (And.intro s4 (And.intro s6 (And.intro s10 (And.intro i3 i8))))))) := And.intro Go.Bee.C23n.tys (And.intro s2 (And.intro s3 (And.intro s4 (And.intro s6 (And.intro s10 (And.intro i3 i8))))))
end Go.Bee.Ds
namespace Go.Bee.Ds
open Go Go.Bee Go.Proofs Go.Bee.Ty Go.Bee.Dr Go.Bee.C23 Go.Bee.C23s Go.Bee.C23a Go.Bee.C23n
set_option linter.unusedVariables false
set_option maxRecDepth 20000
attribute [local irreducible] Go.Bee.bwp
theorem pkR_lt (bs : List UInt8) (s : Cu) {n m : Int} (h : n ≤ m) (hm : 1 ≤ m) : 0 ≤ pkR bs s n ∧ pkR bs s n < m := by
  by_cases h1 : 1 ≤ n
  · have := pkR_in bs s h1; omega
  · have : pkR bs s n = 0 := by unfold pkR; rw [if_pos (by omega)]
    omega
theorem pk_nat (bs : List UInt8) (s : Cu) {n m : Int} (h : n ≤ m) (hm : 1 ≤ m) : ∃ j : Nat, pkR bs s n = j ∧ (j : Int) < m := by
  have := pkR_lt bs s h hm
  exact ⟨(pkR bs s n).toNat, by omega, by omega⟩
def ofV (bs : List UInt8) (s : Cu) (l : List Tx) : Tx := l.getD (pkR bs s l.length).toNat []
theorem of_b (bs : List UInt8) (s : Cu) (l : List Tx) (h : s.a ≤ 4611686018427387000) (hl : 1 ≤ l.length) : BRet Tryz.prog 87 [s.c bs] [.ptr (.a 0) 0, .d (.sl 1 (l.map .str))] (.str (ofV bs s l)) [(pkS bs s l.length).c bs] := by
  refine bofp Tryz.func87 ?_
  obtain ⟨j, hj, hjl⟩ := pk_nat bs s (Int.le_refl (l.length : Int)) (by omega)
  have hlt : j < l.length := by omega
  have hx : l[j]? = some l[j] := List.getElem?_eq_getElem hlt
  have hv : ofV bs s l = l[j] := by unfold ofV; rw [hj, Int.toNat_natCast, List.getD_eq_getElem?_getD, hx]; rfl
  rw [hv]
  refine bgo ?_
  refine b_callp (pick_b bs s l.length h) rfl rfl rfl rfl rfl rfl rfl rfl rfl rfl ?_
  rw [hj]
  clear hj hv
  generalize pkS bs s l.length = s1
  refine bgo ?_
  exact ret_1p rfl rfl rfl (fun k => rfl) rfl
def amV (bs : List UInt8) (s : Cu) (l : List Int) : Int := l.getD (pkR bs s l.length).toNat 0
theorem among_b (bs : List UInt8) (s : Cu) (l : List Int) (h : s.a ≤ 4611686018427387000) (hl : 1 ≤ l.length) : BRet Tryz.prog 131 [s.c bs] [.ptr (.a 0) 0, .d (.sl 1 (l.map (.int .i64)))] (.int (amV bs s l)) [(pkS bs s l.length).c bs] := by
  refine bofp Tryz.func131 ?_
  obtain ⟨j, hj, hjl⟩ := pk_nat bs s (Int.le_refl (l.length : Int)) (by omega)
  have hlt : j < l.length := by omega
  have hx : l[j]? = some l[j] := List.getElem?_eq_getElem hlt
  have hv : amV bs s l = l[j] := by unfold amV; rw [hj, Int.toNat_natCast, List.getD_eq_getElem?_getD, hx]; rfl
  rw [hv]
  refine bgo ?_
  refine b_callp (pick_b bs s l.length h) rfl rfl rfl rfl rfl rfl rfl rfl rfl rfl ?_
  rw [hj]
  clear hj hv
  generalize pkS bs s l.length = s1
  refine bgo ?_
  exact ret_1p rfl rfl rfl (fun k => rfl) rfl
def lea (a b : Int) : Int := if a < b then a else b
theorem least_b (a b : Int) : BRet Tryz.prog 132 [] [.int a, .int b] (.int (lea a b)) [] := by
  refine bof Tryz.func132 ?_
  unfold lea
  by_cases h : a < b
  · rw [if_pos h]
    refine bgo ?_
    trivial
  · rw [if_neg h]
    refine bgo ?_
    trivial
def N6 : List Tx := [[97], [98], [99], [100], [101], [102]]
theorem n6_at {j : Nat} (h : (j : Int) < 6) : ([.str [97], .str [98], .str [99], .str [100], .str [101], .str [102]] : List PD)[j]? = some (.str (N6.getD j [])) := by
  match j, h with
  | 0, _ => rfl
  | 1, _ => rfl
  | 2, _ => rfl
  | 3, _ => rfl
  | 4, _ => rfl
  | 5, _ => rfl
  | n + 6, h => omega
def thV (bs : List UInt8) (s : Cu) (k : Int) : Th := ⟨N6.getD (pkR bs s (lea k 6)).toNat [], pkR bs (pkS bs s (lea k 6)) 3 == 0⟩
def thS (bs : List UInt8) (s : Cu) (k : Int) : Cu := pkS bs (pkS bs s (lea k 6)) 3
theorem thS_a (bs : List UInt8) (s : Cu) (k : Int) : (thS bs s k).a ≤ s.a + 4 := by
  have h1 := pkS_a bs s (lea k 6)
  have h2 := pkS_a bs (pkS bs s (lea k 6)) 3
  unfold thS; omega
theorem thesis_b (bs : List UInt8) (s : Cu) (k : Int) (h : s.a ≤ 4611686018427386000) : BRet Tryz.prog 85 [s.c bs] [.ptr (.a 0) 0, .int k] (.agg [.str (thV bs s k).n, .bool (thV bs s k).g]) [(thS bs s k).c bs] := by
  refine bofp Tryz.func85 ?_
  have hle : lea k 6 ≤ 6 := by unfold lea; split <;> omega
  obtain ⟨j, hj, hjl⟩ := pk_nat bs s hle (by decide)
  have hx := n6_at hjl
  have ha := pkS_a bs s (lea k 6)
  unfold thV thS
  rw [hj, Int.toNat_natCast]
  refine bgo ?_
  refine b_call (least_b k 6) rfl rfl rfl rfl ?_
  refine bgo ?_
  refine b_callp (pick_b bs s (lea k 6) (by omega)) rfl rfl rfl rfl rfl (by kernel_rfl) (by kernel_rfl) rfl rfl rfl ?_
  rw [hj]
  generalize pkS bs s (lea k 6) = s1 at *
  refine bgo ?_
  refine b_callp (one_b bs s1 3 (by omega)) rfl rfl rfl rfl rfl (by kernel_rfl) (by kernel_rfl) rfl rfl rfl ?_
  generalize N6.getD j [] = nm at *
  generalize (pkR bs s1 3 == 0) = g
  generalize pkS bs s1 3 = s2
  refine bgo ?_
  refine ⟨rfl, ?_⟩
  exact ret_cp rfl rfl ty30 rfl rfl rfl rfl rfl (fun k => rfl) rfl
def thsL (bs : List UInt8) (k : Int) : Nat → List Th → Cu → List Th × Cu
  | 0, out, s => (out, s)
  | n + 1, out, s => thsL bs k n (out ++ [thV bs s k]) (thS bs s k)
theorem thsL_len (bs : List UInt8) (k : Int) : ∀ (n : Nat) (out : List Th) (s : Cu), (thsL bs k n out s).1.length = out.length + n ∧ (thsL bs k n out s).2.a ≤ s.a + 4 * n
  | 0, out, s => ⟨rfl, Nat.le_refl _⟩
  | n + 1, out, s => by
    obtain ⟨h1, h2⟩ := thsL_len bs k n (out ++ [thV bs s k]) (thS bs s k)
    have h3 := thS_a bs s k
    unfold thsL
    simp at h1
    omega
def thsP (bs : List UInt8) (s : Cu) (c m : Int) : List Th × Cu := if m > 0 then thsL bs m (pkR bs s (c + 1)).toNat [] (pkS bs s (c + 1)) else ([], pkS bs s (c + 1))
theorem thsP_in (bs : List UInt8) (s : Cu) (c m : Int) (hc : c ≤ 2) : (thsP bs s c m).1.length ≤ 2 ∧ (thsP bs s c m).2.a ≤ s.a + 10 := by
  obtain ⟨j, hj, hjl⟩ := pk_nat bs s (show c + 1 ≤ 3 by omega) (by decide)
  have h1 := pkS_a bs s (c + 1)
  unfold thsP
  rw [hj, Int.toNat_natCast]
  split
  · obtain ⟨h2, h3⟩ := thsL_len bs m j [] (pkS bs s (c + 1))
    simp at h2
    omega
  · exact ⟨Nat.zero_le _, by dsimp only; omega⟩
theorem theses_b (bs : List UInt8) (s : Cu) (c m : Int) (h : s.a ≤ 4611686018427380000) (hc : c ≤ 2) (hc0 : 0 ≤ c) : BRet Tryz.prog 144 [s.c bs] [.ptr (.a 0) 0, .int c, .int m] (.own 30 2 ((thsP bs s c m).1.map Th.e)) [(thsP bs s c m).2.c bs] := by
  refine bofp Tryz.func144 ?_
  obtain ⟨j, hj, hjl⟩ := pk_nat bs s (show c + 1 ≤ 3 by omega) (by decide)
  have ha := pkS_a bs s (c + 1)
  have hP : thsP bs s c m = if m > 0 then thsL bs m j [] (pkS bs s (c + 1)) else ([], pkS bs s (c + 1)) := by unfold thsP; rw [hj, Int.toNat_natCast]
  generalize thsP bs s c m = res at *
  refine bgo ?_
  refine b_callp (pick_b bs s (c + 1) (by omega)) rfl rfl rfl rfl rfl rfl rfl rfl rfl rfl ?_
  rw [hj]
  generalize pkS bs s (c + 1) = s1 at *
  clear hj
  by_cases hm : m > 0
  · rw [if_pos hm] at hP
    replace hP := hP.symm
    refine bgo ?_
    refine b_lp (ι := Nat × List Th × Cu) (fun i => [(0, .ptr (.a 0) 0), (2, .int m), (7, .own 30 2 (i.2.1.map Th.e)), (8, .int i.1)]) (fun i => [(.a 0, i.2.2.c bs)])
      (fun i => i.1 ≤ j ∧ i.2.1.length + i.1 = j ∧ i.2.2.a + 4 * i.1 ≤ s1.a + 4 * j ∧ thsL bs m i.1 i.2.1 i.2.2 = res) (fun i => i.1) (j, [], s1) hs ⟨Nat.le_refl _, by simp, Nat.le_refl _, hP⟩ ?_
    clear hP
    rintro ⟨k, out, s2⟩ ⟨hk, hl, hsa, hr⟩ I nx
    dsimp only at hk hl hsa hr ⊢
    cases k with
    | zero =>
      subst hr
      have hz : ¬ ((0 : Nat) : Int) > 0 := by omega
      refine bgo ?_
      refine wk_rfl ?_
      refine bgo ?_
      exact ret_1p rfl rfl rfl (fun k => rfl) rfl
    | succ k =>
      have hz : ((k + 1 : Nat) : Int) > 0 := by omega
      have hs3 := thS_a bs s2 m
      unfold thsL at hr
      refine bgo ?_
      refine b_callp (thesis_b bs s2 m (by omega)) rfl rfl rfl rfl rfl rfl rfl rfl rfl rfl ?_
      generalize thV bs s2 m = t at *
      generalize thS bs s2 m = s3 at *
      refine bgo ?_
      rw [append_th, show ((k + 1 : Nat) : Int) - 1 = k by omega]
      exact nx.go (k, out ++ [t], s3) ⟨by omega, by simp; omega, by dsimp only; omega, hr⟩ (by dsimp only; omega) hs
  · rw [if_neg hm] at hP
    subst hP
    refine bgo ?_
    refine b_lp (ι := Unit) (fun i => [(0, .ptr (.a 0) 0), (2, .int m), (7, .own 30 2 []), (8, .int j)]) (fun i => [(.a 0, s1.c bs)]) (fun _ => True) (fun _ => 0) () hs trivial ?_
    rintro _ _ I nx
    by_cases hj0 : (j : Int) > 0
    · refine bgo ?_
      refine wk_rfl ?_
      refine bgo ?_
      exact ret_1p rfl rfl rfl (fun k => rfl) rfl
    · refine bgo ?_
      refine wk_rfl ?_
      refine bgo ?_
      exact ret_1p rfl rfl rfl (fun k => rfl) rfl
end Go.Bee.Ds

/- Chapter 23: the case that the cursor draws. -/
namespace Go.Bee.Dt
open Go Go.Bee Go.Proofs Go.Bee.Ty Go.Bee.C23
theorem bCs0 : evBuild Tryz.prog 28 [] = some (.agg [.nilS, .nilS, .nilS]) := by kernel_rfl
theorem bRu2 : ∀ (a : List UInt8) (b : Bool) (w : Int), evBuild Tryz.prog 36 [(2, .agg [.d (.str a), .d (.bool b)]), (3, .d (.int .i64 w))] = some (.agg [.nilS, .nilS, .d (.str a), .d (.bool b), .d (.int .i64 w)]) := fun a b w => by kernel_rfl
theorem sRu2 : ∀ (p e : List PD) (a : List UInt8) (b : Bool) (w : Int), evBuildSlice Tryz.prog 25 1 [(0, .agg [.d (.sl 2 p), .d (.sl 2 e), .d (.str a), .d (.bool b), .d (.int .i64 w)])] = some (.own 36 5 [.agg [.sl 2 p, .sl 2 e, .str a, .bool b, .int .i64 w]]) := fun p e a b w => by kernel_rfl
theorem bSd : ∀ (a : List UInt8) (k : Int), evBuild Tryz.prog 116 [(0, .d (.str a)), (1, .d (.int .i64 k))] = some (.agg [.d (.str a), .d (.int .i64 k)]) := fun a k => by kernel_rfl
theorem sSd : ∀ (a : List UInt8) (k : Int), evBuildSlice Tryz.prog 26 1 [(0, .agg [.d (.str a), .d (.int .i64 k)])] = some (.own 116 2 [.agg [.str a, .int .i64 k]]) := fun a k => by kernel_rfl
theorem tys : type_of% (And.intro Go.Bee.Ds.tys (And.intro bCs0 (And.intro sRu2 (And.intro bSd sSd)))) := And.intro Go.Bee.Ds.tys (And.intro bCs0 (And.intro sRu2 (And.intro bSd sSd)))
end Go.Bee.Dt
namespace Go.Bee.Dt
open Go Go.Bee Go.Proofs Go.Bee.Ty Go.Bee.Dr Go.Bee.Ds Go.Bee.C23 Go.Bee.C23s Go.Bee.C23a Go.Bee.C23n
set_option linter.unusedVariables false
set_option maxRecDepth 20000
attribute [local irreducible] Go.Bee.bwp
def W8 : List Int := [1, 100, 300, 400, 500, 600, 700, 1000]
def d1 (bs : List UInt8) : Nat → List Th → Cu → List Th × Cu
  | 0, fs, s => (fs, s)
  | n + 1, fs, s => if (pkR bs s 2 == 0) = true then d1 bs n (fs ++ [⟨N6.getD (3 - n) [], pkR bs (pkS bs s 2) 3 == 0⟩]) (pkS bs (pkS bs s 2) 3) else d1 bs n fs (pkS bs s 2)
def ruD (bs : List UInt8) (s : Cu) : Ru × Cu :=
  let p1 := thsP bs (pkS bs (pkS bs (pkS bs s 5) 3) W8.length) 2 (1 + pkR bs s 5)
  let p2 := thsP bs p1.2 1 (1 + pkR bs s 5)
  (⟨p1.1, p2.1, ⟨N6.getD (1 + pkR bs s 5).toNat [], pkR bs (pkS bs s 5) 3 == 0⟩, amV bs (pkS bs (pkS bs s 5) 3) W8⟩, p2.2)
def d2 (bs : List UInt8) : Nat → List Ru → Cu → List Ru × Cu
  | 0, rs, s => (rs, s)
  | n + 1, rs, s => d2 bs n (rs ++ [(ruD bs s).1]) (ruD bs s).2
def d3 (bs : List UInt8) : Nat → List Sd → Cu → List Sd × Cu
  | 0, ss, s => (ss, s)
  | n + 1, ss, s => if (pkR bs s 3 == 0) = true then d3 bs n (ss ++ [⟨N6.getD (5 - n) [], 1 + pkR bs (pkS bs s 3) 4⟩]) (pkS bs (pkS bs s 3) 4) else d3 bs n ss (pkS bs s 3)
theorem d1_in (bs : List UInt8) : ∀ (n : Nat) (fs : List Th) (s : Cu), (d1 bs n fs s).1.length ≤ fs.length + n ∧ (d1 bs n fs s).2.a ≤ s.a + 4 * n
  | 0, fs, s => ⟨Nat.le_refl _, Nat.le_refl _⟩
  | n + 1, fs, s => by
    have a1 := pkS_a bs s 2
    have a2 := pkS_a bs (pkS bs s 2) 3
    unfold d1
    split
    · obtain ⟨h1, h2⟩ := d1_in bs n (fs ++ [⟨N6.getD (3 - n) [], pkR bs (pkS bs s 2) 3 == 0⟩]) (pkS bs (pkS bs s 2) 3)
      rw [List.length_append] at h1; simp only [List.length_cons, List.length_nil] at h1; omega
    · obtain ⟨h1, h2⟩ := d1_in bs n fs (pkS bs s 2)
      omega
theorem d3_in (bs : List UInt8) : ∀ (n : Nat) (fs : List Sd) (s : Cu), (d3 bs n fs s).1.length ≤ fs.length + n ∧ (d3 bs n fs s).2.a ≤ s.a + 4 * n
  | 0, fs, s => ⟨Nat.le_refl _, Nat.le_refl _⟩
  | n + 1, fs, s => by
    have a1 := pkS_a bs s 3
    have a2 := pkS_a bs (pkS bs s 3) 4
    unfold d3
    split
    · obtain ⟨h1, h2⟩ := d3_in bs n (fs ++ [⟨N6.getD (5 - n) [], 1 + pkR bs (pkS bs s 3) 4⟩]) (pkS bs (pkS bs s 3) 4)
      rw [List.length_append] at h1; simp only [List.length_cons, List.length_nil] at h1; omega
    · obtain ⟨h1, h2⟩ := d3_in bs n fs (pkS bs s 3)
      omega
theorem ruD_a (bs : List UInt8) (s : Cu) : (ruD bs s).2.a ≤ s.a + 26 := by
  have a1 := pkS_a bs s 5
  have a2 := pkS_a bs (pkS bs s 5) 3
  have a3 := pkS_a bs (pkS bs (pkS bs s 5) 3) W8.length
  have a4 := thsP_in bs (pkS bs (pkS bs (pkS bs s 5) 3) W8.length) 2 (1 + pkR bs s 5) (by decide)
  have a5 := thsP_in bs (thsP bs (pkS bs (pkS bs (pkS bs s 5) 3) W8.length) 2 (1 + pkR bs s 5)).2 1 (1 + pkR bs s 5) (by decide)
  unfold ruD
  dsimp only
  omega
theorem d2_in (bs : List UInt8) : ∀ (n : Nat) (rs : List Ru) (s : Cu), (d2 bs n rs s).1.length = rs.length + n ∧ (d2 bs n rs s).2.a ≤ s.a + 26 * n
  | 0, fs, s => ⟨rfl, Nat.le_refl _⟩
  | n + 1, rs, s => by
    have a1 := ruD_a bs s
    unfold d2
    obtain ⟨h1, h2⟩ := d2_in bs n (rs ++ [(ruD bs s).1]) (ruD bs s).2
    rw [List.length_append] at h1; simp only [List.length_cons, List.length_nil] at h1; omega
def disP (bs : List UInt8) (s : Cu) : Cs × Cu :=
  let p1 := d1 bs 4 [] s
  let p2 := d2 bs (pkR bs p1.2 8).toNat [] (pkS bs p1.2 8)
  let p3 := d3 bs 6 [] p2.2
  (⟨p1.1, p2.1, p3.1⟩, p3.2)
theorem append_ru (rs : List Ru) (p e : List Th) (a : Tx) (b : Bool) (w : Int) : rs.map Ru.e ++ [.agg [.sl 2 (p.map Th.e), .sl 2 (e.map Th.e), .str a, .bool b, .int .i64 w]] = (rs ++ [(⟨p, e, ⟨a, b⟩, w⟩ : Ru)]).map Ru.e := by rw [List.map_append]; rfl
theorem append_sd (ss : List Sd) (a : Tx) (k : Int) : ss.map Sd.e ++ [.agg [.str a, .int .i64 k]] = (ss ++ [(⟨a, k⟩ : Sd)]).map Sd.e := by rw [List.map_append]; rfl
theorem append_th' (fs : List Th) (a : Tx) (b : Bool) : fs.map Th.e ++ [.agg [.str a, .bool b]] = (fs ++ [(⟨a, b⟩ : Th)]).map Th.e := by rw [List.map_append]; rfl
abbrev P6 : List PD := [.str [97], .str [98], .str [99], .str [100], .str [101], .str [102]]
abbrev caseC (fs : List Th) (rs : List Ru) (ss : List Sd) : List PV := [.own 30 2 (fs.map Th.e), .own 36 5 (rs.map Ru.e), .own 116 2 (ss.map Sd.e)]
theorem dispute_b (bs : List UInt8) (s : Cu) (h : s.a ≤ 4611686018427370000) : BRet Tryz.prog 129 [s.c bs] [.ptr (.a 0) 0] (.agg (caseC (disP bs s).1.fs (disP bs s).1.rs (disP bs s).1.ss)) [(disP bs s).2.c bs] := by
  refine bofp Tryz.func129 ?_
  have e0 : disP bs s = (⟨(d1 bs 4 [] s).1, (d2 bs (pkR bs (d1 bs 4 [] s).2 8).toNat [] (pkS bs (d1 bs 4 [] s).2 8)).1, (d3 bs 6 [] (d2 bs (pkR bs (d1 bs 4 [] s).2 8).toNat [] (pkS bs (d1 bs 4 [] s).2 8)).2).1⟩, (d3 bs 6 [] (d2 bs (pkR bs (d1 bs 4 [] s).2 8).toNat [] (pkS bs (d1 bs 4 [] s).2 8)).2).2) := rfl
  rw [e0]
  dsimp only
  clear e0
  have hd1 := d1_in bs 4 [] s
  obtain ⟨q1, hq1⟩ : ∃ q, d1 bs 4 [] s = q := ⟨_, rfl⟩
  rw [hq1] at hd1 ⊢
  obtain ⟨n2, hn2, hn2l⟩ := pk_nat bs q1.2 (Int.le_refl 8) (by decide)
  rw [hn2, Int.toNat_natCast]
  refine bgo ?_
  refine b_lp (ι := Nat × List Th × Cu) (fun i => [(0, .ptr (.a 0) 0), (2, .ptr (.t 2) 0), (3, .ptr (.t 3) 0), (4, .d (.sl 1 P6)), (5, .int i.1)]) (fun i => [(.a 0, i.2.2.c bs), (.t 2, [.nilS, .nilS, .nilS]), (.t 3, caseC i.2.1 [] [])])
    (fun i => i.1 ≤ 4 ∧ i.2.1.length ≤ i.1 ∧ i.2.2.a ≤ s.a + 4 * i.1 ∧ d1 bs (4 - i.1) i.2.1 i.2.2 = q1) (fun i => 4 - i.1) (0, [], s) hs ⟨Nat.zero_le _, Nat.le_refl _, Nat.le_refl _, hq1⟩ ?_
  clear hq1
  rintro ⟨k, fs, s2⟩ ⟨hk, hl, hsa, hr⟩ I nx
  dsimp only at hk hl hsa hr ⊢
  by_cases hlt : (k : Int) < 4
  · rw [show 4 - k = (3 - k) + 1 by omega] at hr
    unfold d1 at hr
    rw [show 3 - (3 - k) = k by omega] at hr
    have hx := n6_at (j := k) (by omega)
    have a1 := pkS_a bs s2 2
    have a2 := pkS_a bs (pkS bs s2 2) 3
    refine bgo ?_
    refine b_callp (one_b bs s2 2 (by omega)) rfl rfl rfl rfl rfl rfl rfl rfl rfl rfl ?_
    generalize pkS bs s2 2 = s3 at *
    cases hb : (pkR bs s2 2 == 0)
    · rw [hb, if_neg (by decide)] at hr
      refine bgo ?_
      exact nx.go (k + 1, fs, s3) ⟨by omega, by dsimp only; omega, by dsimp only; omega, by rw [show 4 - (k + 1) = 3 - k by omega]; exact hr⟩ (by dsimp only; omega) hs
    · rw [hb, if_pos rfl] at hr
      refine bgo ?_
      refine ⟨rfl, ?_⟩
      refine b_callp (one_b bs s3 3 (by omega)) rfl rfl rfl rfl rfl (by kernel_rfl) (by kernel_rfl) rfl rfl rfl ?_
      generalize (pkR bs s3 3 == 0) = g at *
      generalize pkS bs s3 3 = s4 at *
      generalize N6.getD k [] = nm at *
      refine bgo ?_
      refine ⟨rfl, ?_⟩
      rw [append_th']
      exact nx.go (k + 1, fs ++ [⟨nm, g⟩], s4) ⟨by omega, by simp; omega, by dsimp only; omega, by rw [show 4 - (k + 1) = 3 - k by omega]; exact hr⟩ (by dsimp only; omega) hs
  · obtain rfl : k = 4 := by omega
    replace hr : (fs, s2) = q1 := hr
    subst hr
    dsimp only at hn2 hd1 ⊢
    have hfl : fs.length ≤ 4 := by omega
    clear nx hd1 hl
    refine bgo ?_
    refine wk_rfl ?_
    refine bgo ?_
    have a1 := pkS_a bs s2 8
    refine b_callp (pick_b bs s2 8 (by omega)) rfl rfl rfl rfl rfl rfl rfl rfl rfl rfl ?_
    rw [hn2]
    clear hn2
    generalize pkS bs s2 8 = s3 at *
    have hd2 := d2_in bs n2 [] s3
    obtain ⟨q2, hq2⟩ : ∃ q, d2 bs n2 [] s3 = q := ⟨_, rfl⟩
    rw [hq2] at hd2 ⊢
    refine bgo ?_
    refine b_lp (ι := Nat × List Ru × Cu) (fun i => [(0, .ptr (.a 0) 0), (2, .ptr (.t 2) 0), (3, .ptr (.t 3) 0), (4, .d (.sl 1 P6)), (6, .int i.1)]) (fun i => [(.a 0, i.2.2.c bs), (.t 2, [.nilS, .nilS, .nilS]), (.t 3, caseC fs i.2.1 [])])
      (fun i => i.1 ≤ n2 ∧ i.2.1.length + i.1 = n2 ∧ i.2.2.a + 26 * i.1 ≤ s3.a + 26 * n2 ∧ d2 bs i.1 i.2.1 i.2.2 = q2) (fun i => i.1) (n2, [], s3) hs ⟨Nat.le_refl _, by simp, Nat.le_refl _, hq2⟩ ?_
    clear hq2
    rintro ⟨k, rs, s4⟩ ⟨hk2, hl2, hsa2, hr2⟩ I nx
    dsimp only at hk2 hl2 hsa2 hr2 ⊢
    cases k with
    | succ k =>
      have hz : ((k + 1 : Nat) : Int) > 0 := by omega
      have hra := ruD_a bs s4
      unfold d2 at hr2
      have b1 := pkS_a bs s4 5
      have b2 := pkS_a bs (pkS bs s4 5) 3
      have b3 := pkS_a bs (pkS bs (pkS bs s4 5) 3) W8.length
      have hv := pkR_lt bs s4 (Int.le_refl 5) (by decide)
      have b4 := thsP_in bs (pkS bs (pkS bs (pkS bs s4 5) 3) W8.length) 2 (1 + pkR bs s4 5) (by decide)
      have b5 := thsP_in bs (thsP bs (pkS bs (pkS bs (pkS bs s4 5) 3) W8.length) 2 (1 + pkR bs s4 5)).2 1 (1 + pkR bs s4 5) (by decide)
      unfold ruD at hr2 hra
      dsimp only at hr2 hra
      refine bgo ?_
      refine b_callp (pick_b bs s4 5 (by omega)) rfl rfl rfl rfl rfl rfl rfl rfl rfl rfl ?_
      generalize pkR bs s4 5 = v at *
      generalize pkS bs s4 5 = s5 at *
      have hx := n6_at (j := (1 + v).toNat) (by omega)
      have hv0 : 0 ≤ 1 + v := by omega
      generalize N6.getD (1 + v).toNat [] = nm at *
      refine bgo ?_
      refine b_callp (one_b bs s5 3 (by omega)) rfl rfl rfl rfl rfl (by kernel_rfl) (by kernel_rfl) rfl rfl rfl ?_
      generalize (pkR bs s5 3 == 0) = g at *
      generalize pkS bs s5 3 = s6 at *
      refine bgo ?_
      refine b_callp (among_b bs s6 W8 (by omega) (by decide)) rfl rfl rfl rfl rfl (by kernel_rfl) (by kernel_rfl) rfl rfl rfl ?_
      generalize amV bs s6 W8 = wv at *
      generalize pkS bs s6 W8.length = s7 at *
      refine bgo ?_
      refine ⟨rfl, rfl, ?_⟩
      refine b_callp (theses_b bs s7 2 (1 + v) (by omega) (by decide) (by decide)) rfl rfl rfl rfl rfl rfl rfl rfl rfl rfl ?_
      generalize thsP bs s7 2 (1 + v) = p1 at *
      refine bgo ?_
      refine b_callp (theses_b bs p1.2 1 (1 + v) (by omega) (by decide) (by decide)) rfl rfl rfl rfl rfl rfl rfl rfl rfl rfl ?_
      generalize thsP bs p1.2 1 (1 + v) = p2 at *
      refine bgo ?_
      rw [append_ru, show ((k + 1 : Nat) : Int) - 1 = k by omega]
      exact nx.go (k, rs ++ [⟨p1.1, p2.1, ⟨nm, g⟩, wv⟩], p2.2) ⟨by omega, by simp; omega, by dsimp only; omega, hr2⟩ (by dsimp only; omega) hs
    | zero =>
      replace hr2 : (rs, s4) = q2 := hr2
      subst hr2
      dsimp only at hd2 ⊢
      have hz : ¬ ((0 : Nat) : Int) > 0 := by omega
      have hrl : rs.length ≤ 8 := by omega
      clear nx hd2
      have hd3 := d3_in bs 6 [] s4
      obtain ⟨q3, hq3⟩ : ∃ q, d3 bs 6 [] s4 = q := ⟨_, rfl⟩
      rw [hq3] at hd3 ⊢
      refine bgo ?_
      refine wk_rfl ?_
      refine bgo ?_
      refine b_lp (ι := Nat × List Sd × Cu) (fun i => [(0, .ptr (.a 0) 0), (2, .ptr (.t 2) 0), (3, .ptr (.t 3) 0), (4, .d (.sl 1 P6)), (9, .int i.1)]) (fun i => [(.a 0, i.2.2.c bs), (.t 2, [.nilS, .nilS, .nilS]), (.t 3, caseC fs rs i.2.1)])
        (fun i => i.1 ≤ 6 ∧ i.2.1.length ≤ i.1 ∧ i.2.2.a ≤ s4.a + 4 * i.1 ∧ d3 bs (6 - i.1) i.2.1 i.2.2 = q3) (fun i => 6 - i.1) (0, [], s4) hs ⟨Nat.zero_le _, Nat.le_refl _, Nat.le_refl _, hq3⟩ ?_
      clear hq3
      rintro ⟨k, ss, s5⟩ ⟨hk3, hl3, hsa3, hr3⟩ I nx
      dsimp only at hk3 hl3 hsa3 hr3 ⊢
      by_cases hlt3 : (k : Int) < 6
      · rw [show 6 - k = (5 - k) + 1 by omega] at hr3
        unfold d3 at hr3
        rw [show 5 - (5 - k) = k by omega] at hr3
        have hx := n6_at (j := k) (by omega)
        have c1 := pkS_a bs s5 3
        have c2 := pkS_a bs (pkS bs s5 3) 4
        refine bgo ?_
        refine b_callp (one_b bs s5 3 (by omega)) rfl rfl rfl rfl rfl rfl rfl rfl rfl rfl ?_
        generalize pkS bs s5 3 = s6 at *
        cases hb : (pkR bs s5 3 == 0)
        · rw [hb, if_neg (by decide)] at hr3
          refine bgo ?_
          exact nx.go (k + 1, ss, s6) ⟨by omega, by dsimp only; omega, by dsimp only; omega, by rw [show 6 - (k + 1) = 5 - k by omega]; exact hr3⟩ (by dsimp only; omega) hs
        · rw [hb, if_pos rfl] at hr3
          have hv4 := pkR_lt bs s6 (Int.le_refl 4) (by decide)
          refine bgo ?_
          refine ⟨rfl, ?_⟩
          refine b_callp (pick_b bs s6 4 (by omega)) rfl rfl rfl rfl rfl (by kernel_rfl) (by kernel_rfl) rfl rfl rfl ?_
          generalize pkR bs s6 4 = v at *
          generalize pkS bs s6 4 = s7 at *
          generalize N6.getD k [] = nm at *
          refine bgo ?_
          refine ⟨rfl, ?_⟩
          rw [append_sd]
          exact nx.go (k + 1, ss ++ [⟨nm, 1 + v⟩], s7) ⟨by omega, by simp; omega, by dsimp only; omega, by rw [show 6 - (k + 1) = 5 - k by omega]; exact hr3⟩ (by dsimp only; omega) hs
      · obtain rfl : k = 6 := by omega
        replace hr3 : (ss, s5) = q3 := hr3
        subst hr3
        dsimp only
        refine bgo ?_
        refine wk_rfl ?_
        refine bgo ?_
        exact ret_cp rfl rfl ty28 rfl rfl rfl rfl rfl (fun k => rfl) rfl
end Go.Bee.Dt

/- Chapter 23: a case with a flaw, as the cursor draws it. -/
namespace Go.Bee
open Go
theorem BRet.res {P : Program} {f : Nat} {bi bo : List (List PV)} {args : List PV} {r r' : PV} (h : BRet P f bi args r bo) (hle : PLe r r') : BRet P f bi args r' bo :=
  ⟨h.1, h.2.1, fun G w vs Wr a b c d e g g2 => Calls.mono (h.2.2 G w vs Wr a b c d e g g2) fun x w' hx => by
    obtain ⟨v, G', h1, h2, h3⟩ := hx
    exact ⟨v, G', h1, hle.t _ _ _ _ _ h2, h3⟩⟩
theorem CLe.own' {e sz : Nat} {l l' : List PD} (hl : l'.length = l.length) (hu : ∀ x ∈ l', x.cells.length = sz) (hd : ∀ (S : Nat → Nat → Prop) (w : World) (v : Value), RepD S w (.sl sz l) v → RepD S w (.sl sz l') v) : CLe (.own e sz l) (.own e sz l') := ⟨fun P G w p v hv => by
  obtain ⟨h1, h2⟩ := hv
  refine ⟨hd _ _ _ h1, ?_⟩
  rcases h2 with ⟨h3, h4⟩ | ⟨vs, h3, h4, h5⟩
  · refine .inl ⟨by rw [hl]; exact h3, fun hne => h4 fun he => hne ?_⟩
    subst he
    exact List.length_eq_zero_iff.1 hl
  · exact .inr ⟨vs, by rw [hl]; exact h3, hu, h5⟩⟩
/-- The last row may be read as another. -/
theorem rowLast {S : Nat → Nat → Prop} {w : World} {sz : Nat} {l : List PD} {x y : PD} {v : Value} (hu : ∀ e ∈ l, e.cells.length = sz) (hs : ∀ c ∈ flat l, c.scalar = true) (hx : x.cells.length = sz) (hy : y.cells.length = sz)
    (hxy : ∀ (i : Nat) a b, x.cells[i]? = some a → y.cells[i]? = some b → b.scalar = true ∧ ∀ u, RepD S w a u → RepD S w b u) (h : RepD S w (.sl sz (l ++ [x])) v) : RepD S w (.sl sz (l ++ [y])) v := by
  have hfl : ∀ (z : PD), flat (l ++ [z]) = flat l ++ z.cells := fun z => by simp [flat]
  refine repSl (by simp) (fun e he => ?_) ?_ (fun i a b ha hb => ?_) h
  · rcases List.mem_append.1 he with h1 | h1
    · exact hu e h1
    · rw [List.mem_singleton.1 h1]; exact hy
  · rw [hfl, hfl, List.length_append, List.length_append, hx, hy]
  · rw [hfl] at ha hb
    by_cases hi : i < (flat l).length
    · rw [List.getElem?_append_left hi] at ha hb
      rw [ha] at hb; cases hb
      exact ⟨hs a (List.mem_of_getElem? ha), fun _ h => h⟩
    · rw [List.getElem?_append_right (by omega)] at ha hb
      exact hxy _ a b ha hb
end Go.Bee
namespace Go.Bee.Du
open Go Go.Bee Go.Proofs Go.Bee.Ty Go.Bee.Dr Go.Bee.Ds Go.Bee.Dt Go.Bee.C23 Go.Bee.C23s Go.Bee.C23a Go.Bee.C23n
/-- A rule whose exceptions (and conditions) were never set. -/
theorem ruLe (rs : List Ru) (p : List Th) (c d : Nat) (q : List PD) (hq : (c = 2 ∧ q = p.map Th.e) ∨ (q = [] ∧ p = [])) (a : Tx) (b : Bool) (w : Int) (e : Nat) : CLe (.own e 5 (rs.map Ru.e ++ [.agg [.sl c q, .sl d [], .str a, .bool b, .int .i64 w]])) (.own e 5 ((rs ++ [(⟨p, [], ⟨a, b⟩, w⟩ : Ru)]).map Ru.e)) := by
  rw [List.map_append]
  have hlen : ∀ e ∈ rs.map Ru.e, e.cells.length = 5 := fun e he => by
    obtain ⟨r, _, rfl⟩ := List.mem_map.1 he; rfl
  refine CLe.own' (by simp) (fun x hx => ?_) fun S w0 v h => rowLast hlen ru_scalar rfl rfl (fun i x y hx hy => ?_) h
  · rcases List.mem_append.1 hx with h1 | h1
    · exact hlen x h1
    · obtain ⟨r, _, rfl⟩ := List.mem_map.1 h1; rfl
  · match i, hx, hy with
    | 0, hx, hy =>
      simp [PD.cells, Ru.e] at hx hy; subst hx; subst hy
      refine ⟨rfl, fun u hu => ?_⟩
      rcases hq with ⟨rfl, rfl⟩ | ⟨rfl, rfl⟩
      · exact hu
      · exact emp_any hu
    | 1, hx, hy => simp [PD.cells, Ru.e] at hx hy; subst hx; subst hy; exact ⟨rfl, fun _ h => emp_any h⟩
    | 2, hx, hy => simp [PD.cells, Ru.e] at hx hy; subst hx; subst hy; exact ⟨rfl, fun _ h => h⟩
    | 3, hx, hy => simp [PD.cells, Ru.e] at hx hy; subst hx; subst hy; exact ⟨rfl, fun _ h => h⟩
    | 4, hx, hy => simp [PD.cells, Ru.e] at hx hy; subst hx; subst hy; exact ⟨rfl, fun _ h => h⟩
    | n + 5, hx, hy => simp [PD.cells] at hx
theorem disP_in (bs : List UInt8) (s : Cu) : (disP bs s).1.fs.length ≤ 4 ∧ (disP bs s).1.rs.length ≤ 8 ∧ (disP bs s).1.ss.length ≤ 6 ∧ (disP bs s).2.a ≤ s.a + 300 := by
  have h1 := d1_in bs 4 [] s
  obtain ⟨n2, hn2, hn2l⟩ := pk_nat bs (d1 bs 4 [] s).2 (Int.le_refl 8) (by decide)
  have h2 := d2_in bs n2 [] (pkS bs (d1 bs 4 [] s).2 8)
  have h3 := d3_in bs 6 [] (d2 bs n2 [] (pkS bs (d1 bs 4 [] s).2 8)).2
  have h4 := pkS_a bs (d1 bs 4 [] s).2 8
  unfold disP
  dsimp only
  rw [hn2, Int.toNat_natCast]
  simp only [List.length_nil] at h1 h2 h3
  omega
def L4 : List Tx := [[97], [], [88], [102]]
def L2 : List Tx := [[97], [103]]
def K3 : List Int := [0, 5, 1001]
def K4 : List Int := [0, 5, 1]
def R7 : Ru := ⟨[], [], ⟨[102], false⟩, 7⟩
def d4 (bs : List UInt8) : Nat → List Ru → Cu → List Ru × Cu
  | 0, rs, s => (rs, pkS bs s 2)
  | n + 1, rs, s => if (rs.length : Int) < 10 + pkR bs s 2 then d4 bs n (rs ++ [R7]) (pkS bs s 2) else (rs, pkS bs s 2)
theorem d4_in (bs : List UInt8) : ∀ (n : Nat) (rs : List Ru) (s : Cu), (d4 bs n rs s).1.length ≤ rs.length + n ∧ (d4 bs n rs s).2.a ≤ s.a + 2 * n + 2
  | 0, rs, s => ⟨Nat.le_refl _, pkS_a bs s 2⟩
  | n + 1, rs, s => by
    have a1 := pkS_a bs s 2
    unfold d4
    split
    · obtain ⟨h1, h2⟩ := d4_in bs n (rs ++ [R7]) (pkS bs s 2)
      rw [List.length_append] at h1; simp only [List.length_cons, List.length_nil] at h1
      omega
    · dsimp only; omega
def anyP (bs : List UInt8) (s : Cu) : Cs × Cu :=
  let p := disP bs s
  let v := pkR bs p.2 30
  let s1 := pkS bs p.2 30
  if v = 0 then (⟨p.1.fs ++ [⟨ofV bs s1 L4, false⟩], p.1.rs, p.1.ss⟩, pkS bs s1 L4.length)
  else if v = 1 then (⟨p.1.fs, p.1.rs ++ [⟨[thV bs s1 6], [], thV bs (thS bs s1 6) 3, amV bs (thS bs (thS bs s1 6) 3) K3⟩], p.1.ss⟩, pkS bs (thS bs (thS bs s1 6) 3) K3.length)
  else if v = 2 then (⟨p.1.fs, p.1.rs, p.1.ss ++ [⟨ofV bs s1 L2, amV bs (pkS bs s1 L2.length) K4⟩]⟩, pkS bs (pkS bs s1 L2.length) K4.length)
  else if v = 3 then (⟨p.1.fs, (d4 bs (11 - p.1.rs.length) p.1.rs s1).1, p.1.ss⟩, (d4 bs (11 - p.1.rs.length) p.1.rs s1).2)
  else (p.1, s1)
end Go.Bee.Du
namespace Go.Bee.Du
open Go Go.Bee Go.Proofs Go.Bee.Ty
theorem bTh1' : ∀ (a : List UInt8), evBuild Tryz.prog 30 [(0, .d (.str a))] = some (.agg [.d (.str a), .d (.bool false)]) := Go.Bee.C23s.bTh1
theorem bRu3 : ∀ (q : List PD) (a : List UInt8) (b : Bool) (w : Int), evBuild Tryz.prog 36 [(0, .own 30 2 q), (2, .agg [.d (.str a), .d (.bool b)]), (3, .d (.int .i64 w))] = some (.agg [.d (.sl 2 q), .nilS, .d (.str a), .d (.bool b), .d (.int .i64 w)]) := fun q a b w => by kernel_rfl
theorem sRu3 : ∀ (q : List PD) (a : List UInt8) (b : Bool) (w : Int), evBuildSlice Tryz.prog 25 1 [(0, .agg [.d (.sl 2 q), .nilS, .d (.str a), .d (.bool b), .d (.int .i64 w)])] = some (.own 36 5 [.agg [.sl 2 q, .sl 0 [], .str a, .bool b, .int .i64 w]]) := fun q a b w => by kernel_rfl
theorem tys : type_of% (And.intro Go.Bee.Dt.tys (And.intro bRu3 sRu3)) := And.intro Go.Bee.Dt.tys (And.intro bRu3 sRu3)
end Go.Bee.Du
namespace Go.Bee.Du
open Go Go.Bee Go.Proofs Go.Bee.Ty Go.Bee.Dr Go.Bee.Ds Go.Bee.Dt Go.Bee.C23 Go.Bee.C23s Go.Bee.C23a Go.Bee.C23n
set_option linter.unusedVariables false
set_option maxRecDepth 20000
attribute [local irreducible] Go.Bee.bwp
theorem anyDispute_b (bs : List UInt8) (s : Cu) (h : s.a ≤ 4611686018427360000) : BRet Tryz.prog 84 [s.c bs] [.ptr (.a 0) 0] (.agg (caseC (anyP bs s).1.fs (anyP bs s).1.rs (anyP bs s).1.ss)) [(anyP bs s).2.c bs] := by
  have hd := disP_in bs s
  have hv := pkR_lt bs (disP bs s).2 (Int.le_refl 30) (by decide)
  have ha := pkS_a bs (disP bs s).2 30
  have hdis := dispute_b bs s (by omega)
  unfold anyP
  dsimp only
  generalize disP bs s = q at *
  obtain ⟨⟨fs, rs, ss⟩, s0⟩ := q
  dsimp only at hd hv ha hdis ⊢
  have hpick := pick_b bs s0 30 (by omega)
  generalize pkR bs s0 30 = v at *
  generalize pkS bs s0 30 = s1 at *
  by_cases h0 : v = 0
  · subst h0
    rw [if_pos rfl]
    have hof := of_b bs s1 L4 (by omega) (by decide)
    generalize ofV bs s1 L4 = nm at *
    generalize pkS bs s1 L4.length = s2 at *
    refine bofp Tryz.func84 ?_
    refine bgo ?_
    refine b_callp hdis rfl rfl rfl rfl rfl rfl rfl rfl rfl rfl ?_
    refine bgo ?_
    refine b_callp hpick rfl rfl rfl rfl rfl rfl rfl rfl rfl rfl ?_
    refine bgo ?_
    refine ⟨rfl, ?_⟩
    refine b_callp hof rfl rfl rfl rfl rfl (by kernel_rfl) (by kernel_rfl) rfl rfl rfl ?_
    refine bgo ?_
    refine ⟨rfl, ?_⟩
    rw [append_th']
    exact ret_cp rfl rfl ty28 rfl rfl rfl rfl rfl (fun k => rfl) rfl
  rw [if_neg h0]
  by_cases h2 : v = 2
  · subst h2
    rw [if_neg (by decide), if_pos rfl]
    have hof := of_b bs s1 L2 (by omega) (by decide)
    have ha2 := pkS_a bs s1 L2.length
    generalize ofV bs s1 L2 = nm at *
    generalize pkS bs s1 L2.length = s2 at *
    have ham := among_b bs s2 K4 (by omega) (by decide)
    generalize amV bs s2 K4 = kv at *
    generalize pkS bs s2 K4.length = s3 at *
    refine bofp Tryz.func84 ?_
    refine bgo ?_
    refine b_callp hdis rfl rfl rfl rfl rfl rfl rfl rfl rfl rfl ?_
    refine bgo ?_
    refine b_callp hpick rfl rfl rfl rfl rfl rfl rfl rfl rfl rfl ?_
    refine bgo ?_
    refine ⟨fun h => absurd h (by decide), fun _ => ?_⟩
    refine ⟨rfl, ?_⟩
    refine b_callp hof rfl rfl rfl rfl rfl (by kernel_rfl) (by kernel_rfl) rfl rfl rfl ?_
    refine bgo ?_
    refine b_callp ham rfl rfl rfl rfl rfl (by kernel_rfl) (by kernel_rfl) rfl rfl rfl ?_
    refine bgo ?_
    refine ⟨rfl, ?_⟩
    rw [append_sd]
    exact ret_cp rfl rfl ty28 rfl rfl rfl rfl rfl (fun k => rfl) rfl
  by_cases h1 : v = 1
  · subst h1
    rw [if_pos rfl]
    have ht := thesis_b bs s1 6 (by omega)
    have ha2 := thS_a bs s1 6
    generalize thV bs s1 6 = t at *
    generalize thS bs s1 6 = s2 at *
    have hu := thesis_b bs s2 3 (by omega)
    have ha3 := thS_a bs s2 3
    generalize thV bs s2 3 = u at *
    generalize thS bs s2 3 = s3 at *
    have ham := among_b bs s3 K3 (by omega) (by decide)
    generalize amV bs s3 K3 = kv at *
    generalize pkS bs s3 K3.length = s4 at *
    refine BRet.res (r := .agg [.own 30 2 (fs.map Th.e), .own 36 5 (rs.map Ru.e ++ [.agg [.sl 2 [.agg [.str t.n, .bool t.g]], .sl 0 [], .str u.n, .bool u.g, .int .i64 kv]]), .own 116 2 (ss.map Sd.e)]) ?_
      (PLe.agg3 (ruLe rs [t] 2 0 [t.e] (.inl ⟨rfl, rfl⟩) u.n u.g kv _))
    refine bofp Tryz.func84 ?_
    refine bgo ?_
    refine b_callp hdis rfl rfl rfl rfl rfl rfl rfl rfl rfl rfl ?_
    refine bgo ?_
    refine b_callp hpick rfl rfl rfl rfl rfl rfl rfl rfl rfl rfl ?_
    refine bgo ?_
    refine ⟨rfl, ?_⟩
    refine b_callp ht rfl rfl rfl rfl rfl (by kernel_rfl) (by kernel_rfl) rfl rfl rfl ?_
    refine bgo ?_
    refine b_callp hu rfl rfl rfl rfl rfl (by kernel_rfl) (by kernel_rfl) rfl rfl rfl ?_
    refine bgo ?_
    refine b_callp ham rfl rfl rfl rfl rfl (by kernel_rfl) (by kernel_rfl) rfl rfl rfl ?_
    refine bgo ?_
    refine ⟨rfl, ?_⟩
    exact ret_cp rfl rfl ty28 rfl rfl rfl rfl rfl (fun k => rfl) rfl
  rw [if_neg h1, if_neg h2]
  by_cases h3 : v = 3
  · subst h3
    rw [if_pos rfl]
    dsimp only
    obtain ⟨q, hq⟩ : ∃ q, d4 bs (11 - rs.length) rs s1 = q := ⟨_, rfl⟩
    rw [hq]
    refine bofp Tryz.func84 ?_
    refine bgo ?_
    refine b_callp hdis rfl rfl rfl rfl rfl rfl rfl rfl rfl rfl ?_
    refine bgo ?_
    refine b_callp hpick rfl rfl rfl rfl rfl rfl rfl rfl rfl rfl ?_
    refine bgo ?_
    refine b_lp (ι := Nat × List Ru × Cu) (fun i => [(0, .ptr (.a 0) 0), (2, .ptr (.t 2) 0), (3, .ptr (.t 3) 0)]) (fun i => [(.a 0, i.2.2.c bs), (.t 2, [.nilS, .nilS, .nilS]), (.t 3, caseC fs i.2.1 ss)])
      (fun i => i.1 + i.2.1.length = 11 ∧ i.2.2.a + 2 * i.1 ≤ s1.a + 22 ∧ d4 bs i.1 i.2.1 i.2.2 = q) (fun i => i.1) (11 - rs.length, rs, s1) hs ⟨by dsimp only; omega, by dsimp only; omega, hq⟩ ?_
    clear hq hdis hpick
    rintro ⟨n, rs2, s2⟩ ⟨hn, hsa, hr⟩ I nx
    dsimp only at hn hsa hr ⊢
    have hv2 := pkR_lt bs s2 (Int.le_refl 2) (by decide)
    have ha2 := pkS_a bs s2 2
    have hp2 := pick_b bs s2 2 (by omega)
    have hd : d4 bs n rs2 s2 = if (rs2.length : Int) < 10 + pkR bs s2 2 then d4 bs (n - 1) (rs2 ++ [R7]) (pkS bs s2 2) else (rs2, pkS bs s2 2) := by
      cases n with
      | zero => rw [if_neg (by omega)]; rfl
      | succ n => rfl
    rw [hd] at hr
    clear hd
    generalize pkR bs s2 2 = w at *
    generalize pkS bs s2 2 = s3 at *
    refine bgo ?_
    refine b_callp hp2 rfl rfl rfl rfl rfl (by kernel_rfl) (by kernel_rfl) rfl rfl rfl ?_
    by_cases hc : (rs2.length : Int) < 10 + w
    · rw [if_pos hc] at hr
      refine bgo ?_
      refine nx.go (n - 1, rs2 ++ [R7], s3) ⟨by simp; omega, by dsimp only; omega, hr⟩ (by dsimp only; omega) ?_
      exact ⟨hsT, ⟨_, rfl, ⟨CLe.rfl, rfl⟩, ⟨CLe.rfl, rfl⟩, ⟨CLe.rfl, rfl⟩, trivial⟩, ⟨_, rfl, ⟨CLe.rfl, rfl⟩, ⟨CLe.rfl, rfl⟩, ⟨CLe.rfl, rfl⟩, trivial⟩, ⟨_, rfl, ⟨CLe.rfl, rfl⟩, ⟨ruLe rs2 [] 0 0 [] (.inr ⟨rfl, rfl⟩) [102] false 7 _, rfl⟩, ⟨CLe.rfl, rfl⟩, trivial⟩, trivial⟩
    · rw [if_neg hc] at hr
      subst hr
      refine bgo ?_
      refine wk_rfl ?_
      refine bgo ?_
      exact ret_cp rfl rfl ty28 rfl rfl rfl rfl rfl (fun k => rfl) rfl
  · have h3' : (v == 3) = false := by simpa using h3
    refine bofp Tryz.func84 ?_
    refine bgo ?_
    refine b_callp hdis rfl rfl rfl rfl rfl rfl rfl rfl rfl rfl ?_
    refine bgo ?_
    refine b_callp hpick rfl rfl rfl rfl rfl rfl rfl rfl rfl rfl ?_
    refine bgo ?_
    exact ret_cp rfl rfl ty28 rfl rfl rfl rfl rfl (fun k => rfl) rfl
end Go.Bee.Du

/- Chapter 23: the inputs that are drawn for the laws. -/
namespace Go.Bee.Dv
open Go Go.Bee Go.Proofs Go.Bee.Ty
theorem bCu1 : ∀ (q : List PD), evBuild Tryz.prog 105 [(0, .d (.sl 1 q))] = some (.agg [.d (.sl 1 q), .d (.int .i64 0), .d (.int .u64 0)]) := fun q => by kernel_rfl
theorem tys : type_of% (And.intro Go.Bee.Du.tys bCu1) := And.intro Go.Bee.Du.tys bCu1
end Go.Bee.Dv
namespace Go.Bee.Dv
open Go Go.Bee Go.Proofs Go.Bee.Ty Go.Bee.Dr Go.Bee.Ds Go.Bee.Dt Go.Bee.Du Go.Bee.C23 Go.Bee.C23s Go.Bee.C23a Go.Bee.C23n
set_option linter.unusedVariables false
set_option maxRecDepth 20000
attribute [local irreducible] Go.Bee.bwp
theorem anyP_in (bs : List UInt8) (s : Cu) : (anyP bs s).1.fs.length ≤ 5 ∧ (anyP bs s).1.rs.length ≤ 11 ∧ (anyP bs s).1.ss.length ≤ 7 ∧ (anyP bs s).2.a ≤ s.a + 350 := by
  have hd := disP_in bs s
  have ha := pkS_a bs (disP bs s).2 30
  unfold anyP
  dsimp only
  generalize disP bs s = q at *
  generalize pkS bs q.2 30 = s1 at *
  have e1 := pkS_a bs s1 L4.length
  have e2 := thS_a bs s1 6
  have e3 := thS_a bs (thS bs s1 6) 3
  have e4 := pkS_a bs (thS bs (thS bs s1 6) 3) K3.length
  have e5 := pkS_a bs s1 L2.length
  have e6 := pkS_a bs (pkS bs s1 L2.length) K4.length
  have e7 := d4_in bs (11 - q.1.rs.length) q.1.rs s1
  split
  · simp only [List.length_append, List.length_cons, List.length_nil]; omega
  · split
    · simp only [List.length_append, List.length_cons, List.length_nil]; omega
    · split
      · simp only [List.length_append, List.length_cons, List.length_nil]; omega
      · split
        · dsimp only; omega
        · dsimp only; omega
def L3 : List Tx := [[], [65], [122, 122]]
def drW (bs : List UInt8) : Cs × Th :=
  let p := anyP bs ⟨0, 0⟩
  let t := thV bs p.2 6
  let s2 := thS bs p.2 6
  (p.1, if (pkR bs s2 30 == 0) = true then ⟨ofV bs (pkS bs s2 30) L3, t.g⟩ else t)
theorem DrawWeightsOf_b (bs : List UInt8) : BRet Tryz.prog 36 [] [.d (.sl 1 (by1 bs))] (.tup [.agg (caseC (drW bs).1.fs (drW bs).1.rs (drW bs).1.ss), .agg [.str (drW bs).2.n, .bool (drW bs).2.g]]) [] := by
  refine bof Tryz.func36 ?_
  have hin := anyP_in bs ⟨0, 0⟩
  have hany := anyDispute_b bs ⟨0, 0⟩ (by decide)
  unfold drW
  dsimp only
  generalize anyP bs ⟨0, 0⟩ = q at *
  obtain ⟨⟨fs, rs, ss⟩, s1⟩ := q
  dsimp only at hin hany ⊢
  have ht := thesis_b bs s1 6 (by omega)
  have ha2 := thS_a bs s1 6
  generalize thV bs s1 6 = t at *
  generalize thS bs s1 6 = s2 at *
  have ho := one_b bs s2 30 (by omega)
  have ha3 := pkS_a bs s2 30
  generalize (pkR bs s2 30 == 0) = b at *
  generalize pkS bs s2 30 = s3 at *
  refine bgo ?_
  refine b_callp hany rfl rfl rfl rfl rfl rfl rfl rfl rfl rfl ?_
  refine bgo ?_
  refine b_callp ht rfl rfl rfl rfl rfl rfl rfl rfl rfl rfl ?_
  refine bgo ?_
  refine b_callp ho rfl rfl rfl rfl rfl rfl rfl rfl rfl rfl ?_
  cases b
  · refine bgo ?_
    exact ⟨rfl, rfl, rfl, rfl, ret_cc rfl rfl rfl rfl (by decide) ty28 ty30 rfl rfl rfl rfl rfl rfl rfl (fun k => rfl)⟩
  · have L := of_b bs s3 L3 (by omega) (by decide)
    refine bgo ?_
    refine b_callp L rfl rfl rfl rfl rfl rfl rfl rfl rfl rfl ?_
    refine bgo ?_
    exact ⟨rfl, rfl, rfl, rfl, ret_cc rfl rfl rfl rfl (by decide) ty28 ty30 rfl rfl rfl rfl rfl rfl rfl (fun k => rfl)⟩
theorem DrawNeededWeight_b (bs : List UInt8) : BRet Tryz.prog 15 [] [.d (.sl 1 (by1 bs))] (.tup [.agg (caseC (drW bs).1.fs (drW bs).1.rs (drW bs).1.ss), .agg [.str (drW bs).2.n, .bool (drW bs).2.g]]) [] := by
  refine bof Tryz.func15 ?_
  have h := DrawWeightsOf_b bs
  generalize drW bs = q at *
  obtain ⟨⟨fs, rs, ss⟩, t⟩ := q
  refine bgo ?_
  refine b_call h rfl rfl rfl rfl ?_
  refine bgo ?_
  exact ret_cc rfl rfl rfl rfl (by decide) ty28 ty30 rfl rfl rfl rfl rfl rfl rfl (fun k => rfl)
def L10 : List Tx := [[97], [98], [99], [100], [101], [102], [102], [101], [103], []]
def drS (bs : List UInt8) : Cs × Tx := ((anyP bs ⟨0, 0⟩).1, ofV bs (anyP bs ⟨0, 0⟩).2 L10)
theorem DrawStatusOf_b (bs : List UInt8) : BRet Tryz.prog 80 [] [.d (.sl 1 (by1 bs))] (.tup [.agg (caseC (drS bs).1.fs (drS bs).1.rs (drS bs).1.ss), .str (drS bs).2]) [] := by
  refine bof Tryz.func80 ?_
  have hin := anyP_in bs ⟨0, 0⟩
  have hany := anyDispute_b bs ⟨0, 0⟩ (by decide)
  unfold drS
  dsimp only
  generalize anyP bs ⟨0, 0⟩ = q at *
  obtain ⟨⟨fs, rs, ss⟩, s1⟩ := q
  dsimp only at hin hany ⊢
  have L := of_b bs s1 L10 (by omega) (by decide)
  refine bgo ?_
  refine b_callp hany rfl rfl rfl rfl rfl rfl rfl rfl rfl rfl ?_
  refine bgo ?_
  refine b_callp L rfl rfl rfl rfl rfl rfl rfl rfl rfl rfl ?_
  refine bgo ?_
  exact ret_ct rfl rfl rfl ty28 rfl rfl rfl rfl rfl (fun k => rfl)
theorem DrawDecisiveFacts_b (bs : List UInt8) : BRet Tryz.prog 31 [] [.d (.sl 1 (by1 bs))] (.tup [.agg (caseC (drS bs).1.fs (drS bs).1.rs (drS bs).1.ss), .str (drS bs).2]) [] := by
  refine bof Tryz.func31 ?_
  have h := DrawStatusOf_b bs
  generalize drS bs = q at *
  obtain ⟨⟨fs, rs, ss⟩, t⟩ := q
  refine bgo ?_
  refine b_call h rfl rfl rfl rfl ?_
  refine bgo ?_
  exact ret_ct rfl rfl rfl ty28 rfl rfl rfl rfl rfl (fun k => rfl)
theorem drW_in (bs : List UInt8) : (drW bs).1.fs.length ≤ 5 ∧ (drW bs).1.rs.length ≤ 11 ∧ (drW bs).1.ss.length ≤ 7 := by
  have := anyP_in bs ⟨0, 0⟩
  unfold drW
  dsimp only
  omega
theorem drS_in (bs : List UInt8) : (drS bs).1.fs.length ≤ 5 ∧ (drS bs).1.rs.length ≤ 11 ∧ (drS bs).1.ss.length ≤ 7 := by
  have := anyP_in bs ⟨0, 0⟩
  unfold drS
  dsimp only
  omega
end Go.Bee.Dv

/- Chapter 23: FnProofRules. -/
namespace Go.Bee.Pr
open Go Go.Bee Go.Proofs Go.Bee.Ty
theorem tys : type_of% (And.intro Go.Bee.Fw.tys Go.Bee.Dv.tys) := And.intro Go.Bee.Fw.tys Go.Bee.Dv.tys
end Go.Bee.Pr
namespace Go.Bee.Pr
open Go Go.Bee Go.Proofs Go.Bee.Ty Go.Bee.C23 Go.Bee.C23s Go.Bee.C23a Go.Bee.Mt Go.Bee.Mr Go.Bee.Cq Go.Bee.Ml Go.Bee.Ar Go.Bee.Dr Go.Bee.Fw Go.Bee.Dv Go.Bee.Dt
set_option linter.unusedVariables false
set_option maxRecDepth 20000
attribute [local irreducible] Go.Bee.bwp
theorem vBig_b (bs : List UInt8) : BRet Tryz.prog 14 [] [.d (.sl 1 (by1 bs))] (.bool (decide ((bs.length : Int) > 65536))) [] := by
  refine bof Tryz.func14 ?_
  have hl := by1_len bs
  generalize by1 bs = q at *
  refine bgo ?_
  first
    | trivial
    | rfl
theorem vTexts_s (l : List (List UInt8)) : BRet Tryz.prog 39 [] [.d (.sl 1 (txts l)), .d (.sl 1 (txts l))] (.bool true) [] := by
  refine BRet.len 0 (by kernel_rfl) rfl fun hl => ?_
  refine bof Tryz.func39 ?_
  have hll : (txts l).length = l.length := by simp [txts]
  have hli : ∀ i (h : i < l.length), (txts l)[i]? = some (PD.str l[i]) := fun i h => by simp [txts, h]
  generalize txts l = q at *
  refine bgo ?_
  refine b_lp (ι := Nat × Unit) (fun i => [(0, .d (.sl 1 q)), (1, .d (.sl 1 q)), (5, .int i.1)]) (fun _ => []) (fun i => i.1 ≤ l.length) (fun i => l.length - i.1) (0, ()) hs (Nat.zero_le _) ?_
  rintro ⟨i, u⟩ hi I nx
  dsimp only at hi ⊢
  by_cases hlt : i < l.length
  · have hx := hli i hlt
    generalize l[i] = x at *
    have hib : (i : Int) + 1 ≤ 1099511627776000 := by omega
    have hlt2 : i < q.length := by omega
    clear hli
    refine bgo ?_
    exact nx.go (i + 1, ()) hlt (by dsimp only; omega) hs
  · have hlt2 : ¬ i < q.length := by omega
    refine bgo ?_
    refine wk_rfl ?_
    refine bgo ?_
    trivial
theorem vInts_s (l : List Int) : BRet Tryz.prog 34 [] [.d (.sl 1 (ints l)), .d (.sl 1 (ints l))] (.bool true) [] := by
  refine BRet.len 0 (by kernel_rfl) rfl fun hl => ?_
  refine bof Tryz.func34 ?_
  have hll : (ints l).length = l.length := by simp [ints]
  have hli : ∀ i (h : i < l.length), (ints l)[i]? = some (PD.int .i64 l[i]) := fun i h => by simp [ints, h]
  generalize ints l = q at *
  refine bgo ?_
  refine b_lp (ι := Nat × Unit) (fun i => [(0, .d (.sl 1 q)), (1, .d (.sl 1 q)), (5, .int i.1)]) (fun _ => []) (fun i => i.1 ≤ l.length) (fun i => l.length - i.1) (0, ()) hs (Nat.zero_le _) ?_
  rintro ⟨i, u⟩ hi I nx
  dsimp only at hi ⊢
  by_cases hlt : i < l.length
  · have hx := hli i hlt
    generalize l[i] = x at *
    have hib : (i : Int) + 1 ≤ 1099511627776000 := by omega
    have hlt2 : i < q.length := by omega
    clear hli
    refine bgo ?_
    exact nx.go (i + 1, ()) hlt (by dsimp only; omega) hs
  · have hlt2 : ¬ i < q.length := by omega
    refine bgo ?_
    refine wk_rfl ?_
    refine bgo ?_
    trivial
/-! The greatest weight of the rules that apply. -/
def mostF (rs : List Ru) (t : Th) (m : Int) (x : Int) : Int := match rs[x.toNat]? with
  | some r => if r.c = t ∧ r.wt > m then r.wt else m
  | none => m
theorem most_eq (rs : List Ru) (acc : List Th) (t : Th) : ∀ (l : List Ru) (i : Nat) (m : Int), rs.drop i = l → (appI acc l i).foldl (mostF rs t) m = l.foldl (wtF acc t) m
  | [], _, m, _ => rfl
  | r :: l, i, m, h => by
    have hi : rs[i]? = some r := by
      have := congrArg (fun q => q[0]?) h
      simpa using this
    have ht : rs.drop (i + 1) = l := by rw [← List.drop_drop, h]; rfl
    have ih := fun m => most_eq rs acc t l (i + 1) m ht
    unfold appI
    rw [List.foldl_cons]
    cases ha : appl acc r
    · rw [if_neg (by simp), ih]
      congr 1
      unfold wtF; rw [ha]; simp
    · rw [if_pos rfl, List.foldl_cons, ih]
      congr 1
      unfold mostF wtF
      rw [show ((i : Int)).toNat = i from rfl, hi, ha]
      by_cases hc : r.c = t
      · by_cases hw : r.wt > m
        · simp [hc, hw]; omega
        · simp [hc, hw]; omega
      · simp [hc]
theorem appI_mem (acc : List Th) : ∀ (l : List Ru) (i : Nat) (x : Int), x ∈ appI acc l i → ∃ k : Nat, x = k ∧ i ≤ k ∧ k < i + l.length
  | [], _, x, h => by simp [appI] at h
  | r :: l, i, x, h => by
    unfold appI at h
    simp only [List.length_cons]
    split at h
    · rcases List.mem_cons.1 h with rfl | h
      · exact ⟨i, rfl, Nat.le_refl _, by omega⟩
      · obtain ⟨k, h1, h2, h3⟩ := appI_mem acc l (i + 1) x h
        exact ⟨k, h1, by omega, by omega⟩
    · obtain ⟨k, h1, h2, h3⟩ := appI_mem acc l (i + 1) x h
      exact ⟨k, h1, by omega, by omega⟩
theorem lawProofRules_b (bs : List UInt8) : BRet Tryz.prog 6 [] [.d (.sl 1 (by1 bs))] (.bool true) [] := by
  refine bof Tryz.func6 ?_
  have hbig := vBig_b bs
  have hdr := DrawWeightsOf_b bs
  obtain ⟨h1, h2, h3⟩ := drW_in bs
  by_cases hb : (bs.length : Int) > 65536
  · rw [decide_eq_true hb] at hbig
    refine bgo ?_
    refine b_call hbig rfl rfl rfl rfl ?_
    refine bgo ?_
    trivial
  rw [decide_eq_false hb] at hbig
  generalize drW bs = q at *
  obtain ⟨c, t⟩ := q
  dsimp only at h1 h2 h3 hdr
  generalize by1 bs = code at *
  clear hb
  have hdo := DecisionOrder_b c
  have hso := specDecisionOrder_b c
  have har := ApplicableRules_b c
  have hsr := specApplicableRules_b c
  have hva := IsValidCase_b c
  have hwi := WeightsOf_b c t
  have hws := specWeightsOf_b c t
  have hfw := FrameworkOf_b c
  refine bgo ?_
  refine b_call hbig rfl rfl rfl rfl ?_
  refine bgo ?_
  refine b_call hdr rfl rfl rfl rfl ?_
  refine bgo ?_
  refine b_call hdo rfl rfl rfl rfl ?_
  refine bgo ?_
  refine b_call har rfl rfl rfl rfl ?_
  refine bgo ?_
  refine b_call hso rfl rfl rfl rfl ?_
  refine bgo ?_
  refine b_call hsr rfl rfl rfl rfl ?_
  refine bgo ?_
  refine b_call (vTexts_s _) rfl rfl rfl rfl ?_
  refine bgo ?_
  refine b_call (vInts_s _) rfl rfl rfl rfl ?_
  refine bgo ?_
  refine b_call hva rfl rfl rfl rfl ?_
  cases hn : (head c && okI c && vName t.n)
  · rw [hn, if_neg (by decide), if_neg (by decide)] at hwi hws
    generalize (head c && okI c) = ok at *
    refine bgo ?_
    refine b_call hwi rfl rfl rfl rfl ?_
    refine bgo ?_
    refine b_call hws rfl rfl rfl rfl ?_
    refine bgo ?_
    trivial
  · rw [hn, if_pos rfl, if_pos rfl] at hwi hws
    have hv : (head c && okI c) = true := by simp only [Bool.and_eq_true] at hn ⊢; exact hn.1
    have hao : appO c = appI (accI c) c.rs 0 := if_pos hv
    have hfo : fwO c = fwAll c.rs c.rs 0 := if_pos hv
    have hfn : fwN c = c.rs.length := if_pos hv
    have hhv : head c = true := by simp only [Bool.and_eq_true] at hv; exact hv.1
    have hrl : c.rs.length ≤ 10 := by simp only [head, Bool.and_eq_true, decide_eq_true_eq] at hhv; omega
    have hmost : (appO c).foldl (mostF c.rs t) 0 = wt c (accI c) t := by rw [hao]; exact most_eq c.rs (accI c) t c.rs 0 0 rfl
    have hmem : ∀ x ∈ appO c, ∃ k : Nat, x = k ∧ k < c.rs.length := fun x hx => by
      rw [hao] at hx
      obtain ⟨k, e1, e2, e3⟩ := appI_mem _ _ _ _ hx
      exact ⟨k, e1, by omega⟩
    have hal : (appO c).length ≤ c.rs.length := by rw [hao]; exact appI_len _ _ _
    have hvf := IsValidFramework_b c.rs.length (fwO c) hrl (by have := fwAll_len c.rs c.rs 0; rw [hfo]; have : c.rs.length * c.rs.length ≤ 10 * 10 := Nat.mul_le_mul hrl hrl; omega) (fun p hp => by rw [hfo] at hp; have := fwAll_mem c.rs c.rs 0 p hp; omega) (by rw [hfo]; exact fwAll_pw c.rs c.rs 0)
    clear hao hfo
    rw [hfn] at hfw
    rw [hv] at hfw
    generalize wt c (accI c) (opp t) = pq at *
    generalize wt c (accI c) t = p at *
    generalize fwO c = fo at *
    generalize decO c = od at *
    have hil : (ints (appO c)).length = (appO c).length := by simp [ints]
    have hit : ∀ i (h : i < (appO c).length), (ints (appO c))[i]? = some (.int .i64 (appO c)[i]) := fun i h => by simp [ints, h]
    generalize appO c = L at *
    rw [hv]
    refine bgo ?_
    refine b_call hwi rfl rfl rfl rfl ?_
    refine bgo ?_
    refine b_call hws rfl rfl rfl rfl ?_
    refine bgo ?_
    refine b_lp (ι := Nat × Int) (fun i => [(3, .ptr (.t 3) 0), (4, .ptr (.t 4) 0), (7, .d (.sl 1 (ints L))), (13, .int p), (19, .int i.2), (20, .int i.1)]) (fun _ => [(.t 3, caseDs c), (.t 4, [.str t.n, .bool t.g])]) (fun i => i.1 ≤ L.length ∧ (L.drop i.1).foldl (mostF c.rs t) i.2 = p) (fun i => L.length - i.1) (0, 0) hs ⟨Nat.zero_le _, hmost⟩ ?_
    clear hmost
    rintro ⟨i, m⟩ ⟨hi, hj⟩ I nx
    dsimp only at hi hj ⊢
    by_cases hlt : i < L.length
    · obtain ⟨k, hk, hkr⟩ := hmem L[i] (List.getElem_mem hlt)
      have hx := hit i hlt
      rw [List.drop_eq_getElem_cons hlt, List.foldl_cons] at hj
      rw [hk] at hx hj
      have hy : c.rs[k]? = some c.rs[k] := List.getElem?_eq_getElem hkr
      have hmf : mostF c.rs t m k = if c.rs[k].c = t ∧ c.rs[k].wt > m then c.rs[k].wt else m := by unfold mostF; rw [show ((k : Int)).toNat = k from rfl, hy]
      rw [hmf] at hj
      have hkn : ¬ (k : Int) ≥ c.rs.length := by omega
      have hlt2 : i < (ints L).length := by omega
      have hib : (i : Int) + 1 ≤ 1000 := by omega
      generalize c.rs[k] = r at *
      clear hmf hit hmem hk
      by_cases hc : r.c = t
      · have hc2 : (⟨r.c.n, r.c.g⟩ : Th) = ⟨t.n, t.g⟩ := hc
        by_cases hw : r.wt > m
        · rw [if_pos ⟨hc, hw⟩] at hj
          clear hc
          refine bgo ?_
          exact ⟨rfl, rfl, nx.go (i + 1, r.wt) ⟨hlt, hj⟩ (by dsimp only; omega) hs⟩
        · rw [if_neg (fun h => hw h.2)] at hj
          clear hc
          refine bgo ?_
          exact ⟨rfl, rfl, nx.go (i + 1, m) ⟨hlt, hj⟩ (by dsimp only; omega) hs⟩
      · have hc2 : ¬ (⟨r.c.n, r.c.g⟩ : Th) = ⟨t.n, t.g⟩ := hc
        rw [if_neg (fun h => hc h.1)] at hj
        clear hc
        refine bgo ?_
        exact ⟨rfl, rfl, nx.go (i + 1, m) ⟨hlt, hj⟩ (by dsimp only; omega) hs⟩
    · have hi2 : i = L.length := by omega
      subst hi2
      rw [List.drop_length] at hj
      replace hj : m = p := hj
      subst hj
      have hlt2 : ¬ (L.length : Int) < L.length := by omega
      refine bgo ?_
      refine wk_rfl ?_
      refine bgo ?_
      refine b_call hfw rfl rfl rfl rfl ?_
      refine bgo ?_
      refine b_call hvf rfl rfl rfl rfl ?_
      refine bgo ?_
      trivial
end Go.Bee.Pr

/-
What reads as data is data of the logic; a call that gives true out of it is what a row asks. No condition.
-/
namespace Go.Bee
open Go.ChangeShapes Go.WideShapes Go.ChangeAt Go.RowKit
set_option linter.unusedVariables false

def Old (w : World) : Nat → Nat → Prop := fun g _ => g < w.heap.size
def Cells (w : World) (ps : List PD) (cs : List Value) : Prop := ps.length = cs.length ∧ (∀ x ∈ ps, x.scalar = true) ∧ ∀ (i : Nat) x v, ps[i]? = some x → cs[i]? = some v → RepD (Old w) w x v
theorem Cells.append {w : World} {ps ps' : List PD} {cs cs' : List Value} (h : Cells w ps cs) (k : Cells w ps' cs') : Cells w (ps ++ ps') (cs ++ cs') := by
  obtain ⟨h1, h2, h3⟩ := h
  obtain ⟨k1, k2, k3⟩ := k
  refine ⟨by simp [h1, k1], fun x hx => (List.mem_append.1 hx).elim (h2 x) (k2 x), fun i x v hx hv => ?_⟩
  by_cases hi : i < ps.length
  · rw [List.getElem?_append_left hi] at hx
    rw [List.getElem?_append_left (by omega)] at hv
    exact h3 i x v hx hv
  · rw [List.getElem?_append_right (by omega)] at hx hv
    rw [h1] at hx
    exact k3 _ x v hx hv
/-- All that reads as data of type t is e of something, of which B is true. -/
def OpnN {α : Type} (P : Program) (t : TypeId) (e : α → PD) (B : α → Prop) (fuel : Nat) : Prop :=
  ∀ (H : Type) (enc : TypeId × Value → H) (w : World) (spare : Nat → Bool) (held : Bool) (cs : List Value) (x : DataW H × List MemPlace),
    DataW.trod enc P w 0 spare held fuel t cs = some x → (∀ n ∈ x.1.weights P t, n ≤ reachBytes) → ∃ a, B a ∧ Cells w (e a).cells cs
def Opn {α : Type} (P : Program) (t : TypeId) (e : α → PD) (B : α → Prop) : Prop := ∀ fuel, OpnN P t e B fuel
theorem cells_one {w : World} {x : PD} {v : Value} (hs : x.scalar = true) (h : RepD (Old w) w x v) : Cells w x.cells [v] := by
  have hc : x.cells = [x] := by cases x <;> first | rfl | simp [PD.scalar] at hs
  rw [hc]
  refine ⟨rfl, by simpa using hs, fun i y u hy hu => ?_⟩
  cases i with
  | zero => simp at hy hu; subst hy; subst hu; exact h
  | succ i => simp at hy
theorem opn_int {P : Program} {t : TypeId} {k : IntKind} (ht : P.underlying t = some (.int k)) : Opn P t (fun n : Int => .int k n) (fun n => (Lit.int k n).wf = true) := by
  intro fuel H enc w spare held cs x h _
  obtain ⟨n, rfl, _, hw⟩ := DataW.trod_int ht h
  exact ⟨n, hw, cells_one rfl (.int k n)⟩
theorem opn_bool {P : Program} {t : TypeId} (ht : P.underlying t = some .bool) : Opn P t PD.bool (fun _ => True) := by
  intro fuel H enc w spare held cs x h _
  obtain ⟨n, rfl, _⟩ := DataW.trod_bool ht h
  exact ⟨n, trivial, cells_one rfl (.bool n)⟩
theorem opn_str {P : Program} {t : TypeId} (ht : P.underlying t = some .string) : Opn P t PD.str (fun _ => True) := by
  intro fuel H enc w spare held cs x h hb
  obtain ⟨s, rfl, rfl, _⟩ := DataW.trod_string ht h
  have := hb s.data.toList.length (by simp [DataW.weights])
  refine ⟨s.data.toList, trivial, cells_one rfl ?_⟩
  have hr := RepD.str (S := Old w) (w := w) s.data.toList (by unfold reachBytes at this; omega)
  simpa using hr
theorem choose_list {α : Type} (n : Nat) (R : Nat → α → Prop) (h : ∀ i, i < n → ∃ y, R i y) : ∃ ys : List α, ys.length = n ∧ ∀ i y, ys[i]? = some y → R i y := by
  induction n with
  | zero => exact ⟨[], rfl, fun i y hy => by simp at hy⟩
  | succ n ih =>
    obtain ⟨ys, hl, hr⟩ := ih (fun i hi => h i (by omega))
    obtain ⟨y, hy⟩ := h n (by omega)
    refine ⟨ys ++ [y], by simp [hl], fun i z hz => ?_⟩
    by_cases hi : i < ys.length
    · rw [List.getElem?_append_left hi] at hz
      exact hr i z hz
    · rw [List.getElem?_append_right (by omega)] at hz
      have : i = ys.length := by
        have := (List.getElem?_eq_some_iff.1 hz).1
        simp at this
        omega
      subst this
      simp at hz
      subst hz
      rw [hl]
      exact hy
theorem mem_weightsAll {H : Type} (P : Program) (e : TypeId) {n : Nat} : ∀ (l : List (DataW H)) (d : DataW H), d ∈ l → n ∈ d.weights P e → n ∈ DataW.weightsAll P e l
  | [], d, hd, _ => by simp at hd
  | a :: l, d, hd, hn => by
    rw [DataW.weightsAll, List.mem_append]
    rcases List.mem_cons.1 hd with rfl | hd
    · exact .inl hn
    · exact .inr (mem_weightsAll P e l d hd hn)
theorem cell_lt {w : World} {a : Addr} {v : Value} (h : w.cell? a = some v) : a.block < w.heap.size ∧ a.spot = none := by
  unfold World.cell? at h
  split at h
  · rename_i c _ _ hc
    split at h
    · cases h
    · rename_i hs
      exact ⟨(Array.getElem?_eq_some_iff.1 hc).1, by simpa using hs⟩
  · cases h
theorem run_of_each {w : World} {sz g : Nat} {α : Type} {e : α → PD} : ∀ (ys : List α) (o : Nat), (∀ (i : Nat) y, ys[i]? = some y → ∃ cs : List Value, cs.length = sz ∧ (∀ (j : Nat) u, cs[j]? = some u → w.cell? ⟨g, o + i * sz + j, none⟩ = some u) ∧ Cells w (e y).cells cs) →
    ∃ vs : List Value, vs.length = ys.length * sz ∧ Cells w (flat (ys.map e)) vs ∧ ∀ (i : Nat) v, vs[i]? = some v → w.cell? ⟨g, o + i, none⟩ = some v
  | [], o, _ => ⟨[], by simp, ⟨by simp [flat], by simp [flat], by simp [flat]⟩, by simp⟩
  | y :: ys, o, h => by
    obtain ⟨cs, h1, h2, h3⟩ := h 0 y rfl
    obtain ⟨vs, k1, k2, k3⟩ := run_of_each (w := w) (sz := sz) (g := g) (e := e) ys (o + sz) (fun i z hz => by
      obtain ⟨cs', q1, q2, q3⟩ := h (i + 1) z (by simpa using hz)
      refine ⟨cs', q1, fun j u hu => ?_, q3⟩
      rw [← q2 j u hu]
      congr 2
      rw [Nat.add_mul]; omega)
    refine ⟨cs ++ vs, by simp [h1, k1, Nat.add_mul]; omega, ?_, fun i v hv => ?_⟩
    · rw [List.map_cons, flat_cons]; exact h3.append k2
    · by_cases hi : i < cs.length
      · rw [List.getElem?_append_left hi] at hv
        have := h2 i v hv
        simpa using this
      · rw [List.getElem?_append_right (by omega)] at hv
        rw [← k3 _ v hv]
        congr 2
        omega
theorem opn_slice {P : Program} {t e : TypeId} {α : Type} {d : α → PD} {B : α → Prop} {sz fuel : Nat} (ht : P.underlying t = some (.slice e)) (hC : P.cellsOf e = sz) (hz : 0 < sz) (hby : 0 < P.bytesOf e)
    (h : ∀ n, n < fuel → OpnN P e d B n) : OpnN P t (fun l : List α => .sl sz (l.map d)) (fun l => ∀ a ∈ l, B a) fuel := by
  intro H enc w spare held cs x hx hw
  rcases DataW.trod_slice ht hx with ⟨rfl, _⟩ | ⟨a, len, cap, elems, rest, n, rfl, rfl, rfl, _, hl, hm, hlen, hel, _, _⟩
  · exact ⟨[], by simp, cells_one rfl (.nil sz)⟩
  · have hw2 : ∀ y ∈ elems, ∀ k ∈ y.1.weights P e, k ≤ reachBytes := fun y hy k hk => hw k (by
      rw [DataW.weights, ht]
      refine List.mem_cons_of_mem _ (List.mem_append_left _ (mem_weightsAll P e _ y.1 (List.mem_map_of_mem hy) hk)))
    obtain ⟨ys, hyl, hy⟩ := choose_list (α := α) len (fun i y => ∃ cs', w.cells? 0 (a.add (i * sz)) sz = some cs' ∧ B y ∧ Cells w (d y).cells cs') (fun i hi => by
      have h1 := hel i hi
      rw [List.getElem?_eq_getElem (by omega), Option.bind_eq_some_iff] at h1
      obtain ⟨cs', hc, hd⟩ := h1
      obtain ⟨y, hB, hk⟩ := h n (by omega) H enc w spare held cs' _ hd (hw2 _ (List.getElem_mem _))
      rw [hC] at hc
      exact ⟨y, cs', hc, hB, hk⟩)
    refine ⟨ys, fun y hm => ?_, cells_one rfl ?_⟩
    · obtain ⟨i, hi⟩ := List.getElem?_of_mem hm
      exact (hy i y hi).choose_spec.2.1
    · by_cases h0 : ys = []
      · subst h0
        simp only [List.length_nil] at hyl
        subst hyl
        exact .emp sz a cap
      · have hpos : 0 < ys.length := List.length_pos_iff.2 h0
        obtain ⟨cs0, hc0, -, hk0⟩ := hy 0 ys[0] (List.getElem?_eq_getElem hpos)
        obtain ⟨_, hcl0, hat0⟩ := World.cells?_some hc0
        have hcell := hat0 0 hz
        rw [List.getElem?_eq_getElem (by omega)] at hcell
        have hsp := (cell_lt hcell).2
        have hbl := (cell_lt hcell).1
        obtain ⟨g, o, sp⟩ := a
        have hsp' : sp = none := by simpa [Addr.add] using hsp
        subst hsp'
        obtain ⟨vs, k1, k2, k3⟩ := run_of_each (w := w) (sz := sz) (g := g) (e := d) ys o (fun i y hyi => by
          obtain ⟨cs', hc, hB, hk⟩ := hy i y hyi
          obtain ⟨_, hcl, hat⟩ := World.cells?_some hc
          refine ⟨cs', hcl, fun j u hu => ?_, hk⟩
          have hj : j < sz := by rw [← hcl]; exact (List.getElem?_eq_some_iff.1 hu).1
          have := hat j hj
          rw [hu, Addr.add_lit, Addr.add_lit] at this
          exact this)
        have hll : ys.length = (ys.map d).length := by simp
        have hmax : ys.length ≤ 140737488355328 := by
          have h1 : (elems.length + rest.length) * P.bytesOf e ≤ reachBytes := hw _ (by simp [DataW.weights, ht])
          have h2 : ys.length ≤ (elems.length + rest.length) * P.bytesOf e := Nat.le_trans (by omega) (Nat.le_mul_of_pos_right _ hby)
          unfold reachBytes at h1; omega
        rw [← hyl, hll]
        refine .sl sz (ys.map d) g o cap vs (by rw [← hll]; exact hmax) (by rw [← hll]; omega) (fun x hx => ?_) k2.2.1 k2.1.symm (fun i v hv => ⟨(cell_lt (k3 i v hv)).1, k3 i v hv⟩) k2.2.2
        obtain ⟨y, hym, rfl⟩ := List.mem_map.1 hx
        obtain ⟨i, hi⟩ := List.getElem?_of_mem hym
        obtain ⟨cs', hc, _, hk⟩ := hy i y hi
        obtain ⟨_, hcl, _⟩ := World.cells?_some hc
        rw [hk.1, hcl]
/-! Structs: field by field. -/
def OpnF {α : Type} (P : Program) (fs : List Field) (off : Nat) (e : α → List PD) (B : α → Prop) (n : Nat) : Prop :=
  ∀ (H : Type) (enc : TypeId × Value → H) (w : World) (spare : Nat → Bool) (held : Bool) (cs : List Value) (xs : List (DataW H × List MemPlace)), xs.length = fs.length →
    (∀ (i : Nat) (f : Field), fs[i]? = some f → DataW.trod enc P w 0 spare held n f.type ((cs.drop f.offset).take (P.cellsOf f.type)) = xs[i]?) →
    (∀ k ∈ DataW.weightsEach P (fs.map (·.type)) (xs.map (·.1)), k ≤ reachBytes) → ∃ y, B y ∧ Cells w (e y) (cs.drop off)
theorem opnF_nil {P : Program} {n off : Nat} : OpnF P [] off (fun _ : Unit => []) (fun _ => True) n → True := fun _ => trivial
theorem opnF_one {P : Program} {α : Type} {e : α → PD} {B : α → Prop} {n sz : Nat} {f : Field} {off : Nat} (ho : f.offset = off) (hC : P.cellsOf f.type = sz) (h : OpnN P f.type e B n) :
    ∀ (H : Type) (enc : TypeId × Value → H) (w : World) (spare : Nat → Bool) (held : Bool) (cs : List Value) (xs : List (DataW H × List MemPlace)), xs.length = [f].length → cs.length = off + sz →
    (∀ (i : Nat) (g : Field), [f][i]? = some g → DataW.trod enc P w 0 spare held n g.type ((cs.drop g.offset).take (P.cellsOf g.type)) = xs[i]?) →
    (∀ k ∈ DataW.weightsEach P ([f].map (·.type)) (xs.map (·.1)), k ≤ reachBytes) → ∃ y, B y ∧ Cells w (e y).cells (cs.drop off) := by
  intro H enc w spare held cs xs hl hcl hx hw
  match xs, hl with
  | [x], _ =>
    have h1 := hx 0 f rfl
    obtain ⟨y, hB, hk⟩ := h H enc w spare held _ x h1 (fun k hk => hw k (by simp [DataW.weightsEach, hk]))
    rw [ho, hC, List.take_of_length_le (by simp; omega)] at hk
    exact ⟨y, hB, hk⟩
/-- A struct's fields from off on read as e of something. -/
def OpnS {α : Type} (P : Program) (fs : List Field) (off len : Nat) (e : α → List PD) (B : α → Prop) (n : Nat) : Prop :=
  ∀ (H : Type) (enc : TypeId × Value → H) (w : World) (spare : Nat → Bool) (held : Bool) (cs : List Value) (xs : List (DataW H × List MemPlace)), xs.length = fs.length → cs.length = len →
    (∀ (i : Nat) (f : Field), fs[i]? = some f → DataW.trod enc P w 0 spare held n f.type ((cs.drop f.offset).take (P.cellsOf f.type)) = xs[i]?) →
    (∀ k ∈ DataW.weightsEach P (fs.map (·.type)) (xs.map (·.1)), k ≤ reachBytes) → ∃ y, B y ∧ Cells w (e y) (cs.drop off)
theorem opnS_one {P : Program} {α : Type} {e : α → PD} {B : α → Prop} {n off len : Nat} {f : Field} (ho : f.offset = off) (hC : off + P.cellsOf f.type = len) (h : OpnN P f.type e B n) : OpnS P [f] off len (fun y => (e y).cells) B n := by
  intro H enc w spare held cs xs hl hcl hx hw
  match xs, hl with
  | [x], _ =>
    have h1 := hx 0 f rfl
    obtain ⟨y, hB, hk⟩ := h H enc w spare held _ x h1 (fun k hk => hw k (by simp [DataW.weightsEach, hk]))
    rw [ho, List.take_of_length_le (by simp; omega)] at hk
    exact ⟨y, hB, hk⟩
theorem opnS_cons {P : Program} {α β : Type} {e : α → PD} {e2 : β → List PD} {B : α → Prop} {B2 : β → Prop} {n off off2 len : Nat} {f : Field} {fs : List Field} (ho : f.offset = off) (ho2 : off + P.cellsOf f.type = off2) (h : OpnN P f.type e B n) (h2 : OpnS P fs off2 len e2 B2 n) :
    OpnS P (f :: fs) off len (fun y : α × β => (e y.1).cells ++ e2 y.2) (fun y => B y.1 ∧ B2 y.2) n := by
  intro H enc w spare held cs xs hl hcl hx hw
  match xs, hl with
  | x :: xs, hl =>
    have h1 := hx 0 f rfl
    obtain ⟨y, hB, hk⟩ := h H enc w spare held _ x h1 (fun k hk => hw k (by simp [DataW.weightsEach, hk]))
    obtain ⟨y2, hB2, hk2⟩ := h2 H enc w spare held cs xs (by simpa using hl) hcl (fun i g hg => hx (i + 1) g (by simpa using hg)) (fun k hk => hw k (by simp [DataW.weightsEach, hk]))
    refine ⟨(y, y2), ⟨hB, hB2⟩, ?_⟩
    have e1 : cs.drop off = (cs.drop off).take (P.cellsOf f.type) ++ cs.drop off2 := by
      rw [← ho2, ← List.drop_drop, List.take_append_drop]
    rw [e1]
    rw [ho] at hk
    exact hk.append hk2
theorem opn_struct {P : Program} {t : TypeId} {α β : Type} {fs : Array Field} {d : α → List PD} {e : β → PD} {B : α → Prop} {n len : Nat} (f : α → β) (ht : P.underlying t = some (.struct fs)) (hC : P.cellsOf t = len) (he : ∀ y, (e (f y)).cells = d y)
    (h : ∀ m, m < n → OpnS P fs.toList 0 len d B m) : OpnN P t e (fun b => ∃ a, f a = b ∧ B a) n := by
  intro H enc w spare held cs x hx hw
  obtain ⟨xs, m, rfl, rfl, hl, hxl, hf⟩ := DataW.trod_struct ht hx
  obtain ⟨y, hB, hk⟩ := h m (by omega) H enc w spare held cs xs (by simpa using hxl) (by rw [hl, hC]) (fun i f hi => hf i f (by simpa using hi)) (fun k hk => hw k (by rw [DataW.weights, ht]; exact hk))
  refine ⟨f y, ⟨y, rfl, hB⟩, ?_⟩
  rw [he]
  simpa using hk
theorem OpnN.imp {α : Type} {P : Program} {t : TypeId} {e : α → PD} {B B' : α → Prop} {n : Nat} (h : OpnN P t e B n) (hb : ∀ a, B a → B' a) : OpnN P t e B' n := by
  intro H enc w spare held cs x hx hw
  obtain ⟨a, hB, hk⟩ := h H enc w spare held cs x hx hw
  exact ⟨a, hb a hB, hk⟩

theorem weights_of_each {H : Type} {P : Program} {ts : List TypeId} {ds : List (DataW H)} {j : Nat} {t : TypeId} {d : DataW H} (h : (DataW.weightsEach P ts ds).all (· ≤ reachBytes) = true) (ht : ts[j]? = some t) (hd : ds[j]? = some d) : ∀ n ∈ d.weights P t, n ≤ reachBytes := by
  intro n hn
  have := List.all_eq_true.1 h _ (DataW.weights_mem_each ht hd n hn)
  simpa using this
/-- A law's argument, by its reading. -/
theorem arg_opn {H : Type} {enc : TypeId × Value → H} {P : Program} {t : TypeId} {α : Type} {e : α → PD} {B : α → Prop} {W : World} {spare : Nat → Bool} {held : Bool} {v : Value} {x : DataW H} {p : List MemPlace} {ts : List TypeId} {ds : List (DataW H)} {j : Nat} (h : Opn P t e B)
    (hsz : (DataW.weightsEach P ts ds).all (· ≤ reachBytes) = true) (ht : ts[j]? = some t) (hd : ds[j]? = some x) (hv : DataW.Trod enc P W 0 spare held t v x p) : ∃ y, B y ∧ Cells W (e y).cells v.cells.toList := by
  obtain ⟨fuel, hf⟩ := hv
  exact h fuel H enc W spare held _ _ hf (weights_of_each hsz ht hd)
/-- The ghost at a call's start: all that lies there stays as it is. -/
def G0 (W : World) : Gh := { im := Old W, β := fun _ => 0, live := fun _ => False, own := fun _ => none, fz := fun g => g < W.heap.size }
theorem G0_hp (P : Program) (W : World) : Hp P (G0 W) W (bxOf []) :=
  ⟨fun b cells hc => (by cases b <;> simp [bxOf] at hc), fun b => (by cases b <;> simp [bxOf, G0]), fun b b' hl => False.elim hl, fun g o h => h, fun g p hg => (by cases hg), fun b hl => False.elim hl, fun b hl => False.elim hl⟩
theorem rep_agg {P : Program} {W : World} {i : Nat} {ps : List PD} {cs : Array Value} (h : Cells W ps cs.toList) : RepT P (G0 W) W (.t i) (.agg (ps.map .d)) (.agg cs) := by
  obtain ⟨h1, h2, h3⟩ := h
  refine ⟨cs, rfl, by simp [h1], fun u hu => ?_, fun j x u hx hu => ?_⟩
  · obtain ⟨j, hj, rfl⟩ := Array.mem_iff_getElem.1 hu
    have hj2 : j < ps.length := by rw [h1]; simpa using hj
    exact (h3 j ps[j] cs[j] (List.getElem?_eq_getElem hj2) (by simp [hj])).oneCell (h2 _ (List.getElem_mem hj2))
  · rw [List.getElem?_map] at hx
    obtain ⟨y, hy, rfl⟩ := Option.map_eq_some_iff.1 hx
    exact ⟨h3 j y u hy (by simpa using hu), h2 y (List.mem_of_getElem? hy)⟩
theorem rep_one {P : Program} {W : World} {i : Nat} {x : PD} {v : Value} (hs : x.scalar = true) (hv : v.cells = #[v]) (h : Cells W x.cells v.cells.toList) : RepT P (G0 W) W (.t i) (.d x) v := by
  have hc : x.cells = [x] := by cases x <;> first | rfl | simp [PD.scalar] at hs
  rw [hc, hv] at h
  exact ⟨h.2.2 0 x v rfl rfl, hs⟩
/-- A call that is told to give true, made from outside. -/
theorem call_true {P : Program} {f : Nat} {args : List PV} {vs : Array Value} {W : World} (h : BRet P f [] args (.bool true) []) (hl : vs.size = args.length) (ha : ∀ (i : Nat) x u, args[i]? = some x → vs[i]? = some u → RepT P (G0 W) W (.t i) x u) :
    Calls P f vs W fun e W' => e = .returned (.bool true) ∧ Below W.heap.size W W' := by
  refine Calls.mono (h.2.2 (G0 W) W vs (fun _ => False) hl ha (G0_hp P W) (fun g p hg => by cases hg) (fun b hl => False.elim hl) (fun g hg => ⟨hg, id⟩) (fun g h1 _ => h1)) ?_
  rintro e W' ⟨v, G', rfl, hv, -, hx, -⟩
  obtain ⟨hv, -⟩ := hv
  cases hv
  exact ⟨rfl, hx.os, hx.tape, hx.output, hx.size, fun k hk => hx.old k hk id⟩
end Go.Bee

/- What a law's code of bytes reads as. -/
namespace Go.Bee.Dr
open Go Go.Bee Go.Proofs Go.Bee.Ty
set_option linter.unusedVariables false
theorem opnCode : Opn Tryz.prog 22 (fun bs : List UInt8 => .sl 1 (by1 bs)) (fun _ => True) := fun n => by
  have h := opn_slice (P := Tryz.prog) (d := fun n : Int => PD.int .u8 n) (B := fun n : Int => (Lit.int .u8 n).wf = true) (sz := 1) (fuel := n) Tryz.underlying22 (by kernel_rfl) (by decide) (of_decide_eq_true (by kernel_rfl)) (fun m _ => opn_int Tryz.underlying5 m)
  intro H enc w spare held cs x hx hw
  obtain ⟨l, hB, hc⟩ := h H enc w spare held cs x hx hw
  refine ⟨l.map fun n => UInt8.ofNat n.toNat, trivial, ?_⟩
  have e : by1 (l.map fun n => UInt8.ofNat n.toNat) = l.map (PD.int .u8) := by
    unfold by1
    rw [List.map_map]
    refine List.map_congr_left fun n hn => ?_
    have hwf := hB n hn
    have hr : 0 ≤ n ∧ n ≤ 255 := by
      simp only [Lit.wf, Bool.and_eq_true, decide_eq_true_eq] at hwf
      have h1 : IntKind.u8.min = 0 := by decide
      have h2 : IntKind.u8.max = 255 := by decide
      omega
    show PD.int .u8 ((UInt8.ofNat n.toNat).toNat : Int) = PD.int .u8 n
    have : (UInt8.ofNat n.toNat).toNat = n.toNat := by simp [UInt8.toNat_ofNat']; omega
    rw [this]
    congr 1
    omega
  show Cells w (PD.sl 1 (by1 (l.map fun n => UInt8.ofNat n.toNat))).cells cs
  rw [e]; exact hc
end Go.Bee.Dr
