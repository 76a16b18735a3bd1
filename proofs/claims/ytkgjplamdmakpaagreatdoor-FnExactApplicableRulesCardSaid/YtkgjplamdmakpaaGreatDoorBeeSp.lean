/- Chapter 23: the model's words. -/
import Derived.Test.YtkgjplamdmakpaaGreatDoorBeeNm
namespace Go.Bee.C23s
open Go Go.Bee Go.Proofs Go.Bee.Ty Go.Bee.C23
set_option linter.unusedVariables false
set_option maxRecDepth 20000
attribute [local irreducible] Go.Bee.bwp vName
def thOk (l : List Th) (m : Int) : Bool := (l.all fun t => vName t.n) && decide ((l.length : Int) ≤ m)
theorem all_bad {α : Type} {p : α → Bool} {l : List α} {k : Nat} (hk : k < l.length) (h : p l[k] = false) : l.all p = false := by
  cases e : l.all p
  · rfl
  · rw [List.all_eq_true.1 e _ (List.getElem_mem hk)] at h; cases h
theorem all_step {α : Type} {p : α → Bool} {l : List α} {k : Nat} (hk : k < l.length) (hj : (l.take k).all p = true) (h : p l[k] = true) : (l.take (k + 1)).all p = true := by
  rw [List.take_succ_eq_append_getElem hk, List.all_append, hj]; simp [h]
theorem l23Theses_b (l : List Th) (m : Int) : BRet Tryz.prog 107 [] [.d (.sl 2 (l.map Th.e)), .int m] (.bool (thOk l m)) [] := by
  refine BRet.len 0 (by kernel_rfl) rfl fun hl => ?_
  refine bof Tryz.func107 ?_
  simp only [List.length_map] at hl
  refine bgo ?_
  refine b_loop (fun n st => ∃ k : Nat, n = l.length - k ∧ k ≤ l.length ∧ st.tm 0 = .d (.sl 2 (l.map Th.e)) ∧ st.tm 1 = .int m ∧ st.tm 5 = .int k ∧ ((l.take k).all fun t => vName t.n) = true ∧ ∀ b, st.bx b = none) l.length ⟨0, rfl, Nat.zero_le _, rfl, rfl, rfl, rfl, bxOf_nil⟩ ?_
  rintro n st ⟨k, rfl, hk, t0, t1, t5, hj, hb⟩
  by_cases hlt : k < l.length
  · have hx : l[k]? = some l[k] := List.getElem?_eq_getElem hlt
    refine bgo ?_
    refine b_call (l5Name_b l[k].n) rfl rfl rfl rfl ?_
    cases hs : vName l[k].n
    · refine bgo ?_
      simp only [thOk, all_bad (p := fun t => vName t.n) hlt hs]; rfl
    · refine bgo ?_
      refine ⟨_, _, Weak.refl _, by omega, k + 1, rfl, hlt, t0, t1, rfl, ?_, hb⟩
      exact all_step (p := fun t => vName t.n) hlt hj hs
  · have hk' : k = l.length := by omega
    subst hk'
    rw [List.take_length] at hj
    refine bgo ?_
    refine wk_rfl ?_
    refine bgo ?_
    simp only [thOk, hj]; rfl
/-- How many items at the head are less than s. -/
def pos (s : List UInt8) : List (List UInt8) → Nat
  | [] => 0
  | a :: l => if Op.bytesLess a s = true then pos s l + 1 else 0
def put (l : List (List UInt8)) (s : List UInt8) : List (List UInt8) := if l[pos s l]? = some s then l else l.take (pos s l) ++ s :: l.drop (pos s l)
theorem pos_step {s : List UInt8} {l : List (List UInt8)} {k : Nat} (hk : k < l.length) : pos s (l.drop k) = if Op.bytesLess l[k] s = true then pos s (l.drop (k + 1)) + 1 else 0 := by
  rw [List.drop_eq_getElem_cons hk]; rfl
theorem l5Put_b (l : List (List UInt8)) (s : List UInt8) (hl : l.length ≤ 1048576) : BRet Tryz.prog 141 [] [.d (.sl 1 (l.map .str)), .str s] (.d (.sl 1 ((put l s).map .str))) [] := by
  refine bofW Tryz.func141 ?_
  refine bgo ?_
  refine b_loop (fun n st => ∃ k : Nat, n = l.length - k ∧ k ≤ l.length ∧ st.tm 0 = .d (.sl 1 (l.map .str)) ∧ st.tm 1 = .str s ∧ st.tm 5 = .int k ∧ pos s (l.drop k) + k = pos s l ∧ ∀ b, st.bx b = none) l.length ⟨0, rfl, Nat.zero_le _, rfl, rfl, rfl, rfl, bxOf_nil⟩ ?_
  rintro n st ⟨k, rfl, hk, t0, t1, t5, hj, hb⟩
  by_cases hlt : k < l.length
  · have hx : l[k]? = some l[k] := List.getElem?_eq_getElem hlt
    cases hs : Op.bytesLess l[k] s
    · have hp : pos s l = k := by rw [← hj, pos_step hlt, if_neg (by simp [hs])]; omega
      clear hj
      refine bgo ?_
      refine wk_rfl ?_
      have hput : put l s = if l[k] = s then l else l.take k ++ s :: l.drop k := by simp [put, hp, hx]
      clear hp
      refine bgo ?_
      refine ⟨fun h => ?_, fun h => ?_⟩
      · refine wk_rfl ?_
        refine bgo ?_
        trivial
      · refine wk_of (Weak.own_d (t := 4) rfl) ?_
        refine bgo ?_
        simp
    · refine bgo ?_
      refine ⟨_, _, Weak.refl _, by omega, k + 1, rfl, hlt, t0, t1, rfl, ?_, hb⟩
      rw [pos_step hlt, if_pos hs] at hj
      omega
  · have hk' : k = l.length := by omega
    subst hk'
    have hp : pos s l = l.length := by rw [← hj, List.drop_length]; simp [pos]
    have hput : put l s = l ++ [s] := by simp [put, hp]
    rw [hput]
    clear hj hp hput
    refine bgo ?_
    refine wk_rfl ?_
    refine bgo ?_
    refine wk_of (Weak.own_d (t := 4) rfl) ?_
    refine bgo ?_
    simp [List.take_of_length_le, List.drop_eq_nil_of_le]
end Go.Bee.C23s
