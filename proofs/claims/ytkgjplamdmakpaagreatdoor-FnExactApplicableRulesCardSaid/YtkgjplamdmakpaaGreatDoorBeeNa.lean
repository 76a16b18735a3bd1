/- Chapter 23: the names of a case. -/
import Derived.Test.YtkgjplamdmakpaaGreatDoorBeeZ
namespace Go.Bee.C23s
open Go Go.Bee Go.Proofs Go.Bee.Ty Go.Bee.C23
set_option linter.unusedVariables false
set_option maxRecDepth 20000
attribute [local irreducible] Go.Bee.bwp
def nb (r : Ru) : List (List UInt8) := (r.ps ++ r.es).map Th.n
def allN (c : Cs) : List (List UInt8) := c.fs.map Th.n ++ c.rs.flatMap fun r => nb r ++ [r.c.n]
theorem str_map (l : List (List UInt8)) (s : List UInt8) : l.map PD.str ++ [PD.str s] = (l ++ [s]).map PD.str := by simp
theorem namesBefore_b (r : Ru) (h : RuOk r) : BRet Tryz.prog 125 [] [.agg [.d (.sl 2 (r.ps.map Th.e)), .d (.sl 2 (r.es.map Th.e)), .str r.c.n, .bool r.c.g, .int r.wt]] (.own 9 1 ((nb r).map .str)) [] := by
  obtain ⟨h1, h2⟩ := h
  refine bof Tryz.func125 ?_
  refine bgo ?_
  refine b_call (cloneThesis_b _ h1) rfl rfl rfl rfl ?_
  refine bgo ?_
  rw [← List.map_append]
  generalize hl : r.ps ++ r.es = l
  have hn : nb r = l.map Th.n := by rw [← hl]; rfl
  have hll : l.length ≤ 2097152 := by rw [← hl, List.length_append]; omega
  rw [hn]
  have he : (r.ps.length : Int) + r.es.length = l.length := by rw [← hl]; simp
  clear hn hl
  refine b_loop (fun n st => ∃ k : Nat, n = l.length - k ∧ k ≤ l.length ∧ st.tm 3 = .own 9 1 (((l.take k).map Th.n).map .str) ∧ st.tm 12 = .own 30 2 (l.map Th.e) ∧ st.tm 13 = .int l.length ∧ st.tm 14 = .int k ∧
      ∀ b, b ≠ .t 1 → st.bx b = none) l.length ⟨0, rfl, Nat.zero_le _, rfl, rfl, by simp [tm_put], rfl, fun b hb => by simp [bx_put, bx_strip1, bx_sbx, bx_init, bxOf_nil, hb]⟩ ?_
  rintro n st ⟨k, rfl, hk, t3, t12, t13, t14, hb⟩
  clear he
  have b5 := hb (.t 5) (by simp)
  have ba : ∀ k, st.bx (.a k) = none := fun k => hb _ (by simp)
  by_cases hlt : k < l.length
  · have hx : l[k]? = some l[k] := List.getElem?_eq_getElem hlt
    have hkl : (l.take k).length ≤ 2097152 := by rw [List.length_take]; omega
    refine bgo ?_
    refine ⟨_, _, Weak.drop (.t 5), by omega, k + 1, rfl, hlt, ?_, ?_, ?_, rfl, fun b hne => ?_⟩
    · show PV.own _ _ (_ ++ _) = _
      rw [List.take_succ_eq_append_getElem hlt, List.map_append, List.map_append]; rfl
    · show (st.tm 12).kill _ = _; rw [t12]; rfl
    · show (st.tm 13).kill _ = _; rw [t13]; rfl
    · rw [bx_drop]
      split
      · rfl
      · rename_i h5; simp [bx_put, bx_strip1, bx_sbx, h5, hb b hne]
  · have hk' : k = l.length := by omega
    subst hk'
    refine bgo ?_
    refine wk_rfl ?_
    refine bgo ?_
    rw [List.take_length]
/-- The rules' names. -/
def ruN (r : Ru) : List (List UInt8) := nb r ++ [r.c.n]
theorem allN_eq (c : Cs) : allN c = c.fs.map Th.n ++ c.rs.flatMap ruN := rfl
theorem preN_len (c : Cs) (k : Nat) (hk : k < c.rs.length) : (c.fs.map Th.n ++ (c.rs.take k).flatMap ruN).length + (nb c.rs[k]).length + 1 ≤ (allN c).length := by
  have h1 : c.rs = c.rs.take k ++ c.rs[k] :: c.rs.drop (k + 1) := by rw [← List.drop_eq_getElem_cons hk, List.take_append_drop]
  have h2 : (allN c).length = c.fs.length + ((c.rs.take k ++ c.rs[k] :: c.rs.drop (k + 1)).flatMap ruN).length := by rw [← h1, allN_eq, List.length_append, List.length_map]
  rw [h2, List.flatMap_append, List.flatMap_cons]
  simp only [List.length_append, List.length_map, ruN, List.length_cons, List.length_nil]
  omega
theorem ruN_len : ∀ l : List Ru, l.length ≤ (l.flatMap ruN).length
  | [] => Nat.le_refl _
  | r :: l => by
    have := ruN_len l
    rw [List.flatMap_cons, List.length_append, List.length_cons]
    simp only [ruN, List.length_append, List.length_cons, List.length_nil] at this ⊢
    omega
theorem caseNames_b (c : Cs) (h : ∀ r ∈ c.rs, RuOk r) (hN : (allN c).length ≤ 1048576) : BRet Tryz.prog 119 [] [.agg [.d (.sl 2 (c.fs.map Th.e)), .d (.sl 5 (c.rs.map Ru.e)), .d (.sl 2 (c.ss.map Sd.e))]] (.d (.sl 1 ((srt (allN c)).map .str))) [] := by
  refine BRet.tail (fun _ => []) Ty.mixed 3 Tryz.func119 (s := 3) (e := 9) rfl rfl rfl (by kernel_rfl) (by kernel_rfl) rfl (Nat.le_of_ble_eq_true rfl) rfl (Nat.le_of_ble_eq_true rfl) (Nat.le_of_ble_eq_true rfl) (Nat.le_of_ble_eq_true rfl) sorted_redo ?_
  dsimp only [cutN_0, cutN_s]
  have hf : c.fs.length ≤ 1048576 := by rw [allN_eq, List.length_append, List.length_map] at hN; omega
  refine bgo ?_
  refine b_loop (fun n st => ∃ (k : Nat) (out : List (List UInt8)), n = c.fs.length - k ∧ k ≤ c.fs.length ∧ (c.fs.take k).map Th.n = out ∧ st.tm 3 = .own 9 1 (out.map .str) ∧ st.tm 1 = .ptr (.t 1) 0 ∧ st.tm 10 = .d (.sl 2 (c.fs.map Th.e)) ∧ st.tm 11 = .int c.fs.length ∧ st.tm 12 = .int k ∧
      st.bx (.t 1) = some [.d (.sl 2 (c.fs.map Th.e)), .d (.sl 5 (c.rs.map Ru.e)), .d (.sl 2 (c.ss.map Sd.e))] ∧ ∀ b, b ≠ .t 1 → st.bx b = none) c.fs.length ⟨0, [], rfl, Nat.zero_le _, rfl, rfl, rfl, rfl, rfl, rfl, rfl, fun b hb => by simp [bx_put, bx_strip1, bx_sbx, bx_init, bxOf_nil, hb]⟩ ?_
  rintro n st ⟨k, out, rfl, hk, ho, t3, t1, t10, t11, t12, b1, hb⟩
  have hol : out.length ≤ 1048576 := by rw [← ho, List.length_map, List.length_take]; omega
  have b5 := hb (.t 5) (by simp)
  by_cases hlt : k < c.fs.length
  · have hx : c.fs[k]? = some c.fs[k] := List.getElem?_eq_getElem hlt
    refine bgo ?_
    refine ⟨_, _, Weak.drop (.t 5), by omega, k + 1, out ++ [c.fs[k].n], rfl, hlt, ?_, ?_, ?_, ?_, ?_, rfl, ?_, fun b hne => ?_⟩
    · rw [List.take_succ_eq_append_getElem hlt, List.map_append, ho]; rfl
    · show PV.own _ _ (_ ++ _) = _
      rw [List.map_append]; rfl
    · show (st.tm 1).kill _ = _; rw [t1]; rfl
    · show (st.tm 10).kill _ = _; rw [t10]; rfl
    · show (st.tm 11).kill _ = _; rw [t11]; rfl
    · rw [bx_drop]; simp only [bx_put, bx_strip1, bx_sbx, reduceCtorEq, BN.t.injEq, Nat.reduceEqDiff, if_false, b1]; rfl
    · rw [bx_drop]
      split
      · rfl
      · rename_i h5; simp [bx_put, bx_strip1, bx_sbx, h5, hb b hne]
  · have hk' : k = c.fs.length := by omega
    subst hk'
    rw [List.take_length] at ho
    refine bgo ?_
    refine wk_rfl ?_
    refine bgo ?_
    refine b_loop (fun n st => ∃ (k : Nat) (out : List (List UInt8)), n = c.rs.length - k ∧ k ≤ c.rs.length ∧ c.fs.map Th.n ++ (c.rs.take k).flatMap ruN = out ∧ st.tm 3 = .own 9 1 (out.map .str) ∧ st.tm 1 = .ptr (.t 1) 0 ∧ st.tm 23 = .d (.sl 5 (c.rs.map Ru.e)) ∧ st.tm 24 = .int c.rs.length ∧ st.tm 25 = .int k ∧
      st.bx (.t 1) = some [.d (.sl 2 (c.fs.map Th.e)), .d (.sl 5 (c.rs.map Ru.e)), .d (.sl 2 (c.ss.map Sd.e))] ∧ ∀ b, b ≠ .t 1 → st.bx b = none) c.rs.length ⟨0, out, rfl, Nat.zero_le _, by simpa using ho, t3, t1, rfl, rfl, rfl, b1, hb⟩ ?_
    have hrl : c.rs.length ≤ 1048576 := by have := ruN_len c.rs; rw [allN_eq, List.length_append] at hN; omega
    clear hol b5 hlt hk t12 t11 t10 t3 t1 b1 hb ho st out
    rintro n st ⟨k, out, rfl, hk, ho, t3, t1, t23, t24, t25, b1, hb⟩
    have b7 := hb (.t 7) (by simp)
    by_cases hlt : k < c.rs.length
    · have hx : c.rs[k]? = some c.rs[k] := List.getElem?_eq_getElem hlt
      have hol : out.length + (nb c.rs[k]).length + 1 ≤ 1048576 := by have := preN_len c k hlt; rw [ho] at this; omega
      have hr := h _ (List.getElem_mem hlt)
      refine bgo ?_
      refine b_call (namesBefore_b _ hr) rfl rfl rfl rfl ?_
      refine bgo ?_
      refine ⟨_, _, Weak.drop (.t 7), by omega, k + 1, out ++ ruN c.rs[k], rfl, hlt, ?_, ?_, ?_, ?_, ?_, rfl, ?_, fun b hne => ?_⟩
      · rw [List.take_succ_eq_append_getElem hlt, List.flatMap_append, ← List.append_assoc, ho]; simp
      · show PV.own _ _ (_ ++ _) = _
        simp [ruN]
      · show (st.tm 1).kill _ = _; rw [t1]; rfl
      · show (st.tm 23).kill _ = _; rw [t23]; rfl
      · show (st.tm 24).kill _ = _; rw [t24]; rfl
      · rw [bx_drop]; simp only [bx_put, bx_strip1, bx_sbx, reduceCtorEq, BN.t.injEq, Nat.reduceEqDiff, if_false, b1]; rfl
      · rw [bx_drop]
        split
        · rfl
        · rename_i h5; simp [bx_put, bx_strip1, bx_sbx, h5, hb b hne]
    · have hk' : k = c.rs.length := by omega
      subst hk'
      rw [List.take_length, ← allN_eq] at ho
      subst ho
      refine bgo ?_
      refine wk_rfl ?_
      exact t3
end Go.Bee.C23s
