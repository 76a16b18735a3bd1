/- Names. -/
import Derived.Test.YtkgjplamdmakpaaGreatDoorBeeOr
namespace Go.Bee.C23s
open Go Go.Bee Go.Proofs Go.Bee.Ty Go.Bee.C23
set_option linter.unusedVariables false
set_option maxRecDepth 20000
attribute [local irreducible] Go.Bee.bwp
def inB (n a b : Int) : Bool := decide (n ≥ a) && decide (n ≤ b)
theorem within_b (n a b : Int) : BRet Tryz.prog 93 [] [.int n, .int a, .int b] (.bool (inB n a b)) [] := by
  refine bof Tryz.func93 ?_
  refine bgo ?_
  refine ⟨fun h => ?_, fun h => ?_⟩ <;> simp [inB] <;> omega
theorem l1In_b (n a b : Int) : BRet Tryz.prog 108 [] [.int n, .int a, .int b] (.bool (inB n a b)) [] := by
  refine bof Tryz.func108 ?_
  refine bgo ?_
  refine ⟨fun h => ?_, fun h => ?_⟩ <;> simp [inB] <;> omega
def sg (b : UInt8) : Bool := inB b.toNat 97 122 || inB b.toNat 48 57
theorem l5Sign_b (b : UInt8) : BRet Tryz.prog 110 [] [.d (.int .u8 b.toNat)] (.bool (sg b)) [] := by
  refine bof Tryz.func110 ?_
  refine bgo ?_
  by_cases h1 : (b.toNat : Int) ≥ 97 <;> by_cases h2 : (b.toNat : Int) ≤ 122 <;> by_cases h3 : (b.toNat : Int) ≥ 48 <;> by_cases h4 : (b.toNat : Int) ≤ 57 <;> simp_all [sg, inB] <;> omega
def words : List (List UInt8) := [[116, 114, 117, 101], [102, 114, 111, 109], [110, 111, 116], [97, 110, 100], [111, 114], [98, 111, 116, 104], [101, 105, 116, 104, 101, 114], [105, 116], [105, 110]]
def headOk : List UInt8 → Bool
  | [] => false
  | a :: _ => inB a.toNat 97 122
def vName (s : List UInt8) : Bool := inB s.length 1 8 && headOk s && s.all sg && !words.contains s
theorem l5Name_b (s : List UInt8) : BRet Tryz.prog 63 [] [.str s] (.bool (vName s)) [] := by
  refine BRet.slen 0 (by kernel_rfl) rfl fun hl => ?_
  refine bof Tryz.func63 ?_
  refine bgo ?_
  refine b_call (l1In_b _ _ _) rfl rfl rfl rfl ?_
  cases hw : inB s.length 1 8
  · refine bgo ?_
    simp [vName, hw]
  · obtain ⟨a, tl, rfl⟩ : ∃ a tl, s = a :: tl := by
      cases s with
      | nil => simp [inB] at hw
      | cons a tl => exact ⟨a, tl, rfl⟩
    have h0 : (a :: tl)[0]? = some a := rfl
    refine bgo ?_
    refine ⟨fun h1 => ⟨fun h2 => ?_, fun h2 => ?_⟩, fun h1 => ?_⟩
    · have : headOk (a :: tl) = false := by simp [headOk, inB]; omega
      simp [vName, this]
    · have hh : headOk (a :: tl) = true := by simp [headOk, inB]; omega
      clear h0 h1 h2
      generalize a :: tl = s at *
      refine b_loop (fun n st => ∃ k : Nat, n = s.length - k ∧ k ≤ s.length ∧ st.tm 0 = .str s ∧ st.tm 3 = .int k ∧ (s.take k).all sg = true ∧ ∀ b, st.bx b = none) s.length ⟨0, rfl, Nat.zero_le _, rfl, rfl, rfl, bxOf_nil⟩ ?_
      rintro n st ⟨k, rfl, hk, t0, t3, hj, hb⟩
      by_cases hlt : k < s.length
      · have hx : s[k]? = some s[k] := List.getElem?_eq_getElem hlt
        refine bgo ?_
        refine b_call (l5Sign_b s[k]) rfl rfl rfl rfl ?_
        cases hs : sg s[k]
        · refine bgo ?_
          have : s.all sg = false := by
            cases h : s.all sg
            · rfl
            · rw [List.all_eq_true.1 h _ (List.getElem_mem hlt)] at hs; cases hs
          simp [vName, this]
        · refine bgo ?_
          refine ⟨_, _, Weak.refl _, by omega, k + 1, rfl, hlt, t0, rfl, ?_, hb⟩
          rw [List.take_succ_eq_append_getElem hlt, List.all_append, hj]; simp [hs]
      · have hk' : k = s.length := by omega
        subst hk'
        rw [List.take_length] at hj
        have hv : vName s = !words.contains s := by simp [vName, hw, hh, hj]
        rw [hv]
        clear hv hj hw hh
        refine bgo ?_
        refine wk_rfl ?_
        refine bgo ?_
        refine ⟨fun _ => rfl, fun h1 => ⟨fun _ => rfl, fun h2 => ⟨fun _ => rfl, fun h3 => ⟨fun _ => rfl, fun h4 => ⟨fun _ => rfl, fun h5 => ⟨fun _ => rfl, fun h6 => ⟨fun _ => rfl, fun h7 => ⟨fun _ => rfl, fun h8 => ⟨fun _ => rfl, fun h9 => ?_⟩⟩⟩⟩⟩⟩⟩⟩⟩
        simp [words, h1, h2, h3, h4, h5, h6, h7, h8, h9]
    · have : headOk (a :: tl) = false := by simp [headOk, inB]; omega
      simp [vName, this]
theorem l5Has_b (l : List (List UInt8)) (s : List UInt8) : BRet Tryz.prog 115 [] [.d (.sl 1 (l.map .str)), .str s] (.bool (l.contains s)) [] := by
  refine BRet.len 0 (by kernel_rfl) rfl fun hl => ?_
  refine bof Tryz.func115 ?_
  simp only [List.length_map] at hl
  generalize hr : l.contains s = r
  refine bgo ?_
  refine b_loop (fun n st => ∃ k : Nat, n = l.length - k ∧ k ≤ l.length ∧ st.tm 0 = .d (.sl 1 (l.map .str)) ∧ st.tm 1 = .str s ∧ st.tm 5 = .int k ∧ (l.drop k).contains s = r ∧ ∀ b, st.bx b = none) l.length ⟨0, rfl, Nat.zero_le _, rfl, rfl, rfl, hr, bxOf_nil⟩ ?_
  clear hr
  rintro n st ⟨k, rfl, hk, t0, t1, t5, hj, hb⟩
  by_cases hlt : k < l.length
  · have hx : l[k]? = some l[k] := List.getElem?_eq_getElem hlt
    rw [List.drop_eq_getElem_cons hlt, List.contains_cons] at hj
    refine bgo ?_
    refine ⟨fun h => ?_, fun h => ⟨_, _, Weak.refl _, by omega, k + 1, rfl, hlt, t0, t1, rfl, ?_, hb⟩⟩
    · rw [← hj, h]; simp
    · rw [← hj]
      have : (s == l[k]) = false := by simpa using fun e => h e.symm
      rw [this]; rfl
  · have hk' : k = l.length := by omega
    subst hk'
    refine bgo ?_
    refine wk_rfl ?_
    refine bgo ?_
    rw [List.drop_length] at hj
    rw [← hj]; rfl
end Go.Bee.C23s
