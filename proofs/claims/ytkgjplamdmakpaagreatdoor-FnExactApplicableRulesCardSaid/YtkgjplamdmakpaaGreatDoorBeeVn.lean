/- Valid names, theses. -/
import Derived.Test.YtkgjplamdmakpaaGreatDoorBeeLn
import Derived.Test.YtkgjplamdmakpaaGreatDoorBeeSt
namespace Go.Bee.C23s
open Go Go.Bee Go.Proofs Go.Bee.Ty Go.Bee.C23
set_option linter.unusedVariables false
set_option maxRecDepth 20000
attribute [local irreducible] Go.Bee.bwp
def wordsT : List UInt8 := [116, 114, 117, 101, 32, 102, 114, 111, 109, 32, 110, 111, 116, 32, 97, 110, 100, 32, 111, 114, 32, 98, 111, 116, 104, 32, 101, 105, 116, 104, 101, 114, 32, 105, 116, 32, 105, 110]
theorem words_eq : splitC 32 wordsT = words := by decide
theorem all_take {s : List UInt8} {k : Nat} (hlt : k < s.length) (hj : (s.take k).all sg = true) (h : sg s[k] = true) : (s.take (k + 1)).all sg = true := by
  rw [List.take_succ_eq_append_getElem hlt, List.all_append, hj]; simp [h]
theorem sg_bad {s : List UInt8} {k : Nat} (hlt : k < s.length) (h : sg s[k] = false) : vName s = false := by
  have : s.all sg = false := by
    cases e : s.all sg
    · rfl
    · rw [List.all_eq_true.1 e _ (List.getElem_mem hlt)] at h; cases h
  simp [vName, this]
theorem IsValidName_b (s : List UInt8) : BRet Tryz.prog 58 [] [.str s] (.bool (vName s)) [] := by
  refine BRet.slen 0 (by kernel_rfl) rfl fun hl => ?_
  refine bof Tryz.func58 ?_
  refine bgo ?_
  refine b_call (within_b _ _ _) rfl rfl rfl rfl ?_
  cases hw : inB s.length 1 8
  · have hv : vName s = false := by simp [vName, hw]
    rw [hv]
    refine bgo ?_
    trivial
  · obtain ⟨a, tl, rfl⟩ : ∃ a tl, s = a :: tl := by
      cases s with
      | nil => simp [inB] at hw
      | cons a tl => exact ⟨a, tl, rfl⟩
    have h0 : (a :: tl)[0]? = some a := rfl
    have hbad : headOk (a :: tl) = false → vName (a :: tl) = false := fun h => by simp [vName, h]
    have hgood : headOk (a :: tl) = true → (a :: tl).all sg = true → vName (a :: tl) = !words.contains (a :: tl) := fun h h2 => by unfold vName; rw [hw, h, h2]; rfl
    have hhd : headOk (a :: tl) = (decide ((a.toNat : Int) ≥ 97) && decide ((a.toNat : Int) ≤ 122)) := rfl
    generalize headOk (a :: tl) = hh at *
    generalize a :: tl = s at *
    by_cases h1 : (a.toNat : Int) < 97
    · rw [hbad (by rw [hhd]; simp; omega)]
      refine bgo ?_
      trivial
    by_cases h2 : (a.toNat : Int) > 122
    · rw [hbad (by rw [hhd]; simp; omega)]
      refine bgo ?_
      trivial
    have hv := hgood (by rw [hhd]; simp; omega)
    have hbad2 : ∀ k (hlt : k < s.length), sg s[k] = false → vName s = false := fun k hlt h => sg_bad hlt h
    clear hgood hbad hhd
    refine bgo ?_
    generalize vName s = r at *
    refine b_lp (ι := Nat) (fun k => [(0, .str s), (20, .int s.length), (21, .int k)]) (fun _ => []) (fun k => k ≤ s.length ∧ (s.take k).all sg = true) (fun k => s.length - k) 0 hs ⟨Nat.zero_le _, rfl⟩ ?_
    clear h0 h1 h2 hw
    rintro k ⟨hk, hj⟩ I nx
    by_cases hlt : k < s.length
    · have hx : s[k]? = some s[k] := List.getElem?_eq_getElem hlt
      cases hs0 : sg s[k]
      · rw [hbad2 k hlt hs0] at *
        have e : ¬ ((97 : Int) ≤ s[k].toNat ∧ (s[k].toNat : Int) ≤ 122) ∧ ¬ ((48 : Int) ≤ s[k].toNat ∧ (s[k].toNat : Int) ≤ 57) := by
          simp [sg, inB] at hs0; omega
        clear hbad2 hv hj
        refine bgo ?_
        repeat' first | intro _ | apply And.intro
        all_goals (exfalso; omega)
      · have e : ((97 : Int) ≤ s[k].toNat ∧ (s[k].toNat : Int) ≤ 122) ∨ ((48 : Int) ≤ s[k].toNat ∧ (s[k].toNat : Int) ≤ 57) := by
          simp [sg, inB] at hs0; omega
        have hj2 := all_take hlt hj hs0
        clear hbad2 hv hj
        refine bgo ?_
        repeat' first | intro _ | apply And.intro
        all_goals first | (exfalso; omega) | exact nx.go (k + 1) ⟨hlt, hj2⟩ (by omega) hs
    · have hk' : k = s.length := by omega
      subst hk'
      rw [List.take_length] at hj
      have hv2 := hv hj
      clear hbad2 hj hv
      subst hv2
      refine bgo ?_
      refine wk_rfl ?_
      refine bgo ?_
      refine b_call (split_b wordsT 32 (by decide)) rfl rfl rfl rfl ?_
      refine bgo ?_
      refine b_call (containsStr_b _ _) rfl rfl rfl rfl ?_
      rw [words_eq]
      refine bgo ?_
      trivial
end Go.Bee.C23s
