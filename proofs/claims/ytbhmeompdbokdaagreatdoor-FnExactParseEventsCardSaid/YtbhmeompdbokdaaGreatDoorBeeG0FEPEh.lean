/-
The logic and the walks, part 8. No condition.
-/
import Derived.Test.YtbhmeompdbokdaaGreatDoorBeeG0FEPEg
import Derived.Test.YtbhmeompdbokdaaGreatDoorProg
import Derived.Shelf.Strings.Count
import Derived.Shelf.Strings.Search3
import Derived.Test.YtbhmeompdbokdaaGreatDoorBeeG0FEPEa
import Derived.Shelf.Strconv.Itoa3
import Derived.Lib.ItoaLen
import Derived.Lib.AtoiTie
namespace Go.Proofs
open Go.Shelf
def YtbhmeompdbokdaaGreatDoorStr.lays138_ren : Go.Shelf.Ren := ⟨fun | 138 => 134 | 195 => 166 | 218 => 167 | 143 => 135 | 219 => 168 | 217 => 185 | 225 => 180 | 224 => 179 | 267 => 186 | 266 => 192 | 314 => 193 | n => n, fun | 9 => 9 | 3 => 3 | 4 => 4 | 5 => 5 | 0 => 0 | 46 => 145 | 146 => 171 | 51 => 170 | n => n, fun | 1 => 0 | n => n⟩
theorem YtbhmeompdbokdaaGreatDoorStr.lays138 : Go.Proofs.Lays.n138 Tryz.prog YtbhmeompdbokdaaGreatDoorStr.lays138_ren := {
  mixed := by kernel_rfl
  f138 := Tryz.func134.trans (congrArg some (by kernel_rfl))
  f143 := Tryz.func135.trans (congrArg some (by kernel_rfl))
  f195 := Tryz.func166.trans (congrArg some (by kernel_rfl))
  f217 := Tryz.func185.trans (congrArg some (by kernel_rfl))
  f218 := Tryz.func167.trans (congrArg some (by kernel_rfl))
  f219 := Tryz.func168.trans (congrArg some (by kernel_rfl))
  f224 := Tryz.func179.trans (congrArg some (by kernel_rfl))
  f225 := Tryz.func180.trans (congrArg some (by kernel_rfl))
  f266 := Tryz.func192.trans (congrArg some (by kernel_rfl))
  f267 := Tryz.func186.trans (congrArg some (by kernel_rfl))
  f314 := Tryz.func193.trans (congrArg some (by kernel_rfl))
  t0 := Tryz.underlying0
  a0 := Tryz.isAgg0
  z0 := Tryz.sizeOf0
  v0 := Tryz.zeroValue0
  t3 := Tryz.underlying3
  a3 := Tryz.isAgg3
  z3 := Tryz.sizeOf3
  v3 := Tryz.zeroValue3
  t4 := Tryz.underlying4
  a4 := Tryz.isAgg4
  z4 := Tryz.sizeOf4
  v4 := Tryz.zeroValue4
  t5 := Tryz.underlying5
  a5 := Tryz.isAgg5
  z5 := Tryz.sizeOf5
  v5 := Tryz.zeroValue5
  t9 := Tryz.underlying9
  a9 := Tryz.isAgg9
  z9 := Tryz.sizeOf9
  v9 := Tryz.zeroValue9
  t46 := Tryz.underlying145
  a46 := Tryz.isAgg145
  z46 := Tryz.sizeOf145
  v46 := Tryz.zeroValue145
  t51 := Tryz.underlying170
  a51 := Tryz.isAgg170
  z51 := Tryz.sizeOf170
  v51 := Tryz.zeroValue170
  t146 := Tryz.underlying171
  a146 := Tryz.isAgg171
  z146 := Tryz.sizeOf171
  v146 := Tryz.zeroValue171
  g1 := by kernel_rfl }
def YtbhmeompdbokdaaGreatDoorStr.lays143_ren : Go.Shelf.Ren := ⟨fun | 143 => 135 | 219 => 168 | 217 => 185 | 225 => 180 | 224 => 179 | 267 => 186 | 266 => 192 | 314 => 193 | n => n, fun | 9 => 9 | 3 => 3 | 4 => 4 | 5 => 5 | 46 => 145 | 146 => 171 | 51 => 170 | n => n, fun | 1 => 0 | n => n⟩
theorem YtbhmeompdbokdaaGreatDoorStr.lays143 : Go.Proofs.Lays.n143 Tryz.prog YtbhmeompdbokdaaGreatDoorStr.lays143_ren := {
  mixed := by kernel_rfl
  f143 := Tryz.func135.trans (congrArg some (by kernel_rfl))
  f217 := Tryz.func185.trans (congrArg some (by kernel_rfl))
  f219 := Tryz.func168.trans (congrArg some (by kernel_rfl))
  f224 := Tryz.func179.trans (congrArg some (by kernel_rfl))
  f225 := Tryz.func180.trans (congrArg some (by kernel_rfl))
  f266 := Tryz.func192.trans (congrArg some (by kernel_rfl))
  f267 := Tryz.func186.trans (congrArg some (by kernel_rfl))
  f314 := Tryz.func193.trans (congrArg some (by kernel_rfl))
  t3 := Tryz.underlying3
  a3 := Tryz.isAgg3
  z3 := Tryz.sizeOf3
  v3 := Tryz.zeroValue3
  t4 := Tryz.underlying4
  a4 := Tryz.isAgg4
  z4 := Tryz.sizeOf4
  v4 := Tryz.zeroValue4
  t5 := Tryz.underlying5
  a5 := Tryz.isAgg5
  z5 := Tryz.sizeOf5
  v5 := Tryz.zeroValue5
  t9 := Tryz.underlying9
  a9 := Tryz.isAgg9
  z9 := Tryz.sizeOf9
  v9 := Tryz.zeroValue9
  t46 := Tryz.underlying145
  a46 := Tryz.isAgg145
  z46 := Tryz.sizeOf145
  v46 := Tryz.zeroValue145
  t51 := Tryz.underlying170
  a51 := Tryz.isAgg170
  z51 := Tryz.sizeOf170
  v51 := Tryz.zeroValue170
  t146 := Tryz.underlying171
  a146 := Tryz.isAgg171
  z146 := Tryz.sizeOf171
  v146 := Tryz.zeroValue171
  g1 := by kernel_rfl }
end Go.Proofs
namespace Go.Bee.C23
open Go Go.Bee Go.Proofs Go.Bee.Ty
theorem slStr : SlT Tryz.prog 22 9 1 16 := ⟨_, _, ty22, rfl, ty9, rfl, rfl, rfl, by decide⟩
theorem strT : StrT Tryz.prog 9 := ⟨_, ty9, rfl⟩
theorem one_str (s : List UInt8) : evBuildSlice Tryz.prog 22 1 [(0, .d (.str s))] = some (.own 9 1 [.str s]) := slStr.build1 _ _ rfl rfl (by decide)
end Go.Bee.C23
namespace Go.Bee.C23s
open Go.Bee.C23
theorem tys : type_of% (And.intro Go.Bee.Ty.tys (And.intro strT.facts (And.intro one_str slStr.facts))) := And.intro Go.Bee.Ty.tys (And.intro strT.facts (And.intro one_str slStr.facts))
end Go.Bee.C23s
namespace Go.Bee.C23s
open Go Go.Bee Go.Proofs Go.Bee.Ty Go.Bee.C23
set_option linter.unusedVariables false
set_option maxRecDepth 20000
attribute [local irreducible] Go.Bee.bwp
def idx {α : Type} (p : α → Bool) : List α → Nat → Int
  | [], _ => -1
  | a :: l, k => if p a = true then k else idx p l (k + 1)
theorem idx_step {α : Type} {p : α → Bool} {l : List α} {k : Nat} (hk : k < l.length) : idx p (l.drop k) k = if p l[k] = true then (k : Int) else idx p (l.drop (k + 1)) (k + 1) := by
  rw [List.drop_eq_getElem_cons hk]; rfl
theorem idx_any {α : Type} (p : α → Bool) : ∀ (l : List α) (k : Nat), decide (idx p l k ≥ 0) = l.any p
  | [], k => rfl
  | a :: l, k => by
    unfold idx
    by_cases h : p a = true
    · rw [if_pos h, List.any_cons, h]; simp
    · rw [if_neg h, List.any_cons, idx_any p l (k + 1)]; simp at h; simp [h]
theorem indexStr_b (l : List (List UInt8)) (s : List UInt8) : BRet Tryz.prog 98 [] [.d (.sl 1 (l.map .str)), .str s] (.int (idx (fun x => s == x) l 0)) [] := by
  refine BRet.len 0 (by kernel_rfl) rfl fun hl => ?_
  refine bof Tryz.func98 ?_
  simp only [List.length_map] at hl
  generalize hr : idx (fun x => s == x) l 0 = r
  refine bgo ?_
  refine b_loop (fun n st => ∃ k : Nat, n = l.length - k ∧ k ≤ l.length ∧ st.tm 0 = .d (.sl 1 (l.map .str)) ∧ st.tm 1 = .str s ∧ st.tm 7 = .int l.length ∧ st.tm 8 = .int k ∧ idx (fun x => s == x) (l.drop k) k = r ∧ ∀ b, st.bx b = none) l.length ⟨0, rfl, Nat.zero_le _, rfl, rfl, rfl, rfl, hr, bxOf_nil⟩ ?_
  clear hr
  rintro n st ⟨k, rfl, hk, t0, t1, t7, t8, hj, hb⟩
  by_cases hlt : k < l.length
  · have hx : l[k]? = some l[k] := List.getElem?_eq_getElem hlt
    refine bgo ?_
    rw [idx_step hlt] at hj
    refine ⟨?_, ?_⟩ <;> intro h
    · rw [if_pos (by simpa using h)] at hj; rw [← hj]
    · rw [if_neg (by simpa using h)] at hj
      exact ⟨_, _, Weak.refl _, by omega, k + 1, rfl, hlt, t0, t1, t7, rfl, hj, hb⟩
  · have hk' : k = l.length := by omega
    subst hk'
    refine bgo ?_
    refine wk_rfl ?_
    refine bgo ?_
    rw [List.drop_length] at hj
    rw [← hj]; rfl
theorem containsStr_b (l : List (List UInt8)) (s : List UInt8) : BRet Tryz.prog 91 [] [.d (.sl 1 (l.map .str)), .str s] (.bool (l.contains s)) [] := by
  refine bof Tryz.func91 ?_
  refine bgo ?_
  refine b_call (indexStr_b l s) rfl rfl rfl rfl ?_
  refine bgo ?_
  rw [List.contains_eq_any_beq, ← idx_any _ l 0]
def inB (n a b : Int) : Bool := decide (n ≥ a) && decide (n ≤ b)
theorem within_b (n a b : Int) : BRet Tryz.prog 92 [] [.int n, .int a, .int b] (.bool (inB n a b)) [] := by
  refine bof Tryz.func92 ?_
  refine bgo ?_
  refine ⟨fun h => ?_, fun h => ?_⟩ <;> simp [inB] <;> omega
theorem l1In_b (n a b : Int) : BRet Tryz.prog 48 [] [.int n, .int a, .int b] (.bool (inB n a b)) [] := by
  refine bof Tryz.func48 ?_
  refine bgo ?_
  refine ⟨fun h => ?_, fun h => ?_⟩ <;> simp [inB] <;> omega
def sg (b : UInt8) : Bool := inB b.toNat 97 122 || inB b.toNat 48 57
theorem l5Sign_b (b : UInt8) : BRet Tryz.prog 106 [] [.d (.int .u8 b.toNat)] (.bool (sg b)) [] := by
  refine bof Tryz.func106 ?_
  refine bgo ?_
  by_cases h1 : (b.toNat : Int) ≥ 97 <;> by_cases h2 : (b.toNat : Int) ≤ 122 <;> by_cases h3 : (b.toNat : Int) ≥ 48 <;> by_cases h4 : (b.toNat : Int) ≤ 57 <;> simp_all [sg, inB] <;> omega
def words : List (List UInt8) := [[116, 114, 117, 101], [102, 114, 111, 109], [110, 111, 116], [97, 110, 100], [111, 114], [98, 111, 116, 104], [101, 105, 116, 104, 101, 114], [105, 116], [105, 110]]
def headOk : List UInt8 → Bool
  | [] => false
  | a :: _ => inB a.toNat 97 122
def vName (s : List UInt8) : Bool := inB s.length 1 8 && headOk s && s.all sg && !words.contains s
theorem l5Name_b (s : List UInt8) : BRet Tryz.prog 110 [] [.str s] (.bool (vName s)) [] := by
  refine BRet.slen 0 (by kernel_rfl) rfl fun hl => ?_
  refine bof Tryz.func110 ?_
  refine bgo ?_
  refine b_call (l1In_b _ _ _) rfl rfl rfl rfl ?_
  cases hw : inB s.length 1 8
  · refine bgo ?_
    simp [vName, hw]
  · obtain ⟨a, tl, rfl⟩ : ∃ a tl, s = a :: tl := by
      cases s with
      | nil => simp [inB] at hw
      | cons a tl => exact ⟨a, tl, rfl⟩
    have h0 : (a :: tl)[0]? = some a := rfl
    refine bgo ?_
    refine ⟨fun h1 => ⟨fun h2 => ?_, fun h2 => ?_⟩, fun h1 => ?_⟩
    · have : headOk (a :: tl) = false := by simp [headOk, inB]; omega
      simp [vName, this]
    · have hh : headOk (a :: tl) = true := by simp [headOk, inB]; omega
      clear h0 h1 h2
      generalize a :: tl = s at *
      refine b_loop (fun n st => ∃ k : Nat, n = s.length - k ∧ k ≤ s.length ∧ st.tm 0 = .str s ∧ st.tm 3 = .int k ∧ (s.take k).all sg = true ∧ ∀ b, st.bx b = none) s.length ⟨0, rfl, Nat.zero_le _, rfl, rfl, rfl, bxOf_nil⟩ ?_
      rintro n st ⟨k, rfl, hk, t0, t3, hj, hb⟩
      by_cases hlt : k < s.length
      · have hx : s[k]? = some s[k] := List.getElem?_eq_getElem hlt
        refine bgo ?_
        refine b_call (l5Sign_b s[k]) rfl rfl rfl rfl ?_
        cases hs : sg s[k]
        · refine bgo ?_
          have : s.all sg = false := by
            cases h : s.all sg
            · rfl
            · rw [List.all_eq_true.1 h _ (List.getElem_mem hlt)] at hs; cases hs
          simp [vName, this]
        · refine bgo ?_
          refine ⟨_, _, Weak.refl _, by omega, k + 1, rfl, hlt, t0, rfl, ?_, hb⟩
          rw [List.take_succ_eq_append_getElem hlt, List.all_append, hj]; simp [hs]
      · have hk' : k = s.length := by omega
        subst hk'
        rw [List.take_length] at hj
        have hv : vName s = !words.contains s := by simp [vName, hw, hh, hj]
        rw [hv]
        clear hv hj hw hh
        refine bgo ?_
        refine wk_rfl ?_
        refine bgo ?_
        refine ⟨fun _ => rfl, fun h1 => ⟨fun _ => rfl, fun h2 => ⟨fun _ => rfl, fun h3 => ⟨fun _ => rfl, fun h4 => ⟨fun _ => rfl, fun h5 => ⟨fun _ => rfl, fun h6 => ⟨fun _ => rfl, fun h7 => ⟨fun _ => rfl, fun h8 => ⟨fun _ => rfl, fun h9 => ?_⟩⟩⟩⟩⟩⟩⟩⟩⟩
        simp [words, h1, h2, h3, h4, h5, h6, h7, h8, h9]
    · have : headOk (a :: tl) = false := by simp [headOk, inB]; omega
      simp [vName, this]
theorem l5Has_b (l : List (List UInt8)) (s : List UInt8) : BRet Tryz.prog 132 [] [.d (.sl 1 (l.map .str)), .str s] (.bool (l.contains s)) [] := by
  refine BRet.len 0 (by kernel_rfl) rfl fun hl => ?_
  refine bof Tryz.func132 ?_
  simp only [List.length_map] at hl
  generalize hr : l.contains s = r
  refine bgo ?_
  refine b_loop (fun n st => ∃ k : Nat, n = l.length - k ∧ k ≤ l.length ∧ st.tm 0 = .d (.sl 1 (l.map .str)) ∧ st.tm 1 = .str s ∧ st.tm 5 = .int k ∧ (l.drop k).contains s = r ∧ ∀ b, st.bx b = none) l.length ⟨0, rfl, Nat.zero_le _, rfl, rfl, rfl, hr, bxOf_nil⟩ ?_
  clear hr
  rintro n st ⟨k, rfl, hk, t0, t1, t5, hj, hb⟩
  by_cases hlt : k < l.length
  · have hx : l[k]? = some l[k] := List.getElem?_eq_getElem hlt
    rw [List.drop_eq_getElem_cons hlt, List.contains_cons] at hj
    refine bgo ?_
    refine ⟨fun h => ?_, fun h => ⟨_, _, Weak.refl _, by omega, k + 1, rfl, hlt, t0, t1, rfl, ?_, hb⟩⟩
    · rw [← hj, h]; simp
    · rw [← hj]
      have : (s == l[k]) = false := by simpa using fun e => h e.symm
      rw [this]; rfl
  · have hk' : k = l.length := by omega
    subst hk'
    refine bgo ?_
    refine wk_rfl ?_
    refine bgo ?_
    rw [List.drop_length] at hj
    rw [← hj]; rfl
theorem BRet.ss {f : Nat} {a b : List UInt8} {n : Int} (hf : isFn Tryz.prog f = true) (h : ∀ w, Calls Tryz.prog f #[.string ⟨a.toArray⟩, .string ⟨b.toArray⟩] w fun e w' => e = .returned (.int .i64 n) ∧ w' = w) : BRet Tryz.prog f [] [.str a, .str b] (.int n) [] := by
  refine BRet.pure hf rfl fun G w vs hvs hargs hp ho hl hz _ => ?_
  have hv2 : vs.size = 2 := hvs
  have h0 := hargs 0 _ vs[0] rfl (Array.getElem?_eq_getElem (by omega))
  have h1 := hargs 1 _ vs[1] rfl (Array.getElem?_eq_getElem (by omega))
  have hv : vs = #[.string ⟨a.toArray⟩, .string ⟨b.toArray⟩] := by
    apply Array.ext
    · simpa using hvs
    · intro i hi hj
      have : i = 0 ∨ i = 1 := by simp at hj; omega
      rcases this with rfl | rfl
      · obtain ⟨h0, -⟩ := h0; generalize vs[0] = v at h0; cases h0; rfl
      · obtain ⟨h1, -⟩ := h1; generalize vs[1] = v at h1; cases h1; rfl
  rw [hv]
  refine (h w).mono ?_
  rintro e w' ⟨rfl, rfl⟩
  exact ⟨_, G, rfl, ⟨.int _ _, rfl⟩, hp, Ext.refl _ _ _, fun _ => rfl, fun g p hg => by rw [ho g] at hg; cases hg⟩
theorem count1_b (s : List UInt8) (c : UInt8) : BRet Tryz.prog 134 [] [.str s, .str [c]] (.int (Lib.countByte s c)) [] :=
  BRet.ss (by kernel_rfl) fun w => Any.strings_Count_one YtbhmeompdbokdaaGreatDoorStr.lays138 ⟨s.toArray⟩ c w
theorem index1_b (s : List UInt8) (c : UInt8) : BRet Tryz.prog 135 [] [.str s, .str [c]] (.int (Lib.indexByte s c)) [] :=
  BRet.ss (by kernel_rfl) fun w => Any.strings_Index_one YtbhmeompdbokdaaGreatDoorStr.lays143 ⟨s.toArray⟩ c w
def splitC (c : UInt8) : List UInt8 → List (List UInt8)
  | [] => [[]]
  | a :: l => if a = c then [] :: splitC c l else match splitC c l with | h :: t => (a :: h) :: t | [] => [[a]]
theorem splitC_ne (c : UInt8) : ∀ s, splitC c s ≠ []
  | [] => by simp [splitC]
  | a :: l => by
    unfold splitC
    split
    · simp
    · split <;> simp
theorem splitC_c (c a : UInt8) (l : List UInt8) : splitC c (a :: l) = if a = c then [] :: splitC c l else match splitC c l with | h :: t => (a :: h) :: t | [] => [[a]] := rfl
theorem splitC_idx (c : UInt8) : ∀ s, (Lib.indexByte s c = -1 ∧ splitC c s = [s]) ∨ ∃ m : Nat, Lib.indexByte s c = m ∧ m < s.length ∧ splitC c s = s.take m :: splitC c (s.drop (m + 1))
  | [] => .inl ⟨rfl, rfl⟩
  | a :: l => by
    rw [splitC_c]
    unfold Lib.indexByte
    by_cases h : a = c
    · subst h
      exact .inr ⟨0, by simp, by simp, by simp⟩
    · rw [if_neg (by simpa using h), if_neg h]
      rcases splitC_idx c l with ⟨h1, h2⟩ | ⟨m, h1, h2, h3⟩
      · exact .inl ⟨by rw [h1]; rfl, by rw [h2]⟩
      · refine .inr ⟨m + 1, ?_, by simp; omega, by rw [h3]; rfl⟩
        have : ((m : Int) == -1) = false := by simp
        rw [h1, this]; rfl
theorem splitC_len (c : UInt8) : ∀ s, (splitC c s).length = Lib.countByte s c + 1
  | [] => rfl
  | a :: l => by
    have ih := splitC_len c l
    have hne := splitC_ne c l
    rw [splitC_c]
    by_cases h : a = c
    · subst h; simp [Lib.countByte] at ih ⊢; omega
    · rw [if_neg h]
      have h2 : Lib.countByte (a :: l) c = Lib.countByte l c := by simp [Lib.countByte, h]
      rw [h2, ← ih]
      generalize splitC c l = q at *
      cases q
      · exact absurd rfl hne
      · rfl
theorem count_le (s : List UInt8) (c : UInt8) : Lib.countByte s c ≤ s.length := List.count_le_length
def str0 : List PV := [.d (.str [])]
theorem genSplit_b (s : List UInt8) (c : UInt8) (hl : s.length ≤ 1048576) : BRet Tryz.prog 93 [] [.str s, .str [c], .int 0, .int (-1)] (.own 9 1 ((splitC c s).map .str)) [] := by
  refine bofW Tryz.func93 ?_
  refine bgo ?_
  refine b_call (count1_b s c) rfl rfl rfl rfl ?_
  have hc := count_le s c
  have hn := splitC_len c s
  have hps : ∃ ps, splitC c s = ps := ⟨_, rfl⟩
  obtain ⟨ps, hps⟩ := hps
  rw [hps] at hn
  generalize Lib.countByte s c = n at *
  have hmin : min ((n : Int) + 1) ((s.length : Int) + 1) = ((n + 1 : Nat) : Int) := by omega
  have hl2 : (n : Int) + 1 ≤ (s.length : Int) + 1 := by omega
  refine bgo ?_
  refine ⟨by omega, by omega, ?_⟩
  have hok := fun n k L => filling_ok (l := ps.map .str) (zero := str0) (fun _ => rfl) n k L
  refine b_lp (ι := Nat × List UInt8) (fun i => [(0, .str i.2), (1, .str [c]), (2, .int 0), (3, .int n), (9, .rsl (.t 31) 9 1 (n + 1)), (10, .int i.1)]) (fun i => [(.t 31, filling (ps.map .str) str0 (n + 1) i.1)])
    (fun i => i.1 ≤ n ∧ ps.drop i.1 = splitC c i.2 ∧ i.2.length ≤ 1048576) (fun i => n - i.1) (0, s) ⟨hsT, ⟨_, rfl, HasC.of rfl (hok _ _ _)⟩, trivial⟩ ⟨Nat.zero_le _, hps.symm, hl⟩ ?_
  rintro ⟨k, r⟩ ⟨hk, hd, hr⟩ I nx
  dsimp only at hk hd hr ⊢
  have hkp : k < ps.length := by omega
  have hk1 : k < n + 1 := by omega
  have hfl := filling_len (l := ps.map .str) (zero := str0) (n := n + 1) (k := k) (sz := 1) rfl (fun x hx => by obtain ⟨y, _, rfl⟩ := List.mem_map.1 hx; rfl) (by simpa using hn) (by omega)
  have hfs := filling_step (l := ps.map .str) (zero := str0) (n := n + 1) (k := k) (sz := 1) rfl (fun x hx => by obtain ⟨y, _, rfl⟩ := List.mem_map.1 hx; rfl) (by simpa using hn) (by simpa using hkp)
  have hfb : (filling (ps.map .str) str0 (n + 1) (k + 1)).map PV.bC = filling (ps.map .str) str0 (n + 1) (k + 1) := filling_bC rfl
  rw [List.drop_eq_getElem_cons hkp] at hd
  by_cases hlt : k < n
  · rcases splitC_idx c r with ⟨h1, h2⟩ | ⟨m, h1, h2, h3⟩
    · rw [h2] at hd
      have := congrArg List.length (List.cons.inj hd).2
      simp at this; omega
    · rw [h3] at hd
      obtain ⟨hd1, hd2⟩ := List.cons.inj hd
      have hm1 : m + 1 ≤ r.length := h2
      have hm0 : m ≤ r.length := by omega
      clear hd h3 hps hmin hl2
      refine bgo ?_
      refine b_call (index1_b r c) rfl rfl rfl rfl ?_
      rw [h1]
      refine bgo ?_
      refine ⟨by omega, nx.go (k + 1, r.drop (m + 1)) ⟨hlt, hd2, by simp; omega⟩ (by dsimp only; omega) ⟨hsT, ⟨_, rfl, HasC.of ?_ (hok _ _ _)⟩, trivial⟩⟩
      rw [← hfs]
      simp [hd1, PD.cells]
  · have hkn : k = n := by omega
    subst hkn
    have hd0 : ps[k] = r := by
      rcases splitC_idx c r with ⟨h1, h2⟩ | ⟨m, h1, h2, h3⟩
      · rw [h2] at hd; exact (List.cons.inj hd).1
      · rw [h3] at hd
        have h4 := congrArg List.length (List.cons.inj hd).2
        have := splitC_ne c (r.drop (m + 1))
        rw [List.length_drop, hn, Nat.sub_self] at h4
        exact absurd (List.length_eq_zero_iff.1 h4.symm) this
    clear hd hps
    refine bgo ?_
    refine wk_rfl ?_
    refine bgo ?_
    refine ⟨by omega, ?_⟩
    have hcl : List.take (k * 1) (filling (ps.map .str) str0 (k + 1) k) ++ [PV.str r] ++ List.drop (k * 1 + 1) (filling (ps.map .str) str0 (k + 1) k) = (flat (ps.map .str)).map .d := by
      have := filling_n (ps.map .str) str0
      simp only [List.length_map, hn] at this
      rw [← this, ← hfs]
      simp [hd0, PD.cells]
    refine wk_fz 8 (.t 31) 9 1 (k + 1) (ps.map .str) [] [] ⟨hsT, ⟨_, rfl, HasC.of hcl ?_⟩, trivial⟩ (by simpa using hn) (fun x hx => by obtain ⟨y, _, rfl⟩ := List.mem_map.1 hx; rfl) ?_
    · simp [okC]
    refine bgo ?_
    trivial
theorem split_b (s : List UInt8) (c : UInt8) (hl : s.length ≤ 1048576) : BRet Tryz.prog 39 [] [.str s, .str [c]] (.own 9 1 ((splitC c s).map .str)) [] := by
  refine bof Tryz.func39 ?_
  refine bgo ?_
  refine b_call (genSplit_b s c hl) rfl rfl rfl rfl ?_
  refine bgo ?_
  trivial
def wordsT : List UInt8 := [116, 114, 117, 101, 32, 102, 114, 111, 109, 32, 110, 111, 116, 32, 97, 110, 100, 32, 111, 114, 32, 98, 111, 116, 104, 32, 101, 105, 116, 104, 101, 114, 32, 105, 116, 32, 105, 110]
theorem words_eq : splitC 32 wordsT = words := by decide
theorem all_take {s : List UInt8} {k : Nat} (hlt : k < s.length) (hj : (s.take k).all sg = true) (h : sg s[k] = true) : (s.take (k + 1)).all sg = true := by
  rw [List.take_succ_eq_append_getElem hlt, List.all_append, hj]; simp [h]
theorem sg_bad {s : List UInt8} {k : Nat} (hlt : k < s.length) (h : sg s[k] = false) : vName s = false := by
  have : s.all sg = false := by
    cases e : s.all sg
    · rfl
    · rw [List.all_eq_true.1 e _ (List.getElem_mem hlt)] at h; cases h
  simp [vName, this]
theorem IsValidName_b (s : List UInt8) : BRet Tryz.prog 90 [] [.str s] (.bool (vName s)) [] := by
  refine BRet.slen 0 (by kernel_rfl) rfl fun hl => ?_
  refine bof Tryz.func90 ?_
  refine bgo ?_
  refine b_call (within_b _ _ _) rfl rfl rfl rfl ?_
  cases hw : inB s.length 1 8
  · have hv : vName s = false := by simp [vName, hw]
    rw [hv]
    refine bgo ?_
    trivial
  · obtain ⟨a, tl, rfl⟩ : ∃ a tl, s = a :: tl := by
      cases s with
      | nil => simp [inB] at hw
      | cons a tl => exact ⟨a, tl, rfl⟩
    have h0 : (a :: tl)[0]? = some a := rfl
    have hbad : headOk (a :: tl) = false → vName (a :: tl) = false := fun h => by simp [vName, h]
    have hgood : headOk (a :: tl) = true → (a :: tl).all sg = true → vName (a :: tl) = !words.contains (a :: tl) := fun h h2 => by unfold vName; rw [hw, h, h2]; rfl
    have hhd : headOk (a :: tl) = (decide ((a.toNat : Int) ≥ 97) && decide ((a.toNat : Int) ≤ 122)) := rfl
    generalize headOk (a :: tl) = hh at *
    generalize a :: tl = s at *
    by_cases h1 : (a.toNat : Int) < 97
    · rw [hbad (by rw [hhd]; simp; omega)]
      refine bgo ?_
      trivial
    by_cases h2 : (a.toNat : Int) > 122
    · rw [hbad (by rw [hhd]; simp; omega)]
      refine bgo ?_
      trivial
    have hv := hgood (by rw [hhd]; simp; omega)
    have hbad2 : ∀ k (hlt : k < s.length), sg s[k] = false → vName s = false := fun k hlt h => sg_bad hlt h
    clear hgood hbad hhd
    refine bgo ?_
    generalize vName s = r at *
    refine b_lp (ι := Nat) (fun k => [(0, .str s), (20, .int s.length), (21, .int k)]) (fun _ => []) (fun k => k ≤ s.length ∧ (s.take k).all sg = true) (fun k => s.length - k) 0 hs ⟨Nat.zero_le _, rfl⟩ ?_
    clear h0 h1 h2 hw
    rintro k ⟨hk, hj⟩ I nx
    by_cases hlt : k < s.length
    · have hx : s[k]? = some s[k] := List.getElem?_eq_getElem hlt
      cases hs0 : sg s[k]
      · rw [hbad2 k hlt hs0] at *
        have e : ¬ ((97 : Int) ≤ s[k].toNat ∧ (s[k].toNat : Int) ≤ 122) ∧ ¬ ((48 : Int) ≤ s[k].toNat ∧ (s[k].toNat : Int) ≤ 57) := by
          simp [sg, inB] at hs0; omega
        clear hbad2 hv hj
        refine bgo ?_
        repeat' first | intro _ | apply And.intro
        all_goals (exfalso; omega)
      · have e : ((97 : Int) ≤ s[k].toNat ∧ (s[k].toNat : Int) ≤ 122) ∨ ((48 : Int) ≤ s[k].toNat ∧ (s[k].toNat : Int) ≤ 57) := by
          simp [sg, inB] at hs0; omega
        have hj2 := all_take hlt hj hs0
        clear hbad2 hv hj
        refine bgo ?_
        repeat' first | intro _ | apply And.intro
        all_goals first | (exfalso; omega) | exact nx.go (k + 1) ⟨hlt, hj2⟩ (by omega) hs
    · have hk' : k = s.length := by omega
      subst hk'
      rw [List.take_length] at hj
      have hv2 := hv hj
      clear hbad2 hj hv
      subst hv2
      refine bgo ?_
      refine wk_rfl ?_
      refine bgo ?_
      refine b_call (split_b wordsT 32 (by decide)) rfl rfl rfl rfl ?_
      refine bgo ?_
      refine b_call (containsStr_b _ _) rfl rfl rfl rfl ?_
      rw [words_eq]
      refine bgo ?_
      trivial
end Go.Bee.C23s


namespace Go.Bee.Da
open Go
set_option linter.unusedVariables false
def mlen (y m : Int) : Int := if m = 2 then (if y.tmod 4 = 0 then 29 else 28) else if m = 4 ∨ m = 6 ∨ m = 9 ∨ m = 11 then 30 else 31
def ylen (y : Int) : Int := 337 + mlen y 2
def ycum (k : Int) : Int := 365 * k + (k + 3).tdiv 4
def mcum (y : Int) : Nat → Int
  | 0 => 0
  | n + 1 => mcum y n + mlen y ((n : Int) + 1)
theorem mlen_in (y m : Int) : 28 ≤ mlen y m ∧ mlen y m ≤ 31 := by
  unfold mlen
  split
  · split <;> omega
  · split <;> omega
theorem mlen2 (y : Int) (h : 0 ≤ y) : mlen y 2 = if y % 4 = 0 then 29 else 28 := by
  unfold mlen
  rw [if_pos rfl, Int.tmod_eq_emod_of_nonneg h]
theorem ylen_in (y : Int) : 365 ≤ ylen y ∧ ylen y ≤ 366 := by
  unfold ylen mlen
  rw [if_pos rfl]
  split <;> omega
theorem ycum_eq (k : Nat) : ycum k = 365 * k + ((k + 3) / 4 : Int) := by
  unfold ycum
  rw [Int.tdiv_eq_ediv_of_nonneg (by omega)]
theorem ycum_succ (k : Nat) : ycum ((k : Int) + 1) = ycum k + ylen (2000 + k) := by
  have h := ycum_eq (k + 1)
  rw [show (((k + 1 : Nat)) : Int) = (k : Int) + 1 by omega] at h
  rw [h, ycum_eq, ylen, mlen2 _ (by omega)]
  split <;> omega
theorem ycum_lt {k : Nat} {r day : Int} (h : day = ycum k + r) (hr : 0 ≤ r) (hd : day ≤ 36524) : k ≤ 99 := by
  rw [ycum_eq] at h
  omega
theorem mcum_ylen (y : Int) : mcum y 12 = ylen y := by
  have e : mlen y 1 = 31 ∧ mlen y 3 = 31 ∧ mlen y 4 = 30 ∧ mlen y 5 = 31 ∧ mlen y 6 = 30 ∧ mlen y 7 = 31 ∧ mlen y 8 = 31 ∧ mlen y 9 = 30 ∧ mlen y 10 = 31 ∧ mlen y 11 = 30 ∧ mlen y 12 = 31 := by simp [mlen]
  show 0 + mlen y 1 + mlen y 2 + mlen y 3 + mlen y 4 + mlen y 5 + mlen y 6 + mlen y 7 + mlen y 8 + mlen y 9 + mlen y 10 + mlen y 11 + mlen y 12 = 337 + mlen y 2
  omega
def yF : Nat → Nat → Int → Nat × Int
  | 0, k, r => (k, r)
  | n + 1, k, r => if r ≥ ylen (2000 + k) then yF n (k + 1) (r - ylen (2000 + k)) else (k, r)
def mF (y : Int) : Nat → Nat → Int → Nat × Int
  | 0, m, r => (m, r)
  | n + 1, m, r => if r ≥ mlen y m then mF y n (m + 1) (r - mlen y m) else (m, r)
theorem yF_in (day : Int) (hd : day ≤ 36524) : ∀ (n k : Nat) (r : Int), day = ycum k + r → 0 ≤ r → k + n = 100 → (yF n k r).1 ≤ 99 ∧ day = ycum (yF n k r).1 + (yF n k r).2 ∧ 0 ≤ (yF n k r).2 ∧ (yF n k r).2 < ylen (2000 + (yF n k r).1)
  | 0, k, r, h, h0, hk => by have := ycum_lt h h0 hd; omega
  | n + 1, k, r, h, h0, hk => by
    unfold yF
    split
    · rename_i hr
      exact yF_in day hd n (k + 1) _ (by rw [show (((k + 1 : Nat)) : Int) = (k : Int) + 1 by omega, ycum_succ]; omega) (by omega) (by omega)
    · rename_i hr
      exact ⟨by omega, h, h0, by dsimp only; omega⟩
theorem mF_in (y : Int) (t : Int) (ht : t < ylen y) : ∀ (n m : Nat) (r : Int), t = mcum y m + r → 0 ≤ r → m + n = 12 → (mF y n (m + 1) r).1 ≤ 12 ∧ 1 ≤ (mF y n (m + 1) r).1 ∧ 0 ≤ (mF y n (m + 1) r).2 ∧ (mF y n (m + 1) r).2 ≤ 30
  | 0, m, r, h, h0, hm => by
    obtain rfl : m = 12 := by omega
    rw [mcum_ylen] at h
    omega
  | n + 1, m, r, h, h0, hm => by
    unfold mF
    split
    · rename_i hr
      exact mF_in y t ht n (m + 1) _ (by simp only [mcum]; rw [show (((m + 1 : Nat)) : Int) = (m : Int) + 1 by omega]; omega) (by omega) (by omega)
    · rename_i hr
      have := mlen_in y ((m + 1 : Nat) : Int)
      exact ⟨by omega, by omega, h0, by dsimp only; omega⟩
def yrF (day : Int) : Nat × Int := yF 100 0 day
def moF (day : Int) : Nat × Int := mF (2000 + (yrF day).1) 12 1 (yrF day).2
structure Dt where (y : Int) (m : Int) (d : Int) deriving DecidableEq
def dateF (day : Int) : Dt := ⟨2000 + (yrF day).1, (moF day).1, (moF day).2 + 1⟩
theorem dateF_in {day : Int} (h0 : 0 ≤ day) (h1 : day ≤ 36524) : 2000 ≤ (dateF day).y ∧ (dateF day).y ≤ 2099 ∧ 1 ≤ (dateF day).m ∧ (dateF day).m ≤ 12 ∧ 1 ≤ (dateF day).d ∧ (dateF day).d ≤ 31 := by
  obtain ⟨a, b, c, d⟩ := yF_in day h1 100 0 day (by rw [ycum_eq 0]; omega) h0 rfl
  have h2 : (moF day).1 ≤ 12 ∧ 1 ≤ (moF day).1 ∧ 0 ≤ (moF day).2 ∧ (moF day).2 ≤ 30 := mF_in (2000 + (yrF day).1) (yrF day).2 d 12 0 (yrF day).2 (by rw [mcum]; omega) c rfl
  have h3 : (yrF day).1 ≤ 99 := a
  unfold dateF
  dsimp only
  omega
abbrev Tx := List UInt8
def num (n : Int) : Tx := Lib.decDigits n.toNat
def two (n : Int) : Tx := if n < 10 then 48 :: num n else num n
def padN : Nat → Tx → Tx
  | 0, t => t
  | n + 1, t => if t.length < n + 1 then 48 :: padN n t else t
theorem num_len1 {n : Int} (h0 : 0 ≤ n) (h1 : n < 10) : (num n).length = 1 := by
  unfold num; rw [Lib.decDigits_length, Lib.nDigits, dif_pos (by omega)]
theorem num_len2 {n : Int} (h0 : 10 ≤ n) (h1 : n < 100) : (num n).length = 2 := by
  unfold num; rw [Lib.decDigits_length, Lib.nDigits, dif_neg (by omega), Lib.nDigits, dif_pos (by omega)]
theorem num_len4 {n : Int} (h0 : 1000 ≤ n) (h1 : n < 10000) : (num n).length = 4 := by
  unfold num; rw [Lib.decDigits_length, Lib.nDigits, dif_neg (by omega), Lib.nDigits, dif_neg (by omega), Lib.nDigits, dif_neg (by omega), Lib.nDigits, dif_pos (by omega)]
def dateT (day : Int) : Tx := num (dateF day).y ++ [45] ++ two (dateF day).m ++ [45] ++ two (dateF day).d
def absI (x : Int) : Int := if x < 0 then -x else x
def amtT (x : Int) : Tx := (if x < 0 then [45] else []) ++ num (absI x / 100) ++ [46] ++ two (absI x % 100)
end Go.Bee.Da


namespace Go.Proofs
open Go.Shelf
def YtbhmeompdbokdaaGreatDoorStr.lays171_ren : Go.Shelf.Ren := ⟨fun | 171 => 144 | 243 => 176 | 246 => 191 | 283 => 196 | 284 => 197 | 285 => 198 | 286 => 199 | 129 => 201 | 317 => 200 | 318 => 202 | 319 => 203 | 320 => 204 | 337 => 205 | 338 => 206 | n => n, fun | 3 => 3 | 9 => 9 | 2 => 2 | 4 => 4 | 171 => 177 | 0 => 0 | 53 => 82 | 37 => 37 | 5 => 5 | 173 => 180 | 212 => 183 | 51 => 170 | 20 => 20 | 213 => 184 | 46 => 145 | 232 => 187 | 233 => 188 | n => n, fun | 17 => 5 | 18 => 6 | 19 => 7 | n => n⟩
theorem YtbhmeompdbokdaaGreatDoorStr.lays171 : Go.Proofs.LaysM.n171 Tryz.prog YtbhmeompdbokdaaGreatDoorStr.lays171_ren := {
  mixed := by kernel_rfl
  f129 := Tryz.func201.trans (congrArg some (by kernel_rfl))
  f171 := Tryz.func144.trans (congrArg some (by kernel_rfl))
  f243 := Tryz.func176.trans (congrArg some (by kernel_rfl))
  f246 := Tryz.func191.trans (congrArg some (by kernel_rfl))
  f283 := Tryz.func196.trans (congrArg some (by kernel_rfl))
  f284 := Tryz.func197.trans (congrArg some (by kernel_rfl))
  f285 := Tryz.func198.trans (congrArg some (by kernel_rfl))
  f286 := Tryz.func199.trans (congrArg some (by kernel_rfl))
  f317 := Tryz.func200.trans (congrArg some (by kernel_rfl))
  f318 := Tryz.func202.trans (congrArg some (by kernel_rfl))
  f319 := Tryz.func203.trans (congrArg some (by kernel_rfl))
  f320 := Tryz.func204.trans (congrArg some (by kernel_rfl))
  f337 := Tryz.func205.trans (congrArg some (by kernel_rfl))
  f338 := Tryz.func206.trans (congrArg some (by kernel_rfl))
  t0 := Tryz.underlying0
  a0 := Tryz.isAgg0
  z0 := Tryz.sizeOf0
  v0 := Tryz.zeroValue0
  t2 := Tryz.underlying2
  a2 := Tryz.isAgg2
  z2 := Tryz.sizeOf2
  v2 := Tryz.zeroValue2
  t3 := Tryz.underlying3
  a3 := Tryz.isAgg3
  z3 := Tryz.sizeOf3
  v3 := Tryz.zeroValue3
  t4 := Tryz.underlying4
  a4 := Tryz.isAgg4
  z4 := Tryz.sizeOf4
  v4 := Tryz.zeroValue4
  t5 := Tryz.underlying5
  a5 := Tryz.isAgg5
  z5 := Tryz.sizeOf5
  v5 := Tryz.zeroValue5
  t9 := Tryz.underlying9
  a9 := Tryz.isAgg9
  z9 := Tryz.sizeOf9
  v9 := Tryz.zeroValue9
  t20 := Tryz.underlying20
  a20 := Tryz.isAgg20
  z20 := Tryz.sizeOf20
  v20 := Tryz.zeroValue20
  t37 := Tryz.underlying37
  a37 := Tryz.isAgg37
  z37 := Tryz.sizeOf37
  v37 := Tryz.zeroValue37
  t46 := Tryz.underlying145
  a46 := Tryz.isAgg145
  z46 := Tryz.sizeOf145
  v46 := Tryz.zeroValue145
  t51 := Tryz.underlying170
  a51 := Tryz.isAgg170
  z51 := Tryz.sizeOf170
  v51 := Tryz.zeroValue170
  t53 := Tryz.underlying82
  a53 := Tryz.isAgg82
  z53 := Tryz.sizeOf82
  v53 := Tryz.zeroValue82
  t171 := Tryz.underlying177
  a171 := Tryz.isAgg177
  z171 := Tryz.sizeOf177
  v171 := Tryz.zeroValue177
  t173 := Tryz.underlying180
  a173 := Tryz.isAgg180
  z173 := Tryz.sizeOf180
  v173 := Tryz.zeroValue180
  t212 := Tryz.underlying183
  a212 := Tryz.isAgg183
  z212 := Tryz.sizeOf183
  v212 := Tryz.zeroValue183
  t213 := Tryz.underlying184
  a213 := Tryz.isAgg184
  z213 := Tryz.sizeOf184
  t232 := Tryz.underlying187
  a232 := Tryz.isAgg187
  z232 := Tryz.sizeOf187
  v232 := Tryz.zeroValue187
  t233 := Tryz.underlying188
  a233 := Tryz.isAgg188
  z233 := Tryz.sizeOf188
  v233 := Tryz.zeroValue188
  g17 := by kernel_rfl
  g18 := by kernel_rfl
  g19 := by kernel_rfl
  i0 := by kernel_rfl
  i2 := by kernel_rfl
  i3 := by kernel_rfl
  i4 := by kernel_rfl
  i5 := by kernel_rfl
  i9 := by kernel_rfl
  i20 := by kernel_rfl
  i37 := by kernel_rfl
  i46 := by kernel_rfl
  i51 := by kernel_rfl
  i53 := by kernel_rfl
  i171 := by kernel_rfl
  i173 := by kernel_rfl
  i212 := by kernel_rfl
  i232 := by kernel_rfl
  i233 := by kernel_rfl
  m17 := by kernel_rfl
  m18 := by kernel_rfl
  m19 := by kernel_rfl }
end Go.Proofs
namespace Go.Bee.C24
open Go Go.Bee Go.Proofs Go.Bee.Ty
theorem bDt2 : ∀ (a b : Int), evBuild Tryz.prog 111 [(0, .d (.int .i64 a)), (1, .d (.int .i64 b))] = some (.agg [.d (.int .i64 a), .d (.int .i64 b), .d (.int .i64 0)]) := fun a b => by kernel_rfl
theorem bDt3 : ∀ (a b c : Int), evBuild Tryz.prog 111 [(0, .d (.int .i64 a)), (1, .d (.int .i64 b)), (2, .d (.int .i64 c))] = some (.agg [.d (.int .i64 a), .d (.int .i64 b), .d (.int .i64 c)]) := fun a b c => by kernel_rfl
theorem tys : type_of% (And.intro Go.Bee.C23s.tys (And.intro bDt2 bDt3)) := And.intro Go.Bee.C23s.tys (And.intro bDt2 bDt3)
end Go.Bee.C24
namespace Go.Bee.C24
open Go Go.Bee Go.Proofs Go.Bee.Ty Go.Bee.C23 Go.Bee.C23s Go.Bee.Da
set_option linter.unusedVariables false
set_option maxRecDepth 20000
attribute [local irreducible] Go.Bee.bwp
theorem itoa_b (n : Int) (h0 : -9223372036854775808 ≤ n) (h1 : n ≤ 9223372036854775807) : BRet Tryz.prog 144 [] [.int n] (.str (Lib.itoa n)) [] := by
  refine BRet.pure (by kernel_rfl) rfl fun G w vs hvs hargs hp ho hl hz htb => ?_
  have hv0 := hargs 0 _ (vs[0]'(by simp at hvs; omega)) rfl (Array.getElem?_eq_getElem _)
  have hv : vs = #[.int .i64 n] := by
    apply Array.ext (by simpa using hvs)
    intro i hi hj
    obtain rfl : i = 0 := by simp at hj; omega
    obtain ⟨h, -⟩ := hv0; generalize vs[0] = v at h; cases h; rfl
  rw [hv]
  have htab := (htb _ (List.mem_cons_self ..) 5 (by kernel_rfl)).2
  have hlen := Lib.itoa_length_le n h0 h1
  refine (Any.strconv_Itoa YtbhmeompdbokdaaGreatDoorStr.lays171 n h0 h1 w htab).mono ?_
  rintro e w' ⟨rfl, k, os, rfl⟩
  have hsz : w.heap.size ≤ (Sort.grow (w.drewN k) os).heap.size := by simp [Sort.grow, World.drewN]
  have hold : ∀ g, g < w.heap.size → (Sort.grow (w.drewN k) os).heap[g]? = w.heap[g]? := fun g hg => by
    simp only [Sort.grow, World.drewN]
    rw [Array.getElem?_append_left hg]
  refine ⟨_, G, rfl, ⟨.str _ (by omega), rfl⟩, ⟨fun b cells hc => (by simp [bxOf_nil'] at hc), hp.live, hp.inj, fun g o hg => Nat.lt_of_lt_of_le (hp.imlt g o hg) hsz, fun g p hg => (by rw [ho g] at hg; cases hg), hp.boxim, hp.boxown⟩,
    ⟨rfl, rfl, rfl, hsz, fun b hb _ => hold b hb, fun b o hb => ⟨hb, cell_of_heap (hold b (hp.imlt b o hb)) o⟩, fun b o hb => .inl hb⟩, fun _ => rfl, fun g p hg => (by rw [ho g] at hg; cases hg)⟩
theorem itoaN_b (n : Int) (h0 : 0 ≤ n) (h1 : n ≤ 9223372036854775807) : BRet Tryz.prog 144 [] [.int n] (.str (num n)) [] := by
  have := itoa_b n (by omega) h1
  rwa [show Lib.itoa n = num n by unfold Lib.itoa num; rw [if_neg (by omega)]] at this
def padT (m : Nat) (t : Tx) : Tx := List.replicate (m - t.length) 48 ++ t
theorem padded_b (n : Int) (h0 : 0 ≤ n) (h1 : n ≤ 9223372036854775807) (m : Nat) (hm : m ≤ 100) (hl : (num n).length ≤ 100) : BRet Tryz.prog 140 [] [.int n, .int m] (.str (padT m (num n))) [] := by
  refine bof Tryz.func140 ?_
  have hi := itoaN_b n h0 h1
  unfold padT
  generalize num n = t at *
  obtain ⟨q, hq⟩ : ∃ q : Nat → Tx, q = fun i => List.replicate i 48 ++ t := ⟨_, rfl⟩
  have hq0 : Go.RowKit.Hid (t = q 0) := by rw [hq]; exact rfl
  have hq1 : Go.RowKit.Hid (∀ i, 48 :: q i = q (i + 1)) := fun i => by rw [hq]; exact rfl
  have hql : Go.RowKit.Hid (∀ i, (q i).length = i + t.length) := fun i => by rw [hq]; simp
  rw [show List.replicate (m - t.length) 48 ++ t = q (m - t.length) by rw [hq]]
  clear hq
  refine bgo ?_
  refine b_call hi rfl rfl rfl rfl ?_
  clear hi
  generalize hL : t.length = L at *
  refine bgo ?_
  refine b_lp (ι := Nat × Tx) (fun i => [(1, .int m), (5, .str i.2)]) (fun _ => []) (fun i => i.1 ≤ m - L ∧ i.2 = q i.1) (fun i => m - L - i.1) (0, t) hs ⟨Nat.zero_le _, hq0.out⟩ ?_
  clear hq0
  rintro ⟨i, u⟩ ⟨hi, hu⟩ I nx
  dsimp only at hi hu ⊢
  subst hu
  have hli := hql.out i
  have hc := hq1.out i
  clear hql hq1
  generalize hqu : q i = u at *
  by_cases hlt : (u.length : Int) < m
  · have hub : u.length ≤ 1000 := by omega
    have hlt2 : i + L < m := by omega
    have hub2 : 1 + (i + L) ≤ 140737488355328 := by omega
    refine bgo ?_
    exact nx.go (i + 1, q (i + 1)) ⟨by omega, rfl⟩ (by dsimp only; omega) hs
  · have hi2 : i = m - L := by omega
    subst hi2
    have hlt2 : ¬ (m - L + L < m) := by omega
    refine bgo ?_
    refine wk_rfl ?_
    refine bgo ?_
    trivial
def dgs : Tx := [48, 49, 50, 51, 52, 53, 54, 55, 56, 57]
theorem dgs_at : ∀ m : Nat, m < 10 → (dgs.take (m + 1)).drop m = Lib.decDigits m := fun m h => by
  rw [Lib.decDigits_one h]
  match m, h with
  | 0, _ => rfl
  | 1, _ => rfl
  | 2, _ => rfl
  | 3, _ => rfl
  | 4, _ => rfl
  | 5, _ => rfl
  | 6, _ => rfl
  | 7, _ => rfl
  | 8, _ => rfl
  | 9, _ => rfl
theorem digs_len (m : Nat) (h : m ≤ 9223372036854775807) : (Lib.decDigits m).length ≤ 21 := by
  have := Lib.itoa_length_le (m : Int) (by omega) (by omega)
  rwa [show Lib.itoa (m : Int) = Lib.decDigits m by unfold Lib.itoa; rw [if_neg (by omega)]; simp] at this
theorem l1NumN_b (m : Nat) : m ≤ 9223372036854775806 → BRet Tryz.prog 149 [] [.int (m : Int)] (.str (Lib.decDigits m)) [] := by
  induction m using Nat.strongRecOn with
  | _ m ih =>
    intro hm
    refine bof Tryz.func149 ?_
    have hn : ¬ (m : Int) < 0 := by omega
    have hz : ¬ ((10 : Int) = 0) := by decide
    by_cases h10 : (m : Int) < 10
    · have hd := dgs_at m (by omega)
      have ht : ((m : Int) + 1).toNat = m + 1 := by omega
      have ht2 : ((m : Int)).toNat = m := by omega
      rw [← hd]
      clear hd
      refine bgo ?_
      trivial
    · have hq : (m : Int).tdiv 10 = ((m / 10 : Nat) : Int) := by rw [Int.tdiv_eq_ediv_of_nonneg (by omega)]; omega
      have hr : (m : Int).tmod 10 = ((m % 10 : Nat) : Int) := by rw [Int.tmod_eq_emod_of_nonneg (by omega)]; omega
      have hc := ih (m / 10) (by omega) (by omega)
      have hd := dgs_at (m % 10) (by omega)
      have hlq := digs_len (m / 10) (by omega)
      rw [Lib.decDigits, dif_neg (by omega), ← Lib.decDigits_one (by omega), ← hd]
      have hxl : ((dgs.take (m % 10 + 1)).drop (m % 10)).length ≤ 10 := by rw [List.length_drop, List.length_take]; simp [dgs]; omega
      obtain ⟨x, hx⟩ : ∃ x, List.drop (m % 10) (48 :: List.take (m % 10) ([49, 50, 51, 52, 53, 54, 55, 56, 57] : List UInt8)) = x := ⟨_, rfl⟩
      rw [show (dgs.take (m % 10 + 1)).drop (m % 10) = x from hx] at hxl ⊢
      have hr10 : m % 10 < 10 := by omega
      generalize m % 10 = r at *
      generalize Lib.decDigits (m / 10) = t at *
      have ht : ((r : Int) + 1).toNat = r + 1 := by omega
      have ht2 : ((r : Int)).toNat = r := by omega
      have htx : t.length + x.length ≤ 140737488355328 := by omega
      clear ih hd
      refine bgo ?_
      refine b_call hc rfl rfl rfl rfl ?_
      refine bgo ?_
      trivial
theorem l1Num_b (n : Int) (h0 : 0 ≤ n) (h1 : n ≤ 9223372036854775806) : BRet Tryz.prog 149 [] [.int n] (.str (num n)) [] := by
  have := l1NumN_b n.toNat (by omega)
  rwa [show ((n.toNat : Nat) : Int) = n by omega] at this
theorem daysIn_b (y m : Int) : BRet Tryz.prog 138 [] [.int y, .int m] (.int (mlen y m)) [] := by
  refine bof Tryz.func138 ?_
  have hz : ¬ ((4 : Int) = 0) := by decide
  by_cases h2 : m = 2
  · subst h2
    by_cases h4 : y.tmod 4 = 0
    · rw [show mlen y 2 = 29 by unfold mlen; rw [if_pos rfl, if_pos h4]]
      refine bgo ?_
      first
        | trivial
        | simp
    · rw [show mlen y 2 = 28 by unfold mlen; rw [if_pos rfl, if_neg h4]]
      refine bgo ?_
      first
        | trivial
        | simp
  · by_cases h4 : m = 4
    · subst h4
      rw [show mlen y 4 = 30 by simp [mlen]]
      refine bgo ?_
      first
        | trivial
        | simp
    by_cases h6 : m = 6
    · subst h6
      rw [show mlen y 6 = 30 by simp [mlen]]
      refine bgo ?_
      first
        | trivial
        | simp
    by_cases h9 : m = 9
    · subst h9
      rw [show mlen y 9 = 30 by simp [mlen]]
      refine bgo ?_
      first
        | trivial
        | simp
    by_cases h11 : m = 11
    · subst h11
      rw [show mlen y 11 = 30 by simp [mlen]]
      refine bgo ?_
      first
        | trivial
        | simp
    rw [show mlen y m = 31 by simp [mlen, h2, h4, h6, h9, h11]]
    refine bgo ?_
    first
      | trivial
      | simp
theorem l3Length_b (y m : Int) : BRet Tryz.prog 146 [] [.int y, .int m] (.int (mlen y m)) [] := by
  refine bof Tryz.func146 ?_
  have hz : ¬ ((4 : Int) = 0) := by decide
  by_cases h2 : m = 2
  · subst h2
    by_cases h4 : y.tmod 4 = 0
    · rw [show mlen y 2 = 29 by unfold mlen; rw [if_pos rfl, if_pos h4]]
      refine bgo ?_
      first
        | trivial
        | simp
    · rw [show mlen y 2 = 28 by unfold mlen; rw [if_pos rfl, if_neg h4]]
      refine bgo ?_
      first
        | trivial
        | simp
  · by_cases h4 : m = 4
    · subst h4
      rw [show mlen y 4 = 30 by simp [mlen]]
      refine bgo ?_
      first
        | trivial
        | simp
    by_cases h6 : m = 6
    · subst h6
      rw [show mlen y 6 = 30 by simp [mlen]]
      refine bgo ?_
      first
        | trivial
        | simp
    by_cases h9 : m = 9
    · subst h9
      rw [show mlen y 9 = 30 by simp [mlen]]
      refine bgo ?_
      first
        | trivial
        | simp
    by_cases h11 : m = 11
    · subst h11
      rw [show mlen y 11 = 30 by simp [mlen]]
      refine bgo ?_
      first
        | trivial
        | simp
    rw [show mlen y m = 31 by simp [mlen, h2, h4, h6, h9, h11]]
    refine bgo ?_
    first
      | trivial
      | simp
theorem daysOf_b (y : Int) : BRet Tryz.prog 141 [] [.int y] (.int (ylen y)) [] := by
  refine bof Tryz.func141 ?_
  have h := mlen_in y 2
  unfold ylen
  refine bgo ?_
  refine b_call (daysIn_b y 2) rfl rfl rfl rfl ?_
  generalize mlen y 2 = q at *
  refine bgo ?_
  trivial
theorem mcum_in (y : Int) : ∀ n : Nat, 0 ≤ mcum y n ∧ mcum y n ≤ 31 * n
  | 0 => ⟨Int.le_refl _, Int.le_refl _⟩
  | n + 1 => by
    have := mcum_in y n
    have := mlen_in y ((n : Int) + 1)
    simp only [mcum]
    omega
theorem ycum_in (k : Nat) : 0 ≤ ycum k ∧ ycum k ≤ 367 * k + 3 := by rw [ycum_eq]; omega
theorem l3Day_b (y m d : Int) (k j : Nat) (hy : y = 2000 + k) (hm : m = j + 1) (hk : k ≤ 200) (hj : j ≤ 20) (hd : 0 ≤ d ∧ d ≤ 100) : BRet Tryz.prog 105 [] [.agg [.int y, .int m, .int d]] (.int (ycum k + mcum y j + d - 1)) [] := by
  refine bof Tryz.func105 ?_
  have hyk : y - 2000 = k := by omega
  have hy2 : 2000 ≤ y ∧ y ≤ 2200 := by omega
  have hm2 : 1 ≤ m ∧ m ≤ 21 := by omega
  have hy' : Go.RowKit.Hid (y = 2000 + k) := hy
  have hm' : Go.RowKit.Hid (m = j + 1) := hm
  clear hy hm
  have hyc : 365 * (k : Int) + ((k : Int) + 3).tdiv 4 = ycum k := rfl
  have hyb := ycum_in k
  have hz : ¬ ((4 : Int) = 0) := by decide
  have hd4 : 0 ≤ ((k : Int) + 3).tdiv 4 ∧ ((k : Int) + 3).tdiv 4 ≤ 1000 := by rw [Int.tdiv_eq_ediv_of_nonneg (by omega)]; omega
  generalize hdv : ((k : Int) + 3).tdiv 4 = dv at *
  generalize ycum k = yc at *
  refine bgo ?_
  refine b_lp (ι := Nat × Int × Int) (fun i => [(1, .ptr (.t 1) 0), (4, .int i.2.2), (5, .int i.2.1)]) (fun _ => [(.t 1, [.int y, .int m, .int d])]) (fun i => i.1 ≤ j ∧ i.2.1 = i.1 + 1 ∧ i.2.2 = yc + mcum y i.1) (fun i => j - i.1) (0, 1, yc) hs ⟨Nat.zero_le _, rfl, by simp [mcum]⟩ ?_
  rintro ⟨i, mi, t⟩ ⟨hi, hmi, ht⟩ I nx
  dsimp only at hi hmi ht ⊢
  have hmm := hm'.out
  by_cases hlt : mi < m
  · have hml := mlen_in y mi
    have hmc := mcum_in y i
    have hn : t + mlen y mi = yc + mcum y (i + 1) := by rw [ht, mcum, hmi]; omega
    have hcl := l3Length_b y mi
    generalize mlen y mi = q at *
    generalize mcum y i = mc at *
    have hij : i + 1 ≤ j := by omega
    have hmi2 : mi + 1 = ((i + 1 : Nat) : Int) + 1 := by omega
    have htb : 0 ≤ t ∧ t ≤ 1000000 := by omega
    have hmi3 : 0 ≤ mi ∧ mi ≤ 100 := by omega
    have hmi4 : Go.RowKit.Hid (mi + 1 = ((i + 1 : Nat) : Int) + 1) := hmi2
    clear hmi2 hmi hmm ht
    have hn' : Go.RowKit.Hid (t + q = yc + mcum y (i + 1)) := hn
    clear hn
    refine bgo ?_
    refine b_call hcl rfl rfl rfl rfl ?_
    refine bgo ?_
    exact nx.go (i + 1, mi + 1, t + q) ⟨hij, hmi4.out, hn'.out⟩ (by dsimp only; omega) hs
  · have hij : i = j := by omega
    subst hij
    have hmc := mcum_in y i
    generalize mcum y i = mc at *
    subst ht
    clear hmm hmi
    refine bgo ?_
    refine wk_rfl ?_
    refine bgo ?_
    trivial
end Go.Bee.C24


namespace Go.Bee.C24c
open Go Go.Bee Go.Proofs Go.Bee.Ty
theorem lapp : (∀ a b : List UInt8, (a ++ b).length = a.length + b.length) ∧ (∀ (x : UInt8) (a : List UInt8), (x :: a).length = a.length + 1) ∧ ([] : List UInt8).length = 0 := ⟨fun _ _ => List.length_append, fun _ _ => rfl, rfl⟩
theorem tys : type_of% (And.intro Go.Bee.C24.tys lapp) := And.intro Go.Bee.C24.tys lapp
end Go.Bee.C24c
namespace Go.Bee.C24c
open Go Go.Bee Go.Proofs Go.Bee.Ty Go.Bee.C23 Go.Bee.C23s Go.Bee.Da Go.Bee.C24
set_option linter.unusedVariables false
set_option maxRecDepth 20000
attribute [local irreducible] Go.Bee.bwp
theorem mF_more {y t r : Int} {j : Nat} (h : t = mcum y j + r) (hr : 0 ≤ r) (ht : t < ylen y) (hj : j ≤ 12) : j ≤ 11 := by
  rcases Nat.lt_or_ge j 12 with h1 | h1
  · omega
  · obtain rfl : j = 12 := by omega
    rw [mcum_ylen] at h; omega
theorem yF_step (k : Nat) (r : Int) (hk : k ≤ 99) : yF (100 - k) k r = if r ≥ ylen (2000 + k) then yF (100 - (k + 1)) (k + 1) (r - ylen (2000 + k)) else (k, r) := by
  rw [show 100 - k = (100 - (k + 1)) + 1 by omega]; rfl
theorem mF_step (y : Int) (j : Nat) (r : Int) (hj : j ≤ 11) : mF y (12 - j) (j + 1) r = if r ≥ mlen y ((j : Int) + 1) then mF y (12 - (j + 1)) (j + 2) (r - mlen y ((j : Int) + 1)) else (j + 1, r) := by
  rw [show 12 - j = (12 - (j + 1)) + 1 by omega]; rfl
theorem dateOf_b (day : Int) (h0 : 0 ≤ day) (h1 : day ≤ 36524) : BRet Tryz.prog 139 [] [.int day] (.agg [.int (dateF day).y, .int (dateF day).m, .int (dateF day).d]) [] := by
  have hin := yF_in day h1 100 0 day (by rw [ycum_eq 0]; omega) h0 rfl
  have hdy : (dateF day).y = 2000 + (yrF day).1 := rfl
  have hdm : (dateF day).m = (moF day).1 := rfl
  have hdd : (dateF day).d = (moF day).2 + 1 := rfl
  generalize dateF day = D at *
  obtain ⟨dy, dm, dd⟩ := D
  dsimp only at hdy hdm hdd ⊢
  have hmo : moF day = mF (2000 + (yrF day).1) 12 1 (yrF day).2 := rfl
  have hyr : yF 100 0 day = yrF day := rfl
  rw [hyr] at hin
  generalize moF day = mo at *
  generalize yrF day = yr at *
  obtain ⟨yk, rest⟩ := yr
  dsimp only at hin hdy hmo
  have hy' : Go.RowKit.Hid (dy = 2000 + yk) := hdy
  have hm' : Go.RowKit.Hid (dm = mo.1 ∧ dd = mo.2 + 1) := ⟨hdm, hdd⟩
  have hmo' : Go.RowKit.Hid (mo = mF (2000 + yk) 12 1 rest) := hmo
  clear hdy hdm hdd hmo hin
  refine bof Tryz.func139 ?_
  refine bgo ?_
  refine b_lp (ι := Nat × Int × Int) (fun i => [(0, .int i.2.2), (2, .ptr (.t 2) 0), (3, .ptr (.t 3) 0)]) (fun i => [(.t 2, [.int 0, .int 0, .int 0]), (.t 3, [.int i.2.1, .int 1, .int 0])])
    (fun i => i.2.1 = 2000 + i.1 ∧ day = ycum i.1 + i.2.2 ∧ 0 ≤ i.2.2 ∧ yF (100 - i.1) i.1 i.2.2 = (yk, rest)) (fun i => 100 - i.1) (0, 2000, day) hs ⟨by simp, by rw [ycum_eq 0]; simp, h0, hyr⟩ ?_
  clear hyr
  rintro ⟨k, y, r⟩ ⟨hy, hd, hr0, hF⟩ I nx
  dsimp only at hy hd hr0 hF ⊢
  have hk := ycum_lt hd hr0 h1
  rw [yF_step k r hk, ← hy] at hF
  have hyl := ylen_in y
  have hys := ycum_succ k
  rw [← hy] at hys
  have hyb : 2000 ≤ y ∧ y ≤ 2099 := by omega
  have hrb : r ≤ 36524 := by have := ycum_in k; omega
  have hy2 : Go.RowKit.Hid (y = 2000 + k) := hy
  have hcl := daysOf_b y
  by_cases hge : r ≥ ylen y
  · rw [if_pos hge] at hF
    have hd2 : Go.RowKit.Hid (day = ycum ((k + 1 : Nat) : Int) + (r - ylen y)) := by rw [show (((k + 1 : Nat)) : Int) = (k : Int) + 1 by omega, hys]; exact (by omega : day = ycum k + ylen y + (r - ylen y))
    have hF2 : Go.RowKit.Hid (yF (100 - (k + 1)) (k + 1) (r - ylen y) = (yk, rest)) := hF
    clear hF hys hd hy
    generalize ylen y = q at *
    refine bgo ?_
    refine b_call hcl rfl rfl rfl rfl ?_
    refine bgo ?_
    refine b_call hcl rfl rfl rfl rfl ?_
    refine bgo ?_
    refine nx.go (k + 1, y + 1, r - q) ⟨?_, hd2.out, by dsimp only; omega, hF2.out⟩ (by dsimp only; omega) hs
    have := hy2.out
    dsimp only; omega
  · rw [if_neg hge] at hF
    obtain ⟨rfl, rfl⟩ := Prod.mk.inj hF
    obtain rfl : dy = y := by have := hy'.out; have := hy2.out; omega
    have hsl : r < ylen dy := by omega
    have hmo2 : mF dy (12 - 0) (0 + 1) r = mo := by rw [hmo'.out, ← hy2.out]
    clear hF hys hd hy hmo'
    generalize hq : ylen dy = q at *
    refine bgo ?_
    refine b_call hcl rfl rfl rfl rfl ?_
    refine bgo ?_
    refine wk_mk [(0, .int r), (2, .ptr (.t 2) 0), (3, .ptr (.t 3) 0)] [(.t 2, [.int 0, .int 0, .int 0]), (.t 3, [.int dy, .int 1, .int 0])] hs ?_
    refine bgo ?_
    refine b_lp (ι := Nat × Int × Int) (fun i => [(0, .int i.2.2), (2, .ptr (.t 2) 0), (3, .ptr (.t 3) 0)]) (fun i => [(.t 2, [.int 0, .int 0, .int 0]), (.t 3, [.int dy, .int i.2.1, .int 0])])
      (fun i => i.2.1 = i.1 + 1 ∧ r = mcum dy i.1 + i.2.2 ∧ 0 ≤ i.2.2 ∧ i.1 ≤ 12 ∧ mF dy (12 - i.1) (i.1 + 1) i.2.2 = mo) (fun i => 12 - i.1) (0, 1, r) hs ⟨rfl, by simp [mcum], hr0, by omega, hmo2⟩ ?_
    clear hmo2
    rintro ⟨j, m, s⟩ ⟨hm, hs0, hs1, hj, hM⟩ I2 nx2
    dsimp only at hm hs0 hs1 hj hM ⊢
    have hj2 := mF_more hs0 hs1 (by rw [hq]; exact hsl) hj
    rw [mF_step dy j s hj2, ← hm] at hM
    have hml := mlen_in dy m
    have hmb : 1 ≤ m ∧ m ≤ 12 := by omega
    have hsb : s ≤ 36524 := by have := mcum_in dy j; omega
    have hcm := daysIn_b dy m
    have hm2 : Go.RowKit.Hid (m = j + 1) := hm
    by_cases hge2 : s ≥ mlen dy m
    · rw [if_pos hge2] at hM
      have hs2 : Go.RowKit.Hid (r = mcum dy (j + 1) + (s - mlen dy m)) := by rw [mcum, ← hm]; exact (by omega : r = mcum dy j + mlen dy m + (s - mlen dy m))
      have hM2 : Go.RowKit.Hid (mF dy (12 - (j + 1)) (j + 1 + 1) (s - mlen dy m) = mo) := hM
      clear hM hs0 hm
      generalize mlen dy m = q2 at *
      refine bgo ?_
      refine b_call hcm rfl rfl rfl rfl ?_
      refine bgo ?_
      refine b_call hcm rfl rfl rfl rfl ?_
      refine bgo ?_
      refine nx2.go (j + 1, m + 1, s - q2) ⟨?_, hs2.out, by dsimp only; omega, by dsimp only; omega, hM2.out⟩ (by dsimp only; omega) hs
      have := hm2.out
      dsimp only; omega
    · rw [if_neg hge2] at hM
      obtain ⟨e1, e2⟩ := hm'.out
      have e3 : dm = m := by rw [e1, ← hM]; have := hm2.out; dsimp only; omega
      have e4 : dd = s + 1 := by rw [e2, ← hM]
      subst e3; subst e4
      clear hM hs0 hm hm' hm2 e1 e2
      generalize mlen dy dm = q2 at *
      refine bgo ?_
      refine b_call hcm rfl rfl rfl rfl ?_
      refine bgo ?_
      refine wk_mk [(0, .int s), (2, .ptr (.t 2) 0), (3, .ptr (.t 3) 0)] [(.t 2, [.int 0, .int 0, .int 0]), (.t 3, [.int dy, .int dm, .int 0])] hs ?_
      refine bgo ?_
      trivial
theorem l3Date_b (day : Int) (h0 : 0 ≤ day) (h1 : day ≤ 36524) : BRet Tryz.prog 148 [] [.int day] (.agg [.int (dateF day).y, .int (dateF day).m, .int (dateF day).d]) [] := by
  have hin := yF_in day h1 100 0 day (by rw [ycum_eq 0]; omega) h0 rfl
  have hdy : (dateF day).y = 2000 + (yrF day).1 := rfl
  have hdm : (dateF day).m = (moF day).1 := rfl
  have hdd : (dateF day).d = (moF day).2 + 1 := rfl
  generalize dateF day = D at *
  obtain ⟨dy, dm, dd⟩ := D
  dsimp only at hdy hdm hdd ⊢
  have hmo : moF day = mF (2000 + (yrF day).1) 12 1 (yrF day).2 := rfl
  have hyr : yF 100 0 day = yrF day := rfl
  rw [hyr] at hin
  generalize moF day = mo at *
  generalize yrF day = yr at *
  obtain ⟨yk, rest⟩ := yr
  dsimp only at hin hdy hmo
  have hy' : Go.RowKit.Hid (dy = 2000 + yk) := hdy
  have hm' : Go.RowKit.Hid (dm = mo.1 ∧ dd = mo.2 + 1) := ⟨hdm, hdd⟩
  have hmo' : Go.RowKit.Hid (mo = mF (2000 + yk) 12 1 rest) := hmo
  clear hdy hdm hdd hmo hin
  refine bof Tryz.func148 ?_
  refine bgo ?_
  refine b_lp (ι := Nat × Int × Int) (fun i => [(0, .int day), (2, .ptr (.t 2) 0), (3, .ptr (.t 3) 0)]) (fun i => [(.t 2, [.int 0, .int 0, .int 0]), (.t 3, [.int i.2.1, .int 1, .int 1])])
    (fun i => i.2.1 = 2000 + i.1 ∧ day = ycum i.1 + i.2.2 ∧ 0 ≤ i.2.2 ∧ yF (100 - i.1) i.1 i.2.2 = (yk, rest)) (fun i => 100 - i.1) (0, 2000, day) hs ⟨by simp, by rw [ycum_eq 0]; simp, h0, hyr⟩ ?_
  clear hyr
  rintro ⟨k, y, r⟩ ⟨hy, hd, hr0, hF⟩ I nx
  dsimp only at hy hd hr0 hF ⊢
  have hk := ycum_lt hd hr0 h1
  rw [yF_step k r hk, ← hy] at hF
  have hyl := ylen_in y
  have hys := ycum_succ k
  rw [← hy] at hys
  have hyb : 2000 ≤ y ∧ y ≤ 2099 := by omega
  have hrb : r ≤ 36524 := by have := ycum_in k; omega
  have hy2 : Go.RowKit.Hid (y = 2000 + k) := hy
  have hcl := l3Day_b (y + 1) 1 1 (k + 1) 0 (by omega) rfl (by omega) (by omega) (by omega)
  obtain ⟨V, hV⟩ : ∃ V, V = ycum k + ylen y := ⟨_, rfl⟩
  rw [show ycum ((k + 1 : Nat) : Int) + mcum (y + 1) 0 + 1 - 1 = V by rw [show (((k + 1 : Nat)) : Int) = (k : Int) + 1 by omega, hys, hV, mcum]; omega] at hcl
  by_cases hge : r ≥ ylen y
  · rw [if_pos hge] at hF
    have hd2 : Go.RowKit.Hid (day = ycum ((k + 1 : Nat) : Int) + (r - ylen y)) := by rw [show (((k + 1 : Nat)) : Int) = (k : Int) + 1 by omega, hys]; exact (by omega : day = ycum k + ylen y + (r - ylen y))
    have hF2 : Go.RowKit.Hid (yF (100 - (k + 1)) (k + 1) (r - ylen y) = (yk, rest)) := hF
    have hk2 := ycum_lt (k := k + 1) hd2.out (by omega) h1
    have hy99 : y < 2099 := by omega
    have hle : V ≤ day := by omega
    clear hF hys hd hy hV
    generalize ylen y = q at *
    refine bgo ?_
    refine b_call hcl rfl rfl rfl rfl ?_
    refine bgo ?_
    refine nx.go (k + 1, y + 1, r - q) ⟨?_, hd2.out, by dsimp only; omega, hF2.out⟩ (by dsimp only; omega) hs
    have := hy2.out
    dsimp only; omega
  · rw [if_neg hge] at hF
    obtain ⟨rfl, rfl⟩ := Prod.mk.inj hF
    obtain rfl : dy = y := by have := hy'.out; have := hy2.out; omega
    have hsl : r < ylen dy := by omega
    have hmo2 : mF dy (12 - 0) (0 + 1) r = mo := by rw [hmo'.out, ← hy2.out]
    have hle : ¬ V ≤ day := by omega
    have hd2 : Go.RowKit.Hid (day = ycum k + r) := hd
    have hkk : k ≤ 200 := by omega
    clear hF hys hd hy hmo' hV
    generalize hq : ylen dy = q at *
    rcases (by omega : dy < 2099 ∨ dy ≥ 2099) with hy99 | hy99
    all_goals first
      | (have hy98 : ¬ dy < 2099 := by omega
         refine bgo ?_)
      | (refine bgo ?_
         refine b_call hcl rfl rfl rfl rfl ?_
         refine bgo ?_)
    all_goals
      refine wk_mk [(0, .int day), (2, .ptr (.t 2) 0), (3, .ptr (.t 3) 0)] [(.t 2, [.int 0, .int 0, .int 0]), (.t 3, [.int dy, .int 1, .int 1])] hs ?_
      clear hcl hle
      refine bgo ?_
      refine b_lp (ι := Nat × Int × Int) (fun i => [(0, .int day), (2, .ptr (.t 2) 0), (3, .ptr (.t 3) 0)]) (fun i => [(.t 2, [.int 0, .int 0, .int 0]), (.t 3, [.int dy, .int i.2.1, .int 1])])
        (fun i => i.2.1 = i.1 + 1 ∧ r = mcum dy i.1 + i.2.2 ∧ 0 ≤ i.2.2 ∧ i.1 ≤ 12 ∧ mF dy (12 - i.1) (i.1 + 1) i.2.2 = mo) (fun i => 12 - i.1) (0, 1, r) hs ⟨rfl, by simp [mcum], hr0, by omega, hmo2⟩ ?_
      clear hmo2
      rintro ⟨j, m, s⟩ ⟨hm, hs0, hs1, hj, hM⟩ I2 nx2
      dsimp only at hm hs0 hs1 hj hM ⊢
      have hj2 := mF_more hs0 hs1 (by rw [hq]; exact hsl) hj
      rw [mF_step dy j s hj2, ← hm] at hM
      have hml := mlen_in dy m
      have hmb : 1 ≤ m ∧ m ≤ 12 := by omega
      have hmcb := mcum_in dy j
      have hsb : s ≤ 36524 := by omega
      have hm2 : Go.RowKit.Hid (m = j + 1) := hm
      have hcm := l3Day_b dy (m + 1) 1 k (j + 1) hy2.out (by omega) hkk (by omega) (by omega)
      have hce := l3Day_b dy m 1 k j hy2.out hm hkk (by omega) (by omega)
      have hd3 := hd2.out
      have hyc := ycum_in k
      obtain ⟨V2, hV2⟩ : ∃ V2, V2 = ycum k + mcum dy j + mlen dy m := ⟨_, rfl⟩
      obtain ⟨V3, hV3⟩ : ∃ V3, V3 = ycum k + mcum dy j := ⟨_, rfl⟩
      rw [show ycum k + mcum dy (j + 1) + 1 - 1 = V2 by rw [hV2, mcum, ← hm]; omega] at hcm
      rw [show ycum k + mcum dy j + 1 - 1 = V3 by rw [hV3]; omega] at hce
      by_cases hge2 : s ≥ mlen dy m
      · rw [if_pos hge2] at hM
        have hs2 : Go.RowKit.Hid (r = mcum dy (j + 1) + (s - mlen dy m)) := by rw [mcum, ← hm]; exact (by omega : r = mcum dy j + mlen dy m + (s - mlen dy m))
        have hM2 : Go.RowKit.Hid (mF dy (12 - (j + 1)) (j + 1 + 1) (s - mlen dy m) = mo) := hM
        have hj3 := mF_more (j := j + 1) hs2.out (by omega) (by rw [hq]; exact hsl) (by omega)
        have hm12 : m < 12 := by omega
        have hle2 : V2 ≤ day := by omega
        clear hM hs0 hm hV2 hV3 hd3 hce
        generalize mlen dy m = q2 at *
        refine bgo ?_
        refine b_call hcm rfl rfl rfl rfl ?_
        refine bgo ?_
        refine nx2.go (j + 1, m + 1, s - q2) ⟨?_, hs2.out, by dsimp only; omega, by dsimp only; omega, hM2.out⟩ (by dsimp only; omega) hs
        have := hm2.out
        dsimp only; omega
      · rw [if_neg hge2] at hM
        obtain ⟨e1, e2⟩ := hm'.out
        have e3 : dm = m := by rw [e1, ← hM]; have := hm2.out; dsimp only; omega
        have e4 : dd = s + 1 := by rw [e2, ← hM]
        have hle2 : ¬ V2 ≤ day := by omega
        have hds : day - V3 = s := by omega
        have hVb : 0 ≤ V3 ∧ V3 ≤ 40000 := by omega
        subst e3; subst e4
        clear hM hs0 hm hm' hm2 e1 e2 hV2 hV3 hd3
        generalize mlen dy dm = q2 at *
        rcases (by omega : dm < 12 ∨ dm ≥ 12) with hm12 | hm12
        all_goals first
          | (have hm11 : ¬ dm < 12 := by omega
             refine bgo ?_)
          | (refine bgo ?_
             refine b_call hcm rfl rfl rfl rfl ?_
             refine bgo ?_)
        all_goals
          refine wk_mk [(0, .int day), (2, .ptr (.t 2) 0), (3, .ptr (.t 3) 0)] [(.t 2, [.int 0, .int 0, .int 0]), (.t 3, [.int dy, .int dm, .int 1])] hs ?_
          clear hcm hle2
          refine bgo ?_
          refine b_call hce rfl rfl rfl rfl ?_
          refine bgo ?_
          trivial
theorem size_b (x : Int) (h : -1000000000000 ≤ x ∧ x ≤ 1000000000000) : BRet Tryz.prog 145 [] [.int x] (.int (absI x)) [] := by
  refine bof Tryz.func145 ?_
  have hm : max x (0 - x) = absI x := by unfold absI; split <;> omega
  refine bgo ?_
  first
    | trivial
    | exact congrArg PV.int hm
theorem padT_long {m : Nat} {t : Tx} (h : m ≤ t.length) : padT m t = t := by unfold padT; rw [show m - t.length = 0 by omega]; rfl
theorem padT_two {n : Int} (h0 : 0 ≤ n) (h1 : n < 100) : padT 2 (num n) = two n := by
  unfold two
  split
  · rename_i h
    unfold padT; rw [num_len1 h0 h]; rfl
  · exact padT_long (by rw [num_len2 (by omega) h1]; exact Nat.le_refl _)
theorem two_len {n : Int} (h0 : 0 ≤ n) (h1 : n < 100) : (two n).length = 2 := by
  unfold two
  split
  · rename_i h
    rw [List.length_cons, num_len1 h0 h]
  · exact num_len2 (by omega) h1
theorem paddedTwo_b (n : Int) (h0 : 0 ≤ n) (h1 : n < 100) : BRet Tryz.prog 140 [] [.int n, .int 2] (.str (two n)) [] := by
  have hl : (num n).length ≤ 100 := by
    rcases (by omega : n < 10 ∨ n ≥ 10) with h | h
    · rw [num_len1 h0 h]; omega
    · rw [num_len2 h h1]; omega
  have := padded_b n h0 (by omega) 2 (by omega) hl
  rwa [padT_two h0 h1] at this
theorem dateText_b (day : Int) (h0 : 0 ≤ day) (h1 : day ≤ 36524) : BRet Tryz.prog 96 [] [.int day] (.str (dateT day)) [] := by
  obtain ⟨a1, a2, a3, a4, a5, a6⟩ := dateF_in h0 h1
  have hd := dateOf_b day h0 h1
  unfold dateT
  generalize dateF day = D at *
  obtain ⟨y, m, d⟩ := D
  dsimp only at a1 a2 a3 a4 a5 a6 hd ⊢
  have hyl : (num y).length = 4 := num_len4 (by omega) (by omega)
  have hy := padded_b y (by omega) (by omega) 4 (by omega) (by omega)
  rw [padT_long (by omega)] at hy
  have hm := paddedTwo_b m (by omega) (by omega)
  have hdd := paddedTwo_b d (by omega) (by omega)
  have hml := two_len (n := m) (by omega) (by omega)
  have hdl := two_len (n := d) (by omega) (by omega)
  generalize num y = ty at *
  generalize two m = tm at *
  generalize two d = td at *
  refine bof Tryz.func96 ?_
  refine bgo ?_
  refine b_call hd rfl rfl rfl rfl ?_
  refine bgo ?_
  refine b_call hy rfl rfl rfl rfl ?_
  refine bgo ?_
  refine b_call hm rfl rfl rfl rfl ?_
  refine bgo ?_
  refine b_call hdd rfl rfl rfl rfl ?_
  refine bgo ?_
  trivial
theorem l3Two_b (n : Int) (h0 : 0 ≤ n) (h1 : n < 100) : BRet Tryz.prog 150 [] [.int n] (.str (two n)) [] := by
  have hn := l1Num_b n h0 (by omega)
  have hl : (num n).length ≤ 100 := by
    rcases (by omega : n < 10 ∨ n ≥ 10) with h | h
    · rw [num_len1 h0 h]; omega
    · rw [num_len2 h h1]; omega
  unfold two
  generalize num n = t at *
  have hbd : 1 + t.length ≤ 140737488355328 := by omega
  refine bof Tryz.func150 ?_
  by_cases h : n < 10
  · rw [if_pos h]
    refine bgo ?_
    refine b_call hn rfl rfl rfl rfl ?_
    refine bgo ?_
    trivial
  · rw [if_neg h]
    refine bgo ?_
    refine b_call hn rfl rfl rfl rfl ?_
    refine bgo ?_
    trivial
theorem l3Text_b (day : Int) (h0 : 0 ≤ day) (h1 : day ≤ 36524) : BRet Tryz.prog 111 [] [.int day] (.str (dateT day)) [] := by
  obtain ⟨a1, a2, a3, a4, a5, a6⟩ := dateF_in h0 h1
  have hd := l3Date_b day h0 h1
  unfold dateT
  generalize dateF day = D at *
  obtain ⟨y, m, d⟩ := D
  dsimp only at a1 a2 a3 a4 a5 a6 hd ⊢
  have hyl : (num y).length = 4 := num_len4 (by omega) (by omega)
  have hy := l1Num_b y (by omega) (by omega)
  have hm := l3Two_b m (by omega) (by omega)
  have hdd := l3Two_b d (by omega) (by omega)
  have hml := two_len (n := m) (by omega) (by omega)
  have hdl := two_len (n := d) (by omega) (by omega)
  generalize num y = ty at *
  generalize two m = tm at *
  generalize two d = td at *
  refine bof Tryz.func111 ?_
  refine bgo ?_
  refine b_call hd rfl rfl rfl rfl ?_
  refine bgo ?_
  refine b_call hy rfl rfl rfl rfl ?_
  refine bgo ?_
  refine b_call hm rfl rfl rfl rfl ?_
  refine bgo ?_
  refine b_call hdd rfl rfl rfl rfl ?_
  refine bgo ?_
  trivial
end Go.Bee.C24c


namespace Go.Bee.C24d
open Go Go.Bee Go.Proofs Go.Bee.Ty
theorem bCtr : ∀ l : List PD, evBuild Tryz.prog 107 [(0, .d (.sl 1 l))] = some (.agg [.d (.sl 1 l), .nilS]) := fun l => by kernel_rfl
theorem tys : type_of% (And.intro Go.Bee.C24c.tys bCtr) := And.intro Go.Bee.C24c.tys bCtr
end Go.Bee.C24d
namespace Go.Bee.C24d
open Go Go.Bee Go.Proofs Go.Bee.Ty Go.Bee.C23 Go.Bee.C23s Go.Bee.Da Go.Bee.C24 Go.Bee.C24c
set_option linter.unusedVariables false
set_option maxRecDepth 20000
attribute [local irreducible] Go.Bee.bwp
def amtN (x : Int) : Tx := num (x / 100) ++ [46] ++ two (x % 100)
theorem num_le {n : Int} (h0 : 0 ≤ n) (h1 : n ≤ 9223372036854775807) : (num n).length ≤ 21 := digs_len n.toNat (by omega)
theorem amtN_len {x : Int} (h0 : 0 ≤ x) (h1 : x ≤ 1000000000) : (amtN x).length ≤ 30 := by
  have h2 := num_le (n := x / 100) (by omega) (by omega)
  have h3 := two_len (n := x % 100) (by omega) (by omega)
  simp only [amtN, List.length_append, List.length_cons, List.length_nil]; omega
theorem dateT_len {d : Int} (h0 : 0 ≤ d) (h1 : d ≤ 36524) : (dateT d).length = 10 := by
  obtain ⟨a1, a2, a3, a4, a5, a6⟩ := dateF_in h0 h1
  have h2 := num_len4 (n := (dateF d).y) (by omega) (by omega)
  have h3 := two_len (n := (dateF d).m) (by omega) (by omega)
  have h4 := two_len (n := (dateF d).d) (by omega) (by omega)
  simp only [dateT, List.length_append, List.length_cons, List.length_nil]; omega
theorem amountText_b (x : Int) (h0 : 0 ≤ x) (h1 : x ≤ 1000000000) : BRet Tryz.prog 101 [] [.int x] (.str (amtN x)) [] := by
  have hsz := size_b x (by omega)
  have ha : absI x = x := by unfold absI; rw [if_neg (by omega)]
  rw [ha] at hsz
  have hi := itoaN_b (x / 100) (by omega) (by omega)
  have hp := paddedTwo_b (x % 100) (by omega) (by omega)
  have h2 := num_le (n := x / 100) (by omega) (by omega)
  have h3 := two_len (n := x % 100) (by omega) (by omega)
  have hq : x.tdiv 100 = x / 100 := Int.tdiv_eq_ediv_of_nonneg h0
  have hr : x.tmod 100 = x % 100 := Int.tmod_eq_emod_of_nonneg h0
  have hz : ¬ ((100 : Int) = 0) := by decide
  have hn : ¬ x < 0 := by omega
  unfold amtN
  generalize num (x / 100) = t at *
  generalize two (x % 100) = u at *
  have hb0 : t.length ≤ 140737488355328 := by omega
  have hb1 : t.length + 1 ≤ 140737488355328 := by omega
  have hb2 : t.length + 1 + 2 ≤ 140737488355328 := by omega
  have hqb : 0 ≤ x / 100 ∧ x / 100 ≤ 10000000 := by omega
  have hrb : 0 ≤ x % 100 ∧ x % 100 < 100 := by omega
  generalize x / 100 = q at *
  generalize x % 100 = r at *
  refine bof Tryz.func101 ?_
  refine bgo ?_
  refine b_call hsz rfl rfl rfl rfl ?_
  refine bgo ?_
  refine b_call hi rfl rfl rfl rfl ?_
  refine bgo ?_
  refine b_call hsz rfl rfl rfl rfl ?_
  refine bgo ?_
  refine b_call hp rfl rfl rfl rfl ?_
  refine bgo ?_
  trivial
theorem l2Format_b (x : Int) (h0 : 0 ≤ x) (h1 : x ≤ 1000000000) : BRet Tryz.prog 112 [] [.int x] (.str (amtN x)) [] := by
  have hi := l1Num_b (x / 100) (by omega) (by omega)
  have hp := l1Num_b (x % 100) (by omega) (by omega)
  have h2 := num_le (n := x / 100) (by omega) (by omega)
  have h3 := num_le (n := x % 100) (by omega) (by omega)
  have hq : x.tdiv 100 = x / 100 := Int.tdiv_eq_ediv_of_nonneg h0
  have hr : x.tmod 100 = x % 100 := Int.tmod_eq_emod_of_nonneg h0
  have hz : ¬ ((100 : Int) = 0) := by decide
  have hn : ¬ x < 0 := by omega
  unfold amtN two
  have hqb : 0 ≤ x / 100 ∧ x / 100 ≤ 10000000 := by omega
  have hrb : 0 ≤ x % 100 ∧ x % 100 < 100 := by omega
  generalize num (x / 100) = t at *
  generalize num (x % 100) = u at *
  have hb0 : t.length ≤ 140737488355328 := by omega
  have hb1 : t.length + 1 ≤ 140737488355328 := by omega
  have hb3 : t.length + 1 + 1 ≤ 140737488355328 := by omega
  have hb2 : t.length + 1 + u.length ≤ 140737488355328 := by omega
  have hb4 : t.length + 1 + 1 + u.length ≤ 140737488355328 := by omega
  generalize x / 100 = q at *
  generalize x % 100 = r at *
  refine bof Tryz.func112 ?_
  by_cases h : r < 10
  · rw [if_pos h]
    rw [show t ++ [46] ++ 48 :: u = t ++ [46] ++ [48] ++ u by simp]
    refine bgo ?_
    refine b_call hi rfl rfl rfl rfl ?_
    refine bgo ?_
    refine b_call hp rfl rfl rfl rfl ?_
    refine bgo ?_
    trivial
  · rw [if_neg h]
    refine bgo ?_
    refine b_call hi rfl rfl rfl rfl ?_
    refine bgo ?_
    refine b_call hp rfl rfl rfl rfl ?_
    refine bgo ?_
    trivial
theorem isDay_b (d : Int) : BRet Tryz.prog 102 [] [.int d] (.bool (inB d 0 36524)) [] := by
  refine bof Tryz.func102 ?_
  refine bgo ?_
  refine b_call (within_b _ _ _) rfl rfl rfl rfl ?_
  refine bgo ?_
  trivial
theorem l3Good_b (d : Int) : BRet Tryz.prog 109 [] [.int d] (.bool (inB d 0 36524)) [] := by
  refine bof Tryz.func109 ?_
  refine bgo ?_
  refine b_call (l1In_b _ _ _) rfl rfl rfl rfl ?_
  refine bgo ?_
  trivial
def txs (l : List Tx) : List PD := l.map .str
def parAt (l : List Tx) (k : Nat) : Bool := vName (l.getD k []) && !(l.take k).contains (l.getD k [])
def parOk (l : List Tx) : Bool := (List.range l.length).all (parAt l) && inB l.length 2 4
theorem parOk_bad {l : List Tx} {k : Nat} (hk : k < l.length) (h : parAt l k = false) : parOk l = false := by
  have : (List.range l.length).all (parAt l) = false := by
    cases hx : (List.range l.length).all (parAt l)
    · rfl
    · rw [List.all_eq_true.1 hx k (List.mem_range.2 hk)] at h; cases h
  unfold parOk; rw [this]; rfl
theorem par_step {l : List Tx} {k : Nat} (h : (List.range k).all (parAt l) = true) (hk : parAt l k = true) : (List.range (k + 1)).all (parAt l) = true := by
  rw [List.range_succ, List.all_append, h]; simp [hk]
theorem parOk_name {l : List Tx} (h : parOk l = true) {k : Nat} (hk : k < l.length) : vName (l.getD k []) = true := by
  unfold parOk at h
  simp only [Bool.and_eq_true] at h
  have := List.all_eq_true.1 h.1 k (List.mem_range.2 hk)
  unfold parAt at this
  simp only [Bool.and_eq_true] at this
  exact this.1
theorem vName_len {s : Tx} (h : vName s = true) : 1 ≤ s.length ∧ s.length ≤ 8 := by
  unfold vName inB at h
  simp only [Bool.and_eq_true, decide_eq_true_eq] at h
  omega
theorem areParties_b (l : List Tx) : BRet Tryz.prog 38 [] [.d (.sl 1 (l.map .str))] (.bool (parOk l)) [] := by
  refine BRet.len 0 (by kernel_rfl) rfl fun hl => ?_
  simp only [List.length_map] at hl
  refine bof Tryz.func38 ?_
  generalize hr : parOk l = r
  refine bgo ?_
  refine b_lp (ι := Nat × Unit) (fun i => [(0, .d (.sl 1 (l.map .str))), (5, .d (.sl 1 (l.map .str))), (6, .int l.length), (7, .int i.1)]) (fun _ => []) (fun i => i.1 ≤ l.length ∧ (List.range i.1).all (parAt l) = true) (fun i => l.length - i.1) (0, ()) hs ⟨Nat.zero_le _, rfl⟩ ?_
  rintro ⟨k, u⟩ ⟨hk, hj⟩ I nx
  dsimp only at hk hj ⊢
  by_cases hlt : k < l.length
  · have hx : l[k]? = some l[k] := List.getElem?_eq_getElem hlt
    have hd : l.getD k [] = l[k] := by simp [hlt]
    have hb : (k : Int) + 1 ≤ 1099511627776000 := by omega
    have hp : parAt l k = (vName l[k] && !(l.take k).contains l[k]) := by unfold parAt; rw [hd]
    have hkl : (k : Int) ≤ l.length := by omega
    have hnx := fun h => par_step (l := l) (k := k) hj h
    have hbd := fun h => parOk_bad (l := l) (k := k) hlt h
    have hnm := IsValidName_b l[k]
    have hco := containsStr_b (l.take k) l[k]
    rw [List.map_take] at hco
    clear hj hd
    rw [hr] at hbd
    clear hr
    rw [hp] at hnx hbd
    clear hp
    generalize l[k] = x at *
    refine bgo ?_
    refine b_call hnm rfl rfl rfl rfl ?_
    cases hv : vName x
    · rw [hv] at hbd
      have := hbd rfl
      subst this
      refine bgo ?_
      trivial
    · rw [hv] at hbd hnx
      refine bgo ?_
      refine b_call hco rfl rfl rfl rfl ?_
      cases hc : (l.take k).contains x
      · rw [hc] at hnx
        refine bgo ?_
        exact nx.go (k + 1, ()) ⟨hlt, hnx rfl⟩ (by dsimp only; omega) hs
      · rw [hc] at hbd
        have := hbd rfl
        subst this
        refine bgo ?_
        trivial
  · obtain rfl : k = l.length := by omega
    have he : r = inB l.length 2 4 := by rw [← hr]; unfold parOk; rw [hj]; rfl
    clear hr hj
    subst he
    refine bgo ?_
    refine wk_rfl ?_
    refine bgo ?_
    refine b_call (within_b _ _ _) rfl rfl rfl rfl ?_
    refine bgo ?_
    trivial
theorem l6Parties_b (l : List Tx) : BRet Tryz.prog 86 [] [.agg [.d (.sl 1 (l.map .str)), .nilS]] (.bool (parOk l)) [] := by
  refine BRet.alen 0 0 (by kernel_rfl) rfl rfl fun hl => ?_
  simp only [List.length_map] at hl
  refine bof Tryz.func86 ?_
  generalize hr : parOk l = r
  refine bgo ?_
  refine b_lp (ι := Nat × Unit) (fun i => [(1, .ptr (.t 1) 0), (3, .int i.1)]) (fun _ => [(.t 1, [.d (.sl 1 (l.map .str)), .nilS])]) (fun i => i.1 ≤ l.length ∧ (List.range i.1).all (parAt l) = true) (fun i => l.length - i.1) (0, ()) hs ⟨Nat.zero_le _, rfl⟩ ?_
  rintro ⟨k, u⟩ ⟨hk, hj⟩ I nx
  dsimp only at hk hj ⊢
  by_cases hlt : k < l.length
  · have hx : l[k]? = some l[k] := List.getElem?_eq_getElem hlt
    have hd : l.getD k [] = l[k] := by simp [hlt]
    have hb : (k : Int) + 1 ≤ 1099511627776000 := by omega
    have hp : parAt l k = (vName l[k] && !(l.take k).contains l[k]) := by unfold parAt; rw [hd]
    have hkl : (k : Int) ≤ l.length := by omega
    have hnx := fun h => par_step (l := l) (k := k) hj h
    have hbd := fun h => parOk_bad (l := l) (k := k) hlt h
    have hnm := l5Name_b l[k]
    have hco := l5Has_b (l.take k) l[k]
    rw [List.map_take] at hco
    clear hj hd
    rw [hr] at hbd
    clear hr
    rw [hp] at hnx hbd
    clear hp
    generalize l[k] = x at *
    refine bgo ?_
    refine b_call hnm rfl rfl rfl rfl ?_
    cases hv : vName x
    · rw [hv] at hbd
      have := hbd rfl
      subst this
      refine bgo ?_
      trivial
    · rw [hv] at hbd hnx
      refine bgo ?_
      refine b_call hco rfl rfl rfl rfl ?_
      cases hc : (l.take k).contains x
      · rw [hc] at hnx
        refine bgo ?_
        exact nx.go (k + 1, ()) ⟨hlt, hnx rfl⟩ (by dsimp only; omega) hs
      · rw [hc] at hbd
        have := hbd rfl
        subst this
        refine bgo ?_
        trivial
  · obtain rfl : k = l.length := by omega
    have he : r = inB l.length 2 4 := by rw [← hr]; unfold parOk; rw [hj]; rfl
    clear hr hj
    subst he
    refine bgo ?_
    refine wk_rfl ?_
    refine bgo ?_
    refine b_call (l1In_b _ _ _) rfl rfl rfl rfl ?_
    refine bgo ?_
    trivial
theorem l7Parties_b (l : List Tx) : BRet Tryz.prog 36 [] [.d (.sl 1 (l.map .str))] (.bool (parOk l)) [] := by
  refine bof Tryz.func36 ?_
  refine bgo ?_
  refine b_call (l6Parties_b l) rfl rfl rfl rfl ?_
  refine bgo ?_
  trivial
def evOk (d p : Int) (a : Tx) (am n : Int) : Bool := inB d 0 36524 && inB p 0 (n - 1) && vName a && inB am 0 1000000
theorem isEvent_b (d p : Int) (a : Tx) (am : Int) (n : Int) (h0 : 0 ≤ n) (h1 : n ≤ 1099511627776000) : BRet Tryz.prog 46 [] [.agg [.int d, .int p, .str a, .int am], .int n] (.bool (evOk d p a am n)) [] := by
  refine bof Tryz.func46 ?_
  unfold evOk
  refine bgo ?_
  refine b_call (isDay_b d) rfl rfl rfl rfl ?_
  cases inB d 0 36524
  · refine bgo ?_
    trivial
  refine bgo ?_
  refine b_call (within_b p 0 (n - 1)) rfl rfl rfl rfl ?_
  cases inB p 0 (n - 1)
  · refine bgo ?_
    trivial
  refine bgo ?_
  refine b_call (IsValidName_b a) rfl rfl rfl rfl ?_
  cases vName a
  · refine bgo ?_
    trivial
  refine bgo ?_
  refine b_call (within_b am 0 1000000) rfl rfl rfl rfl ?_
  refine bgo ?_
  trivial
theorem l8Event_b (d p : Int) (a : Tx) (am : Int) (n : Int) (h0 : 0 ≤ n) (h1 : n ≤ 1099511627776000) : BRet Tryz.prog 55 [] [.agg [.int d, .int p, .str a, .int am], .int n] (.bool (evOk d p a am n)) [] := by
  refine bof Tryz.func55 ?_
  unfold evOk
  refine bgo ?_
  refine b_call (l3Good_b d) rfl rfl rfl rfl ?_
  cases inB d 0 36524
  · refine bgo ?_
    trivial
  refine bgo ?_
  refine b_call (l1In_b p 0 (n - 1)) rfl rfl rfl rfl ?_
  cases inB p 0 (n - 1)
  · refine bgo ?_
    trivial
  refine bgo ?_
  refine b_call (l5Name_b a) rfl rfl rfl rfl ?_
  cases vName a
  · refine bgo ?_
    trivial
  refine bgo ?_
  refine b_call (l1In_b am 0 1000000) rfl rfl rfl rfl ?_
  refine bgo ?_
  trivial
def evB (d : Int) (p a : Tx) : Tx := [79, 110, 32] ++ dateT d ++ [44, 32] ++ p ++ [32, 100, 105, 100, 32] ++ a
def evT (d : Int) (p a : Tx) (am : Int) : Tx := (if am > 0 then evB d p a ++ ([32, 97, 110, 100, 32, 112, 97, 105, 100, 32] ++ amtN am) else evB d p a) ++ [46]
theorem ifK {c : Prop} [Decidable c] {x : PV} {K : PV → Prop} (h : c) (k : optK (some x) K) : optK (if c then some x else none) K := by rw [if_pos h]; exact k
end Go.Bee.C24d


namespace Go.Bee.Da
open Go
set_option linter.unusedVariables false
theorem decFrom_app : ∀ (l m : Tx) (acc : Nat), Lib.decFrom acc (l ++ m) = (Lib.decFrom acc l).bind fun a => Lib.decFrom a m
  | [], m, acc => rfl
  | b :: l, m, acc => by
    simp only [List.cons_append, Lib.decFrom]
    cases Lib.digitVal b with
    | none => rfl
    | some d => exact decFrom_app l m _
theorem digitVal_of {i : Nat} (h : i < 10) : Lib.digitVal (UInt8.ofNat (48 + i)) = some i := by
  have : ∀ j : Fin 10, Lib.digitVal (UInt8.ofNat (48 + j.val)) = some j.val := by decide
  exact this ⟨i, h⟩
theorem decFrom_one {i : Nat} (h : i < 10) (acc : Nat) : Lib.decFrom acc [UInt8.ofNat (48 + i)] = some (acc * 10 + i) := by
  simp only [Lib.decFrom, digitVal_of h]
theorem decFrom_dec (u : Nat) : ∀ acc, Lib.decFrom acc (Lib.decDigits u) = some (acc * 10 ^ Lib.nDigits u + u) := by
  induction u using Nat.strongRecOn with
  | _ u ih =>
    intro acc
    by_cases h : u < 10
    · rw [Lib.decDigits, dif_pos h, Lib.nDigits_small h, decFrom_one h, Nat.pow_one]
    · rw [Lib.decDigits, dif_neg h, Lib.nDigits_big h, decFrom_app, ih (u / 10) (by omega), Option.bind_some, decFrom_one (by omega), Nat.pow_succ]
      congr 1
      rw [Nat.add_mul, Nat.mul_assoc]
      omega
theorem dig_all {l : Tx} {acc n : Nat} (h : Lib.decFrom acc l = some n) : ∀ b ∈ l, 48 ≤ b.toNat ∧ b.toNat ≤ 57 := fun b hb => by
  obtain ⟨k, hk, rfl⟩ := List.mem_iff_getElem.1 hb
  obtain ⟨d, hd⟩ := Lib.digit_of_decFrom l acc n h k _ (List.getElem?_eq_getElem hk)
  exact ⟨(Lib.digitVal_eq hd).1, (Lib.digitVal_eq hd).2.1⟩
theorem atoi_dec {l : Tx} {n : Nat} (h : Lib.decFrom 0 l = some n) (hl : l ≠ []) : Lib.atoi l = some (n : Int) := by
  cases l with
  | nil => exact absurd rfl hl
  | cons b r =>
    have hb := dig_all h b (List.mem_cons_self ..)
    have h1 : (b == 45) = false := by rw [beq_eq_false_iff_ne]; rintro rfl; exact absurd hb (by decide)
    have h2 : (b == 43) = false := by rw [beq_eq_false_iff_ne]; rintro rfl; exact absurd hb (by decide)
    have h3 : Lib.decNat (b :: r) = some n := by unfold Lib.decNat; exact h
    show (if (b == 45) = true then (Lib.decNat r).map fun (m : Nat) => -(m : Int) else if (b == 43) = true then (Lib.decNat r).map fun (m : Nat) => (m : Int) else (Lib.decNat (b :: r)).map fun (m : Nat) => (m : Int)) = some (n : Int)
    rw [h1, h2, h3]
    rfl
theorem decFrom_num (n : Int) (acc : Nat) : Lib.decFrom acc (num n) = some (acc * 10 ^ Lib.nDigits n.toNat + n.toNat) := decFrom_dec _ _
theorem num_ne (n : Int) : num n ≠ [] := fun h => by
  have h1 : (num n).length = 0 := by rw [h]; rfl
  unfold num at h1
  rw [Lib.decDigits_length] at h1
  have := Lib.nDigits_pos n.toNat
  omega
theorem decFrom_two {n : Int} (h0 : 0 ≤ n) (h1 : n < 100) (acc : Nat) : Lib.decFrom acc (two n) = some (acc * 100 + n.toNat) := by
  unfold two
  split
  · rename_i h
    have e : Lib.decFrom acc (48 :: num n) = Lib.decFrom (acc * 10 + 0) (num n) := by
      have : Lib.digitVal 48 = some 0 := by decide
      simp only [Lib.decFrom, this]
    rw [e, decFrom_num, Lib.nDigits_small (by omega)]
    congr 1; omega
  · rename_i h
    rw [decFrom_num, Lib.nDigits_big (by omega), Lib.nDigits_small (by omega)]
theorem two_ne (n : Int) : two n ≠ [] := by
  unfold two
  split
  · simp
  · exact num_ne n
theorem atoi_num {n : Int} (h0 : 0 ≤ n) : Lib.atoi (num n) = some n := by
  rw [atoi_dec (decFrom_num n 0) (num_ne n)]
  congr 1; omega
theorem atoi_two {n : Int} (h0 : 0 ≤ n) (h1 : n < 100) : Lib.atoi (two n) = some n := by
  rw [atoi_dec (decFrom_two h0 h1 0) (two_ne n)]
  congr 1; omega
theorem two_len2 {n : Int} (h0 : 0 ≤ n) (h1 : n < 100) : (two n).length = 2 := by
  unfold two
  split
  · rw [List.length_cons, num_len1 h0 (by omega)]
  · exact num_len2 (by omega) h1
theorem mF_eq (y : Int) (t : Int) (ht : t < ylen y) : ∀ (n m : Nat) (r : Int), t = mcum y m + r → 0 ≤ r → m + n = 12 → t = mcum y ((mF y n (m + 1) r).1 - 1) + (mF y n (m + 1) r).2 ∧ (mF y n (m + 1) r).2 < mlen y (mF y n (m + 1) r).1
  | 0, m, r, h, h0, hm => by
    obtain rfl : m = 12 := by omega
    rw [mcum_ylen] at h
    omega
  | n + 1, m, r, h, h0, hm => by
    unfold mF
    split
    · rename_i hr
      exact mF_eq y t ht n (m + 1) _ (by simp only [mcum]; rw [show (((m + 1 : Nat)) : Int) = (m : Int) + 1 by omega]; omega) (by omega) (by omega)
    · rename_i hr
      exact ⟨by simpa using h, by dsimp only; omega⟩
def dayN (y m d : Int) : Int := ycum (y - 2000) + mcum y (m - 1).toNat + d - 1
def okDt (y m d : Int) : Bool := decide (2000 ≤ y ∧ y ≤ 2099 ∧ 1 ≤ m ∧ m ≤ 12 ∧ 1 ≤ d ∧ d ≤ mlen y m)
theorem dateF_day {day : Int} (h0 : 0 ≤ day) (h1 : day ≤ 36524) : dayN (dateF day).y (dateF day).m (dateF day).d = day ∧ okDt (dateF day).y (dateF day).m (dateF day).d = true := by
  obtain ⟨a, b, c, d⟩ := yF_in day h1 100 0 day (by rw [ycum_eq 0]; omega) h0 rfl
  obtain ⟨e, f⟩ := mF_eq (2000 + (yrF day).1) (yrF day).2 d 12 0 (yrF day).2 (by rw [mcum]; omega) c rfl
  have g := dateF_in h0 h1
  change (yrF day).1 ≤ 99 at a
  change day = ycum (yrF day).1 + (yrF day).2 at b
  change (yrF day).2 = mcum (2000 + (yrF day).1) ((moF day).1 - 1) + (moF day).2 at e
  change (moF day).2 < mlen (2000 + (yrF day).1) (moF day).1 at f
  refine ⟨?_, ?_⟩
  · unfold dayN dateF
    dsimp only
    rw [show (2000 + ((yrF day).1 : Int) - 2000) = (yrF day).1 by omega, show (((moF day).1 : Int) - 1).toNat = (moF day).1 - 1 by omega]
    omega
  · unfold okDt
    rw [decide_eq_true_eq]
    unfold dateF at g ⊢
    dsimp only at g ⊢
    omega
theorem mcum_le (y : Int) : ∀ m : Nat, 0 ≤ mcum y m ∧ (m ≤ 12 → mcum y m ≤ ylen y)
  | 0 => ⟨Int.le_refl _, fun _ => by have := ylen_in y; rw [mcum]; omega⟩
  | m + 1 => by
    have h := mcum_le y m
    have hm := mlen_in y ((m : Int) + 1)
    refine ⟨by simp only [mcum]; omega, fun h12 => ?_⟩
    have key : ∀ n k : Nat, n + k = 12 → mcum y n ≤ mcum y 12 := by
      intro n k
      induction k generalizing n with
      | zero => intro e; rw [show n = 12 by omega]; exact Int.le_refl _
      | succ k ih =>
        intro e
        have h1 := ih (n + 1) (by omega)
        have h2 := mlen_in y ((n : Int) + 1)
        simp only [mcum] at h1
        simp only [mcum] at h1 ⊢
        omega
    rw [← mcum_ylen]
    exact key (m + 1) (12 - (m + 1)) (by omega)
theorem dayN_in {y m d : Int} (h : okDt y m d = true) : 0 ≤ dayN y m d ∧ dayN y m d ≤ 36524 := by
  unfold okDt at h
  rw [decide_eq_true_eq] at h
  obtain ⟨h1, h2, h3, h4, h5, h6⟩ := h
  have e : mcum y ((m - 1).toNat + 1) = mcum y (m - 1).toNat + mlen y m := by
    simp only [mcum]; rw [show (((m - 1).toNat : Nat) : Int) + 1 = m by omega]
  have a := mcum_le y (m - 1).toNat
  have b := (mcum_le y ((m - 1).toNat + 1)).2 (by omega)
  have c := ylen_in y
  obtain ⟨k, rfl⟩ : ∃ k : Nat, y = 2000 + k := ⟨(y - 2000).toNat, by omega⟩
  have f := ycum_eq k
  have g := ycum_succ k
  have f2 := ycum_eq (k + 1)
  rw [show (((k + 1 : Nat)) : Int) = (k : Int) + 1 by omega] at f2
  unfold dayN
  rw [show (2000 + (k : Int) - 2000) = k by omega]
  omega
def dt3 (s : Tx) : Option Int → Option Int → Option Int → Option Int
  | some y, some m, some d => if okDt y m d = true then (if dateT (dayN y m d) = s then some (dayN y m d) else none) else none
  | _, _, _ => none
def iDate (s : Tx) : Option Int := if s.length = 10 then dt3 s (Lib.atoi (s.take 4)) (Lib.atoi ((s.drop 5).take 2)) (Lib.atoi (s.drop 8)) else none
theorem dateT_cut {day : Int} (h0 : 0 ≤ day) (h1 : day ≤ 36524) : (dateT day).length = 10 ∧ (dateT day).take 4 = num (dateF day).y ∧ ((dateT day).drop 5).take 2 = two (dateF day).m ∧ (dateT day).drop 8 = two (dateF day).d ∧ (dateT day)[4]? = some 45 ∧ (dateT day)[7]? = some 45 := by
  obtain ⟨a, b, c, d, e, f⟩ := dateF_in h0 h1
  have l1 : (num (dateF day).y).length = 4 := num_len4 (by omega) (by omega)
  have l2 : (two (dateF day).m).length = 2 := two_len2 (by omega) (by omega)
  have l3 : (two (dateF day).d).length = 2 := two_len2 (by omega) (by omega)
  unfold dateT
  generalize num (dateF day).y = x at *
  generalize two (dateF day).m = y at *
  generalize two (dateF day).d = z at *
  match x, y, z, l1, l2, l3 with
  | [_, _, _, _], [_, _], [_, _], _, _, _ => exact ⟨rfl, rfl, rfl, rfl, rfl, rfl⟩
theorem iDate_date {day : Int} (h0 : 0 ≤ day) (h1 : day ≤ 36524) : iDate (dateT day) = some day := by
  obtain ⟨a, b, c, d, e, f⟩ := dateF_in h0 h1
  obtain ⟨k1, k2, k3, k4, -, -⟩ := dateT_cut h0 h1
  obtain ⟨m1, m2⟩ := dateF_day h0 h1
  unfold iDate
  rw [if_pos k1, k2, k3, k4, atoi_num (by omega), atoi_two (by omega) (by omega), atoi_two (by omega) (by omega), dt3, if_pos m2, m1, if_pos rfl]
def digN (acc : Int) : Tx → Int
  | [] => acc
  | b :: l => if 48 ≤ b.toNat ∧ b.toNat ≤ 57 then digN (10 * acc + (b.toNat - 48)) l else -1
theorem digN_dec : ∀ (l : Tx) (acc n : Nat), Lib.decFrom acc l = some n → digN acc l = n
  | [], acc, n, h => by simp only [Lib.decFrom, Option.some.injEq] at h; rw [h]; rfl
  | b :: l, acc, n, h => by
    have hb := dig_all h b (List.mem_cons_self ..)
    have hd : Lib.digitVal b = some (b.toNat - 48) := by unfold Lib.digitVal; rw [if_pos hb]
    simp only [Lib.decFrom, hd] at h
    have := digN_dec l _ n h
    rw [digN, if_pos hb, ← this]
    congr 1
    omega
def sDate (s : Tx) : Option Int :=
  if s.length = 10 ∧ s[4]? = some 45 ∧ s[7]? = some 45 then
    (if okDt (digN 0 (s.take 4)) (digN 0 ((s.drop 5).take 2)) (digN 0 (s.drop 8)) = true then some (dayN (digN 0 (s.take 4)) (digN 0 ((s.drop 5).take 2)) (digN 0 (s.drop 8))) else none)
  else none
theorem sDate_date {day : Int} (h0 : 0 ≤ day) (h1 : day ≤ 36524) : sDate (dateT day) = some day := by
  obtain ⟨a, b, c, d, e, f⟩ := dateF_in h0 h1
  obtain ⟨k1, k2, k3, k4, k5, k6⟩ := dateT_cut h0 h1
  obtain ⟨m1, m2⟩ := dateF_day h0 h1
  have e1 : digN 0 (num (dateF day).y) = (dateF day).y := by
    have := digN_dec _ 0 _ (decFrom_num (dateF day).y 0); rw [show ((0 : Nat) : Int) = 0 from rfl] at this; rw [this]; omega
  have e2 : digN 0 (two (dateF day).m) = (dateF day).m := by
    have := digN_dec _ 0 _ (decFrom_two (n := (dateF day).m) (by omega) (by omega) 0); rw [show ((0 : Nat) : Int) = 0 from rfl] at this; rw [this]; omega
  have e3 : digN 0 (two (dateF day).d) = (dateF day).d := by
    have := digN_dec _ 0 _ (decFrom_two (n := (dateF day).d) (by omega) (by omega) 0); rw [show ((0 : Nat) : Int) = 0 from rfl] at this; rw [this]; omega
  unfold sDate
  rw [if_pos ⟨k1, k5, k6⟩, k2, k3, k4, e1, e2, e3, if_pos m2, m1]
def rep1 : Tx → Tx
  | [] => []
  | b :: l => if b = 46 then l else b :: rep1 l
theorem rep1_app : ∀ (l m : Tx), (∀ b ∈ l, b ≠ 46) → rep1 (l ++ 46 :: m) = l ++ m
  | [], m, _ => by simp [rep1]
  | b :: l, m, h => by
    rw [List.cons_append, rep1, if_neg (h b (List.mem_cons_self ..)), rep1_app l m fun c hc => h c (List.mem_cons_of_mem _ hc)]; rfl
def iAmt (s : Tx) : Option Int :=
  match Lib.atoiAll (rep1 s) with
  | .ok x => if (-1000000000 ≤ x ∧ x ≤ 1000000000) then (if amtT x = s then some x else none) else none
  | _ => none
theorem amtT_pos {x : Int} (h : 0 ≤ x) : amtT x = num (x / 100) ++ 46 :: two (x % 100) := by
  unfold amtT absI
  rw [if_neg (by omega), if_neg (by omega)]
  simp
theorem decFrom_amt {x : Int} (h0 : 0 ≤ x) (acc : Nat) : Lib.decFrom 0 (num (x / 100) ++ two (x % 100)) = some x.toNat := by
  rw [decFrom_app, decFrom_num, Option.bind_some, decFrom_two (by omega) (by omega)]
  congr 1; omega
theorem num_len_le {n : Int} (h1 : n ≤ 10000000) : (num n).length ≤ 8 := by
  unfold num
  rw [Lib.decDigits_length]
  rcases Nat.lt_or_ge n.toNat 1 with h | h
  · rw [Lib.nDigits_small (by omega)]; omega
  · have h8 := Lib.lt_pow_nDigits n.toNat
    have : Lib.nDigits n.toNat = 1 ∨ Lib.nDigits n.toNat = 2 ∨ Lib.nDigits n.toNat = 3 ∨ Lib.nDigits n.toNat = 4 ∨ Lib.nDigits n.toNat = 5 ∨ Lib.nDigits n.toNat = 6 ∨ Lib.nDigits n.toNat = 7 ∨ Lib.nDigits n.toNat = 8 := by
      have hu := fun k => Lib.nDigits_unique k n.toNat
      by_cases c1 : n.toNat < 10 ^ 1
      · exact .inl (hu 0 (by omega) c1)
      by_cases c2 : n.toNat < 10 ^ 2
      · exact .inr (.inl (hu 1 (by omega) c2))
      by_cases c3 : n.toNat < 10 ^ 3
      · exact .inr (.inr (.inl (hu 2 (by omega) c3)))
      by_cases c4 : n.toNat < 10 ^ 4
      · exact .inr (.inr (.inr (.inl (hu 3 (by omega) c4))))
      by_cases c5 : n.toNat < 10 ^ 5
      · exact .inr (.inr (.inr (.inr (.inl (hu 4 (by omega) c5)))))
      by_cases c6 : n.toNat < 10 ^ 6
      · exact .inr (.inr (.inr (.inr (.inr (.inl (hu 5 (by omega) c6))))))
      by_cases c7 : n.toNat < 10 ^ 7
      · exact .inr (.inr (.inr (.inr (.inr (.inr (.inl (hu 6 (by omega) c7)))))))
      · exact .inr (.inr (.inr (.inr (.inr (.inr (.inr (hu 7 (by omega) (by omega))))))))
    omega
theorem iAmt_amt {x : Int} (h0 : 0 ≤ x) (h1 : x ≤ 1000000000) : iAmt (amtT x) = some x := by
  have hn : ∀ b ∈ num (x / 100), b ≠ 46 := fun b hb e => by
    have := dig_all (decFrom_num (x / 100) 0) b hb
    rw [e] at this
    exact absurd this (by decide)
  have hl : (num (x / 100) ++ two (x % 100)).length ≤ 18 := by
    rw [List.length_append, two_len2 (by omega) (by omega)]
    have := num_len_le (n := x / 100) (by omega)
    omega
  have hne : num (x / 100) ++ two (x % 100) ≠ [] := fun h => num_ne _ (List.append_eq_nil_iff.1 h).1
  have e : Lib.atoiAll (rep1 (amtT x)) = .ok x := by
    rw [amtT_pos h0, rep1_app _ _ hn, Lib.atoiAll_short _ hl, atoi_dec (decFrom_amt h0 0) hne]
    show Lib.NumEnd.ok _ = _
    congr 1; omega
  unfold iAmt
  rw [e]
  dsimp only
  rw [if_pos (by omega), if_pos rfl]
end Go.Bee.Da


namespace Go.Bee.C24r
open Go Go.Bee Go.Proofs Go.Bee.Ty Go.Bee.C23 Go.Bee.C23s Go.Bee.Da Go.Bee.C24 Go.Bee.C24c Go.Bee.C24d
set_option linter.unusedVariables false
set_option maxRecDepth 20000
theorem splitC_app (c : UInt8) : ∀ (w r : Tx), (∀ b ∈ w, b ≠ c) → splitC c (w ++ c :: r) = w :: splitC c r
  | [], r, _ => by rw [List.nil_append, splitC_c, if_pos rfl]
  | a :: w, r, h => by
    rw [List.cons_append, splitC_c, if_neg (h a (List.mem_cons_self ..)), splitC_app c w r fun b hb => h b (List.mem_cons_of_mem _ hb)]
theorem splitC_all (c : UInt8) : ∀ (w : Tx), (∀ b ∈ w, b ≠ c) → splitC c w = [w]
  | [], _ => rfl
  | a :: w, h => by
    rw [splitC_c, if_neg (h a (List.mem_cons_self ..)), splitC_all c w fun b hb => h b (List.mem_cons_of_mem _ hb)]
theorem sg_ne {b : UInt8} (h : sg b = true) : b ≠ 32 ∧ b ≠ 46 ∧ b ≠ 44 := by
  refine ⟨fun e => ?_, fun e => ?_, fun e => ?_⟩ <;> (subst e; exact absurd h (by decide))
theorem dig_sg {b : UInt8} (h : 48 ≤ b.toNat ∧ b.toNat ≤ 57) : sg b = true := by
  unfold sg inB
  simp only [Bool.or_eq_true, Bool.and_eq_true, decide_eq_true_eq]
  omega
theorem vName_sg {s : Tx} (h : vName s = true) : ∀ b ∈ s, sg b = true := by
  unfold vName at h
  simp only [Bool.and_eq_true] at h
  exact List.all_eq_true.1 h.1.2
theorem num_sg (n : Int) : ∀ b ∈ num n, sg b = true := fun b hb => dig_sg (dig_all (decFrom_num n 0) b hb)
theorem two_sg {n : Int} (h0 : 0 ≤ n) (h1 : n < 100) : ∀ b ∈ two n, sg b = true := fun b hb => dig_sg (dig_all (decFrom_two h0 h1 0) b hb)
theorem dateT_ne {d : Int} (h0 : 0 ≤ d) (h1 : d ≤ 36524) : ∀ b ∈ dateT d, b ≠ 32 ∧ b ≠ 44 := fun b hb => by
  obtain ⟨e1, e2, e3, e4, e5, e6⟩ := dateF_in h0 h1
  unfold dateT at hb
  simp only [List.mem_append, List.mem_cons, List.not_mem_nil, or_false] at hb
  have k := fun h => (sg_ne (b := b) h)
  rcases hb with (((h | h) | h) | h) | h
  · exact ⟨(k (num_sg _ b h)).1, (k (num_sg _ b h)).2.2⟩
  · rw [h]; decide
  · exact ⟨(k (two_sg (by omega) (by omega) b h)).1, (k (two_sg (by omega) (by omega) b h)).2.2⟩
  · rw [h]; decide
  · exact ⟨(k (two_sg (by omega) (by omega) b h)).1, (k (two_sg (by omega) (by omega) b h)).2.2⟩
def wsg (b : UInt8) : Bool := sg b || b == 46
theorem wsg_ne {b : UInt8} (h : wsg b = true) : b ≠ 32 := by
  intro e; subst e; exact absurd h (by decide)
theorem amtN_wsg {x : Int} (h0 : 0 ≤ x) : ∀ b ∈ amtN x, wsg b = true := fun b hb => by
  unfold amtN at hb
  simp only [List.mem_append, List.mem_cons, List.not_mem_nil, or_false] at hb
  rcases hb with (h | h) | h
  · unfold wsg; rw [num_sg _ b h]; rfl
  · rw [h]; decide
  · unfold wsg; rw [two_sg (by omega) (by omega) b h]; rfl
theorem amtN_T {x : Int} (h0 : 0 ≤ x) : amtN x = amtT x := by rw [amtT_pos h0]; unfold amtN; simp
def t_does : Tx := [100, 111, 101, 115]
def t_pay : Tx := [112, 97, 121, 105, 110, 103]
def t_sdoes : Tx := [32, 100, 111, 101, 115, 32]
def t_spay : Tx := [32, 112, 97, 121, 105, 110, 103, 32]
theorem sdoes_eq : t_sdoes = 32 :: (t_does ++ [32]) := rfl
theorem spay_eq : t_spay = 32 :: (t_pay ++ [32]) := rfl
def evX (d : Int) (p a : Tx) (am : Int) : Tx := (dateT d ++ [32] ++ p ++ t_sdoes ++ a) ++ (if am > 0 then t_spay ++ amtN am else [])
structure Ev4 where (d : Int) (p : Int) (a : Tx) (am : Int)
def okE (l : List Tx) (e : Ev4) : Bool := evOk e.d e.p e.a e.am l.length
def txE (l : List Tx) (e : Ev4) : Tx := evX e.d (l.getD e.p.toNat []) e.a e.am
def finE (tx : List Tx → Ev4 → Tx) (s : Tx) (l : List Tx) (q : Ev4 × Bool) : Option Ev4 := if (!q.2 && okE l q.1 && decide (tx l q.1 = s)) = true then some q.1 else none
theorem fin_agree {tx : List Tx → Ev4 → Tx} {s : Tx} {l : List Tx} {i m : Ev4 × Bool} (hi : ∀ e, okE l e = true → tx l e = s → i = (e, false)) (hm : ∀ e, okE l e = true → tx l e = s → m = (e, false)) : finE tx s l i = finE tx s l m := by
  by_cases h : ∃ e, okE l e = true ∧ tx l e = s
  · obtain ⟨e, h1, h2⟩ := h
    rw [hi e h1 h2, hm e h1 h2]
  · have key : ∀ q : Ev4 × Bool, finE tx s l q = none := fun q => by
      unfold finE
      rw [if_neg]
      intro hq
      simp only [Bool.and_eq_true, decide_eq_true_eq] at hq
      exact h ⟨q.1, hq.1.2, hq.2⟩
    rw [key, key]
theorem ev_parts {l : List Tx} (hl : parOk l = true) {e : Ev4} (h : okE l e = true) : (0 ≤ e.d ∧ e.d ≤ 36524) ∧ (0 ≤ e.p ∧ e.p.toNat < l.length) ∧ vName e.a = true ∧ (0 ≤ e.am ∧ e.am ≤ 1000000) ∧ vName (l.getD e.p.toNat []) = true := by
  unfold okE evOk inB at h
  simp only [Bool.and_eq_true, decide_eq_true_eq] at h
  obtain ⟨⟨⟨h1, h2⟩, h3⟩, h4⟩ := h
  have h5 : e.p.toNat < l.length := by omega
  exact ⟨h1, ⟨by omega, h5⟩, h3, h4, parOk_name hl h5⟩
theorem idx_at {α : Type} (q : α → Bool) : ∀ (l : List α) (k i : Nat) (hi : i < l.length), (∀ j (hj : j < i), q (l[j]'(by omega)) = false) → q l[i] = true → idx q l k = ((k + i : Nat) : Int)
  | [], k, i, hi, _, _ => by cases hi
  | a :: l, k, 0, hi, _, h => by rw [idx, if_pos (show q a = true from h)]; rfl
  | a :: l, k, i + 1, hi, hj, h => by
    have h0 : q a = false := hj 0 (by omega)
    rw [idx, if_neg (by rw [h0]; simp), idx_at q l (k + 1) i (by simpa using hi) (fun j hj' => hj (j + 1) (by omega)) h]
    congr 1; omega
theorem par_idx {l : List Tx} (hl : parOk l = true) {i : Nat} (hi : i < l.length) (q : Tx → Bool) (hq : ∀ x, q x = decide (x = l.getD i [])) : idx q l 0 = (i : Int) := by
  have hd : l.getD i [] = l[i] := by rw [List.getD_eq_getElem?_getD, List.getElem?_eq_getElem hi]; rfl
  rw [idx_at q l 0 i hi ?_ ?_]
  · simp
  · intro j hj
    rw [hq, decide_eq_false]
    intro e
    unfold parOk at hl
    rw [Bool.and_eq_true] at hl
    have h1 := List.all_eq_true.1 hl.1 i (List.mem_range.2 hi)
    unfold parAt at h1
    rw [Bool.and_eq_true, Bool.not_eq_true'] at h1
    have h2 : (l.take i).contains (l.getD i []) = true := by
      rw [List.contains_iff_mem]
      rw [← e]
      refine List.mem_iff_getElem.2 ⟨j, by simp; omega, ?_⟩
      simp
    rw [h2] at h1
    cases h1.2
  · rw [hq, hd]; simp
def iRd (l : List Tx) (ws : List Tx) : Ev4 × Bool :=
  let i := idx (fun x => ws.tail.headD [] == x) l 0
  let ws2 := ws.tail.tail
  let f2 := (ws.isEmpty || ws.tail.isEmpty) || decide (i < 0)
  let b3 := decide (ws2.head? = some t_does)
  let ws3 := if b3 = true then ws2.tail else ws2
  let f4 := (!b3 || f2) || ws3.isEmpty
  let b5 := decide (ws3.tail.head? = some t_pay)
  let ws5 := ws3.tail.tail
  (⟨(iDate (ws.headD [])).getD 0, max 0 i, ws3.headD [], if b5 = true then (iAmt (ws5.headD [])).getD 0 else 0⟩, if b5 = true then f4 || ws5.isEmpty else f4)
theorem iRd_ok {l : List Tx} (hl : parOk l = true) {e : Ev4} (h : okE l e = true) : iRd l (splitC 32 (txE l e)) = (e, false) := by
  obtain ⟨⟨d0, d1⟩, ⟨p0, p1⟩, ha, ⟨m0, m1⟩, hp⟩ := ev_parts hl h
  have hx : idx (fun x => l.getD e.p.toNat [] == x) l 0 = e.p := by
    rw [par_idx hl p1 _ fun x => by rw [Bool.eq_iff_iff, beq_iff_eq, decide_eq_true_eq]; exact eq_comm]; omega
  have n1 : ∀ b ∈ dateT e.d, b ≠ 32 := fun b hb => (dateT_ne d0 d1 b hb).1
  have n2 : ∀ b ∈ l.getD e.p.toNat [], b ≠ 32 := fun b hb => (sg_ne (vName_sg hp b hb)).1
  have n3 : ∀ b ∈ t_does, b ≠ 32 := by decide
  have n4 : ∀ b ∈ e.a, b ≠ 32 := fun b hb => (sg_ne (vName_sg ha b hb)).1
  have n5 : ∀ b ∈ t_pay, b ≠ 32 := by decide
  have n6 : ∀ b ∈ amtN e.am, b ≠ 32 := fun b hb => wsg_ne (amtN_wsg m0 b hb)
  have hd := iDate_date d0 d1
  have hm : iAmt (amtN e.am) = some e.am := by rw [amtN_T m0]; exact iAmt_amt m0 (by omega)
  have hmx : max 0 e.p = e.p := by omega
  have hpn : ¬ e.p < 0 := by omega
  unfold txE evX
  generalize hP : l.getD e.p.toNat [] = P at *
  by_cases hpos : e.am > 0
  · rw [if_pos hpos, show dateT e.d ++ [32] ++ P ++ t_sdoes ++ e.a ++ (t_spay ++ amtN e.am) = dateT e.d ++ 32 :: (P ++ 32 :: (t_does ++ 32 :: (e.a ++ 32 :: (t_pay ++ 32 :: amtN e.am)))) by rw [sdoes_eq, spay_eq]; simp only [List.append_assoc, List.cons_append, List.nil_append],
      splitC_app 32 _ _ n1, splitC_app 32 _ _ n2, splitC_app 32 _ _ n3, splitC_app 32 _ _ n4, splitC_app 32 _ _ n5, splitC_all 32 _ n6]
    unfold iRd
    simp only [List.headD_cons, List.tail_cons, List.head?_cons, hx, hd, hm, Option.getD_some, hmx, List.isEmpty_cons, decide_true, if_true, Bool.not_true, Bool.false_or, decide_eq_false hpn, Bool.or_false]
  · have h0 : e.am = 0 := by omega
    rw [if_neg hpos, List.append_nil, show dateT e.d ++ [32] ++ P ++ t_sdoes ++ e.a = dateT e.d ++ 32 :: (P ++ 32 :: (t_does ++ 32 :: e.a)) by rw [sdoes_eq]; simp only [List.append_assoc, List.cons_append, List.nil_append],
      splitC_app 32 _ _ n1, splitC_app 32 _ _ n2, splitC_app 32 _ _ n3, splitC_all 32 _ n4]
    unfold iRd
    simp only [List.headD_cons, List.tail_cons, List.head?_cons, List.head?_nil, hx, hd, Option.getD_some, hmx, List.isEmpty_cons, decide_true, if_true, Bool.not_true, Bool.false_or, decide_eq_false hpn, Bool.or_false, reduceCtorEq, decide_false, Bool.false_eq_true, if_false]
    rw [← h0]
def wrd (s : Tx) (k : Nat) : Tx := (s.drop k).takeWhile wsg
def tkS (s w : Tx) (q : Nat × Bool) : Bool := !q.2 && decide (q.1 + w.length ≤ s.length) && decide ((s.drop q.1).take w.length = w)
def tkQ (s w : Tx) (q : Nat × Bool) : Nat × Bool := if tkS s w q = true then (q.1 + w.length, q.2) else q
def wtS (s w : Tx) (q : Nat × Bool) : Nat × Bool := if tkS s w q = true then (q.1 + w.length, q.2) else (q.1, true)
def wdT (s : Tx) (q : Nat × Bool) : Tx := if q.2 = true then [] else wrd s q.1
def wdS (s : Tx) (q : Nat × Bool) : Nat × Bool := (q.1 + (wdT s q).length, q.2 || (wdT s q).isEmpty)
def ptI (l : List Tx) (w : Tx) : Int := idx (fun x => x == w) l 0
def ptR (l : List Tx) (w : Tx) : Int := if ptI l w < 0 then 0 else ptI l w
def ptS (s : Tx) (l : List Tx) (q : Nat × Bool) : Nat × Bool := ((wdS s q).1, (wdS s q).2 || decide (ptI l (wdT s q) < 0))
def amL : Bool → Int → Tx → Option Int
  | _, x, [] => some x
  | f, x, b :: t => if 48 ≤ b.toNat ∧ b.toNat ≤ 57 then amL false (10 * x + (b.toNat - 48)) t else if b = 46 ∨ (b = 45 ∧ f = true) then amL false x t else none
def sgn (s : Tx) (x : Int) : Int := if s[0]? = some 45 then -x else x
def sAm2 (s : Tx) : Option Int → Option Int
  | none => none
  | some x => if (-1000000000 ≤ sgn s x ∧ sgn s x ≤ 1000000000) ∧ amtT (sgn s x) = s then some (sgn s x) else none
def sAmt (s : Tx) : Option Int := if 4 ≤ s.length ∧ s.length ≤ 12 then sAm2 s (amL true 0 s) else none
def amS (s : Tx) (q : Nat × Bool) : Nat × Bool := ((wdS s q).1, (wdS s q).2 || (sAmt (wdT s q)).isNone)
def sRd (s : Tx) (l : List Tx) : Ev4 × Bool :=
  if s.length < 11 then (⟨0, 0, [], 0⟩, true) else
    let q1 := wtS s [32] (10, (sDate (s.take 10)).isNone)
    let q3 := wtS s t_sdoes (ptS s l q1)
    let q4 := wdS s q3
    let b5 := tkS s t_spay q4
    let q5 := tkQ s t_spay q4
    let q6 := if b5 = true then amS s q5 else q5
    (⟨(sDate (s.take 10)).getD 0, ptR l (wdT s q1), wdT s q3, if b5 = true then (sAmt (wdT s q5)).getD 0 else 0⟩, q6.2 || decide (q6.1 ≠ s.length))
theorem drop_x (x y : Tx) : (x ++ y).drop x.length = y := by simp
theorem tk_ok {s x w y : Tx} (hs : s = x ++ (w ++ y)) : tkS s w (x.length, false) = true := by
  subst hs
  unfold tkS
  dsimp only
  rw [drop_x, List.take_append_of_le_length (Nat.le_refl _), List.take_length]
  simp only [List.length_append, Bool.not_false, Bool.true_and, decide_true, Bool.and_true, decide_eq_true_eq]
  omega
theorem wt_ok {s x w y : Tx} (hs : s = x ++ (w ++ y)) : wtS s w (x.length, false) = ((x ++ w).length, false) := by
  unfold wtS
  rw [if_pos (tk_ok hs), List.length_append]
theorem tq_ok {s x w y : Tx} (hs : s = x ++ (w ++ y)) : tkQ s w (x.length, false) = ((x ++ w).length, false) := by
  unfold tkQ
  rw [if_pos (tk_ok hs), List.length_append]
theorem takeWhile_app {α : Type} {p : α → Bool} : ∀ (w y : List α), (∀ b ∈ w, p b = true) → (y = [] ∨ ∃ c t, y = c :: t ∧ p c = false) → (w ++ y).takeWhile p = w
  | [], y, _, h => by
    rcases h with rfl | ⟨c, t, rfl, hc⟩
    · rfl
    · rw [List.nil_append, List.takeWhile_cons, hc]; rfl
  | a :: w, y, hw, h => by
    rw [List.cons_append, List.takeWhile_cons, hw a (List.mem_cons_self ..), if_pos rfl, takeWhile_app w y (fun b hb => hw b (List.mem_cons_of_mem _ hb)) h]
theorem wd_ok {s x w y : Tx} (hs : s = x ++ (w ++ y)) (hw : ∀ b ∈ w, wsg b = true) (hy : y = [] ∨ ∃ c t, y = c :: t ∧ wsg c = false) : wdT s (x.length, false) = w := by
  subst hs
  unfold wdT wrd
  rw [if_neg (by simp), drop_x, takeWhile_app w y hw hy]
theorem ws_ok {s x w y : Tx} (hs : s = x ++ (w ++ y)) (hw : ∀ b ∈ w, wsg b = true) (hy : y = [] ∨ ∃ c t, y = c :: t ∧ wsg c = false) (hne : w ≠ []) : wdS s (x.length, false) = ((x ++ w).length, false) := by
  unfold wdS
  rw [wd_ok hs hw hy, List.length_append]
  cases w with
  | nil => exact absurd rfl hne
  | cons a w => rfl
theorem amL_dec : ∀ (l : Tx) (acc n : Nat) (f : Bool) (m : Tx), Lib.decFrom acc l = some n → l ≠ [] → amL f acc (l ++ m) = amL false n m
  | [], _, _, _, _, _, h => absurd rfl h
  | b :: l, acc, n, f, m, h, _ => by
    have hb := dig_all h b (List.mem_cons_self ..)
    have hd : Lib.digitVal b = some (b.toNat - 48) := by unfold Lib.digitVal; rw [if_pos hb]
    simp only [Lib.decFrom, hd] at h
    rw [List.cons_append, amL, if_pos hb, show 10 * (acc : Int) + ((b.toNat : Int) - 48) = ((acc * 10 + (b.toNat - 48) : Nat) : Int) by omega]
    cases l with
    | nil =>
      simp only [Lib.decFrom, Option.some.injEq] at h
      rw [h]; rfl
    | cons c l => exact amL_dec (c :: l) _ n false m h (by simp)
theorem sAmt_amt {x : Int} (h0 : 0 ≤ x) (h1 : x ≤ 1000000000) : sAmt (amtN x) = some x := by
  have hlen : 4 ≤ (amtN x).length ∧ (amtN x).length ≤ 12 := by
    have e1 := num_len_le (n := x / 100) (by omega)
    have e2 : (num (x / 100)).length ≠ 0 := fun h => num_ne _ (List.length_eq_zero_iff.1 h)
    have e3 := two_len2 (n := x % 100) (by omega) (by omega)
    unfold amtN
    simp only [List.length_append, List.length_cons, List.length_nil]
    omega
  have hL : amL true 0 (amtN x) = some x := by
    have a1 := amL_dec (num (x / 100)) 0 _ true ([46] ++ two (x % 100)) (decFrom_num _ 0) (num_ne _)
    have a2 := amL_dec (two (x % 100)) (0 * 10 ^ Lib.nDigits (x / 100).toNat + (x / 100).toNat) _ false [] (decFrom_two (by omega) (by omega) _) (two_ne _)
    have e : amtN x = num (x / 100) ++ ([46] ++ two (x % 100)) := by unfold amtN; simp
    rw [e, show (0 : Int) = ((0 : Nat) : Int) from rfl, a1]
    have e3 : ∀ y : Int, amL false y ([46] ++ two (x % 100)) = amL false y (two (x % 100)) := fun y => by
      rw [List.singleton_append, amL, if_neg (by decide), if_pos (.inl rfl)]
    rw [e3]
    rw [List.append_nil] at a2
    rw [a2]
    show some _ = some x
    congr 1
    omega
  have hs : sgn (amtN x) x = x := by
    unfold sgn
    rw [if_neg]
    intro h
    have hb := amtN_wsg h0 45 (List.mem_of_getElem? h)
    exact absurd hb (by decide)
  unfold sAmt
  rw [if_pos hlen, hL, sAm2, hs, if_pos ⟨by omega, (amtN_T h0).symm⟩]
theorem sRd_ok {l : List Tx} (hl : parOk l = true) {e : Ev4} (h : okE l e = true) : sRd (txE l e) l = (e, false) := by
  obtain ⟨⟨d0, d1⟩, ⟨p0, p1⟩, ha, ⟨m0, m1⟩, hp⟩ := ev_parts hl h
  have hx : ptI l (l.getD e.p.toNat []) = e.p := by
    unfold ptI
    rw [par_idx hl p1 _ fun x => by rw [Bool.eq_iff_iff, beq_iff_eq, decide_eq_true_eq]]; omega
  have w2 : ∀ b ∈ l.getD e.p.toNat [], wsg b = true := fun b hb => by unfold wsg; rw [vName_sg hp b hb]; rfl
  have w4 : ∀ b ∈ e.a, wsg b = true := fun b hb => by unfold wsg; rw [vName_sg ha b hb]; rfl
  have w6 := amtN_wsg m0
  have v2 := vName_len hp
  have v4 := vName_len ha
  have ne2 : l.getD e.p.toNat [] ≠ [] := fun h => by rw [h] at v2; simp at v2
  have ne4 : e.a ≠ [] := fun h => by rw [h] at v4; simp at v4
  have ne6 : amtN e.am ≠ [] := by unfold amtN; simp
  have dl : (dateT e.d).length = 10 := (dateT_cut d0 d1).1
  have hd := sDate_date d0 d1
  have hm := sAmt_amt m0 (by omega)
  have sp : wsg 32 = false := by decide
  unfold txE evX
  generalize hP : l.getD e.p.toNat [] = P at *
  generalize hQ : (if e.am > 0 then t_spay ++ amtN e.am else []) = Q
  have hQ0 : Q = [] ∨ ∃ c t, Q = c :: t ∧ wsg c = false := by
    rw [← hQ]
    split
    · exact .inr ⟨32, _, rfl, sp⟩
    · exact .inl rfl
  have e0 : ∀ x : Tx, x = dateT e.d ++ [32] ++ P ++ t_sdoes ++ e.a ++ Q → x.take 10 = dateT e.d := fun x hx => by
    rw [hx, ← dl]; simp [List.take_append_of_le_length]
  obtain ⟨s, hs⟩ : ∃ s, s = dateT e.d ++ [32] ++ P ++ t_sdoes ++ e.a ++ Q := ⟨_, rfl⟩
  have k0 := e0 s hs
  rw [← hs]
  have s1 : s = dateT e.d ++ ([32] ++ (P ++ t_sdoes ++ e.a ++ Q)) := by rw [hs]; simp
  have s2 : s = (dateT e.d ++ [32]) ++ (P ++ (t_sdoes ++ e.a ++ Q)) := by rw [hs]; simp
  have s3 : s = (dateT e.d ++ [32] ++ P) ++ (t_sdoes ++ (e.a ++ Q)) := by rw [hs]; simp
  have s4 : s = (dateT e.d ++ [32] ++ P ++ t_sdoes) ++ (e.a ++ Q) := by rw [hs, List.append_assoc]
  have q1 : wtS s [32] (10, false) = ((dateT e.d ++ [32]).length, false) := by rw [← dl]; exact wt_ok s1
  have y2 : (t_sdoes ++ e.a ++ Q) = [] ∨ ∃ c t, (t_sdoes ++ e.a ++ Q) = c :: t ∧ wsg c = false := .inr ⟨32, _, rfl, sp⟩
  have q2 : ptS s l ((dateT e.d ++ [32]).length, false) = ((dateT e.d ++ [32] ++ P).length, false) := by
    unfold ptS
    rw [ws_ok s2 w2 y2 ne2, wd_ok s2 w2 y2, hx]
    rw [decide_eq_false (show ¬ e.p < 0 by omega)]; rfl
  have q3 := wt_ok s3
  have q4 := ws_ok s4 w4 hQ0 ne4
  have t1 := wd_ok s2 w2 y2
  have t3 := wd_ok s4 w4 hQ0
  have hlen : ¬ s.length < 11 := by rw [hs]; simp only [List.length_append, dl, List.length_cons, List.length_nil]; omega
  unfold sRd
  rw [if_neg hlen, k0, hd]
  simp only [Option.isNone_some, Option.getD_some]
  rw [q1, q2, q3, q4, t1, t3]
  have hpt : ptR l P = e.p := by unfold ptR; rw [hx, if_neg (by omega)]
  rw [hpt]
  by_cases hpos : e.am > 0
  · rw [if_pos hpos] at hQ
    have s5 : s = (dateT e.d ++ [32] ++ P ++ t_sdoes ++ e.a) ++ (t_spay ++ (amtN e.am ++ [])) := by rw [hs, ← hQ]; simp
    have s6 : s = (dateT e.d ++ [32] ++ P ++ t_sdoes ++ e.a ++ t_spay) ++ (amtN e.am ++ []) := by rw [hs, ← hQ]; simp
    rw [tk_ok s5, tq_ok s5]
    have q6 := ws_ok s6 w6 (.inl rfl) ne6
    have t6 := wd_ok s6 w6 (.inl rfl)
    have hq : amS s ((dateT e.d ++ [32] ++ P ++ t_sdoes ++ e.a ++ t_spay).length, false) = ((dateT e.d ++ [32] ++ P ++ t_sdoes ++ e.a ++ t_spay ++ amtN e.am).length, false) := by
      unfold amS
      rw [q6, t6, hm]; rfl
    simp only [if_true, hq, t6, hm, Option.getD_some, Bool.false_or]
    have : s.length = (dateT e.d ++ [32] ++ P ++ t_sdoes ++ e.a ++ t_spay ++ amtN e.am).length := by rw [s6]; simp
    rw [← this]; simp
  · rw [if_neg hpos] at hQ
    have h0 : e.am = 0 := by omega
    have hk : tkS s t_spay ((dateT e.d ++ [32] ++ P ++ t_sdoes ++ e.a).length, false) = false := by
      unfold tkS
      have : s.length = (dateT e.d ++ [32] ++ P ++ t_sdoes ++ e.a).length := by rw [hs, ← hQ]; simp
      rw [this]
      have : ¬ ((dateT e.d ++ [32] ++ P ++ t_sdoes ++ e.a).length + t_spay.length ≤ (dateT e.d ++ [32] ++ P ++ t_sdoes ++ e.a).length) := by
        have : t_spay.length = 8 := rfl
        omega
      dsimp only
      rw [decide_eq_false this]; simp
    unfold tkQ
    simp only [hk, Bool.false_eq_true, if_false, Bool.false_or]
    have : s.length = (dateT e.d ++ [32] ++ P ++ t_sdoes ++ e.a).length := by rw [hs, ← hQ]; simp
    rw [← this, ← h0]; simp
end Go.Bee.C24r

