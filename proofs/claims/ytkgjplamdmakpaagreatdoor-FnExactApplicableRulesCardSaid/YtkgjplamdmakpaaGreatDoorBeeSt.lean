/- strings.Count, Index and Split at one byte. -/
import Derived.Test.YtkgjplamdmakpaaGreatDoorBeeY
import Derived.Test.YtkgjplamdmakpaaGreatDoorBeeT
import Derived.Test.YtkgjplamdmakpaaGreatDoorProg
import Derived.Shelf.Strings.Count
import Derived.Shelf.Strings.Search3
namespace Go.Proofs
open Go.Shelf
def YtkgjplamdmakpaaGreatDoorStr.lays138_ren : Go.Shelf.Ren := ⟨fun | 138 => 147 | 195 => 151 | 218 => 153 | 143 => 148 | 219 => 154 | 217 => 158 | 225 => 159 | 224 => 160 | 267 => 161 | 266 => 173 | 314 => 174 | n => n, fun | 9 => 9 | 3 => 3 | 4 => 4 | 5 => 5 | 0 => 0 | 46 => 159 | 146 => 181 | 51 => 175 | n => n, fun | 1 => 0 | n => n⟩
theorem YtkgjplamdmakpaaGreatDoorStr.lays138 : Go.Proofs.Lays.n138 Tryz.prog YtkgjplamdmakpaaGreatDoorStr.lays138_ren := {
  mixed := by kernel_rfl
  f138 := Tryz.func147.trans (congrArg some (by kernel_rfl))
  f143 := Tryz.func148.trans (congrArg some (by kernel_rfl))
  f195 := Tryz.func151.trans (congrArg some (by kernel_rfl))
  f217 := Tryz.func158.trans (congrArg some (by kernel_rfl))
  f218 := Tryz.func153.trans (congrArg some (by kernel_rfl))
  f219 := Tryz.func154.trans (congrArg some (by kernel_rfl))
  f224 := Tryz.func160.trans (congrArg some (by kernel_rfl))
  f225 := Tryz.func159.trans (congrArg some (by kernel_rfl))
  f266 := Tryz.func173.trans (congrArg some (by kernel_rfl))
  f267 := Tryz.func161.trans (congrArg some (by kernel_rfl))
  f314 := Tryz.func174.trans (congrArg some (by kernel_rfl))
  t0 := Tryz.underlying0
  a0 := Tryz.isAgg0
  z0 := Tryz.sizeOf0
  v0 := Tryz.zeroValue0
  t3 := Tryz.underlying3
  a3 := Tryz.isAgg3
  z3 := Tryz.sizeOf3
  v3 := Tryz.zeroValue3
  t4 := Tryz.underlying4
  a4 := Tryz.isAgg4
  z4 := Tryz.sizeOf4
  v4 := Tryz.zeroValue4
  t5 := Tryz.underlying5
  a5 := Tryz.isAgg5
  z5 := Tryz.sizeOf5
  v5 := Tryz.zeroValue5
  t9 := Tryz.underlying9
  a9 := Tryz.isAgg9
  z9 := Tryz.sizeOf9
  v9 := Tryz.zeroValue9
  t46 := Tryz.underlying159
  a46 := Tryz.isAgg159
  z46 := Tryz.sizeOf159
  v46 := Tryz.zeroValue159
  t51 := Tryz.underlying175
  a51 := Tryz.isAgg175
  z51 := Tryz.sizeOf175
  v51 := Tryz.zeroValue175
  t146 := Tryz.underlying181
  a146 := Tryz.isAgg181
  z146 := Tryz.sizeOf181
  v146 := Tryz.zeroValue181
  g1 := by kernel_rfl }
def YtkgjplamdmakpaaGreatDoorStr.lays143_ren : Go.Shelf.Ren := ⟨fun | 143 => 148 | 219 => 154 | 217 => 158 | 225 => 159 | 224 => 160 | 267 => 161 | 266 => 173 | 314 => 174 | n => n, fun | 9 => 9 | 3 => 3 | 4 => 4 | 5 => 5 | 46 => 159 | 146 => 181 | 51 => 175 | n => n, fun | 1 => 0 | n => n⟩
theorem YtkgjplamdmakpaaGreatDoorStr.lays143 : Go.Proofs.Lays.n143 Tryz.prog YtkgjplamdmakpaaGreatDoorStr.lays143_ren := {
  mixed := by kernel_rfl
  f143 := Tryz.func148.trans (congrArg some (by kernel_rfl))
  f217 := Tryz.func158.trans (congrArg some (by kernel_rfl))
  f219 := Tryz.func154.trans (congrArg some (by kernel_rfl))
  f224 := Tryz.func160.trans (congrArg some (by kernel_rfl))
  f225 := Tryz.func159.trans (congrArg some (by kernel_rfl))
  f266 := Tryz.func173.trans (congrArg some (by kernel_rfl))
  f267 := Tryz.func161.trans (congrArg some (by kernel_rfl))
  f314 := Tryz.func174.trans (congrArg some (by kernel_rfl))
  t3 := Tryz.underlying3
  a3 := Tryz.isAgg3
  z3 := Tryz.sizeOf3
  v3 := Tryz.zeroValue3
  t4 := Tryz.underlying4
  a4 := Tryz.isAgg4
  z4 := Tryz.sizeOf4
  v4 := Tryz.zeroValue4
  t5 := Tryz.underlying5
  a5 := Tryz.isAgg5
  z5 := Tryz.sizeOf5
  v5 := Tryz.zeroValue5
  t9 := Tryz.underlying9
  a9 := Tryz.isAgg9
  z9 := Tryz.sizeOf9
  v9 := Tryz.zeroValue9
  t46 := Tryz.underlying159
  a46 := Tryz.isAgg159
  z46 := Tryz.sizeOf159
  v46 := Tryz.zeroValue159
  t51 := Tryz.underlying175
  a51 := Tryz.isAgg175
  z51 := Tryz.sizeOf175
  v51 := Tryz.zeroValue175
  t146 := Tryz.underlying181
  a146 := Tryz.isAgg181
  z146 := Tryz.sizeOf181
  v146 := Tryz.zeroValue181
  g1 := by kernel_rfl }
end Go.Proofs
namespace Go.Bee.C23s
open Go Go.Bee Go.Proofs Go.Bee.Ty Go.Bee.C23
set_option linter.unusedVariables false
set_option maxRecDepth 20000
attribute [local irreducible] Go.Bee.bwp
/-- A function of two texts that leaves memory as it is. -/
theorem BRet.ss {f : Nat} {a b : List UInt8} {n : Int} (hf : isFn Tryz.prog f = true) (h : ∀ w, Calls Tryz.prog f #[.string ⟨a.toArray⟩, .string ⟨b.toArray⟩] w fun e w' => e = .returned (.int .i64 n) ∧ w' = w) : BRet Tryz.prog f [] [.str a, .str b] (.int n) [] := by
  refine BRet.pure hf rfl fun G w vs hvs hargs hp ho hl hz => ?_
  have hv2 : vs.size = 2 := hvs
  have h0 := hargs 0 _ vs[0] rfl (Array.getElem?_eq_getElem (by omega))
  have h1 := hargs 1 _ vs[1] rfl (Array.getElem?_eq_getElem (by omega))
  have hv : vs = #[.string ⟨a.toArray⟩, .string ⟨b.toArray⟩] := by
    apply Array.ext
    · simpa using hvs
    · intro i hi hj
      have : i = 0 ∨ i = 1 := by simp at hj; omega
      rcases this with rfl | rfl
      · obtain ⟨h0, -⟩ := h0; generalize vs[0] = v at h0; cases h0; rfl
      · obtain ⟨h1, -⟩ := h1; generalize vs[1] = v at h1; cases h1; rfl
  rw [hv]
  refine (h w).mono ?_
  rintro e w' ⟨rfl, rfl⟩
  exact ⟨_, G, rfl, ⟨.int _ _, rfl⟩, hp, Ext.refl _ _ _, fun _ => rfl, fun g p hg => by rw [ho g] at hg; cases hg⟩
theorem count1_b (s : List UInt8) (c : UInt8) : BRet Tryz.prog 147 [] [.str s, .str [c]] (.int (Lib.countByte s c)) [] :=
  BRet.ss (by kernel_rfl) fun w => Any.strings_Count_one YtkgjplamdmakpaaGreatDoorStr.lays138 ⟨s.toArray⟩ c w
theorem index1_b (s : List UInt8) (c : UInt8) : BRet Tryz.prog 148 [] [.str s, .str [c]] (.int (Lib.indexByte s c)) [] :=
  BRet.ss (by kernel_rfl) fun w => Any.strings_Index_one YtkgjplamdmakpaaGreatDoorStr.lays143 ⟨s.toArray⟩ c w
/-- A text cut at each c. -/
def splitC (c : UInt8) : List UInt8 → List (List UInt8)
  | [] => [[]]
  | a :: l => if a = c then [] :: splitC c l else match splitC c l with | h :: t => (a :: h) :: t | [] => [[a]]
theorem splitC_ne (c : UInt8) : ∀ s, splitC c s ≠ []
  | [] => by simp [splitC]
  | a :: l => by
    unfold splitC
    split
    · simp
    · split <;> simp
theorem splitC_c (c a : UInt8) (l : List UInt8) : splitC c (a :: l) = if a = c then [] :: splitC c l else match splitC c l with | h :: t => (a :: h) :: t | [] => [[a]] := rfl
theorem splitC_idx (c : UInt8) : ∀ s, (Lib.indexByte s c = -1 ∧ splitC c s = [s]) ∨ ∃ m : Nat, Lib.indexByte s c = m ∧ m < s.length ∧ splitC c s = s.take m :: splitC c (s.drop (m + 1))
  | [] => .inl ⟨rfl, rfl⟩
  | a :: l => by
    rw [splitC_c]
    unfold Lib.indexByte
    by_cases h : a = c
    · subst h
      exact .inr ⟨0, by simp, by simp, by simp⟩
    · rw [if_neg (by simpa using h), if_neg h]
      rcases splitC_idx c l with ⟨h1, h2⟩ | ⟨m, h1, h2, h3⟩
      · exact .inl ⟨by rw [h1]; rfl, by rw [h2]⟩
      · refine .inr ⟨m + 1, ?_, by simp; omega, by rw [h3]; rfl⟩
        have : ((m : Int) == -1) = false := by simp
        rw [h1, this]; rfl
theorem splitC_len (c : UInt8) : ∀ s, (splitC c s).length = Lib.countByte s c + 1
  | [] => rfl
  | a :: l => by
    have ih := splitC_len c l
    have hne := splitC_ne c l
    rw [splitC_c]
    by_cases h : a = c
    · subst h; simp [Lib.countByte] at ih ⊢; omega
    · rw [if_neg h]
      have h2 : Lib.countByte (a :: l) c = Lib.countByte l c := by simp [Lib.countByte, h]
      rw [h2, ← ih]
      generalize splitC c l = q at *
      cases q
      · exact absurd rfl hne
      · rfl
theorem count_le (s : List UInt8) (c : UInt8) : Lib.countByte s c ≤ s.length := List.count_le_length
def str0 : List PV := [.d (.str [])]
theorem genSplit_b (s : List UInt8) (c : UInt8) (hl : s.length ≤ 1048576) : BRet Tryz.prog 140 [] [.str s, .str [c], .int 0, .int (-1)] (.own 9 1 ((splitC c s).map .str)) [] := by
  refine bofW Tryz.func140 ?_
  refine bgo ?_
  refine b_call (count1_b s c) rfl rfl rfl rfl ?_
  have hc := count_le s c
  have hn := splitC_len c s
  have hps : ∃ ps, splitC c s = ps := ⟨_, rfl⟩
  obtain ⟨ps, hps⟩ := hps
  rw [hps] at hn
  generalize Lib.countByte s c = n at *
  have hmin : min ((n : Int) + 1) ((s.length : Int) + 1) = ((n + 1 : Nat) : Int) := by omega
  have hl2 : (n : Int) + 1 ≤ (s.length : Int) + 1 := by omega
  refine bgo ?_
  refine ⟨by omega, by omega, ?_⟩
  have hok := fun n k L => filling_ok (l := ps.map .str) (zero := str0) (fun _ => rfl) n k L
  refine b_lp (ι := Nat × List UInt8) (fun i => [(0, .str i.2), (1, .str [c]), (2, .int 0), (3, .int n), (9, .rsl (.t 31) 9 1 (n + 1)), (10, .int i.1)]) (fun i => [(.t 31, filling (ps.map .str) str0 (n + 1) i.1)])
    (fun i => i.1 ≤ n ∧ ps.drop i.1 = splitC c i.2 ∧ i.2.length ≤ 1048576) (fun i => n - i.1) (0, s) ⟨hsT, ⟨_, rfl, HasC.of rfl (hok _ _ _)⟩, trivial⟩ ⟨Nat.zero_le _, hps.symm, hl⟩ ?_
  rintro ⟨k, r⟩ ⟨hk, hd, hr⟩ I nx
  dsimp only at hk hd hr ⊢
  have hkp : k < ps.length := by omega
  have hk1 : k < n + 1 := by omega
  have hfl := filling_len (l := ps.map .str) (zero := str0) (n := n + 1) (k := k) (sz := 1) rfl (fun x hx => by obtain ⟨y, _, rfl⟩ := List.mem_map.1 hx; rfl) (by simpa using hn) (by omega)
  have hfs := filling_step (l := ps.map .str) (zero := str0) (n := n + 1) (k := k) (sz := 1) rfl (fun x hx => by obtain ⟨y, _, rfl⟩ := List.mem_map.1 hx; rfl) (by simpa using hn) (by simpa using hkp)
  have hfb : (filling (ps.map .str) str0 (n + 1) (k + 1)).map PV.bC = filling (ps.map .str) str0 (n + 1) (k + 1) := filling_bC rfl
  rw [List.drop_eq_getElem_cons hkp] at hd
  by_cases hlt : k < n
  · rcases splitC_idx c r with ⟨h1, h2⟩ | ⟨m, h1, h2, h3⟩
    · rw [h2] at hd
      have := congrArg List.length (List.cons.inj hd).2
      simp at this; omega
    · rw [h3] at hd
      obtain ⟨hd1, hd2⟩ := List.cons.inj hd
      have hm1 : m + 1 ≤ r.length := h2
      have hm0 : m ≤ r.length := by omega
      clear hd h3 hps hmin hl2
      refine bgo ?_
      refine b_call (index1_b r c) rfl rfl rfl rfl ?_
      rw [h1]
      refine bgo ?_
      refine ⟨by omega, nx.go (k + 1, r.drop (m + 1)) ⟨hlt, hd2, by simp; omega⟩ (by dsimp only; omega) ⟨hsT, ⟨_, rfl, HasC.of ?_ (hok _ _ _)⟩, trivial⟩⟩
      rw [← hfs]
      simp [hd1, PD.cells]
  · have hkn : k = n := by omega
    subst hkn
    have hd0 : ps[k] = r := by
      rcases splitC_idx c r with ⟨h1, h2⟩ | ⟨m, h1, h2, h3⟩
      · rw [h2] at hd; exact (List.cons.inj hd).1
      · rw [h3] at hd
        have h4 := congrArg List.length (List.cons.inj hd).2
        have := splitC_ne c (r.drop (m + 1))
        rw [List.length_drop, hn, Nat.sub_self] at h4
        exact absurd (List.length_eq_zero_iff.1 h4.symm) this
    clear hd hps
    refine bgo ?_
    refine wk_rfl ?_
    refine bgo ?_
    refine ⟨by omega, ?_⟩
    have hcl : List.take (k * 1) (filling (ps.map .str) str0 (k + 1) k) ++ [PV.str r] ++ List.drop (k * 1 + 1) (filling (ps.map .str) str0 (k + 1) k) = (flat (ps.map .str)).map .d := by
      have := filling_n (ps.map .str) str0
      simp only [List.length_map, hn] at this
      rw [← this, ← hfs]
      simp [hd0, PD.cells]
    refine wk_fz 8 (.t 31) 9 1 (k + 1) (ps.map .str) [] [] ⟨hsT, ⟨_, rfl, HasC.of hcl ?_⟩, trivial⟩ (by simpa using hn) (fun x hx => by obtain ⟨y, _, rfl⟩ := List.mem_map.1 hx; rfl) ?_
    · simp [okC]
    refine bgo ?_
    trivial
theorem split_b (s : List UInt8) (c : UInt8) (hl : s.length ≤ 1048576) : BRet Tryz.prog 104 [] [.str s, .str [c]] (.own 9 1 ((splitC c s).map .str)) [] := by
  refine bof Tryz.func104 ?_
  refine bgo ?_
  refine b_call (genSplit_b s c hl) rfl rfl rfl rfl ?_
  refine bgo ?_
  trivial
end Go.Bee.C23s
