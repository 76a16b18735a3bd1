/- strings.Count, Index and Split at one byte. -/
import Derived.Test.YtgopmghiadpbcaaDoorBeeY
import Derived.Test.YtgopmghiadpbcaaDoorBeeT
import Derived.Test.YtgopmghiadpbcaaDoorProg
import Derived.Shelf.Strings.Count
import Derived.Shelf.Strings.Search3
namespace Go.Proofs
open Go.Shelf
def YtgopmghiadpbcaaDoorStr.lays138_ren : Go.Shelf.Ren := ⟨fun | 138 => 61 | 195 => 65 | 218 => 67 | 143 => 62 | 219 => 68 | 217 => 72 | 225 => 73 | 224 => 74 | 267 => 75 | 266 => 87 | 314 => 88 | n => n, fun | 9 => 9 | 3 => 3 | 4 => 4 | 5 => 5 | 0 => 0 | 46 => 99 | 146 => 118 | 51 => 111 | n => n, fun | 1 => 0 | n => n⟩
theorem YtgopmghiadpbcaaDoorStr.lays138 : Go.Proofs.Lays.n138 Tryd.prog YtgopmghiadpbcaaDoorStr.lays138_ren := {
  mixed := by kernel_rfl
  f138 := Tryd.func61.trans (congrArg some (by kernel_rfl))
  f143 := Tryd.func62.trans (congrArg some (by kernel_rfl))
  f195 := Tryd.func65.trans (congrArg some (by kernel_rfl))
  f217 := Tryd.func72.trans (congrArg some (by kernel_rfl))
  f218 := Tryd.func67.trans (congrArg some (by kernel_rfl))
  f219 := Tryd.func68.trans (congrArg some (by kernel_rfl))
  f224 := Tryd.func74.trans (congrArg some (by kernel_rfl))
  f225 := Tryd.func73.trans (congrArg some (by kernel_rfl))
  f266 := Tryd.func87.trans (congrArg some (by kernel_rfl))
  f267 := Tryd.func75.trans (congrArg some (by kernel_rfl))
  f314 := Tryd.func88.trans (congrArg some (by kernel_rfl))
  t0 := Tryd.underlying0
  a0 := Tryd.isAgg0
  z0 := Tryd.sizeOf0
  v0 := Tryd.zeroValue0
  t3 := Tryd.underlying3
  a3 := Tryd.isAgg3
  z3 := Tryd.sizeOf3
  v3 := Tryd.zeroValue3
  t4 := Tryd.underlying4
  a4 := Tryd.isAgg4
  z4 := Tryd.sizeOf4
  v4 := Tryd.zeroValue4
  t5 := Tryd.underlying5
  a5 := Tryd.isAgg5
  z5 := Tryd.sizeOf5
  v5 := Tryd.zeroValue5
  t9 := Tryd.underlying9
  a9 := Tryd.isAgg9
  z9 := Tryd.sizeOf9
  v9 := Tryd.zeroValue9
  t46 := Tryd.underlying99
  a46 := Tryd.isAgg99
  z46 := Tryd.sizeOf99
  v46 := Tryd.zeroValue99
  t51 := Tryd.underlying111
  a51 := Tryd.isAgg111
  z51 := Tryd.sizeOf111
  v51 := Tryd.zeroValue111
  t146 := Tryd.underlying118
  a146 := Tryd.isAgg118
  z146 := Tryd.sizeOf118
  v146 := Tryd.zeroValue118
  g1 := by kernel_rfl }
def YtgopmghiadpbcaaDoorStr.lays143_ren : Go.Shelf.Ren := ⟨fun | 143 => 62 | 219 => 68 | 217 => 72 | 225 => 73 | 224 => 74 | 267 => 75 | 266 => 87 | 314 => 88 | n => n, fun | 9 => 9 | 3 => 3 | 4 => 4 | 5 => 5 | 46 => 99 | 146 => 118 | 51 => 111 | n => n, fun | 1 => 0 | n => n⟩
theorem YtgopmghiadpbcaaDoorStr.lays143 : Go.Proofs.Lays.n143 Tryd.prog YtgopmghiadpbcaaDoorStr.lays143_ren := {
  mixed := by kernel_rfl
  f143 := Tryd.func62.trans (congrArg some (by kernel_rfl))
  f217 := Tryd.func72.trans (congrArg some (by kernel_rfl))
  f219 := Tryd.func68.trans (congrArg some (by kernel_rfl))
  f224 := Tryd.func74.trans (congrArg some (by kernel_rfl))
  f225 := Tryd.func73.trans (congrArg some (by kernel_rfl))
  f266 := Tryd.func87.trans (congrArg some (by kernel_rfl))
  f267 := Tryd.func75.trans (congrArg some (by kernel_rfl))
  f314 := Tryd.func88.trans (congrArg some (by kernel_rfl))
  t3 := Tryd.underlying3
  a3 := Tryd.isAgg3
  z3 := Tryd.sizeOf3
  v3 := Tryd.zeroValue3
  t4 := Tryd.underlying4
  a4 := Tryd.isAgg4
  z4 := Tryd.sizeOf4
  v4 := Tryd.zeroValue4
  t5 := Tryd.underlying5
  a5 := Tryd.isAgg5
  z5 := Tryd.sizeOf5
  v5 := Tryd.zeroValue5
  t9 := Tryd.underlying9
  a9 := Tryd.isAgg9
  z9 := Tryd.sizeOf9
  v9 := Tryd.zeroValue9
  t46 := Tryd.underlying99
  a46 := Tryd.isAgg99
  z46 := Tryd.sizeOf99
  v46 := Tryd.zeroValue99
  t51 := Tryd.underlying111
  a51 := Tryd.isAgg111
  z51 := Tryd.sizeOf111
  v51 := Tryd.zeroValue111
  t146 := Tryd.underlying118
  a146 := Tryd.isAgg118
  z146 := Tryd.sizeOf118
  v146 := Tryd.zeroValue118
  g1 := by kernel_rfl }
end Go.Proofs
namespace Go.Bee.C23s
open Go Go.Bee Go.Proofs Go.Bee.Ty Go.Bee.C23
set_option linter.unusedVariables false
set_option maxRecDepth 20000
attribute [local irreducible] Go.Bee.bwp
/-- A function of two texts that leaves memory as it is. -/
theorem BRet.ss {f : Nat} {a b : List UInt8} {n : Int} (hf : isFn Tryd.prog f = true) (h : ∀ w, Calls Tryd.prog f #[.string ⟨a.toArray⟩, .string ⟨b.toArray⟩] w fun e w' => e = .returned (.int .i64 n) ∧ w' = w) : BRet Tryd.prog f [] [.str a, .str b] (.int n) [] := by
  refine BRet.pure hf rfl fun G w vs hvs hargs hp ho hl hz => ?_
  have hv2 : vs.size = 2 := hvs
  have h0 := hargs 0 _ vs[0] rfl (Array.getElem?_eq_getElem (by omega))
  have h1 := hargs 1 _ vs[1] rfl (Array.getElem?_eq_getElem (by omega))
  have hv : vs = #[.string ⟨a.toArray⟩, .string ⟨b.toArray⟩] := by
    apply Array.ext
    · simpa using hvs
    · intro i hi hj
      have : i = 0 ∨ i = 1 := by simp at hj; omega
      rcases this with rfl | rfl
      · obtain ⟨h0, -⟩ := h0; generalize vs[0] = v at h0; cases h0; rfl
      · obtain ⟨h1, -⟩ := h1; generalize vs[1] = v at h1; cases h1; rfl
  rw [hv]
  refine (h w).mono ?_
  rintro e w' ⟨rfl, rfl⟩
  exact ⟨_, G, rfl, ⟨.int _ _, rfl⟩, hp, Ext.refl _ _ _, fun _ => rfl, fun g p hg => by rw [ho g] at hg; cases hg⟩
theorem count1_b (s : List UInt8) (c : UInt8) : BRet Tryd.prog 61 [] [.str s, .str [c]] (.int (Lib.countByte s c)) [] :=
  BRet.ss (by kernel_rfl) fun w => Any.strings_Count_one YtgopmghiadpbcaaDoorStr.lays138 ⟨s.toArray⟩ c w
theorem index1_b (s : List UInt8) (c : UInt8) : BRet Tryd.prog 62 [] [.str s, .str [c]] (.int (Lib.indexByte s c)) [] :=
  BRet.ss (by kernel_rfl) fun w => Any.strings_Index_one YtgopmghiadpbcaaDoorStr.lays143 ⟨s.toArray⟩ c w
/-- A text cut at each c. -/
def splitC (c : UInt8) : List UInt8 → List (List UInt8)
  | [] => [[]]
  | a :: l => if a = c then [] :: splitC c l else match splitC c l with | h :: t => (a :: h) :: t | [] => [[a]]
theorem splitC_ne (c : UInt8) : ∀ s, splitC c s ≠ []
  | [] => by simp [splitC]
  | a :: l => by
    unfold splitC
    split
    · simp
    · split <;> simp
theorem splitC_c (c a : UInt8) (l : List UInt8) : splitC c (a :: l) = if a = c then [] :: splitC c l else match splitC c l with | h :: t => (a :: h) :: t | [] => [[a]] := rfl
theorem splitC_idx (c : UInt8) : ∀ s, (Lib.indexByte s c = -1 ∧ splitC c s = [s]) ∨ ∃ m : Nat, Lib.indexByte s c = m ∧ m < s.length ∧ splitC c s = s.take m :: splitC c (s.drop (m + 1))
  | [] => .inl ⟨rfl, rfl⟩
  | a :: l => by
    rw [splitC_c]
    unfold Lib.indexByte
    by_cases h : a = c
    · subst h
      exact .inr ⟨0, by simp, by simp, by simp⟩
    · rw [if_neg (by simpa using h), if_neg h]
      rcases splitC_idx c l with ⟨h1, h2⟩ | ⟨m, h1, h2, h3⟩
      · exact .inl ⟨by rw [h1]; rfl, by rw [h2]⟩
      · refine .inr ⟨m + 1, ?_, by simp; omega, by rw [h3]; rfl⟩
        have : ((m : Int) == -1) = false := by simp
        rw [h1, this]; rfl
theorem splitC_len (c : UInt8) : ∀ s, (splitC c s).length = Lib.countByte s c + 1
  | [] => rfl
  | a :: l => by
    have ih := splitC_len c l
    have hne := splitC_ne c l
    rw [splitC_c]
    by_cases h : a = c
    · subst h; simp [Lib.countByte] at ih ⊢; omega
    · rw [if_neg h]
      have h2 : Lib.countByte (a :: l) c = Lib.countByte l c := by simp [Lib.countByte, h]
      rw [h2, ← ih]
      generalize splitC c l = q at *
      cases q
      · exact absurd rfl hne
      · rfl
theorem count_le (s : List UInt8) (c : UInt8) : Lib.countByte s c ≤ s.length := List.count_le_length
def str0 : List PV := [.d (.str [])]
theorem genSplit_b (s : List UInt8) (c : UInt8) (hl : s.length ≤ 1048576) : BRet Tryd.prog 56 [] [.str s, .str [c], .int 0, .int (-1)] (.own 9 1 ((splitC c s).map .str)) [] := by
  refine bofW Tryd.func56 ?_
  refine bgo ?_
  refine b_call (count1_b s c) rfl rfl rfl rfl ?_
  have hc := count_le s c
  have hn := splitC_len c s
  have hps : ∃ ps, splitC c s = ps := ⟨_, rfl⟩
  obtain ⟨ps, hps⟩ := hps
  rw [hps] at hn
  generalize Lib.countByte s c = n at *
  have hmin : min ((n : Int) + 1) ((s.length : Int) + 1) = ((n + 1 : Nat) : Int) := by omega
  have hl2 : (n : Int) + 1 ≤ (s.length : Int) + 1 := by omega
  refine bgo ?_
  refine ⟨by omega, by omega, ?_⟩
  have hok := fun n k L => filling_ok (l := ps.map .str) (zero := str0) (fun _ => rfl) n k L
  refine b_lp (ι := Nat × List UInt8) (fun i => [(0, .str i.2), (1, .str [c]), (2, .int 0), (3, .int n), (9, .rsl (.t 31) 9 1 (n + 1)), (10, .int i.1)]) (fun i => [(.t 31, filling (ps.map .str) str0 (n + 1) i.1)])
    (fun i => i.1 ≤ n ∧ ps.drop i.1 = splitC c i.2 ∧ i.2.length ≤ 1048576) (fun i => n - i.1) (0, s) ⟨hsT, ⟨_, rfl, HasC.of rfl (hok _ _ _)⟩, trivial⟩ ⟨Nat.zero_le _, hps.symm, hl⟩ ?_
  rintro ⟨k, r⟩ ⟨hk, hd, hr⟩ I nx
  dsimp only at hk hd hr ⊢
  have hkp : k < ps.length := by omega
  have hk1 : k < n + 1 := by omega
  have hfl := filling_len (l := ps.map .str) (zero := str0) (n := n + 1) (k := k) (sz := 1) rfl (fun x hx => by obtain ⟨y, _, rfl⟩ := List.mem_map.1 hx; rfl) (by simpa using hn) (by omega)
  have hfs := filling_step (l := ps.map .str) (zero := str0) (n := n + 1) (k := k) (sz := 1) rfl (fun x hx => by obtain ⟨y, _, rfl⟩ := List.mem_map.1 hx; rfl) (by simpa using hn) (by simpa using hkp)
  have hfb : (filling (ps.map .str) str0 (n + 1) (k + 1)).map PV.bC = filling (ps.map .str) str0 (n + 1) (k + 1) := filling_bC rfl
  rw [List.drop_eq_getElem_cons hkp] at hd
  by_cases hlt : k < n
  · rcases splitC_idx c r with ⟨h1, h2⟩ | ⟨m, h1, h2, h3⟩
    · rw [h2] at hd
      have := congrArg List.length (List.cons.inj hd).2
      simp at this; omega
    · rw [h3] at hd
      obtain ⟨hd1, hd2⟩ := List.cons.inj hd
      have hm1 : m + 1 ≤ r.length := h2
      have hm0 : m ≤ r.length := by omega
      clear hd h3 hps hmin hl2
      refine bgo ?_
      refine b_call (index1_b r c) rfl rfl rfl rfl ?_
      rw [h1]
      refine bgo ?_
      refine ⟨by omega, nx.go (k + 1, r.drop (m + 1)) ⟨hlt, hd2, by simp; omega⟩ (by dsimp only; omega) ⟨hsT, ⟨_, rfl, HasC.of ?_ (hok _ _ _)⟩, trivial⟩⟩
      rw [← hfs]
      simp [hd1, PD.cells]
  · have hkn : k = n := by omega
    subst hkn
    have hd0 : ps[k] = r := by
      rcases splitC_idx c r with ⟨h1, h2⟩ | ⟨m, h1, h2, h3⟩
      · rw [h2] at hd; exact (List.cons.inj hd).1
      · rw [h3] at hd
        have h4 := congrArg List.length (List.cons.inj hd).2
        have := splitC_ne c (r.drop (m + 1))
        rw [List.length_drop, hn, Nat.sub_self] at h4
        exact absurd (List.length_eq_zero_iff.1 h4.symm) this
    clear hd hps
    refine bgo ?_
    refine wk_rfl ?_
    refine bgo ?_
    refine ⟨by omega, ?_⟩
    have hcl : List.take (k * 1) (filling (ps.map .str) str0 (k + 1) k) ++ [PV.str r] ++ List.drop (k * 1 + 1) (filling (ps.map .str) str0 (k + 1) k) = (flat (ps.map .str)).map .d := by
      have := filling_n (ps.map .str) str0
      simp only [List.length_map, hn] at this
      rw [← this, ← hfs]
      simp [hd0, PD.cells]
    refine wk_fz 8 (.t 31) 9 1 (k + 1) (ps.map .str) [] [] ⟨hsT, ⟨_, rfl, HasC.of hcl ?_⟩, trivial⟩ (by simpa using hn) (fun x hx => by obtain ⟨y, _, rfl⟩ := List.mem_map.1 hx; rfl) ?_
    · simp [okC]
    refine bgo ?_
    trivial
theorem split_b (s : List UInt8) (c : UInt8) (hl : s.length ≤ 1048576) : BRet Tryd.prog 39 [] [.str s, .str [c]] (.own 9 1 ((splitC c s).map .str)) [] := by
  refine bof Tryd.func39 ?_
  refine bgo ?_
  refine b_call (genSplit_b s c hl) rfl rfl rfl rfl ?_
  refine bgo ?_
  trivial
end Go.Bee.C23s
