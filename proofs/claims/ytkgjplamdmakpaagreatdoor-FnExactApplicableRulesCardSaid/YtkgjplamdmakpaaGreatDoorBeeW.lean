/- Chapter 23: copies. -/
import Derived.Test.YtkgjplamdmakpaaGreatDoorBeeV
namespace Go.Bee.C23
open Go Go.Bee Go.Proofs Go.Bee.Ty
set_option linter.unusedVariables false
set_option maxRecDepth 20000
attribute [local irreducible] Go.Bee.bwp
def Th.z : List PV := [.d (.str []), .d (.bool false)]
def Sd.z : List PV := [.d (.str []), .int 0]
theorem toThesis_b (t : Th) : BRet Tryz.prog 46 [] [.agg [.str t.n, .bool t.g]] (.agg [.str t.n, .bool t.g]) [] := by
  refine bof Tryz.func46 ?_
  refine bgo ?_
  trivial
theorem toStandard_b (t : Sd) : BRet Tryz.prog 118 [] [.agg [.str t.n, .int t.k]] (.agg [.str t.n, .int t.k]) [] := by
  refine bof Tryz.func118 ?_
  refine bgo ?_
  trivial
theorem toThesisS_b (l : List Th) (hl : l.length ≤ 1048576) : BRet Tryz.prog 71 [] [.d (.sl 2 (l.map Th.e))] (.own 30 2 (l.map Th.e)) [] := by
  refine bof Tryz.func71 ?_
  refine bgo ?_
  refine ⟨by omega, by omega, ?_⟩
  refine b_loop (fun n st => ∃ k : Nat, n = l.length - k ∧ k ≤ l.length ∧ st.tm 0 = .d (.sl 2 (l.map Th.e)) ∧ st.tm 3 = .rsl (.t 7) 30 2 l.length ∧ st.tm 4 = .int k ∧ st.bx (.t 7) = some (filling (l.map Th.e) Th.z l.length k) ∧ ∀ b, b ≠ .t 7 → st.bx b = none) l.length
    ⟨0, rfl, Nat.zero_le _, rfl, rfl, rfl, by rw [filling_0]; rfl, fun b hb => by simp [bx_put, bx_strip1, bx_sbx, bx_init, bxOf_nil, hb]⟩ ?_
  rintro n st ⟨k, rfl, hk, t0, t3, t4, t7, hb⟩
  by_cases hlt : k < l.length
  · have hx : l[k]? = some l[k] := List.getElem?_eq_getElem hlt
    refine bgo ?_
    refine b_call (toThesis_b _) rfl rfl rfl rfl ?_
    refine bgo ?_
    have hfl := filling_len (l := l.map Th.e) (zero := Th.z) (n := l.length) (k := k) (sz := 2) rfl (fun x hx => by obtain ⟨y, _, rfl⟩ := List.mem_map.1 hx; rfl) (by simp) hk
    have hfs := filling_step (l := l.map Th.e) (zero := Th.z) (n := l.length) (k := k) (sz := 2) rfl (fun x hx => by obtain ⟨y, _, rfl⟩ := List.mem_map.1 hx; rfl) (by simp) (by simpa using hlt)
    have hfb : (List.take (k * 2) (filling (l.map Th.e) Th.z l.length k) ++ [PV.str l[k].n, PV.bool l[k].g] ++ List.drop (k * 2 + 2) (filling (l.map Th.e) Th.z l.length k)).map PV.bC = filling (l.map Th.e) Th.z l.length (k + 1) := by
      rw [List.map_append, List.map_append, List.map_take, List.map_drop, filling_bC rfl, ← hfs, List.getElem_map]; rfl
    refine ⟨by rw [hfl]; omega, _, _, Weak.bC (.t 7), by omega, k + 1, rfl, hlt, t0, t3, rfl, congrArg some hfb, fun b hne => ?_⟩
    have := hb b hne
    simp [bx_put, bx_strip1, bx_sbx, hne, this]
  · have hk' : k = l.length := by omega
    subst hk'
    refine bgo ?_
    refine made (t := 3) (l := l.map Th.e) t3 (t7.trans ?_) (by simp) (fun x hx => by obtain ⟨y, _, rfl⟩ := List.mem_map.1 hx; rfl) hb fun s s3 hb => ?_
    · rw [← filling_n (l.map Th.e) Th.z, List.length_map]
    refine bgo ?_
    trivial
theorem toStandardS_b (l : List Sd) (hl : l.length ≤ 1048576) : BRet Tryz.prog 73 [] [.d (.sl 2 (l.map Sd.e))] (.own 116 2 (l.map Sd.e)) [] := by
  refine bof Tryz.func73 ?_
  refine bgo ?_
  refine ⟨by omega, by omega, ?_⟩
  refine b_loop (fun n st => ∃ k : Nat, n = l.length - k ∧ k ≤ l.length ∧ st.tm 0 = .d (.sl 2 (l.map Sd.e)) ∧ st.tm 3 = .rsl (.t 7) 116 2 l.length ∧ st.tm 4 = .int k ∧ st.bx (.t 7) = some (filling (l.map Sd.e) Sd.z l.length k) ∧ ∀ b, b ≠ .t 7 → st.bx b = none) l.length
    ⟨0, rfl, Nat.zero_le _, rfl, rfl, rfl, by rw [filling_0]; rfl, fun b hb => by simp [bx_put, bx_strip1, bx_sbx, bx_init, bxOf_nil, hb]⟩ ?_
  rintro n st ⟨k, rfl, hk, t0, t3, t4, t7, hb⟩
  by_cases hlt : k < l.length
  · have hx : l[k]? = some l[k] := List.getElem?_eq_getElem hlt
    refine bgo ?_
    refine b_call (toStandard_b _) rfl rfl rfl rfl ?_
    refine bgo ?_
    have hfl := filling_len (l := l.map Sd.e) (zero := Sd.z) (n := l.length) (k := k) (sz := 2) rfl (fun x hx => by obtain ⟨y, _, rfl⟩ := List.mem_map.1 hx; rfl) (by simp) hk
    have hfs := filling_step (l := l.map Sd.e) (zero := Sd.z) (n := l.length) (k := k) (sz := 2) rfl (fun x hx => by obtain ⟨y, _, rfl⟩ := List.mem_map.1 hx; rfl) (by simp) (by simpa using hlt)
    have hfb : (List.take (k * 2) (filling (l.map Sd.e) Sd.z l.length k) ++ [PV.str l[k].n, PV.int l[k].k] ++ List.drop (k * 2 + 2) (filling (l.map Sd.e) Sd.z l.length k)).map PV.bC = filling (l.map Sd.e) Sd.z l.length (k + 1) := by
      rw [List.map_append, List.map_append, List.map_take, List.map_drop, filling_bC rfl, ← hfs, List.getElem_map]; rfl
    refine ⟨by rw [hfl]; omega, _, _, Weak.bC (.t 7), by omega, k + 1, rfl, hlt, t0, t3, rfl, congrArg some hfb, fun b hne => ?_⟩
    have := hb b hne
    simp [bx_put, bx_strip1, bx_sbx, hne, this]
  · have hk' : k = l.length := by omega
    subst hk'
    refine bgo ?_
    refine made (t := 3) (l := l.map Sd.e) t3 (t7.trans ?_) (by simp) (fun x hx => by obtain ⟨y, _, rfl⟩ := List.mem_map.1 hx; rfl) hb fun s s3 hb => ?_
    · rw [← filling_n (l.map Sd.e) Sd.z, List.length_map]
    refine bgo ?_
    trivial
def Ru.z : List PV := [.nilS, .nilS, .d (.str []), .d (.bool false), .int 0]
def RuOk (r : Ru) : Prop := r.ps.length ≤ 1048576 ∧ r.es.length ≤ 1048576
theorem toProofRule_b (r : Ru) (h : RuOk r) : BRet Tryz.prog 117 [] [.agg [.d (.sl 2 (r.ps.map Th.e)), .d (.sl 2 (r.es.map Th.e)), .str r.c.n, .bool r.c.g, .int r.wt]]
    (.agg [.own 30 2 (r.ps.map Th.e), .own 30 2 (r.es.map Th.e), .str r.c.n, .bool r.c.g, .int r.wt]) [] := by
  refine bof Tryz.func117 ?_
  refine bgo ?_
  refine b_call (toThesisS_b _ h.1) rfl rfl rfl rfl ?_
  refine bgo ?_
  refine b_call (toThesisS_b _ h.2) rfl rfl rfl rfl ?_
  refine bgo ?_
  refine b_call (toThesis_b _) rfl rfl rfl rfl ?_
  refine bgo ?_
  trivial
theorem toProofRuleS_b (l : List Ru) (hl : l.length ≤ 1048576) (ho : ∀ r ∈ l, RuOk r) : BRet Tryz.prog 72 [] [.d (.sl 5 (l.map Ru.e))] (.own 36 5 (l.map Ru.e)) [] := by
  refine bof Tryz.func72 ?_
  refine bgo ?_
  refine ⟨by omega, by omega, ?_⟩
  refine b_loop (fun n st => ∃ k : Nat, n = l.length - k ∧ k ≤ l.length ∧ st.tm 0 = .d (.sl 5 (l.map Ru.e)) ∧ st.tm 3 = .rsl (.t 7) 36 5 l.length ∧ st.tm 4 = .int k ∧ st.bx (.t 7) = some (filling (l.map Ru.e) Ru.z l.length k) ∧ ∀ b, b ≠ .t 7 → st.bx b = none) l.length
    ⟨0, rfl, Nat.zero_le _, rfl, rfl, rfl, by rw [filling_0]; rfl, fun b hb => by simp [bx_put, bx_strip1, bx_sbx, bx_init, bxOf_nil, hb]⟩ ?_
  rintro n st ⟨k, rfl, hk, t0, t3, t4, t7, hb⟩
  by_cases hlt : k < l.length
  · have hx : l[k]? = some l[k] := List.getElem?_eq_getElem hlt
    refine bgo ?_
    refine b_call (toProofRule_b _ (ho _ (List.getElem_mem _))) rfl rfl rfl rfl ?_
    refine bgo ?_
    have hfl := filling_len (l := l.map Ru.e) (zero := Ru.z) (n := l.length) (k := k) (sz := 5) rfl (fun x hx => by obtain ⟨y, _, rfl⟩ := List.mem_map.1 hx; rfl) (by simp) hk
    have hfs := filling_step (l := l.map Ru.e) (zero := Ru.z) (n := l.length) (k := k) (sz := 5) rfl (fun x hx => by obtain ⟨y, _, rfl⟩ := List.mem_map.1 hx; rfl) (by simp) (by simpa using hlt)
    have hfb : (List.take (k * 5) (filling (l.map Ru.e) Ru.z l.length k) ++ [PV.own 30 2 (l[k].ps.map Th.e), PV.own 30 2 (l[k].es.map Th.e), PV.str l[k].c.n, PV.bool l[k].c.g, PV.int l[k].wt] ++ List.drop (k * 5 + 5) (filling (l.map Ru.e) Ru.z l.length k)).map PV.bC = filling (l.map Ru.e) Ru.z l.length (k + 1) := by
      rw [List.map_append, List.map_append, List.map_take, List.map_drop, filling_bC rfl, ← hfs, List.getElem_map]; rfl
    refine ⟨by rw [hfl]; omega, _, _, Weak.bC (.t 7), by omega, k + 1, rfl, hlt, t0, t3, rfl, congrArg some hfb, fun b hne => ?_⟩
    have := hb b hne
    simp [bx_put, bx_strip1, bx_sbx, hne, this]
  · have hk' : k = l.length := by omega
    subst hk'
    refine bgo ?_
    refine made (t := 3) (l := l.map Ru.e) t3 (t7.trans ?_) (by simp) (fun x hx => by obtain ⟨y, _, rfl⟩ := List.mem_map.1 hx; rfl) hb fun s s3 hb => ?_
    · rw [← filling_n (l.map Ru.e) Ru.z, List.length_map]
    refine bgo ?_
    trivial
def CsOk (c : Cs) : Prop := c.fs.length ≤ 1048576 ∧ c.rs.length ≤ 1048576 ∧ c.ss.length ≤ 1048576 ∧ ∀ r ∈ c.rs, RuOk r
abbrev Cs.own (c : Cs) : PV := .agg [.own 30 2 (c.fs.map Th.e), .own 36 5 (c.rs.map Ru.e), .own 116 2 (c.ss.map Sd.e)]
theorem toCase_b (c : Cs) (h : CsOk c) : BRet Tryz.prog 24 [] [.agg [.d (.sl 2 (c.fs.map Th.e)), .d (.sl 5 (c.rs.map Ru.e)), .d (.sl 2 (c.ss.map Sd.e))]]
    (.agg [.own 30 2 (c.fs.map Th.e), .own 36 5 (c.rs.map Ru.e), .own 116 2 (c.ss.map Sd.e)]) [] := by
  refine bof Tryz.func24 ?_
  refine bgo ?_
  refine b_call (toThesisS_b _ h.1) rfl rfl rfl rfl ?_
  refine bgo ?_
  refine b_call (toProofRuleS_b _ h.2.1 h.2.2.2) rfl rfl rfl rfl ?_
  refine bgo ?_
  refine b_call (toStandardS_b _ h.2.2.1) rfl rfl rfl rfl ?_
  refine bgo ?_
  trivial
theorem szF_ok {α : Type} {f : α → Int → Int} (h : Nice f) {p : α → Prop} (hp : ∀ a (x : Int), 0 ≤ x → x ≤ 1048576 → 0 ≤ f a x → p a) : ∀ (l : List α) (x : Int), 0 ≤ x → x ≤ 1048576 → 0 ≤ szF f l x → ∀ a ∈ l, p a
  | [], x, _, _, _ => by simp
  | b :: l, x, hx, hx2, hn => by
    unfold szF at hn
    split at hn
    · omega
    · rename_i hb
      intro a ha
      rcases List.mem_cons.1 ha with rfl | ha
      · exact hp _ x hx hx2 (by omega)
      · refine szF_ok h hp l (f b x) (by omega) ?_ hn a ha
        rcases h b x hx with e | e <;> omega
theorem szL_ok {α : Type} {f : α → Int → Int} (h : Nice f) {p : α → Prop} (hp : ∀ a (x : Int), 0 ≤ x → x ≤ 1048576 → 0 ≤ f a x → p a) (l : List α) (x : Int) (h0 : 0 ≤ x) (h1 : x ≤ 1048576) (hn : 0 ≤ szL f l x) : ∀ a ∈ l, p a := by
  unfold szL at hn
  split at hn
  · omega
  · exact szF_ok h hp l _ (by omega) (by omega) hn
theorem szRu_ok (r : Ru) (x : Int) (h0 : 0 ≤ x) (hx : x ≤ 1048576) (h : 0 ≤ szRu r x) : RuOk r := by
  have h1 := szL_nice szTh_nice r.ps x h0
  have h2 := szL_nice szTh_nice r.es (szL szTh r.ps x)
  unfold szRu at h
  split at h
  · omega
  split at h
  · omega
  have h3 := szL_len szTh_nice r.ps x h0 (by omega)
  have h4 := szL_len szTh_nice r.es (szL szTh r.ps x) (by omega) (by omega)
  exact ⟨by omega, by omega⟩
theorem szCs_ok (c : Cs) (h : 0 ≤ szCs c 1048576) : CsOk c := by
  have h1 := szL_nice szTh_nice c.fs 1048576 (by omega)
  have h2 := szL_nice szRu_nice c.rs (szL szTh c.fs 1048576)
  have h3 := szL_nice szSd_nice c.ss (szL szRu c.rs (szL szTh c.fs 1048576))
  unfold szCs at h
  split at h
  · omega
  split at h
  · omega
  have h4 := szL_len szTh_nice c.fs 1048576 (by omega) (by omega)
  have h5 := szL_len szRu_nice c.rs (szL szTh c.fs 1048576) (by omega) (by omega)
  split at h
  · omega
  have h6 := szL_len szSd_nice c.ss (szL szRu c.rs (szL szTh c.fs 1048576)) (by omega) (by omega)
  refine ⟨by omega, by omega, by omega, ?_⟩
  exact szL_ok szRu_nice szRu_ok c.rs (szL szTh c.fs 1048576) (by omega) (by omega) (by omega)
/-! Equal or not. -/
theorem eqThesis_b (a b : Th) : BRet Tryz.prog 102 [] [.agg [.str a.n, .bool a.g], .agg [.str b.n, .bool b.g]] (.bool (decide (a = b))) [] := by
  refine bof Tryz.func102 ?_
  refine bgo ?_
  obtain ⟨an, ag⟩ := a
  obtain ⟨bn, bg⟩ := b
  by_cases h : an = bn <;> by_cases h2 : ag = bg <;> simp_all
theorem eqStandard_b (a b : Sd) : BRet Tryz.prog 128 [] [.agg [.str a.n, .int a.k], .agg [.str b.n, .int b.k]] (.bool (decide (a = b))) [] := by
  refine bof Tryz.func128 ?_
  refine bgo ?_
  obtain ⟨an, ag⟩ := a
  obtain ⟨bn, bg⟩ := b
  by_cases h : an = bn <;> by_cases h2 : ag = bg <;> simp_all
theorem take_succ_eq {α : Type} {l m : List α} {k : Nat} (h : l.length = m.length) (hk : k < l.length) (hj : l.take k = m.take k) (he : l[k] = m[k]) : l.take (k + 1) = m.take (k + 1) := by
  rw [List.take_succ_eq_append_getElem hk, List.take_succ_eq_append_getElem (h ▸ hk), hj, he]
theorem eqThesisS_b (l m : List Th) : BRet Tryz.prog 52 [] [.d (.sl 2 (l.map Th.e)), .d (.sl 2 (m.map Th.e))] (.bool (decide (l = m))) [] := by
  refine BRet.len 0 (by kernel_rfl) rfl fun hl => ?_
  refine bof Tryz.func52 ?_
  simp only [List.length_map] at hl
  refine bgo ?_
  refine ⟨?_, ?_⟩ <;> intro h
  · have : l ≠ m := fun e => h (by rw [e])
    simp [this]
  have hlm : l.length = m.length := by omega
  refine b_loop (fun n st => ∃ k : Nat, n = l.length - k ∧ k ≤ l.length ∧ st.tm 0 = .d (.sl 2 (l.map Th.e)) ∧ st.tm 1 = .d (.sl 2 (m.map Th.e)) ∧ st.tm 5 = .int k ∧ l.take k = m.take k ∧ ∀ b, st.bx b = none) l.length ⟨0, rfl, Nat.zero_le _, rfl, rfl, rfl, by simp, bxOf_nil⟩ ?_
  rintro n st ⟨k, rfl, hk, t0, t1, t5, hj, hb⟩
  by_cases hlt : k < l.length
  · have hlt' : k < m.length := hlm ▸ hlt
    have hx : l[k]? = some l[k] := List.getElem?_eq_getElem hlt
    have hy : m[k]? = some m[k] := List.getElem?_eq_getElem hlt'
    have hts : l[k] = m[k] → l.take (k + 1) = m.take (k + 1) := take_succ_eq hlm hlt hj
    clear hj hlm h
    refine bgo ?_
    refine b_call (eqThesis_b l[k] m[k]) rfl rfl rfl rfl ?_
    refine bgo ?_
    refine ⟨fun h => ?_, fun h => ⟨_, _, Weak.refl _, by omega, k + 1, rfl, hlt, t0, t1, rfl, hts h, hb⟩⟩
    have : l ≠ m := fun e => h (by subst e; rfl)
    simp [this]
  · have hk' : k = l.length := by omega
    subst hk'
    have hd : decide (l = m) = true := by rw [List.take_length, hlm, List.take_length] at hj; simpa using hj
    clear hj hlm h
    refine bgo ?_
    refine wk_rfl ?_
    refine bgo ?_
    trivial
theorem eqStandardS_b (l m : List Sd) : BRet Tryz.prog 76 [] [.d (.sl 2 (l.map Sd.e)), .d (.sl 2 (m.map Sd.e))] (.bool (decide (l = m))) [] := by
  refine BRet.len 0 (by kernel_rfl) rfl fun hl => ?_
  refine bof Tryz.func76 ?_
  simp only [List.length_map] at hl
  refine bgo ?_
  refine ⟨?_, ?_⟩ <;> intro h
  · have : l ≠ m := fun e => h (by rw [e])
    simp [this]
  have hlm : l.length = m.length := by omega
  refine b_loop (fun n st => ∃ k : Nat, n = l.length - k ∧ k ≤ l.length ∧ st.tm 0 = .d (.sl 2 (l.map Sd.e)) ∧ st.tm 1 = .d (.sl 2 (m.map Sd.e)) ∧ st.tm 5 = .int k ∧ l.take k = m.take k ∧ ∀ b, st.bx b = none) l.length ⟨0, rfl, Nat.zero_le _, rfl, rfl, rfl, by simp, bxOf_nil⟩ ?_
  rintro n st ⟨k, rfl, hk, t0, t1, t5, hj, hb⟩
  by_cases hlt : k < l.length
  · have hlt' : k < m.length := hlm ▸ hlt
    have hx : l[k]? = some l[k] := List.getElem?_eq_getElem hlt
    have hy : m[k]? = some m[k] := List.getElem?_eq_getElem hlt'
    have hts : l[k] = m[k] → l.take (k + 1) = m.take (k + 1) := take_succ_eq hlm hlt hj
    clear hj hlm h
    refine bgo ?_
    refine b_call (eqStandard_b l[k] m[k]) rfl rfl rfl rfl ?_
    refine bgo ?_
    refine ⟨fun h => ?_, fun h => ⟨_, _, Weak.refl _, by omega, k + 1, rfl, hlt, t0, t1, rfl, hts h, hb⟩⟩
    have : l ≠ m := fun e => h (by subst e; rfl)
    simp [this]
  · have hk' : k = l.length := by omega
    subst hk'
    have hd : decide (l = m) = true := by rw [List.take_length, hlm, List.take_length] at hj; simpa using hj
    clear hj hlm h
    refine bgo ?_
    refine wk_rfl ?_
    refine bgo ?_
    trivial
theorem eqProofRule_b (a b : Ru) : BRet Tryz.prog 127 [] [.agg [.d (.sl 2 (a.ps.map Th.e)), .d (.sl 2 (a.es.map Th.e)), .str a.c.n, .bool a.c.g, .int a.wt], .agg [.d (.sl 2 (b.ps.map Th.e)), .d (.sl 2 (b.es.map Th.e)), .str b.c.n, .bool b.c.g, .int b.wt]] (.bool (decide (a = b))) [] := by
  refine bof Tryz.func127 ?_
  refine bgo ?_
  refine b_call (eqThesisS_b _ _) rfl rfl rfl rfl ?_
  refine bgo ?_
  refine ⟨fun h => ?_, fun h => ?_⟩
  · have : a ≠ b := fun e => h (by rw [e])
    simp [this]
  refine b_call (eqThesisS_b _ _) rfl rfl rfl rfl ?_
  refine bgo ?_
  refine ⟨fun h => ?_, fun h => ?_⟩
  · have : a ≠ b := fun e => h (by rw [e])
    simp [this]
  refine b_call (eqThesis_b a.c b.c) rfl rfl rfl rfl ?_
  refine bgo ?_
  refine ⟨fun h => ?_, fun h => ?_⟩
  · have : a ≠ b := fun e => h (by rw [e])
    simp [this]
  obtain ⟨a1, a2, a3, a4⟩ := a
  obtain ⟨b1, b2, b3, b4⟩ := b
  by_cases h4 : a4 = b4 <;> simp_all
theorem eqProofRuleS_b (l m : List Ru) : BRet Tryz.prog 75 [] [.d (.sl 5 (l.map Ru.e)), .d (.sl 5 (m.map Ru.e))] (.bool (decide (l = m))) [] := by
  refine BRet.len 0 (by kernel_rfl) rfl fun hl => ?_
  refine bof Tryz.func75 ?_
  simp only [List.length_map] at hl
  refine bgo ?_
  refine ⟨?_, ?_⟩ <;> intro h
  · have : l ≠ m := fun e => h (by rw [e])
    simp [this]
  have hlm : l.length = m.length := by omega
  refine b_loop (fun n st => ∃ k : Nat, n = l.length - k ∧ k ≤ l.length ∧ st.tm 0 = .d (.sl 5 (l.map Ru.e)) ∧ st.tm 1 = .d (.sl 5 (m.map Ru.e)) ∧ st.tm 5 = .int k ∧ l.take k = m.take k ∧ ∀ b, st.bx b = none) l.length ⟨0, rfl, Nat.zero_le _, rfl, rfl, rfl, by simp, bxOf_nil⟩ ?_
  rintro n st ⟨k, rfl, hk, t0, t1, t5, hj, hb⟩
  by_cases hlt : k < l.length
  · have hlt' : k < m.length := hlm ▸ hlt
    have hx : l[k]? = some l[k] := List.getElem?_eq_getElem hlt
    have hy : m[k]? = some m[k] := List.getElem?_eq_getElem hlt'
    have hts : l[k] = m[k] → l.take (k + 1) = m.take (k + 1) := take_succ_eq hlm hlt hj
    clear hj hlm h
    refine bgo ?_
    refine b_call (eqProofRule_b l[k] m[k]) rfl rfl rfl rfl ?_
    refine bgo ?_
    refine ⟨fun h => ?_, fun h => ⟨_, _, Weak.refl _, by omega, k + 1, rfl, hlt, t0, t1, rfl, hts h, hb⟩⟩
    have : l ≠ m := fun e => h (by subst e; rfl)
    simp [this]
  · have hk' : k = l.length := by omega
    subst hk'
    have hd : decide (l = m) = true := by rw [List.take_length, hlm, List.take_length] at hj; simpa using hj
    clear hj hlm h
    refine bgo ?_
    refine wk_rfl ?_
    refine bgo ?_
    trivial
theorem eqCase_b (a b : Cs) : BRet Tryz.prog 27 [] [.agg [.d (.sl 2 (a.fs.map Th.e)), .d (.sl 5 (a.rs.map Ru.e)), .d (.sl 2 (a.ss.map Sd.e))], .agg [.d (.sl 2 (b.fs.map Th.e)), .d (.sl 5 (b.rs.map Ru.e)), .d (.sl 2 (b.ss.map Sd.e))]] (.bool (decide (a = b))) [] := by
  refine bof Tryz.func27 ?_
  refine bgo ?_
  refine b_call (eqThesisS_b _ _) rfl rfl rfl rfl ?_
  refine bgo ?_
  refine ⟨fun h => ?_, fun h => ?_⟩
  · have : a ≠ b := fun e => h (by rw [e])
    simp [this]
  refine b_call (eqProofRuleS_b _ _) rfl rfl rfl rfl ?_
  refine bgo ?_
  refine ⟨fun h => ?_, fun h => ?_⟩
  · have : a ≠ b := fun e => h (by rw [e])
    simp [this]
  refine b_call (eqStandardS_b _ _) rfl rfl rfl rfl ?_
  refine bgo ?_
  refine ⟨fun h => ?_, fun h => ?_⟩
  · have : a ≠ b := fun e => h (by rw [e])
    simp [this]
  obtain ⟨a1, a2, a3⟩ := a
  obtain ⟨b1, b2, b3⟩ := b
  simp_all
end Go.Bee.C23
