/- Chapter 23: theses, rules, standards, cases. -/
import Derived.Test.YtkgjplamdmakpaaGreatDoorBeeU
namespace Go.Bee.Ty
open Go Go.Bee Go.Proofs
set_option linter.unusedVariables false
structure Th where (n : List UInt8) (g : Bool) deriving DecidableEq
structure Sd where (n : List UInt8) (k : Int) deriving DecidableEq
def Th.e (t : Th) : PD := .agg [.str t.n, .bool t.g]
def Sd.e (t : Sd) : PD := .agg [.str t.n, .int .i64 t.k]
structure Ru where (ps : List Th) (es : List Th) (c : Th) (wt : Int) deriving DecidableEq
def Ru.e (r : Ru) : PD := .agg [.sl 2 (r.ps.map Th.e), .sl 2 (r.es.map Th.e), .str r.c.n, .bool r.c.g, .int .i64 r.wt]
structure Cs where (fs : List Th) (rs : List Ru) (ss : List Sd) deriving DecidableEq
abbrev Th.v (t : Th) : PV := .agg [.str t.n, .bool t.g]
abbrev Sd.v (t : Sd) : PV := .agg [.str t.n, .int t.k]
abbrev Ru.v (r : Ru) : PV := .agg [.d (.sl 2 (r.ps.map Th.e)), .d (.sl 2 (r.es.map Th.e)), .str r.c.n, .bool r.c.g, .int r.wt]
abbrev Cs.v (c : Cs) : PV := .agg [.d (.sl 2 (c.fs.map Th.e)), .d (.sl 5 (c.rs.map Ru.e)), .d (.sl 2 (c.ss.map Sd.e))]
theorem tyz : (∀ t : Th, t.e = .agg [.str t.n, .bool t.g]) ∧ (∀ t : Sd, t.e = .agg [.str t.n, .int .i64 t.k]) ∧ (∀ r : Ru, r.e = .agg [.sl 2 (r.ps.map Th.e), .sl 2 (r.es.map Th.e), .str r.c.n, .bool r.c.g, .int .i64 r.wt]) := ⟨fun _ => rfl, fun _ => rfl, fun _ => rfl⟩
end Go.Bee.Ty
namespace Go.Bee.C23
theorem tys : type_of% (And.intro Go.Bee.Ty.tys Go.Bee.Ty.tyz) := And.intro Go.Bee.Ty.tys Go.Bee.Ty.tyz
end Go.Bee.C23
namespace Go.Bee.C23
open Go Go.Bee Go.Proofs Go.Bee.Ty
set_option linter.unusedVariables false
attribute [local irreducible] Go.Bee.bwp
def szTh (t : Th) (x : Int) : Int := if x - t.n.length < 0 then -1 else x - t.n.length
theorem szTh_nice : Nice szTh := fun t x hx => by unfold szTh; split <;> omega
theorem szThesis_b (t : Th) (x : Int) (h0 : 0 ≤ x) (hx : x ≤ 1048576) : BRet Tryz.prog 45 [] [.agg [.str t.n, .bool t.g], .int x] (.int (szTh t x)) [] := by
  refine BRet.aslen 0 0 (by kernel_rfl) rfl rfl fun hl => ?_
  refine bof Tryz.func45 ?_
  refine bgo ?_
  refine ⟨fun h => ?_, fun h => ?_⟩ <;> simp_all [szTh] <;> omega
def szSd (t : Sd) (x : Int) : Int := if x - t.n.length < 0 then -1 else x - t.n.length
theorem szSd_nice : Nice szSd := fun t x hx => by unfold szSd; split <;> omega
theorem szStandard_b (t : Sd) (x : Int) (h0 : 0 ≤ x) (hx : x ≤ 1048576) : BRet Tryz.prog 114 [] [.agg [.str t.n, .int t.k], .int x] (.int (szSd t x)) [] := by
  refine BRet.aslen 0 0 (by kernel_rfl) rfl rfl fun hl => ?_
  refine bof Tryz.func114 ?_
  refine bgo ?_
  refine ⟨fun h => ?_, fun h => ?_⟩ <;> simp_all [szSd] <;> omega
theorem szThesisS_b (l : List Th) (x : Int) (h0 : 0 ≤ x) (hx : x ≤ 1048576) : BRet Tryz.prog 67 [] [.d (.sl 2 (l.map Th.e)), .int x] (.int (szL szTh l x)) [] := by
  refine BRet.len 0 (by kernel_rfl) rfl fun hl => ?_
  refine bof Tryz.func67 ?_
  simp only [List.length_map] at hl
  refine bgo ?_
  refine ⟨fun h => ?_, fun h => ?_⟩
  · simp_all [szL]
  have h' : ¬ x - (l.length : Int) < 0 := by simpa using h
  have e0 : szL szTh l x = szF szTh l (x - l.length) := by simp [szL, h']
  rw [e0]
  refine b_loop (fun n st => ∃ (k : Nat) (y : Int), n = l.length - k ∧ k ≤ l.length ∧ 0 ≤ y ∧ y ≤ x ∧ st.tm 0 = .d (.sl 2 (l.map Th.e)) ∧ st.tm 1 = .int y ∧ st.tm 5 = .int k ∧ szF szTh (l.drop k) y = szF szTh l (x - l.length) ∧ ∀ b, st.bx b = none) l.length ⟨0, x - l.length, rfl, Nat.zero_le _, by omega, by omega, rfl, rfl, rfl, rfl, bxOf_nil⟩ ?_
  rintro n st ⟨k, y, rfl, hk, hy0, hyx, t0, t1, t5, hj, hb⟩
  clear e0
  by_cases hlt : k < l.length
  · have hx : l[k]? = some l[k] := List.getElem?_eq_getElem hlt
    refine bgo ?_
    refine b_call (szThesis_b _ _ hy0 (by omega)) rfl rfl rfl rfl ?_
    refine bgo ?_
    rw [szF_step hlt] at hj
    refine ⟨fun h => ?_, fun h => ⟨_, _, Weak.refl _, by omega, k + 1, szTh l[k] y, rfl, hlt, ?_, ?_, t0, rfl, rfl, ?_, hb⟩⟩
    · rw [if_pos h] at hj; rw [← hj]
    · have := h; omega
    · rcases szTh_nice l[k] y hy0 with e | e
      · have := h; omega
      · omega
    · rw [if_neg h] at hj; exact hj
  · have hk' : k = l.length := by omega
    subst hk'
    refine bgo ?_
    refine wk_rfl ?_
    refine bgo ?_
    rw [List.drop_length] at hj
    rw [← hj]; rfl
theorem szStandardS_b (l : List Sd) (x : Int) (h0 : 0 ≤ x) (hx : x ≤ 1048576) : BRet Tryz.prog 69 [] [.d (.sl 2 (l.map Sd.e)), .int x] (.int (szL szSd l x)) [] := by
  refine BRet.len 0 (by kernel_rfl) rfl fun hl => ?_
  refine bof Tryz.func69 ?_
  simp only [List.length_map] at hl
  refine bgo ?_
  refine ⟨fun h => ?_, fun h => ?_⟩
  · simp_all [szL]
  have h' : ¬ x - (l.length : Int) < 0 := by simpa using h
  have e0 : szL szSd l x = szF szSd l (x - l.length) := by simp [szL, h']
  rw [e0]
  refine b_loop (fun n st => ∃ (k : Nat) (y : Int), n = l.length - k ∧ k ≤ l.length ∧ 0 ≤ y ∧ y ≤ x ∧ st.tm 0 = .d (.sl 2 (l.map Sd.e)) ∧ st.tm 1 = .int y ∧ st.tm 5 = .int k ∧ szF szSd (l.drop k) y = szF szSd l (x - l.length) ∧ ∀ b, st.bx b = none) l.length ⟨0, x - l.length, rfl, Nat.zero_le _, by omega, by omega, rfl, rfl, rfl, rfl, bxOf_nil⟩ ?_
  rintro n st ⟨k, y, rfl, hk, hy0, hyx, t0, t1, t5, hj, hb⟩
  clear e0
  by_cases hlt : k < l.length
  · have hx : l[k]? = some l[k] := List.getElem?_eq_getElem hlt
    refine bgo ?_
    refine b_call (szStandard_b _ _ hy0 (by omega)) rfl rfl rfl rfl ?_
    refine bgo ?_
    rw [szF_step hlt] at hj
    refine ⟨fun h => ?_, fun h => ⟨_, _, Weak.refl _, by omega, k + 1, szSd l[k] y, rfl, hlt, ?_, ?_, t0, rfl, rfl, ?_, hb⟩⟩
    · rw [if_pos h] at hj; rw [← hj]
    · have := h; omega
    · rcases szSd_nice l[k] y hy0 with e | e
      · have := h; omega
      · omega
    · rw [if_neg h] at hj; exact hj
  · have hk' : k = l.length := by omega
    subst hk'
    refine bgo ?_
    refine wk_rfl ?_
    refine bgo ?_
    rw [List.drop_length] at hj
    rw [← hj]; rfl
def szRu (r : Ru) (x : Int) : Int := if szL szTh r.ps x < 0 then -1 else if szL szTh r.es (szL szTh r.ps x) < 0 then -1 else
  if szTh r.c (szL szTh r.es (szL szTh r.ps x)) < 0 then -1 else szTh r.c (szL szTh r.es (szL szTh r.ps x))
theorem szRu_nice : Nice szRu := fun t x hx => by
  have h1 := szL_nice szTh_nice t.ps x hx
  have h2 := szL_nice szTh_nice t.es (szL szTh t.ps x)
  have h3 := szTh_nice t.c (szL szTh t.es (szL szTh t.ps x))
  unfold szRu; split
  · exact .inl rfl
  split
  · exact .inl rfl
  split
  · exact .inl rfl
  omega
theorem szProofRule_b (r : Ru) (x : Int) (h0 : 0 ≤ x) (hx : x ≤ 1048576) : BRet Tryz.prog 113 [] [.agg [.d (.sl 2 (r.ps.map Th.e)), .d (.sl 2 (r.es.map Th.e)), .str r.c.n, .bool r.c.g, .int r.wt], .int x] (.int (szRu r x)) [] := by
  have h1 := szL_nice szTh_nice r.ps x h0
  have h2 := szL_nice szTh_nice r.es (szL szTh r.ps x)
  refine bof Tryz.func113 ?_
  refine bgo ?_
  refine b_call (szThesisS_b _ _ h0 hx) rfl rfl rfl rfl ?_
  refine bgo ?_
  refine ⟨fun h => ?_, fun h => ?_⟩
  · have := h; simp [szRu, this]
  have q1 := h
  refine b_call (szThesisS_b _ _ (by omega) (by omega)) rfl rfl rfl rfl ?_
  refine bgo ?_
  refine ⟨fun h => ?_, fun h => ?_⟩
  · have := h; simp [szRu, this]
  have q2 := h
  refine b_call (szThesis_b _ _ (by omega) (by omega)) rfl rfl rfl rfl ?_
  refine bgo ?_
  refine ⟨fun h => ?_, fun h => ?_⟩
  · have := h; simp [szRu, this]
  have q3 := h
  simp [szRu, q1, q2, q3]
theorem szProofRuleS_b (l : List Ru) (x : Int) (h0 : 0 ≤ x) (hx : x ≤ 1048576) : BRet Tryz.prog 68 [] [.d (.sl 5 (l.map Ru.e)), .int x] (.int (szL szRu l x)) [] := by
  refine BRet.len 0 (by kernel_rfl) rfl fun hl => ?_
  refine bof Tryz.func68 ?_
  simp only [List.length_map] at hl
  refine bgo ?_
  refine ⟨fun h => ?_, fun h => ?_⟩
  · simp_all [szL]
  have h' : ¬ x - (l.length : Int) < 0 := by simpa using h
  have e0 : szL szRu l x = szF szRu l (x - l.length) := by simp [szL, h']
  rw [e0]
  refine b_loop (fun n st => ∃ (k : Nat) (y : Int), n = l.length - k ∧ k ≤ l.length ∧ 0 ≤ y ∧ y ≤ x ∧ st.tm 0 = .d (.sl 5 (l.map Ru.e)) ∧ st.tm 1 = .int y ∧ st.tm 5 = .int k ∧ szF szRu (l.drop k) y = szF szRu l (x - l.length) ∧ ∀ b, st.bx b = none) l.length ⟨0, x - l.length, rfl, Nat.zero_le _, by omega, by omega, rfl, rfl, rfl, rfl, bxOf_nil⟩ ?_
  rintro n st ⟨k, y, rfl, hk, hy0, hyx, t0, t1, t5, hj, hb⟩
  clear e0
  by_cases hlt : k < l.length
  · have hx : l[k]? = some l[k] := List.getElem?_eq_getElem hlt
    refine bgo ?_
    refine b_call (szProofRule_b _ _ hy0 (by omega)) rfl rfl rfl rfl ?_
    refine bgo ?_
    rw [szF_step hlt] at hj
    refine ⟨fun h => ?_, fun h => ⟨_, _, Weak.refl _, by omega, k + 1, szRu l[k] y, rfl, hlt, ?_, ?_, t0, rfl, rfl, ?_, hb⟩⟩
    · rw [if_pos h] at hj; rw [← hj]
    · have := h; omega
    · rcases szRu_nice l[k] y hy0 with e | e
      · have := h; omega
      · omega
    · rw [if_neg h] at hj; exact hj
  · have hk' : k = l.length := by omega
    subst hk'
    refine bgo ?_
    refine wk_rfl ?_
    refine bgo ?_
    rw [List.drop_length] at hj
    rw [← hj]; rfl
def szCs (c : Cs) (x : Int) : Int := if szL szTh c.fs x < 0 then -1 else if szL szRu c.rs (szL szTh c.fs x) < 0 then -1 else
  if szL szSd c.ss (szL szRu c.rs (szL szTh c.fs x)) < 0 then -1 else szL szSd c.ss (szL szRu c.rs (szL szTh c.fs x))
theorem szCs_nice : Nice szCs := fun t x hx => by
  have h1 := szL_nice szTh_nice t.fs x hx
  have h2 := szL_nice szRu_nice t.rs (szL szTh t.fs x)
  have h3 := szL_nice szSd_nice t.ss (szL szRu t.rs (szL szTh t.fs x))
  unfold szCs; split
  · exact .inl rfl
  split
  · exact .inl rfl
  split
  · exact .inl rfl
  omega
theorem szCase_b (c : Cs) (x : Int) (h0 : 0 ≤ x) (hx : x ≤ 1048576) : BRet Tryz.prog 22 [] [.agg [.d (.sl 2 (c.fs.map Th.e)), .d (.sl 5 (c.rs.map Ru.e)), .d (.sl 2 (c.ss.map Sd.e))], .int x] (.int (szCs c x)) [] := by
  have h1 := szL_nice szTh_nice c.fs x h0
  have h2 := szL_nice szRu_nice c.rs (szL szTh c.fs x)
  refine bof Tryz.func22 ?_
  refine bgo ?_
  refine b_call (szThesisS_b _ _ h0 hx) rfl rfl rfl rfl ?_
  refine bgo ?_
  refine ⟨fun h => ?_, fun h => ?_⟩
  · have := h; simp [szCs, this]
  have q1 := h
  refine b_call (szProofRuleS_b _ _ (by omega) (by omega)) rfl rfl rfl rfl ?_
  refine bgo ?_
  refine ⟨fun h => ?_, fun h => ?_⟩
  · have := h; simp [szCs, this]
  have q2 := h
  refine b_call (szStandardS_b _ _ (by omega) (by omega)) rfl rfl rfl rfl ?_
  refine bgo ?_
  refine ⟨fun h => ?_, fun h => ?_⟩
  · have := h; simp [szCs, this]
  have q3 := h
  simp [szCs, q1, q2, q3]
end Go.Bee.C23
