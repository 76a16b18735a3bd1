/- Chapter 23: the order of decisions, as the code reckons it. -/
import Derived.Test.YtkgjplamdmakpaaGreatDoorBeeNa
namespace Go.Bee.C23s
open Go Go.Bee Go.Proofs Go.Bee.Ty Go.Bee.C23
set_option linter.unusedVariables false
set_option maxRecDepth 20000
attribute [local irreducible] Go.Bee.bwp
def waits (out : List (List UInt8)) (name : List UInt8) (r : Ru) : Bool := r.c.n == name && (nb r).any fun o => !out.contains o
def ready (c : Cs) (out : List (List UInt8)) (name : List UInt8) : Bool := !out.contains name && !c.rs.any (waits out name)
theorem f47_b (o : List UInt8) (out : List (List UInt8)) : BRet Tryz.prog 126 [] [.str o, .eptr [.sl 1 (out.map .str)]] (.bool (!out.contains o)) [] := by
  refine bof Tryz.func126 ?_
  refine bgo ?_
  refine b_call (containsStr_b _ _) rfl rfl rfl rfl ?_
  refine bgo ?_
  trivial
theorem f44_b (r : Ru) (h : RuOk r) (name : List UInt8) (out : List (List UInt8)) : BRet Tryz.prog 123 [] [.agg [.d (.sl 2 (r.ps.map Th.e)), .d (.sl 2 (r.es.map Th.e)), .str r.c.n, .bool r.c.g, .int r.wt], .eptr [.str name], .eptr [.sl 1 (out.map .str)]] (.bool (waits out name r)) [] := by
  refine bof Tryz.func123 ?_
  cases hn : (r.c.n == name)
  · refine bgo ?_
    simp [waits, hn]
  · refine bgo ?_
    refine b_call (namesBefore_b _ h) rfl rfl rfl rfl ?_
    refine bgo ?_
    refine b_callc2 (containsFuncStr_b (fun _ => True) _ (fun _ _ => trivial) (fun o => !out.contains o)) rfl rfl rfl rfl (by exact Kof_ok rfl (by kernel_rfl) fun o _ => f47_b o out) rfl ?_
    refine bgo ?_
    simp [waits, hn]
theorem f42_b (c : Cs) (h : ∀ r ∈ c.rs, RuOk r) (name : List UInt8) (out : List (List UInt8)) : BRet Tryz.prog 121 [] [.str name, .eptr [.sl 1 (out.map .str)], .eptr [.sl 2 (c.fs.map Th.e), .sl 5 (c.rs.map Ru.e), .sl 2 (c.ss.map Sd.e)]] (.bool (ready c out name)) [] := by
  refine bof Tryz.func121 ?_
  refine bgo ?_
  refine b_call (containsStr_b _ _) rfl rfl rfl rfl ?_
  cases hn : (out.contains name)
  · refine bgo ?_
    refine b_callc2 (containsFuncProofRule_b RuOk _ h (waits out name)) rfl rfl rfl rfl (by exact Kof_ok rfl (by kernel_rfl) fun r hr => f44_b r hr name out) rfl ?_
    refine bgo ?_
    show _ = PV.bool (!out.contains name && !c.rs.any (waits out name))
    rw [hn]; rfl
  · refine bgo ?_
    show _ = PV.bool (!out.contains name && _)
    rw [hn]; rfl
theorem caps2 {fl : AF} {B : Bx} {b b' : BN} {cells cells' : List PV} {ys ys' : List PD} (hf : fl.bt = true ∨ fl.be = true) (h1 : B b = some cells) (h2 : B b' = some cells') (e1 : pdL cells = some ys) (e2 : pdL cells' = some ys') :
    capsOf (vz fl B) [.ptr b 0, .ptr b' 0] = some [.eptr ys, .eptr ys'] := by
  have hv : vz fl B = B := by simp [vz, hf]
  simp [hv, capsOf, capOf, h1, h2, e1, e2]
def goO (c : Cs) (names : List (List UInt8)) : Nat → List (List UInt8) → Option (List (List UInt8))
  | 0, out => some out
  | n + 1, out => match names.find? (ready c out) with
    | none => none
    | some x => goO c names n (out ++ [x])
def order (c : Cs) : Option (List (List UInt8)) := goO c (srt (allN c)) (srt (allN c)).length []
def orderV : Option (List (List UInt8)) → PV
  | none => .tup [.nilS, .bool false]
  | some o => .tup [.own 9 1 (o.map .str), .bool true]
theorem decisionOrder_b (c : Cs) (h : ∀ r ∈ c.rs, RuOk r) (hN : (allN c).length ≤ 1048576) : BRet Tryz.prog 74 [] [.agg [.d (.sl 2 (c.fs.map Th.e)), .d (.sl 5 (c.rs.map Ru.e)), .d (.sl 2 (c.ss.map Sd.e))]] (orderV (order c)) [] := by
  refine bof Tryz.func74 ?_
  refine bgo ?_
  refine b_call (caseNames_b c h hN) rfl rfl rfl rfl ?_
  have hnl : (srt (allN c)).length ≤ 1048576 := Nat.le_trans (srt_len _) hN
  generalize ho : order c = res
  unfold order at ho
  generalize srt (allN c) = names at ho hnl ⊢
  refine bgo ?_
  refine b_loop (fun n st => ∃ out : List (List UInt8), n = names.length - out.length ∧ out.length ≤ names.length ∧ goO c names n out = res ∧ st.tm 4 = .d (.sl 1 (names.map .str)) ∧ st.tm 5 = .ptr (.t 5) 0 ∧ st.tm 1 = .ptr (.t 1) 0 ∧
      st.bx (.t 5) = some [.own 9 1 (out.map .str)] ∧ st.bx (.t 1) = some [.d (.sl 2 (c.fs.map Th.e)), .d (.sl 5 (c.rs.map Ru.e)), .d (.sl 2 (c.ss.map Sd.e))] ∧ ∀ b, b ≠ .t 1 → b ≠ .t 5 → st.bx b = none) names.length
    ⟨[], rfl, Nat.zero_le _, ho, rfl, rfl, rfl, rfl, rfl, fun b h1 h5 => by simp [bx_put, bx_strip1, bx_sbx, bx_init, bxOf_nil, h1, h5]⟩ ?_
  clear ho
  rintro n st ⟨out, hn, hle, hgo, t4, t5, t1, b5, b1, hb⟩
  have ba : ∀ k, st.bx (.a k) = none := fun k => hb _ (by simp) (by simp)
  by_cases hlt : out.length < names.length
  · obtain ⟨m, rfl⟩ : ∃ m, n = m + 1 := ⟨names.length - out.length - 1, by omega⟩
    have hm : names.length - (out.length + 1) = m := by omega
    clear hn
    refine bgo ?_
    refine b_callc2 (indexFuncStr_b (fun _ => True) names (fun _ _ => trivial) (ready c out)) rfl rfl rfl rfl (by exact Kof_ok (caps2 (.inr rfl) b5 b1 rfl rfl) (by kernel_rfl) fun name _ => f42_b c h name out) rfl ?_
    rcases idx_find (ready c out) names 0 with ⟨e1, e2⟩ | ⟨i, e1, e2, e3⟩
    · rw [e1]
      have hres : res = none := by rw [← hgo]; simp [goO, e2]
      subst hres
      clear hgo e1 e2
      refine bgo ?_
      rfl
    · rw [e1, Nat.zero_add]
      have hx : names[i]? = some names[i] := List.getElem?_eq_getElem e2
      have hf : names.find? (ready c out) = some names[i] := by rw [← e3]; exact hx
      have hgo2 : goO c names m (out ++ [names[i]]) = res := by rw [← hgo]; simp [goO, hf]
      clear hgo e1 e3 hf
      refine bgo ?_
      refine ⟨rfl, ?_⟩
      refine ⟨rfl, m, _, Weak.refl _, by omega, out ++ [names[i]], by simp; omega, by simp; omega, hgo2, t4, ?_, t1, ?_, ?_, fun b h1 h5 => ?_⟩
      · show ((st.tm 5).bT).bT = _
        rw [t5]; rfl
      · show some [PV.own _ _ (_ ++ _)] = _
        rw [List.map_append]; rfl
      · simpa [bx_put, bx_strip1, bx_sbx] using b1
      · simpa [bx_put, bx_strip1, bx_sbx, h5] using hb b h1 h5
  · have hz : n = 0 := by omega
    subst hz
    have he : out.length = names.length := by omega
    clear hn
    have hres : res = some out := by rw [← hgo]; rfl
    subst hres
    clear hgo
    refine bgo ?_
    refine wk_rfl ?_
    refine bgo ?_
    rfl
end Go.Bee.C23s
