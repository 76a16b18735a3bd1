/- Chapter 23: the library's functions over slices. -/
import Derived.Test.YtkgjplamdmakpaaGreatDoorBeeW
namespace Go.Bee.C23
open Go Go.Bee Go.Proofs Go.Bee.Ty
set_option linter.unusedVariables false
set_option maxRecDepth 20000
attribute [local irreducible] Go.Bee.bwp
open Classical in
noncomputable def Kof {α : Type} (ok : α → Prop) (e : α → PD) (p : α → Bool) : List PD → Option PD := fun xs => if h : ∃ a, xs = [e a] ∧ ok a then some (.bool (p h.choose)) else none
theorem Kof_e {α : Type} {ok : α → Prop} {e : α → PD} (he : ∀ a b, e a = e b → a = b) (p : α → Bool) (a : α) (ha : ok a) : Kof ok e p [e a] = some (.bool (p a)) := by
  have h : ∃ b, [e a] = [e b] ∧ ok b := ⟨a, rfl, ha⟩
  unfold Kof
  rw [dif_pos h]
  have := he _ _ (List.cons.inj h.choose_spec.1).1
  rw [← this]
theorem Kof_okR {α : Type} {ok : α → Prop} {e : α → PD} {p : α → Bool} {P : Program} {B : Bx} {f : Nat} {caps cs : List PV} (hc : CapsR P B caps cs) (hf : isFn P f = true) (h : ∀ a, ok a → BRet P f [] (ofPD (e a) :: cs) (.bool (p a)) []) : CloOK P B f caps (Kof ok e p) :=
  ⟨cs, hc, hf, fun xs r hr => by
    unfold Kof at hr
    split at hr
    · rename_i hx
      simp only [Option.some.injEq] at hr
      subst hr
      refine ⟨rfl, ?_⟩
      have hs := hx.choose_spec.1
      have := h hx.choose hx.choose_spec.2
      generalize hx.choose = a at *
      subst hs
      exact this
    · cases hr⟩
theorem Kof_ok0 {α : Type} {ok : α → Prop} {e : α → PD} {p : α → Bool} {P : Program} {B : Bx} {f : Nat} {caps cs : List PV} (hc : capsOf B caps = some cs) (hf : isFn P f = true) (h : ∀ a, ok a → BRet P f [] (ofPD (e a) :: cs) (.bool (p a)) []) : CloOK0 P B f caps (Kof ok e p) :=
  ⟨cs, hc, hf, fun xs r hr => by
    unfold Kof at hr
    split at hr
    · rename_i hx
      simp only [Option.some.injEq] at hr
      subst hr
      refine ⟨rfl, ?_⟩
      have hs := hx.choose_spec.1
      have := h hx.choose hx.choose_spec.2
      generalize hx.choose = a at *
      subst hs
      exact this
    · cases hr⟩
theorem Kof_ok {α : Type} {ok : α → Prop} {e : α → PD} {p : α → Bool} {P : Program} {B : Bx} {f : Nat} {caps cs : List PV} (hc : capsOf B caps = some cs) (hf : isFn P f = true) (h : ∀ a, ok a → BRet P f [] (ofPD (e a) :: cs) (.bool (p a)) []) : CloOK P B f caps (Kof ok e p) := (Kof_ok0 hc hf h).up
theorem str_inj : ∀ a b : List UInt8, PD.str a = PD.str b → a = b := fun a b h => by cases h; rfl
theorem Th.inj : ∀ a b : Th, a.e = b.e → a = b := fun a b h => by
  obtain ⟨a1, a2⟩ := a; obtain ⟨b1, b2⟩ := b
  simp [Th.e] at h
  simp [h]
theorem map_inj {α : Type} {e : α → PD} (he : ∀ a b, e a = e b → a = b) : ∀ l m : List α, l.map e = m.map e → l = m
  | [], [], _ => rfl
  | a :: l, b :: m, h => by
    simp only [List.map_cons, List.cons.injEq] at h
    rw [he _ _ h.1, map_inj he l m h.2]
theorem Ru.inj : ∀ a b : Ru, a.e = b.e → a = b := fun a b h => by
  obtain ⟨a1, a2, ⟨a3, a4⟩, a5⟩ := a; obtain ⟨b1, b2, ⟨b3, b4⟩, b5⟩ := b
  simp only [Ru.e, PD.agg.injEq, List.cons.injEq, PD.sl.injEq, PD.str.injEq, PD.bool.injEq, PD.int.injEq, true_and, and_true] at h
  obtain ⟨h1, h2, h3, h4, h5⟩ := h
  rw [map_inj Th.inj _ _ h1, map_inj Th.inj _ _ h2, h3, h4, h5]

/-- The first place, from k on, whose item has p. -/
def idx {α : Type} (p : α → Bool) : List α → Nat → Int
  | [], _ => -1
  | a :: l, k => if p a = true then k else idx p l (k + 1)
theorem idx_step {α : Type} {p : α → Bool} {l : List α} {k : Nat} (hk : k < l.length) : idx p (l.drop k) k = if p l[k] = true then (k : Int) else idx p (l.drop (k + 1)) (k + 1) := by
  rw [List.drop_eq_getElem_cons hk]; rfl
theorem idx_any {α : Type} (p : α → Bool) : ∀ (l : List α) (k : Nat), decide (idx p l k ≥ 0) = l.any p
  | [], k => rfl
  | a :: l, k => by
    unfold idx
    by_cases h : p a = true
    · rw [if_pos h, List.any_cons, h]; simp
    · rw [if_neg h, List.any_cons, idx_any p l (k + 1)]; simp at h; simp [h]
theorem idx_find {α : Type} (p : α → Bool) : ∀ (l : List α) (k : Nat), (idx p l k = -1 ∧ l.find? p = none) ∨ ∃ i : Nat, idx p l k = ((k + i : Nat) : Int) ∧ i < l.length ∧ l[i]? = l.find? p
  | [], k => .inl ⟨rfl, rfl⟩
  | a :: l, k => by
    unfold idx
    by_cases h : p a = true
    · rw [if_pos h]
      exact .inr ⟨0, rfl, by simp, by simp [h]⟩
    · rw [if_neg h]
      rcases idx_find p l (k + 1) with ⟨e1, e2⟩ | ⟨i, e1, e2, e3⟩
      · exact .inl ⟨e1, by simp [h, e2]⟩
      · exact .inr ⟨i + 1, by rw [e1]; congr 1; omega, by simp; omega, by simp [h, e3]⟩
theorem b_fnb {P : Program} {fl : AF} {K : St → Prop} {st : St} {d t : Nat} {xs : List Operand} {ts : Array TypeId} {ty : TypeId} {pos : String} {af : Array Edge} {g : Option (Nat × Bool)} {Kf : List PD → Option PD} (zs : List PD) {b : Bool}
    (hf : st.tm t = .fn Kf) (hmv : fl.mv = false) (hz : pdsOf (xs.map st.ev) = some zs) (hr : Kf zs = some (.bool b)) (k : K (st.put d (.bool b))) :
    bcallD P none fl ⟨some d, .call ⟨.value (.tmp t), xs.toArray, ts⟩, ty, pos, af, g⟩ K st := b_fn hf hmv hz hr k
theorem indexFuncStr_b (ok : (List UInt8) → Prop) (l : List (List UInt8)) (hok : ∀ a ∈ l, ok a) (p : (List UInt8) → Bool) : BRet Tryz.prog 120 [] [.d (.sl 1 (l.map PD.str)), .fn (Kof ok PD.str p)] (.int (idx p l 0)) [] := by
  refine BRet.len 0 (by kernel_rfl) rfl fun hl => ?_
  refine bof Tryz.func120 ?_
  simp only [List.length_map] at hl
  generalize hr : idx p l 0 = r
  refine bgo ?_
  refine b_loop (fun n st => ∃ k : Nat, n = l.length - k ∧ k ≤ l.length ∧ st.tm 0 = .d (.sl 1 (l.map PD.str)) ∧ st.tm 1 = .fn (Kof ok PD.str p) ∧ st.tm 7 = .int l.length ∧ st.tm 8 = .int k ∧ idx p (l.drop k) k = r ∧ ∀ b, st.bx b = none) l.length ⟨0, rfl, Nat.zero_le _, rfl, rfl, rfl, rfl, hr, bxOf_nil⟩ ?_
  clear hr
  rintro n st ⟨k, rfl, hk, t0, t1, t7, t8, hj, hb⟩
  by_cases hlt : k < l.length
  · have hx : l[k]? = some l[k] := List.getElem?_eq_getElem hlt
    refine bgo ?_
    refine b_fnb [PD.str l[k]] rfl rfl rfl (Kof_e str_inj p l[k] (hok _ (List.getElem_mem hlt))) ?_
    refine bgo ?_
    refine ⟨?_, ?_⟩ <;> intro h
    · refine bgo ?_
      rw [idx_step hlt, if_pos h] at hj; rw [← hj]
    · refine bgo ?_
      rw [idx_step hlt, if_neg (by simp [h])] at hj
      exact ⟨_, _, Weak.refl _, by omega, k + 1, rfl, hlt, t0, t1, t7, rfl, hj, hb⟩
  · have hk' : k = l.length := by omega
    subst hk'
    refine bgo ?_
    refine wk_rfl ?_
    refine bgo ?_
    rw [List.drop_length] at hj
    rw [← hj]; rfl
theorem containsFuncStr_b (ok : (List UInt8) → Prop) (l : List (List UInt8)) (hok : ∀ a ∈ l, ok a) (p : (List UInt8) → Bool) : BRet Tryz.prog 124 [] [.d (.sl 1 (l.map PD.str)), .fn (Kof ok PD.str p)] (.bool (l.any p)) [] := by
  refine bof Tryz.func124 ?_
  refine bgo ?_
  refine b_call (indexFuncStr_b ok l hok p) rfl rfl rfl rfl ?_
  refine bgo ?_
  rw [← idx_any p l 0]
theorem indexFuncThesis_b (ok : Th → Prop) (l : List Th) (hok : ∀ a ∈ l, ok a) (p : Th → Bool) : BRet Tryz.prog 136 [] [.d (.sl 2 (l.map Th.e)), .fn (Kof ok Th.e p)] (.int (idx p l 0)) [] := by
  refine BRet.len 0 (by kernel_rfl) rfl fun hl => ?_
  refine bof Tryz.func136 ?_
  simp only [List.length_map] at hl
  generalize hr : idx p l 0 = r
  refine bgo ?_
  refine b_loop (fun n st => ∃ k : Nat, n = l.length - k ∧ k ≤ l.length ∧ st.tm 0 = .d (.sl 2 (l.map Th.e)) ∧ st.tm 1 = .fn (Kof ok Th.e p) ∧ st.tm 7 = .int l.length ∧ st.tm 8 = .int k ∧ idx p (l.drop k) k = r ∧ ∀ b, st.bx b = none) l.length ⟨0, rfl, Nat.zero_le _, rfl, rfl, rfl, rfl, hr, bxOf_nil⟩ ?_
  clear hr
  rintro n st ⟨k, rfl, hk, t0, t1, t7, t8, hj, hb⟩
  by_cases hlt : k < l.length
  · have hx : l[k]? = some l[k] := List.getElem?_eq_getElem hlt
    refine bgo ?_
    refine b_fnb [Th.e l[k]] rfl rfl rfl (Kof_e Th.inj p l[k] (hok _ (List.getElem_mem hlt))) ?_
    refine bgo ?_
    refine ⟨?_, ?_⟩ <;> intro h
    · refine bgo ?_
      rw [idx_step hlt, if_pos h] at hj; rw [← hj]
    · refine bgo ?_
      rw [idx_step hlt, if_neg (by simp [h])] at hj
      exact ⟨_, _, Weak.refl _, by omega, k + 1, rfl, hlt, t0, t1, t7, rfl, hj, hb⟩
  · have hk' : k = l.length := by omega
    subst hk'
    refine bgo ?_
    refine wk_rfl ?_
    refine bgo ?_
    rw [List.drop_length] at hj
    rw [← hj]; rfl
theorem containsFuncThesis_b (ok : Th → Prop) (l : List Th) (hok : ∀ a ∈ l, ok a) (p : Th → Bool) : BRet Tryz.prog 91 [] [.d (.sl 2 (l.map Th.e)), .fn (Kof ok Th.e p)] (.bool (l.any p)) [] := by
  refine bof Tryz.func91 ?_
  refine bgo ?_
  refine b_call (indexFuncThesis_b ok l hok p) rfl rfl rfl rfl ?_
  refine bgo ?_
  rw [← idx_any p l 0]
theorem indexFuncProofRule_b (ok : Ru → Prop) (l : List Ru) (hok : ∀ a ∈ l, ok a) (p : Ru → Bool) : BRet Tryz.prog 143 [] [.d (.sl 5 (l.map Ru.e)), .fn (Kof ok Ru.e p)] (.int (idx p l 0)) [] := by
  refine BRet.len 0 (by kernel_rfl) rfl fun hl => ?_
  refine bof Tryz.func143 ?_
  simp only [List.length_map] at hl
  generalize hr : idx p l 0 = r
  refine bgo ?_
  refine b_loop (fun n st => ∃ k : Nat, n = l.length - k ∧ k ≤ l.length ∧ st.tm 0 = .d (.sl 5 (l.map Ru.e)) ∧ st.tm 1 = .fn (Kof ok Ru.e p) ∧ st.tm 7 = .int l.length ∧ st.tm 8 = .int k ∧ idx p (l.drop k) k = r ∧ ∀ b, st.bx b = none) l.length ⟨0, rfl, Nat.zero_le _, rfl, rfl, rfl, rfl, hr, bxOf_nil⟩ ?_
  clear hr
  rintro n st ⟨k, rfl, hk, t0, t1, t7, t8, hj, hb⟩
  by_cases hlt : k < l.length
  · have hx : l[k]? = some l[k] := List.getElem?_eq_getElem hlt
    refine bgo ?_
    refine b_fnb [Ru.e l[k]] rfl rfl rfl (Kof_e Ru.inj p l[k] (hok _ (List.getElem_mem hlt))) ?_
    refine bgo ?_
    refine ⟨?_, ?_⟩ <;> intro h
    · refine bgo ?_
      rw [idx_step hlt, if_pos h] at hj; rw [← hj]
    · refine bgo ?_
      rw [idx_step hlt, if_neg (by simp [h])] at hj
      exact ⟨_, _, Weak.refl _, by omega, k + 1, rfl, hlt, t0, t1, t7, rfl, hj, hb⟩
  · have hk' : k = l.length := by omega
    subst hk'
    refine bgo ?_
    refine wk_rfl ?_
    refine bgo ?_
    rw [List.drop_length] at hj
    rw [← hj]; rfl
theorem containsFuncProofRule_b (ok : Ru → Prop) (l : List Ru) (hok : ∀ a ∈ l, ok a) (p : Ru → Bool) : BRet Tryz.prog 122 [] [.d (.sl 5 (l.map Ru.e)), .fn (Kof ok Ru.e p)] (.bool (l.any p)) [] := by
  refine bof Tryz.func122 ?_
  refine bgo ?_
  refine b_call (indexFuncProofRule_b ok l hok p) rfl rfl rfl rfl ?_
  refine bgo ?_
  rw [← idx_any p l 0]
theorem indexStr_b (l : List (List UInt8)) (s : List UInt8) : BRet Tryz.prog 139 [] [.d (.sl 1 (l.map .str)), .str s] (.int (idx (fun x => s == x) l 0)) [] := by
  refine BRet.len 0 (by kernel_rfl) rfl fun hl => ?_
  refine bof Tryz.func139 ?_
  simp only [List.length_map] at hl
  generalize hr : idx (fun x => s == x) l 0 = r
  refine bgo ?_
  refine b_loop (fun n st => ∃ k : Nat, n = l.length - k ∧ k ≤ l.length ∧ st.tm 0 = .d (.sl 1 (l.map .str)) ∧ st.tm 1 = .str s ∧ st.tm 7 = .int l.length ∧ st.tm 8 = .int k ∧ idx (fun x => s == x) (l.drop k) k = r ∧ ∀ b, st.bx b = none) l.length ⟨0, rfl, Nat.zero_le _, rfl, rfl, rfl, rfl, hr, bxOf_nil⟩ ?_
  clear hr
  rintro n st ⟨k, rfl, hk, t0, t1, t7, t8, hj, hb⟩
  by_cases hlt : k < l.length
  · have hx : l[k]? = some l[k] := List.getElem?_eq_getElem hlt
    refine bgo ?_
    rw [idx_step hlt] at hj
    refine ⟨?_, ?_⟩ <;> intro h
    · rw [if_pos (by simpa using h)] at hj; rw [← hj]
    · rw [if_neg (by simpa using h)] at hj
      exact ⟨_, _, Weak.refl _, by omega, k + 1, rfl, hlt, t0, t1, t7, rfl, hj, hb⟩
  · have hk' : k = l.length := by omega
    subst hk'
    refine bgo ?_
    refine wk_rfl ?_
    refine bgo ?_
    rw [List.drop_length] at hj
    rw [← hj]; rfl
theorem containsStr_b (l : List (List UInt8)) (s : List UInt8) : BRet Tryz.prog 103 [] [.d (.sl 1 (l.map .str)), .str s] (.bool (l.contains s)) [] := by
  refine bof Tryz.func103 ?_
  refine bgo ?_
  refine b_call (indexStr_b l s) rfl rfl rfl rfl ?_
  refine bgo ?_
  rw [List.contains_eq_any_beq, ← idx_any _ l 0]
theorem slStr : SlT Tryz.prog 47 9 1 16 := ⟨_, _, ty47, rfl, ty9, rfl, rfl, rfl, by decide⟩
theorem slTh : SlT Tryz.prog 24 30 2 24 := ⟨_, _, ty24, rfl, ty30, rfl, rfl, rfl, by decide⟩
theorem slRu : SlT Tryz.prog 25 36 5 80 := ⟨_, _, ty25, rfl, ty36, rfl, rfl, rfl, by decide⟩
theorem slSd : SlT Tryz.prog 26 116 2 24 := ⟨_, _, ty26, rfl, ty116, rfl, rfl, rfl, by decide⟩
theorem strT : StrT Tryz.prog 9 := ⟨_, ty9, rfl⟩
theorem one_str (s : List UInt8) : evBuildSlice Tryz.prog 47 1 [(0, .d (.str s))] = some (.own 9 1 [.str s]) := slStr.build1 _ _ rfl rfl (by decide)
end Go.Bee.C23
namespace Go.Bee.C23s
open Go.Bee.C23
theorem tys : type_of% (And.intro Go.Bee.C23.tys (And.intro strT.facts (And.intro one_str (And.intro slStr.facts (And.intro slTh.facts (And.intro slRu.facts slSd.facts)))))) := (And.intro Go.Bee.C23.tys (And.intro strT.facts (And.intro one_str (And.intro slStr.facts (And.intro slTh.facts (And.intro slRu.facts slSd.facts))))))
end Go.Bee.C23s
namespace Go.Bee.C23s
open Go Go.Bee Go.Proofs Go.Bee.Ty Go.Bee.C23
set_option linter.unusedVariables false
set_option maxRecDepth 20000
attribute [local irreducible] Go.Bee.bwp
theorem cloneThesis_b (l : List Th) (hl : l.length ≤ 1048576) : BRet Tryz.prog 82 [] [.d (.sl 2 (l.map Th.e))] (.own 30 2 (l.map Th.e)) [] := by
  refine BRet.nil0 (by kernel_rfl) (fun h => ?_) ?_
  · rw [h]
    refine bofW Tryz.func82 ?_
    refine bgo ?_
    refine wk_of (Weak.nil_own 30 2 (t := 2) rfl) ?_
    refine bgo ?_
    trivial
  · refine bof Tryz.func82 ?_
    refine bgo ?_
    trivial
end Go.Bee.C23s
