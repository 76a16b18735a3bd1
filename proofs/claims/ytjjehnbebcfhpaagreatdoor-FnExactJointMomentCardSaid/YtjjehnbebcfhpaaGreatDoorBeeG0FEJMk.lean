/-
The logic and the walks, part 11. No condition.
-/
import Derived.Test.YtjjehnbebcfhpaaGreatDoorBeeG0FEJMj
namespace Go.Bee.Cn
open Go Go.Bee Go.Bee.Ty Go.Bee.C23s Go.Bee.Da
def fcAt (l : List Tx) (k : Nat) : Bool := vName (l.getD k []) && (decide (k = 0) || Op.bytesLess (l.getD (k - 1) []) (l.getD k []))
def fcAll (l : List Tx) : Bool := (List.range l.length).all (fcAt l)
def fcOk (l : List Tx) : Bool := fcAll l && decide (l.length ≤ 16)
theorem fc_bad {l : List Tx} {k : Nat} (hk : k < l.length) (h : fcAt l k = false) : fcOk l = false := by
  have : fcAll l = false := by
    cases hx : fcAll l
    · rfl
    · unfold fcAll at hx
      rw [List.all_eq_true.1 hx k (List.mem_range.2 hk)] at h; cases h
  unfold fcOk; rw [this]; rfl
theorem fc_step {l : List Tx} {k : Nat} (h : (List.range k).all (fcAt l) = true) (hk : fcAt l k = true) : (List.range (k + 1)).all (fcAt l) = true := by
  rw [List.range_succ, List.all_append, h]; simp [hk]
theorem fcAt_at {l : List Tx} {k : Nat} (h : k < l.length) : fcAt l k = (vName l[k] && (decide (k = 0) || Op.bytesLess l[k - 1] l[k])) := by
  have h2 : k - 1 < l.length := by omega
  unfold fcAt
  simp [h, h2]
def wr (n : Int) : Int := IntKind.i64.wrap n
def sumW (l : List Int) : Int := l.foldl (fun a x => wr (a + x)) 0
theorem range_all_step {p : Nat → Bool} {k : Nat} (h : (List.range k).all p = true) (hk : p k = true) : (List.range (k + 1)).all p = true := by
  rw [List.range_succ, List.all_append, h]; simp [hk]
theorem pdint_inj : ∀ a b : Int, PD.int .i64 a = PD.int .i64 b → a = b := fun a b h => by cases h; rfl
end Go.Bee.Cn
namespace Go.Bee.C24w
open Go Go.Bee Go.Proofs Go.Bee.Ty Go.Bee.C23 Go.Bee.C23s Go.Bee.Da Go.Bee.C24 Go.Bee.C24c Go.Bee.C24d Go.Bee.C24n Go.Bee.C24x Go.Bee.Cn
set_option linter.unusedVariables false
set_option maxRecDepth 20000
attribute [local irreducible] Go.Bee.bwp
theorem indexFuncStr_b (ok : (List UInt8) → Prop) (l : List (List UInt8)) (hok : ∀ a ∈ l, ok a) (p : (List UInt8) → Bool) : BRet Tryz.prog 118 [] [.d (.sl 1 (l.map PD.str)), .fn (Kof ok PD.str p)] (.int (idx p l 0)) [] := by
  refine BRet.len 0 (by kernel_rfl) rfl fun hl => ?_
  refine bof Tryz.func118 ?_
  simp only [List.length_map] at hl
  generalize hr : idx p l 0 = r
  refine bgo ?_
  refine b_loop (fun n st => ∃ k : Nat, n = l.length - k ∧ k ≤ l.length ∧ st.tm 0 = .d (.sl 1 (l.map PD.str)) ∧ st.tm 1 = .fn (Kof ok PD.str p) ∧ st.tm 7 = .int l.length ∧ st.tm 8 = .int k ∧ idx p (l.drop k) k = r ∧ ∀ b, st.bx b = none) l.length ⟨0, rfl, Nat.zero_le _, rfl, rfl, rfl, rfl, hr, bxOf_nil⟩ ?_
  clear hr
  rintro n st ⟨k, rfl, hk, t0, t1, t7, t8, hj, hb⟩
  by_cases hlt : k < l.length
  · have hx : l[k]? = some l[k] := List.getElem?_eq_getElem hlt
    refine bgo ?_
    refine b_fnb [PD.str l[k]] rfl rfl rfl (Kof_e str_inj p l[k] (hok _ (List.getElem_mem hlt))) ?_
    refine bgo ?_
    refine ⟨?_, ?_⟩ <;> intro h
    · refine bgo ?_
      rw [idx_step hlt, if_pos h] at hj; rw [← hj]
    · refine bgo ?_
      rw [idx_step hlt, if_neg (by simp [h])] at hj
      exact ⟨_, _, Weak.refl _, by omega, k + 1, rfl, hlt, t0, t1, t7, rfl, hj, hb⟩
  · have hk' : k = l.length := by omega
    subst hk'
    refine bgo ?_
    refine wk_rfl ?_
    refine bgo ?_
    rw [List.drop_length] at hj
    rw [← hj]; rfl
theorem containsFuncStr_b (ok : (List UInt8) → Prop) (l : List (List UInt8)) (hok : ∀ a ∈ l, ok a) (p : (List UInt8) → Bool) : BRet Tryz.prog 84 [] [.d (.sl 1 (l.map PD.str)), .fn (Kof ok PD.str p)] (.bool (l.any p)) [] := by
  refine bof Tryz.func84 ?_
  refine bgo ?_
  refine b_call (indexFuncStr_b ok l hok p) rfl rfl rfl rfl ?_
  refine bgo ?_
  rw [← idx_any p l 0]
theorem indexFuncInt_b (ok : Int → Prop) (l : List Int) (hok : ∀ a ∈ l, ok a) (p : Int → Bool) : BRet Tryz.prog 110 [] [.d (.sl 1 (l.map (PD.int .i64))), .fn (Kof ok (PD.int .i64) p)] (.int (idx p l 0)) [] := by
  refine BRet.len 0 (by kernel_rfl) rfl fun hl => ?_
  refine bof Tryz.func110 ?_
  simp only [List.length_map] at hl
  generalize hr : idx p l 0 = r
  refine bgo ?_
  refine b_loop (fun n st => ∃ k : Nat, n = l.length - k ∧ k ≤ l.length ∧ st.tm 0 = .d (.sl 1 (l.map (PD.int .i64))) ∧ st.tm 1 = .fn (Kof ok (PD.int .i64) p) ∧ st.tm 7 = .int l.length ∧ st.tm 8 = .int k ∧ idx p (l.drop k) k = r ∧ ∀ b, st.bx b = none) l.length ⟨0, rfl, Nat.zero_le _, rfl, rfl, rfl, rfl, hr, bxOf_nil⟩ ?_
  clear hr
  rintro n st ⟨k, rfl, hk, t0, t1, t7, t8, hj, hb⟩
  by_cases hlt : k < l.length
  · have hx : l[k]? = some l[k] := List.getElem?_eq_getElem hlt
    refine bgo ?_
    refine b_fnb [(PD.int .i64) l[k]] rfl rfl rfl (Kof_e pdint_inj p l[k] (hok _ (List.getElem_mem hlt))) ?_
    refine bgo ?_
    refine ⟨?_, ?_⟩ <;> intro h
    · refine bgo ?_
      rw [idx_step hlt, if_pos h] at hj; rw [← hj]
    · refine bgo ?_
      rw [idx_step hlt, if_neg (by simp [h])] at hj
      exact ⟨_, _, Weak.refl _, by omega, k + 1, rfl, hlt, t0, t1, t7, rfl, hj, hb⟩
  · have hk' : k = l.length := by omega
    subst hk'
    refine bgo ?_
    refine wk_rfl ?_
    refine bgo ?_
    rw [List.drop_length] at hj
    rw [← hj]; rfl
theorem containsFuncInt_b (ok : Int → Prop) (l : List Int) (hok : ∀ a ∈ l, ok a) (p : Int → Bool) : BRet Tryz.prog 67 [] [.d (.sl 1 (l.map (PD.int .i64))), .fn (Kof ok (PD.int .i64) p)] (.bool (l.any p)) [] := by
  refine bof Tryz.func67 ?_
  refine bgo ?_
  refine b_call (indexFuncInt_b ok l hok p) rfl rfl rfl rfl ?_
  refine bgo ?_
  rw [← idx_any p l 0]
theorem indexFuncDuty_b (ok : Du → Prop) (l : List Du) (hok : ∀ a ∈ l, ok a) (p : Du → Bool) : BRet Tryz.prog 145 [] [.d (.sl 4 (l.map Du.e)), .fn (Kof ok Du.e p)] (.int (idx p l 0)) [] := by
  refine BRet.len 0 (by kernel_rfl) rfl fun hl => ?_
  refine bof Tryz.func145 ?_
  simp only [List.length_map] at hl
  generalize hr : idx p l 0 = r
  refine bgo ?_
  refine b_loop (fun n st => ∃ k : Nat, n = l.length - k ∧ k ≤ l.length ∧ st.tm 0 = .d (.sl 4 (l.map Du.e)) ∧ st.tm 1 = .fn (Kof ok Du.e p) ∧ st.tm 7 = .int l.length ∧ st.tm 8 = .int k ∧ idx p (l.drop k) k = r ∧ ∀ b, st.bx b = none) l.length ⟨0, rfl, Nat.zero_le _, rfl, rfl, rfl, rfl, hr, bxOf_nil⟩ ?_
  clear hr
  rintro n st ⟨k, rfl, hk, t0, t1, t7, t8, hj, hb⟩
  by_cases hlt : k < l.length
  · have hx : l[k]? = some l[k] := List.getElem?_eq_getElem hlt
    refine bgo ?_
    refine b_fnb [Du.e l[k]] rfl rfl rfl (Kof_e Du.inj p l[k] (hok _ (List.getElem_mem hlt))) ?_
    refine bgo ?_
    refine ⟨?_, ?_⟩ <;> intro h
    · refine bgo ?_
      rw [idx_step hlt, if_pos h] at hj; rw [← hj]
    · refine bgo ?_
      rw [idx_step hlt, if_neg (by simp [h])] at hj
      exact ⟨_, _, Weak.refl _, by omega, k + 1, rfl, hlt, t0, t1, t7, rfl, hj, hb⟩
  · have hk' : k = l.length := by omega
    subst hk'
    refine bgo ?_
    refine wk_rfl ?_
    refine bgo ?_
    rw [List.drop_length] at hj
    rw [← hj]; rfl
theorem containsFuncDuty_b (ok : Du → Prop) (l : List Du) (hok : ∀ a ∈ l, ok a) (p : Du → Bool) : BRet Tryz.prog 121 [] [.d (.sl 4 (l.map Du.e)), .fn (Kof ok Du.e p)] (.bool (l.any p)) [] := by
  refine bof Tryz.func121 ?_
  refine bgo ?_
  refine b_call (indexFuncDuty_b ok l hok p) rfl rfl rfl rfl ?_
  refine bgo ?_
  rw [← idx_any p l 0]
theorem isAmount_b (x : Int) : BRet Tryz.prog 90 [] [.int x] (.bool (inB x (-1000000000) 1000000000)) [] := by
  refine bof Tryz.func90 ?_
  refine bgo ?_
  refine b_call (within_b _ _ _) rfl rfl rfl rfl ?_
  refine bgo ?_
  trivial
theorem l2Amount_b (x : Int) : BRet Tryz.prog 77 [] [.int x] (.bool (inB x (-1000000000) 1000000000)) [] := by
  refine bof Tryz.func77 ?_
  refine bgo ?_
  refine b_call (l1In_b _ _ _) rfl rfl rfl rfl ?_
  refine bgo ?_
  trivial
theorem isFactList_b (l : List Tx) : BRet Tryz.prog 83 [] [.d (.sl 1 (l.map .str))] (.bool (fcOk l)) [] := by
  refine BRet.len 0 (by kernel_rfl) rfl fun hl => ?_
  simp only [List.length_map] at hl
  refine bof Tryz.func83 ?_
  obtain ⟨r, hr⟩ : ∃ r, Go.RowKit.Hid (fcOk l = r) := ⟨_, rfl⟩
  rw [hr.out]
  refine bgo ?_
  refine b_lp (ι := Nat × Unit) (fun i => [(0, .d (.sl 1 (l.map .str))), (5, .d (.sl 1 (l.map .str))), (6, .int l.length), (7, .int i.1)]) (fun _ => []) (fun i => i.1 ≤ l.length ∧ (List.range i.1).all (fcAt l) = true) (fun i => l.length - i.1) (0, ()) hs ⟨Nat.zero_le _, rfl⟩ ?_
  rintro ⟨k, u⟩ ⟨hk, hj⟩ I nx
  dsimp only at hk hj ⊢
  by_cases hlt : k < l.length
  · have hx : l[k]? = some l[k] := List.getElem?_eq_getElem hlt
    have hb : (k : Int) + 1 ≤ 1099511627776000 := by omega
    have hp := fcAt_at hlt
    have hst := fun h => fc_step (l := l) (k := k) hj h
    have hbd := fun h => fc_bad (l := l) (k := k) hlt h
    have hnm := IsValidName_b l[k]
    clear hj
    refine bgo ?_
    refine b_call hnm rfl rfl rfl rfl ?_
    cases q1 : vName l[k]
    · obtain rfl : r = false := by rw [← hr.out, hbd (by rw [hp, q1]; rfl)]
      clear hst hbd hp
      refine bgo ?_
      trivial
    rw [q1] at hp
    cases k with
    | zero =>
      have := hst (by rw [hp]; rfl)
      clear hst hbd hp
      refine bgo ?_
      exact nx.go (1, ()) ⟨hlt, this⟩ (by dsimp only; omega) hs
    | succ j =>
      have hp2 : fcAt l (j + 1) = Op.bytesLess l[j] l[j + 1] := by rw [hp]; simp
      have hy : l[j]? = some l[j] := List.getElem?_eq_getElem (by omega)
      have e0 : ((j + 1 : Nat) : Int) > 0 := by omega
      have e1 : ((j + 1 : Nat) : Int) - 1 = j := by omega
      have e2 := less_lt l[j + 1] l[j]
      cases q3 : Op.bytesLess l[j] l[j + 1]
      · rw [q3] at e2
        obtain rfl : r = false := by rw [← hr.out, hbd (by rw [hp2, q3])]
        clear hst hbd hp hp2 q3
        refine bgo ?_
        trivial
      · rw [q3] at e2
        have := hst (by rw [hp2, q3])
        clear hst hbd hp hp2 q3
        refine bgo ?_
        exact nx.go (j + 2, ()) ⟨hlt, this⟩ (by dsimp only; omega) hs
  · have hk' : k = l.length := by omega
    subst hk'
    have hrr : r = decide (l.length ≤ 16) := by rw [← hr.out]; unfold fcOk fcAll; rw [hj, Bool.true_and]
    clear hj
    by_cases h16 : l.length ≤ 16
    · obtain rfl : r = true := by rw [hrr]; exact decide_eq_true h16
      have h16b : (l.length : Int) ≤ 16 := by omega
      clear hrr
      refine bgo ?_
      refine wk_rfl ?_
      refine bgo ?_
      trivial
    · obtain rfl : r = false := by rw [hrr]; exact decide_eq_false h16
      have h16b : ¬ (l.length : Int) ≤ 16 := by omega
      clear hrr
      refine bgo ?_
      refine wk_rfl ?_
      refine bgo ?_
      trivial
theorem sumOf_b (l : List Int) : BRet Tryz.prog 87 [] [.d (.sl 1 (l.map (.int .i64)))] (.int (sumW l)) [] := by
  refine BRet.len 0 (by kernel_rfl) rfl fun hl => ?_
  simp only [List.length_map] at hl
  refine bof Tryz.func87 ?_
  obtain ⟨r, hr⟩ : ∃ r, Go.RowKit.Hid (sumW l = r) := ⟨_, rfl⟩
  rw [hr.out]
  refine bgo ?_
  refine b_lp (ι := Nat × Int) (fun i => [(3, .int i.2), (6, .d (.sl 1 (l.map (.int .i64)))), (7, .int l.length), (8, .int i.1)]) (fun _ => []) (fun i => i.1 ≤ l.length ∧ (l.drop i.1).foldl (fun a x => wr (a + x)) i.2 = r) (fun i => l.length - i.1) (0, 0) hs ⟨Nat.zero_le _, hr.out⟩ ?_
  clear hr
  rintro ⟨k, u⟩ ⟨hk, hj⟩ I nx
  dsimp only at hk hj ⊢
  by_cases hlt : k < l.length
  · have hx : l[k]? = some l[k] := List.getElem?_eq_getElem hlt
    have hb : (k : Int) + 1 ≤ 1099511627776000 := by omega
    rw [List.drop_eq_getElem_cons hlt, List.foldl_cons] at hj
    generalize l[k] = x at *
    have hw : IntKind.i64.wrap (u + x) = wr (u + x) := rfl
    have hju : Go.RowKit.Hid ((l.drop (k + 1)).foldl (fun a x => wr (a + x)) (wr (u + x)) = r) := hj
    clear hj
    refine bgo ?_
    exact nx.go (k + 1, wr (u + x)) ⟨hlt, hju.out⟩ (by dsimp only; omega) hs
  · have hk' : k = l.length := by omega
    subst hk'
    rw [List.drop_length, List.foldl_nil] at hj
    subst hj
    refine bgo ?_
    refine wk_rfl ?_
    refine bgo ?_
    trivial
end Go.Bee.C24w


namespace Go.Bee.C24w
open Go Go.Bee Go.Proofs Go.Bee.Ty Go.Bee.C23 Go.Bee.C23s Go.Bee.Da Go.Bee.C24 Go.Bee.C24c Go.Bee.C24d Go.Bee.C24n Go.Bee.C24x Go.Bee.Cn
set_option linter.unusedVariables false
set_option maxRecDepth 20000
attribute [local irreducible] Go.Bee.bwp
theorem caps2 {fl : AF} {B : Bx} {b b' : BN} {cells cells' : List PV} {ys ys' : List PD} (hf : fl.bt = true ∨ fl.be = true) (h1 : B b = some cells) (h2 : B b' = some cells') (e1 : pdL cells = some ys) (e2 : pdL cells' = some ys') :
    capsOf (vz fl B) [.ptr b 0, .ptr b' 0] = some [.eptr ys, .eptr ys'] := by
  have hv : vz fl B = B := by simp [vz, hf]
  simp [hv, capsOf, capOf, h1, h2, e1, e2]
theorem l5Facts_b (l : List Tx) : BRet Tryz.prog 74 [] [.d (.sl 1 (l.map .str))] (.bool (fcOk l)) [] := by
  refine BRet.len 0 (by kernel_rfl) rfl fun hl => ?_
  simp only [List.length_map] at hl
  refine bof Tryz.func74 ?_
  obtain ⟨r, hr⟩ : ∃ r, Go.RowKit.Hid (fcOk l = r) := ⟨_, rfl⟩
  rw [hr.out]
  refine bgo ?_
  refine b_lp (ι := Nat × Unit) (fun i => [(0, .d (.sl 1 (l.map .str))), (3, .int i.1)]) (fun _ => []) (fun i => i.1 ≤ l.length ∧ i.1 ≤ 17 ∧ (List.range i.1).all (fcAt l) = true) (fun i => l.length - i.1) (0, ()) hs ⟨Nat.zero_le _, by dsimp only; omega, rfl⟩ ?_
  rintro ⟨k, u⟩ ⟨hk, hk17, hj⟩ I nx
  dsimp only at hk hk17 hj ⊢
  by_cases hlt : k < l.length
  · by_cases h17 : k ≤ 16
    · have hx : l[k]? = some l[k] := List.getElem?_eq_getElem hlt
      have hb : (k : Int) + 1 ≤ 1099511627776000 := by omega
      have h17b : (k : Int) ≤ 16 := by omega
      have hp := fcAt_at hlt
      have hst := fun h => fc_step (l := l) (k := k) hj h
      have hbd := fun h => fc_bad (l := l) (k := k) hlt h
      have hnm := l5Name_b l[k]
      clear hj
      refine bgo ?_
      refine b_call hnm rfl rfl rfl rfl ?_
      cases q1 : vName l[k]
      · obtain rfl : r = false := by rw [← hr.out, hbd (by rw [hp, q1]; rfl)]
        clear hst hbd hp
        refine bgo ?_
        trivial
      rw [q1] at hp
      cases k with
      | zero =>
        have := hst (by rw [hp]; rfl)
        clear hst hbd hp
        refine bgo ?_
        exact nx.go (1, ()) ⟨hlt, by dsimp only; omega, this⟩ (by dsimp only; omega) hs
      | succ j =>
        have hp2 : fcAt l (j + 1) = Op.bytesLess l[j] l[j + 1] := by rw [hp]; simp
        have hy : l[j]? = some l[j] := List.getElem?_eq_getElem (by omega)
        have e0 : ((j + 1 : Nat) : Int) > 0 := by omega
        have e1 : ((j + 1 : Nat) : Int) - 1 = j := by omega
        cases q3 : Op.bytesLess l[j] l[j + 1]
        · obtain rfl : r = false := by rw [← hr.out, hbd (by rw [hp2, q3])]
          clear hst hbd hp hp2
          refine bgo ?_
          trivial
        · have := hst (by rw [hp2, q3])
          clear hst hbd hp hp2
          refine bgo ?_
          exact nx.go (j + 2, ()) ⟨hlt, by dsimp only; omega, this⟩ (by dsimp only; omega) hs
    · have hr2 : r = false := by rw [← hr.out]; unfold fcOk; rw [decide_eq_false (by omega), Bool.and_false]
      subst hr2
      have h17b : ¬ (k : Int) ≤ 16 := by omega
      have h16b : ¬ (l.length : Int) ≤ 16 := by omega
      clear hj
      refine bgo ?_
      refine wk_rfl ?_
      refine bgo ?_
      trivial
  · have hk' : k = l.length := by omega
    subst hk'
    have hrr : r = decide (l.length ≤ 16) := by rw [← hr.out]; unfold fcOk fcAll; rw [hj, Bool.true_and]
    clear hj
    by_cases h16 : l.length ≤ 16
    · obtain rfl : r = true := by rw [hrr]; exact decide_eq_true h16
      have h16b : (l.length : Int) ≤ 16 := by omega
      clear hrr
      refine bgo ?_
      refine wk_rfl ?_
      refine bgo ?_
      trivial
    · obtain rfl : r = false := by rw [hrr]; exact decide_eq_false h16
      have h16b : ¬ (l.length : Int) ≤ 16 := by omega
      clear hrr
      refine bgo ?_
      refine wk_rfl ?_
      refine bgo ?_
      trivial
theorem l2Sum_b (l : List Int) : BRet Tryz.prog 78 [] [.d (.sl 1 (l.map (.int .i64)))] (.int (sumW l)) [] := by
  refine BRet.len 0 (by kernel_rfl) rfl fun hl => ?_
  simp only [List.length_map] at hl
  refine bof Tryz.func78 ?_
  obtain ⟨r, hr⟩ : ∃ r, Go.RowKit.Hid (sumW l = r) := ⟨_, rfl⟩
  rw [hr.out]
  refine bgo ?_
  refine b_lp (ι := Nat × Int) (fun i => [(0, .d (.sl 1 (l.map (.int .i64)))), (3, .int i.2), (4, .int i.1)]) (fun _ => []) (fun i => i.1 ≤ l.length ∧ (l.drop i.1).foldl (fun a x => wr (a + x)) i.2 = r) (fun i => l.length - i.1) (0, 0) hs ⟨Nat.zero_le _, hr.out⟩ ?_
  clear hr
  rintro ⟨k, u⟩ ⟨hk, hj⟩ I nx
  dsimp only at hk hj ⊢
  by_cases hlt : k < l.length
  · have hx : l[k]? = some l[k] := List.getElem?_eq_getElem hlt
    have hb : (k : Int) + 1 ≤ 1099511627776000 := by omega
    rw [List.drop_eq_getElem_cons hlt, List.foldl_cons] at hj
    generalize l[k] = x at *
    have hw : IntKind.i64.wrap (u + x) = wr (u + x) := rfl
    have hju : Go.RowKit.Hid ((l.drop (k + 1)).foldl (fun a x => wr (a + x)) (wr (u + x)) = r) := hj
    clear hj
    refine bgo ?_
    exact nx.go (k + 1, wr (u + x)) ⟨hlt, hju.out⟩ (by dsimp only; omega) hs
  · have hk' : k = l.length := by omega
    subst hk'
    rw [List.drop_length, List.foldl_nil] at hj
    subst hj
    refine bgo ?_
    refine wk_rfl ?_
    refine bgo ?_
    trivial
theorem containsFuncClause_b (ok : Cl → Prop) (l : List Cl) (hok : ∀ a ∈ l, ok a) (p : Cl → Bool) : BRet Tryz.prog 143 [] [.d (.sl 12 (l.map Cl.e)), .fn (Kof ok Cl.e p)] (.bool (l.any p)) [] := by
  refine bof Tryz.func143 ?_
  refine bgo ?_
  refine b_call (indexFuncClause_b ok l hok p) rfl rfl rfl rfl ?_
  refine bgo ?_
  rw [← idx_any p l 0]
theorem dep1_b (c : Ct) (i : Nat) (y x : Cl) (hy : c.cs[i]? = some y) : BRet Tryz.prog 144 [] [.agg [.str x.id, .int x.k, .int x.p, .str x.a, .int x.o, .int x.am, .int x.w.op, .str x.w.nm, .int x.w.dy, .d (.sl 4 (x.w.ps.map Cd.e)), .int x.wi, .str x.rp], .eptr [.sl 1 (c.ps.map .str), .sl 12 (c.cs.map Cl.e)], .eptr [.int .i64 i]] (.bool (x.rp == y.id)) [] := by
  have hi : i < c.cs.length := (List.getElem?_eq_some_iff.1 hy).1
  refine bof Tryz.func144 ?_
  refine bgo ?_
  trivial
theorem isDependent_b (c : Ct) (i : Nat) (y : Cl) (hy : c.cs[i]? = some y) : BRet Tryz.prog 120 [] [.agg [.d (.sl 1 (c.ps.map .str)), .d (.sl 12 (c.cs.map Cl.e))], .int i] (.bool (c.cs.any fun x => x.rp == y.id)) [] := by
  refine bof Tryz.func120 ?_
  refine bgo ?_
  refine b_callc2 (containsFuncClause_b (fun _ => True) c.cs (fun _ _ => trivial) (fun x => x.rp == y.id)) rfl rfl rfl rfl (by exact Kof_ok (caps2 (.inr rfl) rfl rfl rfl rfl) (by kernel_rfl) fun x _ => dep1_b c i y x hy) rfl ?_
  refine bgo ?_
  trivial
theorem l6Dependent_b (c : Ct) (i : Nat) (y : Cl) (hy : c.cs[i]? = some y) : BRet Tryz.prog 114 [] [.agg [.d (.sl 1 (c.ps.map .str)), .d (.sl 12 (c.cs.map Cl.e))], .int i] (.bool (c.cs.any fun x => x.rp == y.id)) [] := by
  refine BRet.alen 0 1 (by kernel_rfl) rfl rfl fun hl => ?_
  rw [List.length_map] at hl
  have hi : i < c.cs.length := (List.getElem?_eq_some_iff.1 hy).1
  refine bof Tryz.func114 ?_
  obtain ⟨r, hr⟩ : ∃ r, Go.RowKit.Hid ((c.cs.any fun x => x.rp == y.id) = r) := ⟨_, rfl⟩
  rw [hr.out]
  refine bgo ?_
  refine b_lp (ι := Nat × Unit) (fun q => [(1, .int i), (2, .ptr (.t 2) 0), (5, .int q.1)]) (fun _ => [(.t 2, [.d (.sl 1 (c.ps.map .str)), .d (.sl 12 (c.cs.map Cl.e))])]) (fun q => q.1 ≤ c.cs.length ∧ ((c.cs.drop q.1).any fun x => x.rp == y.id) = r) (fun q => c.cs.length - q.1) (0, ()) hs ⟨Nat.zero_le _, hr.out⟩ ?_
  clear hr
  rintro ⟨k, u⟩ ⟨hk, hj⟩ I nx
  dsimp only at hk hj ⊢
  by_cases hlt : k < c.cs.length
  · have hx : c.cs[k]? = some c.cs[k] := List.getElem?_eq_getElem hlt
    have hb : (k : Int) + 1 ≤ 1099511627776000 := by omega
    rw [List.drop_eq_getElem_cons hlt, List.any_cons] at hj
    generalize c.cs[k] = x at *
    by_cases he : x.rp = y.id
    · have hj2 : true = r := by rw [← hj]; simp [he]
      subst hj2
      clear hj
      refine bgo ?_
      trivial
    · have hj2 : Go.RowKit.Hid (((c.cs.drop (k + 1)).any fun x => x.rp == y.id) = r) := by show _ = r; rw [← hj]; simp [he]
      clear hj
      refine bgo ?_
      exact nx.go (k + 1, ()) ⟨hlt, hj2.out⟩ (by dsimp only; omega) hs
  · have hk' : k = c.cs.length := by omega
    subst hk'
    rw [List.drop_length] at hj
    have hj : false = r := hj
    subst hj
    refine bgo ?_
    refine wk_rfl ?_
    refine bgo ?_
    trivial
theorem isState1_b (nn : List Tx) (f : Tx) : BRet Tryz.prog 85 [] [.str f, .eptr [.sl 1 (nn.map .str)]] (.bool (!nn.contains f)) [] := by
  refine bof Tryz.func85 ?_
  refine bgo ?_
  refine b_call (containsStr_b nn f) rfl rfl rfl rfl ?_
  refine bgo ?_
  trivial
theorem isState2_b (x : Int) : BRet Tryz.prog 89 [] [.int x] (.bool (!inB x (-1000000000) 1000000000)) [] := by
  refine bof Tryz.func89 ?_
  refine bgo ?_
  refine b_call (isAmount_b x) rfl rfl rfl rfl ?_
  refine bgo ?_
  trivial
theorem isDuty1_b (d x : Du) : BRet Tryz.prog 122 [] [.agg [.int d.c, .int d.s, .int d.d, .int d.t], .eptr [.int .i64 x.c, .int .i64 x.s, .int .i64 x.d, .int .i64 x.t]] (.bool (d.c == x.c)) [] := by
  refine bof Tryz.func122 ?_
  refine bgo ?_
  trivial
theorem l9Duties_b (s : Sa) (c : Int) : BRet Tryz.prog 115 [] [.agg [.int s.day, .d (.sl 1 (s.fs.map .str)), .d (.sl 4 (s.ds.map Du.e)), .d (.sl 1 (s.bs.map (.int .i64))), .bool s.ov], .int c] (.int ((s.ds.filter fun d => d.c == c).length : Int)) [] := by
  refine BRet.alen 0 2 (by kernel_rfl) rfl rfl fun hl => ?_
  rw [List.length_map] at hl
  refine bof Tryz.func115 ?_
  obtain ⟨r, hr⟩ : ∃ r, Go.RowKit.Hid ((s.ds.filter fun d => d.c == c).length = r) := ⟨_, rfl⟩
  rw [hr.out]
  refine bgo ?_
  refine b_lp (ι := Nat × Nat) (fun q => [(1, .int c), (2, .ptr (.t 2) 0), (5, .int q.2), (6, .int q.1)]) (fun _ => [(.t 2, [.int s.day, .d (.sl 1 (s.fs.map .str)), .d (.sl 4 (s.ds.map Du.e)), .d (.sl 1 (s.bs.map (.int .i64))), .bool s.ov])]) (fun q => q.1 ≤ s.ds.length ∧ q.2 ≤ q.1 ∧ q.2 + ((s.ds.drop q.1).filter fun d => d.c == c).length = r) (fun q => s.ds.length - q.1) (0, 0) hs ⟨Nat.zero_le _, Nat.le_refl _, by dsimp only; rw [Nat.zero_add]; exact hr.out⟩ ?_
  clear hr
  rintro ⟨k, u⟩ ⟨hk, huk, hj⟩ I nx
  dsimp only at hk huk hj ⊢
  by_cases hlt : k < s.ds.length
  · have hx : s.ds[k]? = some s.ds[k] := List.getElem?_eq_getElem hlt
    have hb : (k : Int) + 1 ≤ 1099511627776000 := by omega
    have hb2 : (u : Int) + 1 ≤ 1099511627776000 := by omega
    rw [List.drop_eq_getElem_cons hlt, List.filter_cons] at hj
    generalize s.ds[k] = x at *
    by_cases he : x.c = c
    · rw [if_pos (by simpa using he), List.length_cons] at hj
      have hj2 : Go.RowKit.Hid (u + 1 + ((s.ds.drop (k + 1)).filter fun d => d.c == c).length = r) := by show _ = r; omega
      clear hj
      refine bgo ?_
      exact nx.go (k + 1, u + 1) ⟨hlt, by dsimp only; omega, hj2.out⟩ (by dsimp only; omega) hs
    · rw [if_neg (by simpa using he)] at hj
      have hj2 : Go.RowKit.Hid (u + ((s.ds.drop (k + 1)).filter fun d => d.c == c).length = r) := hj
      clear hj
      refine bgo ?_
      exact nx.go (k + 1, u) ⟨hlt, by dsimp only; omega, hj2.out⟩ (by dsimp only; omega) hs
  · have hk' : k = s.ds.length := by omega
    subst hk'
    rw [List.drop_length] at hj
    have hj : u = r := hj
    subst hj
    refine bgo ?_
    refine wk_rfl ?_
    refine bgo ?_
    trivial
end Go.Bee.C24w


namespace Go.Bee.Cn
open Go Go.Bee Go.Bee.Ty Go.Bee.C23s Go.Bee.Da
def stOk (s : Sa) (d : Du) : Bool := if d.t = 1 then decide (d.d ≥ s.day) && !s.ov else if d.t = 2 then true else if d.t = 3 then decide (d.d < s.day) else if d.t = 4 then s.ov else false
def duB (c : Ct) (s : Sa) (i : Nat) (d : Du) : Bool := inB d.c 0 (c.cs.length - 1) && (match c.cs[d.c.toNat]? with | some y => decide (y.k = 1) && inB d.s 0 s.day && decide (d.d = d.s + y.wi) | none => false) && inB d.d 0 36524 &&
  (decide (i = 0) || !decide (d.s < (s.ds.getD (i - 1) ⟨0, 0, 0, 0⟩).s)) && stOk s d
def depN (c : Ct) (k : Int) : Bool := match c.cs[k.toNat]? with | some y => c.cs.any fun x => x.rp == y.id | none => false
def duI (c : Ct) (s : Sa) (i : Nat) (d : Du) : Bool := duB c s i d && (depN c d.c || !(s.ds.take i).any fun o => o.c == d.c)
def duS (c : Ct) (s : Sa) (i : Nat) (d : Du) : Bool := duB c s i d && (depN c d.c || decide ((s.ds.filter fun o => o.c == d.c).length = 1))
end Go.Bee.Cn
namespace Go.Bee.C24v
open Go Go.Bee Go.Proofs Go.Bee.Ty Go.Bee.Cn
theorem slDu : SlT Tryz.prog 44 97 4 32 := ⟨_, _, ty44, rfl, ty97, rfl, rfl, rfl, by decide⟩
theorem tys : type_of% (And.intro Go.Bee.C24w.tys slDu.facts) := And.intro Go.Bee.C24w.tys slDu.facts
end Go.Bee.C24v
namespace Go.Bee.C24v
open Go Go.Bee Go.Proofs Go.Bee.Ty Go.Bee.C23 Go.Bee.C23s Go.Bee.Da Go.Bee.C24 Go.Bee.C24c Go.Bee.C24d Go.Bee.C24n Go.Bee.C24x Go.Bee.C24w Go.Bee.Cn
set_option linter.unusedVariables false
set_option maxRecDepth 20000
attribute [local irreducible] Go.Bee.bwp
set_option maxHeartbeats 4000000 in
theorem isDuty_b (c : Ct) (s : Sa) (i : Nat) (d : Du) (hd : s.ds[i]? = some d) (hday : 0 ≤ s.day ∧ s.day ≤ 36524) (hwi : ∀ x ∈ c.cs, 0 ≤ x.wi ∧ x.wi ≤ 400) : BRet Tryz.prog 88 [] [.agg [.d (.sl 1 (c.ps.map .str)), .d (.sl 12 (c.cs.map Cl.e))], .agg [.int s.day, .d (.sl 1 (s.fs.map .str)), .d (.sl 4 (s.ds.map Du.e)), .d (.sl 1 (s.bs.map (.int .i64))), .bool s.ov], .int i] (.bool (duI c s i d)) [] := by
  refine BRet.alen 0 1 (by kernel_rfl) rfl rfl fun hl1 => ?_
  refine BRet.alen 1 2 (by kernel_rfl) rfl rfl fun hl2 => ?_
  rw [List.length_map] at hl1 hl2
  have hi : i < s.ds.length := (List.getElem?_eq_some_iff.1 hd).1
  obtain ⟨r, hr⟩ : ∃ r, Go.RowKit.Hid (duI c s i d = r) := ⟨_, rfl⟩
  rw [hr.out]
  obtain ⟨dc, ds, dd, dt⟩ := d
  refine bof Tryz.func88 ?_
  refine bgo ?_
  refine b_call (within_b dc 0 (c.cs.length - 1)) rfl rfl rfl rfl ?_
  cases h1 : inB dc 0 (c.cs.length - 1)
  · obtain rfl : r = false := by rw [← hr.out]; simp [duI, duB, h1]
    refine bgo ?_
    trivial
  have h1b := h1
  unfold inB at h1b
  simp only [Bool.and_eq_true, decide_eq_true_eq] at h1b
  obtain ⟨m, rfl⟩ : ∃ m : Nat, dc = m := ⟨dc.toNat, by omega⟩
  have hm : m < c.cs.length := by omega
  have hy : c.cs[m]? = some c.cs[m] := List.getElem?_eq_getElem hm
  have hyw := hwi c.cs[m] (List.getElem_mem hm)
  have hdp := isDependent_b c m c.cs[m] hy
  have hdn : depN c m = c.cs.any fun x => x.rp == c.cs[m].id := by unfold depN; rw [Int.toNat_natCast, hy]
  rw [← hdn] at hdp
  obtain ⟨bo, hbo⟩ : ∃ bo, Go.RowKit.Hid (r = (decide (c.cs[m].k = 1) && inB ds 0 s.day && decide (dd = ds + c.cs[m].wi) && inB dd 0 36524 && (decide (i = 0) || !decide (ds < (s.ds.getD (i - 1) ⟨0, 0, 0, 0⟩).s)) && stOk s ⟨m, ds, dd, dt⟩ && (depN c m || !(s.ds.take i).any fun o => o.c == m)) ∧ bo = true) := ⟨true, by
    show r = _ ∧ _
    refine ⟨?_, rfl⟩
    rw [← hr.out]
    simp only [duI, duB, h1, Int.toNat_natCast, hy, Bool.true_and]⟩
  have hall : Go.RowKit.Hid (r = (decide (c.cs[m].k = 1) && inB ds 0 s.day && decide (dd = ds + c.cs[m].wi) && inB dd 0 36524 && (decide (i = 0) || !decide (ds < (s.ds.getD (i - 1) ⟨0, 0, 0, 0⟩).s)) && stOk s ⟨m, ds, dd, dt⟩ && (depN c m || !(s.ds.take i).any fun o => o.c == m))) := hbo.out.1
  clear hr hbo bo h1 hwi hdn
  generalize depN c m = dp at *
  generalize c.cs[m] = y at *
  by_cases hk : y.k = 1
  rotate_left
  · obtain rfl : r = false := by rw [hall.out]; simp [hk]
    have g1 : (y.k != 1) = true := by rw [bne_iff_ne]; exact hk
    clear hk hdp
    refine bgo ?_
    trivial
  have g1 : (y.k != 1) = false := by rw [hk]; rfl
  replace hk : Go.RowKit.Hid (y.k = 1) := hk
  refine bgo ?_
  refine b_call (within_b ds 0 s.day) rfl rfl rfl rfl ?_
  cases h3 : inB ds 0 s.day
  · obtain rfl : r = false := by rw [hall.out]; simp [h3]
    clear hdp
    refine bgo ?_
    trivial
  have h3b := h3
  unfold inB at h3b
  simp only [Bool.and_eq_true, decide_eq_true_eq] at h3b
  have hsum : 0 ≤ ds + y.wi ∧ ds + y.wi ≤ 36924 := by omega
  by_cases he : dd = ds + y.wi
  rotate_left
  · obtain rfl : r = false := by rw [hall.out]; simp [he]
    have g2 : (dd != ds + y.wi) = true := by rw [bne_iff_ne]; exact he
    clear he hdp
    refine bgo ?_
    trivial
  have g2 : (dd != ds + y.wi) = false := by rw [he]; exact bne_self_eq_false _
  replace he : Go.RowKit.Hid (dd = ds + y.wi) := he
  refine bgo ?_
  refine b_call (isDay_b dd) rfl rfl rfl rfl ?_
  cases h5 : inB dd 0 36524
  · obtain rfl : r = false := by rw [hall.out]; simp [h5]
    clear hdp
    refine bgo ?_
    trivial
  have h5b := h5
  unfold inB at h5b
  simp only [Bool.and_eq_true, decide_eq_true_eq] at h5b
  have hal2 : Go.RowKit.Hid (r = ((decide (i = 0) || !decide (ds < (s.ds.getD (i - 1) ⟨0, 0, 0, 0⟩).s)) && stOk s ⟨m, ds, dd, dt⟩ && (dp || !(s.ds.take i).any fun o => o.c == m))) := by
    show r = _
    rw [hall.out, decide_eq_true hk.out, decide_eq_true he.out, h3, h5]; simp only [Bool.true_and]
  clear hall hk he h3 h5 g1
  cases i with
  | zero =>
    have hal2b : Go.RowKit.Hid (r = (stOk s ⟨m, ds, dd, dt⟩ && (dp || !([] : List Du).any fun o => o.c == (m : Int)))) := by show r = _; rw [hal2.out]; simp
    clear hal2
    have hz : evSlice Tryz.prog 44 (.d (.sl 4 (s.ds.map Du.e))) none (some (.d (.int .i64 0))) = some (.d (.sl 4 ((s.ds.map Du.e).take (0)))) := slDu.facts.2.2.2.2.2.1 _ (0) (by rw [List.length_map]; omega)
    refine bgo ?_
    refine b_call hdp rfl rfl rfl rfl ?_
    cases dp
    · refine bgo ?_
      refine b_callc2 (containsFuncDuty_b (fun _ => True) ([] : List Du) (fun _ _ => trivial) (fun o => o.c == m)) rfl rfl rfl rfl (by exact Kof_ok (caps1 (.inr rfl) rfl rfl) (by kernel_rfl) fun o _ => isDuty1_b o ⟨m, ds, dd, dt⟩) rfl ?_
      cases ha : ([] : List Du).any fun o => o.c == (m : Int)
      · have hal3 : Go.RowKit.Hid (r = stOk s ⟨m, ds, dd, dt⟩) := by show r = _; rw [hal2b.out, ha]; simp
        clear hal2b ha hdp
        by_cases t1 : dt = 1
        · have k1 : (dt == 1) = true := by rw [beq_iff_eq]; exact t1
          have hst : stOk s ⟨m, ds, dd, dt⟩ = (decide (dd ≥ s.day) && !s.ov) := by simp [stOk, t1]
          rw [hst] at hal3
          clear hst t1
          by_cases hge : dd ≥ s.day
          · rw [decide_eq_true hge, Bool.true_and] at hal3
            cases hov : s.ov
            · obtain rfl : r = true := by rw [hal3.out, hov]; rfl
              refine bgo ?_
              trivial
            · obtain rfl : r = false := by rw [hal3.out, hov]; rfl
              refine bgo ?_
              trivial
          · obtain rfl : r = false := by rw [hal3.out, decide_eq_false hge]; rfl
            refine bgo ?_
            trivial
        have k1 : (dt == 1) = false := by rw [beq_eq_false_iff_ne]; exact t1
        by_cases t2 : dt = 2
        · have k2 : (dt == 2) = true := by rw [beq_iff_eq]; exact t2
          obtain rfl : r = true := by rw [hal3.out]; simp [stOk, t2]
          clear t2 t1
          refine bgo ?_
          trivial
        have k2 : (dt == 2) = false := by rw [beq_eq_false_iff_ne]; exact t2
        by_cases t3 : dt = 3
        · have k3 : (dt == 3) = true := by rw [beq_iff_eq]; exact t3
          have hst : stOk s ⟨m, ds, dd, dt⟩ = decide (dd < s.day) := by simp [stOk, t3]
          rw [hst] at hal3
          clear hst t3 t2 t1
          by_cases hge : dd < s.day
          · obtain rfl : r = true := by rw [hal3.out]; exact decide_eq_true hge
            refine bgo ?_
            trivial
          · obtain rfl : r = false := by rw [hal3.out]; exact decide_eq_false hge
            refine bgo ?_
            trivial
        have k3 : (dt == 3) = false := by rw [beq_eq_false_iff_ne]; exact t3
        by_cases t4 : dt = 4
        · have k4 : (dt == 4) = true := by rw [beq_iff_eq]; exact t4
          obtain rfl : r = s.ov := by rw [hal3.out]; simp [stOk, t4]
          clear t4 t3 t2 t1
          refine bgo ?_
          trivial
        have k4 : (dt == 4) = false := by rw [beq_eq_false_iff_ne]; exact t4
        obtain rfl : r = false := by rw [hal3.out]; simp [stOk, t1, t2, t3, t4]
        clear t4 t3 t2 t1
        refine bgo ?_
        trivial
      · obtain rfl : r = false := by rw [hal2b.out, ha]; simp
        clear ha hdp
        refine bgo ?_
        trivial
    · have hal3 : Go.RowKit.Hid (r = stOk s ⟨m, ds, dd, dt⟩) := by show r = _; rw [hal2b.out]; simp
      clear hal2b hdp
      by_cases t1 : dt = 1
      · have k1 : (dt == 1) = true := by rw [beq_iff_eq]; exact t1
        have hst : stOk s ⟨m, ds, dd, dt⟩ = (decide (dd ≥ s.day) && !s.ov) := by simp [stOk, t1]
        rw [hst] at hal3
        clear hst t1
        by_cases hge : dd ≥ s.day
        · rw [decide_eq_true hge, Bool.true_and] at hal3
          cases hov : s.ov
          · obtain rfl : r = true := by rw [hal3.out, hov]; rfl
            refine bgo ?_
            trivial
          · obtain rfl : r = false := by rw [hal3.out, hov]; rfl
            refine bgo ?_
            trivial
        · obtain rfl : r = false := by rw [hal3.out, decide_eq_false hge]; rfl
          refine bgo ?_
          trivial
      have k1 : (dt == 1) = false := by rw [beq_eq_false_iff_ne]; exact t1
      by_cases t2 : dt = 2
      · have k2 : (dt == 2) = true := by rw [beq_iff_eq]; exact t2
        obtain rfl : r = true := by rw [hal3.out]; simp [stOk, t2]
        clear t2 t1
        refine bgo ?_
        trivial
      have k2 : (dt == 2) = false := by rw [beq_eq_false_iff_ne]; exact t2
      by_cases t3 : dt = 3
      · have k3 : (dt == 3) = true := by rw [beq_iff_eq]; exact t3
        have hst : stOk s ⟨m, ds, dd, dt⟩ = decide (dd < s.day) := by simp [stOk, t3]
        rw [hst] at hal3
        clear hst t3 t2 t1
        by_cases hge : dd < s.day
        · obtain rfl : r = true := by rw [hal3.out]; exact decide_eq_true hge
          refine bgo ?_
          trivial
        · obtain rfl : r = false := by rw [hal3.out]; exact decide_eq_false hge
          refine bgo ?_
          trivial
      have k3 : (dt == 3) = false := by rw [beq_eq_false_iff_ne]; exact t3
      by_cases t4 : dt = 4
      · have k4 : (dt == 4) = true := by rw [beq_iff_eq]; exact t4
        obtain rfl : r = s.ov := by rw [hal3.out]; simp [stOk, t4]
        clear t4 t3 t2 t1
        refine bgo ?_
        trivial
      have k4 : (dt == 4) = false := by rw [beq_eq_false_iff_ne]; exact t4
      obtain rfl : r = false := by rw [hal3.out]; simp [stOk, t1, t2, t3, t4]
      clear t4 t3 t2 t1
      refine bgo ?_
      trivial
  | succ j =>
    have hp : s.ds[j]? = some s.ds[j] := List.getElem?_eq_getElem (by omega)
    have e0 : ((j + 1 : Nat) : Int) > 0 := by omega
    have e1 : ((j + 1 : Nat) : Int) - 1 = j := by omega
    have hgd : s.ds.getD (j + 1 - 1) ⟨0, 0, 0, 0⟩ = s.ds[j] := by simp [show j < s.ds.length by omega]
    rw [hgd] at hal2
    clear hgd
    generalize s.ds[j] = p at *
    by_cases hps : ds < p.s
    · obtain rfl : r = false := by rw [hal2.out]; simp [hps]
      clear hdp
      refine bgo ?_
      trivial
    have hal2b : Go.RowKit.Hid (r = (stOk s ⟨m, ds, dd, dt⟩ && (dp || !(s.ds.take (j + 1)).any fun o => o.c == m))) := by show r = _; rw [hal2.out]; simp [hps]
    clear hal2
    have hz : evSlice Tryz.prog 44 (.d (.sl 4 (s.ds.map Du.e))) none (some (.d (.int .i64 ((j : Int) + 1)))) = some (.d (.sl 4 ((s.ds.map Du.e).take (j + 1)))) := slDu.facts.2.2.2.2.2.1 _ (j + 1) (by rw [List.length_map]; omega)
    refine bgo ?_
    refine b_call hdp rfl rfl rfl rfl ?_
    cases dp
    · refine bgo ?_
      rw [← List.map_take]
      refine b_callc2 (containsFuncDuty_b (fun _ => True) (s.ds.take (j + 1)) (fun _ _ => trivial) (fun o => o.c == m)) rfl rfl rfl rfl (by exact Kof_ok (caps1 (.inr rfl) rfl rfl) (by kernel_rfl) fun o _ => isDuty1_b o ⟨m, ds, dd, dt⟩) rfl ?_
      cases ha : (s.ds.take (j + 1)).any fun o => o.c == (m : Int)
      · have hal3 : Go.RowKit.Hid (r = stOk s ⟨m, ds, dd, dt⟩) := by show r = _; rw [hal2b.out, ha]; simp
        clear hal2b ha hdp
        by_cases t1 : dt = 1
        · have k1 : (dt == 1) = true := by rw [beq_iff_eq]; exact t1
          have hst : stOk s ⟨m, ds, dd, dt⟩ = (decide (dd ≥ s.day) && !s.ov) := by simp [stOk, t1]
          rw [hst] at hal3
          clear hst t1
          by_cases hge : dd ≥ s.day
          · rw [decide_eq_true hge, Bool.true_and] at hal3
            cases hov : s.ov
            · obtain rfl : r = true := by rw [hal3.out, hov]; rfl
              refine bgo ?_
              trivial
            · obtain rfl : r = false := by rw [hal3.out, hov]; rfl
              refine bgo ?_
              trivial
          · obtain rfl : r = false := by rw [hal3.out, decide_eq_false hge]; rfl
            refine bgo ?_
            trivial
        have k1 : (dt == 1) = false := by rw [beq_eq_false_iff_ne]; exact t1
        by_cases t2 : dt = 2
        · have k2 : (dt == 2) = true := by rw [beq_iff_eq]; exact t2
          obtain rfl : r = true := by rw [hal3.out]; simp [stOk, t2]
          clear t2 t1
          refine bgo ?_
          trivial
        have k2 : (dt == 2) = false := by rw [beq_eq_false_iff_ne]; exact t2
        by_cases t3 : dt = 3
        · have k3 : (dt == 3) = true := by rw [beq_iff_eq]; exact t3
          have hst : stOk s ⟨m, ds, dd, dt⟩ = decide (dd < s.day) := by simp [stOk, t3]
          rw [hst] at hal3
          clear hst t3 t2 t1
          by_cases hge : dd < s.day
          · obtain rfl : r = true := by rw [hal3.out]; exact decide_eq_true hge
            refine bgo ?_
            trivial
          · obtain rfl : r = false := by rw [hal3.out]; exact decide_eq_false hge
            refine bgo ?_
            trivial
        have k3 : (dt == 3) = false := by rw [beq_eq_false_iff_ne]; exact t3
        by_cases t4 : dt = 4
        · have k4 : (dt == 4) = true := by rw [beq_iff_eq]; exact t4
          obtain rfl : r = s.ov := by rw [hal3.out]; simp [stOk, t4]
          clear t4 t3 t2 t1
          refine bgo ?_
          trivial
        have k4 : (dt == 4) = false := by rw [beq_eq_false_iff_ne]; exact t4
        obtain rfl : r = false := by rw [hal3.out]; simp [stOk, t1, t2, t3, t4]
        clear t4 t3 t2 t1
        refine bgo ?_
        trivial
      · obtain rfl : r = false := by rw [hal2b.out, ha]; simp
        clear ha hdp
        refine bgo ?_
        trivial
    · have hal3 : Go.RowKit.Hid (r = stOk s ⟨m, ds, dd, dt⟩) := by show r = _; rw [hal2b.out]; simp
      clear hal2b hdp
      by_cases t1 : dt = 1
      · have k1 : (dt == 1) = true := by rw [beq_iff_eq]; exact t1
        have hst : stOk s ⟨m, ds, dd, dt⟩ = (decide (dd ≥ s.day) && !s.ov) := by simp [stOk, t1]
        rw [hst] at hal3
        clear hst t1
        by_cases hge : dd ≥ s.day
        · rw [decide_eq_true hge, Bool.true_and] at hal3
          cases hov : s.ov
          · obtain rfl : r = true := by rw [hal3.out, hov]; rfl
            refine bgo ?_
            trivial
          · obtain rfl : r = false := by rw [hal3.out, hov]; rfl
            refine bgo ?_
            trivial
        · obtain rfl : r = false := by rw [hal3.out, decide_eq_false hge]; rfl
          refine bgo ?_
          trivial
      have k1 : (dt == 1) = false := by rw [beq_eq_false_iff_ne]; exact t1
      by_cases t2 : dt = 2
      · have k2 : (dt == 2) = true := by rw [beq_iff_eq]; exact t2
        obtain rfl : r = true := by rw [hal3.out]; simp [stOk, t2]
        clear t2 t1
        refine bgo ?_
        trivial
      have k2 : (dt == 2) = false := by rw [beq_eq_false_iff_ne]; exact t2
      by_cases t3 : dt = 3
      · have k3 : (dt == 3) = true := by rw [beq_iff_eq]; exact t3
        have hst : stOk s ⟨m, ds, dd, dt⟩ = decide (dd < s.day) := by simp [stOk, t3]
        rw [hst] at hal3
        clear hst t3 t2 t1
        by_cases hge : dd < s.day
        · obtain rfl : r = true := by rw [hal3.out]; exact decide_eq_true hge
          refine bgo ?_
          trivial
        · obtain rfl : r = false := by rw [hal3.out]; exact decide_eq_false hge
          refine bgo ?_
          trivial
      have k3 : (dt == 3) = false := by rw [beq_eq_false_iff_ne]; exact t3
      by_cases t4 : dt = 4
      · have k4 : (dt == 4) = true := by rw [beq_iff_eq]; exact t4
        obtain rfl : r = s.ov := by rw [hal3.out]; simp [stOk, t4]
        clear t4 t3 t2 t1
        refine bgo ?_
        trivial
      have k4 : (dt == 4) = false := by rw [beq_eq_false_iff_ne]; exact t4
      obtain rfl : r = false := by rw [hal3.out]; simp [stOk, t1, t2, t3, t4]
      clear t4 t3 t2 t1
      refine bgo ?_
      trivial
end Go.Bee.C24v


namespace Go.Bee.C24v
open Go Go.Bee Go.Proofs Go.Bee.Ty Go.Bee.C23 Go.Bee.C23s Go.Bee.Da Go.Bee.C24 Go.Bee.C24c Go.Bee.C24d Go.Bee.C24n Go.Bee.C24x Go.Bee.C24w Go.Bee.Cn
set_option linter.unusedVariables false
set_option maxRecDepth 20000
attribute [local irreducible] Go.Bee.bwp
set_option maxHeartbeats 4000000 in
theorem l9Duty_b (c : Ct) (s : Sa) (i : Nat) (d : Du) (hd : s.ds[i]? = some d) (hday : 0 ≤ s.day ∧ s.day ≤ 36524) (hwi : ∀ x ∈ c.cs, 0 ≤ x.wi ∧ x.wi ≤ 400) : BRet Tryz.prog 76 [] [.agg [.d (.sl 1 (c.ps.map .str)), .d (.sl 12 (c.cs.map Cl.e))], .agg [.int s.day, .d (.sl 1 (s.fs.map .str)), .d (.sl 4 (s.ds.map Du.e)), .d (.sl 1 (s.bs.map (.int .i64))), .bool s.ov], .int i] (.bool (duS c s i d)) [] := by
  refine BRet.alen 0 1 (by kernel_rfl) rfl rfl fun hl1 => ?_
  refine BRet.alen 1 2 (by kernel_rfl) rfl rfl fun hl2 => ?_
  rw [List.length_map] at hl1 hl2
  have hi : i < s.ds.length := (List.getElem?_eq_some_iff.1 hd).1
  obtain ⟨r, hr⟩ : ∃ r, Go.RowKit.Hid (duS c s i d = r) := ⟨_, rfl⟩
  rw [hr.out]
  obtain ⟨dc, ds, dd, dt⟩ := d
  refine bof Tryz.func76 ?_
  refine bgo ?_
  refine b_call (l1In_b dc 0 (c.cs.length - 1)) rfl rfl rfl rfl ?_
  cases h1 : inB dc 0 (c.cs.length - 1)
  · obtain rfl : r = false := by rw [← hr.out]; simp [duS, duB, h1]
    refine bgo ?_
    trivial
  have h1b := h1
  unfold inB at h1b
  simp only [Bool.and_eq_true, decide_eq_true_eq] at h1b
  obtain ⟨m, rfl⟩ : ∃ m : Nat, dc = m := ⟨dc.toNat, by omega⟩
  have hm : m < c.cs.length := by omega
  have hy : c.cs[m]? = some c.cs[m] := List.getElem?_eq_getElem hm
  have hyw := hwi c.cs[m] (List.getElem_mem hm)
  have hdp := l6Dependent_b c m c.cs[m] hy
  have hdn : depN c m = c.cs.any fun x => x.rp == c.cs[m].id := by unfold depN; rw [Int.toNat_natCast, hy]
  rw [← hdn] at hdp
  obtain ⟨bo, hbo⟩ : ∃ bo, Go.RowKit.Hid (r = (decide (c.cs[m].k = 1) && inB ds 0 s.day && decide (dd = ds + c.cs[m].wi) && inB dd 0 36524 && (decide (i = 0) || !decide (ds < (s.ds.getD (i - 1) ⟨0, 0, 0, 0⟩).s)) && stOk s ⟨m, ds, dd, dt⟩ && (depN c m || decide ((s.ds.filter fun o : Du => o.c == (m : Int)).length = 1))) ∧ bo = true) := ⟨true, by
    show r = _ ∧ _
    refine ⟨?_, rfl⟩
    rw [← hr.out]
    simp only [duS, duB, h1, Int.toNat_natCast, hy, Bool.true_and]⟩
  have hall : Go.RowKit.Hid (r = (decide (c.cs[m].k = 1) && inB ds 0 s.day && decide (dd = ds + c.cs[m].wi) && inB dd 0 36524 && (decide (i = 0) || !decide (ds < (s.ds.getD (i - 1) ⟨0, 0, 0, 0⟩).s)) && stOk s ⟨m, ds, dd, dt⟩ && (depN c m || decide ((s.ds.filter fun o : Du => o.c == (m : Int)).length = 1)))) := hbo.out.1
  clear hr hbo bo h1 hwi hdn
  generalize depN c m = dp at *
  generalize c.cs[m] = y at *
  by_cases hk : y.k = 1
  rotate_left
  · obtain rfl : r = false := by rw [hall.out]; simp [hk]
    have g1 : (y.k != 1) = true := by rw [bne_iff_ne]; exact hk
    clear hk hdp
    refine bgo ?_
    trivial
  have g1 : (y.k != 1) = false := by rw [hk]; rfl
  replace hk : Go.RowKit.Hid (y.k = 1) := hk
  refine bgo ?_
  refine b_call (l1In_b ds 0 s.day) rfl rfl rfl rfl ?_
  cases h3 : inB ds 0 s.day
  · obtain rfl : r = false := by rw [hall.out]; simp [h3]
    clear hdp
    refine bgo ?_
    trivial
  have h3b := h3
  unfold inB at h3b
  simp only [Bool.and_eq_true, decide_eq_true_eq] at h3b
  have hsum : 0 ≤ ds + y.wi ∧ ds + y.wi ≤ 36924 := by omega
  by_cases he : dd = ds + y.wi
  rotate_left
  · obtain rfl : r = false := by rw [hall.out]; simp [he]
    have g2 : (dd != ds + y.wi) = true := by rw [bne_iff_ne]; exact he
    clear he hdp
    refine bgo ?_
    trivial
  have g2 : (dd != ds + y.wi) = false := by rw [he]; exact bne_self_eq_false _
  replace he : Go.RowKit.Hid (dd = ds + y.wi) := he
  refine bgo ?_
  refine b_call (l3Good_b dd) rfl rfl rfl rfl ?_
  cases h5 : inB dd 0 36524
  · obtain rfl : r = false := by rw [hall.out]; simp [h5]
    clear hdp
    refine bgo ?_
    trivial
  have h5b := h5
  unfold inB at h5b
  simp only [Bool.and_eq_true, decide_eq_true_eq] at h5b
  have hal2 : Go.RowKit.Hid (r = ((decide (i = 0) || !decide (ds < (s.ds.getD (i - 1) ⟨0, 0, 0, 0⟩).s)) && stOk s ⟨m, ds, dd, dt⟩ && (dp || decide ((s.ds.filter fun o : Du => o.c == (m : Int)).length = 1)))) := by
    show r = _
    rw [hall.out, decide_eq_true hk.out, decide_eq_true he.out, h3, h5]; simp only [Bool.true_and]
  clear hall hk he h3 h5 g1
  refine bgo ?_
  refine b_call (l1In_b dt 1 4) rfl rfl rfl rfl ?_
  cases h7 : inB dt 1 4
  · have hno : ¬ (1 ≤ dt ∧ dt ≤ 4) := by
      intro hh
      unfold inB at h7
      rw [decide_eq_true (show dt ≥ 1 from hh.1), decide_eq_true hh.2] at h7
      cases h7
    obtain rfl : r = false := by
      rw [hal2.out]
      have : stOk s ⟨m, ds, dd, dt⟩ = false := by
        unfold stOk
        rw [if_neg (by show ¬ dt = 1; omega), if_neg (by show ¬ dt = 2; omega), if_neg (by show ¬ dt = 3; omega), if_neg (by show ¬ dt = 4; omega)]
      rw [this]; simp
    clear hdp
    refine bgo ?_
    trivial
  have h7b := h7
  unfold inB at h7b
  simp only [Bool.and_eq_true, decide_eq_true_eq] at h7b
  have hcn := l9Duties_b s m
  generalize (s.ds.filter fun o : Du => o.c == (m : Int)).length = cn at *
  clear h7
  cases i with
  | zero =>
    have hal2b : Go.RowKit.Hid (r = (stOk s ⟨m, ds, dd, dt⟩ && (dp || decide (cn = 1)))) := by show r = _; rw [hal2.out]; simp
    clear hal2
    rcases (by omega : dt = 1 ∨ dt = 2 ∨ dt = 3 ∨ dt = 4) with ht | ht | ht | ht
    · have k1 : (dt == 1) = true := by rw [beq_iff_eq]; exact ht
      have k3 : (dt == 3) = false := by rw [beq_eq_false_iff_ne]; omega
      have k4 : (dt == 4) = false := by rw [beq_eq_false_iff_ne]; omega
      replace ht : Go.RowKit.Hid (dt = 1) := ht
      by_cases hge : dd < s.day
      · obtain rfl : r = false := by rw [hal2b.out]; simp [stOk, ht.out, show ¬ s.day ≤ dd by omega]
        clear hal2b hdp hcn
        refine bgo ?_
        trivial
      cases hov : s.ov
      · rw [hov] at hcn
        have hal3 : Go.RowKit.Hid (r = (dp || decide (cn = 1))) := by show r = _; rw [hal2b.out]; simp [stOk, ht.out, show s.day ≤ dd by omega, hov]
        clear hal2b
        refine bgo ?_
        refine b_call hdp rfl rfl rfl rfl ?_
        cases dp
        · refine bgo ?_
          refine b_call hcn rfl rfl rfl rfl ?_
          by_cases hc1 : cn = 1
          · obtain rfl : r = true := by rw [hal3.out]; simp [hc1]
            have q1 : ((cn : Int) == 1) = true := by rw [beq_iff_eq]; omega
            clear hc1
            refine bgo ?_
            trivial
          · obtain rfl : r = false := by rw [hal3.out]; simp [hc1]
            have q1 : ((cn : Int) == 1) = false := by rw [beq_eq_false_iff_ne]; omega
            clear hc1
            refine bgo ?_
            trivial
        · obtain rfl : r = true := by rw [hal3.out]; rfl
          refine bgo ?_
          trivial
      · obtain rfl : r = false := by rw [hal2b.out]; simp [stOk, ht.out, hov]
        clear hal2b hdp hcn
        refine bgo ?_
        trivial
    · have k1 : (dt == 1) = false := by rw [beq_eq_false_iff_ne]; omega
      have k3 : (dt == 3) = false := by rw [beq_eq_false_iff_ne]; omega
      have k4 : (dt == 4) = false := by rw [beq_eq_false_iff_ne]; omega
      replace ht : Go.RowKit.Hid (dt = 2) := ht
      have hal3 : Go.RowKit.Hid (r = (dp || decide (cn = 1))) := by show r = _; rw [hal2b.out]; simp [stOk, ht.out]
      clear hal2b
      refine bgo ?_
      refine b_call hdp rfl rfl rfl rfl ?_
      cases dp
      · refine bgo ?_
        refine b_call hcn rfl rfl rfl rfl ?_
        by_cases hc1 : cn = 1
        · obtain rfl : r = true := by rw [hal3.out]; simp [hc1]
          have q1 : ((cn : Int) == 1) = true := by rw [beq_iff_eq]; omega
          clear hc1
          refine bgo ?_
          trivial
        · obtain rfl : r = false := by rw [hal3.out]; simp [hc1]
          have q1 : ((cn : Int) == 1) = false := by rw [beq_eq_false_iff_ne]; omega
          clear hc1
          refine bgo ?_
          trivial
      · obtain rfl : r = true := by rw [hal3.out]; rfl
        refine bgo ?_
        trivial
    · have k1 : (dt == 1) = false := by rw [beq_eq_false_iff_ne]; omega
      have k3 : (dt == 3) = true := by rw [beq_iff_eq]; exact ht
      have k4 : (dt == 4) = false := by rw [beq_eq_false_iff_ne]; omega
      replace ht : Go.RowKit.Hid (dt = 3) := ht
      by_cases hge : dd ≥ s.day
      · obtain rfl : r = false := by rw [hal2b.out]; simp [stOk, ht.out, show ¬ dd < s.day by omega]
        clear hal2b hdp hcn
        refine bgo ?_
        trivial
      have hal3 : Go.RowKit.Hid (r = (dp || decide (cn = 1))) := by show r = _; rw [hal2b.out]; simp [stOk, ht.out, show dd < s.day by omega]
      clear hal2b
      refine bgo ?_
      refine b_call hdp rfl rfl rfl rfl ?_
      cases dp
      · refine bgo ?_
        refine b_call hcn rfl rfl rfl rfl ?_
        by_cases hc1 : cn = 1
        · obtain rfl : r = true := by rw [hal3.out]; simp [hc1]
          have q1 : ((cn : Int) == 1) = true := by rw [beq_iff_eq]; omega
          clear hc1
          refine bgo ?_
          trivial
        · obtain rfl : r = false := by rw [hal3.out]; simp [hc1]
          have q1 : ((cn : Int) == 1) = false := by rw [beq_eq_false_iff_ne]; omega
          clear hc1
          refine bgo ?_
          trivial
      · obtain rfl : r = true := by rw [hal3.out]; rfl
        refine bgo ?_
        trivial
    · have k1 : (dt == 1) = false := by rw [beq_eq_false_iff_ne]; omega
      have k3 : (dt == 3) = false := by rw [beq_eq_false_iff_ne]; omega
      have k4 : (dt == 4) = true := by rw [beq_iff_eq]; exact ht
      replace ht : Go.RowKit.Hid (dt = 4) := ht
      cases hov : s.ov
      · obtain rfl : r = false := by rw [hal2b.out]; simp [stOk, ht.out, hov]
        clear hal2b hdp hcn
        refine bgo ?_
        trivial
      · rw [hov] at hcn
        have hal3 : Go.RowKit.Hid (r = (dp || decide (cn = 1))) := by show r = _; rw [hal2b.out]; simp [stOk, ht.out, hov]
        clear hal2b
        refine bgo ?_
        refine b_call hdp rfl rfl rfl rfl ?_
        cases dp
        · refine bgo ?_
          refine b_call hcn rfl rfl rfl rfl ?_
          by_cases hc1 : cn = 1
          · obtain rfl : r = true := by rw [hal3.out]; simp [hc1]
            have q1 : ((cn : Int) == 1) = true := by rw [beq_iff_eq]; omega
            clear hc1
            refine bgo ?_
            trivial
          · obtain rfl : r = false := by rw [hal3.out]; simp [hc1]
            have q1 : ((cn : Int) == 1) = false := by rw [beq_eq_false_iff_ne]; omega
            clear hc1
            refine bgo ?_
            trivial
        · obtain rfl : r = true := by rw [hal3.out]; rfl
          refine bgo ?_
          trivial
  | succ j =>
    have hp : s.ds[j]? = some s.ds[j] := List.getElem?_eq_getElem (by omega)
    have e0 : ((j + 1 : Nat) : Int) > 0 := by omega
    have e1 : ((j + 1 : Nat) : Int) - 1 = j := by omega
    have hgd : s.ds.getD (j + 1 - 1) ⟨0, 0, 0, 0⟩ = s.ds[j] := by simp [show j < s.ds.length by omega]
    rw [hgd] at hal2
    clear hgd
    generalize s.ds[j] = p at *
    by_cases hps : p.s > ds
    · obtain rfl : r = false := by rw [hal2.out]; simp [show ds < p.s from hps]
      clear hdp hcn
      refine bgo ?_
      trivial
    have hal2b : Go.RowKit.Hid (r = (stOk s ⟨m, ds, dd, dt⟩ && (dp || decide (cn = 1)))) := by show r = _; rw [hal2.out]; simp [show ¬ ds < p.s from hps]
    clear hal2
    rcases (by omega : dt = 1 ∨ dt = 2 ∨ dt = 3 ∨ dt = 4) with ht | ht | ht | ht
    · have k1 : (dt == 1) = true := by rw [beq_iff_eq]; exact ht
      have k3 : (dt == 3) = false := by rw [beq_eq_false_iff_ne]; omega
      have k4 : (dt == 4) = false := by rw [beq_eq_false_iff_ne]; omega
      replace ht : Go.RowKit.Hid (dt = 1) := ht
      by_cases hge : dd < s.day
      · obtain rfl : r = false := by rw [hal2b.out]; simp [stOk, ht.out, show ¬ s.day ≤ dd by omega]
        clear hal2b hdp hcn
        refine bgo ?_
        trivial
      cases hov : s.ov
      · rw [hov] at hcn
        have hal3 : Go.RowKit.Hid (r = (dp || decide (cn = 1))) := by show r = _; rw [hal2b.out]; simp [stOk, ht.out, show s.day ≤ dd by omega, hov]
        clear hal2b
        refine bgo ?_
        refine b_call hdp rfl rfl rfl rfl ?_
        cases dp
        · refine bgo ?_
          refine b_call hcn rfl rfl rfl rfl ?_
          by_cases hc1 : cn = 1
          · obtain rfl : r = true := by rw [hal3.out]; simp [hc1]
            have q1 : ((cn : Int) == 1) = true := by rw [beq_iff_eq]; omega
            clear hc1
            refine bgo ?_
            trivial
          · obtain rfl : r = false := by rw [hal3.out]; simp [hc1]
            have q1 : ((cn : Int) == 1) = false := by rw [beq_eq_false_iff_ne]; omega
            clear hc1
            refine bgo ?_
            trivial
        · obtain rfl : r = true := by rw [hal3.out]; rfl
          refine bgo ?_
          trivial
      · obtain rfl : r = false := by rw [hal2b.out]; simp [stOk, ht.out, hov]
        clear hal2b hdp hcn
        refine bgo ?_
        trivial
    · have k1 : (dt == 1) = false := by rw [beq_eq_false_iff_ne]; omega
      have k3 : (dt == 3) = false := by rw [beq_eq_false_iff_ne]; omega
      have k4 : (dt == 4) = false := by rw [beq_eq_false_iff_ne]; omega
      replace ht : Go.RowKit.Hid (dt = 2) := ht
      have hal3 : Go.RowKit.Hid (r = (dp || decide (cn = 1))) := by show r = _; rw [hal2b.out]; simp [stOk, ht.out]
      clear hal2b
      refine bgo ?_
      refine b_call hdp rfl rfl rfl rfl ?_
      cases dp
      · refine bgo ?_
        refine b_call hcn rfl rfl rfl rfl ?_
        by_cases hc1 : cn = 1
        · obtain rfl : r = true := by rw [hal3.out]; simp [hc1]
          have q1 : ((cn : Int) == 1) = true := by rw [beq_iff_eq]; omega
          clear hc1
          refine bgo ?_
          trivial
        · obtain rfl : r = false := by rw [hal3.out]; simp [hc1]
          have q1 : ((cn : Int) == 1) = false := by rw [beq_eq_false_iff_ne]; omega
          clear hc1
          refine bgo ?_
          trivial
      · obtain rfl : r = true := by rw [hal3.out]; rfl
        refine bgo ?_
        trivial
    · have k1 : (dt == 1) = false := by rw [beq_eq_false_iff_ne]; omega
      have k3 : (dt == 3) = true := by rw [beq_iff_eq]; exact ht
      have k4 : (dt == 4) = false := by rw [beq_eq_false_iff_ne]; omega
      replace ht : Go.RowKit.Hid (dt = 3) := ht
      by_cases hge : dd ≥ s.day
      · obtain rfl : r = false := by rw [hal2b.out]; simp [stOk, ht.out, show ¬ dd < s.day by omega]
        clear hal2b hdp hcn
        refine bgo ?_
        trivial
      have hal3 : Go.RowKit.Hid (r = (dp || decide (cn = 1))) := by show r = _; rw [hal2b.out]; simp [stOk, ht.out, show dd < s.day by omega]
      clear hal2b
      refine bgo ?_
      refine b_call hdp rfl rfl rfl rfl ?_
      cases dp
      · refine bgo ?_
        refine b_call hcn rfl rfl rfl rfl ?_
        by_cases hc1 : cn = 1
        · obtain rfl : r = true := by rw [hal3.out]; simp [hc1]
          have q1 : ((cn : Int) == 1) = true := by rw [beq_iff_eq]; omega
          clear hc1
          refine bgo ?_
          trivial
        · obtain rfl : r = false := by rw [hal3.out]; simp [hc1]
          have q1 : ((cn : Int) == 1) = false := by rw [beq_eq_false_iff_ne]; omega
          clear hc1
          refine bgo ?_
          trivial
      · obtain rfl : r = true := by rw [hal3.out]; rfl
        refine bgo ?_
        trivial
    · have k1 : (dt == 1) = false := by rw [beq_eq_false_iff_ne]; omega
      have k3 : (dt == 3) = false := by rw [beq_eq_false_iff_ne]; omega
      have k4 : (dt == 4) = true := by rw [beq_iff_eq]; exact ht
      replace ht : Go.RowKit.Hid (dt = 4) := ht
      cases hov : s.ov
      · obtain rfl : r = false := by rw [hal2b.out]; simp [stOk, ht.out, hov]
        clear hal2b hdp hcn
        refine bgo ?_
        trivial
      · rw [hov] at hcn
        have hal3 : Go.RowKit.Hid (r = (dp || decide (cn = 1))) := by show r = _; rw [hal2b.out]; simp [stOk, ht.out, hov]
        clear hal2b
        refine bgo ?_
        refine b_call hdp rfl rfl rfl rfl ?_
        cases dp
        · refine bgo ?_
          refine b_call hcn rfl rfl rfl rfl ?_
          by_cases hc1 : cn = 1
          · obtain rfl : r = true := by rw [hal3.out]; simp [hc1]
            have q1 : ((cn : Int) == 1) = true := by rw [beq_iff_eq]; omega
            clear hc1
            refine bgo ?_
            trivial
          · obtain rfl : r = false := by rw [hal3.out]; simp [hc1]
            have q1 : ((cn : Int) == 1) = false := by rw [beq_eq_false_iff_ne]; omega
            clear hc1
            refine bgo ?_
            trivial
        · obtain rfl : r = true := by rw [hal3.out]; rfl
          refine bgo ?_
          trivial
end Go.Bee.C24v


namespace Go.Bee.Cn
open Go Go.Bee Go.Bee.Ty Go.Bee.C23s Go.Bee.Da
set_option linter.unusedVariables false
theorem filter_split {l : List Du} {i : Nat} {d : Du} (h : l[i]? = some d) (p : Du → Bool) (hp : p d = true) : (l.filter p).length = ((l.take i).filter p).length + 1 + ((l.drop (i + 1)).filter p).length := by
  have hi := List.getElem?_eq_some_iff.1 h
  have e : l = l.take i ++ d :: l.drop (i + 1) := by
    rw [← hi.2, ← List.drop_eq_getElem_cons hi.1, List.take_append_drop]
  have h1 : (l.filter p).length = ((l.take i ++ d :: l.drop (i + 1)).filter p).length := congrArg (fun m => (List.filter p m).length) e
  rw [h1, List.filter_append, List.length_append, List.filter_cons, if_pos hp, List.length_cons]; omega
theorem du_fwd {c : Ct} {s : Sa} (h : ∀ i d, s.ds[i]? = some d → duI c s i d = true) : ∀ i d, s.ds[i]? = some d → duS c s i d = true := by
  intro i d hd
  have hI := h i d hd
  unfold duI at hI
  rw [Bool.and_eq_true] at hI
  unfold duS
  rw [hI.1, Bool.true_and]
  cases hdep : depN c d.c
  · rw [hdep, Bool.false_or] at hI
    have hany : ((s.ds.take i).any fun o => o.c == d.c) = false := by simpa using hI.2
    rw [Bool.false_or]
    refine decide_eq_true ?_
    have hsp := filter_split hd (fun o => o.c == d.c) (by simp)
    have h0 : ((s.ds.take i).filter fun o => o.c == d.c) = [] := by
      rw [List.filter_eq_nil_iff]
      intro a ha
      have := List.any_eq_false.1 hany a ha
      simpa using this
    have h2 : ((s.ds.drop (i + 1)).filter fun o => o.c == d.c) = [] := by
      rw [List.filter_eq_nil_iff]
      intro a ha hac
      have hac : a.c = d.c := by simpa using hac
      obtain ⟨k, hk, hka⟩ := List.mem_iff_getElem.1 ha
      rw [List.length_drop] at hk
      rw [List.getElem_drop] at hka
      have hk2 : i + 1 + k < s.ds.length := by omega
      have hK := h (i + 1 + k) a (by rw [List.getElem?_eq_getElem hk2, hka])
      unfold duI at hK
      rw [Bool.and_eq_true, hac, hdep, Bool.false_or] at hK
      have hf : ((s.ds.take (i + 1 + k)).any fun o => o.c == d.c) = false := by simpa using hK.2
      have hdm : d ∈ s.ds.take (i + 1 + k) := by
        have hi := List.getElem?_eq_some_iff.1 hd
        rw [List.mem_take_iff_getElem]
        exact ⟨i, by omega, hi.2⟩
      have := List.any_eq_false.1 hf d hdm
      simp at this
    rw [hsp, h0, h2]; rfl
  · rfl
theorem du_bwd {c : Ct} {s : Sa} (h : ∀ i d, s.ds[i]? = some d → duS c s i d = true) : ∀ i d, s.ds[i]? = some d → duI c s i d = true := by
  intro i d hd
  have hS := h i d hd
  unfold duS at hS
  rw [Bool.and_eq_true] at hS
  unfold duI
  rw [hS.1, Bool.true_and]
  cases hdep : depN c d.c
  · rw [hdep, Bool.false_or] at hS
    have hc := of_decide_eq_true hS.2
    have hsp := filter_split hd (fun o => o.c == d.c) (by simp)
    rw [hc] at hsp
    have h0 : ((s.ds.take i).filter fun o => o.c == d.c) = [] := List.eq_nil_of_length_eq_zero (by omega)
    rw [Bool.false_or]
    have : ((s.ds.take i).any fun o => o.c == d.c) = false := by
      rw [List.any_eq_false]
      intro a ha
      have := List.filter_eq_nil_iff.1 h0 a ha
      simpa using this
    rw [this]; rfl
  · rfl
def duIA (c : Ct) (s : Sa) (i : Nat) : Bool := match s.ds[i]? with | some d => duI c s i d | none => true
def duSA (c : Ct) (s : Sa) (i : Nat) : Bool := match s.ds[i]? with | some d => duS c s i d | none => true
theorem range_all {n : Nat} {p : Nat → Bool} : (List.range n).all p = true ↔ ∀ i, i < n → p i = true := by
  rw [List.all_eq_true]
  exact ⟨fun h i hi => h i (List.mem_range.2 hi), fun h x hx => h x (List.mem_range.1 hx)⟩
theorem du_all (c : Ct) (s : Sa) : (List.range s.ds.length).all (duIA c s) = (List.range s.ds.length).all (duSA c s) := by
  have e1 : (List.range s.ds.length).all (duIA c s) = true ↔ ∀ i d, s.ds[i]? = some d → duI c s i d = true := by
    rw [range_all]
    constructor
    · intro h i d hd
      have := h i (List.getElem?_eq_some_iff.1 hd).1
      unfold duIA at this
      rwa [hd] at this
    · intro h i hi
      unfold duIA
      rw [List.getElem?_eq_getElem hi]
      exact h i _ (List.getElem?_eq_getElem hi)
  have e2 : (List.range s.ds.length).all (duSA c s) = true ↔ ∀ i d, s.ds[i]? = some d → duS c s i d = true := by
    rw [range_all]
    constructor
    · intro h i d hd
      have := h i (List.getElem?_eq_some_iff.1 hd).1
      unfold duSA at this
      rwa [hd] at this
    · intro h i hi
      unfold duSA
      rw [List.getElem?_eq_getElem hi]
      exact h i _ (List.getElem?_eq_getElem hi)
  rw [Bool.eq_iff_iff, e1, e2]
  exact ⟨du_fwd, du_bwd⟩
def saOk (c : Ct) (s : Sa) : Bool :=
  inB s.day 0 36524 && fcOk s.fs && (s.fs.all fun f => (names2 c.cs).contains f) && decide (s.ds.length ≤ 24) && decide (s.bs.length = c.ps.length) && decide (sumW s.bs = 0) &&
  (List.range s.ds.length).all (duSA c s) && s.bs.all fun b => inB b (-1000000000) 1000000000
end Go.Bee.Cn


namespace Go.Bee.C24v
open Go Go.Bee Go.Proofs Go.Bee.Ty Go.Bee.C23 Go.Bee.C23s Go.Bee.Da Go.Bee.C24 Go.Bee.C24c Go.Bee.C24d Go.Bee.C24n Go.Bee.C24x Go.Bee.C24w Go.Bee.Cn
set_option linter.unusedVariables false
set_option maxRecDepth 20000
attribute [local irreducible] Go.Bee.bwp
theorem ct_parts {c : Ct} (h : ctOk c = true) : c.ps.length ≤ 4 ∧ c.cs.length ≤ 12 ∧ clsOk c = true ∧ (∀ x ∈ c.cs, 0 ≤ x.wi ∧ x.wi ≤ 400) ∧ (∀ x ∈ c.cs, okCd x.w = true) := by
  unfold ctOk at h
  simp only [Bool.and_eq_true] at h
  obtain ⟨⟨⟨h1, h2⟩, h3⟩, h4⟩ := h
  refine ⟨?_, ?_, h3, fun x hx => ?_, cls_w h3⟩
  · unfold parOk inB at h1
    simp only [Bool.and_eq_true, decide_eq_true_eq] at h1
    omega
  · unfold inB at h2
    simp only [Bool.and_eq_true, decide_eq_true_eq] at h2
    omega
  · obtain ⟨i, hi, rfl⟩ := List.mem_iff_getElem.1 hx
    have hc := cls_at h3 (List.getElem?_eq_getElem hi)
    unfold clOk at hc
    simp only [Bool.and_eq_true] at hc
    have := hc.1.2.1.2
    unfold inB at this
    simp only [Bool.and_eq_true, decide_eq_true_eq] at this
    omega
theorem fn_b {c : Ct} (h : ctOk c = true) : BRet Tryz.prog 58 [] [.agg [.d (.sl 1 (c.ps.map .str)), .d (.sl 12 (c.cs.map Cl.e))]] (.d (.sl 1 ((names2 c.cs).map .str))) [] := by
  obtain ⟨h1, h2, h3, h4, h5⟩ := ct_parts h
  have := factNames_b c h2 (fun x hx => (okCd_in (h5 x hx)).2)
  rwa [names_srt c.cs (fun x hx => (okCd_in (h5 x hx)).1)] at this
theorem ln_b {c : Ct} (h : ctOk c = true) : BRet Tryz.prog 51 [] [.agg [.d (.sl 1 (c.ps.map .str)), .d (.sl 12 (c.cs.map Cl.e))]] (.d (.sl 1 ((names2 c.cs).map .str))) [] := by
  obtain ⟨h1, h2, h3, h4, h5⟩ := ct_parts h
  exact l6Names_b c h2 (fun x hx => (okCd_in (h5 x hx)).2)
theorem any_not {α : Type} (l : List α) (p : α → Bool) : (l.any fun a => !p a) = !l.all p := by
  induction l with
  | nil => rfl
  | cons a l ih => rw [List.any_cons, List.all_cons, ih, Bool.not_and]
theorem isState_b (c : Ct) (s : Sa) (h : ctOk c = true) : BRet Tryz.prog 45 [] [.agg [.d (.sl 1 (c.ps.map .str)), .d (.sl 12 (c.cs.map Cl.e))], .agg [.int s.day, .d (.sl 1 (s.fs.map .str)), .d (.sl 4 (s.ds.map Du.e)), .d (.sl 1 (s.bs.map (.int .i64))), .bool s.ov]] (.bool (saOk c s)) [] := by
  obtain ⟨hp4, hc12, -, hwi, -⟩ := ct_parts h
  have hfn := fn_b h
  refine BRet.alen 1 1 (by kernel_rfl) rfl rfl fun hl1 => ?_
  refine BRet.alen 1 2 (by kernel_rfl) rfl rfl fun hl2 => ?_
  refine BRet.alen 1 3 (by kernel_rfl) rfl rfl fun hl3 => ?_
  rw [List.length_map] at hl1 hl2 hl3
  obtain ⟨r, hr⟩ : ∃ r, Go.RowKit.Hid (saOk c s = r) := ⟨_, rfl⟩
  rw [hr.out]
  have hall : Go.RowKit.Hid (r = (inB s.day 0 36524 && fcOk s.fs && (s.fs.all fun f => (names2 c.cs).contains f) && decide (s.ds.length ≤ 24) && decide (s.bs.length = c.ps.length) && decide (sumW s.bs = 0) &&
    (List.range s.ds.length).all (duIA c s) && s.bs.all fun b => inB b (-1000000000) 1000000000)) := by show r = _; rw [← hr.out, du_all]; rfl
  clear hr
  generalize names2 c.cs = nn at *
  refine bof Tryz.func45 ?_
  refine bgo ?_
  refine b_call hfn rfl rfl rfl rfl ?_
  clear hfn
  refine bgo ?_
  refine b_call (isDay_b s.day) rfl rfl rfl rfl ?_
  cases h1 : inB s.day 0 36524
  · obtain rfl : r = false := by rw [hall.out]; simp [h1]
    refine bgo ?_
    trivial
  have hday : 0 ≤ s.day ∧ s.day ≤ 36524 := by
    have := h1
    unfold inB at this
    simp only [Bool.and_eq_true, decide_eq_true_eq] at this
    omega
  refine bgo ?_
  refine b_call (isFactList_b s.fs) rfl rfl rfl rfl ?_
  cases h2 : fcOk s.fs
  · obtain rfl : r = false := by rw [hall.out]; simp [h2]
    refine bgo ?_
    trivial
  refine bgo ?_
  refine b_callc2 (containsFuncStr_b (fun _ => True) s.fs (fun _ _ => trivial) (fun f => !nn.contains f)) rfl rfl rfl rfl (by exact Kof_ok (caps1 (.inr rfl) rfl rfl) (by kernel_rfl) fun f _ => isState1_b nn f) rfl ?_
  rw [any_not]
  cases h3 : s.fs.all fun f => nn.contains f
  · obtain rfl : r = false := by rw [hall.out]; simp only [h3, Bool.and_false, Bool.false_and]
    refine bgo ?_
    trivial
  by_cases h4 : (s.ds.length : Int) > 24
  · obtain rfl : r = false := by rw [hall.out, decide_eq_false (show ¬ s.ds.length ≤ 24 by omega)]; simp only [Bool.and_false, Bool.false_and]
    refine bgo ?_
    trivial
  by_cases h5 : (s.bs.length : Int) = c.ps.length
  rotate_left
  · obtain rfl : r = false := by rw [hall.out, decide_eq_false (show ¬ s.bs.length = c.ps.length by omega)]; simp only [Bool.and_false, Bool.false_and]
    have g5 : ((s.bs.length : Int) != c.ps.length) = true := by rw [bne_iff_ne]; exact h5
    clear h5
    refine bgo ?_
    trivial
  have g5 : ((s.bs.length : Int) != c.ps.length) = false := by rw [h5]; exact bne_self_eq_false _
  have h5n : s.bs.length = c.ps.length := by omega
  replace h5n : Go.RowKit.Hid (s.bs.length = c.ps.length) := h5n
  clear h5
  refine bgo ?_
  refine b_call (sumOf_b s.bs) rfl rfl rfl rfl ?_
  by_cases h6 : sumW s.bs = 0
  rotate_left
  · obtain rfl : r = false := by rw [hall.out, decide_eq_false h6]; simp only [Bool.and_false, Bool.false_and]
    have g6 : (sumW s.bs != 0) = true := by rw [bne_iff_ne]; exact h6
    clear h6
    refine bgo ?_
    trivial
  have g6 : (sumW s.bs != 0) = false := by rw [h6]; rfl
  have hal2 : Go.RowKit.Hid (r = ((List.range s.ds.length).all (duIA c s) && s.bs.all fun b => inB b (-1000000000) 1000000000)) := by
    show r = _
    rw [hall.out, h1, h2, h3, decide_eq_true (show s.ds.length ≤ 24 by omega), decide_eq_true h5n.out, decide_eq_true h6]
    simp only [Bool.true_and]
  clear hall h1 h2 h3 h5n h6
  refine bgo ?_
  refine b_lp (ι := Nat × Unit) (fun i => [(2, .ptr (.t 2) 0), (3, .ptr (.t 3) 0), (46, .int s.ds.length), (47, .int i.1)]) (fun _ => [(.t 2, [.d (.sl 1 (c.ps.map .str)), .d (.sl 12 (c.cs.map Cl.e))]), (.t 3, [.int s.day, .d (.sl 1 (s.fs.map .str)), .d (.sl 4 (s.ds.map Du.e)), .d (.sl 1 (s.bs.map (.int .i64))), .bool s.ov])]) (fun i => i.1 ≤ s.ds.length ∧ (List.range i.1).all (duIA c s) = true) (fun i => s.ds.length - i.1) (0, ()) hs ⟨Nat.zero_le _, rfl⟩ ?_
  rintro ⟨k, u⟩ ⟨hk, hj⟩ I nx
  dsimp only at hk hj ⊢
  by_cases hlt : k < s.ds.length
  · have hd : s.ds[k]? = some s.ds[k] := List.getElem?_eq_getElem hlt
    have hb : (k : Int) + 1 ≤ 1099511627776000 := by omega
    have hc := isDuty_b c s k s.ds[k] hd hday hwi
    have he : duIA c s k = duI c s k s.ds[k] := by unfold duIA; rw [hd]
    rw [← he] at hc
    have hst := fun h => range_all_step (p := duIA c s) (k := k) hj h
    have hbd : duIA c s k = false → (List.range s.ds.length).all (duIA c s) = false := fun h => by
      cases hx : (List.range s.ds.length).all (duIA c s)
      · rfl
      · rw [range_all.1 hx k hlt] at h; cases h
    clear hj he hd hwi
    cases hv : duIA c s k
    · obtain rfl : r = false := by rw [hal2.out, hbd hv]; rfl
      rw [hv] at hc
      clear hst hbd hv
      refine bgo ?_
      refine b_call hc rfl rfl rfl rfl ?_
      refine bgo ?_
      trivial
    · rw [hv] at hc
      have hst := hst hv
      clear hbd hv
      refine bgo ?_
      refine b_call hc rfl rfl rfl rfl ?_
      refine bgo ?_
      exact nx.go (k + 1, ()) ⟨hlt, hst⟩ (by dsimp only; omega) hs
  · have hk' : k = s.ds.length := by omega
    subst hk'
    have hrr : Go.RowKit.Hid (r = s.bs.all fun b => inB b (-1000000000) 1000000000) := by show r = _; rw [hal2.out, hj, Bool.true_and]
    clear hal2 hj hwi
    refine bgo ?_
    refine wk_rfl ?_
    refine bgo ?_
    refine b_callc2 (containsFuncInt_b (fun _ => True) s.bs (fun _ _ => trivial) (fun b => !inB b (-1000000000) 1000000000)) rfl rfl rfl rfl (by exact Kof_ok rfl (by kernel_rfl) fun b _ => isState2_b b) rfl ?_
    rw [any_not, ← hrr.out]
    refine bgo ?_
    first
      | trivial
      | simp
end Go.Bee.C24v


namespace Go.Bee.C24v
open Go Go.Bee Go.Proofs Go.Bee.Ty Go.Bee.C23 Go.Bee.C23s Go.Bee.Da Go.Bee.C24 Go.Bee.C24c Go.Bee.C24d Go.Bee.C24n Go.Bee.C24x Go.Bee.C24w Go.Bee.Cn
set_option linter.unusedVariables false
set_option maxRecDepth 20000
attribute [local irreducible] Go.Bee.bwp
theorem l9Good_b (c : Ct) (s : Sa) (hsz : ∀ x ∈ c.cs, x.w.size ≤ 1048577) : BRet Tryz.prog 41 [] [.agg [.d (.sl 1 (c.ps.map .str)), .d (.sl 12 (c.cs.map Cl.e))], .agg [.int s.day, .d (.sl 1 (s.fs.map .str)), .d (.sl 4 (s.ds.map Du.e)), .d (.sl 1 (s.bs.map (.int .i64))), .bool s.ov]] (.bool (ctOk c && saOk c s)) [] := by
  have hgo := l6Good_b c hsz
  refine BRet.alen 0 0 (by kernel_rfl) rfl rfl fun hl0 => ?_
  refine BRet.alen 1 1 (by kernel_rfl) rfl rfl fun hl1 => ?_
  refine BRet.alen 1 2 (by kernel_rfl) rfl rfl fun hl2 => ?_
  refine BRet.alen 1 3 (by kernel_rfl) rfl rfl fun hl3 => ?_
  rw [List.length_map] at hl0 hl1 hl2 hl3
  obtain ⟨r, hr⟩ : ∃ r, Go.RowKit.Hid ((ctOk c && saOk c s) = r) := ⟨_, rfl⟩
  rw [hr.out]
  clear hsz
  refine bof Tryz.func41 ?_
  refine bgo ?_
  refine b_call hgo rfl rfl rfl rfl ?_
  cases hct : ctOk c
  · obtain rfl : r = false := by rw [← hr.out, hct]; rfl
    refine bgo ?_
    trivial
  obtain ⟨hp4, hc12, -, hwi, -⟩ := ct_parts hct
  have hfn := ln_b hct
  have hall : Go.RowKit.Hid (r = (inB s.day 0 36524 && fcOk s.fs && (s.fs.all fun f => (names2 c.cs).contains f) && decide (s.ds.length ≤ 24) && decide (s.bs.length = c.ps.length) && decide (sumW s.bs = 0) &&
    (List.range s.ds.length).all (duSA c s) && s.bs.all fun b => inB b (-1000000000) 1000000000)) := by show r = _; rw [← hr.out, hct]; rfl
  clear hr hct
  generalize names2 c.cs = nn at *
  refine bgo ?_
  refine b_call (l3Good_b s.day) rfl rfl rfl rfl ?_
  cases h1 : inB s.day 0 36524
  · obtain rfl : r = false := by rw [hall.out]; simp [h1]
    refine bgo ?_
    trivial
  have hday : 0 ≤ s.day ∧ s.day ≤ 36524 := by
    have := h1
    unfold inB at this
    simp only [Bool.and_eq_true, decide_eq_true_eq] at this
    omega
  refine bgo ?_
  refine b_call (l5Facts_b s.fs) rfl rfl rfl rfl ?_
  cases h2 : fcOk s.fs
  · obtain rfl : r = false := by rw [hall.out]; simp [h2]
    refine bgo ?_
    trivial
  by_cases h4 : (s.ds.length : Int) > 24
  · obtain rfl : r = false := by rw [hall.out, decide_eq_false (show ¬ s.ds.length ≤ 24 by omega)]; simp only [Bool.and_false, Bool.false_and]
    refine bgo ?_
    trivial
  by_cases h5 : (s.bs.length : Int) = c.ps.length
  rotate_left
  · obtain rfl : r = false := by rw [hall.out, decide_eq_false (show ¬ s.bs.length = c.ps.length by omega)]; simp only [Bool.and_false, Bool.false_and]
    have g5 : ((s.bs.length : Int) != c.ps.length) = true := by rw [bne_iff_ne]; exact h5
    clear h5
    refine bgo ?_
    trivial
  have g5 : ((s.bs.length : Int) != c.ps.length) = false := by rw [h5]; exact bne_self_eq_false _
  have h5n : Go.RowKit.Hid (s.bs.length = c.ps.length) := by show _ = _; omega
  clear h5
  have hal2 : Go.RowKit.Hid (r = ((s.fs.all fun f => nn.contains f) && decide (sumW s.bs = 0) && (List.range s.ds.length).all (duSA c s) && s.bs.all fun b => inB b (-1000000000) 1000000000)) := by
    show r = _
    rw [hall.out, h1, h2, decide_eq_true (show s.ds.length ≤ 24 by omega), decide_eq_true h5n.out]
    simp only [Bool.true_and, Bool.and_true]
  clear hall h1 h2 h5n
  refine bgo ?_
  refine b_call hfn rfl rfl rfl rfl ?_
  clear hfn hgo
  refine bgo ?_
  refine b_lp (ι := Nat × Unit) (fun i => [(2, .ptr (.t 2) 0), (3, .ptr (.t 3) 0), (5, .d (.sl 1 (nn.map .str))), (6, .int i.1)]) (fun _ => [(.t 2, [.d (.sl 1 (c.ps.map .str)), .d (.sl 12 (c.cs.map Cl.e))]), (.t 3, [.int s.day, .d (.sl 1 (s.fs.map .str)), .d (.sl 4 (s.ds.map Du.e)), .d (.sl 1 (s.bs.map (.int .i64))), .bool s.ov])]) (fun i => i.1 ≤ s.fs.length ∧ ((s.fs.drop i.1).all fun f => nn.contains f) = (s.fs.all fun f => nn.contains f)) (fun i => s.fs.length - i.1) (0, ()) hs ⟨Nat.zero_le _, rfl⟩ ?_
  rintro ⟨k, u⟩ ⟨hk, hj⟩ I nx
  dsimp only at hk hj ⊢
  by_cases hlt : k < s.fs.length
  · have hx : s.fs[k]? = some s.fs[k] := List.getElem?_eq_getElem hlt
    have hb : (k : Int) + 1 ≤ 1099511627776000 := by omega
    rw [List.drop_eq_getElem_cons hlt, List.all_cons] at hj
    have hh := l5Has_b nn s.fs[k]
    generalize s.fs[k] = x at *
    cases hv : nn.contains x
    · rw [hv, Bool.false_and] at hj
      obtain rfl : r = false := by rw [hal2.out, ← hj]; rfl
      rw [hv] at hh
      clear hj hal2 hwi
      refine bgo ?_
      refine b_call hh rfl rfl rfl rfl ?_
      refine bgo ?_
      trivial
    · rw [hv, Bool.true_and] at hj
      rw [hv] at hh
      have hj2 : Go.RowKit.Hid (((s.fs.drop (k + 1)).all fun f => nn.contains f) = (s.fs.all fun f => nn.contains f)) := hj
      clear hj hwi
      refine bgo ?_
      refine b_call hh rfl rfl rfl rfl ?_
      refine bgo ?_
      exact nx.go (k + 1, ()) ⟨hlt, hj2.out⟩ (by dsimp only; omega) hs
  · have hk' : k = s.fs.length := by omega
    subst hk'
    rw [List.drop_length] at hj
    have hj : true = (s.fs.all fun f => nn.contains f) := hj
    have hal3 : Go.RowKit.Hid (r = (decide (sumW s.bs = 0) && (List.range s.ds.length).all (duSA c s) && s.bs.all fun b => inB b (-1000000000) 1000000000)) := by show r = _; rw [hal2.out, ← hj, Bool.true_and]
    clear hal2 hj nx
    refine bgo ?_
    refine wk_rfl ?_
    refine bgo ?_
    refine b_lp (ι := Nat × Unit) (fun i => [(2, .ptr (.t 2) 0), (3, .ptr (.t 3) 0), (7, .int i.1)]) (fun _ => [(.t 2, [.d (.sl 1 (c.ps.map .str)), .d (.sl 12 (c.cs.map Cl.e))]), (.t 3, [.int s.day, .d (.sl 1 (s.fs.map .str)), .d (.sl 4 (s.ds.map Du.e)), .d (.sl 1 (s.bs.map (.int .i64))), .bool s.ov])]) (fun i => i.1 ≤ s.ds.length ∧ (List.range i.1).all (duSA c s) = true) (fun i => s.ds.length - i.1) (0, ()) hs ⟨Nat.zero_le _, rfl⟩ ?_
    clear hlt hk
    rintro ⟨k, u⟩ ⟨hk, hj⟩ I nx
    dsimp only at hk hj ⊢
    by_cases hlt : k < s.ds.length
    · have hd : s.ds[k]? = some s.ds[k] := List.getElem?_eq_getElem hlt
      have hb : (k : Int) + 1 ≤ 1099511627776000 := by omega
      have hc := l9Duty_b c s k s.ds[k] hd hday hwi
      have he : duSA c s k = duS c s k s.ds[k] := by unfold duSA; rw [hd]
      rw [← he] at hc
      have hst := fun h => range_all_step (p := duSA c s) (k := k) hj h
      have hbd : duSA c s k = false → (List.range s.ds.length).all (duSA c s) = false := fun h => by
        cases hx : (List.range s.ds.length).all (duSA c s)
        · rfl
        · rw [range_all.1 hx k hlt] at h; cases h
      clear hj he hd hwi
      cases hv : duSA c s k
      · obtain rfl : r = false := by rw [hal3.out, hbd hv]; simp
        rw [hv] at hc
        clear hst hbd hv
        refine bgo ?_
        refine b_call hc rfl rfl rfl rfl ?_
        refine bgo ?_
        trivial
      · rw [hv] at hc
        have hst := hst hv
        clear hbd hv
        refine bgo ?_
        refine b_call hc rfl rfl rfl rfl ?_
        refine bgo ?_
        exact nx.go (k + 1, ()) ⟨hlt, hst⟩ (by dsimp only; omega) hs
    · have hk' : k = s.ds.length := by omega
      subst hk'
      have hal4 : Go.RowKit.Hid (r = (decide (sumW s.bs = 0) && s.bs.all fun b => inB b (-1000000000) 1000000000)) := by show r = _; rw [hal3.out, hj, Bool.and_true]
      clear hal3 hj hwi nx
      refine bgo ?_
      refine wk_rfl ?_
      refine bgo ?_
      refine b_lp (ι := Nat × Unit) (fun i => [(3, .ptr (.t 3) 0), (8, .int i.1)]) (fun _ => [(.t 3, [.int s.day, .d (.sl 1 (s.fs.map .str)), .d (.sl 4 (s.ds.map Du.e)), .d (.sl 1 (s.bs.map (.int .i64))), .bool s.ov])]) (fun i => i.1 ≤ s.bs.length ∧ ((s.bs.drop i.1).all fun b => inB b (-1000000000) 1000000000) = (s.bs.all fun b => inB b (-1000000000) 1000000000)) (fun i => s.bs.length - i.1) (0, ()) hs ⟨Nat.zero_le _, rfl⟩ ?_
      clear hlt hk
      rintro ⟨k, u⟩ ⟨hk, hj⟩ I nx
      dsimp only at hk hj ⊢
      by_cases hlt : k < s.bs.length
      · have hx : s.bs[k]? = some s.bs[k] := List.getElem?_eq_getElem hlt
        have hb : (k : Int) + 1 ≤ 1099511627776000 := by omega
        rw [List.drop_eq_getElem_cons hlt, List.all_cons] at hj
        have hh := l2Amount_b s.bs[k]
        generalize s.bs[k] = x at *
        cases hv : inB x (-1000000000) 1000000000
        · rw [hv, Bool.false_and] at hj
          obtain rfl : r = false := by rw [hal4.out, ← hj]; simp
          rw [hv] at hh
          clear hj hal4
          refine bgo ?_
          refine b_call hh rfl rfl rfl rfl ?_
          refine bgo ?_
          trivial
        · rw [hv, Bool.true_and] at hj
          rw [hv] at hh
          have hj2 : Go.RowKit.Hid (((s.bs.drop (k + 1)).all fun b => inB b (-1000000000) 1000000000) = (s.bs.all fun b => inB b (-1000000000) 1000000000)) := hj
          clear hj
          refine bgo ?_
          refine b_call hh rfl rfl rfl rfl ?_
          refine bgo ?_
          exact nx.go (k + 1, ()) ⟨hlt, hj2.out⟩ (by dsimp only; omega) hs
      · have hk' : k = s.bs.length := by omega
        subst hk'
        rw [List.drop_length] at hj
        have hj : true = (s.bs.all fun b => inB b (-1000000000) 1000000000) := hj
        have hal5 : Go.RowKit.Hid (r = decide (sumW s.bs = 0)) := by show r = _; rw [hal4.out, ← hj, Bool.and_true]
        have hsm := l2Sum_b s.bs
        clear hal4 hj nx
        generalize sumW s.bs = z at *
        by_cases hz : z = 0
        · obtain rfl : r = true := by rw [hal5.out]; exact decide_eq_true hz
          have q1 : (z == 0) = true := by rw [beq_iff_eq]; exact hz
          clear hz
          refine bgo ?_
          refine wk_rfl ?_
          refine bgo ?_
          refine b_call hsm rfl rfl rfl rfl ?_
          refine bgo ?_
          trivial
        · obtain rfl : r = false := by rw [hal5.out]; exact decide_eq_false hz
          have q1 : (z == 0) = false := by rw [beq_eq_false_iff_ne]; exact hz
          clear hz
          refine bgo ?_
          refine wk_rfl ?_
          refine bgo ?_
          refine b_call hsm rfl rfl rfl rfl ?_
          refine bgo ?_
          trivial
end Go.Bee.C24v


namespace Go.Bee.C24v
open Go Go.Bee Go.Proofs Go.Bee.Ty Go.Bee.C23 Go.Bee.C23s Go.Bee.Da Go.Bee.C24 Go.Bee.C24c Go.Bee.C24d Go.Bee.C24n Go.Bee.C24x Go.Bee.C24w Go.Bee.Cn
set_option linter.unusedVariables false
set_option maxRecDepth 20000
attribute [local irreducible] Go.Bee.bwp
end Go.Bee.C24v


namespace Go.Bee.Cn
open Go Go.Bee Go.Bee.Ty Go.Bee.C23s Go.Bee.Da
mutual
def dys : Cd → List Int
  | .mk o _ d ps => (if o = 3 then [d] else []) ++ dysL ps
def dysL : List Cd → List Int
  | [] => []
  | c :: l => dys c ++ dysL l
end
theorem dysL_eq : ∀ l : List Cd, dysL l = l.flatMap dys
  | [] => by rw [dysL]; rfl
  | c :: l => by rw [dysL, dysL_eq l]; rfl
theorem dys_eq (c : Cd) : dys c = (if c.op = 3 then [c.dy] else []) ++ c.ps.flatMap dys := by cases c; rw [dys, dysL_eq]; rfl
theorem flatMap_lenI {α : Type} {f : α → List Int} {g : α → Nat} : ∀ {l : List α}, (∀ a ∈ l, (f a).length ≤ g a) → (l.flatMap f).length ≤ (l.map g).sum
  | [], _ => by simp
  | a :: l, h => by
    have h1 := h a (List.mem_cons_self ..)
    have h2 := flatMap_lenI (l := l) (fun b hb => h b (List.mem_cons_of_mem _ hb))
    simp only [List.flatMap_cons, List.length_append, List.map_cons, List.sum_cons]; omega
theorem dys_len (c : Cd) : (dys c).length ≤ c.size := by
  refine Cd.ind (P := fun c => (dys c).length ≤ c.size) (fun c ih => ?_) c
  have := flatMap_lenI (f := dys) (g := Cd.size) ih
  rw [dys_eq, size_eq, sizes_sum, List.length_append]
  split <;> simp only [List.length_cons, List.length_nil] <;> omega
end Go.Bee.Cn
namespace Go.Bee.C24u
open Go Go.Bee Go.Proofs Go.Bee.Ty Go.Bee.Cn
theorem slInt : SlT Tryz.prog 36 3 1 8 := ⟨_, _, ty36, rfl, ty3, rfl, rfl, rfl, by decide⟩
theorem one_int (x : Int) : evBuildSlice Tryz.prog 36 1 [(0, .d (.int .i64 x))] = some (.own 3 1 [.int .i64 x]) := slInt.build1 _ _ rfl rfl (by decide)
theorem tys : type_of% (And.intro Go.Bee.C24v.tys (And.intro one_int slInt.facts)) := And.intro Go.Bee.C24v.tys (And.intro one_int slInt.facts)
end Go.Bee.C24u
namespace Go.Bee.C24u
open Go Go.Bee Go.Proofs Go.Bee.Ty Go.Bee.C23 Go.Bee.C23s Go.Bee.Da Go.Bee.C24 Go.Bee.C24c Go.Bee.C24d Go.Bee.C24n Go.Bee.C24x Go.Bee.C24w Go.Bee.C24v Go.Bee.Cn
set_option linter.unusedVariables false
set_option maxRecDepth 20000
attribute [local irreducible] Go.Bee.bwp
theorem addDays_b (c : Cd) : ∀ l : List Int, l.length + c.size ≤ 1048576 → BRet Tryz.prog 123 [] [.agg [.int c.op, .str c.nm, .int c.dy, .d (.sl 4 (c.ps.map Cd.e))], .own 3 1 (l.map (.int .i64))] (.own 3 1 ((l ++ dys c).map (.int .i64))) [] := by
  refine Cd.ind (P := fun c => ∀ l : List Int, l.length + c.size ≤ 1048576 → BRet Tryz.prog 123 [] [.agg [.int c.op, .str c.nm, .int c.dy, .d (.sl 4 (c.ps.map Cd.e))], .own 3 1 (l.map (.int .i64))] (.own 3 1 ((l ++ dys c).map (.int .i64))) []) (fun c ih l hl => ?_) c
  refine BRet.alen 0 3 (by kernel_rfl) rfl rfl fun hl3 => ?_
  rw [List.length_map] at hl3
  have hsz := size_eq c
  rw [dys_eq]
  refine bofH (Hh 6 [1, 2]) Tryz.func123 ?_
  generalize c.op = o at *
  generalize c.nm = n at *
  generalize c.dy = d at *
  generalize c.ps = ps at *
  obtain ⟨q, hq⟩ : ∃ q : List Int, Go.RowKit.Hid (q = l ++ if o = 3 then [d] else []) := ⟨_, rfl⟩
  obtain ⟨t, ht⟩ : ∃ t : List Int, Go.RowKit.Hid (l ++ ((if o = 3 then [d] else []) ++ ps.flatMap dys) = t) := ⟨_, rfl⟩
  rw [ht.out]
  have hqt : Go.RowKit.Hid (q ++ ps.flatMap dys = t) := by show _ = _; rw [hq.out, ← ht.out, List.append_assoc]
  have hql : q.length + Cd.sizes ps ≤ 1048576 := by rw [hq.out, List.length_append]; split <;> simp only [List.length_cons, List.length_nil] <;> omega
  by_cases h2 : o = 3
  · have hq2 : (l.map (PD.int .i64) ++ [.int .i64 d]) = q.map (.int .i64) := by rw [hq.out, if_pos h2]; simp
    have hbd : (l.length + 1) * 9 ≤ 140737488355328 := by omega
    clear hq
    refine bgo ?_
    refine b_lp (ι := Nat × List Int) (fun i => [(1, .own 3 1 (i.2.map (.int .i64))), (16, .d (.sl 4 (ps.map Cd.e))), (17, .int ps.length), (18, .int i.1)]) (fun _ => []) (fun i => i.1 ≤ ps.length ∧ i.2 ++ (ps.drop i.1).flatMap dys = t ∧ i.2.length + Cd.sizes (ps.drop i.1) ≤ 1048576) (fun i => ps.length - i.1) (0, q) hs ⟨Nat.zero_le _, hqt.out, hql⟩ ?_
    clear hqt hql ht
    rintro ⟨k, u⟩ ⟨hk, hj, hul⟩ I nx
    dsimp only at hk hj hul ⊢
    by_cases hlt : k < ps.length
    · have hx : ps[k]? = some ps[k] := List.getElem?_eq_getElem hlt
      have hb : (k : Int) + 1 ≤ 1099511627776000 := by omega
      rw [sizes_drop ps k hlt] at hul
      have hc := ih ps[k] (List.getElem_mem hlt) u (by omega)
      have hnl := dys_len ps[k]
      rw [List.drop_eq_getElem_cons hlt, List.flatMap_cons, ← List.append_assoc] at hj
      generalize ps[k] = x at *
      have hju : Go.RowKit.Hid (u ++ dys x ++ (ps.drop (k + 1)).flatMap dys = t) := hj
      clear hj ih
      refine bgo ?_
      refine b_callm hc rfl rfl rfl rfl (by decide) ?_
      refine bgo ?_
      exact nx.go (k + 1, u ++ dys x) ⟨hlt, hju.out, by dsimp only; rw [List.length_append]; omega⟩ (by dsimp only; omega) hs
    · have hk' : k = ps.length := by omega
      subst hk'
      rw [List.drop_length, List.flatMap_nil, List.append_nil] at hj
      subst hj
      clear ih hul
      refine bgo ?_
      refine wk_rfl ?_
      refine bgo ?_
      trivial
  · have hq2 : l = q := by rw [hq.out, if_neg h2]; simp
    clear hq
    subst hq2
    refine bgo ?_
    refine b_lp (ι := Nat × List Int) (fun i => [(1, .own 3 1 (i.2.map (.int .i64))), (16, .d (.sl 4 (ps.map Cd.e))), (17, .int ps.length), (18, .int i.1)]) (fun _ => []) (fun i => i.1 ≤ ps.length ∧ i.2 ++ (ps.drop i.1).flatMap dys = t ∧ i.2.length + Cd.sizes (ps.drop i.1) ≤ 1048576) (fun i => ps.length - i.1) (0, l) hs ⟨Nat.zero_le _, hqt.out, hql⟩ ?_
    clear hqt hql ht
    rintro ⟨k, u⟩ ⟨hk, hj, hul⟩ I nx
    dsimp only at hk hj hul ⊢
    by_cases hlt : k < ps.length
    · have hx : ps[k]? = some ps[k] := List.getElem?_eq_getElem hlt
      have hb : (k : Int) + 1 ≤ 1099511627776000 := by omega
      rw [sizes_drop ps k hlt] at hul
      have hc := ih ps[k] (List.getElem_mem hlt) u (by omega)
      have hnl := dys_len ps[k]
      rw [List.drop_eq_getElem_cons hlt, List.flatMap_cons, ← List.append_assoc] at hj
      generalize ps[k] = x at *
      have hju : Go.RowKit.Hid (u ++ dys x ++ (ps.drop (k + 1)).flatMap dys = t) := hj
      clear hj ih
      refine bgo ?_
      refine b_callm hc rfl rfl rfl rfl (by decide) ?_
      refine bgo ?_
      exact nx.go (k + 1, u ++ dys x) ⟨hlt, hju.out, by dsimp only; rw [List.length_append]; omega⟩ (by dsimp only; omega) hs
    · have hk' : k = ps.length := by omega
      subst hk'
      rw [List.drop_length, List.flatMap_nil, List.append_nil] at hj
      subst hj
      clear ih hul
      refine bgo ?_
      refine wk_rfl ?_
      refine bgo ?_
      trivial
end Go.Bee.C24u


namespace Go.Bee.Cn
open Go Go.Bee Go.Bee.Ty Go.Bee.C23s Go.Bee.Da
def opD (l : List Du) : List Int := (l.filter fun d => d.t == 1).map fun d => d.d + 1
def clD (l : List Cl) : List Int := l.flatMap fun x => dys x.w
def nxS (day acc d : Int) : Int := if d > day ∧ inB d 0 36524 = true ∧ (acc < 0 ∨ d < acc) then d else acc
def nextM (c : Ct) (s : Sa) : Int := if s.ov = true then -1 else (opD s.ds ++ clD c.cs).foldl (nxS s.day) (-1)
end Go.Bee.Cn
namespace Go.Bee.C24u
open Go Go.Bee Go.Proofs Go.Bee.Ty Go.Bee.C23 Go.Bee.C23s Go.Bee.Da Go.Bee.C24 Go.Bee.C24c Go.Bee.C24d Go.Bee.C24n Go.Bee.C24x Go.Bee.C24w Go.Bee.C24v Go.Bee.Cn
set_option linter.unusedVariables false
set_option maxRecDepth 20000
attribute [local irreducible] Go.Bee.bwp
theorem nextMoment_b (c : Ct) (s : Sa) (hcl : c.cs.length ≤ 12) (hw : ∀ x ∈ c.cs, x.w.size ≤ 15) (hdl : s.ds.length ≤ 24) (hdd : ∀ d ∈ s.ds, 0 ≤ d.d ∧ d.d ≤ 36524) : BRet Tryz.prog 91 [] [.agg [.d (.sl 1 (c.ps.map .str)), .d (.sl 12 (c.cs.map Cl.e))], .agg [.int s.day, .d (.sl 1 (s.fs.map .str)), .d (.sl 4 (s.ds.map Du.e)), .d (.sl 1 (s.bs.map (.int .i64))), .bool s.ov]] (.int (nextM c s)) [] := by
  refine bofH (Hh 11 [2, 3]) Tryz.func91 ?_
  obtain ⟨r, hr⟩ : ∃ r, Go.RowKit.Hid (nextM c s = r) := ⟨_, rfl⟩
  rw [hr.out]
  refine bgo ?_
  refine b_lp (ι := Nat × List Int) (fun i => [(2, .ptr (.t 2) 0), (3, .ptr (.t 3) 0), (5, .own 3 1 (i.2.map (.int .i64))), (15, .d (.sl 4 (s.ds.map Du.e))), (16, .int s.ds.length), (17, .int i.1)]) (fun _ => [(.t 2, [.d (.sl 1 (c.ps.map .str)), .d (.sl 12 (c.cs.map Cl.e))]), (.t 3, [.int s.day, .d (.sl 1 (s.fs.map .str)), .d (.sl 4 (s.ds.map Du.e)), .d (.sl 1 (s.bs.map (.int .i64))), .bool s.ov])]) (fun i => i.1 ≤ s.ds.length ∧ i.2 ++ opD (s.ds.drop i.1) = opD s.ds ∧ i.2.length ≤ i.1) (fun i => s.ds.length - i.1) (0, []) hs ⟨Nat.zero_le _, rfl, Nat.le_refl _⟩ ?_
  rintro ⟨k, u⟩ ⟨hk, hj, hul⟩ I nx
  dsimp only at hk hj hul ⊢
  by_cases hlt : k < s.ds.length
  · have hx : s.ds[k]? = some s.ds[k] := List.getElem?_eq_getElem hlt
    have hb : (k : Int) + 1 ≤ 1099511627776000 := by omega
    have hbd : (u.length + 1) * 9 ≤ 140737488355328 := by omega
    have hd1 := hdd s.ds[k] (List.getElem_mem hlt)
    have hst : opD (s.ds.drop k) = (if s.ds[k].t = 1 then [s.ds[k].d + 1] else []) ++ opD (s.ds.drop (k + 1)) := by
      rw [List.drop_eq_getElem_cons hlt]
      unfold opD
      rw [List.filter_cons]
      by_cases h : s.ds[k].t = 1 <;> simp [h]
    rw [hst, ← List.append_assoc] at hj
    clear hst
    generalize s.ds[k] = x at *
    by_cases ht : x.t = 1
    · rw [if_pos ht] at hj
      have k1 : (x.t == 1) = true := by rw [beq_iff_eq]; exact ht
      have hju : Go.RowKit.Hid (u ++ [x.d + 1] ++ opD (s.ds.drop (k + 1)) = opD s.ds) := hj
      have hmp : u.map (PD.int .i64) ++ [.int .i64 (x.d + 1)] = (u ++ [x.d + 1]).map (.int .i64) := by simp
      clear hj ht hdd hw
      refine bgo ?_
      exact nx.go (k + 1, u ++ [x.d + 1]) ⟨hlt, hju.out, by dsimp only; simp only [List.length_append, List.length_cons, List.length_nil]; omega⟩ (by dsimp only; omega) hs
    · rw [if_neg ht, List.append_nil] at hj
      have k1 : (x.t == 1) = false := by rw [beq_eq_false_iff_ne]; exact ht
      have hju : Go.RowKit.Hid (u ++ opD (s.ds.drop (k + 1)) = opD s.ds) := hj
      clear hj ht hdd hw
      refine bgo ?_
      exact nx.go (k + 1, u) ⟨hlt, hju.out, by dsimp only; omega⟩ (by dsimp only; omega) hs
  · have hk' : k = s.ds.length := by omega
    subst hk'
    rw [List.drop_length] at hj
    have hj : u = opD s.ds := by rw [← hj]; simp [opD]
    have hrr : Go.RowKit.Hid (r = if s.ov = true then -1 else (u ++ clD c.cs).foldl (nxS s.day) (-1)) := by show r = _; rw [hj, ← hr.out]; rfl
    have hu24 : u.length ≤ 24 := by omega
    clear hr hj nx hdd
    refine bgo ?_
    refine wk_rfl ?_
    refine bgo ?_
    refine b_lp (ι := Nat × List Int) (fun i => [(3, .ptr (.t 3) 0), (5, .own 3 1 (i.2.map (.int .i64))), (32, .d (.sl 12 (c.cs.map Cl.e))), (33, .int c.cs.length), (34, .int i.1)]) (fun _ => [(.t 3, [.int s.day, .d (.sl 1 (s.fs.map .str)), .d (.sl 4 (s.ds.map Du.e)), .d (.sl 1 (s.bs.map (.int .i64))), .bool s.ov])]) (fun i => i.1 ≤ c.cs.length ∧ i.2 ++ clD (c.cs.drop i.1) = u ++ clD c.cs ∧ i.2.length ≤ 24 + 15 * i.1) (fun i => c.cs.length - i.1) (0, u) hs ⟨Nat.zero_le _, rfl, by dsimp only; omega⟩ ?_
    clear hlt hk hul
    rintro ⟨k, v⟩ ⟨hk, hj, hul⟩ I nx
    dsimp only at hk hj hul ⊢
    by_cases hlt : k < c.cs.length
    · have hx : c.cs[k]? = some c.cs[k] := List.getElem?_eq_getElem hlt
      have hb : (k : Int) + 1 ≤ 1099511627776000 := by omega
      have hwx := hw c.cs[k] (List.getElem_mem hlt)
      have hc := addDays_b c.cs[k].w v (by omega)
      have hnl := dys_len c.cs[k].w
      unfold clD at hj
      rw [List.drop_eq_getElem_cons hlt, List.flatMap_cons, ← List.append_assoc] at hj
      generalize c.cs[k] = x at *
      have hju : Go.RowKit.Hid (v ++ dys x.w ++ clD (c.cs.drop (k + 1)) = u ++ clD c.cs) := hj
      clear hj hw
      refine bgo ?_
      refine b_callm hc rfl rfl rfl rfl (by decide) ?_
      refine bgo ?_
      exact nx.go (k + 1, v ++ dys x.w) ⟨hlt, hju.out, by dsimp only; rw [List.length_append]; omega⟩ (by dsimp only; omega) hs
    · have hk' : k = c.cs.length := by omega
      subst hk'
      rw [List.drop_length] at hj
      have hj : v = u ++ clD c.cs := by rw [← hj]; simp [clD]
      have hr3 : Go.RowKit.Hid (r = if s.ov = true then -1 else v.foldl (nxS s.day) (-1)) := by show r = _; rw [hj, hrr.out]
      have hvl : v.length ≤ 1000000 := by omega
      clear hrr hj nx hw
      refine bgo ?_
      refine wk_rfl ?_
      refine bgo ?_
      refine b_lp (ι := Nat × Int) (fun i => [(3, .ptr (.t 3) 0), (10, .int i.2), (43, .d (.sl 1 (v.map (.int .i64)))), (44, .int v.length), (45, .int i.1)]) (fun _ => [(.t 3, [.int s.day, .d (.sl 1 (s.fs.map .str)), .d (.sl 4 (s.ds.map Du.e)), .d (.sl 1 (s.bs.map (.int .i64))), .bool s.ov])]) (fun i => i.1 ≤ v.length ∧ (v.drop i.1).foldl (nxS s.day) i.2 = v.foldl (nxS s.day) (-1)) (fun i => v.length - i.1) (0, -1) hs ⟨Nat.zero_le _, rfl⟩ ?_
      clear hlt hk hul hu24
      rintro ⟨k, a⟩ ⟨hk, hj⟩ I nx
      dsimp only at hk hj ⊢
      by_cases hlt : k < v.length
      · have hx : v[k]? = some v[k] := List.getElem?_eq_getElem hlt
        have hb : (k : Int) + 1 ≤ 1099511627776000 := by omega
        rw [List.drop_eq_getElem_cons hlt, List.foldl_cons] at hj
        generalize v[k] = x at *
        have hid := isDay_b x
        by_cases h1 : x > s.day
        · cases h2 : inB x 0 36524
          · have hn : nxS s.day a x = a := by unfold nxS; rw [if_neg]; rw [h2]; rintro ⟨-, h, -⟩; cases h
            rw [hn] at hj
            rw [h2] at hid
            clear hr3
            refine bgo ?_
            refine b_call hid rfl rfl rfl rfl ?_
            refine bgo ?_
            exact nx.go (k + 1, a) ⟨hlt, hj⟩ (by dsimp only; omega) hs
          · rw [h2] at hid
            by_cases h3 : a < 0
            · have hn : nxS s.day a x = x := by unfold nxS; rw [if_pos ⟨h1, h2, .inl h3⟩]
              rw [hn] at hj
              clear hr3 h2
              refine bgo ?_
              refine b_call hid rfl rfl rfl rfl ?_
              refine bgo ?_
              exact nx.go (k + 1, x) ⟨hlt, hj⟩ (by dsimp only; omega) hs
            · by_cases h4 : x < a
              · have hn : nxS s.day a x = x := by unfold nxS; rw [if_pos ⟨h1, h2, .inr h4⟩]
                rw [hn] at hj
                clear hr3 h2
                refine bgo ?_
                refine b_call hid rfl rfl rfl rfl ?_
                refine bgo ?_
                exact nx.go (k + 1, x) ⟨hlt, hj⟩ (by dsimp only; omega) hs
              · have hn : nxS s.day a x = a := by unfold nxS; rw [if_neg]; rintro ⟨-, -, h | h⟩; exact h3 h; exact h4 h
                rw [hn] at hj
                clear hr3 h2
                refine bgo ?_
                refine b_call hid rfl rfl rfl rfl ?_
                refine bgo ?_
                exact nx.go (k + 1, a) ⟨hlt, hj⟩ (by dsimp only; omega) hs
        · have hn : nxS s.day a x = a := by unfold nxS; rw [if_neg]; rintro ⟨h, -⟩; exact h1 h
          rw [hn] at hj
          clear hr3 hid
          refine bgo ?_
          exact nx.go (k + 1, a) ⟨hlt, hj⟩ (by dsimp only; omega) hs
      · have hk' : k = v.length := by omega
        subst hk'
        rw [List.drop_length, List.foldl_nil] at hj
        rw [← hj] at hr3
        clear hj nx
        cases hov : s.ov
        · obtain rfl : r = a := by rw [hr3.out, hov]; rfl
          refine bgo ?_
          refine wk_rfl ?_
          refine bgo ?_
          trivial
        · obtain rfl : r = -1 := by rw [hr3.out, hov]; rfl
          refine bgo ?_
          refine wk_rfl ?_
          refine bgo ?_
          trivial
end Go.Bee.C24u


namespace Go.Bee.Cn
open Go Go.Bee Go.Bee.Ty Go.Bee.C23s Go.Bee.Da
def posI (s : Int) : List Int → Nat
  | [] => 0
  | a :: l => if a < s then posI s l + 1 else 0
def putI (l : List Int) (s : Int) : List Int := if l[posI s l]? = some s then l else l.take (posI s l) ++ s :: l.drop (posI s l)
theorem posI_step {s : Int} {l : List Int} {k : Nat} (hk : k < l.length) : posI s (l.drop k) = if l[k] < s then posI s (l.drop (k + 1)) + 1 else 0 := by
  rw [List.drop_eq_getElem_cons hk]; rfl
end Go.Bee.Cn
namespace Go.Bee.C24u
open Go Go.Bee Go.Proofs Go.Bee.Ty Go.Bee.C23 Go.Bee.C23s Go.Bee.Da Go.Bee.C24 Go.Bee.C24c Go.Bee.C24d Go.Bee.C24n Go.Bee.C24x Go.Bee.C24w Go.Bee.C24v Go.Bee.Cn
set_option linter.unusedVariables false
set_option maxRecDepth 20000
attribute [local irreducible] Go.Bee.bwp
theorem l1Put_b (l : List Int) (s : Int) (hl : l.length ≤ 1048576) : BRet Tryz.prog 116 [] [.d (.sl 1 (l.map (.int .i64))), .int s] (.d (.sl 1 ((putI l s).map (.int .i64)))) [] := by
  refine bofW Tryz.func116 ?_
  refine bgo ?_
  refine b_loop (fun n st => ∃ k : Nat, n = l.length - k ∧ k ≤ l.length ∧ st.tm 0 = .d (.sl 1 (l.map (.int .i64))) ∧ st.tm 1 = .int s ∧ st.tm 5 = .int k ∧ posI s (l.drop k) + k = posI s l ∧ ∀ b, st.bx b = none) l.length ⟨0, rfl, Nat.zero_le _, rfl, rfl, rfl, rfl, bxOf_nil⟩ ?_
  rintro n st ⟨k, rfl, hk, t0, t1, t5, hj, hb⟩
  by_cases hlt : k < l.length
  · have hx : l[k]? = some l[k] := List.getElem?_eq_getElem hlt
    by_cases hs : l[k] < s
    · refine bgo ?_
      refine ⟨_, _, Weak.refl _, by omega, k + 1, rfl, hlt, t0, t1, rfl, ?_, hb⟩
      rw [posI_step hlt, if_pos hs] at hj
      omega
    · have hp : posI s l = k := by rw [← hj, posI_step hlt, if_neg hs]; omega
      clear hj
      refine bgo ?_
      refine wk_rfl ?_
      have hput : putI l s = if l[k] = s then l else l.take k ++ s :: l.drop k := by simp [putI, hp, hx]
      clear hp
      refine bgo ?_
      refine ⟨fun h => ?_, fun h => ?_⟩
      · refine wk_rfl ?_
        refine bgo ?_
        trivial
      · refine wk_of (Weak.own_d (t := 4) rfl) ?_
        refine bgo ?_
        simp
  · have hk' : k = l.length := by omega
    subst hk'
    have hp : posI s l = l.length := by rw [← hj, List.drop_length]; simp [posI]
    have hput : putI l s = l ++ [s] := by simp [putI, hp]
    rw [hput]
    clear hj hp hput
    refine bgo ?_
    refine wk_rfl ?_
    refine bgo ?_
    refine wk_of (Weak.own_d (t := 4) rfl) ?_
    refine bgo ?_
    simp [List.take_of_length_le, List.drop_eq_nil_of_le]
end Go.Bee.C24u


namespace Go.Bee.Cn
open Go Go.Bee Go.Bee.Ty Go.Bee.C23s Go.Bee.Da
mutual
def spD : Cd → List Int → List Int
  | .mk o _ d ps, out => if o = 3 then putI out d else spDL ps out
def spDL : List Cd → List Int → List Int
  | [], out => out
  | c :: l, out => spDL l (spD c out)
end
theorem spDL_eq : ∀ (l : List Cd) (out : List Int), spDL l out = l.foldl (fun o c => spD c o) out
  | [], out => by rw [spDL]; rfl
  | c :: l, out => by rw [spDL, spDL_eq l]; rfl
theorem spD_eq (c : Cd) (out : List Int) : spD c out = if c.op = 3 then putI out c.dy else c.ps.foldl (fun o c => spD c o) out := by cases c; rw [spD, spDL_eq]; rfl
theorem putI_len (l : List Int) (s : Int) : (putI l s).length ≤ l.length + 1 := by
  unfold putI
  split
  · omega
  · simp only [List.length_append, List.length_take, List.length_cons, List.length_drop]; omega
end Go.Bee.Cn
namespace Go.Bee.C24u
open Go Go.Bee Go.Proofs Go.Bee.Ty Go.Bee.C23 Go.Bee.C23s Go.Bee.Da Go.Bee.C24 Go.Bee.C24c Go.Bee.C24d Go.Bee.C24n Go.Bee.C24x Go.Bee.C24w Go.Bee.C24v Go.Bee.Cn
set_option linter.unusedVariables false
set_option maxRecDepth 20000
attribute [local irreducible] Go.Bee.bwp
theorem spD_len (c : Cd) : ∀ o : List Int, (spD c o).length ≤ o.length + c.size := by
  refine Cd.ind (P := fun c => ∀ o : List Int, (spD c o).length ≤ o.length + c.size) (fun c ih o => ?_) c
  rw [spD_eq, size_eq]
  split
  · have := putI_len o c.dy; omega
  · have : ∀ (l : List Cd) (o : List Int), (∀ a ∈ l, ∀ o : List Int, (spD a o).length ≤ o.length + a.size) → (l.foldl (fun o c => spD c o) o).length ≤ o.length + Cd.sizes l := by
      intro l
      induction l with
      | nil => intro o _; rw [sizes_nil]; exact Nat.le_refl _
      | cons a l ihl =>
        intro o h
        rw [List.foldl_cons, sizes_cons]
        have h1 := ihl (spD a o) (fun b hb => h b (List.mem_cons_of_mem _ hb))
        have h2 := h a (List.mem_cons_self ..) o
        omega
    exact Nat.le_trans (this c.ps o ih) (by omega)
theorem l5Days_b (c : Cd) : ∀ l : List Int, l.length + c.size ≤ 1048576 → BRet Tryz.prog 117 [] [.d (.sl 1 (l.map (.int .i64))), .agg [.int c.op, .str c.nm, .int c.dy, .d (.sl 4 (c.ps.map Cd.e))]] (.d (.sl 1 ((spD c l).map (.int .i64)))) [] := by
  refine Cd.ind (P := fun c => ∀ l : List Int, l.length + c.size ≤ 1048576 → BRet Tryz.prog 117 [] [.d (.sl 1 (l.map (.int .i64))), .agg [.int c.op, .str c.nm, .int c.dy, .d (.sl 4 (c.ps.map Cd.e))]] (.d (.sl 1 ((spD c l).map (.int .i64)))) []) (fun c ih l hl => ?_) c
  refine BRet.alen 1 3 (by kernel_rfl) rfl rfl fun hl3 => ?_
  rw [List.length_map] at hl3
  have hsz := size_eq c
  have hpu := l1Put_b l c.dy (by omega)
  rw [spD_eq]
  refine bof Tryz.func117 ?_
  generalize c.op = o at *
  generalize c.nm = n at *
  generalize c.dy = d at *
  generalize c.ps = ps at *
  by_cases h2 : o = 3
  · rw [if_pos h2]
    clear ih
    generalize putI l d = pq at *
    refine bgo ?_
    refine b_call hpu rfl rfl rfl rfl ?_
    refine bgo ?_
    trivial
  · rw [if_neg h2]
    obtain ⟨r, hr⟩ : ∃ r, Go.RowKit.Hid (ps.foldl (fun o c => spD c o) l = r) := ⟨_, rfl⟩
    rw [hr.out]
    clear hpu
    refine bgo ?_
    refine b_lp (ι := Nat × List Int) (fun i => [(0, .d (.sl 1 (i.2.map (.int .i64)))), (3, .ptr (.t 3) 0), (5, .int i.1)]) (fun _ => [(.t 3, [.int o, .str n, .int d, .d (.sl 4 (ps.map Cd.e))])]) (fun i => i.1 ≤ ps.length ∧ (ps.drop i.1).foldl (fun o c => spD c o) i.2 = r ∧ i.2.length + Cd.sizes (ps.drop i.1) ≤ 1048576) (fun i => ps.length - i.1) (0, l) hs ⟨Nat.zero_le _, hr.out, by simp only [List.drop_zero]; omega⟩ ?_
    clear hr hl hsz
    rintro ⟨k, u⟩ ⟨hk, hj, hul⟩ I nx
    dsimp only at hk hj hul ⊢
    by_cases hlt : k < ps.length
    · have hx : ps[k]? = some ps[k] := List.getElem?_eq_getElem hlt
      have hb : (k : Int) + 1 ≤ 1099511627776000 := by omega
      rw [sizes_drop ps k hlt] at hul
      have hc := ih ps[k] (List.getElem_mem hlt) u (by omega)
      have hnl := spD_len ps[k] u
      rw [List.drop_eq_getElem_cons hlt, List.foldl_cons] at hj
      generalize ps[k] = x at *
      generalize spD x u = v at *
      have hju : Go.RowKit.Hid ((ps.drop (k + 1)).foldl (fun o c => spD c o) v = r) := hj
      clear hj ih
      refine bgo ?_
      refine b_call hc rfl rfl rfl rfl ?_
      refine bgo ?_
      exact nx.go (k + 1, v) ⟨hlt, hju.out, by dsimp only; omega⟩ (by dsimp only; omega) hs
    · have hk' : k = ps.length := by omega
      subst hk'
      rw [List.drop_length, List.foldl_nil] at hj
      subst hj
      clear ih hul
      refine bgo ?_
      refine wk_rfl ?_
      refine bgo ?_
      trivial
end Go.Bee.C24u

