/- Marks of a result, and what is read of them. -/
import Derived.Test.YtkgjplamdmakpaaGreatDoorBeeMt
import Derived.Test.YtkgjplamdmakpaaGreatDoorBeeDr
namespace Go.Bee.Mr
open Go Go.Bee Go.Proofs Go.Bee.Ty
theorem tys : type_of% Go.Bee.Mt.tys := Go.Bee.Mt.tys
end Go.Bee.Mr
namespace Go.Bee.Mr
open Go Go.Bee Go.Proofs Go.Bee.Ty Go.Bee.C23 Go.Bee.Mt Go.Bee.Dr
set_option linter.unusedVariables false
set_option maxRecDepth 20000
attribute [local irreducible] Go.Bee.bwp
/-- What is in a variable, plain data one by one. -/
def row (l : List PD) : List PV := (flat l).map PV.d
theorem put_set {α : Type} (X : List α) (o : Nat) (v : α) (h : o < X.length) : X.take o ++ [v] ++ X.drop (o + 1) = X.set o v := by
  rw [List.set_eq_take_append_cons_drop, if_pos h]; simp
theorem row_app (a b : List PD) : row (a ++ b) = row a ++ row b := by unfold row flat; rw [List.flatMap_append, List.map_append]
theorem row_len {sz : Nat} {l : List PD} (h : ∀ x ∈ l, x.cells.length = sz) : (row l).length = l.length * sz := by unfold row; rw [List.length_map, flat_length h]
theorem dmap_ok {α : Type} (X : List α) (f : α → PD) (L : List BN) : (X.map fun n => PV.d (f n)).all (okC L) = true := by
  rw [List.all_eq_true]
  intro x hx
  obtain ⟨y, -, rfl⟩ := List.mem_map.1 hx
  rfl
theorem row_gives (l : List PD) (h : True) : (row l).all PV.gives1 = true := by
  rw [List.all_eq_true]
  intro x hx
  obtain ⟨y, -, rfl⟩ := List.mem_map.1 hx
  rfl
theorem row_ok (l : List PD) (L : List BN) : (row l).all (okC L) = true := by
  rw [List.all_eq_true]
  intro x hx
  obtain ⟨y, -, rfl⟩ := List.mem_map.1 hx
  rfl
/-! Numbers. -/
def ints (l : List Int) : List PD := l.map (.int .i64)
theorem ints_row (l : List Int) : row (ints l) = l.map fun n => .d (.int .i64 n) := by
  induction l with
  | nil => rfl
  | cons a l ih =>
    show row ([PD.int .i64 a] ++ ints l) = _
    rw [row_app, ih]; rfl
def mkI (n : Nat) (k : Int) : List Int := (List.range n).map fun (i : Nat) => k + (i : Int)
theorem mix_set {α β : Type} (f : α → β) {a b : List α} {i : Nat} {v : α} (hv : a[i]? = some v) (hb : i < b.length) : ((a.take i ++ b.drop i).map f).set i (f v) = (a.take (i + 1) ++ b.drop (i + 1)).map f := by
  obtain ⟨ha, rfl⟩ := List.getElem?_eq_some_iff.1 hv
  have h1 : (a.take i).length = i := by rw [List.length_take]; omega
  rw [List.drop_eq_getElem_cons hb, List.map_append, List.set_append_right _ _ (by simp; omega), List.map_cons]
  have : i - ((a.take i).map f).length = 0 := by simp; omega
  rw [this, List.set_cons_zero, List.take_succ_eq_append_getElem ha, List.append_assoc, List.map_append]
  rfl
theorem markIntS_r (l : List Int) (k : Int) (h0 : 0 ≤ k) (hk : k + l.length ≤ 1099511627776) : BRet Tryz.prog 56 [row (ints l)] [.rsv (.a 0) 1 l.length, .int k] (.int (k + l.length)) [row (ints (mkI l.length k))] := by
  refine bofp Tryz.func56 ?_
  have hml : (mkI l.length k).length = l.length := by simp [mkI]
  have hmi : ∀ i, i < l.length → (mkI l.length k)[i]? = some ((k + (i : Int))) := fun i h => by simp [mkI, h]
  generalize mkI l.length k = m at *
  have hm0 : (m.take 0 ++ l.drop 0).map (fun n => PV.d (PD.int .i64 n)) = row (ints l) := by simp [ints_row]
  have hm1 : (m.take l.length ++ l.drop l.length).map (fun n => PV.d (PD.int .i64 n)) = row (ints m) := by rw [ints_row, List.drop_length, List.append_nil, ← hml, List.take_length]
  refine bgo ?_
  refine b_lp (ι := Nat × Int) (fun i => [(0, .rsv (.a 0) 1 l.length), (1, .int i.2), (5, .int i.1)]) (fun i => [(.a 0, (m.take i.1 ++ l.drop i.1).map fun n => PV.d (PD.int .i64 n))]) (fun i => i.1 ≤ l.length ∧ i.2 = k + i.1) (fun i => l.length - i.1) (0, k)
    ⟨hsT, ⟨_, rfl, HasC.of hm0.symm (dmap_ok _ _ _)⟩, trivial⟩ ⟨Nat.zero_le _, by simp⟩ ?_
  rintro ⟨i, j⟩ ⟨hi, hj⟩ I nx
  dsimp only at hi hj ⊢
  by_cases hlt : i < l.length
  · have hlm : (m.take i ++ l.drop i).length = l.length := by simp; omega
    have hst := mix_set (fun n : Int => PV.d (PD.int .i64 n)) (a := m) (b := l) (i := i) (hmi i hlt) hlt
    rw [← hj] at hst
    have hib : (i : Int) + 1 ≤ 1099511627776 := by omega
    have hkb : j + 1 ≤ 1099511627776 := by omega
    have hj0 : 0 ≤ j := by omega
    have hj2 : k + ((i + 1 : Nat) : Int) = j + 1 := by omega
    clear hj
    refine bgo ?_
    refine ⟨by omega, nx.go (i + 1, j + 1) ⟨hlt, hj2.symm⟩ (by dsimp only; omega) ⟨⟨⟨PLe.rfl, rfl⟩, ⟨PLe.rfl, rfl⟩, ⟨PLe.rfl, rfl⟩, trivial⟩, ⟨_, rfl, HasC.of ?_ (dmap_ok _ _ _)⟩, trivial⟩⟩
    rw [Nat.mul_one, put_set _ _ _ (by rw [List.length_map]; omega)]
    exact hst
  · have hi2 : i = l.length := by omega
    subst hi2
    subst hj
    refine bgo ?_
    refine wk_mk [(1, .int (k + l.length))] [(.a 0, row (ints m))] ⟨hsT, ⟨_, rfl, HasC.of (by first | rfl | exact hm1) (row_ok _ _)⟩, trivial⟩ ?_
    refine bgo ?_
    exact ret_1p rfl rfl rfl (fun k => rfl) (row_gives _ trivial)
theorem heldIntS_b (n : Nat) (k : Int) (h0 : 0 ≤ k) (hk : k + n ≤ 1099511627776) : BRet Tryz.prog 57 [] [.d (.sl 1 (ints (mkI n k))), .int k] (.int (k + n)) [] := by
  refine bof Tryz.func57 ?_
  have hml : (mkI n k).length = n := by simp [mkI]
  have hmi : ∀ i, i < n → (mkI n k)[i]? = some ((k + (i : Int))) := fun i h => by simp [mkI, h]
  generalize mkI n k = m at *
  have hll : (ints m).length = n := by simp [ints, hml]
  have hli : ∀ i, i < n → (ints m)[i]? = some (PD.int .i64 ((k + (i : Int)))) := fun i h => by simp [ints, hmi i h]
  generalize ints m = q at *
  refine bgo ?_
  refine b_lp (ι := Nat × Int) (fun i => [(0, .d (.sl 1 q)), (1, .int i.2), (5, .int i.1)]) (fun _ => []) (fun i => i.1 ≤ n ∧ i.2 = k + i.1) (fun i => n - i.1) (0, k) hs ⟨Nat.zero_le _, by simp⟩ ?_
  rintro ⟨i, j⟩ ⟨hi, hj⟩ I nx
  dsimp only at hi hj ⊢
  by_cases hlt : i < n
  · have hx := hli i hlt
    rw [← hj] at hx
    have hib : (i : Int) + 1 ≤ 1099511627776 := by omega
    have hkb : j + 1 ≤ 1099511627776 := by omega
    have hj0 : 0 ≤ j := by omega
    have hj2 : k + ((i + 1 : Nat) : Int) = j + 1 := by omega
    have hlt2 : i < q.length := by omega
    clear hj hml hmi hli
    refine bgo ?_
    exact nx.go (i + 1, j + 1) ⟨hlt, hj2.symm⟩ (by dsimp only; omega) hs
  · have hi2 : i = n := by omega
    subst hi2
    subst hj
    have hlt2 : ¬ i < q.length := by omega
    refine bgo ?_
    refine wk_rfl ?_
    refine bgo ?_
    trivial
/-! Texts. -/
def txts (l : List (List UInt8)) : List PD := l.map .str
theorem txts_row (l : List (List UInt8)) : row (txts l) = l.map fun n => .d (.str n) := by
  induction l with
  | nil => rfl
  | cons a l ih =>
    show row ([PD.str a] ++ txts l) = _
    rw [row_app, ih]; rfl
def mkS (n : Nat) (k : Int) : List (List UInt8) := (List.range n).map fun (i : Nat) => mkT (k + (i : Int))
theorem markStringS_r (l : List (List UInt8)) (k : Int) (h0 : 0 ≤ k) (hk : k + l.length ≤ 1099511627776) : BRet Tryz.prog 29 [row (txts l)] [.rsv (.a 0) 1 l.length, .int k] (.int (k + l.length)) [row (txts (mkS l.length k))] := by
  refine bofp Tryz.func29 ?_
  have hml : (mkS l.length k).length = l.length := by simp [mkS]
  have hmi : ∀ i, i < l.length → (mkS l.length k)[i]? = some (mkT (k + (i : Int))) := fun i h => by simp [mkS, h]
  generalize mkS l.length k = m at *
  have hm0 : (m.take 0 ++ l.drop 0).map (fun n => PV.d (PD.str n)) = row (txts l) := by simp [txts_row]
  have hm1 : (m.take l.length ++ l.drop l.length).map (fun n => PV.d (PD.str n)) = row (txts m) := by rw [txts_row, List.drop_length, List.append_nil, ← hml, List.take_length]
  refine bgo ?_
  refine b_lp (ι := Nat × Int) (fun i => [(0, .rsv (.a 0) 1 l.length), (1, .int i.2), (5, .int i.1)]) (fun i => [(.a 0, (m.take i.1 ++ l.drop i.1).map fun n => PV.d (PD.str n))]) (fun i => i.1 ≤ l.length ∧ i.2 = k + i.1) (fun i => l.length - i.1) (0, k)
    ⟨hsT, ⟨_, rfl, HasC.of hm0.symm (dmap_ok _ _ _)⟩, trivial⟩ ⟨Nat.zero_le _, by simp⟩ ?_
  rintro ⟨i, j⟩ ⟨hi, hj⟩ I nx
  dsimp only at hi hj ⊢
  by_cases hlt : i < l.length
  · have hlm : (m.take i ++ l.drop i).length = l.length := by simp; omega
    have hst := mix_set (fun n : (List UInt8) => PV.d (PD.str n)) (a := m) (b := l) (i := i) (hmi i hlt) hlt
    rw [← hj] at hst
    have hib : (i : Int) + 1 ≤ 1099511627776 := by omega
    have hkb : j + 1 ≤ 1099511627776 := by omega
    have hj0 : 0 ≤ j := by omega
    have hj2 : k + ((i + 1 : Nat) : Int) = j + 1 := by omega
    clear hj
    refine bgo ?_
    refine b_call (markText_b j (by omega)) rfl rfl rfl rfl ?_
    refine bgo ?_
    refine ⟨by omega, nx.go (i + 1, j + 1) ⟨hlt, hj2.symm⟩ (by dsimp only; omega) ⟨⟨⟨PLe.rfl, rfl⟩, ⟨PLe.rfl, rfl⟩, ⟨PLe.rfl, rfl⟩, trivial⟩, ⟨_, rfl, HasC.of ?_ (dmap_ok _ _ _)⟩, trivial⟩⟩
    rw [Nat.mul_one, put_set _ _ _ (by rw [List.length_map]; omega)]
    exact hst
  · have hi2 : i = l.length := by omega
    subst hi2
    subst hj
    refine bgo ?_
    refine wk_mk [(1, .int (k + l.length))] [(.a 0, row (txts m))] ⟨hsT, ⟨_, rfl, HasC.of (by first | rfl | exact hm1) (row_ok _ _)⟩, trivial⟩ ?_
    refine bgo ?_
    exact ret_1p rfl rfl rfl (fun k => rfl) (row_gives _ trivial)
theorem heldStringS_b (n : Nat) (k : Int) (h0 : 0 ≤ k) (hk : k + n ≤ 1099511627776) : BRet Tryz.prog 30 [] [.d (.sl 1 (txts (mkS n k))), .int k] (.int (k + n)) [] := by
  refine bof Tryz.func30 ?_
  have hml : (mkS n k).length = n := by simp [mkS]
  have hmi : ∀ i, i < n → (mkS n k)[i]? = some (mkT (k + (i : Int))) := fun i h => by simp [mkS, h]
  generalize mkS n k = m at *
  have hll : (txts m).length = n := by simp [txts, hml]
  have hli : ∀ i, i < n → (txts m)[i]? = some (PD.str (mkT (k + (i : Int)))) := fun i h => by simp [txts, hmi i h]
  generalize txts m = q at *
  refine bgo ?_
  refine b_lp (ι := Nat × Int) (fun i => [(0, .d (.sl 1 q)), (1, .int i.2), (5, .int i.1)]) (fun _ => []) (fun i => i.1 ≤ n ∧ i.2 = k + i.1) (fun i => n - i.1) (0, k) hs ⟨Nat.zero_le _, by simp⟩ ?_
  rintro ⟨i, j⟩ ⟨hi, hj⟩ I nx
  dsimp only at hi hj ⊢
  by_cases hlt : i < n
  · have hx := hli i hlt
    rw [← hj] at hx
    have hib : (i : Int) + 1 ≤ 1099511627776 := by omega
    have hkb : j + 1 ≤ 1099511627776 := by omega
    have hj0 : 0 ≤ j := by omega
    have hj2 : k + ((i + 1 : Nat) : Int) = j + 1 := by omega
    have hlt2 : i < q.length := by omega
    clear hj hml hmi hli
    refine bgo ?_
    refine b_call (markText_b j (by omega)) rfl rfl rfl rfl ?_
    refine bgo ?_
    exact nx.go (i + 1, j + 1) ⟨hlt, hj2.symm⟩ (by dsimp only; omega) hs
  · have hi2 : i = n := by omega
    subst hi2
    subst hj
    have hlt2 : ¬ i < q.length := by omega
    refine bgo ?_
    refine wk_rfl ?_
    refine bgo ?_
    trivial
end Go.Bee.Mr
