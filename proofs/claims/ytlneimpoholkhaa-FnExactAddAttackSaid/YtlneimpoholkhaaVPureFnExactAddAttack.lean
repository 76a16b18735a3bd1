/-
The plain law behind FnExactAddAttack: the printed functions of the program and of the reference give the same values, so the law answers true. No condition.
-/
import Derived.Test.YtlneimpoholkhaaVAskFnExactAddAttack
import Derived.Test.YtlneimpoholkhaaVBase
namespace Go.Proofs.Ytlneimpoholkhaa.PureFnExactAddAttack
open Go.RowKit Go.Proofs.Ytlneimpoholkhaa.PFnExactAddAttack Go.Proofs.YtlneimpoholkhaaOpen Go.Proofs.YtlneimpoholkhaaBase Go.Proofs.YtlneimpoholkhaaW.PrintWords Go.Proofs.YtlneimpoholkhaaW.PrintLast Go.Proofs.YtlneimpoholkhaaW.PrintMore

theorem within_eq (x a b : Int) : impl_within.f x a b = some (decide (a ≤ x) && decide (x ≤ b)) := by
  unfold impl_within.f
  by_cases h : x ≥ a
  · rw [if_pos h]; simp [h]
  · rw [if_neg h]; simp [h]

theorem l1In_eq (x a b : Int) : spec_l1In.f x a b = some (decide (a ≤ x) && decide (x ≤ b)) := by
  unfold spec_l1In.f
  by_cases h : x ≥ a
  · rw [if_pos h]; simp [h]
  · rw [if_neg h]; simp [h]

/-! frameworks: what the law makes of its argument, and what is valid -/
abbrev LA := S98
abbrev IA := S65
def conv (l : List LA) : List IA := l.map fun x => ⟨x.f0, x.f1⟩
theorem conv_length (l : List LA) : (conv l).length = l.length := by simp [conv]

theorem sz_ev (n : Int) (l : List LA) (hl : l.length ≤ maxLen) : laws_szFramework.f n l 1048576 = if l.length ≤ 1048576 then some (1048576 - (l.length : Int)) else some (-1) := by
  unfold maxLen at hl
  unfold laws_szFramework.f laws_szAttackS.f
  rw [w64 (by omega) (by omega)]
  by_cases h : l.length ≤ 1048576
  · rw [if_neg (by omega), if_pos h, Option.bind_some, if_neg (by omega)]
  · rw [if_pos (by omega), if_neg h, Option.bind_some, if_pos (by omega)]

theorem toS_ev (l : List LA) (hl : l.length ≤ 1048576) : Ev (fun k => laws_toAttackS.f k l) (conv l) := by
  unfold laws_toAttackS.f
  refine Ev.congr (f := fun k => laws_toAttackS.l0 k l (List.replicate l.length z65) 0) (fun k => by rw [if_pos (by omega), if_pos (by omega)]; rfl) ?_
  refine copy_loop (fun x : LA => (⟨x.f0, x.f1⟩ : IA)) _ z98 l (fun k y i => laws_toAttackS.l0 k l y i) ?_ ?_
  · intro k i y hi hy
    simp only [laws_toAttackS.l0]
    rw [if_pos (by omega), if_pos (by omega)]
    unfold laws_toAttack.f
    rw [Option.bind_some, if_pos (by omega), w64s (by omega)]
    rfl
  · intro k y hy
    simp only [laws_toAttackS.l0]
    rw [if_neg (by omega)]
theorem toF_ev (n : Int) (l : List LA) (hl : l.length ≤ 1048576) : Ev (fun k => laws_toFramework.f k n l) (n, conv l) := by
  unfold laws_toFramework.f
  exact Ev.bind (toS_ev l hl) (Ev.now _)

theorem eqS_ev (l : List IA) (hl : l.length ≤ 1048576) : Ev (fun k => laws_eqAttackS.f k l l) true := by
  unfold laws_eqAttackS.f
  refine Ev.congr (f := fun k => laws_eqAttackS.l0 k l l 0) (fun k => by rw [if_pos rfl]) ?_
  refine same_loop l (fun k i => laws_eqAttackS.l0 k l l i) (fun i hi ih => ?_) (fun k => by simp only [laws_eqAttackS.l0]; rw [if_neg (by omega)])
  refine Ev.step (f := fun k => laws_eqAttackS.l0 k l l ((i + 1 : Nat) : Int)) (fun k => ?_) ih
  simp only [laws_eqAttackS.l0]
  rw [if_pos (by omega), if_pos (by omega), if_pos (by omega)]
  unfold laws_eqAttack.f
  rw [if_pos rfl, if_pos rfl, Option.bind_some, if_pos rfl, w64s (by omega)]
theorem eqF_ev (n : Int) (l : List IA) (hl : l.length ≤ 1048576) : Ev (fun k => laws_eqFramework.f k n l n l) true := by
  unfold laws_eqFramework.f
  refine Ev.congr (f := fun k => (laws_eqAttackS.f k l l).bind fun t => if t = true then some true else some false) (fun k => by rw [if_pos rfl]) ?_
  exact Ev.bind (eqS_ev l hl) (by simp only [if_true]; exact Ev.now _)

def inR (n : Int) (x : IA) : Bool := decide (0 ≤ x.f0) && decide (x.f0 ≤ n - 1) && decide (0 ≤ x.f1) && decide (x.f1 ≤ n - 1)
def lt2 (a b : IA) : Bool := decide (a.f0 < b.f0) || (decide (a.f0 = b.f0) && decide (a.f1 < b.f1))
/-- From place i on: each in range, each behind the one ahead of it. -/
def goodAt (n : Int) (l : List IA) (i : Nat) : Bool := inR n (l.getD i z65) && (i == 0 || lt2 (l.getD (i - 1) z65) (l.getD i z65))
def good (n : Int) (l : List IA) : Bool := decide (0 ≤ n) && decide (n ≤ 10) && (List.range l.length).all (goodAt n l)
theorem good_iff {n : Int} {l : List IA} : good n l = true ↔ (0 ≤ n ∧ n ≤ 10) ∧ ∀ i, i < l.length → goodAt n l i = true := by
  simp [good, List.all_eq_true]
theorem inR_iff {n : Int} {x : IA} : inR n x = true ↔ 0 ≤ x.f0 ∧ x.f0 ≤ n - 1 ∧ 0 ≤ x.f1 ∧ x.f1 ≤ n - 1 := by simp [inR, and_assoc]

def restGood (n : Int) (l : List IA) (i : Nat) : Bool := (List.range' i (l.length - i)).all (goodAt n l)
theorem restGood_end (n : Int) (l : List IA) : restGood n l l.length = true := by simp [restGood]
theorem restGood_step (n : Int) (l : List IA) {i : Nat} (h : i < l.length) : restGood n l i = (goodAt n l i && restGood n l (i + 1)) := by
  unfold restGood
  rw [show l.length - i = (l.length - (i + 1)) + 1 by omega, List.range'_succ, List.all_cons]
theorem restGood_all (n : Int) (l : List IA) : restGood n l 0 = (List.range l.length).all (goodAt n l) := by
  unfold restGood
  rw [Nat.sub_zero, List.range_eq_range']

theorem rdA (l : List IA) (i : Nat) : rd_T65 l (i : Int) = l.getD i z65 := rfl

/-- What a round asks of element x behind element y: first is whether there is none ahead. -/
def ask (n : Int) (first : Bool) (y x : IA) : Bool := inR n x && (first || lt2 y x)
theorem goodAt_ask (n : Int) (l : List IA) (i : Nat) : goodAt n l i = ask n (i == 0) (l.getD (i - 1) z65) (l.getD i z65) := rfl
theorem inR_and (n : Int) (x : IA) : inR n x = ((decide (0 ≤ x.f0) && decide (x.f0 ≤ n - 1)) && (decide (0 ≤ x.f1) && decide (x.f1 ≤ n - 1))) := by simp only [inR, Bool.and_assoc]

theorem impl_j (n : Int) (l : List IA) (i : Nat) (hi : i < l.length) (hl : l.length ≤ 1048576) (b : Bool) (R : Bool) (ih : Ev (fun k => impl_IsValidFramework.l0 k l (l.length : Int) ((i + 1 : Nat) : Int) n l) R) (x : IA) :
    Ev (fun k => impl_IsValidFramework.j1 k (i : Int) l (l.length : Int) (i : Int) (!b) n l x.f0 x.f1) (b && ((i == 0) || lt2 (l.getD (i - 1) z65) x) && R) := by
  cases b with
  | false => exact Ev.step (f := fun _ => some false) (fun k => by simp only [impl_IsValidFramework.j1]; rfl) (Ev.now _)
  | true =>
    by_cases hz : i = 0
    · subst hz
      refine Ev.step (f := fun k => impl_IsValidFramework.l0 k l (l.length : Int) ((0 + 1 : Nat) : Int) n l) (fun k => ?_) ?_
      · simp only [impl_IsValidFramework.j1]; rw [if_neg (by simp), if_neg (by omega), w64s (by omega)]
      · simpa using ih
    · have hb : (i == 0) = false := by simpa using hz
      rw [hb]
      refine Ev.step (f := fun k => if lt2 (l.getD (i - 1) z65) x = true then impl_IsValidFramework.l0 k l (l.length : Int) ((i + 1 : Nat) : Int) n l else some false) (fun k => ?_) ?_
      · simp only [impl_IsValidFramework.j1]
        rw [if_neg (by simp), if_pos (by omega), w64p (by omega) (by omega), if_pos (by omega), if_pos (by omega), rdA, w64s (by omega)]
        generalize l.getD (i - 1) z65 = y
        simp only [lt2, Bool.or_eq_true, Bool.and_eq_true, decide_eq_true_eq]
        by_cases c1 : x.f0 < y.f0
        · rw [if_pos c1, if_neg (by omega)]
        · rw [if_neg c1]
          by_cases c2 : x.f0 = y.f0
          · rw [if_pos c2]
            by_cases c3 : x.f1 ≤ y.f1
            · rw [if_pos c3, if_neg (by omega)]
            · rw [if_neg c3, if_pos (by omega)]
          · rw [if_neg c2, if_pos (by omega)]
      · cases lt2 (l.getD (i - 1) z65) x with
        | true => simpa using ih
        | false => exact Ev.now _
theorem impl_loop (n : Int) (l : List IA) (hl : l.length ≤ 1048576) (h0 : 0 ≤ n) (h1 : n ≤ 10) : ∀ i, i ≤ l.length → Ev (fun k => impl_IsValidFramework.l0 k l (l.length : Int) (i : Int) n l) (restGood n l i) := by
  refine down l.length ?_ (fun i hi ih => ?_)
  · refine Ev.step (f := fun _ => some true) (fun k => by simp only [impl_IsValidFramework.l0]; rw [if_neg (by omega)]) ?_
    rw [restGood_end]
    exact Ev.now _
  · rw [restGood_step n l hi, goodAt_ask]
    have e := impl_j n l i hi hl (inR n (l.getD i z65)) _ ih (l.getD i z65)
    refine Ev.step (fun k => ?_) e
    simp only [impl_IsValidFramework.l0]
    rw [if_pos (by omega), if_pos (by omega), if_pos (by omega), rdA, within_eq, within_eq, w64 (by omega) (by omega)]
    simp only [Option.bind_some]
    generalize l.getD i z65 = x
    rw [inR_and]
    cases (decide (0 ≤ x.f0) && decide (x.f0 ≤ n - 1)) <;> simp
theorem good_eq (n : Int) (l : List IA) : good n l = (decide (0 ≤ n) && decide (n ≤ 10) && restGood n l 0) := by rw [restGood_all]; rfl
theorem impl_ev (n : Int) (l : List IA) (hl : l.length ≤ 1048576) : Ev (fun k => impl_IsValidFramework.f k n l) (good n l) := by
  unfold impl_IsValidFramework.f
  rw [within_eq, good_eq]
  simp only [Option.bind_some]
  by_cases c : 0 ≤ n ∧ n ≤ 10
  · have : (decide (0 ≤ n) && decide (n ≤ 10)) = true := by simpa using c
    simp only [this, if_true, Bool.true_and]
    exact impl_loop n l hl c.1 c.2 0 (Nat.zero_le _)
  · have : (decide (0 ≤ n) && decide (n ≤ 10)) = false := by simpa using c
    simp only [this, Bool.false_and]
    exact Ev.now _

theorem spec_j (n : Int) (l : List IA) (i : Nat) (hi : i < l.length) (hl : l.length ≤ 1048576) (h0 : 0 ≤ n) (h1 : n ≤ 10) (b : Bool) (R : Bool) (ih : b = true → Ev (fun k => spec_l22Good.l0 k ((i + 1 : Nat) : Int) n l) R) (x : IA) (hx : b = true → inR n x = true) (hy : 0 < i → inR n (l.getD (i - 1) z65) = true) :
    Ev (fun k => spec_l22Good.j1 k (i : Int) (!b) n l x.f0 x.f1) (b && ((i == 0) || lt2 (l.getD (i - 1) z65) x) && R) := by
  cases b with
  | false => exact Ev.step (f := fun _ => some false) (fun k => by simp only [spec_l22Good.j1]; rfl) (Ev.now _)
  | true =>
    have ih := ih rfl
    have hx := inR_iff.1 (hx rfl)
    by_cases hz : i = 0
    · subst hz
      refine Ev.step (f := fun k => spec_l22Good.l0 k ((0 + 1 : Nat) : Int) n l) (fun k => ?_) ?_
      · simp only [spec_l22Good.j1]; rw [if_neg (by simp), if_neg (by omega), w64s (by omega)]
      · simpa using ih
    · have hb : (i == 0) = false := by simpa using hz
      have hy := inR_iff.1 (hy (by omega))
      rw [hb]
      refine Ev.step (f := fun k => if lt2 (l.getD (i - 1) z65) x = true then spec_l22Good.l0 k ((i + 1 : Nat) : Int) n l else some false) (fun k => ?_) ?_
      · simp only [spec_l22Good.j1]
        rw [if_neg (by simp), if_pos (by omega), w64p (by omega) (by omega), if_pos (by omega), if_pos (by omega), rdA, w64s (by omega)]
        generalize l.getD (i - 1) z65 = y at hy ⊢
        have e1 : wrap64 (wrap64 (y.f0 * n) + y.f1) = y.f0 * n + y.f1 := by
          have : 0 ≤ y.f0 * n := Int.mul_nonneg hy.1 h0
          have : y.f0 * n ≤ 10 * 10 := Int.mul_le_mul (by omega) (by omega) h0 (by omega)
          rw [w64 (x := y.f0 * n) (by omega) (by omega), w64 (by omega) (by omega)]
        have e2 : wrap64 (wrap64 (x.f0 * n) + x.f1) = x.f0 * n + x.f1 := by
          have : 0 ≤ x.f0 * n := Int.mul_nonneg hx.1 h0
          have : x.f0 * n ≤ 10 * 10 := Int.mul_le_mul (by omega) (by omega) h0 (by omega)
          rw [w64 (x := x.f0 * n) (by omega) (by omega), w64 (by omega) (by omega)]
        rw [e1, e2]
        simp only [lt2, Bool.or_eq_true, Bool.and_eq_true, decide_eq_true_eq]
        by_cases c1 : y.f0 < x.f0
        · have : (y.f0 + 1) * n ≤ x.f0 * n := Int.mul_le_mul_of_nonneg_right (by omega) h0
          rw [Int.add_mul, Int.one_mul] at this
          rw [if_neg (by omega), if_pos (by omega)]
        · by_cases c2 : y.f0 = x.f0
          · rw [c2]
            by_cases c3 : y.f1 < x.f1
            · rw [if_neg (by omega), if_pos (by omega)]
            · rw [if_pos (by omega), if_neg (by omega)]
          · have : (x.f0 + 1) * n ≤ y.f0 * n := Int.mul_le_mul_of_nonneg_right (by omega) h0
            rw [Int.add_mul, Int.one_mul] at this
            rw [if_pos (by omega), if_neg (by omega)]
      · cases lt2 (l.getD (i - 1) z65) x with
        | true => simpa using ih
        | false => exact Ev.now _
theorem spec_loop (n : Int) (l : List IA) (hl : l.length ≤ 1048576) (h0 : 0 ≤ n) (h1 : n ≤ 10) : ∀ i, i ≤ l.length → (0 < i → inR n (l.getD (i - 1) z65) = true) → Ev (fun k => spec_l22Good.l0 k (i : Int) n l) (restGood n l i) := by
  refine down l.length ?_ (fun i hi ih => ?_)
  · intro _
    refine Ev.step (f := fun _ => some true) (fun k => by simp only [spec_l22Good.l0]; rw [if_neg (by omega)]) ?_
    rw [restGood_end]
    exact Ev.now _
  · intro hy
    rw [restGood_step n l hi, goodAt_ask]
    have e := spec_j n l i hi hl h0 h1 (inR n (l.getD i z65)) (restGood n l (i + 1)) (fun hb => ih (fun _ => hb)) (l.getD i z65) (fun h => h) hy
    refine Ev.step (fun k => ?_) e
    simp only [spec_l22Good.l0]
    rw [if_pos (by omega), if_pos (by omega), rdA, l1In_eq, l1In_eq, w64 (by omega) (by omega)]
    simp only [Option.bind_some]
    generalize l.getD i z65 = x
    rw [inR_and]
    cases (decide (0 ≤ x.f0) && decide (x.f0 ≤ n - 1)) <;> simp
theorem spec_ev (n : Int) (l : List IA) (hl : l.length ≤ 1048576) : Ev (fun k => spec_l22Good.f k n l) (good n l) := by
  unfold spec_l22Good.f
  rw [l1In_eq, good_eq]
  simp only [Option.bind_some]
  by_cases c : 0 ≤ n ∧ n ≤ 10
  · have : (decide (0 ≤ n) && decide (n ≤ 10)) = true := by simpa using c
    simp only [this, if_true, Bool.true_and]
    exact spec_loop n l hl c.1 c.2 0 (Nat.zero_le _) (fun h => absurd h (Nat.lt_irrefl 0))
  · have : (decide (0 ≤ n) && decide (n ≤ 10)) = false := by simpa using c
    simp only [this, Bool.false_and]
    exact Ev.now _
theorem good_n {n : Int} {l : List IA} (h : good n l = true) : 0 ≤ n ∧ n ≤ 10 := by
  rw [good_iff] at h
  exact h.1
theorem good_mem {n : Int} {l : List IA} (h : good n l = true) : ∀ x ∈ l, inR n x = true := by
  intro x hx
  obtain ⟨i, hi, rfl⟩ := List.getElem_of_mem hx
  have := (good_iff.1 h).2 i hi
  simp only [goodAt, Bool.and_eq_true] at this
  rw [List.getD_eq_getElem?_getD, List.getElem?_eq_getElem hi] at this
  exact this.1

/-! frameworks held against themselves, a little longer -/
theorem eqS_ev' (l : List IA) (hl : l.length ≤ 2097152) : Ev (fun k => laws_eqAttackS.f k l l) true := by
  unfold laws_eqAttackS.f
  refine Ev.congr (f := fun k => laws_eqAttackS.l0 k l l 0) (fun k => by rw [if_pos rfl]) ?_
  refine same_loop l (fun k i => laws_eqAttackS.l0 k l l i) (fun i hi ih => ?_) (fun k => by simp only [laws_eqAttackS.l0]; rw [if_neg (by omega)])
  refine Ev.step (f := fun k => laws_eqAttackS.l0 k l l ((i + 1 : Nat) : Int)) (fun k => ?_) ih
  simp only [laws_eqAttackS.l0]
  rw [if_pos (by omega), if_pos (by omega), if_pos (by omega)]
  unfold laws_eqAttack.f
  rw [if_pos rfl, if_pos rfl, Option.bind_some, if_pos rfl, w64s (by omega)]
theorem eqF_ev' (n : Int) (l : List IA) (hl : l.length ≤ 2097152) : Ev (fun k => laws_eqFramework.f k n l n l) true := by
  unfold laws_eqFramework.f
  refine Ev.congr (f := fun k => (laws_eqAttackS.f k l l).bind fun t => if t = true then some true else some false) (fun k => by rw [if_pos rfl]) ?_
  exact Ev.bind (eqS_ev' l hl) (by simp only [if_true]; exact Ev.now _)

/-! marks of attacks, and what a look at them tells -/
def rampA (m : Nat) : List IA := (List.range m).map fun i : Nat => (⟨1 + 2 * (i : Int), 2 + 2 * (i : Int)⟩ : IA)
theorem rampA_len (m : Nat) : (rampA m).length = m := by simp [rampA]
theorem rampA_get (m i : Nat) (h : i < m) : (rampA m).getD i z65 = (⟨1 + 2 * (i : Int), 2 + 2 * (i : Int)⟩ : IA) := by
  simp [rampA, h]
theorem rampA_succ (i : Nat) : rampA (i + 1) = rampA i ++ [(⟨1 + 2 * (i : Int), 2 + 2 * (i : Int)⟩ : IA)] := by
  simp [rampA, List.range_succ]
theorem markE_ev (l : List IA) (hl : l.length ≤ 2097152) : Ev (fun k => laws_markAttackS.f k l 1) (1 + 2 * (l.length : Int), rampA l.length) := by
  unfold laws_markAttackS.f
  have key : ∀ i, i ≤ l.length → Ev (fun k => laws_markAttackS.l0 k (rampA i ++ l.drop i) (1 + 2 * (i : Int)) (i : Int)) (1 + 2 * (l.length : Int), rampA l.length) := by
    refine down l.length ?_ (fun i hi ih => ?_)
    · rw [List.drop_length, List.append_nil]
      refine Ev.step (f := fun _ => some (1 + 2 * (l.length : Int), rampA l.length)) (fun k => ?_) (Ev.now _)
      simp only [laws_markAttackS.l0]
      rw [if_neg (by rw [rampA_len]; omega)]
    · have hlen : (rampA i ++ l.drop i).length = l.length := by rw [List.length_append, rampA_len, List.length_drop]; omega
      obtain ⟨x, hx⟩ : ∃ x, x = l.getD i z65 := ⟨_, rfl⟩
      have hd : l.drop i = x :: l.drop (i + 1) := by rw [hx]; exact drop_getD l i hi _
      have hset : ∀ y z : IA, ∀ t : List IA, (rampA i ++ y :: t).set i z = rampA i ++ z :: t := fun y z t => by
        rw [List.set_append_right _ _ (by rw [rampA_len]; omega), rampA_len, Nat.sub_self, List.set_cons_zero]
      have hrd : ∀ y : IA, ∀ t : List IA, rd_T65 (rampA i ++ y :: t) (i : Int) = y := fun y t => by
        show (rampA i ++ y :: t).getD (i : Int).toNat z65 = y
        rw [List.getD_eq_getElem?_getD, show (i : Int).toNat = i by omega, List.getElem?_append_right (by rw [rampA_len]; omega), rampA_len, Nat.sub_self]
        rfl
      refine Ev.step (fun k => ?_) ih
      simp only [laws_markAttackS.l0]
      rw [if_pos (by rw [hlen]; omega), if_pos (by omega), Option.bind_some, show ((i : Int)).toNat = i by omega, hd, hset, hset, hrd]
      rw [w64s (by omega), w64 (x := 1 + 2 * (i : Int) + 1) (by omega) (by omega), w64 (by omega) (by omega), rampA_succ, List.append_assoc]
      rw [show (1 : Int) + 2 * (i : Int) + 1 = 2 + 2 * (i : Int) by omega, show (2 : Int) + 2 * (i : Int) + 1 = 1 + 2 * ((i + 1 : Nat) : Int) by omega]
      rfl
  simpa [rampA] using key 0 (Nat.zero_le _)
theorem markG_ev (n : Int) (l : List IA) (hl : l.length ≤ 2097152) : Ev (fun k => laws_markFramework.f k n l 1) (1 + 2 * (l.length : Int), rampA l.length) := by
  unfold laws_markFramework.f
  exact Ev.bind (markE_ev l hl) (Ev.now _)
theorem heldE_ev (m : Nat) (hm : m ≤ 2097152) : Ev (fun k => laws_heldAttackS.f k (rampA m) 1) (1 + 2 * (m : Int)) := by
  unfold laws_heldAttackS.f
  have key : ∀ i, i ≤ m → Ev (fun k => laws_heldAttackS.l0 k (rampA m) (1 + 2 * (i : Int)) (i : Int)) (1 + 2 * (m : Int)) := by
    refine down m ?_ (fun i hi ih => ?_)
    · refine Ev.step (f := fun _ => some (1 + 2 * (m : Int))) (fun k => ?_) (Ev.now _)
      simp only [laws_heldAttackS.l0]
      rw [if_neg (by rw [rampA_len]; omega)]
    · refine Ev.step (fun k => ?_) ih
      simp only [laws_heldAttackS.l0]
      have hr : rd_T65 (rampA m) (i : Int) = (⟨1 + 2 * (i : Int), 2 + 2 * (i : Int)⟩ : IA) := rampA_get m i hi
      rw [if_pos (by rw [rampA_len]; omega), if_pos (by omega), hr, if_pos rfl, w64 (x := 1 + 2 * (i : Int) + 1) (by omega) (by omega), if_pos (by simp only []; omega), w64s (by omega), w64 (by omega) (by omega)]
      rw [show (1 : Int) + 2 * (i : Int) + 1 + 1 = 1 + 2 * ((i + 1 : Nat) : Int) by omega]
  simpa using key 0 (Nat.zero_le _)
theorem heldG_ev (n : Int) (m : Nat) (hm : m ≤ 2097152) : Ev (fun k => laws_heldFramework.f k n (rampA m) 1) (1 + 2 * (m : Int)) := by
  unfold laws_heldFramework.f
  refine Ev.bind (heldE_ev m hm) ?_
  simp only [if_neg (show ¬ (1 + 2 * (m : Int) < 0) by omega)]
  exact Ev.now _

/-! an attack that is added -/
theorem Ev.at1 {α : Type} {g : Nat → Option α} {r : α} (h : ∀ k, g (k + 1) = some r) : Ev g r := ⟨1, fun k hk => by have := h (k - 1); rwa [show k - 1 + 1 = k by omega] at this⟩
theorem Ev.at2 {α : Type} {g : Nat → Option α} {r : α} (h : ∀ k, g (k + 2) = some r) : Ev g r := ⟨2, fun k hk => by have := h (k - 2); rwa [show k - 2 + 2 = k by omega] at this⟩
theorem IA_ext {a b : IA} (h0 : a.f0 = b.f0) (h1 : a.f1 = b.f1) : a = b := by
  cases a; cases b
  simp only at h0 h1
  rw [h0, h1]
instance : DecidableEq IA := fun a b => if h : a.f0 = b.f0 ∧ a.f1 = b.f1 then isTrue (IA_ext h.1 h.2) else isFalse (fun e => h (by rw [e]; exact ⟨rfl, rfl⟩))
def pos (x : IA) : List IA → Nat
  | [] => 0
  | y :: l => if lt2 y x = true then pos x l + 1 else 0
theorem pos_le (x : IA) : ∀ l : List IA, pos x l ≤ l.length
  | [] => Nat.le_refl _
  | y :: l => by
    unfold pos
    have := pos_le x l
    split <;> simp <;> omega
theorem pos_drop (x : IA) (l : List IA) (i : Nat) (h : i < l.length) : pos x (l.drop i) = if lt2 (l.getD i z65) x = true then pos x (l.drop (i + 1)) + 1 else 0 := by
  rw [drop_getD l i h z65]
  rfl
theorem pos_below (x : IA) : ∀ (l : List IA) (j : Nat), j < pos x l → lt2 (l.getD j z65) x = true
  | [], j, h => absurd h (by simp [pos])
  | y :: l, j, h => by
    unfold pos at h
    by_cases c : lt2 y x = true
    · rw [if_pos c] at h
      cases j with
      | zero => exact c
      | succ j => exact pos_below x l j (by omega)
    · rw [if_neg c] at h
      omega
theorem pos_at (x : IA) : ∀ (l : List IA), pos x l < l.length → lt2 (l.getD (pos x l) z65) x = false
  | [], h => absurd h (by simp [pos])
  | y :: l, h => by
    unfold pos at h ⊢
    by_cases c : lt2 y x = true
    · rw [if_pos c] at h ⊢
      exact pos_at x l (by simpa using h)
    · rw [if_neg c]
      simpa using c
theorem lt2_iff {a b : IA} : lt2 a b = true ↔ a.f0 < b.f0 ∨ (a.f0 = b.f0 ∧ a.f1 < b.f1) := by simp [lt2]
theorem lt2_self (a : IA) : lt2 a a = false := by
  cases h : lt2 a a with
  | false => rfl
  | true => have := lt2_iff.1 h; omega
theorem goodAt_of {n : Int} {l : List IA} (h : good n l = true) (i : Nat) (hi : i < l.length) : inR n (l.getD i z65) = true ∧ (0 < i → lt2 (l.getD (i - 1) z65) (l.getD i z65) = true) := by
  have := (good_iff.1 h).2 i hi
  rw [goodAt, Bool.and_eq_true, Bool.or_eq_true] at this
  refine ⟨this.1, fun h0 => ?_⟩
  rcases this.2 with h2 | h2
  · have : i = 0 := by simpa using h2
    omega
  · exact h2
theorem good_sorted {n : Int} {l : List IA} (h : good n l = true) (i : Nat) : ∀ d, i + d + 1 < l.length → lt2 (l.getD i z65) (l.getD (i + d + 1) z65) = true
  | 0, hj => by
    have := (goodAt_of h (i + 1) hj).2 (by omega)
    simpa using this
  | d + 1, hj => by
    have h1 := lt2_iff.1 (good_sorted h i d (by omega))
    have h2 := lt2_iff.1 ((goodAt_of h (i + (d + 1) + 1) hj).2 (by omega))
    rw [show i + (d + 1) + 1 - 1 = i + d + 1 by omega] at h2
    exact lt2_iff.2 (by omega)
theorem pos_mem {n : Int} {l : List IA} (h : good n l = true) (x : IA) (j : Nat) (hj : j < l.length) (hx : l.getD j z65 = x) : pos x l = j := by
  have h1 : pos x l ≤ j := by
    refine Nat.le_of_not_lt (fun c => ?_)
    have := pos_below x l j c
    rw [hx, lt2_self] at this
    cases this
  rcases Nat.lt_or_ge (pos x l) j with c | c
  · have h2 := pos_at x l (by omega)
    have h3 := good_sorted h (pos x l) (j - pos x l - 1) (by omega)
    rw [show pos x l + (j - pos x l - 1) + 1 = j by omega, hx, h2] at h3
    cases h3
  · omega
/-- What comes out: the list itself where the attack stands in it; else the attack lies where it belongs. -/
def added (l : List IA) (x : IA) : List IA := if pos x l < l.length ∧ l.getD (pos x l) z65 = x then l else l.take (pos x l) ++ [x] ++ l.drop (pos x l)
theorem added_len (l : List IA) (x : IA) : (added l x).length ≤ l.length + 1 := by
  unfold added
  have := pos_le x l
  split <;> simp <;> omega
def addR (n : Int) (l : List IA) (a b : Int) : Int × List IA × Bool := if good n l = true ∧ inR n ⟨a, b⟩ = true then (n, added l ⟨a, b⟩, true) else (0, [], false)
theorem key_lt {n : Int} (h0 : 0 ≤ n) (h1 : n ≤ 10) {x y : IA} (hx : inR n x = true) (hy : inR n y = true) : decide (wrap64 (wrap64 (x.f0 * n) + x.f1) < wrap64 (wrap64 (y.f0 * n) + y.f1)) = lt2 x y := by
  have hx := inR_iff.1 hx
  have hy := inR_iff.1 hy
  have b1 : x.f0 * n ≤ 10 * 10 := Int.mul_le_mul (by omega) (by omega) h0 (by omega)
  have b2 : y.f0 * n ≤ 10 * 10 := Int.mul_le_mul (by omega) (by omega) h0 (by omega)
  have b3 : 0 ≤ x.f0 * n := Int.mul_nonneg (by omega) h0
  have b4 : 0 ≤ y.f0 * n := Int.mul_nonneg (by omega) h0
  rw [w64 (x := x.f0 * n) (by omega) (by omega), w64 (x := y.f0 * n) (by omega) (by omega), w64 (by omega) (by omega), w64 (by omega) (by omega)]
  have e : (x.f0 * n + x.f1 < y.f0 * n + y.f1) ↔ lt2 x y = true := by
    rw [lt2_iff]
    rcases Int.lt_trichotomy x.f0 y.f0 with c | c | c
    · have : (x.f0 + 1) * n ≤ y.f0 * n := Int.mul_le_mul_of_nonneg_right (by omega) h0
      rw [Int.add_mul, Int.one_mul] at this
      constructor <;> intro <;> omega
    · rw [c]
      constructor <;> intro <;> omega
    · have : (y.f0 + 1) * n ≤ x.f0 * n := Int.mul_le_mul_of_nonneg_right (by omega) h0
      rw [Int.add_mul, Int.one_mul] at this
      constructor <;> intro <;> omega
  cases h : lt2 x y with
  | true => simpa using e.2 h
  | false => simp only [decide_eq_false_iff_not]; intro c; rw [e.1 c] at h; cases h
theorem spec_tail (n : Int) (l : List IA) (hl : l.length ≤ 1048576) (x : IA) (i : Nat) (hi : i ≤ l.length) (k : Nat) :
    spec_AddAttack.j2 (k + 2) x.f0 x.f1 (i : Int) false n l = some (n, (if i < l.length ∧ l.getD i z65 = x then l.take i ++ [x] ++ l.drop (i + 1) else l.take i ++ [x] ++ l.drop i), true) := by
  have hl2 : (l.take i).length ≤ 1048576 := by simp; omega
  have hd : (l.drop i).length ≤ 1048576 := by simp; omega
  have hd2 : (l.drop (i + 1)).length ≤ 1048576 := by simp; omega
  have hx : (⟨x.f0, x.f1⟩ : IA) = x := rfl
  have hf : spec_AddAttack.j3 (k + 1) (i : Int) false n l n (l.take i ++ [x]) = some (n, l.take i ++ [x] ++ l.drop i, true) := by
    simp only [spec_AddAttack.j3]
    rw [if_neg (by simp), if_pos (by omega), if_pos (by omega), Option.bind_some, show (i : Int).toNat = i by omega, if_pos (by simp at hl2 hd ⊢; omega)]
  have hj : ∀ b : Bool, (b = true → i < l.length) → spec_AddAttack.j3 (k + 1) (i : Int) b n l n (l.take i ++ [x]) = some (n, (if b = true then l.take i ++ [x] ++ l.drop (i + 1) else l.take i ++ [x] ++ l.drop i), true) := by
    intro b hb
    cases b with
    | false => rw [hf, if_neg (by simp)]
    | true =>
      have := hb rfl
      simp only [spec_AddAttack.j3]
      rw [if_pos trivial, if_pos trivial, w64s (by omega), if_pos (by omega), if_pos (by omega), Option.bind_some, show ((i + 1 : Nat) : Int).toNat = i + 1 by omega, if_pos (by simp at hl2 hd2 ⊢; omega)]
  rw [show k + 2 = (k + 1) + 1 by omega, spec_AddAttack.j2]
  rw [if_neg (by simp), Option.bind_some, if_pos (by omega), if_pos (by omega), Option.bind_some, show (i : Int).toNat = i by omega, List.nil_append, if_pos (by simp; omega), Option.bind_some, if_pos (by simp; omega), Option.bind_some, hx]
  by_cases c : i < l.length
  · rw [if_pos (by omega), rdA]
    by_cases c0 : (l.getD i z65).f0 = x.f0
    · rw [if_pos c0, hj _ (fun _ => c)]
      by_cases c1 : (l.getD i z65).f1 = x.f1
      · rw [if_pos (by simpa using c1), if_pos ⟨c, IA_ext c0 c1⟩]
      · rw [if_neg (by simpa using c1), if_neg (fun h => c1 (by rw [h.2]))]
    · rw [if_neg c0, hf, if_neg (fun h => c0 (by rw [h.2]))]
  · rw [if_neg (by omega), hf, if_neg (fun h => c h.1)]
theorem spec_walk (n : Int) (l : List IA) (hl : l.length ≤ 1048576) (hg : good n l = true) (x : IA) (hx : inR n x = true) (r : List IA) : ∀ i, i ≤ l.length →
    (∀ k, spec_AddAttack.j2 (k + 2) x.f0 x.f1 ((i + pos x (l.drop i) : Nat) : Int) false n l = some (n, r, true)) → Ev (fun k => spec_AddAttack.l0 k x.f0 x.f1 (i : Int) n l) (n, r, true) := by
  have hn := good_n hg
  refine down l.length ?_ (fun i hi ih => ?_)
  · intro h
    rw [List.drop_length] at h
    refine Ev.step (f := fun k => spec_AddAttack.j2 k x.f0 x.f1 (l.length : Int) false n l) (fun k => ?_) (Ev.at2 h)
    simp only [spec_AddAttack.l0]
    rw [if_neg (by omega)]
  · intro h
    rw [pos_drop x l i hi] at h
    have hr := (goodAt_of hg i hi).1
    by_cases c : lt2 (l.getD i z65) x = true
    · rw [if_pos c] at h
      have ih' := ih (fun k => by rw [← h k, show i + (pos x (l.drop (i + 1)) + 1) = i + 1 + pos x (l.drop (i + 1)) by omega])
      refine Ev.step (f := fun k => spec_AddAttack.j2 k x.f0 x.f1 (i : Int) true n l) (fun k => ?_) (Ev.step (fun k => ?_) ih')
      · simp only [spec_AddAttack.l0]
        rw [if_pos (by omega), if_pos (by omega), rdA, key_lt hn.1 hn.2 hr hx, c]
      · rw [spec_AddAttack.j2, if_pos rfl, w64s (by omega)]
    · rw [if_neg c] at h
      refine Ev.step (f := fun k => spec_AddAttack.j2 k x.f0 x.f1 (i : Int) false n l) (fun k => ?_) (Ev.at2 h)
      simp only [spec_AddAttack.l0]
      rw [if_pos (by omega), if_pos (by omega), rdA, key_lt hn.1 hn.2 hr hx, Bool.eq_false_iff.2 c]
theorem in_split (n a b : Int) : inR n ⟨a, b⟩ = ((decide (0 ≤ a) && decide (a ≤ n - 1)) && (decide (0 ≤ b) && decide (b ≤ n - 1))) := inR_and n ⟨a, b⟩
theorem spec_added (l : List IA) (x : IA) (c : pos x l < l.length ∧ l.getD (pos x l) z65 = x) : l.take (pos x l) ++ [x] ++ l.drop (pos x l + 1) = l := by
  have := drop_getD l (pos x l) c.1 z65
  rw [c.2] at this
  rw [List.append_assoc, List.singleton_append, ← this, List.take_append_drop]
theorem specAdd_ev (n : Int) (l : List IA) (hl : l.length ≤ 1048576) (a b : Int) : Ev (fun k => spec_AddAttack.f k n l a b) (addR n l a b) := by
  unfold spec_AddAttack.f addR
  refine Ev.bind (spec_ev n l hl) ?_
  by_cases hg : good n l = true
  · rw [hg]
    have hn := good_n hg
    simp only [if_true, l1In_eq, Option.bind_some, w64 (x := n - 1) (by omega) (by omega), true_and]
    rw [in_split]
    cases h1 : (decide (0 ≤ a) && decide (a ≤ n - 1)) with
    | false =>
      simp only [Bool.false_eq_true, if_false, Bool.false_and]
      exact Ev.step (f := fun _ => some (0, [], false)) (fun k => by simp only [spec_AddAttack.j0]; rfl) (Ev.now _)
    | true =>
      simp only [if_true, Bool.true_and]
      cases h2 : (decide (0 ≤ b) && decide (b ≤ n - 1)) with
      | false =>
        simp only [Bool.false_eq_true, if_false, Bool.not_false]
        exact Ev.step (f := fun _ => some (0, [], false)) (fun k => by simp only [spec_AddAttack.j0]; rfl) (Ev.now _)
      | true =>
        simp only [if_true, Bool.not_true]
        have hx : inR n ⟨a, b⟩ = true := by rw [in_split, h1, h2]; rfl
        refine Ev.step (f := fun k => spec_AddAttack.l0 k a b 0 n l) (fun k => by simp only [spec_AddAttack.j0]; rfl) ?_
        refine spec_walk n l hl hg ⟨a, b⟩ hx (added l ⟨a, b⟩) 0 (Nat.zero_le _) (fun k => ?_)
        rw [List.drop_zero, Nat.zero_add, spec_tail n l hl ⟨a, b⟩ _ (pos_le _ _)]
        unfold added
        by_cases c : pos ⟨a, b⟩ l < l.length ∧ l.getD (pos ⟨a, b⟩ l) z65 = ⟨a, b⟩
        · rw [if_pos c, if_pos c, spec_added l _ c]
        · rw [if_neg c, if_neg c]
  · have hf : good n l = false := by simpa using hg
    rw [hf]
    simp only [Bool.false_eq_true, if_false, false_and]
    exact Ev.step (f := fun _ => some (0, [], false)) (fun k => by simp only [spec_AddAttack.j0]; rfl) (Ev.now _)
/-! the program's -/
theorem has_loop (l : List IA) (hl : l.length ≤ 1048576) (x : IA) : ∀ i, i ≤ l.length → ∃ r : Int, Ev (fun k => impl_Attack_78.l0 k l (l.length : Int) (i : Int) x.f0 x.f1) r ∧ (decide (r ≥ 0) = true ↔ ∃ j, i ≤ j ∧ j < l.length ∧ l.getD j z65 = x) := by
  refine down l.length ?_ (fun i hi ih => ?_)
  · refine ⟨-1, Ev.step (f := fun _ => some (-1)) (fun k => by simp only [impl_Attack_78.l0]; rw [if_neg (by omega)]) (Ev.now _), ?_⟩
    constructor
    · intro h; simp at h
    · rintro ⟨j, h1, h2, _⟩; omega
  · by_cases c : l.getD i z65 = x
    · refine ⟨(i : Int), Ev.step (f := fun _ => some (i : Int)) (fun k => ?_) (Ev.now _), ?_⟩
      · simp only [impl_Attack_78.l0]
        rw [if_pos (by omega), if_pos (by omega), if_pos (by omega), rdA, c, if_pos (by simp)]
      · exact ⟨fun _ => ⟨i, Nat.le_refl _, hi, c⟩, fun _ => by simp⟩
    · obtain ⟨r, hr, hj⟩ := ih
      refine ⟨r, Ev.step (fun k => ?_) hr, ?_⟩
      · simp only [impl_Attack_78.l0]
        rw [if_pos (by omega), if_pos (by omega), if_pos (by omega), rdA, if_neg, w64s (by omega)]
        intro h
        simp only [Bool.and_eq_true, beq_iff_eq] at h
        exact c (IA_ext h.1.symm h.2.symm)
      · rw [hj]
        constructor
        · rintro ⟨j, h1, h2, h3⟩; exact ⟨j, by omega, h2, h3⟩
        · rintro ⟨j, h1, h2, h3⟩
          refine ⟨j, ?_, h2, h3⟩
          rcases Nat.lt_or_ge i j with h4 | h4
          · omega
          · obtain rfl : j = i := by omega
            exact absurd h3 c
theorem impl_tail (n : Int) (l : List IA) (hl : l.length ≤ 1048576) (x : IA) (i : Nat) (hi : i ≤ l.length) (k : Nat) : impl_AddAttack.j2 (k + 1) x.f0 x.f1 (i : Int) false n l x.f0 x.f1 = some (n, l.take i ++ [x] ++ l.drop i, true) := by
  simp only [impl_AddAttack.j2]
  rw [if_neg (by simp)]
  unfold impl_Attack_42.f
  rw [if_pos (by omega), if_pos (by omega), if_pos (by simp), if_pos (by omega), show (i : Int).toNat = i by omega]
  rfl
theorem impl_walk (n : Int) (l : List IA) (hl : l.length ≤ 1048576) (x : IA) (r : List IA) : ∀ i, i ≤ l.length →
    (∀ k, impl_AddAttack.j2 (k + 1) x.f0 x.f1 ((i + pos x (l.drop i) : Nat) : Int) false n l x.f0 x.f1 = some (n, r, true)) → Ev (fun k => impl_AddAttack.l0 k x.f0 x.f1 (i : Int) n l x.f0 x.f1) (n, r, true) := by
  refine down l.length ?_ (fun i hi ih => ?_)
  · intro h
    rw [List.drop_length] at h
    refine Ev.step (f := fun k => impl_AddAttack.j2 k x.f0 x.f1 (l.length : Int) false n l x.f0 x.f1) (fun k => ?_) (Ev.at1 h)
    simp only [impl_AddAttack.l0]
    rw [if_neg (by omega)]
  · intro h
    rw [pos_drop x l i hi] at h
    have hstep : ∀ k, impl_AddAttack.l0 (k + 1) x.f0 x.f1 (i : Int) n l x.f0 x.f1 = impl_AddAttack.j2 k x.f0 x.f1 (i : Int) (lt2 (l.getD i z65) x) n l x.f0 x.f1 := fun k => by
      simp only [impl_AddAttack.l0]
      rw [if_pos (by omega), if_pos (by omega), rdA]
      generalize l.getD i z65 = y
      by_cases c0 : y.f0 < x.f0
      · rw [if_pos c0, lt2_iff.2 (.inl c0)]
      · rw [if_neg c0]
        by_cases c1 : y.f0 = x.f0
        · rw [if_pos c1]
          congr 1
          simp [lt2, c1]
        · rw [if_neg c1]
          congr 1
          simp [lt2, c0, c1]
    by_cases c : lt2 (l.getD i z65) x = true
    · rw [if_pos c] at h
      have ih' := ih (fun k => by rw [← h k, show i + (pos x (l.drop (i + 1)) + 1) = i + 1 + pos x (l.drop (i + 1)) by omega])
      refine Ev.step (f := fun k => impl_AddAttack.j2 k x.f0 x.f1 (i : Int) true n l x.f0 x.f1) (fun k => by rw [hstep, c]) (Ev.step (fun k => ?_) ih')
      rw [impl_AddAttack.j2, if_pos rfl, w64s (by omega)]
    · rw [if_neg c] at h
      exact Ev.step (f := fun k => impl_AddAttack.j2 k x.f0 x.f1 (i : Int) false n l x.f0 x.f1) (fun k => by rw [hstep, Bool.eq_false_iff.2 c]) (Ev.at1 h)
theorem implAdd_ev (n : Int) (l : List IA) (hl : l.length ≤ 1048576) (a b : Int) : Ev (fun k => impl_AddAttack.f k n l a b) (addR n l a b) := by
  unfold impl_AddAttack.f addR
  refine Ev.bind (impl_ev n l hl) ?_
  by_cases hg : good n l = true
  · rw [hg]
    have hn := good_n hg
    simp only [if_true, within_eq, Option.bind_some, w64 (x := n - 1) (by omega) (by omega), true_and]
    rw [in_split]
    cases h1 : (decide (0 ≤ a) && decide (a ≤ n - 1)) with
    | false =>
      simp only [Bool.false_eq_true, if_false, Bool.false_and]
      exact Ev.step (f := fun _ => some (0, [], false)) (fun k => by simp only [impl_AddAttack.j0]; rfl) (Ev.now _)
    | true =>
      simp only [if_true, Bool.true_and]
      cases h2 : (decide (0 ≤ b) && decide (b ≤ n - 1)) with
      | false =>
        simp only [Bool.false_eq_true, if_false, Bool.not_false]
        exact Ev.step (f := fun _ => some (0, [], false)) (fun k => by simp only [impl_AddAttack.j0]; rfl) (Ev.now _)
      | true =>
        simp only [if_true, Bool.not_true]
        obtain ⟨r, hr, hj⟩ := has_loop l hl ⟨a, b⟩ 0 (Nat.zero_le _)
        have hcl : impl_Attack_40.f l = some l := by
          unfold impl_Attack_40.f
          rw [if_pos (by omega)]
        refine Ev.step (f := fun k => (impl_Attack_41.f k l a b).bind fun t187 => (if t187 = true then (some (n, l, true)) else (impl_AddAttack.l0 k a b 0 n l a b))) (fun k => by simp only [impl_AddAttack.j0]; rw [if_neg (by simp), hcl, Option.bind_some]) ?_
        refine Ev.bind (a := decide (r ≥ 0)) ?_ ?_
        · unfold impl_Attack_41.f impl_Attack_78.f
          exact Ev.bind hr (Ev.now _)
        · unfold added
          by_cases c : decide (r ≥ 0) = true
          · rw [c]
            simp only [if_true]
            obtain ⟨j, _, h3, h4⟩ := hj.1 c
            have hp := pos_mem hg ⟨a, b⟩ j h3 h4
            rw [if_pos (by rw [hp]; exact ⟨h3, h4⟩)]
            exact Ev.now _
          · rw [Bool.eq_false_iff.2 c]
            simp only [Bool.false_eq_true, if_false]
            rw [if_neg (fun h => c (hj.2 ⟨_, Nat.zero_le _, h.1, h.2⟩))]
            refine impl_walk n l hl ⟨a, b⟩ _ 0 (Nat.zero_le _) (fun k => ?_)
            rw [List.drop_zero, Nat.zero_add]
            exact impl_tail n l hl ⟨a, b⟩ _ (pos_le _ _) k
  · have hf : good n l = false := by simpa using hg
    rw [hf]
    simp only [Bool.false_eq_true, if_false, false_and]
    exact Ev.step (f := fun _ => some (0, [], false)) (fun k => by simp only [impl_AddAttack.j0]; rfl) (Ev.now _)
theorem addR_len (n : Int) (l : List IA) (a b : Int) : (addR n l a b).2.1.length ≤ l.length + 1 := by
  unfold addR
  split
  · exact added_len l _
  · simp

theorem whole (n : Int) (l : List LA) (a b : Int) (hl : l.length ≤ maxLen) : Ev (fun k => laws_FnExactAddAttack.f k n l a b) true := by
  unfold laws_FnExactAddAttack.f
  rw [sz_ev n l hl]
  by_cases h : l.length ≤ 1048576
  · simp only [if_pos h, Option.bind_some, if_neg (show ¬ (1048576 - (l.length : Int) < 0) by omega)]
    have hc := conv_length l
    have hS := specAdd_ev n (conv l) (by omega) a b
    have hI := implAdd_ev n (conv l) (by omega) a b
    have hL := addR_len n (conv l) a b
    generalize addR n (conv l) a b = R at hS hI hL
    obtain ⟨m, r, ok⟩ := R
    dsimp only at hL
    have heq : Ev (fun k => laws_eqFramework.f k m r m r) true := eqF_ev' m r (by omega)
    refine Ev.bind (toF_ev n l h) (Ev.bind hS (Ev.bind (toF_ev n l h) (Ev.bind hI (Ev.bind heq ?_))))
    simp only [if_true, bne_self_eq_false]
    refine Ev.step (fun k => by simp only [laws_FnExactAddAttack.j0]; rfl) ?_
    simp only [Bool.false_eq_true, if_false]
    refine Ev.bind (toF_ev n l h) (Ev.bind (eqF_ev n (conv l) (by omega)) ?_)
    simp only [if_true]
    refine Ev.bind (markG_ev n (conv l) (by omega)) ?_
    simp only [if_neg (show ¬ (1 + 2 * ((conv l).length : Int) < 0) by omega)]
    refine Ev.bind heq ?_
    simp only [if_true, bne_self_eq_false]
    refine Ev.step (fun k => by simp only [laws_FnExactAddAttack.j1]; rfl) ?_
    simp only [Bool.false_eq_true, if_false]
    refine Ev.bind (markG_ev m r (by omega)) (Ev.bind (heldG_ev m r.length (by omega)) ?_)
    simp only [if_neg (show ¬ (1 + 2 * (r.length : Int) < 0) by omega), if_true]
    refine Ev.bind (toF_ev n l h) (Ev.bind hI (Ev.bind heq ?_))
    simp only [if_true, bne_self_eq_false]
    refine Ev.step (fun k => by simp only [laws_FnExactAddAttack.j2]; rfl) ?_
    simp only [Bool.false_eq_true, if_false]
    refine Ev.bind (heldG_ev m r.length (by omega)) ?_
    simp only [if_neg (show ¬ (1 + 2 * (r.length : Int) < 0) by omega), if_true]
    exact Ev.now _
  · simp only [if_neg h, Option.bind_some]
    exact Ev.now _
end Go.Proofs.Ytlneimpoholkhaa.PureFnExactAddAttack
namespace Go.Proofs.Ytlneimpoholkhaa.Pure
theorem FnExactAddAttack : PFnExactAddAttack.laws_FnExactAddAttack.Ask := fun x a b hx _ _ => (PureFnExactAddAttack.whole x.f0 x.f1 a b hx.2.1).rounds
end Go.Proofs.Ytlneimpoholkhaa.Pure
