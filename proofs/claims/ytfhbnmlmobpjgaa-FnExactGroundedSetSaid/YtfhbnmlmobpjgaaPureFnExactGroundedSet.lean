/-
The plain law behind FnExactGroundedSet: the printed functions of the program and of the reference give the same values, so the law answers true. No condition.
-/
import Derived.Test.YtfhbnmlmobpjgaaAskFnExactGroundedSet
import Derived.Test.YtfhbnmlmobpjgaaBase
import Derived.Test.YtfhbnmlmobpjgaaBits
namespace Go.Proofs.Ytfhbnmlmobpjgaa.PureFnExactGroundedSet
open Go.RowKit Go.Proofs.Ytfhbnmlmobpjgaa.PFnExactGroundedSet Go.Proofs.YtfhbnmlmobpjgaaOpen Go.Proofs.YtfhbnmlmobpjgaaBase Go.Proofs.YtfhbnmlmobpjgaaBits Go.Proofs.YtfhbnmlmobpjgaaW.PrintWords Go.Proofs.YtfhbnmlmobpjgaaW.PrintLast Go.Proofs.YtfhbnmlmobpjgaaW.PrintMore

/-! frameworks: what the law makes of its argument, and what is valid -/
abbrev LA := S95
abbrev IA := S65
def conv (l : List LA) : List IA := l.map fun x => ⟨x.f0, x.f1⟩
theorem conv_length (l : List LA) : (conv l).length = l.length := by simp [conv]

theorem sz_ev (n : Int) (l : List LA) (hl : l.length ≤ maxLen) : laws_szFramework.f n l 1048576 = if l.length ≤ 1048576 then some (1048576 - (l.length : Int)) else some (-1) := by
  unfold maxLen at hl
  unfold laws_szFramework.f laws_szAttackS.f
  rw [w64 (by omega) (by omega)]
  by_cases h : l.length ≤ 1048576
  · rw [if_neg (by omega), if_pos h, Option.bind_some, if_neg (by omega)]
  · rw [if_pos (by omega), if_neg h, Option.bind_some, if_pos (by omega)]

theorem toS_ev (l : List LA) (hl : l.length ≤ 1048576) : Ev (fun k => laws_toAttackS.f k l) (conv l) := by
  unfold laws_toAttackS.f
  refine Ev.congr (f := fun k => laws_toAttackS.l0 k l (List.replicate l.length z65) 0) (fun k => by rw [if_pos (by omega), if_pos (by omega)]; rfl) ?_
  refine copy_loop (fun x : LA => (⟨x.f0, x.f1⟩ : IA)) _ z95 l (fun k y i => laws_toAttackS.l0 k l y i) ?_ ?_
  · intro k i y hi hy
    simp only [laws_toAttackS.l0]
    rw [if_pos (by omega), if_pos (by omega)]
    unfold laws_toAttack.f
    rw [Option.bind_some, if_pos (by omega), w64s (by omega)]
    rfl
  · intro k y hy
    simp only [laws_toAttackS.l0]
    rw [if_neg (by omega)]
theorem toF_ev (n : Int) (l : List LA) (hl : l.length ≤ 1048576) : Ev (fun k => laws_toFramework.f k n l) (n, conv l) := by
  unfold laws_toFramework.f
  exact Ev.bind (toS_ev l hl) (Ev.now _)

theorem eqS_ev (l : List IA) (hl : l.length ≤ 1048576) : Ev (fun k => laws_eqAttackS.f k l l) true := by
  unfold laws_eqAttackS.f
  refine Ev.congr (f := fun k => laws_eqAttackS.l0 k l l 0) (fun k => by rw [if_pos rfl]) ?_
  refine same_loop l (fun k i => laws_eqAttackS.l0 k l l i) (fun i hi ih => ?_) (fun k => by simp only [laws_eqAttackS.l0]; rw [if_neg (by omega)])
  refine Ev.step (f := fun k => laws_eqAttackS.l0 k l l ((i + 1 : Nat) : Int)) (fun k => ?_) ih
  simp only [laws_eqAttackS.l0]
  rw [if_pos (by omega), if_pos (by omega), if_pos (by omega)]
  unfold laws_eqAttack.f
  rw [if_pos rfl, if_pos rfl, Option.bind_some, if_pos rfl, w64s (by omega)]
theorem eqF_ev (n : Int) (l : List IA) (hl : l.length ≤ 1048576) : Ev (fun k => laws_eqFramework.f k n l n l) true := by
  unfold laws_eqFramework.f
  refine Ev.congr (f := fun k => (laws_eqAttackS.f k l l).bind fun t => if t = true then some true else some false) (fun k => by rw [if_pos rfl]) ?_
  exact Ev.bind (eqS_ev l hl) (by simp only [if_true]; exact Ev.now _)

def inR (n : Int) (x : IA) : Bool := decide (0 ≤ x.f0) && decide (x.f0 ≤ n - 1) && decide (0 ≤ x.f1) && decide (x.f1 ≤ n - 1)
def lt2 (a b : IA) : Bool := decide (a.f0 < b.f0) || (decide (a.f0 = b.f0) && decide (a.f1 < b.f1))
/-- From place i on: each in range, each behind the one ahead of it. -/
def goodAt (n : Int) (l : List IA) (i : Nat) : Bool := inR n (l.getD i z65) && (i == 0 || lt2 (l.getD (i - 1) z65) (l.getD i z65))
def good (n : Int) (l : List IA) : Bool := decide (0 ≤ n) && decide (n ≤ 10) && (List.range l.length).all (goodAt n l)
theorem good_iff {n : Int} {l : List IA} : good n l = true ↔ (0 ≤ n ∧ n ≤ 10) ∧ ∀ i, i < l.length → goodAt n l i = true := by
  simp [good, List.all_eq_true]
theorem inR_iff {n : Int} {x : IA} : inR n x = true ↔ 0 ≤ x.f0 ∧ x.f0 ≤ n - 1 ∧ 0 ≤ x.f1 ∧ x.f1 ≤ n - 1 := by simp [inR, and_assoc]

def restGood (n : Int) (l : List IA) (i : Nat) : Bool := (List.range' i (l.length - i)).all (goodAt n l)
theorem restGood_end (n : Int) (l : List IA) : restGood n l l.length = true := by simp [restGood]
theorem restGood_step (n : Int) (l : List IA) {i : Nat} (h : i < l.length) : restGood n l i = (goodAt n l i && restGood n l (i + 1)) := by
  unfold restGood
  rw [show l.length - i = (l.length - (i + 1)) + 1 by omega, List.range'_succ, List.all_cons]
theorem restGood_all (n : Int) (l : List IA) : restGood n l 0 = (List.range l.length).all (goodAt n l) := by
  unfold restGood
  rw [Nat.sub_zero, List.range_eq_range']

theorem within_eq (x a b : Int) : impl_within.f x a b = some (decide (a ≤ x) && decide (x ≤ b)) := by
  unfold impl_within.f
  by_cases h : x ≥ a
  · rw [if_pos h]; simp [h]
  · rw [if_neg h]; simp [h]
theorem l1In_eq (x a b : Int) : spec_l1In.f x a b = some (decide (a ≤ x) && decide (x ≤ b)) := by
  unfold spec_l1In.f
  by_cases h : x ≥ a
  · rw [if_pos h]; simp [h]
  · rw [if_neg h]; simp [h]
theorem rdA (l : List IA) (i : Nat) : rd_T65 l (i : Int) = l.getD i z65 := rfl

/-- What a round asks of element x behind element y: first is whether there is none ahead. -/
def ask (n : Int) (first : Bool) (y x : IA) : Bool := inR n x && (first || lt2 y x)
theorem goodAt_ask (n : Int) (l : List IA) (i : Nat) : goodAt n l i = ask n (i == 0) (l.getD (i - 1) z65) (l.getD i z65) := rfl
theorem inR_and (n : Int) (x : IA) : inR n x = ((decide (0 ≤ x.f0) && decide (x.f0 ≤ n - 1)) && (decide (0 ≤ x.f1) && decide (x.f1 ≤ n - 1))) := by simp only [inR, Bool.and_assoc]

theorem impl_j (n : Int) (l : List IA) (i : Nat) (hi : i < l.length) (hl : l.length ≤ 1048576) (b : Bool) (R : Bool) (ih : Ev (fun k => impl_IsValidFramework.l0 k l (l.length : Int) ((i + 1 : Nat) : Int) n l) R) (x : IA) :
    Ev (fun k => impl_IsValidFramework.j1 k (i : Int) l (l.length : Int) (i : Int) (!b) n l x.f0 x.f1) (b && ((i == 0) || lt2 (l.getD (i - 1) z65) x) && R) := by
  cases b with
  | false => exact Ev.step (f := fun _ => some false) (fun k => by simp only [impl_IsValidFramework.j1]; rfl) (Ev.now _)
  | true =>
    by_cases hz : i = 0
    · subst hz
      refine Ev.step (f := fun k => impl_IsValidFramework.l0 k l (l.length : Int) ((0 + 1 : Nat) : Int) n l) (fun k => ?_) ?_
      · simp only [impl_IsValidFramework.j1]; rw [if_neg (by simp), if_neg (by omega), w64s (by omega)]
      · simpa using ih
    · have hb : (i == 0) = false := by simpa using hz
      rw [hb]
      refine Ev.step (f := fun k => if lt2 (l.getD (i - 1) z65) x = true then impl_IsValidFramework.l0 k l (l.length : Int) ((i + 1 : Nat) : Int) n l else some false) (fun k => ?_) ?_
      · simp only [impl_IsValidFramework.j1]
        rw [if_neg (by simp), if_pos (by omega), w64p (by omega) (by omega), if_pos (by omega), if_pos (by omega), rdA, w64s (by omega)]
        generalize l.getD (i - 1) z65 = y
        simp only [lt2, Bool.or_eq_true, Bool.and_eq_true, decide_eq_true_eq]
        by_cases c1 : x.f0 < y.f0
        · rw [if_pos c1, if_neg (by omega)]
        · rw [if_neg c1]
          by_cases c2 : x.f0 = y.f0
          · rw [if_pos c2]
            by_cases c3 : x.f1 ≤ y.f1
            · rw [if_pos c3, if_neg (by omega)]
            · rw [if_neg c3, if_pos (by omega)]
          · rw [if_neg c2, if_pos (by omega)]
      · cases lt2 (l.getD (i - 1) z65) x with
        | true => simpa using ih
        | false => exact Ev.now _
theorem impl_loop (n : Int) (l : List IA) (hl : l.length ≤ 1048576) (h0 : 0 ≤ n) (h1 : n ≤ 10) : ∀ i, i ≤ l.length → Ev (fun k => impl_IsValidFramework.l0 k l (l.length : Int) (i : Int) n l) (restGood n l i) := by
  refine down l.length ?_ (fun i hi ih => ?_)
  · refine Ev.step (f := fun _ => some true) (fun k => by simp only [impl_IsValidFramework.l0]; rw [if_neg (by omega)]) ?_
    rw [restGood_end]
    exact Ev.now _
  · rw [restGood_step n l hi, goodAt_ask]
    have e := impl_j n l i hi hl (inR n (l.getD i z65)) _ ih (l.getD i z65)
    refine Ev.step (fun k => ?_) e
    simp only [impl_IsValidFramework.l0]
    rw [if_pos (by omega), if_pos (by omega), if_pos (by omega), rdA, within_eq, within_eq, w64 (by omega) (by omega)]
    simp only [Option.bind_some]
    generalize l.getD i z65 = x
    rw [inR_and]
    cases (decide (0 ≤ x.f0) && decide (x.f0 ≤ n - 1)) <;> simp
theorem good_eq (n : Int) (l : List IA) : good n l = (decide (0 ≤ n) && decide (n ≤ 10) && restGood n l 0) := by rw [restGood_all]; rfl
theorem impl_ev (n : Int) (l : List IA) (hl : l.length ≤ 1048576) : Ev (fun k => impl_IsValidFramework.f k n l) (good n l) := by
  unfold impl_IsValidFramework.f
  rw [within_eq, good_eq]
  simp only [Option.bind_some]
  by_cases c : 0 ≤ n ∧ n ≤ 10
  · have : (decide (0 ≤ n) && decide (n ≤ 10)) = true := by simpa using c
    simp only [this, if_true, Bool.true_and]
    exact impl_loop n l hl c.1 c.2 0 (Nat.zero_le _)
  · have : (decide (0 ≤ n) && decide (n ≤ 10)) = false := by simpa using c
    simp only [this, Bool.false_and]
    exact Ev.now _

theorem spec_j (n : Int) (l : List IA) (i : Nat) (hi : i < l.length) (hl : l.length ≤ 1048576) (h0 : 0 ≤ n) (h1 : n ≤ 10) (b : Bool) (R : Bool) (ih : b = true → Ev (fun k => spec_l22Good.l0 k ((i + 1 : Nat) : Int) n l) R) (x : IA) (hx : b = true → inR n x = true) (hy : 0 < i → inR n (l.getD (i - 1) z65) = true) :
    Ev (fun k => spec_l22Good.j1 k (i : Int) (!b) n l x.f0 x.f1) (b && ((i == 0) || lt2 (l.getD (i - 1) z65) x) && R) := by
  cases b with
  | false => exact Ev.step (f := fun _ => some false) (fun k => by simp only [spec_l22Good.j1]; rfl) (Ev.now _)
  | true =>
    have ih := ih rfl
    have hx := inR_iff.1 (hx rfl)
    by_cases hz : i = 0
    · subst hz
      refine Ev.step (f := fun k => spec_l22Good.l0 k ((0 + 1 : Nat) : Int) n l) (fun k => ?_) ?_
      · simp only [spec_l22Good.j1]; rw [if_neg (by simp), if_neg (by omega), w64s (by omega)]
      · simpa using ih
    · have hb : (i == 0) = false := by simpa using hz
      have hy := inR_iff.1 (hy (by omega))
      rw [hb]
      refine Ev.step (f := fun k => if lt2 (l.getD (i - 1) z65) x = true then spec_l22Good.l0 k ((i + 1 : Nat) : Int) n l else some false) (fun k => ?_) ?_
      · simp only [spec_l22Good.j1]
        rw [if_neg (by simp), if_pos (by omega), w64p (by omega) (by omega), if_pos (by omega), if_pos (by omega), rdA, w64s (by omega)]
        generalize l.getD (i - 1) z65 = y at hy ⊢
        have e1 : wrap64 (wrap64 (y.f0 * n) + y.f1) = y.f0 * n + y.f1 := by
          have : 0 ≤ y.f0 * n := Int.mul_nonneg hy.1 h0
          have : y.f0 * n ≤ 10 * 10 := Int.mul_le_mul (by omega) (by omega) h0 (by omega)
          rw [w64 (x := y.f0 * n) (by omega) (by omega), w64 (by omega) (by omega)]
        have e2 : wrap64 (wrap64 (x.f0 * n) + x.f1) = x.f0 * n + x.f1 := by
          have : 0 ≤ x.f0 * n := Int.mul_nonneg hx.1 h0
          have : x.f0 * n ≤ 10 * 10 := Int.mul_le_mul (by omega) (by omega) h0 (by omega)
          rw [w64 (x := x.f0 * n) (by omega) (by omega), w64 (by omega) (by omega)]
        rw [e1, e2]
        simp only [lt2, Bool.or_eq_true, Bool.and_eq_true, decide_eq_true_eq]
        by_cases c1 : y.f0 < x.f0
        · have : (y.f0 + 1) * n ≤ x.f0 * n := Int.mul_le_mul_of_nonneg_right (by omega) h0
          rw [Int.add_mul, Int.one_mul] at this
          rw [if_neg (by omega), if_pos (by omega)]
        · by_cases c2 : y.f0 = x.f0
          · rw [c2]
            by_cases c3 : y.f1 < x.f1
            · rw [if_neg (by omega), if_pos (by omega)]
            · rw [if_pos (by omega), if_neg (by omega)]
          · have : (x.f0 + 1) * n ≤ y.f0 * n := Int.mul_le_mul_of_nonneg_right (by omega) h0
            rw [Int.add_mul, Int.one_mul] at this
            rw [if_pos (by omega), if_neg (by omega)]
      · cases lt2 (l.getD (i - 1) z65) x with
        | true => simpa using ih
        | false => exact Ev.now _
theorem spec_loop (n : Int) (l : List IA) (hl : l.length ≤ 1048576) (h0 : 0 ≤ n) (h1 : n ≤ 10) : ∀ i, i ≤ l.length → (0 < i → inR n (l.getD (i - 1) z65) = true) → Ev (fun k => spec_l22Good.l0 k (i : Int) n l) (restGood n l i) := by
  refine down l.length ?_ (fun i hi ih => ?_)
  · intro _
    refine Ev.step (f := fun _ => some true) (fun k => by simp only [spec_l22Good.l0]; rw [if_neg (by omega)]) ?_
    rw [restGood_end]
    exact Ev.now _
  · intro hy
    rw [restGood_step n l hi, goodAt_ask]
    have e := spec_j n l i hi hl h0 h1 (inR n (l.getD i z65)) (restGood n l (i + 1)) (fun hb => ih (fun _ => hb)) (l.getD i z65) (fun h => h) hy
    refine Ev.step (fun k => ?_) e
    simp only [spec_l22Good.l0]
    rw [if_pos (by omega), if_pos (by omega), rdA, l1In_eq, l1In_eq, w64 (by omega) (by omega)]
    simp only [Option.bind_some]
    generalize l.getD i z65 = x
    rw [inR_and]
    cases (decide (0 ≤ x.f0) && decide (x.f0 ≤ n - 1)) <;> simp
theorem spec_ev (n : Int) (l : List IA) (hl : l.length ≤ 1048576) : Ev (fun k => spec_l22Good.f k n l) (good n l) := by
  unfold spec_l22Good.f
  rw [l1In_eq, good_eq]
  simp only [Option.bind_some]
  by_cases c : 0 ≤ n ∧ n ≤ 10
  · have : (decide (0 ≤ n) && decide (n ≤ 10)) = true := by simpa using c
    simp only [this, if_true, Bool.true_and]
    exact spec_loop n l hl c.1 c.2 0 (Nat.zero_le _) (fun h => absurd h (Nat.lt_irrefl 0))
  · have : (decide (0 ≤ n) && decide (n ≤ 10)) = false := by simpa using c
    simp only [this, Bool.false_and]
    exact Ev.now _
theorem good_n {n : Int} {l : List IA} (h : good n l = true) : 0 ≤ n ∧ n ≤ 10 := by
  rw [good_iff] at h
  exact h.1
theorem good_mem {n : Int} {l : List IA} (h : good n l = true) : ∀ x ∈ l, inR n x = true := by
  intro x hx
  obtain ⟨i, hi, rfl⟩ := List.getElem_of_mem hx
  have := (good_iff.1 h).2 i hi
  simp only [goodAt, Bool.and_eq_true] at this
  rw [List.getD_eq_getElem?_getD, List.getElem?_eq_getElem hi] at this
  exact this.1

theorem eqI_ev (s : List Int) (hl : s.length ≤ 1048576) : Ev (fun k => laws_eqIntS.f k s s) true := by
  unfold laws_eqIntS.f
  refine Ev.congr (f := fun k => laws_eqIntS.l0 k s s 0) (fun k => by rw [if_pos rfl]) ?_
  refine same_loop s (fun k i => laws_eqIntS.l0 k s s i) (fun i hi ih => ?_) (fun k => by simp only [laws_eqIntS.l0]; rw [if_neg (by omega)])
  refine Ev.step (f := fun k => laws_eqIntS.l0 k s s ((i + 1 : Nat) : Int)) (fun k => ?_) ih
  simp only [laws_eqIntS.l0]
  rw [if_pos (by omega), if_pos (by omega), if_pos (by omega), w64s (by omega)]
  exact if_pos trivial

/-! what a set attacks -/
def attFrom (m o : Nat) (l : List IA) : Nat := l.foldl (fun o x => if m.testBit x.f0.toNat = true then o ||| 2 ^ x.f1.toNat else o) o
def att (l : List IA) (m : Nat) : Nat := attFrom m 0 l
theorem attFrom_bit (m : Nat) (l : List IA) : ∀ (o j : Nat), (attFrom m o l).testBit j = (o.testBit j || l.any (fun x => m.testBit x.f0.toNat && decide (x.f1.toNat = j))) := by
  induction l with
  | nil => intro o j; simp [attFrom]
  | cons x l ih =>
    intro o j
    show (attFrom m (if m.testBit x.f0.toNat = true then o ||| 2 ^ x.f1.toNat else o) l).testBit j = _
    rw [ih, List.any_cons]
    cases m.testBit x.f0.toNat with
    | false => simp
    | true => rw [if_pos rfl, bit_or_pow, Bool.true_and, Bool.or_assoc]
theorem att_bit (l : List IA) (m j : Nat) : (att l m).testBit j = l.any (fun x => m.testBit x.f0.toNat && decide (x.f1.toNat = j)) := by
  rw [att, attFrom_bit, Nat.zero_testBit, Bool.false_or]
theorem att_lt {n : Int} {l : List IA} (h : good n l = true) (m : Nat) : att l m < 2 ^ 10 := lt_of_bits (fun i hi => by
  rw [att_bit, List.any_eq_true] at hi
  obtain ⟨a, ha, hd⟩ := hi
  rw [Bool.and_eq_true] at hd
  have := inR_iff.1 (good_mem h a ha)
  have := good_n h
  have := of_decide_eq_true hd.2
  omega)
theorem small_of {n : Int} {l : List IA} (h : good n l = true) {x : IA} (hx : x ∈ l) : ∃ a b : Nat, x.f0 = (a : Int) ∧ x.f1 = (b : Int) ∧ a < 10 ∧ b < 10 := by
  have := inR_iff.1 (good_mem h x hx)
  have := good_n h
  exact ⟨x.f0.toNat, x.f1.toNat, by omega, by omega, by omega, by omega⟩
theorem specAtt_loop (n : Int) (l : List IA) (hl : l.length ≤ 1048576) (hg : good n l = true) (m : Nat) (hm : m < 2 ^ 62) : ∀ i, i ≤ l.length → ∀ o : Nat, o < 2 ^ 62 → Ev (fun k => spec_l22Attacked.l0 k (m : Int) (o : Int) (i : Int) n l) ((attFrom m o (l.drop i) : Nat) : Int) := by
  refine down l.length ?_ (fun i hi ih => ?_)
  · intro o _
    rw [List.drop_length]
    exact Ev.step (f := fun _ => some (o : Int)) (fun k => by simp only [spec_l22Attacked.l0]; rw [if_neg (by omega)]) (Ev.now _)
  · intro o ho
    rw [drop_getD l i hi z65]
    obtain ⟨a, b, h0, h1, ha, hb⟩ := small_of hg (getD_mem l i hi z65)
    have hx := rdA l i
    generalize l.getD i z65 = x at hx h0 h1 ⊢
    have e : attFrom m o (x :: l.drop (i + 1)) = attFrom m (if m.testBit a = true then o ||| 2 ^ b else o) (l.drop (i + 1)) := by
      show attFrom m (if m.testBit x.f0.toNat = true then o ||| 2 ^ x.f1.toNat else o) (l.drop (i + 1)) = _
      rw [h0, h1, Int.toNat_natCast, Int.toNat_natCast]
    rw [e]
    refine Ev.step (f := fun k => spec_l22Attacked.l0 k (m : Int) ((if m.testBit a = true then o ||| 2 ^ b else o : Nat) : Int) ((i + 1 : Nat) : Int) n l) (fun k => ?_) (ih _ (by split; exact or62 ho (pow62 (by omega)); exact ho))
    simp only [spec_l22Attacked.l0]
    rw [if_pos (by omega), if_pos (by omega), hx, h0, h1, wrap_u64_small _ (by omega) (by omega), wrap_u64_small _ (by omega) (by omega), if_pos (by omega), b_one hm (by omega), w64s (by omega)]
    cases m.testBit a with
    | false => rfl
    | true => rw [if_pos rfl, if_pos rfl, if_pos (by omega), b_orshl ho (by omega)]; rfl
theorem specAtt_ev (n : Int) (l : List IA) (hl : l.length ≤ 1048576) (hg : good n l = true) (m : Nat) (hm : m < 2 ^ 62) : Ev (fun k => spec_l22Attacked.f k n l (m : Int)) ((att l m : Nat) : Int) := specAtt_loop n l hl hg m hm 0 (Nat.zero_le _) 0 (by decide)
theorem implAtt_loop (n : Int) (l : List IA) (hl : l.length ≤ 1048576) (hg : good n l = true) (m : Nat) (hm : m < 2 ^ 62) : ∀ i, i ≤ l.length → ∀ o : Nat, o < 2 ^ 62 → Ev (fun k => impl_attackedBy.l0 k (m : Int) (o : Int) l (l.length : Int) (i : Int)) ((attFrom m o (l.drop i) : Nat) : Int) := by
  refine down l.length ?_ (fun i hi ih => ?_)
  · intro o _
    rw [List.drop_length]
    exact Ev.step (f := fun _ => some (o : Int)) (fun k => by simp only [impl_attackedBy.l0]; rw [if_neg (by omega)]) (Ev.now _)
  · intro o ho
    rw [drop_getD l i hi z65]
    obtain ⟨a, b, h0, h1, ha, hb⟩ := small_of hg (getD_mem l i hi z65)
    have hx := rdA l i
    generalize l.getD i z65 = x at hx h0 h1 ⊢
    have e : attFrom m o (x :: l.drop (i + 1)) = attFrom m (if m.testBit a = true then o ||| 2 ^ b else o) (l.drop (i + 1)) := by
      show attFrom m (if m.testBit x.f0.toNat = true then o ||| 2 ^ x.f1.toNat else o) (l.drop (i + 1)) = _
      rw [h0, h1, Int.toNat_natCast, Int.toNat_natCast]
    rw [e]
    refine Ev.step (f := fun k => impl_attackedBy.l0 k (m : Int) ((if m.testBit a = true then o ||| 2 ^ b else o : Nat) : Int) l (l.length : Int) ((i + 1 : Nat) : Int)) (fun k => ?_) (ih _ (by split; exact or62 ho (pow62 (by omega)); exact ho))
    simp only [impl_attackedBy.l0]
    rw [if_pos (by omega), if_pos (by omega), if_pos (by omega), hx, h0, h1, if_pos (by omega), b_one hm (by omega), w64s (by omega)]
    cases m.testBit a with
    | false => rfl
    | true => rw [if_pos rfl, if_pos rfl, if_pos (by omega), b_orshl ho (by omega)]; rfl
theorem implAtt_ev (n : Int) (l : List IA) (hl : l.length ≤ 1048576) (hg : good n l = true) (m : Nat) (hm : m < 2 ^ 62) : Ev (fun k => impl_attackedBy.f k n l (m : Int)) ((att l m : Nat) : Int) := implAtt_loop n l hl hg m hm 0 (Nat.zero_le _) 0 (by decide)
theorem small62 {a : Nat} (h : a < 2 ^ 10) : a < 2 ^ 62 := Nat.lt_trans h (by decide)

/-! what a set defends -/
def defFrom (h o : Nat) (l : List IA) : Nat := l.foldl (fun o x => if h.testBit x.f0.toNat = false then less o (2 ^ x.f1.toNat) else o) o
def dfn (n : Int) (l : List IA) (m : Nat) : Nat := defFrom (att l m) (2 ^ n.toNat - 1) l
theorem defFrom_bit (h : Nat) (l : List IA) : ∀ (o j : Nat), (defFrom h o l).testBit j = (o.testBit j && l.all (fun x => h.testBit x.f0.toNat || !decide (x.f1.toNat = j))) := by
  induction l with
  | nil => intro o j; simp [defFrom]
  | cons x l ih =>
    intro o j
    show (defFrom h (if h.testBit x.f0.toNat = false then less o (2 ^ x.f1.toNat) else o) l).testBit j = _
    rw [ih, List.all_cons]
    cases h.testBit x.f0.toNat with
    | true => simp
    | false => rw [if_pos rfl, bit_less_pow, Bool.false_or, Bool.and_assoc]
theorem dfn_bit (n : Int) (l : List IA) (m j : Nat) : (dfn n l m).testBit j = (decide (j < n.toNat) && l.all (fun x => (att l m).testBit x.f0.toNat || !decide (x.f1.toNat = j))) := by
  rw [dfn, defFrom_bit, Nat.testBit_two_pow_sub_one]
theorem dfn_lt {n : Int} {l : List IA} (hg : good n l = true) (m : Nat) : dfn n l m < 2 ^ 10 := lt_of_bits (fun i hi => by
  rw [dfn_bit, Bool.and_eq_true, decide_eq_true_eq] at hi
  have := good_n hg
  omega)
theorem specDef_loop (n : Int) (l : List IA) (hl : l.length ≤ 1048576) (hg : good n l = true) (h : Nat) (hh : h < 2 ^ 62) : ∀ i, i ≤ l.length → ∀ o : Nat, o < 2 ^ 62 → Ev (fun k => spec_l22Defended.l0 k (o : Int) (h : Int) (i : Int) n l) ((defFrom h o (l.drop i) : Nat) : Int) := by
  refine down l.length ?_ (fun i hi ih => ?_)
  · intro o _
    rw [List.drop_length]
    exact Ev.step (f := fun _ => some (o : Int)) (fun k => by simp only [spec_l22Defended.l0]; rw [if_neg (by omega)]) (Ev.now _)
  · intro o ho
    rw [drop_getD l i hi z65]
    obtain ⟨a, b, h0, h1, ha, hb⟩ := small_of hg (getD_mem l i hi z65)
    have hx := rdA l i
    generalize l.getD i z65 = x at hx h0 h1 ⊢
    have e : defFrom h o (x :: l.drop (i + 1)) = defFrom h (if h.testBit a = false then less o (2 ^ b) else o) (l.drop (i + 1)) := by
      show defFrom h (if h.testBit x.f0.toNat = false then less o (2 ^ x.f1.toNat) else o) (l.drop (i + 1)) = _
      rw [h0, h1, Int.toNat_natCast, Int.toNat_natCast]
    rw [e]
    refine Ev.step (f := fun k => spec_l22Defended.l0 k ((if h.testBit a = false then less o (2 ^ b) else o : Nat) : Int) (h : Int) ((i + 1 : Nat) : Int) n l) (fun k => ?_) (ih _ (by split; exact less_lt ho; exact ho))
    simp only [spec_l22Defended.l0]
    rw [if_pos (by omega), if_pos (by omega), hx, h0, h1, wrap_u64_small _ (by omega) (by omega), wrap_u64_small _ (by omega) (by omega), if_pos (by omega), b_one hh (by omega), w64s (by omega)]
    cases h.testBit a with
    | true => rfl
    | false => rw [if_pos (by simp), if_pos (by omega), b_shl (by omega), b_less ho (pow62 (by omega)), if_pos rfl]
theorem specDef_ev (n : Int) (l : List IA) (hl : l.length ≤ 1048576) (hg : good n l = true) (m : Nat) (hm : m < 2 ^ 62) : Ev (fun k => spec_l22Defended.f k n l (m : Int)) ((dfn n l m : Nat) : Int) := by
  unfold spec_l22Defended.f
  have hn := good_n hg
  obtain ⟨n, rfl⟩ := Int.eq_ofNat_of_zero_le hn.1
  rw [wrap_u64_small _ (by omega) (by omega)]
  simp only [if_pos (show (0 : Int) ≤ (n : Int) by omega)]
  refine Ev.bind (specAtt_ev _ l hl hg m hm) ?_
  have hp : 0 < 2 ^ n := Nat.two_pow_pos n
  have hp2 : 2 ^ n < 2 ^ 62 := pow62 (by omega)
  have e : wrap64 (shl .i64 1 (n : Int) - 1) = ((2 ^ n - 1 : Nat) : Int) := by
    rw [b_shl (by omega), w64 (by omega) (by omega)]
    omega
  rw [e]
  unfold dfn
  rw [Int.toNat_natCast]
  exact specDef_loop _ l hl hg (att l m) (small62 (att_lt hg m)) 0 (Nat.zero_le _) (2 ^ n - 1) (by omega)

def atkFrom (a : Nat) (o : Nat) (l : List IA) : Nat := l.foldl (fun o x => if x.f1.toNat = a then o ||| 2 ^ x.f0.toNat else o) o
def atk (l : List IA) (a : Nat) : Nat := atkFrom a 0 l
theorem atkFrom_bit (a : Nat) (l : List IA) : ∀ (o j : Nat), (atkFrom a o l).testBit j = (o.testBit j || l.any (fun x => decide (x.f1.toNat = a) && decide (x.f0.toNat = j))) := by
  induction l with
  | nil => intro o j; simp [atkFrom]
  | cons x l ih =>
    intro o j
    show (atkFrom a (if x.f1.toNat = a then o ||| 2 ^ x.f0.toNat else o) l).testBit j = _
    rw [ih, List.any_cons]
    by_cases h : x.f1.toNat = a
    · rw [if_pos h, bit_or_pow, decide_eq_true h, Bool.true_and, Bool.or_assoc]
    · rw [if_neg h, decide_eq_false h, Bool.false_and, Bool.false_or]
theorem atk_bit (l : List IA) (a j : Nat) : (atk l a).testBit j = l.any (fun x => decide (x.f1.toNat = a) && decide (x.f0.toNat = j)) := by
  rw [atk, atkFrom_bit, Nat.zero_testBit, Bool.false_or]
theorem atk_lt {n : Int} {l : List IA} (hg : good n l = true) (a : Nat) : atk l a < 2 ^ 10 := lt_of_bits (fun i hi => by
  rw [atk_bit, List.any_eq_true] at hi
  obtain ⟨x, hx, hd⟩ := hi
  rw [Bool.and_eq_true] at hd
  obtain ⟨p, q, h0, h1, hp, hq⟩ := small_of hg hx
  have := of_decide_eq_true hd.2
  omega)
theorem implAtk_loop (n : Int) (l : List IA) (hl : l.length ≤ 1048576) (hg : good n l = true) (a : Nat) : ∀ i, i ≤ l.length → ∀ o : Nat, o < 2 ^ 62 → Ev (fun k => impl_attackersOf.l0 k (a : Int) (o : Int) l (l.length : Int) (i : Int)) ((atkFrom a o (l.drop i) : Nat) : Int) := by
  refine down l.length ?_ (fun i hi ih => ?_)
  · intro o _
    rw [List.drop_length]
    exact Ev.step (f := fun _ => some (o : Int)) (fun k => by simp only [impl_attackersOf.l0]; rw [if_neg (by omega)]) (Ev.now _)
  · intro o ho
    rw [drop_getD l i hi z65]
    obtain ⟨p, q, h0, h1, hp, hq⟩ := small_of hg (getD_mem l i hi z65)
    have hx := rdA l i
    generalize l.getD i z65 = x at hx h0 h1 ⊢
    have e : atkFrom a o (x :: l.drop (i + 1)) = atkFrom a (if q = a then o ||| 2 ^ p else o) (l.drop (i + 1)) := by
      show atkFrom a (if x.f1.toNat = a then o ||| 2 ^ x.f0.toNat else o) (l.drop (i + 1)) = _
      rw [h0, h1, Int.toNat_natCast, Int.toNat_natCast]
    rw [e]
    refine Ev.step (f := fun k => impl_attackersOf.l0 k (a : Int) ((if q = a then o ||| 2 ^ p else o : Nat) : Int) l (l.length : Int) ((i + 1 : Nat) : Int)) (fun k => ?_) (ih _ (by split; exact or62 ho (pow62 (by omega)); exact ho))
    simp only [impl_attackersOf.l0]
    rw [if_pos (by omega), if_pos (by omega), if_pos (by omega), hx, h0, h1, w64s (by omega)]
    by_cases hqa : q = a
    · rw [if_pos (by omega), if_pos (by omega), b_orshl ho (by omega), if_pos hqa]
    · rw [if_neg (by omega), if_neg hqa]
theorem implAtk_ev (n : Int) (l : List IA) (hl : l.length ≤ 1048576) (hg : good n l = true) (a : Nat) : Ev (fun k => impl_attackersOf.f k n l (a : Int)) ((atk l a : Nat) : Int) := implAtk_loop n l hl hg a 0 (Nat.zero_le _) 0 (by decide)
/-- What defendedBy has behind the arguments 0, .., i - 1. -/
def dfi (l : List IA) (h : Nat) : Nat → Nat
  | 0 => 0
  | i + 1 => if less (atk l i) h = 0 then dfi l h i ||| 2 ^ i else dfi l h i
theorem dfi_bit (l : List IA) (h : Nat) : ∀ (i j : Nat), (dfi l h i).testBit j = (decide (j < i) && (less (atk l j) h == 0)) := by
  intro i
  induction i with
  | zero => intro j; simp [dfi]
  | succ i ih =>
    intro j
    rw [dfi]
    by_cases c : less (atk l i) h = 0
    · rw [if_pos c, bit_or_pow, ih]
      by_cases hj : i = j
      · subst hj; simp [c]
      · have : decide (j < i + 1) = decide (j < i) := by rw [decide_eq_decide]; omega
        simp [hj, this]
    · rw [if_neg c, ih]
      by_cases hj : i = j
      · subst hj; simp [c]
      · have : decide (j < i + 1) = decide (j < i) := by rw [decide_eq_decide]; omega
        rw [this]
theorem dfi_lt (l : List IA) (h : Nat) (i : Nat) : dfi l h i < 2 ^ i := lt_of_bits (fun j hj => by
  rw [dfi_bit, Bool.and_eq_true, decide_eq_true_eq] at hj
  exact hj.1)
theorem implDef_loop (n : Nat) (l : List IA) (hl : l.length ≤ 1048576) (hg : good (n : Int) l = true) (h : Nat) (hh : h < 2 ^ 62) : ∀ i, i ≤ n → Ev (fun k => impl_defendedBy.l0 k ((dfi l h i : Nat) : Int) (h : Int) (n : Int) (i : Int) (n : Int) l) ((dfi l h n : Nat) : Int) := by
  have hn := good_n hg
  refine down n ?_ (fun i hi ih => ?_)
  · exact Ev.step (f := fun _ => some ((dfi l h n : Nat) : Int)) (fun k => by simp only [impl_defendedBy.l0]; rw [if_neg (by omega)]) (Ev.now _)
  · have ho : dfi l h i < 2 ^ 62 := Nat.lt_trans (dfi_lt l h i) (pow62 (by omega))
    refine Ev.step (f := fun k => (impl_attackersOf.f k (n : Int) l (i : Int)).bind fun t => if (Go.bits .andNot .i64 t (h : Int)) = 0 then (if 0 ≤ (i : Int) then (impl_defendedBy.l0 k (Go.bits .or .i64 ((dfi l h i : Nat) : Int) (shl .i64 1 (i : Int))) (h : Int) (n : Int) (wrap64 ((i : Int) + 1)) (n : Int) l) else none) else impl_defendedBy.l0 k ((dfi l h i : Nat) : Int) (h : Int) (n : Int) (wrap64 ((i : Int) + 1)) (n : Int) l) (fun k => ?_) ?_
    · simp only [impl_defendedBy.l0]
      rw [if_pos (by omega)]
    · refine Ev.bind (implAtk_ev _ l hl hg i) ?_
      rw [b_less (small62 (atk_lt hg i)) hh, w64s (by omega), b_orshl ho (by omega)]
      simp only [if_pos (show (0 : Int) ≤ (i : Int) by omega)]
      rw [dfi] at ih
      by_cases c : less (atk l i) h = 0
      · rw [if_pos c] at ih
        simp only [if_pos (show ((less (atk l i) h : Nat) : Int) = 0 by omega)]
        exact ih
      · rw [if_neg c] at ih
        simp only [if_neg (show ¬ ((less (atk l i) h : Nat) : Int) = 0 by omega)]
        exact ih
theorem dfi_dfn (n : Nat) (l : List IA) (m : Nat) : dfi l (att l m) n = dfn (n : Int) l m := by
  refine Nat.eq_of_testBit_eq (fun j => ?_)
  rw [dfi_bit, dfn_bit, Int.toNat_natCast]
  congr 1
  rw [Bool.eq_iff_iff, beq_iff_eq, eq_zero_bits, List.all_eq_true]
  constructor
  · intro h x hx
    have := h x.f0.toNat
    rw [less_bit, Bool.and_eq_false_iff, atk_bit] at this
    rcases this with h1 | h1
    · rw [List.any_eq_false] at h1
      have := h1 x hx
      simp only [decide_true, Bool.and_true] at this
      rw [Bool.or_eq_true]
      right
      simpa using this
    · rw [Bool.or_eq_true]
      left
      simpa using h1
  · intro h i
    rw [less_bit]
    cases hb : (atk l j).testBit i with
    | false => rfl
    | true =>
      rw [atk_bit, List.any_eq_true] at hb
      obtain ⟨x, hx, hd⟩ := hb
      simp only [Bool.and_eq_true, decide_eq_true_eq] at hd
      have := h x hx
      rw [hd.1, hd.2] at this
      simpa using this
theorem implDef_ev (n : Int) (l : List IA) (hl : l.length ≤ 1048576) (hg : good n l = true) (m : Nat) (hm : m < 2 ^ 62) : Ev (fun k => impl_defendedBy.f k n l (m : Int)) ((dfn n l m : Nat) : Int) := by
  unfold impl_defendedBy.f
  have hn := good_n hg
  obtain ⟨n, rfl⟩ := Int.eq_ofNat_of_zero_le hn.1
  refine Ev.bind (implAtt_ev _ l hl hg m hm) ?_
  rw [← dfi_dfn]
  exact implDef_loop n l hl hg (att l m) (small62 (att_lt hg m)) 0 (Nat.zero_le _)

/-! the list of a number's bits -/
def bl (m i : Nat) : List Int := ((List.range i).filter fun j => m.testBit j).map fun (j : Nat) => (j : Int)
theorem bl_succ (m i : Nat) : bl m (i + 1) = if m.testBit i = true then bl m i ++ [(i : Int)] else bl m i := by
  unfold bl
  rw [List.range_succ, List.filter_append, List.map_append]
  cases h : m.testBit i with
  | true => simp [h]
  | false => simp [h]
theorem bl_len (m i : Nat) : (bl m i).length ≤ i := by
  unfold bl
  rw [List.length_map]
  exact Nat.le_trans (List.length_filter_le _ _) (by simp)
theorem bl_mem {m i : Nat} {a : Int} (h : a ∈ bl m i) : ∃ j : Nat, a = (j : Int) ∧ j < i ∧ m.testBit j = true := by
  unfold bl at h
  rw [List.mem_map] at h
  obtain ⟨j, hj, rfl⟩ := h
  rw [List.mem_filter, List.mem_range] at hj
  exact ⟨j, rfl, hj.1, hj.2⟩
theorem bl_in {m i j : Nat} (h : j < i) (hb : m.testBit j = true) : (j : Int) ∈ bl m i := by
  unfold bl
  rw [List.mem_map]
  exact ⟨j, by rw [List.mem_filter, List.mem_range]; exact ⟨h, hb⟩, rfl⟩
theorem bl_end {m i : Nat} (h : m < 2 ^ i) : ∀ d, bl m (i + d) = bl m i := by
  intro d
  induction d with
  | zero => rfl
  | succ d ih =>
    rw [← Nat.add_assoc, bl_succ, Nat.testBit_lt_two_pow (Nat.lt_of_lt_of_le h (Nat.pow_le_pow_right (by decide) (by omega))), if_neg (by simp), ih]
theorem implBits_loop (m : Nat) (hm : m < 2 ^ 10) : ∀ i, i ≤ 10 → Ev (fun k => impl_bitsOf.l0 k (m : Int) (bl m i) (i : Int)) (bl m 10) := by
  refine down 10 ?_ (fun i hi ih => ?_)
  · refine Ev.step (f := fun _ => some (bl m 10)) (fun k => ?_) (Ev.now _)
    simp only [impl_bitsOf.l0]
    have : ¬ shr .i64 (m : Int) ((10 : Nat) : Int) > 0 := by rw [b_shr_pos (by decide)]; omega
    rw [if_pos (by omega), if_neg this]
  · by_cases c : 2 ^ i ≤ m
    · refine Ev.step (fun k => ?_) ih
      simp only [impl_bitsOf.l0]
      rw [if_pos (by omega), if_pos ((b_shr_pos (by omega)).2 c), b_one (small62 hm) (by omega), w64s (by omega), bl_succ]
      have := bl_len m i
      simp only [if_pos (show (bl m i).length < 17592186044416 by omega)]
      cases m.testBit i <;> rfl
    · have e : bl m 10 = bl m i := by
        have := bl_end (m := m) (i := i) (by omega) (10 - i)
        rwa [show i + (10 - i) = 10 by omega] at this
      rw [e]
      refine Ev.step (f := fun _ => some (bl m i)) (fun k => ?_) (Ev.now _)
      simp only [impl_bitsOf.l0]
      rw [if_pos (by omega), if_neg (fun h => c ((b_shr_pos (by omega)).1 h))]
theorem implBits_ev (m : Nat) (hm : m < 2 ^ 10) : Ev (fun k => impl_bitsOf.f k (m : Int)) (bl m 10) := implBits_loop m hm 0 (Nat.zero_le _)
theorem specBits_loop (m : Nat) (hm : m < 2 ^ 62) : ∀ i, i ≤ 10 → Ev (fun k => spec_l22List.l0 k (m : Int) (bl m i) (i : Int)) (bl m 10) := by
  refine down 10 ?_ (fun i hi ih => ?_)
  · refine Ev.step (f := fun _ => some (bl m 10)) (fun k => ?_) (Ev.now _)
    simp only [spec_l22List.l0]
    rw [if_neg (by omega)]
  · refine Ev.step (fun k => ?_) ih
    simp only [spec_l22List.l0]
    rw [if_pos (by omega), wrap_u64_small _ (by omega) (by omega), if_pos (by omega), b_one hm (by omega), w64s (by omega), bl_succ]
    have := bl_len m i
    simp only [if_pos (show (bl m i).length < 17592186044416 by omega)]
    cases m.testBit i <;> rfl
theorem specBits_ev (m : Nat) (hm : m < 2 ^ 62) : Ev (fun k => spec_l22List.f k (m : Int)) (bl m 10) := specBits_loop m hm 0 (Nat.zero_le _)

/-! marks -/
theorem markA_ev (l : List IA) (hl : l.length ≤ 1048576) : ∃ l', Ev (fun k => laws_markAttackS.f k l 1) (1 + 2 * (l.length : Int), l') := by
  unfold laws_markAttackS.f
  have key : ∀ i, i ≤ l.length → ∀ l' : List IA, l'.length = l.length → ∃ r, Ev (fun k => laws_markAttackS.l0 k l' (1 + 2 * (i : Int)) (i : Int)) (1 + 2 * (l.length : Int), r) := by
    refine down l.length ?_ (fun i hi ih => ?_)
    · intro l' hl'
      exact ⟨l', Ev.step (f := fun _ => some (1 + 2 * (l.length : Int), l')) (fun k => by simp only [laws_markAttackS.l0]; rw [if_neg (by omega)]) (Ev.now _)⟩
    · intro l' hl'
      have h := ih ((l'.set i (⟨1 + 2 * (i : Int), (rd_T65 l' (i : Int)).f1⟩ : IA)).set i (⟨(rd_T65 (l'.set i (⟨1 + 2 * (i : Int), (rd_T65 l' (i : Int)).f1⟩ : IA)) (i : Int)).f0, 1 + 2 * (i : Int) + 1⟩ : IA)) (by simp [hl'])
      obtain ⟨r, hr⟩ := h
      refine ⟨r, Ev.step (fun k => ?_) hr⟩
      simp only [laws_markAttackS.l0]
      rw [if_pos (by omega), if_pos (by omega), Option.bind_some, w64s (by omega), w64 (x := 1 + 2 * (i : Int) + 1) (by omega) (by omega), w64 (by omega) (by omega), show (1 : Int) + 2 * ((i + 1 : Nat) : Int) = 1 + 2 * (i : Int) + 1 + 1 by omega]
      rfl
  obtain ⟨r, hr⟩ := key 0 (Nat.zero_le _) l rfl
  exact ⟨r, hr⟩
theorem markF_ev (n : Int) (l : List IA) (hl : l.length ≤ 1048576) : ∃ l', Ev (fun k => laws_markFramework.f k n l 1) (1 + 2 * (l.length : Int), l') := by
  obtain ⟨l', h⟩ := markA_ev l hl
  refine ⟨l', ?_⟩
  unfold laws_markFramework.f
  exact Ev.bind h (Ev.now _)
/-- Numbers from m on. -/
def nums_ (m : Int) (n : Nat) : List Int := (List.range n).map fun (i : Nat) => m + (i : Int)
theorem nums__length (m : Int) (n : Nat) : (nums_ m n).length = n := by simp [nums_]
theorem nums__get (m : Int) (n i : Nat) (h : i < n) : (nums_ m n).getD i 0 = m + (i : Int) := by
  unfold nums_
  rw [List.getD_eq_getElem?_getD, List.getElem?_map, List.getElem?_range h]
  rfl
theorem markI_ev (s : List Int) (m : Int) (h0 : 0 ≤ m) (h1 : m ≤ 4611686018427387904) (hs : s.length ≤ 1048576) : Ev (fun k => laws_markIntS.f k s m) (m + (s.length : Int), nums_ m s.length) := by
  unfold laws_markIntS.f
  have key : ∀ i, i ≤ s.length → Ev (fun k => laws_markIntS.l0 k (nums_ m i ++ s.drop i) (m + (i : Int)) (i : Int)) (m + (s.length : Int), nums_ m s.length) := by
    refine down s.length ?_ (fun i hi ih => ?_)
    · refine Ev.step (f := fun _ => some (m + (s.length : Int), nums_ m s.length)) (fun k => ?_) (Ev.now _)
      simp only [laws_markIntS.l0]
      rw [List.drop_length, List.append_nil, nums__length, if_neg (by omega)]
    · refine Ev.step (fun k => ?_) ih
      simp only [laws_markIntS.l0]
      rw [if_pos (by rw [List.length_append, nums__length, List.length_drop]; omega), if_pos (by omega), w64s (by omega), w64 (by omega) (by omega)]
      have e : (nums_ m i ++ s.drop i).set ((i : Int)).toNat (m + (i : Int)) = nums_ m (i + 1) ++ s.drop (i + 1) := by
        rw [Int.toNat_natCast, List.set_append_right _ _ (by rw [nums__length]; exact Nat.le_refl _), nums__length, Nat.sub_self, drop_getD s i hi 0, List.set_cons_zero]
        simp [nums_, List.range_succ]
      rw [e, show m + (i : Int) + 1 = m + ((i + 1 : Nat) : Int) by omega]
  have := key 0 (Nat.zero_le _)
  simpa [nums_] using this
theorem heldI_ev (n : Nat) (m : Int) (h0 : 0 ≤ m) (h1 : m ≤ 4611686018427387904) (hn : n ≤ 1048576) : Ev (fun k => laws_heldIntS.f k (nums_ m n) m) (m + (n : Int)) := by
  unfold laws_heldIntS.f
  have key : ∀ i, i ≤ n → Ev (fun k => laws_heldIntS.l0 k (nums_ m n) (m + (i : Int)) (i : Int)) (m + (n : Int)) := by
    refine down n ?_ (fun i hi ih => ?_)
    · refine Ev.step (f := fun _ => some (m + (n : Int))) (fun k => ?_) (Ev.now _)
      simp only [laws_heldIntS.l0]
      rw [nums__length, if_neg (by omega)]
    · refine Ev.step (fun k => ?_) ih
      simp only [laws_heldIntS.l0]
      rw [nums__length, if_pos (by omega), if_pos (by omega), rd_nat, nums__get m n i hi, if_pos rfl, w64s (by omega), w64 (by omega) (by omega), show m + (i : Int) + 1 = m + ((i + 1 : Nat) : Int) by omega]
  have := key 0 (Nat.zero_le _)
  simpa using this

/-! the grounded set -/
def sub (a b : Nat) : Prop := ∀ i, a.testBit i = true → b.testBit i = true
theorem att_mono (l : List IA) {a b : Nat} (h : sub a b) : sub (att l a) (att l b) := by
  intro i hi
  rw [att_bit, List.any_eq_true] at hi ⊢
  obtain ⟨x, hx, hd⟩ := hi
  rw [Bool.and_eq_true] at hd
  exact ⟨x, hx, by rw [Bool.and_eq_true]; exact ⟨h _ hd.1, hd.2⟩⟩
theorem dfn_mono (n : Int) (l : List IA) {a b : Nat} (h : sub a b) : sub (dfn n l a) (dfn n l b) := by
  intro i hi
  rw [dfn_bit, Bool.and_eq_true, List.all_eq_true] at hi ⊢
  refine ⟨hi.1, fun x hx => ?_⟩
  have := hi.2 x hx
  rw [Bool.or_eq_true] at this ⊢
  rcases this with h1 | h1
  · exact .inl (att_mono l h _ h1)
  · exact .inr h1
theorem or_sub {a b : Nat} (h : sub a b) : a ||| b = b := by
  refine Nat.eq_of_testBit_eq (fun i => ?_)
  rw [Nat.testBit_or]
  cases ha : a.testBit i with
  | false => rfl
  | true => rw [h i ha]; rfl
/-- The rounds behind the places below i. -/
def upd (r : List Int) (S T : Nat) (t : Int) (i : Nat) : List Int := (List.range r.length).map fun j => if (decide (j < i) && (T.testBit j && !S.testBit j)) = true then t else r.getD j 0
theorem upd_length (r : List Int) (S T : Nat) (t : Int) (i : Nat) : (upd r S T t i).length = r.length := by simp [upd]
theorem upd_getD (r : List Int) (S T : Nat) (t : Int) (i j : Nat) (hj : j < r.length) : (upd r S T t i).getD j 0 = if (decide (j < i) && (T.testBit j && !S.testBit j)) = true then t else r.getD j 0 := by
  unfold upd
  rw [List.getD_eq_getElem?_getD, List.getElem?_map, List.getElem?_range hj]
  rfl
theorem ext_getD {a b : List Int} (hl : a.length = b.length) (h : ∀ j, j < a.length → a.getD j 0 = b.getD j 0) : a = b := by
  refine List.ext_getElem hl (fun j h1 h2 => ?_)
  have := h j h1
  rw [List.getD_eq_getElem?_getD, List.getD_eq_getElem?_getD, List.getElem?_eq_getElem h1, List.getElem?_eq_getElem h2] at this
  exact this
theorem upd_zero (r : List Int) (S T : Nat) (t : Int) : upd r S T t 0 = r := ext_getD (upd_length _ _ _ _ _) (fun j hj => by rw [upd_getD _ _ _ _ _ _ (by rwa [upd_length] at hj)]; simp)
theorem getD_set (a : List Int) (i j : Nat) (t : Int) (hi : i < a.length) : (a.set i t).getD j 0 = if i = j then t else a.getD j 0 := by
  rw [List.getD_eq_getElem?_getD, List.getD_eq_getElem?_getD, List.getElem?_set]
  by_cases h : i = j
  · rw [if_pos h, if_pos h, if_pos hi]; rfl
  · rw [if_neg h, if_neg h]
theorem upd_succ (r : List Int) (S T : Nat) (t : Int) (i : Nat) (hi : i < r.length) : upd r S T t (i + 1) = if (T.testBit i && !S.testBit i) = true then (upd r S T t i).set i t else upd r S T t i := by
  by_cases c : (T.testBit i && !S.testBit i) = true
  · rw [if_pos c]
    refine ext_getD (by rw [List.length_set, upd_length, upd_length]) (fun j hj => ?_)
    rw [upd_length] at hj
    rw [getD_set _ _ _ _ (by rw [upd_length]; exact hi), upd_getD _ _ _ _ _ _ hj, upd_getD _ _ _ _ _ _ hj]
    by_cases e : i = j
    · subst e; rw [if_pos rfl, if_pos (by simp at c ⊢; exact c)]
    · rw [if_neg e, show decide (j < i + 1) = decide (j < i) by rw [decide_eq_decide]; omega]
  · rw [if_neg c]
    refine ext_getD (by rw [upd_length, upd_length]) (fun j hj => ?_)
    rw [upd_length] at hj
    rw [upd_getD _ _ _ _ _ _ hj, upd_getD _ _ _ _ _ _ hj]
    by_cases e : i = j
    · subst e
      have c' : (T.testBit i && !S.testBit i) = false := by simpa using c
      rw [c', Bool.and_false, Bool.and_false]
    · rw [show decide (j < i + 1) = decide (j < i) by rw [decide_eq_decide]; omega]
/-- What is known of the rounds: they are told of the set's arguments, and of no others. -/
def told (r : List Int) (S n : Nat) : Prop := r.length = n ∧ ∀ i, i < n → (r.getD i 0 = 0 ↔ S.testBit i = false)
theorem told_upd {r : List Int} {S T n : Nat} {t : Int} (ht : 1 ≤ t) (h : told r S n) (hs : sub S T) : told (upd r S T t n) T n := by
  refine ⟨by rw [upd_length, h.1], fun i hi => ?_⟩
  rw [upd_getD _ _ _ _ _ _ (by rw [h.1]; exact hi), decide_eq_true hi, Bool.true_and]
  cases hT : T.testBit i with
  | false =>
    have : S.testBit i = false := by
      cases hS : S.testBit i with
      | false => rfl
      | true => rw [hs i hS] at hT; cases hT
    simp only [Bool.false_and, Bool.false_eq_true, if_false, iff_true]
    exact (h.2 i hi).2 this
  | true =>
    cases hS : S.testBit i with
    | false => simp; omega
    | true =>
      have := (h.2 i hi).1
      rw [hS] at this
      simp only [Bool.not_true, Bool.and_false, Bool.false_eq_true, if_false, Bool.true_eq_false, iff_false]
      exact fun h0 => by cases this h0
theorem specG_l1 (n : Nat) (hn : n ≤ 10) (l : List IA) (r : List Int) (S T : Nat) (hT : T < 2 ^ 62) (t : Int) (h0 : 1 ≤ t) (h1 : t ≤ 100) (h : told r S n) (R : List Int × List Int × Bool)
    (hR : Ev (fun k => spec_GroundedSet.l0 k (upd r S T t n) (T : Int) (t + 1) (n : Int) l) R) : ∀ i, i ≤ n → Ev (fun k => spec_GroundedSet.l1 k (upd r S T t i) t (T : Int) (i : Int) (n : Int) l) R := by
  refine down n ?_ (fun i hi ih => ?_)
  · refine Ev.step (fun k => ?_) hR
    simp only [spec_GroundedSet.l1]
    rw [if_neg (by omega), w64 (by omega) (by omega)]
  · refine Ev.step (fun k => ?_) ih
    simp only [spec_GroundedSet.l1]
    have hrd : rd (upd r S T t i) (i : Int) = r.getD i 0 := by
      rw [rd_nat, upd_getD _ _ _ _ _ _ (by rw [h.1]; exact hi)]; simp
    rw [if_pos (by omega), wrap_u64_small _ (by omega) (by omega), if_pos (by omega), b_one hT (by omega), w64s (by omega), upd_length, hrd, upd_succ _ _ _ _ _ (by rw [h.1]; exact hi), Int.toNat_natCast]
    have h2 := h.2 i hi
    have h3 := h.1
    cases T.testBit i with
    | false => rfl
    | true =>
      rw [if_pos (by decide), if_pos (by omega), if_pos (by omega)]
      cases hS : S.testBit i with
      | false => rw [if_pos (h2.2 hS)]; rfl
      | true => rw [if_neg (fun h0 => by rw [hS] at h2; cases h2.1 h0)]; rfl
/-- The rounds of a list of arguments, told. -/
def setAll (r : List Int) (b : List Int) (t : Int) : List Int := b.foldl (fun r a => r.set a.toNat t) r
theorem setAll_getD (t : Int) : ∀ (b : List Int) (r : List Int) (j : Nat), (∀ a ∈ b, 0 ≤ a ∧ a < (r.length : Int)) → (setAll r b t).getD j 0 = if (b.any fun a => decide (a.toNat = j)) = true then t else r.getD j 0
  | [], r, j, _ => by simp [setAll]
  | a :: b, r, j, h => by
    show (setAll (r.set a.toNat t) b t).getD j 0 = _
    have ha := h a (List.mem_cons_self)
    rw [setAll_getD t b _ j (fun x hx => by rw [List.length_set]; exact h x (List.mem_cons_of_mem _ hx)), getD_set _ _ _ _ (by omega), List.any_cons]
    by_cases c : a.toNat = j
    · rw [if_pos c, decide_eq_true c, Bool.true_or, if_pos rfl, ite_self]
    · rw [if_neg c, decide_eq_false c, Bool.false_or]
theorem setAll_length (t : Int) : ∀ (b : List Int) (r : List Int), (setAll r b t).length = r.length
  | [], r => rfl
  | a :: b, r => by
    show (setAll (r.set a.toNat t) b t).length = _
    rw [setAll_length t b, List.length_set]
theorem setAll_upd (r : List Int) (S T n : Nat) (t : Int) (hr : r.length = n) (hn : n ≤ 10) (hT : ∀ i, T.testBit i = true → i < n) : setAll r (bl (less T S) 10) t = upd r S T t n := by
  have hb : ∀ a ∈ bl (less T S) 10, 0 ≤ a ∧ a < (r.length : Int) := by
    intro a ha
    obtain ⟨j, rfl, hj, hbit⟩ := bl_mem ha
    rw [less_bit, Bool.and_eq_true] at hbit
    have := hT j hbit.1
    omega
  refine ext_getD (by rw [setAll_length, upd_length]) (fun j hj => ?_)
  rw [setAll_length] at hj
  rw [setAll_getD t _ r j hb, upd_getD _ _ _ _ _ _ hj, decide_eq_true (show j < n by omega), Bool.true_and]
  congr 1
  rw [eq_iff_iff, List.any_eq_true, ← less_bit]
  constructor
  · rintro ⟨a, ha, hd⟩
    obtain ⟨i, rfl, _, hbit⟩ := bl_mem ha
    have := of_decide_eq_true hd
    rw [Int.toNat_natCast] at this
    rwa [← this]
  · intro hbit
    exact ⟨_, bl_in (by omega) hbit, by simp⟩
theorem implG_l1 (n : Nat) (l : List IA) (T : Nat) (t : Int) (h0 : 1 ≤ t) (h1 : t ≤ 100) (b : List Int) (hbl : b.length ≤ 10) (r0 : List Int) (hb : ∀ a ∈ b, 0 ≤ a ∧ a < (n : Int)) (R : List Int × List Int × Bool)
    (hR : Ev (fun k => impl_GroundedSet.l0 k (setAll r0 b t) (T : Int) (t + 1) (n : Int) l) R) : ∀ i, i ≤ b.length → ∀ r : List Int, r.length = n → setAll r (b.drop i) t = setAll r0 b t → Ev (fun k => impl_GroundedSet.l1 k r t (T : Int) b (b.length : Int) (i : Int) (n : Int) l) R := by
  refine down b.length ?_ (fun i hi ih => ?_)
  · intro r _ he
    rw [List.drop_length] at he
    have : r = setAll r0 b t := he
    subst this
    refine Ev.step (fun k => ?_) hR
    simp only [impl_GroundedSet.l1]
    rw [if_neg (by omega), w64 (by omega) (by omega)]
  · intro r hr' he
    rw [drop_getD b i hi 0] at he
    have hx : rd b (i : Int) = b.getD i 0 := rfl
    have ha := hb _ (getD_mem b i hi 0)
    generalize b.getD i 0 = x at hx ha he
    refine Ev.step (fun k => ?_) (ih (r.set x.toNat t) (by rw [List.length_set, hr']) he)
    simp only [impl_GroundedSet.l1]
    rw [if_pos (by omega), if_pos (by omega), if_pos (by omega), hx, if_pos (by omega), if_pos (by omega), w64s (by omega)]
theorem specG_l2 (r b : List Int) (hbl : b.length ≤ 10) (hb : ∀ a ∈ b, 0 ≤ a ∧ a < (r.length : Int)) : ∀ i, i ≤ b.length → Ev (fun k => spec_GroundedSet.l2 k r b ((b.take i).map (rd r)) (i : Int)) (b, b.map (rd r), true) := by
  refine down b.length ?_ (fun i hi ih => ?_)
  · rw [List.take_length]
    refine Ev.step (f := fun _ => some (b, b.map (rd r), true)) (fun k => ?_) (Ev.now _)
    simp only [spec_GroundedSet.l2]
    rw [if_neg (by omega)]
  · rw [take_getD b i hi 0, List.map_append] at ih
    have hx : rd b (i : Int) = b.getD i 0 := rfl
    have ha := hb _ (getD_mem b i hi 0)
    generalize b.getD i 0 = x at hx ha ih
    refine Ev.step (fun k => ?_) ih
    simp only [spec_GroundedSet.l2]
    rw [if_pos (by omega), if_pos (by omega), hx, if_pos (by omega), if_pos (by omega), if_pos (by rw [List.length_map, List.length_take]; omega), w64s (by omega)]
    rfl
theorem implG_l2 (r b : List Int) (hbl : b.length ≤ 10) (hb : ∀ a ∈ b, 0 ≤ a ∧ a < (r.length : Int)) : ∀ i, i ≤ b.length → Ev (fun k => impl_GroundedSet.l2 k r b ((b.take i).map (rd r)) b (b.length : Int) (i : Int)) (b, b.map (rd r), true) := by
  refine down b.length ?_ (fun i hi ih => ?_)
  · rw [List.take_length]
    refine Ev.step (f := fun _ => some (b, b.map (rd r), true)) (fun k => ?_) (Ev.now _)
    simp only [impl_GroundedSet.l2]
    rw [if_neg (by omega)]
  · rw [take_getD b i hi 0, List.map_append] at ih
    have hx : rd b (i : Int) = b.getD i 0 := rfl
    have ha := hb _ (getD_mem b i hi 0)
    generalize b.getD i 0 = x at hx ha ih
    refine Ev.step (fun k => ?_) ih
    simp only [impl_GroundedSet.l2]
    rw [if_pos (by omega), if_pos (by omega), if_pos (by omega), hx, if_pos (by omega), if_pos (by omega), if_pos (by rw [List.length_map, List.length_take]; omega), w64s (by omega)]
    rfl
def cnt (S n : Nat) : Nat := ((List.range n).filter fun i => !S.testBit i).length
theorem filter_le_of_imp {α : Type} (p q : α → Bool) (h : ∀ x, q x = true → p x = true) (l : List α) : (l.filter q).length ≤ (l.filter p).length := by
  rw [← List.countP_eq_length_filter, ← List.countP_eq_length_filter]
  exact List.countP_mono_left (fun x _ hx => h x hx)
theorem filter_lt_of {α : Type} (p q : α → Bool) (h : ∀ x, q x = true → p x = true) : ∀ (l : List α) (x : α), x ∈ l → p x = true → q x = false → (l.filter q).length < (l.filter p).length
  | [], x, hx, _, _ => by simp at hx
  | a :: l, x, hx, hp, hq => by
    have hle := filter_le_of_imp p q h l
    rcases List.mem_cons.1 hx with rfl | hx
    · rw [List.filter_cons_of_neg (by rw [hq]; simp), List.filter_cons_of_pos hp, List.length_cons]
      omega
    · have ih := filter_lt_of p q h l x hx hp hq
      by_cases ha : q a = true
      · rw [List.filter_cons_of_pos ha, List.filter_cons_of_pos (h a ha), List.length_cons, List.length_cons]
        omega
      · rw [List.filter_cons_of_neg ha]
        by_cases hpa : p a = true
        · rw [List.filter_cons_of_pos hpa, List.length_cons]; omega
        · rw [List.filter_cons_of_neg hpa]; exact ih
theorem cnt_lt {S T n : Nat} (h : sub S T) (hne : T ≠ S) (hT : ∀ i, T.testBit i = true → i < n) : cnt T n < cnt S n := by
  have : ∃ i, T.testBit i = true ∧ S.testBit i = false := by
    refine Classical.byContradiction (fun hc => hne (Nat.eq_of_testBit_eq (fun i => ?_)))
    cases hS : S.testBit i with
    | true => exact h i hS
    | false =>
      cases hTi : T.testBit i with
      | false => rfl
      | true => exact absurd ⟨i, hTi, hS⟩ hc
  obtain ⟨i, hi, hs⟩ := this
  refine filter_lt_of _ _ (fun x hx => ?_) (List.range n) i (List.mem_range.2 (hT i hi)) (by rw [hs]; rfl) (by rw [hi]; rfl)
  cases hS : S.testBit x with
  | false => rfl
  | true => rw [h x hS] at hx; cases hx
theorem bitsIn {S n : Nat} {r : List Int} (hr : r.length = n) (hS : ∀ i, S.testBit i = true → i < n) : ∀ a ∈ bl S 10, 0 ≤ a ∧ a < (r.length : Int) := by
  intro a ha
  obtain ⟨j, rfl, hj, hbit⟩ := bl_mem ha
  have := hS j hbit
  omega
theorem both_l0 (n : Nat) (l : List IA) (hl : l.length ≤ 1048576) (hg : good (n : Int) l = true) : ∀ (d S : Nat) (r : List Int) (t : Int), cnt S n ≤ d → sub S (dfn (n : Int) l S) → told r S n → 1 ≤ t → t + (d : Int) ≤ 50 → (∀ i, S.testBit i = true → i < n) →
    ∃ R : List Int × List Int × Bool, Ev (fun k => spec_GroundedSet.l0 k r (S : Int) t (n : Int) l) R ∧ Ev (fun k => impl_GroundedSet.l0 k r (S : Int) t (n : Int) l) R ∧ R.1.length ≤ 10 ∧ R.2.1.length ≤ 10 := by
  have hn := good_n hg
  intro d
  induction d with
  | zero =>
    intro S r t hd hsub htold ht1 ht2 hS
    have hS10 : S < 2 ^ 10 := lt_of_bits (fun i hi => by have := hS i hi; omega)
    have hS62 := small62 hS10
    have hDn : ∀ i, (dfn (n : Int) l S).testBit i = true → i < n := fun i hi => by
      rw [dfn_bit, Bool.and_eq_true, decide_eq_true_eq] at hi
      omega
    by_cases e : dfn (n : Int) l S = S
    · refine ⟨(bl S 10, (bl S 10).map (rd r), true), ?_, ?_, bl_len S 10, by simp only [List.length_map]; exact bl_len S 10⟩
      · refine Ev.step (fun k => by simp only [spec_GroundedSet.l0]; rfl) ?_
        refine Ev.bind (specDef_ev _ l hl hg S hS62) ?_
        rw [e]
        simp only [if_true]
        exact Ev.bind (specBits_ev S hS62) (specG_l2 r (bl S 10) (bl_len S 10) (bitsIn htold.1 hS) 0 (Nat.zero_le _))
      · refine Ev.step (fun k => by simp only [impl_GroundedSet.l0]; rfl) ?_
        refine Ev.bind (implDef_ev _ l hl hg S hS62) ?_
        rw [b_or hS62 (small62 (dfn_lt hg S)), e, Nat.or_self]
        simp only [if_true]
        exact Ev.bind (implBits_ev S hS10) (implG_l2 r (bl S 10) (bl_len S 10) (bitsIn htold.1 hS) 0 (Nat.zero_le _))
    · exact absurd (cnt_lt hsub e hDn) (by omega)
  | succ d ih =>
    intro S r t hd hsub htold ht1 ht2 hS
    have hS10 : S < 2 ^ 10 := lt_of_bits (fun i hi => by have := hS i hi; omega)
    have hS62 := small62 hS10
    have hDn : ∀ i, (dfn (n : Int) l S).testBit i = true → i < n := fun i hi => by
      rw [dfn_bit, Bool.and_eq_true, decide_eq_true_eq] at hi
      omega
    by_cases e : dfn (n : Int) l S = S
    · refine ⟨(bl S 10, (bl S 10).map (rd r), true), ?_, ?_, bl_len S 10, by simp only [List.length_map]; exact bl_len S 10⟩
      · refine Ev.step (fun k => by simp only [spec_GroundedSet.l0]; rfl) ?_
        refine Ev.bind (specDef_ev _ l hl hg S hS62) ?_
        rw [e]
        simp only [if_true]
        exact Ev.bind (specBits_ev S hS62) (specG_l2 r (bl S 10) (bl_len S 10) (bitsIn htold.1 hS) 0 (Nat.zero_le _))
      · refine Ev.step (fun k => by simp only [impl_GroundedSet.l0]; rfl) ?_
        refine Ev.bind (implDef_ev _ l hl hg S hS62) ?_
        rw [b_or hS62 (small62 (dfn_lt hg S)), e, Nat.or_self]
        simp only [if_true]
        exact Ev.bind (implBits_ev S hS10) (implG_l2 r (bl S 10) (bl_len S 10) (bitsIn htold.1 hS) 0 (Nat.zero_le _))
    · have hlt := cnt_lt hsub e hDn
      have hD62 := small62 (dfn_lt hg S)
      obtain ⟨R, hR1, hR2, hR3⟩ := ih (dfn (n : Int) l S) (upd r S (dfn (n : Int) l S) t n) (t + 1) (by omega) (dfn_mono _ l hsub) (told_upd ht1 htold hsub) (by omega) (by omega) hDn
      refine ⟨R, ?_, ?_, hR3⟩
      · refine Ev.step (fun k => by simp only [spec_GroundedSet.l0]; rfl) ?_
        refine Ev.bind (specDef_ev _ l hl hg S hS62) ?_
        simp only [if_neg (show ¬ ((dfn (n : Int) l S : Nat) : Int) = (S : Int) by omega)]
        have := specG_l1 n (by omega) l r S (dfn (n : Int) l S) hD62 t ht1 (by omega) htold R hR1 0 (Nat.zero_le _)
        rw [upd_zero] at this
        exact this
      · refine Ev.step (fun k => by simp only [impl_GroundedSet.l0]; rfl) ?_
        refine Ev.bind (implDef_ev _ l hl hg S hS62) ?_
        rw [b_or hS62 hD62, or_sub hsub, b_less hD62 hS62]
        simp only [if_neg (show ¬ ((dfn (n : Int) l S : Nat) : Int) = (S : Int) by omega)]
        refine Ev.bind (implBits_ev _ (less_lt (dfn_lt hg S))) ?_
        refine implG_l1 n l _ t ht1 (by omega) (bl (less (dfn (n : Int) l S) S) 10) (bl_len _ _) r (fun a ha => ?_) R ?_ 0 (Nat.zero_le _) r htold.1 rfl
        · obtain ⟨j, rfl, hj, hbit⟩ := bl_mem ha
          rw [less_bit, Bool.and_eq_true] at hbit
          have := hDn j hbit.1
          omega
        · rw [setAll_upd r S _ n t htold.1 (by omega) hDn]
          exact hR2
theorem both (n : Int) (l : List IA) (hl : l.length ≤ 1048576) : ∃ R : List Int × List Int × Bool, Ev (fun k => spec_GroundedSet.f k n l) R ∧ Ev (fun k => impl_GroundedSet.f k n l) R ∧ R.1.length ≤ 10 ∧ R.2.1.length ≤ 10 := by
  cases hg : good n l with
  | false =>
    refine ⟨([], [], false), ?_, ?_, by simp, by simp⟩
    · unfold spec_GroundedSet.f
      have := spec_ev n l hl
      rw [hg] at this
      exact Ev.bind this (Ev.now _)
    · unfold impl_GroundedSet.f
      have := impl_ev n l hl
      rw [hg] at this
      exact Ev.bind this (Ev.now _)
  | true =>
    have hn := good_n hg
    have h1 := spec_ev n l hl
    have h2 := impl_ev n l hl
    rw [hg] at h1 h2
    obtain ⟨n, rfl⟩ := Int.eq_ofNat_of_zero_le hn.1
    obtain ⟨R, hR1, hR2, hR3⟩ := both_l0 n l hl hg 10 0 (List.replicate n 0) 1 (Nat.le_trans (List.length_filter_le _ _) (by simp; omega)) (fun i hi => by rw [Nat.zero_testBit] at hi; cases hi)
      ⟨by simp, fun i hi => by simp [List.getD_eq_getElem?_getD, hi]⟩ (by omega) (by omega) (fun i hi => by rw [Nat.zero_testBit] at hi; cases hi)
    refine ⟨R, ?_, ?_, hR3⟩
    · unfold spec_GroundedSet.f
      refine Ev.bind h1 ?_
      simp only [if_true, Int.toNat_natCast, if_pos (show (0 : Int) ≤ (n : Int) by omega), if_pos (show n ≤ 35184372088832 by omega)]
      exact hR1
    · unfold impl_GroundedSet.f
      refine Ev.bind h2 ?_
      simp only [if_true, Int.toNat_natCast, if_pos (show (0 : Int) ≤ (n : Int) by omega), if_pos (show n ≤ 35184372088832 by omega)]
      exact hR2

theorem whole (n : Int) (l : List LA) (hl : l.length ≤ maxLen) : Ev (fun k => laws_FnExactGroundedSet.f k n l) true := by
  unfold laws_FnExactGroundedSet.f
  rw [sz_ev n l hl]
  by_cases h : l.length ≤ 1048576
  · simp only [if_pos h, Option.bind_some, if_neg (show ¬ (1048576 - (l.length : Int) < 0) by omega)]
    have hc := conv_length l
    obtain ⟨⟨a, b, c⟩, hS, hI, ha, hb⟩ := both n (conv l) (by omega)
    dsimp only at ha hb
    refine Ev.bind (toF_ev n l h) (Ev.bind hS (Ev.bind (toF_ev n l h) (Ev.bind hI (Ev.bind (eqI_ev a (by omega)) ?_))))
    simp only [if_true, bne_self_eq_false]
    refine Ev.bind (eqI_ev b (by omega)) ?_
    simp only [if_true]
    refine Ev.step (fun k => by simp only [laws_FnExactGroundedSet.j0]; rfl) ?_
    simp only [Bool.false_eq_true, if_false]
    refine Ev.bind (toF_ev n l h) (Ev.bind (eqF_ev n (conv l) (by omega)) ?_)
    simp only [if_true]
    obtain ⟨l', hm⟩ := markF_ev n (conv l) (by omega)
    refine Ev.bind hm ?_
    simp only [if_neg (show ¬ (1 + 2 * ((conv l).length : Int) < 0) by omega)]
    refine Ev.bind (eqI_ev a (by omega)) ?_
    simp only [if_true]
    refine Ev.bind (eqI_ev b (by omega)) ?_
    simp only [if_true, bne_self_eq_false]
    refine Ev.step (fun k => by simp only [laws_FnExactGroundedSet.j1]; rfl) ?_
    simp only [Bool.false_eq_true, if_false]
    refine Ev.bind (markI_ev a 1 (by omega) (by omega) (by omega)) (Ev.bind (markI_ev b _ (by omega) (by omega) (by omega)) (Ev.bind (heldI_ev a.length 1 (by omega) (by omega) (by omega)) ?_))
    simp only [if_neg (show ¬ (1 + (a.length : Int) < 0) by omega)]
    refine Ev.bind (heldI_ev b.length _ (by omega) (by omega) (by omega)) ?_
    simp only [if_neg (show ¬ (1 + (a.length : Int) + (b.length : Int) < 0) by omega), if_true]
    refine Ev.bind (toF_ev n l h) (Ev.bind hI (Ev.bind (eqI_ev a (by omega)) ?_))
    simp only [if_true]
    refine Ev.bind (eqI_ev b (by omega)) ?_
    simp only [if_true, bne_self_eq_false]
    refine Ev.step (fun k => by simp only [laws_FnExactGroundedSet.j2]; rfl) ?_
    simp only [Bool.false_eq_true, if_false]
    refine Ev.bind (heldI_ev a.length 1 (by omega) (by omega) (by omega)) ?_
    simp only [if_neg (show ¬ (1 + (a.length : Int) < 0) by omega)]
    refine Ev.bind (heldI_ev b.length _ (by omega) (by omega) (by omega)) ?_
    simp only [if_neg (show ¬ (1 + (a.length : Int) + (b.length : Int) < 0) by omega), if_true]
    exact Ev.now _
  · simp only [if_neg h, Option.bind_some]
    exact Ev.now _
end Go.Proofs.Ytfhbnmlmobpjgaa.PureFnExactGroundedSet
namespace Go.Proofs.Ytfhbnmlmobpjgaa.Pure
theorem FnExactGroundedSet : PFnExactGroundedSet.laws_FnExactGroundedSet.Ask := fun x hx => (PureFnExactGroundedSet.whole x.f0 x.f1 hx.2.1).rounds
end Go.Proofs.Ytfhbnmlmobpjgaa.Pure
