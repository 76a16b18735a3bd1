/-
The plain law behind FnExactStableSets: the printed functions of the program and of the reference give the same values, so the law answers true. No condition.
-/
import Derived.Test.YtfhbnmlmobpjgaaAskFnExactStableSets
import Derived.Test.YtfhbnmlmobpjgaaBase
import Derived.Test.YtfhbnmlmobpjgaaBits
namespace Go.Proofs.Ytfhbnmlmobpjgaa.PureFnExactStableSets
open Go.RowKit Go.Proofs.Ytfhbnmlmobpjgaa.PFnExactStableSets Go.Proofs.YtfhbnmlmobpjgaaOpen Go.Proofs.YtfhbnmlmobpjgaaBase Go.Proofs.YtfhbnmlmobpjgaaBits Go.Proofs.YtfhbnmlmobpjgaaW.PrintWords Go.Proofs.YtfhbnmlmobpjgaaW.PrintLast Go.Proofs.YtfhbnmlmobpjgaaW.PrintMore

theorem within_eq (x a b : Int) : impl_within.f x a b = some (decide (a ≤ x) && decide (x ≤ b)) := by
  unfold impl_within.f
  by_cases h : x ≥ a
  · rw [if_pos h]; simp [h]
  · rw [if_neg h]; simp [h]

theorem l1In_eq (x a b : Int) : spec_l1In.f x a b = some (decide (a ≤ x) && decide (x ≤ b)) := by
  unfold spec_l1In.f
  by_cases h : x ≥ a
  · rw [if_pos h]; simp [h]
  · rw [if_neg h]; simp [h]

/-! frameworks: what the law makes of its argument, and what is valid -/
abbrev LA := S95
abbrev IA := S65
def conv (l : List LA) : List IA := l.map fun x => ⟨x.f0, x.f1⟩
theorem conv_length (l : List LA) : (conv l).length = l.length := by simp [conv]

theorem sz_ev (n : Int) (l : List LA) (hl : l.length ≤ maxLen) : laws_szFramework.f n l 1048576 = if l.length ≤ 1048576 then some (1048576 - (l.length : Int)) else some (-1) := by
  unfold maxLen at hl
  unfold laws_szFramework.f laws_szAttackS.f
  rw [w64 (by omega) (by omega)]
  by_cases h : l.length ≤ 1048576
  · rw [if_neg (by omega), if_pos h, Option.bind_some, if_neg (by omega)]
  · rw [if_pos (by omega), if_neg h, Option.bind_some, if_pos (by omega)]

theorem toS_ev (l : List LA) (hl : l.length ≤ 1048576) : Ev (fun k => laws_toAttackS.f k l) (conv l) := by
  unfold laws_toAttackS.f
  refine Ev.congr (f := fun k => laws_toAttackS.l0 k l (List.replicate l.length z65) 0) (fun k => by rw [if_pos (by omega), if_pos (by omega)]; rfl) ?_
  refine copy_loop (fun x : LA => (⟨x.f0, x.f1⟩ : IA)) _ z95 l (fun k y i => laws_toAttackS.l0 k l y i) ?_ ?_
  · intro k i y hi hy
    simp only [laws_toAttackS.l0]
    rw [if_pos (by omega), if_pos (by omega)]
    unfold laws_toAttack.f
    rw [Option.bind_some, if_pos (by omega), w64s (by omega)]
    rfl
  · intro k y hy
    simp only [laws_toAttackS.l0]
    rw [if_neg (by omega)]
theorem toF_ev (n : Int) (l : List LA) (hl : l.length ≤ 1048576) : Ev (fun k => laws_toFramework.f k n l) (n, conv l) := by
  unfold laws_toFramework.f
  exact Ev.bind (toS_ev l hl) (Ev.now _)

theorem eqS_ev (l : List IA) (hl : l.length ≤ 1048576) : Ev (fun k => laws_eqAttackS.f k l l) true := by
  unfold laws_eqAttackS.f
  refine Ev.congr (f := fun k => laws_eqAttackS.l0 k l l 0) (fun k => by rw [if_pos rfl]) ?_
  refine same_loop l (fun k i => laws_eqAttackS.l0 k l l i) (fun i hi ih => ?_) (fun k => by simp only [laws_eqAttackS.l0]; rw [if_neg (by omega)])
  refine Ev.step (f := fun k => laws_eqAttackS.l0 k l l ((i + 1 : Nat) : Int)) (fun k => ?_) ih
  simp only [laws_eqAttackS.l0]
  rw [if_pos (by omega), if_pos (by omega), if_pos (by omega)]
  unfold laws_eqAttack.f
  rw [if_pos rfl, if_pos rfl, Option.bind_some, if_pos rfl, w64s (by omega)]
theorem eqF_ev (n : Int) (l : List IA) (hl : l.length ≤ 1048576) : Ev (fun k => laws_eqFramework.f k n l n l) true := by
  unfold laws_eqFramework.f
  refine Ev.congr (f := fun k => (laws_eqAttackS.f k l l).bind fun t => if t = true then some true else some false) (fun k => by rw [if_pos rfl]) ?_
  exact Ev.bind (eqS_ev l hl) (by simp only [if_true]; exact Ev.now _)

def inR (n : Int) (x : IA) : Bool := decide (0 ≤ x.f0) && decide (x.f0 ≤ n - 1) && decide (0 ≤ x.f1) && decide (x.f1 ≤ n - 1)
def lt2 (a b : IA) : Bool := decide (a.f0 < b.f0) || (decide (a.f0 = b.f0) && decide (a.f1 < b.f1))
/-- From place i on: each in range, each behind the one ahead of it. -/
def goodAt (n : Int) (l : List IA) (i : Nat) : Bool := inR n (l.getD i z65) && (i == 0 || lt2 (l.getD (i - 1) z65) (l.getD i z65))
def good (n : Int) (l : List IA) : Bool := decide (0 ≤ n) && decide (n ≤ 10) && (List.range l.length).all (goodAt n l)
theorem good_iff {n : Int} {l : List IA} : good n l = true ↔ (0 ≤ n ∧ n ≤ 10) ∧ ∀ i, i < l.length → goodAt n l i = true := by
  simp [good, List.all_eq_true]
theorem inR_iff {n : Int} {x : IA} : inR n x = true ↔ 0 ≤ x.f0 ∧ x.f0 ≤ n - 1 ∧ 0 ≤ x.f1 ∧ x.f1 ≤ n - 1 := by simp [inR, and_assoc]

def restGood (n : Int) (l : List IA) (i : Nat) : Bool := (List.range' i (l.length - i)).all (goodAt n l)
theorem restGood_end (n : Int) (l : List IA) : restGood n l l.length = true := by simp [restGood]
theorem restGood_step (n : Int) (l : List IA) {i : Nat} (h : i < l.length) : restGood n l i = (goodAt n l i && restGood n l (i + 1)) := by
  unfold restGood
  rw [show l.length - i = (l.length - (i + 1)) + 1 by omega, List.range'_succ, List.all_cons]
theorem restGood_all (n : Int) (l : List IA) : restGood n l 0 = (List.range l.length).all (goodAt n l) := by
  unfold restGood
  rw [Nat.sub_zero, List.range_eq_range']

theorem rdA (l : List IA) (i : Nat) : rd_T65 l (i : Int) = l.getD i z65 := rfl

/-- What a round asks of element x behind element y: first is whether there is none ahead. -/
def ask (n : Int) (first : Bool) (y x : IA) : Bool := inR n x && (first || lt2 y x)
theorem goodAt_ask (n : Int) (l : List IA) (i : Nat) : goodAt n l i = ask n (i == 0) (l.getD (i - 1) z65) (l.getD i z65) := rfl
theorem inR_and (n : Int) (x : IA) : inR n x = ((decide (0 ≤ x.f0) && decide (x.f0 ≤ n - 1)) && (decide (0 ≤ x.f1) && decide (x.f1 ≤ n - 1))) := by simp only [inR, Bool.and_assoc]

theorem impl_j (n : Int) (l : List IA) (i : Nat) (hi : i < l.length) (hl : l.length ≤ 1048576) (b : Bool) (R : Bool) (ih : Ev (fun k => impl_IsValidFramework.l0 k l (l.length : Int) ((i + 1 : Nat) : Int) n l) R) (x : IA) :
    Ev (fun k => impl_IsValidFramework.j1 k (i : Int) l (l.length : Int) (i : Int) (!b) n l x.f0 x.f1) (b && ((i == 0) || lt2 (l.getD (i - 1) z65) x) && R) := by
  cases b with
  | false => exact Ev.step (f := fun _ => some false) (fun k => by simp only [impl_IsValidFramework.j1]; rfl) (Ev.now _)
  | true =>
    by_cases hz : i = 0
    · subst hz
      refine Ev.step (f := fun k => impl_IsValidFramework.l0 k l (l.length : Int) ((0 + 1 : Nat) : Int) n l) (fun k => ?_) ?_
      · simp only [impl_IsValidFramework.j1]; rw [if_neg (by simp), if_neg (by omega), w64s (by omega)]
      · simpa using ih
    · have hb : (i == 0) = false := by simpa using hz
      rw [hb]
      refine Ev.step (f := fun k => if lt2 (l.getD (i - 1) z65) x = true then impl_IsValidFramework.l0 k l (l.length : Int) ((i + 1 : Nat) : Int) n l else some false) (fun k => ?_) ?_
      · simp only [impl_IsValidFramework.j1]
        rw [if_neg (by simp), if_pos (by omega), w64p (by omega) (by omega), if_pos (by omega), if_pos (by omega), rdA, w64s (by omega)]
        generalize l.getD (i - 1) z65 = y
        simp only [lt2, Bool.or_eq_true, Bool.and_eq_true, decide_eq_true_eq]
        by_cases c1 : x.f0 < y.f0
        · rw [if_pos c1, if_neg (by omega)]
        · rw [if_neg c1]
          by_cases c2 : x.f0 = y.f0
          · rw [if_pos c2]
            by_cases c3 : x.f1 ≤ y.f1
            · rw [if_pos c3, if_neg (by omega)]
            · rw [if_neg c3, if_pos (by omega)]
          · rw [if_neg c2, if_pos (by omega)]
      · cases lt2 (l.getD (i - 1) z65) x with
        | true => simpa using ih
        | false => exact Ev.now _
theorem impl_loop (n : Int) (l : List IA) (hl : l.length ≤ 1048576) (h0 : 0 ≤ n) (h1 : n ≤ 10) : ∀ i, i ≤ l.length → Ev (fun k => impl_IsValidFramework.l0 k l (l.length : Int) (i : Int) n l) (restGood n l i) := by
  refine down l.length ?_ (fun i hi ih => ?_)
  · refine Ev.step (f := fun _ => some true) (fun k => by simp only [impl_IsValidFramework.l0]; rw [if_neg (by omega)]) ?_
    rw [restGood_end]
    exact Ev.now _
  · rw [restGood_step n l hi, goodAt_ask]
    have e := impl_j n l i hi hl (inR n (l.getD i z65)) _ ih (l.getD i z65)
    refine Ev.step (fun k => ?_) e
    simp only [impl_IsValidFramework.l0]
    rw [if_pos (by omega), if_pos (by omega), if_pos (by omega), rdA, within_eq, within_eq, w64 (by omega) (by omega)]
    simp only [Option.bind_some]
    generalize l.getD i z65 = x
    rw [inR_and]
    cases (decide (0 ≤ x.f0) && decide (x.f0 ≤ n - 1)) <;> simp
theorem good_eq (n : Int) (l : List IA) : good n l = (decide (0 ≤ n) && decide (n ≤ 10) && restGood n l 0) := by rw [restGood_all]; rfl
theorem impl_ev (n : Int) (l : List IA) (hl : l.length ≤ 1048576) : Ev (fun k => impl_IsValidFramework.f k n l) (good n l) := by
  unfold impl_IsValidFramework.f
  rw [within_eq, good_eq]
  simp only [Option.bind_some]
  by_cases c : 0 ≤ n ∧ n ≤ 10
  · have : (decide (0 ≤ n) && decide (n ≤ 10)) = true := by simpa using c
    simp only [this, if_true, Bool.true_and]
    exact impl_loop n l hl c.1 c.2 0 (Nat.zero_le _)
  · have : (decide (0 ≤ n) && decide (n ≤ 10)) = false := by simpa using c
    simp only [this, Bool.false_and]
    exact Ev.now _

theorem spec_j (n : Int) (l : List IA) (i : Nat) (hi : i < l.length) (hl : l.length ≤ 1048576) (h0 : 0 ≤ n) (h1 : n ≤ 10) (b : Bool) (R : Bool) (ih : b = true → Ev (fun k => spec_l22Good.l0 k ((i + 1 : Nat) : Int) n l) R) (x : IA) (hx : b = true → inR n x = true) (hy : 0 < i → inR n (l.getD (i - 1) z65) = true) :
    Ev (fun k => spec_l22Good.j1 k (i : Int) (!b) n l x.f0 x.f1) (b && ((i == 0) || lt2 (l.getD (i - 1) z65) x) && R) := by
  cases b with
  | false => exact Ev.step (f := fun _ => some false) (fun k => by simp only [spec_l22Good.j1]; rfl) (Ev.now _)
  | true =>
    have ih := ih rfl
    have hx := inR_iff.1 (hx rfl)
    by_cases hz : i = 0
    · subst hz
      refine Ev.step (f := fun k => spec_l22Good.l0 k ((0 + 1 : Nat) : Int) n l) (fun k => ?_) ?_
      · simp only [spec_l22Good.j1]; rw [if_neg (by simp), if_neg (by omega), w64s (by omega)]
      · simpa using ih
    · have hb : (i == 0) = false := by simpa using hz
      have hy := inR_iff.1 (hy (by omega))
      rw [hb]
      refine Ev.step (f := fun k => if lt2 (l.getD (i - 1) z65) x = true then spec_l22Good.l0 k ((i + 1 : Nat) : Int) n l else some false) (fun k => ?_) ?_
      · simp only [spec_l22Good.j1]
        rw [if_neg (by simp), if_pos (by omega), w64p (by omega) (by omega), if_pos (by omega), if_pos (by omega), rdA, w64s (by omega)]
        generalize l.getD (i - 1) z65 = y at hy ⊢
        have e1 : wrap64 (wrap64 (y.f0 * n) + y.f1) = y.f0 * n + y.f1 := by
          have : 0 ≤ y.f0 * n := Int.mul_nonneg hy.1 h0
          have : y.f0 * n ≤ 10 * 10 := Int.mul_le_mul (by omega) (by omega) h0 (by omega)
          rw [w64 (x := y.f0 * n) (by omega) (by omega), w64 (by omega) (by omega)]
        have e2 : wrap64 (wrap64 (x.f0 * n) + x.f1) = x.f0 * n + x.f1 := by
          have : 0 ≤ x.f0 * n := Int.mul_nonneg hx.1 h0
          have : x.f0 * n ≤ 10 * 10 := Int.mul_le_mul (by omega) (by omega) h0 (by omega)
          rw [w64 (x := x.f0 * n) (by omega) (by omega), w64 (by omega) (by omega)]
        rw [e1, e2]
        simp only [lt2, Bool.or_eq_true, Bool.and_eq_true, decide_eq_true_eq]
        by_cases c1 : y.f0 < x.f0
        · have : (y.f0 + 1) * n ≤ x.f0 * n := Int.mul_le_mul_of_nonneg_right (by omega) h0
          rw [Int.add_mul, Int.one_mul] at this
          rw [if_neg (by omega), if_pos (by omega)]
        · by_cases c2 : y.f0 = x.f0
          · rw [c2]
            by_cases c3 : y.f1 < x.f1
            · rw [if_neg (by omega), if_pos (by omega)]
            · rw [if_pos (by omega), if_neg (by omega)]
          · have : (x.f0 + 1) * n ≤ y.f0 * n := Int.mul_le_mul_of_nonneg_right (by omega) h0
            rw [Int.add_mul, Int.one_mul] at this
            rw [if_pos (by omega), if_neg (by omega)]
      · cases lt2 (l.getD (i - 1) z65) x with
        | true => simpa using ih
        | false => exact Ev.now _
theorem spec_loop (n : Int) (l : List IA) (hl : l.length ≤ 1048576) (h0 : 0 ≤ n) (h1 : n ≤ 10) : ∀ i, i ≤ l.length → (0 < i → inR n (l.getD (i - 1) z65) = true) → Ev (fun k => spec_l22Good.l0 k (i : Int) n l) (restGood n l i) := by
  refine down l.length ?_ (fun i hi ih => ?_)
  · intro _
    refine Ev.step (f := fun _ => some true) (fun k => by simp only [spec_l22Good.l0]; rw [if_neg (by omega)]) ?_
    rw [restGood_end]
    exact Ev.now _
  · intro hy
    rw [restGood_step n l hi, goodAt_ask]
    have e := spec_j n l i hi hl h0 h1 (inR n (l.getD i z65)) (restGood n l (i + 1)) (fun hb => ih (fun _ => hb)) (l.getD i z65) (fun h => h) hy
    refine Ev.step (fun k => ?_) e
    simp only [spec_l22Good.l0]
    rw [if_pos (by omega), if_pos (by omega), rdA, l1In_eq, l1In_eq, w64 (by omega) (by omega)]
    simp only [Option.bind_some]
    generalize l.getD i z65 = x
    rw [inR_and]
    cases (decide (0 ≤ x.f0) && decide (x.f0 ≤ n - 1)) <;> simp
theorem spec_ev (n : Int) (l : List IA) (hl : l.length ≤ 1048576) : Ev (fun k => spec_l22Good.f k n l) (good n l) := by
  unfold spec_l22Good.f
  rw [l1In_eq, good_eq]
  simp only [Option.bind_some]
  by_cases c : 0 ≤ n ∧ n ≤ 10
  · have : (decide (0 ≤ n) && decide (n ≤ 10)) = true := by simpa using c
    simp only [this, if_true, Bool.true_and]
    exact spec_loop n l hl c.1 c.2 0 (Nat.zero_le _) (fun h => absurd h (Nat.lt_irrefl 0))
  · have : (decide (0 ≤ n) && decide (n ≤ 10)) = false := by simpa using c
    simp only [this, Bool.false_and]
    exact Ev.now _
theorem good_n {n : Int} {l : List IA} (h : good n l = true) : 0 ≤ n ∧ n ≤ 10 := by
  rw [good_iff] at h
  exact h.1
theorem good_mem {n : Int} {l : List IA} (h : good n l = true) : ∀ x ∈ l, inR n x = true := by
  intro x hx
  obtain ⟨i, hi, rfl⟩ := List.getElem_of_mem hx
  have := (good_iff.1 h).2 i hi
  simp only [goodAt, Bool.and_eq_true] at this
  rw [List.getD_eq_getElem?_getD, List.getElem?_eq_getElem hi] at this
  exact this.1

theorem eqI_ev (s : List Int) (hl : s.length ≤ 1048576) : Ev (fun k => laws_eqIntS.f k s s) true := by
  unfold laws_eqIntS.f
  refine Ev.congr (f := fun k => laws_eqIntS.l0 k s s 0) (fun k => by rw [if_pos rfl]) ?_
  refine same_loop s (fun k i => laws_eqIntS.l0 k s s i) (fun i hi ih => ?_) (fun k => by simp only [laws_eqIntS.l0]; rw [if_neg (by omega)])
  refine Ev.step (f := fun k => laws_eqIntS.l0 k s s ((i + 1 : Nat) : Int)) (fun k => ?_) ih
  simp only [laws_eqIntS.l0]
  rw [if_pos (by omega), if_pos (by omega), if_pos (by omega), w64s (by omega)]
  exact if_pos trivial

/-! what a set attacks -/
def attFrom (m o : Nat) (l : List IA) : Nat := l.foldl (fun o x => if m.testBit x.f0.toNat = true then o ||| 2 ^ x.f1.toNat else o) o
def att (l : List IA) (m : Nat) : Nat := attFrom m 0 l
theorem attFrom_bit (m : Nat) (l : List IA) : ∀ (o j : Nat), (attFrom m o l).testBit j = (o.testBit j || l.any (fun x => m.testBit x.f0.toNat && decide (x.f1.toNat = j))) := by
  induction l with
  | nil => intro o j; simp [attFrom]
  | cons x l ih =>
    intro o j
    show (attFrom m (if m.testBit x.f0.toNat = true then o ||| 2 ^ x.f1.toNat else o) l).testBit j = _
    rw [ih, List.any_cons]
    cases m.testBit x.f0.toNat with
    | false => simp
    | true => rw [if_pos rfl, bit_or_pow, Bool.true_and, Bool.or_assoc]
theorem att_bit (l : List IA) (m j : Nat) : (att l m).testBit j = l.any (fun x => m.testBit x.f0.toNat && decide (x.f1.toNat = j)) := by
  rw [att, attFrom_bit, Nat.zero_testBit, Bool.false_or]
theorem att_lt {n : Int} {l : List IA} (h : good n l = true) (m : Nat) : att l m < 2 ^ 10 := lt_of_bits (fun i hi => by
  rw [att_bit, List.any_eq_true] at hi
  obtain ⟨a, ha, hd⟩ := hi
  rw [Bool.and_eq_true] at hd
  have := inR_iff.1 (good_mem h a ha)
  have := good_n h
  have := of_decide_eq_true hd.2
  omega)
theorem small_of {n : Int} {l : List IA} (h : good n l = true) {x : IA} (hx : x ∈ l) : ∃ a b : Nat, x.f0 = (a : Int) ∧ x.f1 = (b : Int) ∧ a < 10 ∧ b < 10 := by
  have := inR_iff.1 (good_mem h x hx)
  have := good_n h
  exact ⟨x.f0.toNat, x.f1.toNat, by omega, by omega, by omega, by omega⟩
theorem specAtt_loop (n : Int) (l : List IA) (hl : l.length ≤ 1048576) (hg : good n l = true) (m : Nat) (hm : m < 2 ^ 62) : ∀ i, i ≤ l.length → ∀ o : Nat, o < 2 ^ 62 → Ev (fun k => spec_l22Attacked.l0 k (m : Int) (o : Int) (i : Int) n l) ((attFrom m o (l.drop i) : Nat) : Int) := by
  refine down l.length ?_ (fun i hi ih => ?_)
  · intro o _
    rw [List.drop_length]
    exact Ev.step (f := fun _ => some (o : Int)) (fun k => by simp only [spec_l22Attacked.l0]; rw [if_neg (by omega)]) (Ev.now _)
  · intro o ho
    rw [drop_getD l i hi z65]
    obtain ⟨a, b, h0, h1, ha, hb⟩ := small_of hg (getD_mem l i hi z65)
    have hx := rdA l i
    generalize l.getD i z65 = x at hx h0 h1 ⊢
    have e : attFrom m o (x :: l.drop (i + 1)) = attFrom m (if m.testBit a = true then o ||| 2 ^ b else o) (l.drop (i + 1)) := by
      show attFrom m (if m.testBit x.f0.toNat = true then o ||| 2 ^ x.f1.toNat else o) (l.drop (i + 1)) = _
      rw [h0, h1, Int.toNat_natCast, Int.toNat_natCast]
    rw [e]
    refine Ev.step (f := fun k => spec_l22Attacked.l0 k (m : Int) ((if m.testBit a = true then o ||| 2 ^ b else o : Nat) : Int) ((i + 1 : Nat) : Int) n l) (fun k => ?_) (ih _ (by split; exact or62 ho (pow62 (by omega)); exact ho))
    simp only [spec_l22Attacked.l0]
    rw [if_pos (by omega), if_pos (by omega), hx, h0, h1, wrap_u64_small _ (by omega) (by omega), wrap_u64_small _ (by omega) (by omega), if_pos (by omega), b_one hm (by omega), w64s (by omega)]
    cases m.testBit a with
    | false => rfl
    | true => rw [if_pos rfl, if_pos rfl, if_pos (by omega), b_orshl ho (by omega)]; rfl
theorem specAtt_ev (n : Int) (l : List IA) (hl : l.length ≤ 1048576) (hg : good n l = true) (m : Nat) (hm : m < 2 ^ 62) : Ev (fun k => spec_l22Attacked.f k n l (m : Int)) ((att l m : Nat) : Int) := specAtt_loop n l hl hg m hm 0 (Nat.zero_le _) 0 (by decide)
theorem implAtt_loop (n : Int) (l : List IA) (hl : l.length ≤ 1048576) (hg : good n l = true) (m : Nat) (hm : m < 2 ^ 62) : ∀ i, i ≤ l.length → ∀ o : Nat, o < 2 ^ 62 → Ev (fun k => impl_attackedBy.l0 k (m : Int) (o : Int) l (l.length : Int) (i : Int)) ((attFrom m o (l.drop i) : Nat) : Int) := by
  refine down l.length ?_ (fun i hi ih => ?_)
  · intro o _
    rw [List.drop_length]
    exact Ev.step (f := fun _ => some (o : Int)) (fun k => by simp only [impl_attackedBy.l0]; rw [if_neg (by omega)]) (Ev.now _)
  · intro o ho
    rw [drop_getD l i hi z65]
    obtain ⟨a, b, h0, h1, ha, hb⟩ := small_of hg (getD_mem l i hi z65)
    have hx := rdA l i
    generalize l.getD i z65 = x at hx h0 h1 ⊢
    have e : attFrom m o (x :: l.drop (i + 1)) = attFrom m (if m.testBit a = true then o ||| 2 ^ b else o) (l.drop (i + 1)) := by
      show attFrom m (if m.testBit x.f0.toNat = true then o ||| 2 ^ x.f1.toNat else o) (l.drop (i + 1)) = _
      rw [h0, h1, Int.toNat_natCast, Int.toNat_natCast]
    rw [e]
    refine Ev.step (f := fun k => impl_attackedBy.l0 k (m : Int) ((if m.testBit a = true then o ||| 2 ^ b else o : Nat) : Int) l (l.length : Int) ((i + 1 : Nat) : Int)) (fun k => ?_) (ih _ (by split; exact or62 ho (pow62 (by omega)); exact ho))
    simp only [impl_attackedBy.l0]
    rw [if_pos (by omega), if_pos (by omega), if_pos (by omega), hx, h0, h1, if_pos (by omega), b_one hm (by omega), w64s (by omega)]
    cases m.testBit a with
    | false => rfl
    | true => rw [if_pos rfl, if_pos rfl, if_pos (by omega), b_orshl ho (by omega)]; rfl
theorem implAtt_ev (n : Int) (l : List IA) (hl : l.length ≤ 1048576) (hg : good n l = true) (m : Nat) (hm : m < 2 ^ 62) : Ev (fun k => impl_attackedBy.f k n l (m : Int)) ((att l m : Nat) : Int) := implAtt_loop n l hl hg m hm 0 (Nat.zero_le _) 0 (by decide)
theorem small62 {a : Nat} (h : a < 2 ^ 10) : a < 2 ^ 62 := Nat.lt_trans h (by decide)

/-! conflict-free sets -/
def free (l : List IA) (m : Nat) : Bool := att l m &&& m == 0
theorem beq_cast (a : Nat) : ((a : Int) == 0) = (a == 0) := by
  rw [Bool.eq_iff_iff]; simp
theorem specFree_ev (n : Int) (l : List IA) (hl : l.length ≤ 1048576) (hg : good n l = true) (m : Nat) (hm : m < 2 ^ 62) : Ev (fun k => spec_l22Free.f k n l (m : Int)) (free l m) := by
  unfold spec_l22Free.f
  refine Ev.bind (specAtt_ev n l hl hg m hm) ?_
  rw [b_and (small62 (att_lt hg m)) hm, beq_cast]
  exact Ev.now _
theorem implFree_ev (n : Int) (l : List IA) (hl : l.length ≤ 1048576) (hg : good n l = true) (m : Nat) (hm : m < 2 ^ 62) : Ev (fun k => impl_isFree.f k n l (m : Int)) (free l m) := by
  unfold impl_isFree.f
  refine Ev.bind (implAtt_ev n l hl hg m hm) ?_
  rw [b_and (small62 (att_lt hg m)) hm, beq_cast]
  exact Ev.now _

/-! the list of a number's bits -/
def bl (m i : Nat) : List Int := ((List.range i).filter fun j => m.testBit j).map fun (j : Nat) => (j : Int)
theorem bl_succ (m i : Nat) : bl m (i + 1) = if m.testBit i = true then bl m i ++ [(i : Int)] else bl m i := by
  unfold bl
  rw [List.range_succ, List.filter_append, List.map_append]
  cases h : m.testBit i with
  | true => simp [h]
  | false => simp [h]
theorem bl_len (m i : Nat) : (bl m i).length ≤ i := by
  unfold bl
  rw [List.length_map]
  exact Nat.le_trans (List.length_filter_le _ _) (by simp)
theorem bl_mem {m i : Nat} {a : Int} (h : a ∈ bl m i) : ∃ j : Nat, a = (j : Int) ∧ j < i ∧ m.testBit j = true := by
  unfold bl at h
  rw [List.mem_map] at h
  obtain ⟨j, hj, rfl⟩ := h
  rw [List.mem_filter, List.mem_range] at hj
  exact ⟨j, rfl, hj.1, hj.2⟩
theorem bl_in {m i j : Nat} (h : j < i) (hb : m.testBit j = true) : (j : Int) ∈ bl m i := by
  unfold bl
  rw [List.mem_map]
  exact ⟨j, by rw [List.mem_filter, List.mem_range]; exact ⟨h, hb⟩, rfl⟩
theorem bl_end {m i : Nat} (h : m < 2 ^ i) : ∀ d, bl m (i + d) = bl m i := by
  intro d
  induction d with
  | zero => rfl
  | succ d ih =>
    rw [← Nat.add_assoc, bl_succ, Nat.testBit_lt_two_pow (Nat.lt_of_lt_of_le h (Nat.pow_le_pow_right (by decide) (by omega))), if_neg (by simp), ih]
theorem implBits_loop (m : Nat) (hm : m < 2 ^ 10) : ∀ i, i ≤ 10 → Ev (fun k => impl_bitsOf.l0 k (m : Int) (bl m i) (i : Int)) (bl m 10) := by
  refine down 10 ?_ (fun i hi ih => ?_)
  · refine Ev.step (f := fun _ => some (bl m 10)) (fun k => ?_) (Ev.now _)
    simp only [impl_bitsOf.l0]
    have : ¬ shr .i64 (m : Int) ((10 : Nat) : Int) > 0 := by rw [b_shr_pos (by decide)]; omega
    rw [if_pos (by omega), if_neg this]
  · by_cases c : 2 ^ i ≤ m
    · refine Ev.step (fun k => ?_) ih
      simp only [impl_bitsOf.l0]
      rw [if_pos (by omega), if_pos ((b_shr_pos (by omega)).2 c), b_one (small62 hm) (by omega), w64s (by omega), bl_succ]
      have := bl_len m i
      simp only [if_pos (show (bl m i).length < 17592186044416 by omega)]
      cases m.testBit i <;> rfl
    · have e : bl m 10 = bl m i := by
        have := bl_end (m := m) (i := i) (by omega) (10 - i)
        rwa [show i + (10 - i) = 10 by omega] at this
      rw [e]
      refine Ev.step (f := fun _ => some (bl m i)) (fun k => ?_) (Ev.now _)
      simp only [impl_bitsOf.l0]
      rw [if_pos (by omega), if_neg (fun h => c ((b_shr_pos (by omega)).1 h))]
theorem implBits_ev (m : Nat) (hm : m < 2 ^ 10) : Ev (fun k => impl_bitsOf.f k (m : Int)) (bl m 10) := implBits_loop m hm 0 (Nat.zero_le _)
theorem specBits_loop (m : Nat) (hm : m < 2 ^ 62) : ∀ i, i ≤ 10 → Ev (fun k => spec_l22List.l0 k (m : Int) (bl m i) (i : Int)) (bl m 10) := by
  refine down 10 ?_ (fun i hi ih => ?_)
  · refine Ev.step (f := fun _ => some (bl m 10)) (fun k => ?_) (Ev.now _)
    simp only [spec_l22List.l0]
    rw [if_neg (by omega)]
  · refine Ev.step (fun k => ?_) ih
    simp only [spec_l22List.l0]
    rw [if_pos (by omega), wrap_u64_small _ (by omega) (by omega), if_pos (by omega), b_one hm (by omega), w64s (by omega), bl_succ]
    have := bl_len m i
    simp only [if_pos (show (bl m i).length < 17592186044416 by omega)]
    cases m.testBit i <;> rfl
theorem specBits_ev (m : Nat) (hm : m < 2 ^ 62) : Ev (fun k => spec_l22List.f k (m : Int)) (bl m 10) := specBits_loop m hm 0 (Nat.zero_le _)

/-! marks -/
theorem markA_ev (l : List IA) (hl : l.length ≤ 1048576) : ∃ l', Ev (fun k => laws_markAttackS.f k l 1) (1 + 2 * (l.length : Int), l') := by
  unfold laws_markAttackS.f
  have key : ∀ i, i ≤ l.length → ∀ l' : List IA, l'.length = l.length → ∃ r, Ev (fun k => laws_markAttackS.l0 k l' (1 + 2 * (i : Int)) (i : Int)) (1 + 2 * (l.length : Int), r) := by
    refine down l.length ?_ (fun i hi ih => ?_)
    · intro l' hl'
      exact ⟨l', Ev.step (f := fun _ => some (1 + 2 * (l.length : Int), l')) (fun k => by simp only [laws_markAttackS.l0]; rw [if_neg (by omega)]) (Ev.now _)⟩
    · intro l' hl'
      have h := ih ((l'.set i (⟨1 + 2 * (i : Int), (rd_T65 l' (i : Int)).f1⟩ : IA)).set i (⟨(rd_T65 (l'.set i (⟨1 + 2 * (i : Int), (rd_T65 l' (i : Int)).f1⟩ : IA)) (i : Int)).f0, 1 + 2 * (i : Int) + 1⟩ : IA)) (by simp [hl'])
      obtain ⟨r, hr⟩ := h
      refine ⟨r, Ev.step (fun k => ?_) hr⟩
      simp only [laws_markAttackS.l0]
      rw [if_pos (by omega), if_pos (by omega), Option.bind_some, w64s (by omega), w64 (x := 1 + 2 * (i : Int) + 1) (by omega) (by omega), w64 (by omega) (by omega), show (1 : Int) + 2 * ((i + 1 : Nat) : Int) = 1 + 2 * (i : Int) + 1 + 1 by omega]
      rfl
  obtain ⟨r, hr⟩ := key 0 (Nat.zero_le _) l rfl
  exact ⟨r, hr⟩
theorem markF_ev (n : Int) (l : List IA) (hl : l.length ≤ 1048576) : ∃ l', Ev (fun k => laws_markFramework.f k n l 1) (1 + 2 * (l.length : Int), l') := by
  obtain ⟨l', h⟩ := markA_ev l hl
  refine ⟨l', ?_⟩
  unfold laws_markFramework.f
  exact Ev.bind h (Ev.now _)

/-! marks in lists of numbers -/
/-- Numbers from m on. -/
def nums_ (m : Int) (n : Nat) : List Int := (List.range n).map fun (i : Nat) => m + (i : Int)
theorem nums__length (m : Int) (n : Nat) : (nums_ m n).length = n := by simp [nums_]
theorem nums__get (m : Int) (n i : Nat) (h : i < n) : (nums_ m n).getD i 0 = m + (i : Int) := by
  unfold nums_
  rw [List.getD_eq_getElem?_getD, List.getElem?_map, List.getElem?_range h]
  rfl
theorem markI_ev (s : List Int) (m : Int) (h0 : 0 ≤ m) (h1 : m ≤ 4611686018427387904) (hs : s.length ≤ 1048576) : Ev (fun k => laws_markIntS.f k s m) (m + (s.length : Int), nums_ m s.length) := by
  unfold laws_markIntS.f
  have key : ∀ i, i ≤ s.length → Ev (fun k => laws_markIntS.l0 k (nums_ m i ++ s.drop i) (m + (i : Int)) (i : Int)) (m + (s.length : Int), nums_ m s.length) := by
    refine down s.length ?_ (fun i hi ih => ?_)
    · refine Ev.step (f := fun _ => some (m + (s.length : Int), nums_ m s.length)) (fun k => ?_) (Ev.now _)
      simp only [laws_markIntS.l0]
      rw [List.drop_length, List.append_nil, nums__length, if_neg (by omega)]
    · refine Ev.step (fun k => ?_) ih
      simp only [laws_markIntS.l0]
      rw [if_pos (by rw [List.length_append, nums__length, List.length_drop]; omega), if_pos (by omega), w64s (by omega), w64 (by omega) (by omega)]
      have e : (nums_ m i ++ s.drop i).set ((i : Int)).toNat (m + (i : Int)) = nums_ m (i + 1) ++ s.drop (i + 1) := by
        rw [Int.toNat_natCast, List.set_append_right _ _ (by rw [nums__length]; exact Nat.le_refl _), nums__length, Nat.sub_self, drop_getD s i hi 0, List.set_cons_zero]
        simp [nums_, List.range_succ]
      rw [e, show m + (i : Int) + 1 = m + ((i + 1 : Nat) : Int) by omega]
  have := key 0 (Nat.zero_le _)
  simpa [nums_] using this
theorem heldI_ev (n : Nat) (m : Int) (h0 : 0 ≤ m) (h1 : m ≤ 4611686018427387904) (hn : n ≤ 1048576) : Ev (fun k => laws_heldIntS.f k (nums_ m n) m) (m + (n : Int)) := by
  unfold laws_heldIntS.f
  have key : ∀ i, i ≤ n → Ev (fun k => laws_heldIntS.l0 k (nums_ m n) (m + (i : Int)) (i : Int)) (m + (n : Int)) := by
    refine down n ?_ (fun i hi ih => ?_)
    · refine Ev.step (f := fun _ => some (m + (n : Int))) (fun k => ?_) (Ev.now _)
      simp only [laws_heldIntS.l0]
      rw [nums__length, if_neg (by omega)]
    · refine Ev.step (fun k => ?_) ih
      simp only [laws_heldIntS.l0]
      rw [nums__length, if_pos (by omega), if_pos (by omega), rd_nat, nums__get m n i hi, if_pos rfl, w64s (by omega), w64 (by omega) (by omega), show m + (i : Int) + 1 = m + ((i + 1 : Nat) : Int) by omega]
  have := key 0 (Nat.zero_le _)
  simpa using this

/-! the sets for which a condition holds, in order -/
def top (n : Int) : Nat := 2 ^ n.toNat
theorem top_le {n : Int} {l : List IA} (hg : good n l = true) : top n ≤ 1024 := by
  have h := (good_n hg).2
  show 2 ^ n.toNat ≤ 2 ^ 10
  exact Nat.pow_le_pow_right (by decide) (by omega)
theorem shl_top {n : Int} {l : List IA} (hg : good n l = true) : shl .i64 1 n = ((top n : Nat) : Int) := by
  have h := good_n hg
  have e : n = ((n.toNat : Nat) : Int) := by omega
  have := b_shl (i := n.toNat) (by omega)
  rw [← e] at this
  exact this
theorem wrapN {n : Int} {l : List IA} (hg : good n l = true) : IntKind.u64.wrap n = n := by
  have h := good_n hg
  exact wrap_u64_small n h.1 (by omega)
def picked (p : Nat → Bool) (i : Nat) : List Nat := (List.range i).filter p
theorem picked_succ (p : Nat → Bool) (i : Nat) : picked p (i + 1) = if p i = true then picked p i ++ [i] else picked p i := by
  unfold picked
  rw [List.range_succ, List.filter_append]
  cases h : p i with
  | true => simp [h]
  | false => simp [h]
theorem picked_len (p : Nat → Bool) (i : Nat) : (picked p i).length ≤ i := Nat.le_trans (List.length_filter_le _ _) (by simp)
theorem setsWith_loop (HOLDS : Nat → Int → Option Bool) (p : Nat → Bool) (N : Nat) (hN : N ≤ 1024) (hp : ∀ i, i < N → Ev (fun k => HOLDS k (i : Int)) (p i)) : ∀ i, i ≤ N → Ev (fun k => impl_setsWith.l0 HOLDS k ((picked p i).map fun m => bl m 10) (N : Int) (i : Int)) ((picked p N).map (fun m => bl m 10), true) := by
  refine down N ?_ (fun i hi ih => ?_)
  · exact Ev.step (f := fun _ => some ((picked p N).map (fun m => bl m 10), true)) (fun k => by simp only [impl_setsWith.l0]; rw [if_neg (by omega)]) (Ev.now _)
  · have hl := picked_len p i
    refine Ev.step (f := fun k => (HOLDS k (i : Int)).bind fun t => if t = true then (impl_bitsOf.f k (i : Int)).bind fun r => impl_setsWith.l0 HOLDS k ((picked p i).map (fun m => bl m 10) ++ [r]) (N : Int) ((i + 1 : Nat) : Int) else impl_setsWith.l0 HOLDS k ((picked p i).map fun m => bl m 10) (N : Int) ((i + 1 : Nat) : Int)) (fun k => ?_) ?_
    · simp only [impl_setsWith.l0]
      rw [if_pos (by omega), w64s (by omega)]
      simp only [if_pos (show ((picked p i).map fun m => bl m 10).length < 5864062014805 by rw [List.length_map]; omega)]
    · refine Ev.bind (hp i hi) ?_
      rw [picked_succ] at ih
      cases h : p i with
      | true =>
        rw [h] at ih
        simp only [if_true, List.map_append, List.map_cons, List.map_nil] at ih ⊢
        exact Ev.bind (implBits_ev i (by omega)) ih
      | false =>
        rw [h] at ih
        simpa using ih
theorem setsWith_ev (HOLDS : Nat → Int → Option Bool) (p : Nat → Bool) (n : Int) (l : List IA) (hl : l.length ≤ 1048576) (hp : good n l = true → ∀ i, i < top n → Ev (fun k => HOLDS k (i : Int)) (p i)) : Ev (fun k => impl_setsWith.f HOLDS k n l) (if good n l = true then ((picked p (top n)).map (fun m => bl m 10), true) else ([], false)) := by
  unfold impl_setsWith.f
  refine Ev.bind (impl_ev n l hl) ?_
  cases hg : good n l with
  | false => exact Ev.now _
  | true =>
    simp only [if_true, if_pos (good_n hg).1, shl_top hg]
    exact setsWith_loop HOLDS p (top n) (top_le hg) (hp hg) 0 (Nat.zero_le _)

/-! marks in lists of lists -/
def tot : List (List Int) → Nat
  | [] => 0
  | s :: L => s.length + tot L
theorem tot_snoc (s : List Int) : ∀ L : List (List Int), tot (L ++ [s]) = tot L + s.length
  | [] => by simp [tot]
  | t :: L => by
    show t.length + tot (L ++ [s]) = t.length + tot L + s.length
    rw [tot_snoc s L]; omega
def small (L : List (List Int)) : Prop := L.length ≤ 1024 ∧ ∀ s ∈ L, s.length ≤ 10
theorem small_get {L : List (List Int)} (h : small L) (i : Nat) : (L.getD i []).length ≤ 10 := by
  rw [List.getD_eq_getElem?_getD]
  cases e : L[i]? with
  | none => simp
  | some s => exact h.2 s (List.mem_of_getElem? e)
theorem tot_take {L : List (List Int)} (h : small L) : ∀ i, i ≤ L.length → tot (L.take i) ≤ 10 * i
  | 0, _ => by simp [tot]
  | i + 1, hi => by
    rw [take_getD L i (by omega) [], tot_snoc]
    have := tot_take h i (by omega)
    have := small_get h i
    omega
def marked (m : Int) : List (List Int) → List (List Int)
  | [] => []
  | s :: L => nums_ m s.length :: marked (m + (s.length : Int)) L
theorem marked_len : ∀ (L : List (List Int)) (m : Int), (marked m L).length = L.length
  | [], _ => rfl
  | s :: L, m => by simp [marked, marked_len L]
theorem marked_snoc (s : List Int) : ∀ (L : List (List Int)) (m : Int), marked m (L ++ [s]) = marked m L ++ [nums_ (m + (tot L : Int)) s.length]
  | [], m => by simp [marked, tot]
  | t :: L, m => by
    show nums_ m t.length :: marked (m + (t.length : Int)) (L ++ [s]) = _
    rw [marked_snoc s L, show m + (t.length : Int) + (tot L : Int) = m + ((t.length + tot L : Nat) : Int) by omega]
    rfl
theorem marked_getD : ∀ (L : List (List Int)) (m : Int) (i : Nat), i < L.length → (marked m L).getD i [] = nums_ (m + (tot (L.take i) : Int)) (L.getD i []).length
  | [], _, _, h => absurd h (Nat.not_lt_zero _)
  | s :: L, m, 0, _ => by simp [marked, tot]
  | s :: L, m, i + 1, h => by
    show (marked (m + (s.length : Int)) L).getD i [] = nums_ (m + ((s.length + tot (L.take i) : Nat) : Int)) (L.getD i []).length
    rw [marked_getD L _ i (by simpa using h)]
    congr 1
    omega
theorem markSS_ev (L : List (List Int)) (h : small L) : Ev (fun k => laws_markIntSS.f k L 1) (1 + (tot L : Int), marked 1 L) := by
  unfold laws_markIntSS.f
  have hL := h.1
  have key : ∀ i, i ≤ L.length → Ev (fun k => laws_markIntSS.l0 k (marked 1 (L.take i) ++ L.drop i) (1 + (tot (L.take i) : Int)) (i : Int)) (1 + (tot L : Int), marked 1 L) := by
    refine down L.length ?_ (fun i hi ih => ?_)
    · refine Ev.step (f := fun _ => some (1 + (tot L : Int), marked 1 L)) (fun k => ?_) (Ev.now _)
      simp only [laws_markIntSS.l0]
      rw [List.drop_length, List.append_nil, marked_len, List.take_length, if_neg (by omega)]
    · have ht := tot_take h i (by omega)
      have hs := small_get h i
      have hl : (marked 1 (L.take i)).length = i := by rw [marked_len, List.length_take]; omega
      have e1 : (marked 1 (L.take i) ++ L.drop i).getD ((i : Int)).toNat [] = L.getD i [] := by
        rw [Int.toNat_natCast, List.getD_eq_getElem?_getD, List.getElem?_append_right (by omega), hl, Nat.sub_self, drop_getD L i hi []]
        rfl
      have e2 : ∀ t, (marked 1 (L.take i) ++ L.drop i).set ((i : Int)).toNat t = marked 1 (L.take i) ++ t :: L.drop (i + 1) := by
        intro t
        rw [Int.toNat_natCast, List.set_append_right _ _ (by omega), hl, Nat.sub_self, drop_getD L i hi [], List.set_cons_zero]
      refine Ev.step (f := fun k => (laws_markIntS.f k (L.getD i []) (1 + (tot (L.take i) : Int))).bind fun bt => laws_markIntSS.l0 k (marked 1 (L.take i) ++ bt.2 :: L.drop (i + 1)) bt.1 ((i + 1 : Nat) : Int)) (fun k => ?_) ?_
      · simp only [laws_markIntSS.l0, e1, e2]
        rw [if_pos (by rw [List.length_append, hl, List.length_drop]; omega), if_pos (by omega), w64s (by omega)]
      · refine Ev.bind (markI_ev (L.getD i []) _ (by omega) (by omega) (by omega)) ?_
        dsimp only
        rw [take_getD L i hi [], tot_snoc, marked_snoc] at ih
        rw [show 1 + (tot (L.take i) : Int) + ((L.getD i []).length : Int) = 1 + ((tot (L.take i) + (L.getD i []).length : Nat) : Int) by omega]
        rw [List.append_assoc] at ih
        exact ih
  have := key 0 (Nat.zero_le _)
  simpa [marked, tot] using this
theorem heldSS_ev (L : List (List Int)) (h : small L) : Ev (fun k => laws_heldIntSS.f k (marked 1 L) 1) (1 + (tot L : Int)) := by
  unfold laws_heldIntSS.f
  have hL := h.1
  have hml := marked_len L 1
  have key : ∀ i, i ≤ L.length → Ev (fun k => laws_heldIntSS.l0 k (marked 1 L) (1 + (tot (L.take i) : Int)) (i : Int)) (1 + (tot L : Int)) := by
    refine down L.length ?_ (fun i hi ih => ?_)
    · refine Ev.step (f := fun _ => some (1 + (tot L : Int))) (fun k => ?_) (Ev.now _)
      simp only [laws_heldIntSS.l0]
      rw [hml, List.take_length, if_neg (by omega)]
    · have ht := tot_take h i (by omega)
      have hs := small_get h i
      have e1 : rd_L3 (marked 1 L) (i : Int) = nums_ (1 + (tot (L.take i) : Int)) (L.getD i []).length := marked_getD L 1 i hi
      refine Ev.step (f := fun k => (laws_heldIntS.f k (nums_ (1 + (tot (L.take i) : Int)) (L.getD i []).length) (1 + (tot (L.take i) : Int))).bind fun t => if t < 0 then some (-1) else laws_heldIntSS.l0 k (marked 1 L) t ((i + 1 : Nat) : Int)) (fun k => ?_) ?_
      · simp only [laws_heldIntSS.l0, e1]
        rw [if_pos (by omega), if_pos (by omega), w64s (by omega)]
      · refine Ev.bind (heldI_ev _ _ (by omega) (by omega) (by omega)) ?_
        rw [take_getD L i hi [], tot_snoc] at ih
        simp only [if_neg (show ¬ (1 + (tot (L.take i) : Int) + ((L.getD i []).length : Int) < 0) by omega)]
        rw [show 1 + (tot (L.take i) : Int) + ((L.getD i []).length : Int) = 1 + ((tot (L.take i) + (L.getD i []).length : Nat) : Int) by omega]
        exact ih
  have := key 0 (Nat.zero_le _)
  simpa [tot] using this
theorem eqSS_ev (L : List (List Int)) (h : small L) : Ev (fun k => laws_eqIntSS.f k L L) true := by
  have hL := h.1
  unfold laws_eqIntSS.f
  refine Ev.congr (f := fun k => laws_eqIntSS.l0 k L L 0) (fun k => by rw [if_pos rfl]) ?_
  refine same_loop L (fun k i => laws_eqIntSS.l0 k L L i) (fun i hi ih => ?_) (fun k => by simp only [laws_eqIntSS.l0]; rw [if_neg (by omega)])
  have hs := small_get h i
  refine Ev.step (f := fun k => (laws_eqIntS.f k (L.getD i []) (L.getD i [])).bind fun t => if t = true then laws_eqIntSS.l0 k L L ((i + 1 : Nat) : Int) else some false) (fun k => ?_) ?_
  · simp only [laws_eqIntSS.l0]
    rw [if_pos (by omega), if_pos (by omega), if_pos (by omega), w64s (by omega)]
    rfl
  · refine Ev.bind (eqI_ev (L.getD i []) (by omega)) ?_
    simp only [if_true]
    exact ih
theorem small_picked (p : Nat → Bool) {n : Int} {l : List IA} (hg : good n l = true) : small ((picked p (top n)).map fun m => bl m 10) := by
  constructor
  · rw [List.length_map]
    exact Nat.le_trans (picked_len _ _) (top_le hg)
  · intro s hs
    rw [List.mem_map] at hs
    obtain ⟨m, _, rfl⟩ := hs
    exact bl_len m 10
theorem small_nil : small [] := ⟨by simp, fun s hs => by cases hs⟩
def answer (p : Nat → Bool) (n : Int) (l : List IA) : List (List Int) × Bool := if good n l = true then ((picked p (top n)).map (fun m => bl m 10), true) else ([], false)
theorem answer_small (p : Nat → Bool) (n : Int) (l : List IA) : small (answer p n l).1 := by
  unfold answer
  cases hg : good n l with
  | true => exact small_picked p hg
  | false => exact small_nil

/-! stable sets -/
def stab (n : Int) (l : List IA) (m : Nat) : Bool := free l m && ((att l m ||| m) == top n - 1)
theorem implStab_ev (n : Int) (l : List IA) (hl : l.length ≤ 1048576) (hg : good n l = true) (m : Nat) (hm : m < top n) : Ev (fun k => impl_StableSets_1.f k (m : Int) n l) (stab n l m) := by
  have hN := top_le hg
  have hp : 0 < top n := Nat.two_pow_pos _
  unfold impl_StableSets_1.f stab
  refine Ev.bind (implFree_ev n l hl hg m (by omega)) ?_
  cases free l m with
  | false => exact Ev.now _
  | true =>
    simp only [if_true, Bool.true_and]
    refine Ev.bind (implAtt_ev n l hl hg m (by omega)) ?_
    have hor := b_or (a := att l m) (b := m) (small62 (att_lt hg m)) (by omega)
    rw [if_pos (good_n hg).1, hor, shl_top hg, w64 (by omega) (by omega)]
    refine Ev.const ?_
    congr 1
    rw [Bool.eq_iff_iff, beq_iff_eq, beq_iff_eq]
    omega
theorem impl_sets (n : Int) (l : List IA) (hl : l.length ≤ 1048576) : Ev (fun k => impl_StableSets.f k n l) (answer (stab n l) n l) :=
  setsWith_ev _ (stab n l) n l hl (fun hg i hi => implStab_ev n l hl hg i hi)
theorem specStab_loop (n : Int) (l : List IA) (hl : l.length ≤ 1048576) (hg : good n l = true) : ∀ i, i ≤ top n → Ev (fun k => spec_StableSets.l0 k ((picked (stab n l) i).map fun m => bl m 10) (i : Int) n l) ((picked (stab n l) (top n)).map (fun m => bl m 10), true) := by
  have hN := top_le hg
  have hp : 0 < top n := Nat.two_pow_pos _
  refine down (top n) ?_ (fun i hi ih => ?_)
  · refine Ev.step (f := fun _ => some ((picked (stab n l) (top n)).map (fun m => bl m 10), true)) (fun k => ?_) (Ev.now _)
    simp only [spec_StableSets.l0]
    rw [wrapN hg, if_pos (good_n hg).1, shl_top hg, if_neg (by omega)]
  · have hpl := picked_len (stab n l) i
    have hlen : ((picked (stab n l) i).map fun m => bl m 10).length < 5864062014805 := by rw [List.length_map]; omega
    have ht : wrap64 (((top n : Nat) : Int) - 1) = ((top n - 1 : Nat) : Int) := by rw [w64 (by omega) (by omega)]; omega
    refine Ev.step (f := fun k => (spec_l22Free.f k n l (i : Int)).bind fun t => if t = true then (spec_l22Attacked.f k n l (i : Int)).bind fun u => if Go.bits .or .i64 u (i : Int) = ((top n - 1 : Nat) : Int) then (spec_l22List.f k (i : Int)).bind fun r => spec_StableSets.l0 k ((picked (stab n l) i).map (fun m => bl m 10) ++ [r]) ((i + 1 : Nat) : Int) n l else spec_StableSets.l0 k ((picked (stab n l) i).map fun m => bl m 10) ((i + 1 : Nat) : Int) n l else spec_StableSets.l0 k ((picked (stab n l) i).map fun m => bl m 10) ((i + 1 : Nat) : Int) n l) (fun k => ?_) ?_
    · simp only [spec_StableSets.l0]
      rw [wrapN hg, if_pos (good_n hg).1, shl_top hg, if_pos (by omega), w64s (by omega), ht]
      simp only [if_pos hlen]
    · refine Ev.bind (specFree_ev n l hl hg i (by omega)) ?_
      rw [picked_succ] at ih
      unfold stab at ih ⊢
      cases hf : free l i with
      | false =>
        rw [hf] at ih
        simpa using ih
      | true =>
        rw [hf] at ih
        simp only [if_true, Bool.true_and] at ih ⊢
        refine Ev.bind (specAtt_ev n l hl hg i (by omega)) ?_
        have hor := b_or (a := att l i) (b := i) (small62 (att_lt hg i)) (by omega)
        simp only [hor]
        by_cases c : att l i ||| i = top n - 1
        · simp only [if_pos (show ((att l i ||| i : Nat) : Int) = ((top n - 1 : Nat) : Int) by rw [c])]
          rw [if_pos (by rw [c]; exact beq_self_eq_true _), List.map_append] at ih
          exact Ev.bind (specBits_ev i (by omega)) ih
        · simp only [if_neg (show ¬ ((att l i ||| i : Nat) : Int) = ((top n - 1 : Nat) : Int) by omega)]
          rw [if_neg (by rw [beq_iff_eq]; exact c)] at ih
          exact ih
theorem spec_sets (n : Int) (l : List IA) (hl : l.length ≤ 1048576) : Ev (fun k => spec_StableSets.f k n l) (answer (stab n l) n l) := by
  unfold spec_StableSets.f answer
  simp only [Option.bind_some]
  refine Ev.bind (spec_ev n l hl) ?_
  cases hg : good n l with
  | false => exact Ev.now _
  | true =>
    simp only [if_true]
    exact specStab_loop n l hl hg 0 (Nat.zero_le _)
theorem both (n : Int) (l : List IA) (hl : l.length ≤ 1048576) : ∃ R : List (List Int) × Bool, Ev (fun k => spec_StableSets.f k n l) R ∧ Ev (fun k => impl_StableSets.f k n l) R ∧ small R.1 := ⟨_, spec_sets n l hl, impl_sets n l hl, answer_small _ _ _⟩

theorem whole (n : Int) (l : List LA) (hl : l.length ≤ maxLen) : Ev (fun k => laws_FnExactStableSets.f k n l) true := by
  unfold laws_FnExactStableSets.f
  rw [sz_ev n l hl]
  by_cases h : l.length ≤ 1048576
  · simp only [if_pos h, Option.bind_some, if_neg (show ¬ (1048576 - (l.length : Int) < 0) by omega)]
    have hc := conv_length l
    obtain ⟨⟨L, b⟩, hS, hI, hs⟩ := both n (conv l) (by omega)
    dsimp only at hs
    refine Ev.bind (toF_ev n l h) (Ev.bind hS (Ev.bind (toF_ev n l h) (Ev.bind hI (Ev.bind (eqSS_ev L hs) ?_))))
    simp only [if_true, bne_self_eq_false]
    refine Ev.step (fun k => by simp only [laws_FnExactStableSets.j0]; rfl) ?_
    simp only [Bool.false_eq_true, if_false]
    refine Ev.bind (toF_ev n l h) (Ev.bind (eqF_ev n (conv l) (by omega)) ?_)
    simp only [if_true]
    obtain ⟨l', hm⟩ := markF_ev n (conv l) (by omega)
    refine Ev.bind hm ?_
    simp only [if_neg (show ¬ (1 + 2 * ((conv l).length : Int) < 0) by omega)]
    refine Ev.bind (eqSS_ev L hs) ?_
    simp only [if_true, bne_self_eq_false]
    refine Ev.step (fun k => by simp only [laws_FnExactStableSets.j1]; rfl) ?_
    simp only [Bool.false_eq_true, if_false]
    refine Ev.bind (markSS_ev L hs) (Ev.bind (heldSS_ev L hs) ?_)
    simp only [if_neg (show ¬ (1 + (tot L : Int) < 0) by omega), if_true]
    refine Ev.bind (toF_ev n l h) (Ev.bind hI (Ev.bind (eqSS_ev L hs) ?_))
    simp only [if_true, bne_self_eq_false]
    refine Ev.step (fun k => by simp only [laws_FnExactStableSets.j2]; rfl) ?_
    simp only [Bool.false_eq_true, if_false]
    refine Ev.bind (heldSS_ev L hs) ?_
    simp only [if_neg (show ¬ (1 + (tot L : Int) < 0) by omega), if_true]
    exact Ev.now _
  · simp only [if_neg h, Option.bind_some]
    exact Ev.now _
end Go.Proofs.Ytfhbnmlmobpjgaa.PureFnExactStableSets
namespace Go.Proofs.Ytfhbnmlmobpjgaa.Pure
theorem FnExactStableSets : PFnExactStableSets.laws_FnExactStableSets.Ask := fun x hx => (PureFnExactStableSets.whole x.f0 x.f1 hx.2.1).rounds
end Go.Proofs.Ytfhbnmlmobpjgaa.Pure
