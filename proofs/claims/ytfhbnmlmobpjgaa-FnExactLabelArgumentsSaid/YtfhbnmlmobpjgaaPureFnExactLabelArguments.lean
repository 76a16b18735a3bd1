/-
The plain law behind FnExactLabelArguments: the printed functions of the program and of the reference give the same values, so the law answers true. No condition.
-/
import Derived.Test.YtfhbnmlmobpjgaaAskFnExactLabelArguments
import Derived.Test.YtfhbnmlmobpjgaaBase
import Derived.Test.YtfhbnmlmobpjgaaBits
namespace Go.Proofs.Ytfhbnmlmobpjgaa.PureFnExactLabelArguments
open Go.RowKit Go.Proofs.Ytfhbnmlmobpjgaa.PFnExactLabelArguments Go.Proofs.YtfhbnmlmobpjgaaOpen Go.Proofs.YtfhbnmlmobpjgaaBase Go.Proofs.YtfhbnmlmobpjgaaBits Go.Proofs.YtfhbnmlmobpjgaaW.PrintWords Go.Proofs.YtfhbnmlmobpjgaaW.PrintLast Go.Proofs.YtfhbnmlmobpjgaaW.PrintMore

/-! frameworks: what the law makes of its argument, and what is valid -/
abbrev LA := S95
abbrev IA := S65
def conv (l : List LA) : List IA := l.map fun x => ⟨x.f0, x.f1⟩
theorem conv_length (l : List LA) : (conv l).length = l.length := by simp [conv]

theorem sz_ev (n : Int) (l : List LA) (hl : l.length ≤ maxLen) : laws_szFramework.f n l 1048576 = if l.length ≤ 1048576 then some (1048576 - (l.length : Int)) else some (-1) := by
  unfold maxLen at hl
  unfold laws_szFramework.f laws_szAttackS.f
  rw [w64 (by omega) (by omega)]
  by_cases h : l.length ≤ 1048576
  · rw [if_neg (by omega), if_pos h, Option.bind_some, if_neg (by omega)]
  · rw [if_pos (by omega), if_neg h, Option.bind_some, if_pos (by omega)]

theorem toS_ev (l : List LA) (hl : l.length ≤ 1048576) : Ev (fun k => laws_toAttackS.f k l) (conv l) := by
  unfold laws_toAttackS.f
  refine Ev.congr (f := fun k => laws_toAttackS.l0 k l (List.replicate l.length z65) 0) (fun k => by rw [if_pos (by omega), if_pos (by omega)]; rfl) ?_
  refine copy_loop (fun x : LA => (⟨x.f0, x.f1⟩ : IA)) _ z95 l (fun k y i => laws_toAttackS.l0 k l y i) ?_ ?_
  · intro k i y hi hy
    simp only [laws_toAttackS.l0]
    rw [if_pos (by omega), if_pos (by omega)]
    unfold laws_toAttack.f
    rw [Option.bind_some, if_pos (by omega), w64s (by omega)]
    rfl
  · intro k y hy
    simp only [laws_toAttackS.l0]
    rw [if_neg (by omega)]
theorem toF_ev (n : Int) (l : List LA) (hl : l.length ≤ 1048576) : Ev (fun k => laws_toFramework.f k n l) (n, conv l) := by
  unfold laws_toFramework.f
  exact Ev.bind (toS_ev l hl) (Ev.now _)

theorem eqS_ev (l : List IA) (hl : l.length ≤ 1048576) : Ev (fun k => laws_eqAttackS.f k l l) true := by
  unfold laws_eqAttackS.f
  refine Ev.congr (f := fun k => laws_eqAttackS.l0 k l l 0) (fun k => by rw [if_pos rfl]) ?_
  refine same_loop l (fun k i => laws_eqAttackS.l0 k l l i) (fun i hi ih => ?_) (fun k => by simp only [laws_eqAttackS.l0]; rw [if_neg (by omega)])
  refine Ev.step (f := fun k => laws_eqAttackS.l0 k l l ((i + 1 : Nat) : Int)) (fun k => ?_) ih
  simp only [laws_eqAttackS.l0]
  rw [if_pos (by omega), if_pos (by omega), if_pos (by omega)]
  unfold laws_eqAttack.f
  rw [if_pos rfl, if_pos rfl, Option.bind_some, if_pos rfl, w64s (by omega)]
theorem eqF_ev (n : Int) (l : List IA) (hl : l.length ≤ 1048576) : Ev (fun k => laws_eqFramework.f k n l n l) true := by
  unfold laws_eqFramework.f
  refine Ev.congr (f := fun k => (laws_eqAttackS.f k l l).bind fun t => if t = true then some true else some false) (fun k => by rw [if_pos rfl]) ?_
  exact Ev.bind (eqS_ev l hl) (by simp only [if_true]; exact Ev.now _)

def inR (n : Int) (x : IA) : Bool := decide (0 ≤ x.f0) && decide (x.f0 ≤ n - 1) && decide (0 ≤ x.f1) && decide (x.f1 ≤ n - 1)
def lt2 (a b : IA) : Bool := decide (a.f0 < b.f0) || (decide (a.f0 = b.f0) && decide (a.f1 < b.f1))
/-- From place i on: each in range, each behind the one ahead of it. -/
def goodAt (n : Int) (l : List IA) (i : Nat) : Bool := inR n (l.getD i z65) && (i == 0 || lt2 (l.getD (i - 1) z65) (l.getD i z65))
def good (n : Int) (l : List IA) : Bool := decide (0 ≤ n) && decide (n ≤ 10) && (List.range l.length).all (goodAt n l)
theorem good_iff {n : Int} {l : List IA} : good n l = true ↔ (0 ≤ n ∧ n ≤ 10) ∧ ∀ i, i < l.length → goodAt n l i = true := by
  simp [good, List.all_eq_true]
theorem inR_iff {n : Int} {x : IA} : inR n x = true ↔ 0 ≤ x.f0 ∧ x.f0 ≤ n - 1 ∧ 0 ≤ x.f1 ∧ x.f1 ≤ n - 1 := by simp [inR, and_assoc]

def restGood (n : Int) (l : List IA) (i : Nat) : Bool := (List.range' i (l.length - i)).all (goodAt n l)
theorem restGood_end (n : Int) (l : List IA) : restGood n l l.length = true := by simp [restGood]
theorem restGood_step (n : Int) (l : List IA) {i : Nat} (h : i < l.length) : restGood n l i = (goodAt n l i && restGood n l (i + 1)) := by
  unfold restGood
  rw [show l.length - i = (l.length - (i + 1)) + 1 by omega, List.range'_succ, List.all_cons]
theorem restGood_all (n : Int) (l : List IA) : restGood n l 0 = (List.range l.length).all (goodAt n l) := by
  unfold restGood
  rw [Nat.sub_zero, List.range_eq_range']

theorem within_eq (x a b : Int) : impl_within.f x a b = some (decide (a ≤ x) && decide (x ≤ b)) := by
  unfold impl_within.f
  by_cases h : x ≥ a
  · rw [if_pos h]; simp [h]
  · rw [if_neg h]; simp [h]
theorem l1In_eq (x a b : Int) : spec_l1In.f x a b = some (decide (a ≤ x) && decide (x ≤ b)) := by
  unfold spec_l1In.f
  by_cases h : x ≥ a
  · rw [if_pos h]; simp [h]
  · rw [if_neg h]; simp [h]
theorem rdA (l : List IA) (i : Nat) : rd_T65 l (i : Int) = l.getD i z65 := rfl

/-- What a round asks of element x behind element y: first is whether there is none ahead. -/
def ask (n : Int) (first : Bool) (y x : IA) : Bool := inR n x && (first || lt2 y x)
theorem goodAt_ask (n : Int) (l : List IA) (i : Nat) : goodAt n l i = ask n (i == 0) (l.getD (i - 1) z65) (l.getD i z65) := rfl
theorem inR_and (n : Int) (x : IA) : inR n x = ((decide (0 ≤ x.f0) && decide (x.f0 ≤ n - 1)) && (decide (0 ≤ x.f1) && decide (x.f1 ≤ n - 1))) := by simp only [inR, Bool.and_assoc]

theorem impl_j (n : Int) (l : List IA) (i : Nat) (hi : i < l.length) (hl : l.length ≤ 1048576) (b : Bool) (R : Bool) (ih : Ev (fun k => impl_IsValidFramework.l0 k l (l.length : Int) ((i + 1 : Nat) : Int) n l) R) (x : IA) :
    Ev (fun k => impl_IsValidFramework.j1 k (i : Int) l (l.length : Int) (i : Int) (!b) n l x.f0 x.f1) (b && ((i == 0) || lt2 (l.getD (i - 1) z65) x) && R) := by
  cases b with
  | false => exact Ev.step (f := fun _ => some false) (fun k => by simp only [impl_IsValidFramework.j1]; rfl) (Ev.now _)
  | true =>
    by_cases hz : i = 0
    · subst hz
      refine Ev.step (f := fun k => impl_IsValidFramework.l0 k l (l.length : Int) ((0 + 1 : Nat) : Int) n l) (fun k => ?_) ?_
      · simp only [impl_IsValidFramework.j1]; rw [if_neg (by simp), if_neg (by omega), w64s (by omega)]
      · simpa using ih
    · have hb : (i == 0) = false := by simpa using hz
      rw [hb]
      refine Ev.step (f := fun k => if lt2 (l.getD (i - 1) z65) x = true then impl_IsValidFramework.l0 k l (l.length : Int) ((i + 1 : Nat) : Int) n l else some false) (fun k => ?_) ?_
      · simp only [impl_IsValidFramework.j1]
        rw [if_neg (by simp), if_pos (by omega), w64p (by omega) (by omega), if_pos (by omega), if_pos (by omega), rdA, w64s (by omega)]
        generalize l.getD (i - 1) z65 = y
        simp only [lt2, Bool.or_eq_true, Bool.and_eq_true, decide_eq_true_eq]
        by_cases c1 : x.f0 < y.f0
        · rw [if_pos c1, if_neg (by omega)]
        · rw [if_neg c1]
          by_cases c2 : x.f0 = y.f0
          · rw [if_pos c2]
            by_cases c3 : x.f1 ≤ y.f1
            · rw [if_pos c3, if_neg (by omega)]
            · rw [if_neg c3, if_pos (by omega)]
          · rw [if_neg c2, if_pos (by omega)]
      · cases lt2 (l.getD (i - 1) z65) x with
        | true => simpa using ih
        | false => exact Ev.now _
theorem impl_loop (n : Int) (l : List IA) (hl : l.length ≤ 1048576) (h0 : 0 ≤ n) (h1 : n ≤ 10) : ∀ i, i ≤ l.length → Ev (fun k => impl_IsValidFramework.l0 k l (l.length : Int) (i : Int) n l) (restGood n l i) := by
  refine down l.length ?_ (fun i hi ih => ?_)
  · refine Ev.step (f := fun _ => some true) (fun k => by simp only [impl_IsValidFramework.l0]; rw [if_neg (by omega)]) ?_
    rw [restGood_end]
    exact Ev.now _
  · rw [restGood_step n l hi, goodAt_ask]
    have e := impl_j n l i hi hl (inR n (l.getD i z65)) _ ih (l.getD i z65)
    refine Ev.step (fun k => ?_) e
    simp only [impl_IsValidFramework.l0]
    rw [if_pos (by omega), if_pos (by omega), if_pos (by omega), rdA, within_eq, within_eq, w64 (by omega) (by omega)]
    simp only [Option.bind_some]
    generalize l.getD i z65 = x
    rw [inR_and]
    cases (decide (0 ≤ x.f0) && decide (x.f0 ≤ n - 1)) <;> simp
theorem good_eq (n : Int) (l : List IA) : good n l = (decide (0 ≤ n) && decide (n ≤ 10) && restGood n l 0) := by rw [restGood_all]; rfl
theorem impl_ev (n : Int) (l : List IA) (hl : l.length ≤ 1048576) : Ev (fun k => impl_IsValidFramework.f k n l) (good n l) := by
  unfold impl_IsValidFramework.f
  rw [within_eq, good_eq]
  simp only [Option.bind_some]
  by_cases c : 0 ≤ n ∧ n ≤ 10
  · have : (decide (0 ≤ n) && decide (n ≤ 10)) = true := by simpa using c
    simp only [this, if_true, Bool.true_and]
    exact impl_loop n l hl c.1 c.2 0 (Nat.zero_le _)
  · have : (decide (0 ≤ n) && decide (n ≤ 10)) = false := by simpa using c
    simp only [this, Bool.false_and]
    exact Ev.now _

theorem spec_j (n : Int) (l : List IA) (i : Nat) (hi : i < l.length) (hl : l.length ≤ 1048576) (h0 : 0 ≤ n) (h1 : n ≤ 10) (b : Bool) (R : Bool) (ih : b = true → Ev (fun k => spec_l22Good.l0 k ((i + 1 : Nat) : Int) n l) R) (x : IA) (hx : b = true → inR n x = true) (hy : 0 < i → inR n (l.getD (i - 1) z65) = true) :
    Ev (fun k => spec_l22Good.j1 k (i : Int) (!b) n l x.f0 x.f1) (b && ((i == 0) || lt2 (l.getD (i - 1) z65) x) && R) := by
  cases b with
  | false => exact Ev.step (f := fun _ => some false) (fun k => by simp only [spec_l22Good.j1]; rfl) (Ev.now _)
  | true =>
    have ih := ih rfl
    have hx := inR_iff.1 (hx rfl)
    by_cases hz : i = 0
    · subst hz
      refine Ev.step (f := fun k => spec_l22Good.l0 k ((0 + 1 : Nat) : Int) n l) (fun k => ?_) ?_
      · simp only [spec_l22Good.j1]; rw [if_neg (by simp), if_neg (by omega), w64s (by omega)]
      · simpa using ih
    · have hb : (i == 0) = false := by simpa using hz
      have hy := inR_iff.1 (hy (by omega))
      rw [hb]
      refine Ev.step (f := fun k => if lt2 (l.getD (i - 1) z65) x = true then spec_l22Good.l0 k ((i + 1 : Nat) : Int) n l else some false) (fun k => ?_) ?_
      · simp only [spec_l22Good.j1]
        rw [if_neg (by simp), if_pos (by omega), w64p (by omega) (by omega), if_pos (by omega), if_pos (by omega), rdA, w64s (by omega)]
        generalize l.getD (i - 1) z65 = y at hy ⊢
        have e1 : wrap64 (wrap64 (y.f0 * n) + y.f1) = y.f0 * n + y.f1 := by
          have : 0 ≤ y.f0 * n := Int.mul_nonneg hy.1 h0
          have : y.f0 * n ≤ 10 * 10 := Int.mul_le_mul (by omega) (by omega) h0 (by omega)
          rw [w64 (x := y.f0 * n) (by omega) (by omega), w64 (by omega) (by omega)]
        have e2 : wrap64 (wrap64 (x.f0 * n) + x.f1) = x.f0 * n + x.f1 := by
          have : 0 ≤ x.f0 * n := Int.mul_nonneg hx.1 h0
          have : x.f0 * n ≤ 10 * 10 := Int.mul_le_mul (by omega) (by omega) h0 (by omega)
          rw [w64 (x := x.f0 * n) (by omega) (by omega), w64 (by omega) (by omega)]
        rw [e1, e2]
        simp only [lt2, Bool.or_eq_true, Bool.and_eq_true, decide_eq_true_eq]
        by_cases c1 : y.f0 < x.f0
        · have : (y.f0 + 1) * n ≤ x.f0 * n := Int.mul_le_mul_of_nonneg_right (by omega) h0
          rw [Int.add_mul, Int.one_mul] at this
          rw [if_neg (by omega), if_pos (by omega)]
        · by_cases c2 : y.f0 = x.f0
          · rw [c2]
            by_cases c3 : y.f1 < x.f1
            · rw [if_neg (by omega), if_pos (by omega)]
            · rw [if_pos (by omega), if_neg (by omega)]
          · have : (x.f0 + 1) * n ≤ y.f0 * n := Int.mul_le_mul_of_nonneg_right (by omega) h0
            rw [Int.add_mul, Int.one_mul] at this
            rw [if_pos (by omega), if_neg (by omega)]
      · cases lt2 (l.getD (i - 1) z65) x with
        | true => simpa using ih
        | false => exact Ev.now _
theorem spec_loop (n : Int) (l : List IA) (hl : l.length ≤ 1048576) (h0 : 0 ≤ n) (h1 : n ≤ 10) : ∀ i, i ≤ l.length → (0 < i → inR n (l.getD (i - 1) z65) = true) → Ev (fun k => spec_l22Good.l0 k (i : Int) n l) (restGood n l i) := by
  refine down l.length ?_ (fun i hi ih => ?_)
  · intro _
    refine Ev.step (f := fun _ => some true) (fun k => by simp only [spec_l22Good.l0]; rw [if_neg (by omega)]) ?_
    rw [restGood_end]
    exact Ev.now _
  · intro hy
    rw [restGood_step n l hi, goodAt_ask]
    have e := spec_j n l i hi hl h0 h1 (inR n (l.getD i z65)) (restGood n l (i + 1)) (fun hb => ih (fun _ => hb)) (l.getD i z65) (fun h => h) hy
    refine Ev.step (fun k => ?_) e
    simp only [spec_l22Good.l0]
    rw [if_pos (by omega), if_pos (by omega), rdA, l1In_eq, l1In_eq, w64 (by omega) (by omega)]
    simp only [Option.bind_some]
    generalize l.getD i z65 = x
    rw [inR_and]
    cases (decide (0 ≤ x.f0) && decide (x.f0 ≤ n - 1)) <;> simp
theorem spec_ev (n : Int) (l : List IA) (hl : l.length ≤ 1048576) : Ev (fun k => spec_l22Good.f k n l) (good n l) := by
  unfold spec_l22Good.f
  rw [l1In_eq, good_eq]
  simp only [Option.bind_some]
  by_cases c : 0 ≤ n ∧ n ≤ 10
  · have : (decide (0 ≤ n) && decide (n ≤ 10)) = true := by simpa using c
    simp only [this, if_true, Bool.true_and]
    exact spec_loop n l hl c.1 c.2 0 (Nat.zero_le _) (fun h => absurd h (Nat.lt_irrefl 0))
  · have : (decide (0 ≤ n) && decide (n ≤ 10)) = false := by simpa using c
    simp only [this, Bool.false_and]
    exact Ev.now _
theorem good_n {n : Int} {l : List IA} (h : good n l = true) : 0 ≤ n ∧ n ≤ 10 := by
  rw [good_iff] at h
  exact h.1
theorem good_mem {n : Int} {l : List IA} (h : good n l = true) : ∀ x ∈ l, inR n x = true := by
  intro x hx
  obtain ⟨i, hi, rfl⟩ := List.getElem_of_mem hx
  have := (good_iff.1 h).2 i hi
  simp only [goodAt, Bool.and_eq_true] at this
  rw [List.getD_eq_getElem?_getD, List.getElem?_eq_getElem hi] at this
  exact this.1

/-! sets: rising lists of arguments, and the number that stands for one -/
def riseAt (lo hi : Int) (s : List Int) (i : Nat) : Bool := (decide (lo ≤ s.getD i 0) && decide (s.getD i 0 ≤ hi)) && (i == 0 || decide (s.getD (i - 1) 0 < s.getD i 0))
def restRise (lo hi : Int) (s : List Int) (i : Nat) : Bool := (List.range' i (s.length - i)).all (riseAt lo hi s)
def rise (lo hi : Int) (s : List Int) : Bool := restRise lo hi s 0
theorem restRise_end (lo hi : Int) (s : List Int) : restRise lo hi s s.length = true := by simp [restRise]
theorem restRise_step (lo hi : Int) (s : List Int) {i : Nat} (h : i < s.length) : restRise lo hi s i = (riseAt lo hi s i && restRise lo hi s (i + 1)) := by
  unfold restRise
  rw [show s.length - i = (s.length - (i + 1)) + 1 by omega, List.range'_succ, List.all_cons]
theorem rise_at {lo hi : Int} {s : List Int} (h : rise lo hi s = true) (i : Nat) (hi' : i < s.length) : riseAt lo hi s i = true := by
  unfold rise restRise at h
  rw [List.all_eq_true] at h
  exact h i (by rw [List.mem_range']; exact ⟨i, by omega, by omega⟩)
theorem rise_mem {lo hi : Int} {s : List Int} (h : rise lo hi s = true) : ∀ a ∈ s, lo ≤ a ∧ a ≤ hi := by
  intro a ha
  obtain ⟨i, hi', rfl⟩ := List.getElem_of_mem ha
  have := rise_at h i hi'
  simp only [riseAt, Bool.and_eq_true, decide_eq_true_eq] at this
  rw [List.getD_eq_getElem?_getD, List.getElem?_eq_getElem hi'] at this
  exact this.1
theorem rise_ge {hi : Int} {s : List Int} (h : rise 0 hi s = true) : ∀ i, i < s.length → (i : Int) ≤ s.getD i 0 := by
  intro i
  induction i with
  | zero =>
    intro hi'
    have := rise_at h 0 hi'
    simp only [riseAt, Bool.and_eq_true, decide_eq_true_eq] at this
    omega
  | succ i ih =>
    intro hi'
    have h1 := ih (by omega)
    have := rise_at h (i + 1) hi'
    simp only [riseAt, Bool.and_eq_true, decide_eq_true_eq, Nat.add_sub_cancel, Bool.or_eq_true, beq_iff_eq] at this
    omega
theorem rise_len {hi : Int} {s : List Int} (h : rise 0 hi s = true) : s = [] ∨ (s.length : Int) ≤ hi + 1 := by
  rcases Nat.eq_zero_or_pos s.length with h0 | h0
  · exact .inl (List.eq_nil_of_length_eq_zero h0)
  · right
    have h1 := rise_ge h (s.length - 1) (by omega)
    have := rise_at h (s.length - 1) (by omega)
    simp only [riseAt, Bool.and_eq_true, decide_eq_true_eq] at this
    omega
theorem specRise_loop (lo hi : Int) (s : List Int) (hs : s.length ≤ 1048576) : ∀ i, i ≤ s.length → Ev (fun k => spec_l1Rising.l0 k s lo hi (i : Int)) (restRise lo hi s i) := by
  refine down s.length ?_ (fun i hi' ih => ?_)
  · rw [restRise_end]
    exact Ev.step (f := fun _ => some true) (fun k => by simp only [spec_l1Rising.l0]; rw [if_neg (by omega)]) (Ev.now _)
  · rw [restRise_step lo hi s hi', riseAt]
    have hx : rd s (i : Int) = s.getD i 0 := rfl
    have hy : rd s ((i - 1 : Nat) : Int) = s.getD (i - 1) 0 := rfl
    generalize s.getD i 0 = x at hx ⊢
    generalize s.getD (i - 1) 0 = y at hy ⊢
    cases c : (decide (lo ≤ x) && decide (x ≤ hi)) with
    | false =>
      refine Ev.step (f := fun _ => some false) (fun k => ?_) (Ev.now _)
      simp only [spec_l1Rising.l0]
      rw [if_pos (by omega), if_pos (by omega), hx, l1In_eq, c]
      rfl
    | true =>
      by_cases hz : i = 0
      · subst hz
        refine Ev.step (f := fun k => spec_l1Rising.l0 k s lo hi ((0 + 1 : Nat) : Int)) (fun k => ?_) (by simpa using ih)
        simp only [spec_l1Rising.l0]
        rw [if_pos (by omega), if_pos (by omega), hx, l1In_eq, c, Option.bind_some, if_pos rfl, if_neg (by omega), w64s (by omega)]
      · have hb : (i == 0) = false := by simpa using hz
        rw [hb]
        by_cases c2 : y ≥ x
        · have : decide (y < x) = false := by simpa using c2
          rw [this]
          refine Ev.step (f := fun _ => some false) (fun k => ?_) (Ev.now _)
          simp only [spec_l1Rising.l0]
          rw [if_pos (by omega), if_pos (by omega), hx, l1In_eq, c, Option.bind_some, if_pos rfl, if_pos (by omega), w64p (by omega) (by omega), if_pos (by omega), if_pos (by omega), hy, if_pos c2]
        · have : decide (y < x) = true := by simpa using c2
          rw [this]
          refine Ev.step (f := fun k => spec_l1Rising.l0 k s lo hi ((i + 1 : Nat) : Int)) (fun k => ?_) (by simpa using ih)
          simp only [spec_l1Rising.l0]
          rw [if_pos (by omega), if_pos (by omega), hx, l1In_eq, c, Option.bind_some, if_pos rfl, if_pos (by omega), w64p (by omega) (by omega), if_pos (by omega), if_pos (by omega), hy, if_neg c2, w64s (by omega)]
theorem specRise_ev (lo hi : Int) (s : List Int) (hs : s.length ≤ 1048576) : Ev (fun k => spec_l1Rising.f k s lo hi) (rise lo hi s) := specRise_loop lo hi s hs 0 (Nat.zero_le _)
theorem implRise_loop (lo hi most : Int) (s : List Int) (hs : s.length ≤ 1048576) : ∀ i, i ≤ s.length → Ev (fun k => impl_isRising.l0 k s lo hi most s (s.length : Int) (i : Int)) (restRise lo hi s i && decide ((s.length : Int) ≤ most)) := by
  refine down s.length ?_ (fun i hi' ih => ?_)
  · rw [restRise_end]
    exact Ev.step (f := fun _ => some (decide ((s.length : Int) ≤ most))) (fun k => by simp only [impl_isRising.l0]; rw [if_neg (by omega)]) (by rw [Bool.true_and]; exact Ev.now _)
  · rw [restRise_step lo hi s hi', riseAt]
    have hx : rd s (i : Int) = s.getD i 0 := rfl
    have hy : rd s ((i - 1 : Nat) : Int) = s.getD (i - 1) 0 := rfl
    generalize s.getD i 0 = x at hx ⊢
    generalize s.getD (i - 1) 0 = y at hy ⊢
    cases c : (decide (lo ≤ x) && decide (x ≤ hi)) with
    | false =>
      refine Ev.step (f := fun _ => some false) (fun k => ?_) (Ev.now _)
      simp only [impl_isRising.l0]
      rw [if_pos (by omega), if_pos (by omega), if_pos (by omega), hx, within_eq, c]
      rfl
    | true =>
      by_cases hz : i = 0
      · subst hz
        refine Ev.step (f := fun k => impl_isRising.l0 k s lo hi most s (s.length : Int) ((0 + 1 : Nat) : Int)) (fun k => ?_) (by simpa using ih)
        simp only [impl_isRising.l0]
        rw [if_pos (by omega), if_pos (by omega), if_pos (by omega), hx, within_eq, c, Option.bind_some, if_pos rfl, if_neg (by omega), w64s (by omega)]
      · have hb : (i == 0) = false := by simpa using hz
        rw [hb]
        by_cases c2 : x ≤ y
        · have : decide (y < x) = false := by simpa using c2
          rw [this]
          refine Ev.step (f := fun _ => some false) (fun k => ?_) (Ev.now _)
          simp only [impl_isRising.l0]
          rw [if_pos (by omega), if_pos (by omega), if_pos (by omega), hx, within_eq, c, Option.bind_some, if_pos rfl, if_pos (by omega), w64p (by omega) (by omega), if_pos (by omega), if_pos (by omega), hy, if_pos c2]
        · have : decide (y < x) = true := by simp; omega
          rw [this]
          refine Ev.step (f := fun k => impl_isRising.l0 k s lo hi most s (s.length : Int) ((i + 1 : Nat) : Int)) (fun k => ?_) (by simpa using ih)
          simp only [impl_isRising.l0]
          rw [if_pos (by omega), if_pos (by omega), if_pos (by omega), hx, within_eq, c, Option.bind_some, if_pos rfl, if_pos (by omega), w64p (by omega) (by omega), if_pos (by omega), if_pos (by omega), hy, if_neg c2, w64s (by omega)]
theorem implRise_ev (lo hi most : Int) (s : List Int) (hs : s.length ≤ 1048576) : Ev (fun k => impl_isRising.f k s lo hi most) (rise lo hi s && decide ((s.length : Int) ≤ most)) := implRise_loop lo hi most s hs 0 (Nat.zero_le _)

/-- A valid framework and a valid set of its arguments. -/
def setOk (n : Int) (l : List IA) (s : List Int) : Bool := good n l && rise 0 (n - 1) s
theorem set_len {n : Int} (h0 : 0 ≤ n) {s : List Int} (h : rise 0 (n - 1) s = true) : (s.length : Int) ≤ n := by
  rcases rise_len h with rfl | h
  · exact h0
  · omega
theorem specSet_ev (n : Int) (l : List IA) (s : List Int) (hl : l.length ≤ 1048576) (hs : s.length ≤ 1048576) : Ev (fun k => spec_l22Set.f k n l s) (setOk n l s) := by
  unfold spec_l22Set.f setOk
  refine Ev.bind (spec_ev n l hl) ?_
  cases hg : good n l with
  | false => exact Ev.now _
  | true =>
    have hn := good_n hg
    rw [w64 (by omega) (by omega)]
    simp only [if_true, Bool.true_and]
    by_cases c : (s.length : Int) ≤ n
    · simp only [if_pos c]
      exact Ev.bind (specRise_ev 0 (n - 1) s hs) (Ev.now _)
    · simp only [if_neg c]
      have : rise 0 (n - 1) s = false := by
        cases hr : rise 0 (n - 1) s with
        | false => rfl
        | true => exact absurd (set_len hn.1 hr) c
      rw [this]
      exact Ev.now _

def maskFrom (m : Nat) (s : List Int) : Nat := s.foldl (fun m a => m ||| 2 ^ a.toNat) m
def mask (s : List Int) : Nat := maskFrom 0 s
theorem maskFrom_bit (s : List Int) : ∀ (m j : Nat), (maskFrom m s).testBit j = (m.testBit j || s.any (fun a => decide (a.toNat = j))) := by
  induction s with
  | nil => intro m j; simp [maskFrom]
  | cons a s ih =>
    intro m j
    show (maskFrom (m ||| 2 ^ a.toNat) s).testBit j = _
    rw [ih, bit_or_pow, List.any_cons, Bool.or_assoc]
theorem mask_bit (s : List Int) (j : Nat) : (mask s).testBit j = s.any (fun a => decide (a.toNat = j)) := by
  rw [mask, maskFrom_bit, Nat.zero_testBit, Bool.false_or]
theorem mask_lt {s : List Int} (h : ∀ a ∈ s, 0 ≤ a ∧ a ≤ 9) : mask s < 2 ^ 10 := lt_of_bits (fun i hi => by
  rw [mask_bit, List.any_eq_true] at hi
  obtain ⟨a, ha, hd⟩ := hi
  have := h a ha
  have := of_decide_eq_true hd
  omega)
theorem specMask_loop (s : List Int) (hl : s.length ≤ 1048576) (h : ∀ a ∈ s, 0 ≤ a ∧ a ≤ 9) : ∀ i, i ≤ s.length → ∀ m : Nat, m < 2 ^ 62 → Ev (fun k => spec_l22Mask.l0 k s (m : Int) (i : Int)) ((maskFrom m (s.drop i) : Nat) : Int) := by
  refine down s.length ?_ (fun i hi ih => ?_)
  · intro m _
    rw [List.drop_length]
    exact Ev.step (f := fun _ => some (m : Int)) (fun k => by simp only [spec_l22Mask.l0]; rw [if_neg (by omega)]) (Ev.now _)
  · intro m hm
    rw [drop_getD s i hi 0]
    have hx : rd s (i : Int) = s.getD i 0 := rfl
    have ha := h _ (getD_mem s i hi 0)
    generalize s.getD i 0 = x at hx ha ⊢
    obtain ⟨x, rfl⟩ := Int.eq_ofNat_of_zero_le ha.1
    refine Ev.step (f := fun k => spec_l22Mask.l0 k s ((m ||| 2 ^ x : Nat) : Int) ((i + 1 : Nat) : Int)) (fun k => ?_) (ih _ (or62 hm (pow62 (by omega))))
    simp only [spec_l22Mask.l0]
    rw [if_pos (by omega), if_pos (by omega), hx, wrap_u64_small _ (by omega) (by omega), if_pos (by omega), b_orshl hm (by omega), w64s (by omega)]
theorem specMask_ev (s : List Int) (hl : s.length ≤ 1048576) (h : ∀ a ∈ s, 0 ≤ a ∧ a ≤ 9) : Ev (fun k => spec_l22Mask.f k s) ((mask s : Nat) : Int) := specMask_loop s hl h 0 (Nat.zero_le _) 0 (by decide)
theorem implMask_loop (s : List Int) (hl : s.length ≤ 1048576) (h : ∀ a ∈ s, 0 ≤ a ∧ a ≤ 9) : ∀ i, i ≤ s.length → ∀ m : Nat, m < 2 ^ 62 → Ev (fun k => impl_numberOf.l0 k (m : Int) s (s.length : Int) (i : Int)) (((maskFrom m (s.drop i) : Nat) : Int), true) := by
  refine down s.length ?_ (fun i hi ih => ?_)
  · intro m _
    rw [List.drop_length]
    exact Ev.step (f := fun _ => some ((m : Int), true)) (fun k => by simp only [impl_numberOf.l0]; rw [if_neg (by omega)]) (Ev.now _)
  · intro m hm
    rw [drop_getD s i hi 0]
    have hx : rd s (i : Int) = s.getD i 0 := rfl
    have ha := h _ (getD_mem s i hi 0)
    generalize s.getD i 0 = x at hx ha ⊢
    obtain ⟨x, rfl⟩ := Int.eq_ofNat_of_zero_le ha.1
    refine Ev.step (f := fun k => impl_numberOf.l0 k ((m ||| 2 ^ x : Nat) : Int) s (s.length : Int) ((i + 1 : Nat) : Int)) (fun k => ?_) (ih _ (or62 hm (pow62 (by omega))))
    simp only [impl_numberOf.l0]
    rw [if_pos (by omega), if_pos (by omega), if_pos (by omega), hx, if_pos (by omega), b_orshl hm (by omega), w64s (by omega)]
theorem set_mem {n : Int} {l : List IA} {s : List Int} (h : setOk n l s = true) : ∀ a ∈ s, 0 ≤ a ∧ a ≤ 9 := by
  rw [setOk, Bool.and_eq_true] at h
  have := good_n h.1
  intro a ha
  have := rise_mem h.2 a ha
  omega
/-- What numberOf gives. -/
def numOf (n : Int) (l : List IA) (s : List Int) : Int × Bool := if setOk n l s = true then (((mask s : Nat) : Int), true) else (0, false)
theorem numberOf_ev (n : Int) (l : List IA) (s : List Int) (hl : l.length ≤ 1048576) (hs : s.length ≤ 1048576) : Ev (fun k => impl_numberOf.f k n l s) (numOf n l s) := by
  unfold impl_numberOf.f numOf
  refine Ev.bind (impl_ev n l hl) ?_
  cases hg : good n l with
  | false =>
    have : setOk n l s = false := by rw [setOk, hg]; rfl
    rw [this]
    exact Ev.step (f := fun _ => some (0, false)) (fun k => by simp only [impl_numberOf.j0]; rfl) (Ev.now _)
  | true =>
    have hn := good_n hg
    rw [w64 (by omega) (by omega)]
    simp only [if_true]
    refine Ev.bind (implRise_ev 0 (n - 1) 10 s hs) ?_
    have e : setOk n l s = rise 0 (n - 1) s := by rw [setOk, hg, Bool.true_and]
    rw [e]
    cases hr : rise 0 (n - 1) s with
    | false => exact Ev.step (f := fun _ => some (0, false)) (fun k => by simp only [impl_numberOf.j0]; rfl) (Ev.now _)
    | true =>
      have hlen := set_len hn.1 hr
      have : decide ((s.length : Int) ≤ 10) = true := by simp; omega
      rw [this]
      refine Ev.step (f := fun k => impl_numberOf.l0 k 0 s (s.length : Int) 0) (fun k => by simp only [impl_numberOf.j0]; rfl) ?_
      exact implMask_loop s hs (set_mem (n := n) (l := l) (by rw [e, hr])) 0 (Nat.zero_le _) 0 (by decide)

theorem toI_ev (s : List Int) (hs : s.length ≤ 1048576) : Ev (fun k => laws_toIntS.f k s) s := by
  unfold laws_toIntS.f
  refine Ev.congr (f := fun k => laws_toIntS.l0 k s (List.replicate s.length 0) 0) (fun k => by rw [if_pos (by omega), if_pos (by omega)]; rfl) ?_
  have := copy_loop (fun x : Int => x) 0 0 s (fun k y i => laws_toIntS.l0 k s y i) ?_ ?_
  · rw [List.map_id'] at this; exact this
  · intro k i y hi hy
    simp only [laws_toIntS.l0]
    rw [if_pos (by omega), if_pos (by omega), if_pos (by omega), w64s (by omega)]
    rfl
  · intro k y hy
    simp only [laws_toIntS.l0]
    rw [if_neg (by omega)]

theorem eqI_ev (s : List Int) (hl : s.length ≤ 1048576) : Ev (fun k => laws_eqIntS.f k s s) true := by
  unfold laws_eqIntS.f
  refine Ev.congr (f := fun k => laws_eqIntS.l0 k s s 0) (fun k => by rw [if_pos rfl]) ?_
  refine same_loop s (fun k i => laws_eqIntS.l0 k s s i) (fun i hi ih => ?_) (fun k => by simp only [laws_eqIntS.l0]; rw [if_neg (by omega)])
  refine Ev.step (f := fun k => laws_eqIntS.l0 k s s ((i + 1 : Nat) : Int)) (fun k => ?_) ih
  simp only [laws_eqIntS.l0]
  rw [if_pos (by omega), if_pos (by omega), if_pos (by omega), w64s (by omega)]
  exact if_pos trivial

/-! what a set attacks -/
def attFrom (m o : Nat) (l : List IA) : Nat := l.foldl (fun o x => if m.testBit x.f0.toNat = true then o ||| 2 ^ x.f1.toNat else o) o
def att (l : List IA) (m : Nat) : Nat := attFrom m 0 l
theorem attFrom_bit (m : Nat) (l : List IA) : ∀ (o j : Nat), (attFrom m o l).testBit j = (o.testBit j || l.any (fun x => m.testBit x.f0.toNat && decide (x.f1.toNat = j))) := by
  induction l with
  | nil => intro o j; simp [attFrom]
  | cons x l ih =>
    intro o j
    show (attFrom m (if m.testBit x.f0.toNat = true then o ||| 2 ^ x.f1.toNat else o) l).testBit j = _
    rw [ih, List.any_cons]
    cases m.testBit x.f0.toNat with
    | false => simp
    | true => rw [if_pos rfl, bit_or_pow, Bool.true_and, Bool.or_assoc]
theorem att_bit (l : List IA) (m j : Nat) : (att l m).testBit j = l.any (fun x => m.testBit x.f0.toNat && decide (x.f1.toNat = j)) := by
  rw [att, attFrom_bit, Nat.zero_testBit, Bool.false_or]
theorem att_lt {n : Int} {l : List IA} (h : good n l = true) (m : Nat) : att l m < 2 ^ 10 := lt_of_bits (fun i hi => by
  rw [att_bit, List.any_eq_true] at hi
  obtain ⟨a, ha, hd⟩ := hi
  rw [Bool.and_eq_true] at hd
  have := inR_iff.1 (good_mem h a ha)
  have := good_n h
  have := of_decide_eq_true hd.2
  omega)
theorem small_of {n : Int} {l : List IA} (h : good n l = true) {x : IA} (hx : x ∈ l) : ∃ a b : Nat, x.f0 = (a : Int) ∧ x.f1 = (b : Int) ∧ a < 10 ∧ b < 10 := by
  have := inR_iff.1 (good_mem h x hx)
  have := good_n h
  exact ⟨x.f0.toNat, x.f1.toNat, by omega, by omega, by omega, by omega⟩
theorem specAtt_loop (n : Int) (l : List IA) (hl : l.length ≤ 1048576) (hg : good n l = true) (m : Nat) (hm : m < 2 ^ 62) : ∀ i, i ≤ l.length → ∀ o : Nat, o < 2 ^ 62 → Ev (fun k => spec_l22Attacked.l0 k (m : Int) (o : Int) (i : Int) n l) ((attFrom m o (l.drop i) : Nat) : Int) := by
  refine down l.length ?_ (fun i hi ih => ?_)
  · intro o _
    rw [List.drop_length]
    exact Ev.step (f := fun _ => some (o : Int)) (fun k => by simp only [spec_l22Attacked.l0]; rw [if_neg (by omega)]) (Ev.now _)
  · intro o ho
    rw [drop_getD l i hi z65]
    obtain ⟨a, b, h0, h1, ha, hb⟩ := small_of hg (getD_mem l i hi z65)
    have hx := rdA l i
    generalize l.getD i z65 = x at hx h0 h1 ⊢
    have e : attFrom m o (x :: l.drop (i + 1)) = attFrom m (if m.testBit a = true then o ||| 2 ^ b else o) (l.drop (i + 1)) := by
      show attFrom m (if m.testBit x.f0.toNat = true then o ||| 2 ^ x.f1.toNat else o) (l.drop (i + 1)) = _
      rw [h0, h1, Int.toNat_natCast, Int.toNat_natCast]
    rw [e]
    refine Ev.step (f := fun k => spec_l22Attacked.l0 k (m : Int) ((if m.testBit a = true then o ||| 2 ^ b else o : Nat) : Int) ((i + 1 : Nat) : Int) n l) (fun k => ?_) (ih _ (by split; exact or62 ho (pow62 (by omega)); exact ho))
    simp only [spec_l22Attacked.l0]
    rw [if_pos (by omega), if_pos (by omega), hx, h0, h1, wrap_u64_small _ (by omega) (by omega), wrap_u64_small _ (by omega) (by omega), if_pos (by omega), b_one hm (by omega), w64s (by omega)]
    cases m.testBit a with
    | false => rfl
    | true => rw [if_pos rfl, if_pos rfl, if_pos (by omega), b_orshl ho (by omega)]; rfl
theorem specAtt_ev (n : Int) (l : List IA) (hl : l.length ≤ 1048576) (hg : good n l = true) (m : Nat) (hm : m < 2 ^ 62) : Ev (fun k => spec_l22Attacked.f k n l (m : Int)) ((att l m : Nat) : Int) := specAtt_loop n l hl hg m hm 0 (Nat.zero_le _) 0 (by decide)
theorem implAtt_loop (n : Int) (l : List IA) (hl : l.length ≤ 1048576) (hg : good n l = true) (m : Nat) (hm : m < 2 ^ 62) : ∀ i, i ≤ l.length → ∀ o : Nat, o < 2 ^ 62 → Ev (fun k => impl_attackedBy.l0 k (m : Int) (o : Int) l (l.length : Int) (i : Int)) ((attFrom m o (l.drop i) : Nat) : Int) := by
  refine down l.length ?_ (fun i hi ih => ?_)
  · intro o _
    rw [List.drop_length]
    exact Ev.step (f := fun _ => some (o : Int)) (fun k => by simp only [impl_attackedBy.l0]; rw [if_neg (by omega)]) (Ev.now _)
  · intro o ho
    rw [drop_getD l i hi z65]
    obtain ⟨a, b, h0, h1, ha, hb⟩ := small_of hg (getD_mem l i hi z65)
    have hx := rdA l i
    generalize l.getD i z65 = x at hx h0 h1 ⊢
    have e : attFrom m o (x :: l.drop (i + 1)) = attFrom m (if m.testBit a = true then o ||| 2 ^ b else o) (l.drop (i + 1)) := by
      show attFrom m (if m.testBit x.f0.toNat = true then o ||| 2 ^ x.f1.toNat else o) (l.drop (i + 1)) = _
      rw [h0, h1, Int.toNat_natCast, Int.toNat_natCast]
    rw [e]
    refine Ev.step (f := fun k => impl_attackedBy.l0 k (m : Int) ((if m.testBit a = true then o ||| 2 ^ b else o : Nat) : Int) l (l.length : Int) ((i + 1 : Nat) : Int)) (fun k => ?_) (ih _ (by split; exact or62 ho (pow62 (by omega)); exact ho))
    simp only [impl_attackedBy.l0]
    rw [if_pos (by omega), if_pos (by omega), if_pos (by omega), hx, h0, h1, if_pos (by omega), b_one hm (by omega), w64s (by omega)]
    cases m.testBit a with
    | false => rfl
    | true => rw [if_pos rfl, if_pos rfl, if_pos (by omega), b_orshl ho (by omega)]; rfl
theorem implAtt_ev (n : Int) (l : List IA) (hl : l.length ≤ 1048576) (hg : good n l = true) (m : Nat) (hm : m < 2 ^ 62) : Ev (fun k => impl_attackedBy.f k n l (m : Int)) ((att l m : Nat) : Int) := implAtt_loop n l hl hg m hm 0 (Nat.zero_le _) 0 (by decide)
theorem small62 {a : Nat} (h : a < 2 ^ 10) : a < 2 ^ 62 := Nat.lt_trans h (by decide)
theorem setOk_good {n : Int} {l : List IA} {s : List Int} (h : setOk n l s = true) : good n l = true := by
  rw [setOk, Bool.and_eq_true] at h
  exact h.1

/-! conflict-free sets -/
def free (l : List IA) (m : Nat) : Bool := att l m &&& m == 0
theorem beq_cast (a : Nat) : ((a : Int) == 0) = (a == 0) := by
  rw [Bool.eq_iff_iff]; simp
theorem specFree_ev (n : Int) (l : List IA) (hl : l.length ≤ 1048576) (hg : good n l = true) (m : Nat) (hm : m < 2 ^ 62) : Ev (fun k => spec_l22Free.f k n l (m : Int)) (free l m) := by
  unfold spec_l22Free.f
  refine Ev.bind (specAtt_ev n l hl hg m hm) ?_
  rw [b_and (small62 (att_lt hg m)) hm, beq_cast]
  exact Ev.now _
theorem implFree_ev (n : Int) (l : List IA) (hl : l.length ≤ 1048576) (hg : good n l = true) (m : Nat) (hm : m < 2 ^ 62) : Ev (fun k => impl_isFree.f k n l (m : Int)) (free l m) := by
  unfold impl_isFree.f
  refine Ev.bind (implAtt_ev n l hl hg m hm) ?_
  rw [b_and (small62 (att_lt hg m)) hm, beq_cast]
  exact Ev.now _

/-! marks -/
theorem markA_ev (l : List IA) (hl : l.length ≤ 1048576) : ∃ l', Ev (fun k => laws_markAttackS.f k l 1) (1 + 2 * (l.length : Int), l') := by
  unfold laws_markAttackS.f
  have key : ∀ i, i ≤ l.length → ∀ l' : List IA, l'.length = l.length → ∃ r, Ev (fun k => laws_markAttackS.l0 k l' (1 + 2 * (i : Int)) (i : Int)) (1 + 2 * (l.length : Int), r) := by
    refine down l.length ?_ (fun i hi ih => ?_)
    · intro l' hl'
      exact ⟨l', Ev.step (f := fun _ => some (1 + 2 * (l.length : Int), l')) (fun k => by simp only [laws_markAttackS.l0]; rw [if_neg (by omega)]) (Ev.now _)⟩
    · intro l' hl'
      have h := ih ((l'.set i (⟨1 + 2 * (i : Int), (rd_T65 l' (i : Int)).f1⟩ : IA)).set i (⟨(rd_T65 (l'.set i (⟨1 + 2 * (i : Int), (rd_T65 l' (i : Int)).f1⟩ : IA)) (i : Int)).f0, 1 + 2 * (i : Int) + 1⟩ : IA)) (by simp [hl'])
      obtain ⟨r, hr⟩ := h
      refine ⟨r, Ev.step (fun k => ?_) hr⟩
      simp only [laws_markAttackS.l0]
      rw [if_pos (by omega), if_pos (by omega), Option.bind_some, w64s (by omega), w64 (x := 1 + 2 * (i : Int) + 1) (by omega) (by omega), w64 (by omega) (by omega), show (1 : Int) + 2 * ((i + 1 : Nat) : Int) = 1 + 2 * (i : Int) + 1 + 1 by omega]
      rfl
  obtain ⟨r, hr⟩ := key 0 (Nat.zero_le _) l rfl
  exact ⟨r, hr⟩
theorem markF_ev (n : Int) (l : List IA) (hl : l.length ≤ 1048576) : ∃ l', Ev (fun k => laws_markFramework.f k n l 1) (1 + 2 * (l.length : Int), l') := by
  obtain ⟨l', h⟩ := markA_ev l hl
  refine ⟨l', ?_⟩
  unfold laws_markFramework.f
  exact Ev.bind h (Ev.now _)
/-- Numbers from m on. -/
def nums_ (m : Int) (n : Nat) : List Int := (List.range n).map fun (i : Nat) => m + (i : Int)
theorem nums__length (m : Int) (n : Nat) : (nums_ m n).length = n := by simp [nums_]
theorem nums__get (m : Int) (n i : Nat) (h : i < n) : (nums_ m n).getD i 0 = m + (i : Int) := by
  unfold nums_
  rw [List.getD_eq_getElem?_getD, List.getElem?_map, List.getElem?_range h]
  rfl
theorem markI_ev (s : List Int) (m : Int) (h0 : 0 ≤ m) (h1 : m ≤ 4611686018427387904) (hs : s.length ≤ 1048576) : Ev (fun k => laws_markIntS.f k s m) (m + (s.length : Int), nums_ m s.length) := by
  unfold laws_markIntS.f
  have key : ∀ i, i ≤ s.length → Ev (fun k => laws_markIntS.l0 k (nums_ m i ++ s.drop i) (m + (i : Int)) (i : Int)) (m + (s.length : Int), nums_ m s.length) := by
    refine down s.length ?_ (fun i hi ih => ?_)
    · refine Ev.step (f := fun _ => some (m + (s.length : Int), nums_ m s.length)) (fun k => ?_) (Ev.now _)
      simp only [laws_markIntS.l0]
      rw [List.drop_length, List.append_nil, nums__length, if_neg (by omega)]
    · refine Ev.step (fun k => ?_) ih
      simp only [laws_markIntS.l0]
      rw [if_pos (by rw [List.length_append, nums__length, List.length_drop]; omega), if_pos (by omega), w64s (by omega), w64 (by omega) (by omega)]
      have e : (nums_ m i ++ s.drop i).set ((i : Int)).toNat (m + (i : Int)) = nums_ m (i + 1) ++ s.drop (i + 1) := by
        rw [Int.toNat_natCast, List.set_append_right _ _ (by rw [nums__length]; exact Nat.le_refl _), nums__length, Nat.sub_self, drop_getD s i hi 0, List.set_cons_zero]
        simp [nums_, List.range_succ]
      rw [e, show m + (i : Int) + 1 = m + ((i + 1 : Nat) : Int) by omega]
  have := key 0 (Nat.zero_le _)
  simpa [nums_] using this
theorem heldI_ev (n : Nat) (m : Int) (h0 : 0 ≤ m) (h1 : m ≤ 4611686018427387904) (hn : n ≤ 1048576) : Ev (fun k => laws_heldIntS.f k (nums_ m n) m) (m + (n : Int)) := by
  unfold laws_heldIntS.f
  have key : ∀ i, i ≤ n → Ev (fun k => laws_heldIntS.l0 k (nums_ m n) (m + (i : Int)) (i : Int)) (m + (n : Int)) := by
    refine down n ?_ (fun i hi ih => ?_)
    · refine Ev.step (f := fun _ => some (m + (n : Int))) (fun k => ?_) (Ev.now _)
      simp only [laws_heldIntS.l0]
      rw [nums__length, if_neg (by omega)]
    · refine Ev.step (fun k => ?_) ih
      simp only [laws_heldIntS.l0]
      rw [nums__length, if_pos (by omega), if_pos (by omega), rd_nat, nums__get m n i hi, if_pos rfl, w64s (by omega), w64 (by omega) (by omega), show m + (i : Int) + 1 = m + ((i + 1 : Nat) : Int) by omega]
  have := key 0 (Nat.zero_le _)
  simpa using this

def lab (s : List Int) (h : Nat) (i : Nat) : Int := if s.contains (i : Int) = true then 1 else if h.testBit i = true then 2 else 3
def labs (s : List Int) (h : Nat) (n : Nat) : List Int := (List.range n).map (lab s h)
theorem labs_succ (s : List Int) (h n : Nat) : labs s h (n + 1) = labs s h n ++ [lab s h n] := by simp [labs, List.range_succ]
theorem labs_length (s : List Int) (h n : Nat) : (labs s h n).length = n := by simp [labs]
theorem has_ev (s : List Int) (a : Int) (hs : s.length ≤ 1048576) : Ev (fun k => spec_l1Has.f k s a) (s.contains a) := by
  unfold spec_l1Has.f
  have key : ∀ i, i ≤ s.length → Ev (fun k => spec_l1Has.l0 k s a (i : Int)) ((s.drop i).contains a) := by
    refine down s.length ?_ (fun i hi ih => ?_)
    · rw [List.drop_length]
      exact Ev.step (f := fun _ => some false) (fun k => by simp only [spec_l1Has.l0]; rw [if_neg (by omega)]) (Ev.now _)
    · rw [drop_getD s i hi 0]
      have hx : rd s (i : Int) = s.getD i 0 := rfl
      generalize s.getD i 0 = x at hx ⊢
      by_cases c : x = a
      · have : (x :: s.drop (i + 1)).contains a = true := by simp [c]
        rw [this]
        refine Ev.step (f := fun _ => some true) (fun k => ?_) (Ev.now _)
        simp only [spec_l1Has.l0]
        rw [if_pos (by omega), if_pos (by omega), hx, if_pos c]
      · have : (x :: s.drop (i + 1)).contains a = (s.drop (i + 1)).contains a := by
          rw [Bool.eq_iff_iff]; simp [Ne.symm c]
        rw [this]
        refine Ev.step (fun k => ?_) ih
        simp only [spec_l1Has.l0]
        rw [if_pos (by omega), if_pos (by omega), hx, if_neg c, w64s (by omega)]
  exact key 0 (Nat.zero_le _)
theorem specLab_loop (s : List Int) (hs : s.length ≤ 1048576) (h n : Nat) (hh : h < 2 ^ 62) (hn : n ≤ 10) (l : List IA) : ∀ i, i ≤ n → Ev (fun k => spec_LabelArguments.l0 k s (labs s h i) (h : Int) (i : Int) (n : Int) l) (labs s h n, true) := by
  refine down n ?_ (fun i hi ih => ?_)
  · exact Ev.step (f := fun _ => some (labs s h n, true)) (fun k => by simp only [spec_LabelArguments.l0]; rw [if_neg (by omega)]) (Ev.now _)
  · refine Ev.step (f := fun k => (spec_l1Has.f k s (i : Int)).bind fun t => if t = true then (if (labs s h i).length < 17592186044416 then (spec_LabelArguments.l0 k s (labs s h i ++ [1]) (h : Int) ((i + 1 : Nat) : Int) (n : Int) l) else none) else (if h.testBit i = true then (spec_LabelArguments.l0 k s (labs s h i ++ [2]) (h : Int) ((i + 1 : Nat) : Int) (n : Int) l) else (spec_LabelArguments.l0 k s (labs s h i ++ [3]) (h : Int) ((i + 1 : Nat) : Int) (n : Int) l))) (fun k => ?_) ?_
    · simp only [spec_LabelArguments.l0]
      rw [if_pos (by omega), wrap_u64_small _ (by omega) (by omega), b_one hh (by omega), w64s (by omega)]
      simp only [if_pos (show (0 : Int) ≤ (i : Int) by omega), if_pos (show (labs s h i).length < 17592186044416 by rw [labs_length]; omega)]
      cases h.testBit i <;> rfl
    · refine Ev.bind (has_ev s _ hs) ?_
      rw [labs_succ, lab] at ih
      cases hc : s.contains (i : Int) with
      | true =>
        rw [hc] at ih
        simp only [if_true, if_pos (show (labs s h i).length < 17592186044416 by rw [labs_length]; omega)] at ih ⊢
        exact ih
      | false =>
        rw [hc] at ih
        cases hb : h.testBit i with
        | true => rw [hb] at ih; simpa using ih
        | false => rw [hb] at ih; simpa using ih
theorem implLab_loop (s : List Int) (h n : Nat) (m : Nat) (hm : m < 2 ^ 62) (hb : ∀ i : Nat, m.testBit i = s.contains (i : Int)) (hh : h < 2 ^ 62) (hn : n ≤ 10) : ∀ i, i ≤ n → Ev (fun k => impl_LabelArguments.l0 k (m : Int) (labs s h i) (h : Int) (n : Int) (i : Int)) (labs s h n, true) := by
  refine down n ?_ (fun i hi ih => ?_)
  · exact Ev.step (f := fun _ => some (labs s h n, true)) (fun k => by simp only [impl_LabelArguments.l0]; rw [if_neg (by omega)]) (Ev.now _)
  · refine Ev.step (fun k => ?_) ih
    simp only [impl_LabelArguments.l0]
    rw [if_pos (by omega), if_pos (by omega), b_one hm (by omega), b_one hh (by omega), w64s (by omega), hb i, labs_succ, lab]
    simp only [if_pos (show (labs s h i).length < 17592186044416 by rw [labs_length]; omega)]
    cases s.contains (i : Int) <;> cases h.testBit i <;> rfl
def answer (n : Int) (l : List IA) (s : List Int) : List Int × Bool := if setOk n l s = true then (if free l (mask s) = true then (labs s (att l (mask s)) n.toNat, true) else ([], false)) else ([], false)
theorem answer_len (n : Int) (l : List IA) (s : List Int) : (answer n l s).1.length ≤ 10 := by
  unfold answer
  split
  · rename_i h
    have := good_n (setOk_good h)
    split
    · show (labs s _ n.toNat).length ≤ 10
      rw [labs_length]; omega
    · simp
  · simp
theorem specL_ev (n : Int) (l : List IA) (s : List Int) (hl : l.length ≤ 1048576) (hs : s.length ≤ 1048576) : Ev (fun k => spec_LabelArguments.f k n l s) (answer n l s) := by
  unfold spec_LabelArguments.f answer
  simp only [Option.bind_some]
  refine Ev.bind (specSet_ev n l s hl hs) ?_
  cases h : setOk n l s with
  | false => exact Ev.step (f := fun _ => some ([], false)) (fun k => by simp only [spec_LabelArguments.j0]; rfl) (Ev.now _)
  | true =>
    have hg := setOk_good h
    have hn := good_n hg
    have hm := small62 (mask_lt (set_mem h))
    simp only [if_true]
    refine Ev.bind (specMask_ev s hs (set_mem h)) (Ev.bind (specFree_ev n l hl hg _ hm) ?_)
    cases free l (mask s) with
    | false => exact Ev.step (f := fun _ => some ([], false)) (fun k => by simp only [spec_LabelArguments.j0]; rfl) (Ev.now _)
    | true =>
      refine Ev.step (fun k => by simp only [spec_LabelArguments.j0]; rfl) ?_
      simp only [Bool.not_true, Bool.false_eq_true, if_false, if_true]
      refine Ev.bind (specMask_ev s hs (set_mem h)) (Ev.bind (specAtt_ev n l hl hg _ hm) ?_)
      obtain ⟨n, rfl⟩ := Int.eq_ofNat_of_zero_le hn.1
      rw [Int.toNat_natCast]
      exact specLab_loop s hs _ n (small62 (att_lt hg _)) (by omega) l 0 (Nat.zero_le _)
theorem implL_ev (n : Int) (l : List IA) (s : List Int) (hl : l.length ≤ 1048576) (hs : s.length ≤ 1048576) : Ev (fun k => impl_LabelArguments.f k n l s) (answer n l s) := by
  unfold impl_LabelArguments.f answer
  refine Ev.bind (numberOf_ev n l s hl hs) ?_
  unfold numOf
  cases h : setOk n l s with
  | false => exact Ev.step (f := fun _ => some ([], false)) (fun k => by simp only [impl_LabelArguments.j0]; rfl) (Ev.now _)
  | true =>
    have hg := setOk_good h
    have hn := good_n hg
    have hm := small62 (mask_lt (set_mem h))
    simp only [if_true]
    refine Ev.bind (implFree_ev n l hl hg _ hm) ?_
    cases free l (mask s) with
    | false => exact Ev.step (f := fun _ => some ([], false)) (fun k => by simp only [impl_LabelArguments.j0]; rfl) (Ev.now _)
    | true =>
      refine Ev.step (fun k => by simp only [impl_LabelArguments.j0]; rfl) ?_
      simp only [Bool.not_true, Bool.false_eq_true, if_false, if_true]
      refine Ev.bind (implAtt_ev n l hl hg _ hm) ?_
      obtain ⟨n, rfl⟩ := Int.eq_ofNat_of_zero_le hn.1
      rw [Int.toNat_natCast]
      refine implLab_loop s _ n _ hm (fun i => ?_) (small62 (att_lt hg _)) (by omega) 0 (Nat.zero_le _)
      rw [mask_bit, Bool.eq_iff_iff, List.any_eq_true, List.contains_iff_mem]
      constructor
      · rintro ⟨a, ha, hd⟩
        have := set_mem h a ha
        have := of_decide_eq_true hd
        have e : a = (i : Int) := by omega
        rw [← e]; exact ha
      · intro ha
        exact ⟨_, ha, by simp⟩
theorem whole (n : Int) (l : List LA) (s : List Int) (hl : l.length ≤ maxLen) : Ev (fun k => laws_FnExactLabelArguments.f k n l s) true := by
  unfold laws_FnExactLabelArguments.f
  by_cases hs : (s.length : Int) > 1048576
  · simp only [if_pos hs]
    exact Ev.now _
  simp only [if_neg hs]
  rw [sz_ev n l hl]
  by_cases h : l.length ≤ 1048576
  · simp only [if_pos h, Option.bind_some, if_neg (show ¬ (1048576 - (l.length : Int) < 0) by omega)]
    have hc := conv_length l
    have ha := answer_len n (conv l) s
    have hS := specL_ev n (conv l) s (by omega) (by omega)
    have hI := implL_ev n (conv l) s (by omega) (by omega)
    generalize answer n (conv l) s = r at ha hS hI
    obtain ⟨r, b⟩ := r
    dsimp only at ha
    refine Ev.bind (toF_ev n l h) (Ev.bind (toI_ev s (by omega)) (Ev.bind hS (Ev.bind (toF_ev n l h) (Ev.bind (toI_ev s (by omega)) (Ev.bind hI (Ev.bind (eqI_ev r (by omega)) ?_))))))
    simp only [if_true, bne_self_eq_false]
    refine Ev.step (fun k => by simp only [laws_FnExactLabelArguments.j0]; rfl) ?_
    simp only [Bool.false_eq_true, if_false]
    refine Ev.bind (toF_ev n l h) (Ev.bind (eqF_ev n (conv l) (by omega)) ?_)
    simp only [if_true]
    refine Ev.bind (toI_ev s (by omega)) (Ev.bind (eqI_ev s (by omega)) ?_)
    simp only [if_true]
    obtain ⟨l', hm⟩ := markF_ev n (conv l) (by omega)
    refine Ev.bind hm (Ev.bind (markI_ev s _ (by omega) (by omega) (by omega)) ?_)
    simp only [if_neg (show ¬ (1 + 2 * ((conv l).length : Int) + (s.length : Int) < 0) by omega)]
    refine Ev.bind (eqI_ev r (by omega)) ?_
    simp only [if_true, bne_self_eq_false]
    refine Ev.step (fun k => by simp only [laws_FnExactLabelArguments.j1]; rfl) ?_
    simp only [Bool.false_eq_true, if_false]
    refine Ev.bind (markI_ev r 1 (by omega) (by omega) (by omega)) (Ev.bind (heldI_ev r.length 1 (by omega) (by omega) (by omega)) ?_)
    simp only [if_neg (show ¬ (1 + (r.length : Int) < 0) by omega), if_true]
    refine Ev.bind (toF_ev n l h) (Ev.bind (toI_ev s (by omega)) (Ev.bind hI (Ev.bind (eqI_ev r (by omega)) ?_)))
    simp only [if_true, bne_self_eq_false]
    refine Ev.step (fun k => by simp only [laws_FnExactLabelArguments.j2]; rfl) ?_
    simp only [Bool.false_eq_true, if_false]
    refine Ev.bind (heldI_ev r.length 1 (by omega) (by omega) (by omega)) ?_
    simp only [if_neg (show ¬ (1 + (r.length : Int) < 0) by omega), if_true]
    exact Ev.now _
  · simp only [if_neg h, Option.bind_some]
    exact Ev.now _
end Go.Proofs.Ytfhbnmlmobpjgaa.PureFnExactLabelArguments
namespace Go.Proofs.Ytfhbnmlmobpjgaa.Pure
theorem FnExactLabelArguments : PFnExactLabelArguments.laws_FnExactLabelArguments.Ask := fun x s hx _ => (PureFnExactLabelArguments.whole x.f0 x.f1 s hx.2.1).rounds
end Go.Proofs.Ytfhbnmlmobpjgaa.Pure
