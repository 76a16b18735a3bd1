/-
The plain law behind FnAdmissible: the printed functions of the program and of the reference give the same values, so the law answers true. No condition.
-/
import Derived.Test.YtfhbnmlmobpjgaaVAskFnAdmissible
import Derived.Test.YtfhbnmlmobpjgaaVBase
import Derived.Test.YtfhbnmlmobpjgaaVBits
namespace Go.Proofs.Ytfhbnmlmobpjgaa.PureFnAdmissible
open Go.RowKit Go.Proofs.Ytfhbnmlmobpjgaa.PFnAdmissible Go.Proofs.YtfhbnmlmobpjgaaOpen Go.Proofs.YtfhbnmlmobpjgaaBase Go.Proofs.YtfhbnmlmobpjgaaBits Go.Proofs.YtfhbnmlmobpjgaaW.PrintWords Go.Proofs.YtfhbnmlmobpjgaaW.PrintLast Go.Proofs.YtfhbnmlmobpjgaaW.PrintMore

theorem within_eq (x a b : Int) : impl_within.f x a b = some (decide (a ≤ x) && decide (x ≤ b)) := by
  unfold impl_within.f
  by_cases h : x ≥ a
  · rw [if_pos h]; simp [h]
  · rw [if_neg h]; simp [h]

theorem l1In_eq (x a b : Int) : spec_l1In.f x a b = some (decide (a ≤ x) && decide (x ≤ b)) := by
  unfold spec_l1In.f
  by_cases h : x ≥ a
  · rw [if_pos h]; simp [h]
  · rw [if_neg h]; simp [h]

/-! frameworks: what is valid -/
abbrev IA := S65
def inR (n : Int) (x : IA) : Bool := decide (0 ≤ x.f0) && decide (x.f0 ≤ n - 1) && decide (0 ≤ x.f1) && decide (x.f1 ≤ n - 1)
def lt2 (a b : IA) : Bool := decide (a.f0 < b.f0) || (decide (a.f0 = b.f0) && decide (a.f1 < b.f1))
/-- From place i on: each in range, each behind the one ahead of it. -/
def goodAt (n : Int) (l : List IA) (i : Nat) : Bool := inR n (l.getD i z65) && (i == 0 || lt2 (l.getD (i - 1) z65) (l.getD i z65))
def good (n : Int) (l : List IA) : Bool := decide (0 ≤ n) && decide (n ≤ 10) && (List.range l.length).all (goodAt n l)
theorem good_iff {n : Int} {l : List IA} : good n l = true ↔ (0 ≤ n ∧ n ≤ 10) ∧ ∀ i, i < l.length → goodAt n l i = true := by
  simp [good, List.all_eq_true]
theorem inR_iff {n : Int} {x : IA} : inR n x = true ↔ 0 ≤ x.f0 ∧ x.f0 ≤ n - 1 ∧ 0 ≤ x.f1 ∧ x.f1 ≤ n - 1 := by simp [inR, and_assoc]

def restGood (n : Int) (l : List IA) (i : Nat) : Bool := (List.range' i (l.length - i)).all (goodAt n l)
theorem restGood_end (n : Int) (l : List IA) : restGood n l l.length = true := by simp [restGood]
theorem restGood_step (n : Int) (l : List IA) {i : Nat} (h : i < l.length) : restGood n l i = (goodAt n l i && restGood n l (i + 1)) := by
  unfold restGood
  rw [show l.length - i = (l.length - (i + 1)) + 1 by omega, List.range'_succ, List.all_cons]
theorem restGood_all (n : Int) (l : List IA) : restGood n l 0 = (List.range l.length).all (goodAt n l) := by
  unfold restGood
  rw [Nat.sub_zero, List.range_eq_range']

theorem rdA (l : List IA) (i : Nat) : rd_T65 l (i : Int) = l.getD i z65 := rfl

/-- What a round asks of element x behind element y: first is whether there is none ahead. -/
def ask (n : Int) (first : Bool) (y x : IA) : Bool := inR n x && (first || lt2 y x)
theorem goodAt_ask (n : Int) (l : List IA) (i : Nat) : goodAt n l i = ask n (i == 0) (l.getD (i - 1) z65) (l.getD i z65) := rfl
theorem inR_and (n : Int) (x : IA) : inR n x = ((decide (0 ≤ x.f0) && decide (x.f0 ≤ n - 1)) && (decide (0 ≤ x.f1) && decide (x.f1 ≤ n - 1))) := by simp only [inR, Bool.and_assoc]

theorem impl_j (n : Int) (l : List IA) (i : Nat) (hi : i < l.length) (hl : l.length ≤ 1048576) (b : Bool) (R : Bool) (ih : Ev (fun k => impl_IsValidFramework.l0 k l (l.length : Int) ((i + 1 : Nat) : Int) n l) R) (x : IA) :
    Ev (fun k => impl_IsValidFramework.j1 k (i : Int) l (l.length : Int) (i : Int) (!b) n l x.f0 x.f1) (b && ((i == 0) || lt2 (l.getD (i - 1) z65) x) && R) := by
  cases b with
  | false => exact Ev.step (f := fun _ => some false) (fun k => by simp only [impl_IsValidFramework.j1]; rfl) (Ev.now _)
  | true =>
    by_cases hz : i = 0
    · subst hz
      refine Ev.step (f := fun k => impl_IsValidFramework.l0 k l (l.length : Int) ((0 + 1 : Nat) : Int) n l) (fun k => ?_) ?_
      · simp only [impl_IsValidFramework.j1]; rw [if_neg (by simp), if_neg (by omega), w64s (by omega)]
      · simpa using ih
    · have hb : (i == 0) = false := by simpa using hz
      rw [hb]
      refine Ev.step (f := fun k => if lt2 (l.getD (i - 1) z65) x = true then impl_IsValidFramework.l0 k l (l.length : Int) ((i + 1 : Nat) : Int) n l else some false) (fun k => ?_) ?_
      · simp only [impl_IsValidFramework.j1]
        rw [if_neg (by simp), if_pos (by omega), w64p (by omega) (by omega), if_pos (by omega), if_pos (by omega), rdA, w64s (by omega)]
        generalize l.getD (i - 1) z65 = y
        simp only [lt2, Bool.or_eq_true, Bool.and_eq_true, decide_eq_true_eq]
        by_cases c1 : x.f0 < y.f0
        · rw [if_pos c1, if_neg (by omega)]
        · rw [if_neg c1]
          by_cases c2 : x.f0 = y.f0
          · rw [if_pos c2]
            by_cases c3 : x.f1 ≤ y.f1
            · rw [if_pos c3, if_neg (by omega)]
            · rw [if_neg c3, if_pos (by omega)]
          · rw [if_neg c2, if_pos (by omega)]
      · cases lt2 (l.getD (i - 1) z65) x with
        | true => simpa using ih
        | false => exact Ev.now _
theorem impl_loop (n : Int) (l : List IA) (hl : l.length ≤ 1048576) (h0 : 0 ≤ n) (h1 : n ≤ 10) : ∀ i, i ≤ l.length → Ev (fun k => impl_IsValidFramework.l0 k l (l.length : Int) (i : Int) n l) (restGood n l i) := by
  refine down l.length ?_ (fun i hi ih => ?_)
  · refine Ev.step (f := fun _ => some true) (fun k => by simp only [impl_IsValidFramework.l0]; rw [if_neg (by omega)]) ?_
    rw [restGood_end]
    exact Ev.now _
  · rw [restGood_step n l hi, goodAt_ask]
    have e := impl_j n l i hi hl (inR n (l.getD i z65)) _ ih (l.getD i z65)
    refine Ev.step (fun k => ?_) e
    simp only [impl_IsValidFramework.l0]
    rw [if_pos (by omega), if_pos (by omega), if_pos (by omega), rdA, within_eq, within_eq, w64 (by omega) (by omega)]
    simp only [Option.bind_some]
    generalize l.getD i z65 = x
    rw [inR_and]
    cases (decide (0 ≤ x.f0) && decide (x.f0 ≤ n - 1)) <;> simp
theorem good_eq (n : Int) (l : List IA) : good n l = (decide (0 ≤ n) && decide (n ≤ 10) && restGood n l 0) := by rw [restGood_all]; rfl
theorem impl_ev (n : Int) (l : List IA) (hl : l.length ≤ 1048576) : Ev (fun k => impl_IsValidFramework.f k n l) (good n l) := by
  unfold impl_IsValidFramework.f
  rw [within_eq, good_eq]
  simp only [Option.bind_some]
  by_cases c : 0 ≤ n ∧ n ≤ 10
  · have : (decide (0 ≤ n) && decide (n ≤ 10)) = true := by simpa using c
    simp only [this, if_true, Bool.true_and]
    exact impl_loop n l hl c.1 c.2 0 (Nat.zero_le _)
  · have : (decide (0 ≤ n) && decide (n ≤ 10)) = false := by simpa using c
    simp only [this, Bool.false_and]
    exact Ev.now _

theorem spec_j (n : Int) (l : List IA) (i : Nat) (hi : i < l.length) (hl : l.length ≤ 1048576) (h0 : 0 ≤ n) (h1 : n ≤ 10) (b : Bool) (R : Bool) (ih : b = true → Ev (fun k => spec_l22Good.l0 k ((i + 1 : Nat) : Int) n l) R) (x : IA) (hx : b = true → inR n x = true) (hy : 0 < i → inR n (l.getD (i - 1) z65) = true) :
    Ev (fun k => spec_l22Good.j1 k (i : Int) (!b) n l x.f0 x.f1) (b && ((i == 0) || lt2 (l.getD (i - 1) z65) x) && R) := by
  cases b with
  | false => exact Ev.step (f := fun _ => some false) (fun k => by simp only [spec_l22Good.j1]; rfl) (Ev.now _)
  | true =>
    have ih := ih rfl
    have hx := inR_iff.1 (hx rfl)
    by_cases hz : i = 0
    · subst hz
      refine Ev.step (f := fun k => spec_l22Good.l0 k ((0 + 1 : Nat) : Int) n l) (fun k => ?_) ?_
      · simp only [spec_l22Good.j1]; rw [if_neg (by simp), if_neg (by omega), w64s (by omega)]
      · simpa using ih
    · have hb : (i == 0) = false := by simpa using hz
      have hy := inR_iff.1 (hy (by omega))
      rw [hb]
      refine Ev.step (f := fun k => if lt2 (l.getD (i - 1) z65) x = true then spec_l22Good.l0 k ((i + 1 : Nat) : Int) n l else some false) (fun k => ?_) ?_
      · simp only [spec_l22Good.j1]
        rw [if_neg (by simp), if_pos (by omega), w64p (by omega) (by omega), if_pos (by omega), if_pos (by omega), rdA, w64s (by omega)]
        generalize l.getD (i - 1) z65 = y at hy ⊢
        have e1 : wrap64 (wrap64 (y.f0 * n) + y.f1) = y.f0 * n + y.f1 := by
          have : 0 ≤ y.f0 * n := Int.mul_nonneg hy.1 h0
          have : y.f0 * n ≤ 10 * 10 := Int.mul_le_mul (by omega) (by omega) h0 (by omega)
          rw [w64 (x := y.f0 * n) (by omega) (by omega), w64 (by omega) (by omega)]
        have e2 : wrap64 (wrap64 (x.f0 * n) + x.f1) = x.f0 * n + x.f1 := by
          have : 0 ≤ x.f0 * n := Int.mul_nonneg hx.1 h0
          have : x.f0 * n ≤ 10 * 10 := Int.mul_le_mul (by omega) (by omega) h0 (by omega)
          rw [w64 (x := x.f0 * n) (by omega) (by omega), w64 (by omega) (by omega)]
        rw [e1, e2]
        simp only [lt2, Bool.or_eq_true, Bool.and_eq_true, decide_eq_true_eq]
        by_cases c1 : y.f0 < x.f0
        · have : (y.f0 + 1) * n ≤ x.f0 * n := Int.mul_le_mul_of_nonneg_right (by omega) h0
          rw [Int.add_mul, Int.one_mul] at this
          rw [if_neg (by omega), if_pos (by omega)]
        · by_cases c2 : y.f0 = x.f0
          · rw [c2]
            by_cases c3 : y.f1 < x.f1
            · rw [if_neg (by omega), if_pos (by omega)]
            · rw [if_pos (by omega), if_neg (by omega)]
          · have : (x.f0 + 1) * n ≤ y.f0 * n := Int.mul_le_mul_of_nonneg_right (by omega) h0
            rw [Int.add_mul, Int.one_mul] at this
            rw [if_pos (by omega), if_neg (by omega)]
      · cases lt2 (l.getD (i - 1) z65) x with
        | true => simpa using ih
        | false => exact Ev.now _
theorem spec_loop (n : Int) (l : List IA) (hl : l.length ≤ 1048576) (h0 : 0 ≤ n) (h1 : n ≤ 10) : ∀ i, i ≤ l.length → (0 < i → inR n (l.getD (i - 1) z65) = true) → Ev (fun k => spec_l22Good.l0 k (i : Int) n l) (restGood n l i) := by
  refine down l.length ?_ (fun i hi ih => ?_)
  · intro _
    refine Ev.step (f := fun _ => some true) (fun k => by simp only [spec_l22Good.l0]; rw [if_neg (by omega)]) ?_
    rw [restGood_end]
    exact Ev.now _
  · intro hy
    rw [restGood_step n l hi, goodAt_ask]
    have e := spec_j n l i hi hl h0 h1 (inR n (l.getD i z65)) (restGood n l (i + 1)) (fun hb => ih (fun _ => hb)) (l.getD i z65) (fun h => h) hy
    refine Ev.step (fun k => ?_) e
    simp only [spec_l22Good.l0]
    rw [if_pos (by omega), if_pos (by omega), rdA, l1In_eq, l1In_eq, w64 (by omega) (by omega)]
    simp only [Option.bind_some]
    generalize l.getD i z65 = x
    rw [inR_and]
    cases (decide (0 ≤ x.f0) && decide (x.f0 ≤ n - 1)) <;> simp
theorem spec_ev (n : Int) (l : List IA) (hl : l.length ≤ 1048576) : Ev (fun k => spec_l22Good.f k n l) (good n l) := by
  unfold spec_l22Good.f
  rw [l1In_eq, good_eq]
  simp only [Option.bind_some]
  by_cases c : 0 ≤ n ∧ n ≤ 10
  · have : (decide (0 ≤ n) && decide (n ≤ 10)) = true := by simpa using c
    simp only [this, if_true, Bool.true_and]
    exact spec_loop n l hl c.1 c.2 0 (Nat.zero_le _) (fun h => absurd h (Nat.lt_irrefl 0))
  · have : (decide (0 ≤ n) && decide (n ≤ 10)) = false := by simpa using c
    simp only [this, Bool.false_and]
    exact Ev.now _
theorem good_n {n : Int} {l : List IA} (h : good n l = true) : 0 ≤ n ∧ n ≤ 10 := by
  rw [good_iff] at h
  exact h.1
theorem good_mem {n : Int} {l : List IA} (h : good n l = true) : ∀ x ∈ l, inR n x = true := by
  intro x hx
  obtain ⟨i, hi, rfl⟩ := List.getElem_of_mem hx
  have := (good_iff.1 h).2 i hi
  simp only [goodAt, Bool.and_eq_true] at this
  rw [List.getD_eq_getElem?_getD, List.getElem?_eq_getElem hi] at this
  exact this.1

/-! rising lists -/
def riseAt (lo hi : Int) (s : List Int) (i : Nat) : Bool := (decide (lo ≤ s.getD i 0) && decide (s.getD i 0 ≤ hi)) && (i == 0 || decide (s.getD (i - 1) 0 < s.getD i 0))
def restRise (lo hi : Int) (s : List Int) (i : Nat) : Bool := (List.range' i (s.length - i)).all (riseAt lo hi s)
def rise (lo hi : Int) (s : List Int) : Bool := restRise lo hi s 0
theorem restRise_end (lo hi : Int) (s : List Int) : restRise lo hi s s.length = true := by simp [restRise]
theorem restRise_step (lo hi : Int) (s : List Int) {i : Nat} (h : i < s.length) : restRise lo hi s i = (riseAt lo hi s i && restRise lo hi s (i + 1)) := by
  unfold restRise
  rw [show s.length - i = (s.length - (i + 1)) + 1 by omega, List.range'_succ, List.all_cons]
theorem rise_at {lo hi : Int} {s : List Int} (h : rise lo hi s = true) (i : Nat) (hi' : i < s.length) : riseAt lo hi s i = true := by
  unfold rise restRise at h
  rw [List.all_eq_true] at h
  exact h i (by rw [List.mem_range']; exact ⟨i, by omega, by omega⟩)
theorem rise_mem {lo hi : Int} {s : List Int} (h : rise lo hi s = true) : ∀ a ∈ s, lo ≤ a ∧ a ≤ hi := by
  intro a ha
  obtain ⟨i, hi', rfl⟩ := List.getElem_of_mem ha
  have := rise_at h i hi'
  simp only [riseAt, Bool.and_eq_true, decide_eq_true_eq] at this
  rw [List.getD_eq_getElem?_getD, List.getElem?_eq_getElem hi'] at this
  exact this.1
theorem rise_ge {hi : Int} {s : List Int} (h : rise 0 hi s = true) : ∀ i, i < s.length → (i : Int) ≤ s.getD i 0 := by
  intro i
  induction i with
  | zero =>
    intro hi'
    have := rise_at h 0 hi'
    simp only [riseAt, Bool.and_eq_true, decide_eq_true_eq] at this
    omega
  | succ i ih =>
    intro hi'
    have h1 := ih (by omega)
    have := rise_at h (i + 1) hi'
    simp only [riseAt, Bool.and_eq_true, decide_eq_true_eq, Nat.add_sub_cancel, Bool.or_eq_true, beq_iff_eq] at this
    omega
theorem rise_len {hi : Int} {s : List Int} (h : rise 0 hi s = true) : s = [] ∨ (s.length : Int) ≤ hi + 1 := by
  rcases Nat.eq_zero_or_pos s.length with h0 | h0
  · exact .inl (List.eq_nil_of_length_eq_zero h0)
  · right
    have h1 := rise_ge h (s.length - 1) (by omega)
    have := rise_at h (s.length - 1) (by omega)
    simp only [riseAt, Bool.and_eq_true, decide_eq_true_eq] at this
    omega

theorem specRise_loop (lo hi : Int) (s : List Int) (hs : s.length ≤ 1048576) : ∀ i, i ≤ s.length → Ev (fun k => spec_l1Rising.l0 k s lo hi (i : Int)) (restRise lo hi s i) := by
  refine down s.length ?_ (fun i hi' ih => ?_)
  · rw [restRise_end]
    exact Ev.step (f := fun _ => some true) (fun k => by simp only [spec_l1Rising.l0]; rw [if_neg (by omega)]) (Ev.now _)
  · rw [restRise_step lo hi s hi', riseAt]
    have hx : rd s (i : Int) = s.getD i 0 := rfl
    have hy : rd s ((i - 1 : Nat) : Int) = s.getD (i - 1) 0 := rfl
    generalize s.getD i 0 = x at hx ⊢
    generalize s.getD (i - 1) 0 = y at hy ⊢
    cases c : (decide (lo ≤ x) && decide (x ≤ hi)) with
    | false =>
      refine Ev.step (f := fun _ => some false) (fun k => ?_) (Ev.now _)
      simp only [spec_l1Rising.l0]
      rw [if_pos (by omega), if_pos (by omega), hx, l1In_eq, c]
      rfl
    | true =>
      by_cases hz : i = 0
      · subst hz
        refine Ev.step (f := fun k => spec_l1Rising.l0 k s lo hi ((0 + 1 : Nat) : Int)) (fun k => ?_) (by simpa using ih)
        simp only [spec_l1Rising.l0]
        rw [if_pos (by omega), if_pos (by omega), hx, l1In_eq, c, Option.bind_some, if_pos rfl, if_neg (by omega), w64s (by omega)]
      · have hb : (i == 0) = false := by simpa using hz
        rw [hb]
        by_cases c2 : y ≥ x
        · have : decide (y < x) = false := by simpa using c2
          rw [this]
          refine Ev.step (f := fun _ => some false) (fun k => ?_) (Ev.now _)
          simp only [spec_l1Rising.l0]
          rw [if_pos (by omega), if_pos (by omega), hx, l1In_eq, c, Option.bind_some, if_pos rfl, if_pos (by omega), w64p (by omega) (by omega), if_pos (by omega), if_pos (by omega), hy, if_pos c2]
        · have : decide (y < x) = true := by simpa using c2
          rw [this]
          refine Ev.step (f := fun k => spec_l1Rising.l0 k s lo hi ((i + 1 : Nat) : Int)) (fun k => ?_) (by simpa using ih)
          simp only [spec_l1Rising.l0]
          rw [if_pos (by omega), if_pos (by omega), hx, l1In_eq, c, Option.bind_some, if_pos rfl, if_pos (by omega), w64p (by omega) (by omega), if_pos (by omega), if_pos (by omega), hy, if_neg c2, w64s (by omega)]
theorem specRise_ev (lo hi : Int) (s : List Int) (hs : s.length ≤ 1048576) : Ev (fun k => spec_l1Rising.f k s lo hi) (rise lo hi s) := specRise_loop lo hi s hs 0 (Nat.zero_le _)

theorem implRise_loop (lo hi most : Int) (s : List Int) (hs : s.length ≤ 1048576) : ∀ i, i ≤ s.length → Ev (fun k => impl_isRising.l0 k s lo hi most s (s.length : Int) (i : Int)) (restRise lo hi s i && decide ((s.length : Int) ≤ most)) := by
  refine down s.length ?_ (fun i hi' ih => ?_)
  · rw [restRise_end]
    exact Ev.step (f := fun _ => some (decide ((s.length : Int) ≤ most))) (fun k => by simp only [impl_isRising.l0]; rw [if_neg (by omega)]) (by rw [Bool.true_and]; exact Ev.now _)
  · rw [restRise_step lo hi s hi', riseAt]
    have hx : rd s (i : Int) = s.getD i 0 := rfl
    have hy : rd s ((i - 1 : Nat) : Int) = s.getD (i - 1) 0 := rfl
    generalize s.getD i 0 = x at hx ⊢
    generalize s.getD (i - 1) 0 = y at hy ⊢
    cases c : (decide (lo ≤ x) && decide (x ≤ hi)) with
    | false =>
      refine Ev.step (f := fun _ => some false) (fun k => ?_) (Ev.now _)
      simp only [impl_isRising.l0]
      rw [if_pos (by omega), if_pos (by omega), if_pos (by omega), hx, within_eq, c]
      rfl
    | true =>
      by_cases hz : i = 0
      · subst hz
        refine Ev.step (f := fun k => impl_isRising.l0 k s lo hi most s (s.length : Int) ((0 + 1 : Nat) : Int)) (fun k => ?_) (by simpa using ih)
        simp only [impl_isRising.l0]
        rw [if_pos (by omega), if_pos (by omega), if_pos (by omega), hx, within_eq, c, Option.bind_some, if_pos rfl, if_neg (by omega), w64s (by omega)]
      · have hb : (i == 0) = false := by simpa using hz
        rw [hb]
        by_cases c2 : x ≤ y
        · have : decide (y < x) = false := by simpa using c2
          rw [this]
          refine Ev.step (f := fun _ => some false) (fun k => ?_) (Ev.now _)
          simp only [impl_isRising.l0]
          rw [if_pos (by omega), if_pos (by omega), if_pos (by omega), hx, within_eq, c, Option.bind_some, if_pos rfl, if_pos (by omega), w64p (by omega) (by omega), if_pos (by omega), if_pos (by omega), hy, if_pos c2]
        · have : decide (y < x) = true := by simp; omega
          rw [this]
          refine Ev.step (f := fun k => impl_isRising.l0 k s lo hi most s (s.length : Int) ((i + 1 : Nat) : Int)) (fun k => ?_) (by simpa using ih)
          simp only [impl_isRising.l0]
          rw [if_pos (by omega), if_pos (by omega), if_pos (by omega), hx, within_eq, c, Option.bind_some, if_pos rfl, if_pos (by omega), w64p (by omega) (by omega), if_pos (by omega), if_pos (by omega), hy, if_neg c2, w64s (by omega)]
theorem implRise_ev (lo hi most : Int) (s : List Int) (hs : s.length ≤ 1048576) : Ev (fun k => impl_isRising.f k s lo hi most) (rise lo hi s && decide ((s.length : Int) ≤ most)) := implRise_loop lo hi most s hs 0 (Nat.zero_le _)


/-- A valid framework and a valid set of its arguments. -/
def setOk (n : Int) (l : List IA) (s : List Int) : Bool := good n l && rise 0 (n - 1) s
theorem set_len {n : Int} (h0 : 0 ≤ n) {s : List Int} (h : rise 0 (n - 1) s = true) : (s.length : Int) ≤ n := by
  rcases rise_len h with rfl | h
  · exact h0
  · omega
theorem specSet_ev (n : Int) (l : List IA) (s : List Int) (hl : l.length ≤ 1048576) (hs : s.length ≤ 1048576) : Ev (fun k => spec_l22Set.f k n l s) (setOk n l s) := by
  unfold spec_l22Set.f setOk
  refine Ev.bind (spec_ev n l hl) ?_
  cases hg : good n l with
  | false => exact Ev.now _
  | true =>
    have hn := good_n hg
    rw [w64 (by omega) (by omega)]
    simp only [if_true, Bool.true_and]
    by_cases c : (s.length : Int) ≤ n
    · simp only [if_pos c]
      exact Ev.bind (specRise_ev 0 (n - 1) s hs) (Ev.now _)
    · simp only [if_neg c]
      have : rise 0 (n - 1) s = false := by
        cases hr : rise 0 (n - 1) s with
        | false => rfl
        | true => exact absurd (set_len hn.1 hr) c
      rw [this]
      exact Ev.now _

def maskFrom (m : Nat) (s : List Int) : Nat := s.foldl (fun m a => m ||| 2 ^ a.toNat) m
def mask (s : List Int) : Nat := maskFrom 0 s
theorem maskFrom_bit (s : List Int) : ∀ (m j : Nat), (maskFrom m s).testBit j = (m.testBit j || s.any (fun a => decide (a.toNat = j))) := by
  induction s with
  | nil => intro m j; simp [maskFrom]
  | cons a s ih =>
    intro m j
    show (maskFrom (m ||| 2 ^ a.toNat) s).testBit j = _
    rw [ih, bit_or_pow, List.any_cons, Bool.or_assoc]
theorem mask_bit (s : List Int) (j : Nat) : (mask s).testBit j = s.any (fun a => decide (a.toNat = j)) := by
  rw [mask, maskFrom_bit, Nat.zero_testBit, Bool.false_or]
theorem mask_lt {s : List Int} (h : ∀ a ∈ s, 0 ≤ a ∧ a ≤ 9) : mask s < 2 ^ 10 := lt_of_bits (fun i hi => by
  rw [mask_bit, List.any_eq_true] at hi
  obtain ⟨a, ha, hd⟩ := hi
  have := h a ha
  have := of_decide_eq_true hd
  omega)
theorem specMask_loop (s : List Int) (hl : s.length ≤ 1048576) (h : ∀ a ∈ s, 0 ≤ a ∧ a ≤ 9) : ∀ i, i ≤ s.length → ∀ m : Nat, m < 2 ^ 62 → Ev (fun k => spec_l22Mask.l0 k s (m : Int) (i : Int)) ((maskFrom m (s.drop i) : Nat) : Int) := by
  refine down s.length ?_ (fun i hi ih => ?_)
  · intro m _
    rw [List.drop_length]
    exact Ev.step (f := fun _ => some (m : Int)) (fun k => by simp only [spec_l22Mask.l0]; rw [if_neg (by omega)]) (Ev.now _)
  · intro m hm
    rw [drop_getD s i hi 0]
    have hx : rd s (i : Int) = s.getD i 0 := rfl
    have ha := h _ (getD_mem s i hi 0)
    generalize s.getD i 0 = x at hx ha ⊢
    obtain ⟨x, rfl⟩ := Int.eq_ofNat_of_zero_le ha.1
    refine Ev.step (f := fun k => spec_l22Mask.l0 k s ((m ||| 2 ^ x : Nat) : Int) ((i + 1 : Nat) : Int)) (fun k => ?_) (ih _ (or62 hm (pow62 (by omega))))
    simp only [spec_l22Mask.l0]
    rw [if_pos (by omega), if_pos (by omega), hx, wrap_u64_small _ (by omega) (by omega), if_pos (by omega), b_orshl hm (by omega), w64s (by omega)]
theorem specMask_ev (s : List Int) (hl : s.length ≤ 1048576) (h : ∀ a ∈ s, 0 ≤ a ∧ a ≤ 9) : Ev (fun k => spec_l22Mask.f k s) ((mask s : Nat) : Int) := specMask_loop s hl h 0 (Nat.zero_le _) 0 (by decide)
theorem implMask_loop (s : List Int) (hl : s.length ≤ 1048576) (h : ∀ a ∈ s, 0 ≤ a ∧ a ≤ 9) : ∀ i, i ≤ s.length → ∀ m : Nat, m < 2 ^ 62 → Ev (fun k => impl_numberOf.l0 k (m : Int) s (s.length : Int) (i : Int)) (((maskFrom m (s.drop i) : Nat) : Int), true) := by
  refine down s.length ?_ (fun i hi ih => ?_)
  · intro m _
    rw [List.drop_length]
    exact Ev.step (f := fun _ => some ((m : Int), true)) (fun k => by simp only [impl_numberOf.l0]; rw [if_neg (by omega)]) (Ev.now _)
  · intro m hm
    rw [drop_getD s i hi 0]
    have hx : rd s (i : Int) = s.getD i 0 := rfl
    have ha := h _ (getD_mem s i hi 0)
    generalize s.getD i 0 = x at hx ha ⊢
    obtain ⟨x, rfl⟩ := Int.eq_ofNat_of_zero_le ha.1
    refine Ev.step (f := fun k => impl_numberOf.l0 k ((m ||| 2 ^ x : Nat) : Int) s (s.length : Int) ((i + 1 : Nat) : Int)) (fun k => ?_) (ih _ (or62 hm (pow62 (by omega))))
    simp only [impl_numberOf.l0]
    rw [if_pos (by omega), if_pos (by omega), if_pos (by omega), hx, if_pos (by omega), b_orshl hm (by omega), w64s (by omega)]
theorem set_mem {n : Int} {l : List IA} {s : List Int} (h : setOk n l s = true) : ∀ a ∈ s, 0 ≤ a ∧ a ≤ 9 := by
  rw [setOk, Bool.and_eq_true] at h
  have := good_n h.1
  intro a ha
  have := rise_mem h.2 a ha
  omega
/-- What numberOf gives. -/
def numOf (n : Int) (l : List IA) (s : List Int) : Int × Bool := if setOk n l s = true then (((mask s : Nat) : Int), true) else (0, false)
theorem numberOf_ev (n : Int) (l : List IA) (s : List Int) (hl : l.length ≤ 1048576) (hs : s.length ≤ 1048576) : Ev (fun k => impl_numberOf.f k n l s) (numOf n l s) := by
  unfold impl_numberOf.f numOf
  refine Ev.bind (impl_ev n l hl) ?_
  cases hg : good n l with
  | false =>
    have : setOk n l s = false := by rw [setOk, hg]; rfl
    rw [this]
    exact Ev.step (f := fun _ => some (0, false)) (fun k => by simp only [impl_numberOf.j0]; rfl) (Ev.now _)
  | true =>
    have hn := good_n hg
    rw [w64 (by omega) (by omega)]
    simp only [if_true]
    refine Ev.bind (implRise_ev 0 (n - 1) 10 s hs) ?_
    have e : setOk n l s = rise 0 (n - 1) s := by rw [setOk, hg, Bool.true_and]
    rw [e]
    cases hr : rise 0 (n - 1) s with
    | false => exact Ev.step (f := fun _ => some (0, false)) (fun k => by simp only [impl_numberOf.j0]; rfl) (Ev.now _)
    | true =>
      have hlen := set_len hn.1 hr
      have : decide ((s.length : Int) ≤ 10) = true := by simp; omega
      rw [this]
      refine Ev.step (f := fun k => impl_numberOf.l0 k 0 s (s.length : Int) 0) (fun k => by simp only [impl_numberOf.j0]; rfl) ?_
      exact implMask_loop s hs (set_mem (n := n) (l := l) (by rw [e, hr])) 0 (Nat.zero_le _) 0 (by decide)
theorem setOk_good {n : Int} {l : List IA} {s : List Int} (h : setOk n l s = true) : good n l = true := by
  rw [setOk, Bool.and_eq_true] at h
  exact h.1

/-! what a set attacks -/
def attFrom (m o : Nat) (l : List IA) : Nat := l.foldl (fun o x => if m.testBit x.f0.toNat = true then o ||| 2 ^ x.f1.toNat else o) o
def att (l : List IA) (m : Nat) : Nat := attFrom m 0 l
theorem attFrom_bit (m : Nat) (l : List IA) : ∀ (o j : Nat), (attFrom m o l).testBit j = (o.testBit j || l.any (fun x => m.testBit x.f0.toNat && decide (x.f1.toNat = j))) := by
  induction l with
  | nil => intro o j; simp [attFrom]
  | cons x l ih =>
    intro o j
    show (attFrom m (if m.testBit x.f0.toNat = true then o ||| 2 ^ x.f1.toNat else o) l).testBit j = _
    rw [ih, List.any_cons]
    cases m.testBit x.f0.toNat with
    | false => simp
    | true => rw [if_pos rfl, bit_or_pow, Bool.true_and, Bool.or_assoc]
theorem att_bit (l : List IA) (m j : Nat) : (att l m).testBit j = l.any (fun x => m.testBit x.f0.toNat && decide (x.f1.toNat = j)) := by
  rw [att, attFrom_bit, Nat.zero_testBit, Bool.false_or]
theorem att_lt {n : Int} {l : List IA} (h : good n l = true) (m : Nat) : att l m < 2 ^ 10 := lt_of_bits (fun i hi => by
  rw [att_bit, List.any_eq_true] at hi
  obtain ⟨a, ha, hd⟩ := hi
  rw [Bool.and_eq_true] at hd
  have := inR_iff.1 (good_mem h a ha)
  have := good_n h
  have := of_decide_eq_true hd.2
  omega)
theorem small_of {n : Int} {l : List IA} (h : good n l = true) {x : IA} (hx : x ∈ l) : ∃ a b : Nat, x.f0 = (a : Int) ∧ x.f1 = (b : Int) ∧ a < 10 ∧ b < 10 := by
  have := inR_iff.1 (good_mem h x hx)
  have := good_n h
  exact ⟨x.f0.toNat, x.f1.toNat, by omega, by omega, by omega, by omega⟩
theorem specAtt_loop (n : Int) (l : List IA) (hl : l.length ≤ 1048576) (hg : good n l = true) (m : Nat) (hm : m < 2 ^ 62) : ∀ i, i ≤ l.length → ∀ o : Nat, o < 2 ^ 62 → Ev (fun k => spec_l22Attacked.l0 k (m : Int) (o : Int) (i : Int) n l) ((attFrom m o (l.drop i) : Nat) : Int) := by
  refine down l.length ?_ (fun i hi ih => ?_)
  · intro o _
    rw [List.drop_length]
    exact Ev.step (f := fun _ => some (o : Int)) (fun k => by simp only [spec_l22Attacked.l0]; rw [if_neg (by omega)]) (Ev.now _)
  · intro o ho
    rw [drop_getD l i hi z65]
    obtain ⟨a, b, h0, h1, ha, hb⟩ := small_of hg (getD_mem l i hi z65)
    have hx := rdA l i
    generalize l.getD i z65 = x at hx h0 h1 ⊢
    have e : attFrom m o (x :: l.drop (i + 1)) = attFrom m (if m.testBit a = true then o ||| 2 ^ b else o) (l.drop (i + 1)) := by
      show attFrom m (if m.testBit x.f0.toNat = true then o ||| 2 ^ x.f1.toNat else o) (l.drop (i + 1)) = _
      rw [h0, h1, Int.toNat_natCast, Int.toNat_natCast]
    rw [e]
    refine Ev.step (f := fun k => spec_l22Attacked.l0 k (m : Int) ((if m.testBit a = true then o ||| 2 ^ b else o : Nat) : Int) ((i + 1 : Nat) : Int) n l) (fun k => ?_) (ih _ (by split; exact or62 ho (pow62 (by omega)); exact ho))
    simp only [spec_l22Attacked.l0]
    rw [if_pos (by omega), if_pos (by omega), hx, h0, h1, wrap_u64_small _ (by omega) (by omega), wrap_u64_small _ (by omega) (by omega), if_pos (by omega), b_one hm (by omega), w64s (by omega)]
    cases m.testBit a with
    | false => rfl
    | true => rw [if_pos rfl, if_pos rfl, if_pos (by omega), b_orshl ho (by omega)]; rfl
theorem specAtt_ev (n : Int) (l : List IA) (hl : l.length ≤ 1048576) (hg : good n l = true) (m : Nat) (hm : m < 2 ^ 62) : Ev (fun k => spec_l22Attacked.f k n l (m : Int)) ((att l m : Nat) : Int) := specAtt_loop n l hl hg m hm 0 (Nat.zero_le _) 0 (by decide)
theorem implAtt_loop (n : Int) (l : List IA) (hl : l.length ≤ 1048576) (hg : good n l = true) (m : Nat) (hm : m < 2 ^ 62) : ∀ i, i ≤ l.length → ∀ o : Nat, o < 2 ^ 62 → Ev (fun k => impl_attackedBy.l0 k (m : Int) (o : Int) l (l.length : Int) (i : Int)) ((attFrom m o (l.drop i) : Nat) : Int) := by
  refine down l.length ?_ (fun i hi ih => ?_)
  · intro o _
    rw [List.drop_length]
    exact Ev.step (f := fun _ => some (o : Int)) (fun k => by simp only [impl_attackedBy.l0]; rw [if_neg (by omega)]) (Ev.now _)
  · intro o ho
    rw [drop_getD l i hi z65]
    obtain ⟨a, b, h0, h1, ha, hb⟩ := small_of hg (getD_mem l i hi z65)
    have hx := rdA l i
    generalize l.getD i z65 = x at hx h0 h1 ⊢
    have e : attFrom m o (x :: l.drop (i + 1)) = attFrom m (if m.testBit a = true then o ||| 2 ^ b else o) (l.drop (i + 1)) := by
      show attFrom m (if m.testBit x.f0.toNat = true then o ||| 2 ^ x.f1.toNat else o) (l.drop (i + 1)) = _
      rw [h0, h1, Int.toNat_natCast, Int.toNat_natCast]
    rw [e]
    refine Ev.step (f := fun k => impl_attackedBy.l0 k (m : Int) ((if m.testBit a = true then o ||| 2 ^ b else o : Nat) : Int) l (l.length : Int) ((i + 1 : Nat) : Int)) (fun k => ?_) (ih _ (by split; exact or62 ho (pow62 (by omega)); exact ho))
    simp only [impl_attackedBy.l0]
    rw [if_pos (by omega), if_pos (by omega), if_pos (by omega), hx, h0, h1, if_pos (by omega), b_one hm (by omega), w64s (by omega)]
    cases m.testBit a with
    | false => rfl
    | true => rw [if_pos rfl, if_pos rfl, if_pos (by omega), b_orshl ho (by omega)]; rfl
theorem implAtt_ev (n : Int) (l : List IA) (hl : l.length ≤ 1048576) (hg : good n l = true) (m : Nat) (hm : m < 2 ^ 62) : Ev (fun k => impl_attackedBy.f k n l (m : Int)) ((att l m : Nat) : Int) := implAtt_loop n l hl hg m hm 0 (Nat.zero_le _) 0 (by decide)
theorem small62 {a : Nat} (h : a < 2 ^ 10) : a < 2 ^ 62 := Nat.lt_trans h (by decide)

/-! conflict-free sets -/
def free (l : List IA) (m : Nat) : Bool := att l m &&& m == 0
theorem beq_cast (a : Nat) : ((a : Int) == 0) = (a == 0) := by
  rw [Bool.eq_iff_iff]; simp
theorem specFree_ev (n : Int) (l : List IA) (hl : l.length ≤ 1048576) (hg : good n l = true) (m : Nat) (hm : m < 2 ^ 62) : Ev (fun k => spec_l22Free.f k n l (m : Int)) (free l m) := by
  unfold spec_l22Free.f
  refine Ev.bind (specAtt_ev n l hl hg m hm) ?_
  rw [b_and (small62 (att_lt hg m)) hm, beq_cast]
  exact Ev.now _
theorem implFree_ev (n : Int) (l : List IA) (hl : l.length ≤ 1048576) (hg : good n l = true) (m : Nat) (hm : m < 2 ^ 62) : Ev (fun k => impl_isFree.f k n l (m : Int)) (free l m) := by
  unfold impl_isFree.f
  refine Ev.bind (implAtt_ev n l hl hg m hm) ?_
  rw [b_and (small62 (att_lt hg m)) hm, beq_cast]
  exact Ev.now _

/-! what a set defends -/
def defFrom (h o : Nat) (l : List IA) : Nat := l.foldl (fun o x => if h.testBit x.f0.toNat = false then less o (2 ^ x.f1.toNat) else o) o
def dfn (n : Int) (l : List IA) (m : Nat) : Nat := defFrom (att l m) (2 ^ n.toNat - 1) l
theorem defFrom_bit (h : Nat) (l : List IA) : ∀ (o j : Nat), (defFrom h o l).testBit j = (o.testBit j && l.all (fun x => h.testBit x.f0.toNat || !decide (x.f1.toNat = j))) := by
  induction l with
  | nil => intro o j; simp [defFrom]
  | cons x l ih =>
    intro o j
    show (defFrom h (if h.testBit x.f0.toNat = false then less o (2 ^ x.f1.toNat) else o) l).testBit j = _
    rw [ih, List.all_cons]
    cases h.testBit x.f0.toNat with
    | true => simp
    | false => rw [if_pos rfl, bit_less_pow, Bool.false_or, Bool.and_assoc]
theorem dfn_bit (n : Int) (l : List IA) (m j : Nat) : (dfn n l m).testBit j = (decide (j < n.toNat) && l.all (fun x => (att l m).testBit x.f0.toNat || !decide (x.f1.toNat = j))) := by
  rw [dfn, defFrom_bit, Nat.testBit_two_pow_sub_one]
theorem dfn_lt {n : Int} {l : List IA} (hg : good n l = true) (m : Nat) : dfn n l m < 2 ^ 10 := lt_of_bits (fun i hi => by
  rw [dfn_bit, Bool.and_eq_true, decide_eq_true_eq] at hi
  have := good_n hg
  omega)
theorem specDef_loop (n : Int) (l : List IA) (hl : l.length ≤ 1048576) (hg : good n l = true) (h : Nat) (hh : h < 2 ^ 62) : ∀ i, i ≤ l.length → ∀ o : Nat, o < 2 ^ 62 → Ev (fun k => spec_l22Defended.l0 k (o : Int) (h : Int) (i : Int) n l) ((defFrom h o (l.drop i) : Nat) : Int) := by
  refine down l.length ?_ (fun i hi ih => ?_)
  · intro o _
    rw [List.drop_length]
    exact Ev.step (f := fun _ => some (o : Int)) (fun k => by simp only [spec_l22Defended.l0]; rw [if_neg (by omega)]) (Ev.now _)
  · intro o ho
    rw [drop_getD l i hi z65]
    obtain ⟨a, b, h0, h1, ha, hb⟩ := small_of hg (getD_mem l i hi z65)
    have hx := rdA l i
    generalize l.getD i z65 = x at hx h0 h1 ⊢
    have e : defFrom h o (x :: l.drop (i + 1)) = defFrom h (if h.testBit a = false then less o (2 ^ b) else o) (l.drop (i + 1)) := by
      show defFrom h (if h.testBit x.f0.toNat = false then less o (2 ^ x.f1.toNat) else o) (l.drop (i + 1)) = _
      rw [h0, h1, Int.toNat_natCast, Int.toNat_natCast]
    rw [e]
    refine Ev.step (f := fun k => spec_l22Defended.l0 k ((if h.testBit a = false then less o (2 ^ b) else o : Nat) : Int) (h : Int) ((i + 1 : Nat) : Int) n l) (fun k => ?_) (ih _ (by split; exact less_lt ho; exact ho))
    simp only [spec_l22Defended.l0]
    rw [if_pos (by omega), if_pos (by omega), hx, h0, h1, wrap_u64_small _ (by omega) (by omega), wrap_u64_small _ (by omega) (by omega), if_pos (by omega), b_one hh (by omega), w64s (by omega)]
    cases h.testBit a with
    | true => rfl
    | false => rw [if_pos (by simp), if_pos (by omega), b_shl (by omega), b_less ho (pow62 (by omega)), if_pos rfl]
theorem specDef_ev (n : Int) (l : List IA) (hl : l.length ≤ 1048576) (hg : good n l = true) (m : Nat) (hm : m < 2 ^ 62) : Ev (fun k => spec_l22Defended.f k n l (m : Int)) ((dfn n l m : Nat) : Int) := by
  unfold spec_l22Defended.f
  have hn := good_n hg
  obtain ⟨n, rfl⟩ := Int.eq_ofNat_of_zero_le hn.1
  rw [wrap_u64_small _ (by omega) (by omega)]
  simp only [if_pos (show (0 : Int) ≤ (n : Int) by omega)]
  refine Ev.bind (specAtt_ev _ l hl hg m hm) ?_
  have hp : 0 < 2 ^ n := Nat.two_pow_pos n
  have hp2 : 2 ^ n < 2 ^ 62 := pow62 (by omega)
  have e : wrap64 (shl .i64 1 (n : Int) - 1) = ((2 ^ n - 1 : Nat) : Int) := by
    rw [b_shl (by omega), w64 (by omega) (by omega)]
    omega
  rw [e]
  unfold dfn
  rw [Int.toNat_natCast]
  exact specDef_loop _ l hl hg (att l m) (small62 (att_lt hg m)) 0 (Nat.zero_le _) (2 ^ n - 1) (by omega)

def atkFrom (a : Nat) (o : Nat) (l : List IA) : Nat := l.foldl (fun o x => if x.f1.toNat = a then o ||| 2 ^ x.f0.toNat else o) o
def atk (l : List IA) (a : Nat) : Nat := atkFrom a 0 l
theorem atkFrom_bit (a : Nat) (l : List IA) : ∀ (o j : Nat), (atkFrom a o l).testBit j = (o.testBit j || l.any (fun x => decide (x.f1.toNat = a) && decide (x.f0.toNat = j))) := by
  induction l with
  | nil => intro o j; simp [atkFrom]
  | cons x l ih =>
    intro o j
    show (atkFrom a (if x.f1.toNat = a then o ||| 2 ^ x.f0.toNat else o) l).testBit j = _
    rw [ih, List.any_cons]
    by_cases h : x.f1.toNat = a
    · rw [if_pos h, bit_or_pow, decide_eq_true h, Bool.true_and, Bool.or_assoc]
    · rw [if_neg h, decide_eq_false h, Bool.false_and, Bool.false_or]
theorem atk_bit (l : List IA) (a j : Nat) : (atk l a).testBit j = l.any (fun x => decide (x.f1.toNat = a) && decide (x.f0.toNat = j)) := by
  rw [atk, atkFrom_bit, Nat.zero_testBit, Bool.false_or]
theorem atk_lt {n : Int} {l : List IA} (hg : good n l = true) (a : Nat) : atk l a < 2 ^ 10 := lt_of_bits (fun i hi => by
  rw [atk_bit, List.any_eq_true] at hi
  obtain ⟨x, hx, hd⟩ := hi
  rw [Bool.and_eq_true] at hd
  obtain ⟨p, q, h0, h1, hp, hq⟩ := small_of hg hx
  have := of_decide_eq_true hd.2
  omega)
theorem implAtk_loop (n : Int) (l : List IA) (hl : l.length ≤ 1048576) (hg : good n l = true) (a : Nat) : ∀ i, i ≤ l.length → ∀ o : Nat, o < 2 ^ 62 → Ev (fun k => impl_attackersOf.l0 k (a : Int) (o : Int) l (l.length : Int) (i : Int)) ((atkFrom a o (l.drop i) : Nat) : Int) := by
  refine down l.length ?_ (fun i hi ih => ?_)
  · intro o _
    rw [List.drop_length]
    exact Ev.step (f := fun _ => some (o : Int)) (fun k => by simp only [impl_attackersOf.l0]; rw [if_neg (by omega)]) (Ev.now _)
  · intro o ho
    rw [drop_getD l i hi z65]
    obtain ⟨p, q, h0, h1, hp, hq⟩ := small_of hg (getD_mem l i hi z65)
    have hx := rdA l i
    generalize l.getD i z65 = x at hx h0 h1 ⊢
    have e : atkFrom a o (x :: l.drop (i + 1)) = atkFrom a (if q = a then o ||| 2 ^ p else o) (l.drop (i + 1)) := by
      show atkFrom a (if x.f1.toNat = a then o ||| 2 ^ x.f0.toNat else o) (l.drop (i + 1)) = _
      rw [h0, h1, Int.toNat_natCast, Int.toNat_natCast]
    rw [e]
    refine Ev.step (f := fun k => impl_attackersOf.l0 k (a : Int) ((if q = a then o ||| 2 ^ p else o : Nat) : Int) l (l.length : Int) ((i + 1 : Nat) : Int)) (fun k => ?_) (ih _ (by split; exact or62 ho (pow62 (by omega)); exact ho))
    simp only [impl_attackersOf.l0]
    rw [if_pos (by omega), if_pos (by omega), if_pos (by omega), hx, h0, h1, w64s (by omega)]
    by_cases hqa : q = a
    · rw [if_pos (by omega), if_pos (by omega), b_orshl ho (by omega), if_pos hqa]
    · rw [if_neg (by omega), if_neg hqa]
theorem implAtk_ev (n : Int) (l : List IA) (hl : l.length ≤ 1048576) (hg : good n l = true) (a : Nat) : Ev (fun k => impl_attackersOf.f k n l (a : Int)) ((atk l a : Nat) : Int) := implAtk_loop n l hl hg a 0 (Nat.zero_le _) 0 (by decide)
/-- What defendedBy has behind the arguments 0, .., i - 1. -/
def dfi (l : List IA) (h : Nat) : Nat → Nat
  | 0 => 0
  | i + 1 => if less (atk l i) h = 0 then dfi l h i ||| 2 ^ i else dfi l h i
theorem dfi_bit (l : List IA) (h : Nat) : ∀ (i j : Nat), (dfi l h i).testBit j = (decide (j < i) && (less (atk l j) h == 0)) := by
  intro i
  induction i with
  | zero => intro j; simp [dfi]
  | succ i ih =>
    intro j
    rw [dfi]
    by_cases c : less (atk l i) h = 0
    · rw [if_pos c, bit_or_pow, ih]
      by_cases hj : i = j
      · subst hj; simp [c]
      · have : decide (j < i + 1) = decide (j < i) := by rw [decide_eq_decide]; omega
        simp [hj, this]
    · rw [if_neg c, ih]
      by_cases hj : i = j
      · subst hj; simp [c]
      · have : decide (j < i + 1) = decide (j < i) := by rw [decide_eq_decide]; omega
        rw [this]
theorem dfi_lt (l : List IA) (h : Nat) (i : Nat) : dfi l h i < 2 ^ i := lt_of_bits (fun j hj => by
  rw [dfi_bit, Bool.and_eq_true, decide_eq_true_eq] at hj
  exact hj.1)
theorem implDef_loop (n : Nat) (l : List IA) (hl : l.length ≤ 1048576) (hg : good (n : Int) l = true) (h : Nat) (hh : h < 2 ^ 62) : ∀ i, i ≤ n → Ev (fun k => impl_defendedBy.l0 k ((dfi l h i : Nat) : Int) (h : Int) (n : Int) (i : Int) (n : Int) l) ((dfi l h n : Nat) : Int) := by
  have hn := good_n hg
  refine down n ?_ (fun i hi ih => ?_)
  · exact Ev.step (f := fun _ => some ((dfi l h n : Nat) : Int)) (fun k => by simp only [impl_defendedBy.l0]; rw [if_neg (by omega)]) (Ev.now _)
  · have ho : dfi l h i < 2 ^ 62 := Nat.lt_trans (dfi_lt l h i) (pow62 (by omega))
    refine Ev.step (f := fun k => (impl_attackersOf.f k (n : Int) l (i : Int)).bind fun t => if (Go.bits .andNot .i64 t (h : Int)) = 0 then (if 0 ≤ (i : Int) then (impl_defendedBy.l0 k (Go.bits .or .i64 ((dfi l h i : Nat) : Int) (shl .i64 1 (i : Int))) (h : Int) (n : Int) (wrap64 ((i : Int) + 1)) (n : Int) l) else none) else impl_defendedBy.l0 k ((dfi l h i : Nat) : Int) (h : Int) (n : Int) (wrap64 ((i : Int) + 1)) (n : Int) l) (fun k => ?_) ?_
    · simp only [impl_defendedBy.l0]
      rw [if_pos (by omega)]
    · refine Ev.bind (implAtk_ev _ l hl hg i) ?_
      rw [b_less (small62 (atk_lt hg i)) hh, w64s (by omega), b_orshl ho (by omega)]
      simp only [if_pos (show (0 : Int) ≤ (i : Int) by omega)]
      rw [dfi] at ih
      by_cases c : less (atk l i) h = 0
      · rw [if_pos c] at ih
        simp only [if_pos (show ((less (atk l i) h : Nat) : Int) = 0 by omega)]
        exact ih
      · rw [if_neg c] at ih
        simp only [if_neg (show ¬ ((less (atk l i) h : Nat) : Int) = 0 by omega)]
        exact ih
theorem dfi_dfn (n : Nat) (l : List IA) (m : Nat) : dfi l (att l m) n = dfn (n : Int) l m := by
  refine Nat.eq_of_testBit_eq (fun j => ?_)
  rw [dfi_bit, dfn_bit, Int.toNat_natCast]
  congr 1
  rw [Bool.eq_iff_iff, beq_iff_eq, eq_zero_bits, List.all_eq_true]
  constructor
  · intro h x hx
    have := h x.f0.toNat
    rw [less_bit, Bool.and_eq_false_iff, atk_bit] at this
    rcases this with h1 | h1
    · rw [List.any_eq_false] at h1
      have := h1 x hx
      simp only [decide_true, Bool.and_true] at this
      rw [Bool.or_eq_true]
      right
      simpa using this
    · rw [Bool.or_eq_true]
      left
      simpa using h1
  · intro h i
    rw [less_bit]
    cases hb : (atk l j).testBit i with
    | false => rfl
    | true =>
      rw [atk_bit, List.any_eq_true] at hb
      obtain ⟨x, hx, hd⟩ := hb
      simp only [Bool.and_eq_true, decide_eq_true_eq] at hd
      have := h x hx
      rw [hd.1, hd.2] at this
      simpa using this
theorem implDef_ev (n : Int) (l : List IA) (hl : l.length ≤ 1048576) (hg : good n l = true) (m : Nat) (hm : m < 2 ^ 62) : Ev (fun k => impl_defendedBy.f k n l (m : Int)) ((dfn n l m : Nat) : Int) := by
  unfold impl_defendedBy.f
  have hn := good_n hg
  obtain ⟨n, rfl⟩ := Int.eq_ofNat_of_zero_le hn.1
  refine Ev.bind (implAtt_ev _ l hl hg m hm) ?_
  rw [← dfi_dfn]
  exact implDef_loop n l hl hg (att l m) (small62 (att_lt hg m)) 0 (Nat.zero_le _)

/-! admissible sets -/
def adm (n : Int) (l : List IA) (m : Nat) : Bool := free l m && (less m (dfn n l m) == 0)
theorem specAdm_ev (n : Int) (l : List IA) (hl : l.length ≤ 1048576) (hg : good n l = true) (m : Nat) (hm : m < 2 ^ 62) : Ev (fun k => spec_l22Admissible.f k n l (m : Int)) (adm n l m) := by
  unfold spec_l22Admissible.f adm
  refine Ev.bind (specFree_ev n l hl hg m hm) ?_
  cases free l m with
  | false => exact Ev.now _
  | true =>
    simp only [if_true, Bool.true_and]
    refine Ev.bind (specDef_ev n l hl hg m hm) ?_
    rw [b_less hm (small62 (dfn_lt hg m)), beq_cast]
    exact Ev.now _
theorem implAdm_ev (n : Int) (l : List IA) (hl : l.length ≤ 1048576) (hg : good n l = true) (m : Nat) (hm : m < 2 ^ 62) : Ev (fun k => impl_isAdmissible.f k n l (m : Int)) (adm n l m) := by
  unfold impl_isAdmissible.f adm
  refine Ev.bind (implFree_ev n l hl hg m hm) ?_
  cases free l m with
  | false => exact Ev.now _
  | true =>
    simp only [if_true, Bool.true_and]
    refine Ev.bind (implDef_ev n l hl hg m hm) ?_
    rw [b_less hm (small62 (dfn_lt hg m)), beq_cast]
    exact Ev.now _

/-! the list of a number's bits -/
def bl (m i : Nat) : List Int := ((List.range i).filter fun j => m.testBit j).map fun (j : Nat) => (j : Int)
theorem bl_succ (m i : Nat) : bl m (i + 1) = if m.testBit i = true then bl m i ++ [(i : Int)] else bl m i := by
  unfold bl
  rw [List.range_succ, List.filter_append, List.map_append]
  cases h : m.testBit i with
  | true => simp [h]
  | false => simp [h]
theorem bl_len (m i : Nat) : (bl m i).length ≤ i := by
  unfold bl
  rw [List.length_map]
  exact Nat.le_trans (List.length_filter_le _ _) (by simp)
theorem bl_mem {m i : Nat} {a : Int} (h : a ∈ bl m i) : ∃ j : Nat, a = (j : Int) ∧ j < i ∧ m.testBit j = true := by
  unfold bl at h
  rw [List.mem_map] at h
  obtain ⟨j, hj, rfl⟩ := h
  rw [List.mem_filter, List.mem_range] at hj
  exact ⟨j, rfl, hj.1, hj.2⟩
theorem bl_in {m i j : Nat} (h : j < i) (hb : m.testBit j = true) : (j : Int) ∈ bl m i := by
  unfold bl
  rw [List.mem_map]
  exact ⟨j, by rw [List.mem_filter, List.mem_range]; exact ⟨h, hb⟩, rfl⟩
theorem bl_end {m i : Nat} (h : m < 2 ^ i) : ∀ d, bl m (i + d) = bl m i := by
  intro d
  induction d with
  | zero => rfl
  | succ d ih =>
    rw [← Nat.add_assoc, bl_succ, Nat.testBit_lt_two_pow (Nat.lt_of_lt_of_le h (Nat.pow_le_pow_right (by decide) (by omega))), if_neg (by simp), ih]
theorem specBits_loop (m : Nat) (hm : m < 2 ^ 62) : ∀ i, i ≤ 10 → Ev (fun k => spec_l22List.l0 k (m : Int) (bl m i) (i : Int)) (bl m 10) := by
  refine down 10 ?_ (fun i hi ih => ?_)
  · refine Ev.step (f := fun _ => some (bl m 10)) (fun k => ?_) (Ev.now _)
    simp only [spec_l22List.l0]
    rw [if_neg (by omega)]
  · refine Ev.step (fun k => ?_) ih
    simp only [spec_l22List.l0]
    rw [if_pos (by omega), wrap_u64_small _ (by omega) (by omega), if_pos (by omega), b_one hm (by omega), w64s (by omega), bl_succ]
    have := bl_len m i
    simp only [if_pos (show (bl m i).length < 17592186044416 by omega)]
    cases m.testBit i <;> rfl
theorem specBits_ev (m : Nat) (hm : m < 2 ^ 62) : Ev (fun k => spec_l22List.f k (m : Int)) (bl m 10) := specBits_loop m hm 0 (Nat.zero_le _)

/-! the grounded set -/
def sub (a b : Nat) : Prop := ∀ i, a.testBit i = true → b.testBit i = true
theorem att_mono (l : List IA) {a b : Nat} (h : sub a b) : sub (att l a) (att l b) := by
  intro i hi
  rw [att_bit, List.any_eq_true] at hi ⊢
  obtain ⟨x, hx, hd⟩ := hi
  rw [Bool.and_eq_true] at hd
  exact ⟨x, hx, by rw [Bool.and_eq_true]; exact ⟨h _ hd.1, hd.2⟩⟩
theorem dfn_mono (n : Int) (l : List IA) {a b : Nat} (h : sub a b) : sub (dfn n l a) (dfn n l b) := by
  intro i hi
  rw [dfn_bit, Bool.and_eq_true, List.all_eq_true] at hi ⊢
  refine ⟨hi.1, fun x hx => ?_⟩
  have := hi.2 x hx
  rw [Bool.or_eq_true] at this ⊢
  rcases this with h1 | h1
  · exact .inl (att_mono l h _ h1)
  · exact .inr h1
theorem or_sub {a b : Nat} (h : sub a b) : a ||| b = b := by
  refine Nat.eq_of_testBit_eq (fun i => ?_)
  rw [Nat.testBit_or]
  cases ha : a.testBit i with
  | false => rfl
  | true => rw [h i ha]; rfl

/-! conflict-free, defended, complete, preferred, stable: plain laws -/
theorem dfn_iff (n : Int) (l : List IA) (m j : Nat) : (dfn n l m).testBit j = true ↔ j < n.toNat ∧ ∀ x ∈ l, x.f1.toNat = j → (att l m).testBit x.f0.toNat = true := by
  rw [dfn_bit, Bool.and_eq_true, decide_eq_true_eq, List.all_eq_true]
  constructor
  · intro h
    refine ⟨h.1, fun x hx e => ?_⟩
    have := h.2 x hx
    rw [Bool.or_eq_true] at this
    rcases this with h1 | h1
    · exact h1
    · rw [decide_eq_true e] at h1; cases h1
  · intro h
    refine ⟨h.1, fun x hx => ?_⟩
    by_cases e : x.f1.toNat = j
    · rw [h.2 x hx e]; rfl
    · rw [decide_eq_false e]; simp
theorem att_iff (l : List IA) (m j : Nat) : (att l m).testBit j = true ↔ ∃ x ∈ l, m.testBit x.f0.toNat = true ∧ x.f1.toNat = j := by
  rw [att_bit, List.any_eq_true]
  constructor
  · rintro ⟨x, hx, h⟩
    rw [Bool.and_eq_true, decide_eq_true_eq] at h
    exact ⟨x, hx, h.1, h.2⟩
  · rintro ⟨x, hx, h1, h2⟩
    exact ⟨x, hx, by rw [Bool.and_eq_true, decide_eq_true_eq]; exact ⟨h1, h2⟩⟩
theorem free_iff (l : List IA) (m : Nat) : free l m = true ↔ ∀ x ∈ l, m.testBit x.f0.toNat = true → m.testBit x.f1.toNat = true → False := by
  unfold free
  rw [beq_iff_eq]
  constructor
  · intro h x hx h1 h2
    have h3 : (att l m).testBit x.f1.toNat = true := (att_iff l m _).2 ⟨x, hx, h1, rfl⟩
    have : (att l m &&& m).testBit x.f1.toNat = true := by rw [Nat.testBit_and, h3, h2]; rfl
    rw [h, Nat.zero_testBit] at this
    cases this
  · intro h
    refine Nat.eq_of_testBit_eq (fun j => ?_)
    rw [Nat.zero_testBit, Nat.testBit_and]
    cases ha : (att l m).testBit j with
    | false => rfl
    | true =>
      cases hm : m.testBit j with
      | false => rfl
      | true =>
        obtain ⟨x, hx, h1, h2⟩ := (att_iff l m j).1 ha
        subst h2
        exact (h x hx h1 hm).elim
theorem adm_iff (n : Int) (l : List IA) (m : Nat) : adm n l m = true ↔ free l m = true ∧ sub m (dfn n l m) := by
  unfold adm
  rw [Bool.and_eq_true, beq_iff_eq]
  refine and_congr Iff.rfl ?_
  constructor
  · intro h i hi
    have : (less m (dfn n l m)).testBit i = false := by rw [h]; exact Nat.zero_testBit i
    rw [less_bit, hi] at this
    simpa using this
  · intro h
    refine Nat.eq_of_testBit_eq (fun i => ?_)
    rw [less_bit, Nat.zero_testBit]
    cases hm : m.testBit i with
    | false => rfl
    | true => rw [h i hm]; rfl

def lab (s : List Int) (h : Nat) (i : Nat) : Int := if s.contains (i : Int) = true then 1 else if h.testBit i = true then 2 else 3
def labs (s : List Int) (h : Nat) (n : Nat) : List Int := (List.range n).map (lab s h)
theorem labs_succ (s : List Int) (h n : Nat) : labs s h (n + 1) = labs s h n ++ [lab s h n] := by simp [labs, List.range_succ]
theorem labs_length (s : List Int) (h n : Nat) : (labs s h n).length = n := by simp [labs]
theorem implLab_loop (s : List Int) (h n : Nat) (m : Nat) (hm : m < 2 ^ 62) (hb : ∀ i : Nat, m.testBit i = s.contains (i : Int)) (hh : h < 2 ^ 62) (hn : n ≤ 10) : ∀ i, i ≤ n → Ev (fun k => impl_LabelArguments.l0 k (m : Int) (labs s h i) (h : Int) (n : Int) (i : Int)) (labs s h n, true) := by
  refine down n ?_ (fun i hi ih => ?_)
  · exact Ev.step (f := fun _ => some (labs s h n, true)) (fun k => by simp only [impl_LabelArguments.l0]; rw [if_neg (by omega)]) (Ev.now _)
  · refine Ev.step (fun k => ?_) ih
    simp only [impl_LabelArguments.l0]
    rw [if_pos (by omega), if_pos (by omega), b_one hm (by omega), b_one hh (by omega), w64s (by omega), hb i, labs_succ, lab]
    simp only [if_pos (show (labs s h i).length < 17592186044416 by rw [labs_length]; omega)]
    cases s.contains (i : Int) <;> cases h.testBit i <;> rfl
def labAnswer (n : Int) (l : List IA) (s : List Int) : List Int × Bool := if setOk n l s = true then (if free l (mask s) = true then (labs s (att l (mask s)) n.toNat, true) else ([], false)) else ([], false)
theorem implL_ev (n : Int) (l : List IA) (s : List Int) (hl : l.length ≤ 1048576) (hs : s.length ≤ 1048576) : Ev (fun k => impl_LabelArguments.f k n l s) (labAnswer n l s) := by
  unfold impl_LabelArguments.f labAnswer
  refine Ev.bind (numberOf_ev n l s hl hs) ?_
  unfold numOf
  cases h : setOk n l s with
  | false => exact Ev.step (f := fun _ => some ([], false)) (fun k => by simp only [impl_LabelArguments.j0]; rfl) (Ev.now _)
  | true =>
    have hg := setOk_good h
    have hn := good_n hg
    have hm := small62 (mask_lt (set_mem h))
    simp only [if_true]
    refine Ev.bind (implFree_ev n l hl hg _ hm) ?_
    cases free l (mask s) with
    | false => exact Ev.step (f := fun _ => some ([], false)) (fun k => by simp only [impl_LabelArguments.j0]; rfl) (Ev.now _)
    | true =>
      refine Ev.step (fun k => by simp only [impl_LabelArguments.j0]; rfl) ?_
      simp only [Bool.not_true, Bool.false_eq_true, if_false, if_true]
      refine Ev.bind (implAtt_ev n l hl hg _ hm) ?_
      obtain ⟨n, rfl⟩ := Int.eq_ofNat_of_zero_le hn.1
      rw [Int.toNat_natCast]
      refine implLab_loop s _ n _ hm (fun i => ?_) (small62 (att_lt hg _)) (by omega) 0 (Nat.zero_le _)
      rw [mask_bit, Bool.eq_iff_iff, List.any_eq_true, List.contains_iff_mem]
      constructor
      · rintro ⟨a, ha, hd⟩
        have := set_mem h a ha
        have := of_decide_eq_true hd
        have e : a = (i : Int) := by omega
        rw [← e]; exact ha
      · intro ha
        exact ⟨_, ha, by simp⟩

def defAnswer (n : Int) (l : List IA) (s : List Int) (a : Int) : Bool × Bool := if setOk n l s = true then (if (decide (0 ≤ a) && decide (a ≤ n - 1)) = true then ((dfn n l (mask s)).testBit a.toNat, true) else (false, false)) else (false, false)
theorem beq_one (b : Bool) : (((if b = true then 1 else 0 : Int)) == 1) = b := by cases b <;> rfl
theorem implD_ev (n : Int) (l : List IA) (s : List Int) (a : Int) (hl : l.length ≤ 1048576) (hs : s.length ≤ 1048576) : Ev (fun k => impl_Defends.f k n l s a) (defAnswer n l s a) := by
  unfold impl_Defends.f defAnswer
  refine Ev.bind (numberOf_ev n l s hl hs) ?_
  unfold numOf
  cases h : setOk n l s with
  | false => exact Ev.now _
  | true =>
    have hg := setOk_good h
    have hn := good_n hg
    simp only [if_true]
    rw [w64 (x := n - 1) (by omega) (by omega), within_eq]
    simp only [Option.bind_some]
    cases c : (decide (0 ≤ a) && decide (a ≤ n - 1)) with
    | false => exact Ev.now _
    | true =>
      simp only [Bool.and_eq_true, decide_eq_true_eq] at c
      obtain ⟨a, rfl⟩ := Int.eq_ofNat_of_zero_le c.1
      have hm := mask_lt (set_mem h)
      simp only [if_true]
      refine Ev.bind (implDef_ev n l hl hg _ (small62 hm)) ?_
      rw [b_one (small62 (dfn_lt hg _)) (by omega), beq_one]
      simp only [if_pos (show (0 : Int) ≤ (a : Int) by omega), Int.toNat_natCast]
      exact Ev.now _

/-! the sets for which a condition holds, in order -/
def top (n : Int) : Nat := 2 ^ n.toNat
theorem top_le {n : Int} {l : List IA} (hg : good n l = true) : top n ≤ 1024 := by
  have h := (good_n hg).2
  show 2 ^ n.toNat ≤ 2 ^ 10
  exact Nat.pow_le_pow_right (by decide) (by omega)
theorem shl_top {n : Int} {l : List IA} (hg : good n l = true) : shl .i64 1 n = ((top n : Nat) : Int) := by
  have h := good_n hg
  have e : n = ((n.toNat : Nat) : Int) := by omega
  have := b_shl (i := n.toNat) (by omega)
  rw [← e] at this
  exact this
theorem wrapN {n : Int} {l : List IA} (hg : good n l = true) : IntKind.u64.wrap n = n := by
  have h := good_n hg
  exact wrap_u64_small n h.1 (by omega)
def picked (p : Nat → Bool) (i : Nat) : List Nat := (List.range i).filter p
theorem picked_succ (p : Nat → Bool) (i : Nat) : picked p (i + 1) = if p i = true then picked p i ++ [i] else picked p i := by
  unfold picked
  rw [List.range_succ, List.filter_append]
  cases h : p i with
  | true => simp [h]
  | false => simp [h]
theorem picked_len (p : Nat → Bool) (i : Nat) : (picked p i).length ≤ i := Nat.le_trans (List.length_filter_le _ _) (by simp)

/-! preferred sets -/
def beats (n : Int) (l : List IA) (m o : Nat) : Bool := !(o == m) && ((o &&& m == m) && adm n l o)
def pref (n : Int) (l : List IA) (m : Nat) : Bool := adm n l m && (List.range (top n)).all fun o => !beats n l m o
/-- Place i of L has no other place behind it in r. -/
def most (L : List Nat) (i : Nat) : Bool := (List.range L.length).all fun k => k == i || !(less (L.getD i 0) (L.getD k 0) == 0)
def mosts (L : List Nat) (i : Nat) : List Nat := (picked (most L) i).map fun j => L.getD j 0
def nats (L : List Nat) : List Int := L.map fun (m : Nat) => (m : Int)
theorem nats_len (L : List Nat) : (nats L).length = L.length := by simp [nats]
theorem nats_getD (L : List Nat) (i : Nat) : rd (nats L) (i : Int) = ((L.getD i 0 : Nat) : Int) := by
  show (nats L).getD i 0 = _
  unfold nats
  rw [List.getD_eq_getElem?_getD, List.getD_eq_getElem?_getD, List.getElem?_map]
  cases L[i]? <;> rfl
theorem all_getD (L : List Nat) (q : Nat → Prop) (h : ∀ m ∈ L, q m) (h0 : q 0) (i : Nat) : q (L.getD i 0) := by
  rw [List.getD_eq_getElem?_getD]
  cases e : L[i]? with
  | none => exact h0
  | some m => exact h m (List.mem_of_getElem? e)
theorem most_loop (L : List Nat) (hL : L.length ≤ 1024) (hs : ∀ m ∈ L, m < 1024) (O : List Int) (i : Nat) (hi : i < L.length) (R : List Int)
    (hR : Ev (fun k => spec_l22Preferred.l1 k (nats L) (if most L i = true then O ++ [((L.getD i 0 : Nat) : Int)] else O) ((i + 1 : Nat) : Int)) R) (hO : O.length ≤ 1024) :
    ∀ k', k' ≤ L.length → ∀ b : Bool, (b && (List.range' k' (L.length - k')).all (fun k => k == i || !(less (L.getD i 0) (L.getD k 0) == 0))) = most L i → Ev (fun k => spec_l22Preferred.l2 k (nats L) O (i : Int) b (k' : Int)) R := by
  have hn := nats_len L
  refine down L.length ?_ (fun q hq ih => ?_)
  · intro b hb
    rw [Nat.sub_self] at hb
    have hb' : b = most L i := by rw [← hb]; simp
    rw [← hb'] at hR
    have e1 : ¬ ((L.length : Int) < ((nats L).length : Int)) := by omega
    have e2 : (i : Int) < ((nats L).length : Int) := by omega
    have e3 : (0 : Int) ≤ (i : Int) := by omega
    have e4 : O.length < 17592186044416 := by omega
    have e5 : wrap64 ((i : Int) + 1) = ((i + 1 : Nat) : Int) := w64s (by omega)
    refine Ev.step (fun k => ?_) hR
    cases b with
    | true => simp only [spec_l22Preferred.l2, if_neg e1, if_true, if_pos e2, if_pos e3, if_pos e4, e5, nats_getD]
    | false => simp only [spec_l22Preferred.l2, if_neg e1, Bool.false_eq_true, if_false, e5]
  · intro b hb
    rw [show L.length - q = (L.length - (q + 1)) + 1 by omega, List.range'_succ, List.all_cons] at hb
    by_cases c : q = i
    · have e : (q == i) = true := by simp [c]
      rw [e, Bool.true_or, Bool.true_and] at hb
      refine Ev.step (fun k => ?_) (ih b hb)
      simp only [spec_l22Preferred.l2]
      rw [if_pos (by omega), if_pos (by omega), w64s (by omega)]
    · have e : (q == i) = false := by simp [c]
      have s1 := all_getD L (· < 1024) hs (by decide) i
      have s2 := all_getD L (· < 1024) hs (by decide) q
      have hbits : Go.bits .andNot .i64 ((L.getD i 0 : Nat) : Int) ((L.getD q 0 : Nat) : Int) = ((less (L.getD i 0) (L.getD q 0) : Nat) : Int) := b_less (by omega) (by omega)
      rw [e, Bool.false_or] at hb
      by_cases c2 : less (L.getD i 0) (L.getD q 0) = 0
      · have e2 : (less (L.getD i 0) (L.getD q 0) == 0) = true := by rw [c2]; rfl
        rw [e2] at hb
        refine Ev.step (fun k => ?_) (ih false (by rw [← hb]; simp))
        simp only [spec_l22Preferred.l2]
        rw [if_pos (by omega), if_neg (by omega), if_pos (show (0 : Int) ≤ (i : Int) by omega), if_pos (by omega), if_pos (by omega), nats_getD, nats_getD, hbits, if_pos (by omega), w64s (by omega)]
      · have e2 : (less (L.getD i 0) (L.getD q 0) == 0) = false := by rw [beq_eq_false_iff_ne]; exact c2
        rw [e2, Bool.not_false, Bool.true_and] at hb
        refine Ev.step (fun k => ?_) (ih b hb)
        simp only [spec_l22Preferred.l2]
        rw [if_pos (by omega), if_neg (by omega), if_pos (show (0 : Int) ≤ (i : Int) by omega), if_pos (by omega), if_pos (by omega), nats_getD, nats_getD, hbits, if_neg (by omega), w64s (by omega)]
theorem mosts_len (L : List Nat) (i : Nat) : (mosts L i).length ≤ i := by
  unfold mosts
  rw [List.length_map]
  exact picked_len _ _
theorem mosts_loop (L : List Nat) (hL : L.length ≤ 1024) (hs : ∀ m ∈ L, m < 1024) : ∀ i, i ≤ L.length → Ev (fun k => spec_l22Preferred.l1 k (nats L) (nats (mosts L i)) (i : Int)) (nats (mosts L L.length)) := by
  have hn := nats_len L
  refine down L.length ?_ (fun i hi ih => ?_)
  · exact Ev.step (f := fun _ => some (nats (mosts L L.length))) (fun k => by simp only [spec_l22Preferred.l1]; rw [if_neg (by omega)]) (Ev.now _)
  · refine Ev.step (f := fun k => spec_l22Preferred.l2 k (nats L) (nats (mosts L i)) (i : Int) true ((0 : Nat) : Int)) (fun k => by simp only [spec_l22Preferred.l1]; rw [if_pos (by omega)]; rfl) ?_
    have hml := mosts_len L i
    refine most_loop L hL hs _ i hi _ ?_ (by rw [nats_len]; omega) 0 (Nat.zero_le _) true ?_
    · have e : nats (mosts L (i + 1)) = if most L i = true then nats (mosts L i) ++ [((L.getD i 0 : Nat) : Int)] else nats (mosts L i) := by
        unfold mosts
        rw [picked_succ]
        split
        · simp [nats]
        · rfl
      rw [← e]
      exact ih
    · rw [Bool.true_and, Nat.sub_zero, ← List.range_eq_range']
      rfl
theorem adms_loop (n : Int) (l : List IA) (hl : l.length ≤ 1048576) (hg : good n l = true) (R : List Int) (hR : Ev (fun k => spec_l22Preferred.l1 k (nats (picked (adm n l) (top n))) [] 0) R) : ∀ i, i ≤ top n → Ev (fun k => spec_l22Preferred.l0 k (nats (picked (adm n l) i)) (i : Int) n l) R := by
  have hN := top_le hg
  refine down (top n) ?_ (fun i hi ih => ?_)
  · refine Ev.step (fun k => ?_) hR
    simp only [spec_l22Preferred.l0]
    rw [wrapN hg, if_pos (good_n hg).1, shl_top hg, if_neg (by omega)]
  · have hpl := picked_len (adm n l) i
    refine Ev.step (f := fun k => (spec_l22Admissible.f k n l (i : Int)).bind fun t => if t = true then spec_l22Preferred.l0 k (nats (picked (adm n l) i) ++ [(i : Int)]) ((i + 1 : Nat) : Int) n l else spec_l22Preferred.l0 k (nats (picked (adm n l) i)) ((i + 1 : Nat) : Int) n l) (fun k => ?_) ?_
    · simp only [spec_l22Preferred.l0]
      rw [wrapN hg, if_pos (good_n hg).1, shl_top hg, if_pos (by omega), w64s (by omega)]
      simp only [if_pos (show (nats (picked (adm n l) i)).length < 17592186044416 by rw [nats_len]; omega)]
    · refine Ev.bind (specAdm_ev n l hl hg i (by omega)) ?_
      rw [picked_succ] at ih
      cases h : adm n l i with
      | true =>
        rw [h] at ih
        simp only [if_true, nats, List.map_append, List.map_cons, List.map_nil] at ih ⊢
        exact ih
      | false =>
        rw [h] at ih
        simpa using ih
theorem picked_mem {p : Nat → Bool} {i m : Nat} (h : m ∈ picked p i) : m < i ∧ p m = true := by
  unfold picked at h
  rw [List.mem_filter, List.mem_range] at h
  exact h
theorem mosts_filter (L : List Nat) (hnd : L.Nodup) : mosts L L.length = L.filter fun a => L.all fun b => b == a || !(less a b == 0) := by
  have hmap : L = (List.range L.length).map fun j => L.getD j 0 := by
    refine List.ext_getElem (by simp) (fun j h1 h2 => ?_)
    rw [List.getElem_map, List.getElem_range, List.getD_eq_getElem?_getD, List.getElem?_eq_getElem h1]
    rfl
  have key : ∀ i, i < L.length → most L i = (L.all fun b => b == L.getD i 0 || !(less (L.getD i 0) b == 0)) := by
    intro i hi
    rw [Bool.eq_iff_iff]
    unfold most
    rw [List.all_eq_true, List.all_eq_true]
    have gi : L.getD i 0 = L[i] := by rw [List.getD_eq_getElem?_getD, List.getElem?_eq_getElem hi]; rfl
    constructor
    · intro h b hb
      obtain ⟨j, hj, rfl⟩ := List.getElem_of_mem hb
      have gj : L.getD j 0 = L[j] := by rw [List.getD_eq_getElem?_getD, List.getElem?_eq_getElem hj]; rfl
      have := h j (List.mem_range.2 hj)
      rw [gj] at this
      rcases Bool.or_eq_true _ _ ▸ this with h1 | h1
      · have e : j = i := by simpa using h1
        subst e
        rw [gi]
        simp
      · rw [h1, Bool.or_true]
    · intro h j hj
      have hj' := List.mem_range.1 hj
      have gj : L.getD j 0 = L[j] := by rw [List.getD_eq_getElem?_getD, List.getElem?_eq_getElem hj']; rfl
      have := h (L.getD j 0) (by rw [gj]; exact List.getElem_mem _)
      rcases Bool.or_eq_true _ _ ▸ this with h1 | h1
      · have e : L[j] = L[i] := by rw [← gj, ← gi]; simpa using h1
        have e2 : j = i := by
          rcases Nat.lt_trichotomy j i with hlt | heq | hgt
          · exact absurd e (List.pairwise_iff_getElem.1 hnd j i hj' hi hlt)
          · exact heq
          · exact absurd e.symm (List.pairwise_iff_getElem.1 hnd i j hi hj' hgt)
        subst e2
        simp
      · rw [h1, Bool.or_true]
  have e1 : mosts L L.length = ((List.range L.length).filter fun i => L.all fun b => b == L.getD i 0 || !(less (L.getD i 0) b == 0)).map fun j => L.getD j 0 := by
    unfold mosts picked
    rw [List.filter_congr (fun i hi => key i (List.mem_range.1 hi))]
  rw [e1]
  conv => rhs; rw [hmap]
  rw [List.filter_map]
  congr 1
  refine List.filter_congr (fun i _ => ?_)
  show _ = (((List.range L.length).map fun j => L.getD j 0).all fun b => b == L.getD i 0 || !(less (L.getD i 0) b == 0))
  rw [← hmap]
theorem less_sub (a b : Nat) : less a b = 0 ↔ b &&& a = a := by
  constructor
  · intro h
    refine Nat.eq_of_testBit_eq (fun i => ?_)
    have : (less a b).testBit i = false := by rw [h]; exact Nat.zero_testBit i
    rw [less_bit] at this
    rw [Nat.testBit_and]
    cases ha : a.testBit i <;> cases hb : b.testBit i <;> simp_all
  · intro h
    refine Nat.eq_of_testBit_eq (fun i => ?_)
    rw [less_bit, Nat.zero_testBit]
    have : (b &&& a).testBit i = a.testBit i := by rw [h]
    rw [Nat.testBit_and] at this
    cases ha : a.testBit i <;> cases hb : b.testBit i <;> simp_all
theorem prefs_eq (n : Int) (l : List IA) : mosts (picked (adm n l) (top n)) (picked (adm n l) (top n)).length = picked (pref n l) (top n) := by
  have hnd : (picked (adm n l) (top n)).Nodup := List.Pairwise.filter _ List.nodup_range
  rw [mosts_filter _ hnd]
  unfold picked
  rw [List.filter_filter]
  refine List.filter_congr (fun m hm => ?_)
  unfold pref
  rw [Bool.and_comm]
  congr 1
  rw [Bool.eq_iff_iff, List.all_eq_true, List.all_eq_true]
  constructor
  · intro h o ho
    unfold beats
    cases ha : adm n l o with
    | false => simp
    | true =>
      have := h o (List.mem_filter.2 ⟨ho, ha⟩)
      rcases Bool.or_eq_true _ _ ▸ this with h1 | h1
      · simp [h1]
      · have h2 : ¬ less m o = 0 := by simpa using h1
        rw [less_sub] at h2
        simp [h2]
  · intro h o ho
    obtain ⟨ho, ha⟩ := List.mem_filter.1 ho
    have := h o ho
    unfold beats at this
    rw [ha] at this
    by_cases c : o = m
    · simp [c]
    · by_cases c2 : o &&& m = m
      · simp [c, c2] at this
      · have : ¬ less m o = 0 := fun e => c2 ((less_sub m o).1 e)
        simp [this]
theorem specPref_ev (n : Int) (l : List IA) (hl : l.length ≤ 1048576) (hg : good n l = true) : Ev (fun k => spec_l22Preferred.f k n l) (nats (picked (pref n l) (top n))) := by
  have hN := top_le hg
  have hpl := picked_len (adm n l) (top n)
  rw [← prefs_eq]
  unfold spec_l22Preferred.f
  refine adms_loop n l hl hg _ ?_ 0 (Nat.zero_le _)
  exact mosts_loop _ (by omega) (fun m hm => by have := (picked_mem hm).1; omega) 0 (Nat.zero_le _)

/-! the list of preferred sets -/
theorem lists_loop (S : List Nat) (hS : S.length ≤ 1024) (hs : ∀ m ∈ S, m < 1024) : ∀ i, i ≤ S.length → Ev (fun k => spec_PreferredSets.l0 k ((S.take i).map fun m => bl m 10) (nats S) (i : Int)) (S.map (fun m => bl m 10), true) := by
  have hn := nats_len S
  refine down S.length ?_ (fun i hi ih => ?_)
  · refine Ev.step (f := fun _ => some (S.map (fun m => bl m 10), true)) (fun k => ?_) (Ev.now _)
    simp only [spec_PreferredSets.l0]
    rw [if_neg (by omega), List.take_length]
  · have hm := all_getD S (· < 1024) hs (by decide) i
    have hlen : ((S.take i).map fun m => bl m 10).length < 5864062014805 := by rw [List.length_map, List.length_take]; omega
    refine Ev.step (f := fun k => (spec_l22List.f k ((S.getD i 0 : Nat) : Int)).bind fun r => spec_PreferredSets.l0 k ((S.take i).map (fun m => bl m 10) ++ [r]) (nats S) ((i + 1 : Nat) : Int)) (fun k => ?_) ?_
    · simp only [spec_PreferredSets.l0]
      rw [if_pos (by omega), if_pos (by omega), nats_getD, w64s (by omega)]
      simp only [if_pos hlen]
    · refine Ev.bind (specBits_ev _ (by omega)) ?_
      rw [take_getD S i hi 0, List.map_append] at ih
      exact ih
theorem specPrefSets_ev (n : Int) (l : List IA) (hl : l.length ≤ 1048576) : Ev (fun k => spec_PreferredSets.f k n l) (if good n l = true then ((picked (pref n l) (top n)).map (fun m => bl m 10), true) else ([], false)) := by
  unfold spec_PreferredSets.f
  simp only [Option.bind_some]
  refine Ev.bind (spec_ev n l hl) ?_
  cases hg : good n l with
  | false => exact Ev.now _
  | true =>
    simp only [if_true]
    have hN := top_le hg
    have hpl := picked_len (pref n l) (top n)
    refine Ev.bind (specPref_ev n l hl hg) ?_
    exact lists_loop _ (by omega) (fun m hm => by have := (picked_mem hm).1; omega) 0 (Nat.zero_le _)

/-! the reference's draws: what they give, and that they end -/
def codeOk (c : List Int) : Prop := c.length ≤ 65536 ∧ ∀ x ∈ c, 0 ≤ x ∧ x ≤ 255
theorem u64_bd (x : Int) : 0 ≤ IntKind.u64.wrap x ∧ IntKind.u64.wrap x < 18446744073709551616 := by
  have h : IntKind.u64.wrap x = x % 18446744073709551616 := by simp [IntKind.wrap, IntKind.bits, IntKind.signed]
  omega
theorem and255 (x : Int) (h0 : 0 ≤ x) (h1 : x < 2 ^ 62) : 0 ≤ Go.bits .and .u64 x 255 ∧ Go.bits .and .u64 x 255 ≤ 255 := by
  obtain ⟨n, rfl⟩ := Int.eq_ofNat_of_zero_le h0
  have hb : Go.bits .and .u64 (n : Int) ((255 : Nat) : Int) = ((n &&& 255 : Nat) : Int) := (bits_nat .u64 62 (by decide) wrap_u64_small n 255 (by omega) (by decide)).1
  have e : (255 : Int) = ((255 : Nat) : Int) := rfl
  rw [e, hb]
  have := Nat.and_le_right (n := n) (m := 255)
  omega
theorem rd_ok {c : List Int} (hc : codeOk c) (a : Int) : 0 ≤ rd c a ∧ rd c a ≤ 255 := by
  show 0 ≤ c.getD a.toNat 0 ∧ c.getD a.toNat 0 ≤ 255
  rw [List.getD_eq_getElem?_getD]
  cases e : c[a.toNat]? with
  | none => exact ⟨by simp, by simp⟩
  | some x => exact hc.2 x (List.mem_of_getElem? e)
theorem next_ok {c : List Int} (hc : codeOk c) (a s : Int) (h0 : 0 ≤ a) (h1 : a ≤ 100000) : ∃ v s', spec_l1Cur_next.f c a s = some (v, a + 1, s') ∧ 0 ≤ v ∧ v ≤ 255 := by
  have hr := rd_ok hc a
  have hl := hc.1
  unfold spec_l1Cur_next.f
  rw [w64 (x := a + 1) (by omega) (by omega)]
  by_cases h : a < (c.length : Int)
  · rw [if_pos h, if_pos h0, if_pos (by omega)]
    exact ⟨_, _, rfl, by rw [w64 (by omega) (by omega)]; exact hr.1, by rw [w64 (by omega) (by omega)]; exact hr.2⟩
  · rw [if_neg h, if_neg (by omega)]
    have hu := u64_bd (IntKind.u64.wrap (IntKind.u64.wrap (s * 6364136223846793005) + 0) + 902902)
    have hb := and255 (IntKind.u64.wrap (IntKind.u64.wrap (IntKind.u64.wrap (s * 6364136223846793005) + 0) + 902902) / 1099511627776) (by omega) (by omega)
    exact ⟨_, _, rfl, by rw [w64 (by omega) (by omega)]; exact hb.1, by rw [w64 (by omega) (by omega)]; exact hb.2⟩
theorem pick_ok {c : List Int} (hc : codeOk c) (a s n : Int) (h0 : 0 ≤ a) (h1 : a ≤ 100000) (n0 : 1 ≤ n) (n1 : n ≤ 200) : ∃ v a' s', spec_l1Cur_pick.f c a s n = some (v, a', s') ∧ 0 ≤ v ∧ v < n ∧ a ≤ a' ∧ a' ≤ a + 1 := by
  unfold spec_l1Cur_pick.f
  by_cases h : n ≤ 1
  · rw [if_pos h]
    exact ⟨0, a, s, rfl, by omega, by omega, by omega, by omega⟩
  · obtain ⟨v, s', e, v0, v1⟩ := next_ok hc a s h0 h1
    rw [if_neg h, e, Option.bind_some, if_neg (by omega), if_neg (by omega)]
    refine ⟨Int.tmod v n, a + 1, s', rfl, ?_, ?_, by omega, by omega⟩
    · rw [Int.tmod_eq_emod_of_nonneg v0]; exact Int.emod_nonneg _ (by omega)
    · rw [Int.tmod_eq_emod_of_nonneg v0]; exact Int.emod_lt_of_pos _ (by omega)
theorem one_ok {c : List Int} (hc : codeOk c) (a s n : Int) (h0 : 0 ≤ a) (h1 : a ≤ 100000) (n0 : 1 ≤ n) (n1 : n ≤ 200) : ∃ b a' s', spec_l1Cur_one.f c a s n = some (b, a', s') ∧ a ≤ a' ∧ a' ≤ a + 1 := by
  obtain ⟨v, a', s', e, _, _, a0, a1⟩ := pick_ok hc a s n h0 h1 n0 n1
  unfold spec_l1Cur_one.f
  rw [e]
  exact ⟨_, _, _, rfl, a0, a1⟩
theorem among_ok {c : List Int} (hc : codeOk c) (a s : Int) (l : List Int) (h0 : 0 ≤ a) (h1 : a ≤ 100000) (n0 : 1 ≤ l.length) (n1 : l.length ≤ 200) : ∃ v a' s', spec_l1Cur_among.f c a s l = some (v, a', s') ∧ v ∈ l ∧ a ≤ a' ∧ a' ≤ a + 1 := by
  obtain ⟨v, a', s', e, v0, v1, a0, a1⟩ := pick_ok hc a s (l.length : Int) h0 h1 (by omega) (by omega)
  unfold spec_l1Cur_among.f
  rw [e, Option.bind_some, if_pos v0, if_pos v1]
  refine ⟨rd l v, a', s', rfl, ?_, a0, a1⟩
  show l.getD v.toNat 0 ∈ l
  exact getD_mem l v.toNat (by omega) 0
def okF (N : Int) (R : Int × List IA × Int × Int) : Prop := R.1 = N ∧ R.2.1.length ≤ 100 ∧ 0 ≤ R.2.2.1 ∧ R.2.2.1 ≤ 300
theorem inner_ok {c : List Int} (hc : codeOk c) (N : Nat) (hN : N ≤ 10) (often : Int) (o0 : 1 ≤ often) (o1 : often ≤ 200) (i : Nat) (hi : i < N) (hnext : ∀ (a s : Int) (L : List IA), 0 ≤ a → a ≤ 2 + 2 * (10 * ((i : Int) + 1)) → L.length ≤ 10 * (i + 1) → ∃ R, Ev (fun k => spec_l1Cur_framework.l0 k often ((i + 1 : Nat) : Int) c a s (N : Int) L) R ∧ okF N R) :
    ∀ j, j ≤ N → ∀ (a s : Int) (L : List IA), 0 ≤ a → a ≤ 2 + 2 * (10 * (i : Int) + (j : Int)) → L.length ≤ 10 * i + j → ∃ R, Ev (fun k => spec_l1Cur_framework.l1 k often (i : Int) (j : Int) c a s (N : Int) L) R ∧ okF N R := by
  refine down N ?_ (fun j hj ih => ?_)
  · intro a s L h0 h1 hL
    obtain ⟨R, hR, ho⟩ := hnext a s L h0 (by omega) (by omega)
    refine ⟨R, Ev.step (fun k => ?_) hR, ho⟩
    simp only [spec_l1Cur_framework.l1]
    rw [if_neg (by omega), w64s (by omega)]
  · intro a s L h0 h1 hL
    obtain ⟨b, a', s', e, a0, a1⟩ := one_ok hc a s often h0 (by omega) o0 o1
    have hx : wrap64 ((j : Int) + 1) = ((j + 1 : Nat) : Int) := w64s (by omega)
    cases b with
    | false =>
      obtain ⟨R, hR, ho⟩ := ih a' s' L (by omega) (by omega) (by omega)
      refine ⟨R, Ev.step (fun k => ?_) hR, ho⟩
      simp only [spec_l1Cur_framework.l1]
      rw [if_pos (by omega), e, Option.bind_some, hx]
      rfl
    | true =>
      by_cases hij : (i : Int) = (j : Int)
      · obtain ⟨b2, a2, s2, e2, a20, a21⟩ := one_ok hc a' s' 4 (by omega) (by omega) (by omega) (by omega)
        cases b2 with
        | false =>
          obtain ⟨R, hR, ho⟩ := ih a2 s2 L (by omega) (by omega) (by omega)
          refine ⟨R, Ev.step (fun k => ?_) hR, ho⟩
          simp only [spec_l1Cur_framework.l1]
          rw [if_pos (by omega), e, Option.bind_some]
          simp only [if_true, if_pos hij, e2, Option.bind_some, hx]
          rfl
        | true =>
          obtain ⟨R, hR, ho⟩ := ih a2 s2 (L ++ [⟨(i : Int), (j : Int)⟩]) (by omega) (by omega) (by simp; omega)
          refine ⟨R, Ev.step (fun k => ?_) hR, ho⟩
          simp only [spec_l1Cur_framework.l1]
          rw [if_pos (by omega), e, Option.bind_some]
          simp only [if_true, if_pos hij, e2, Option.bind_some, hx, if_pos (show L.length < 8796093022208 by omega)]
      · obtain ⟨R, hR, ho⟩ := ih a' s' (L ++ [⟨(i : Int), (j : Int)⟩]) (by omega) (by omega) (by simp; omega)
        refine ⟨R, Ev.step (fun k => ?_) hR, ho⟩
        simp only [spec_l1Cur_framework.l1]
        rw [if_pos (by omega), e, Option.bind_some]
        simp only [if_true, if_neg hij, hx, if_pos (show L.length < 8796093022208 by omega)]
theorem outer_ok {c : List Int} (hc : codeOk c) (N : Nat) (hN : N ≤ 10) (often : Int) (o0 : 1 ≤ often) (o1 : often ≤ 200) :
    ∀ i, i ≤ N → ∀ (a s : Int) (L : List IA), 0 ≤ a → a ≤ 2 + 2 * (10 * (i : Int)) → L.length ≤ 10 * i → ∃ R, Ev (fun k => spec_l1Cur_framework.l0 k often (i : Int) c a s (N : Int) L) R ∧ okF N R := by
  refine down N ?_ (fun i hi ih => ?_)
  · intro a s L h0 h1 hL
    refine ⟨((N : Int), L, a, s), ?_, rfl, by dsimp only; omega, h0, by dsimp only; omega⟩
    exact Ev.step (f := fun _ => some ((N : Int), L, a, s)) (fun k => by simp only [spec_l1Cur_framework.l0]; rw [if_neg (by omega)]) (Ev.now _)
  · intro a s L h0 h1 hL
    obtain ⟨R, hR, ho⟩ := inner_ok hc N hN often o0 o1 i hi (fun a s L h0 h1 hL => ih a s L h0 (by omega) hL) 0 (Nat.zero_le _) a s L h0 (by omega) (by omega)
    refine ⟨R, Ev.step (fun k => ?_) hR, ho⟩
    simp only [spec_l1Cur_framework.l0]
    rw [if_pos (by omega)]
    rfl
theorem frame_ok {c : List Int} (hc : codeOk c) (a s : Int) (ha0 : a = 0) : ∃ (N : Nat) (R : Int × List IA × Int × Int), N ≤ 10 ∧ Ev (fun k => spec_l1Cur_framework.f k c a s) R ∧ okF N R := by
  subst ha0
  obtain ⟨v, a1, s1, e1, hv, b0, b1⟩ := among_ok hc 0 s [1, 2, 3, 4, 5, 6, 0, 10] (by omega) (by omega) (by decide) (by decide)
  obtain ⟨o, a2, s2, e2, ho, b2, b3⟩ := among_ok hc a1 s1 [2, 3, 4, 6] (by omega) (by omega) (by decide) (by decide)
  have hv' : 0 ≤ v ∧ v ≤ 10 := by simp at hv; omega
  have ho' : 1 ≤ o ∧ o ≤ 200 := by simp at ho; omega
  obtain ⟨R, hR, hk⟩ := outer_ok hc v.toNat (by omega) o ho'.1 ho'.2 0 (Nat.zero_le _) a2 s2 [] (by omega) (by omega) (by simp)
  rw [show ((v.toNat : Nat) : Int) = v by omega] at hR
  refine ⟨v.toNat, R, by omega, ?_, hk⟩
  unfold spec_l1Cur_framework.f
  simp only [e1, e2, Option.bind_some]
  exact hR

theorem rIn_loop (s : List Int) (hs : s.length ≤ 1048576) (a : Int) : ∀ i, i ≤ s.length → Ev (fun k => laws_rIn.l0 k s a (i : Int)) ((s.drop i).contains a) := by
  refine down s.length ?_ (fun i hi ih => ?_)
  · rw [List.drop_length]
    exact Ev.step (f := fun _ => some false) (fun k => by simp only [laws_rIn.l0]; rw [if_neg (by omega)]) (Ev.now _)
  · rw [drop_getD s i hi 0, List.contains_cons]
    have hx := rd_nat s i
    generalize s.getD i 0 = x at hx ⊢
    by_cases c : x = a
    · rw [show (a == x) = true by simp [c], Bool.true_or]
      refine Ev.step (f := fun _ => some true) (fun k => ?_) (Ev.now _)
      simp only [laws_rIn.l0]
      rw [if_pos (by omega), if_pos (by omega), hx, if_pos c]
    · rw [show (a == x) = false by simp [Ne.symm c], Bool.false_or]
      refine Ev.step (fun k => ?_) ih
      simp only [laws_rIn.l0]
      rw [if_pos (by omega), if_pos (by omega), hx, if_neg c, w64s (by omega)]
theorem rIn_ev (s : List Int) (hs : s.length ≤ 1048576) (a : Int) : Ev (fun k => laws_rIn.f k s a) (s.contains a) := by
  have := rIn_loop s hs a 0 (Nat.zero_le _)
  rw [List.drop_zero] at this
  exact this

/-! what the reference draws for the law -/
theorem any_ok {c : List Int} (hc : codeOk c) : ∃ (n : Int) (l : List IA) (a s : Int), Ev (fun k => spec_l1Cur_anyFramework.f k c 0 0) (n, l, a, s) ∧ l.length ≤ 1048576 ∧ 0 ≤ a ∧ a ≤ 400 := by
  obtain ⟨N, ⟨n0, L, a, s⟩, hN, hR, hk⟩ := frame_ok hc 0 0 rfl
  obtain ⟨k1, k2, k3, k4⟩ := hk
  dsimp only at k1 k2 k3 k4
  obtain ⟨v, a1, s1, e1, v0, v1, b0, b1⟩ := pick_ok hc a s 30 k3 (by omega) (by omega) (by omega)
  unfold spec_l1Cur_anyFramework.f
  by_cases h : v = 0
  · obtain ⟨u, a2, s2, e2, _, b2, b3⟩ := among_ok hc a1 s1 [-1, 11, 1] (by omega) (by omega) (by decide) (by decide)
    refine ⟨u, L, a2, s2, Ev.bind hR ?_, by omega, by omega, by omega⟩
    simp only [e1, Option.bind_some, if_pos h, e2]
    exact Ev.now _
  · by_cases h1 : v = 1
    · obtain ⟨u, a2, s2, e2, _, _, b2, b3⟩ := pick_ok hc a1 s1 3 (by omega) (by omega) (by omega) (by omega)
      refine ⟨n0, L ++ [⟨0, wrap64 (u - 1)⟩], a2, s2, Ev.bind hR ?_, by simp; omega, by omega, by omega⟩
      simp only [e1, Option.bind_some, if_neg h, if_pos h1, e2, if_pos (show L.length < 8796093022208 by omega)]
      exact Ev.now _
    · refine ⟨n0, L, a1, s1, Ev.bind hR ?_, by omega, by omega, by omega⟩
      simp only [e1, Option.bind_some, if_neg h, if_neg h1]
      exact Ev.now _
def okA (R : List Int × Int × Int) : Prop := R.1.length ≤ 100
theorem args_end {c : List Int} (hc : codeOk c) (n : Int) (l : List IA) (out : List Int) (i : Int) (a s : Int) (h0 : 0 ≤ a) (h1 : a ≤ 1000) (ho : out.length ≤ 50) : ∃ R, Ev (fun k => spec_l1Cur_arguments.j1 k out i false c a s n l) R ∧ okA R := by
  obtain ⟨b, a1, s1, e1, b0, b1⟩ := one_ok hc a s 30 h0 (by omega) (by omega) (by omega)
  cases b with
  | false =>
    refine ⟨(out, a1, s1), Ev.step (f := fun _ => some (out, a1, s1)) (fun k => ?_) (Ev.now _), by unfold okA; dsimp only; omega⟩
    simp only [spec_l1Cur_arguments.j1, Bool.false_eq_true, if_false, e1, Option.bind_some]
  | true =>
    obtain ⟨u, a2, s2, e2, _, _, b2, b3⟩ := pick_ok hc a1 s1 4 (by omega) (by omega) (by omega) (by omega)
    refine ⟨(out ++ [wrap64 (u - 1)], a2, s2), Ev.step (f := fun _ => some (out ++ [wrap64 (u - 1)], a2, s2)) (fun k => ?_) (Ev.now _), by unfold okA; simp; omega⟩
    simp only [spec_l1Cur_arguments.j1, Bool.false_eq_true, if_false, if_true, e1, Option.bind_some, e2, if_pos (show out.length < 17592186044416 by omega)]
theorem args_loop {c : List Int} (hc : codeOk c) (n : Int) (l : List IA) (hl : l.length ≤ 1048576) : ∀ i : Nat, i ≤ 10 → ∀ (a s : Int) (out : List Int), 0 ≤ a → a ≤ 500 + 4 * (i : Int) → out.length ≤ i → (∀ x ∈ out, 0 ≤ x ∧ x ≤ 9) → ∃ R, Ev (fun k => spec_l1Cur_arguments.l0 k out (i : Int) c a s n l) R ∧ okA R := by
  refine down 10 ?_ (fun i hi ih => ?_)
  · intro a s out h0 h1 ho _
    obtain ⟨R, hR, hk⟩ := args_end hc n l out (((10 : Nat) : Int)) a s h0 (by omega) (by omega)
    refine ⟨R, Ev.step (fun k => ?_) hR, hk⟩
    simp only [spec_l1Cur_arguments.l0]
    split <;> rfl
  · intro a s out h0 h1 ho hm
    by_cases hin : (i : Int) < n
    · obtain ⟨b, a1, s1, e1, b0, b1⟩ := one_ok hc a s 2 h0 (by omega) (by omega) (by omega)
      have hw : wrap64 ((i : Int) + 1) = ((i + 1 : Nat) : Int) := w64s (by omega)
      have first : ∀ R, Ev (fun k => spec_l1Cur_arguments.j1 k out (i : Int) true c a s n l) R → Ev (fun k => spec_l1Cur_arguments.l0 k out (i : Int) c a s n l) R := fun R hR => Ev.step (fun k => by
        simp only [spec_l1Cur_arguments.l0]
        rw [if_pos hin, decide_eq_true (by omega)]) hR
      cases b with
      | false =>
        obtain ⟨R, hR, hk⟩ := ih a1 s1 out (by omega) (by omega) (by omega) hm
        refine ⟨R, first R (Ev.step (fun k => ?_) hR), hk⟩
        simp only [spec_l1Cur_arguments.j1, if_true, e1, Option.bind_some, Bool.false_eq_true, if_false, hw]
      | true =>
        have hown : spec_l1Own.f out = some out := by
          unfold spec_l1Own.f
          rw [Option.bind_some, if_pos (by simp; omega), List.nil_append]
        obtain ⟨b2, a2, s2, e2, b3, b4⟩ := one_ok hc a1 s1 5 (by omega) (by omega) (by omega) (by omega)
        have hm2 : ∀ x ∈ out ++ [(i : Int)], 0 ≤ x ∧ x ≤ 9 := by
          intro x hx
          rcases List.mem_append.1 hx with h | h
          · exact hm x h
          · rw [List.mem_singleton.1 h]; omega
        have hlen : (out ++ [(i : Int)]).length ≤ i + 1 := by simp; omega
        obtain ⟨R1, hR1, hk1⟩ := ih a2 s2 (out ++ [(i : Int)]) (by omega) (by omega) hlen hm2
        obtain ⟨R2, hR2, hk2⟩ := ih a2 s2 out (by omega) (by omega) (by omega) hm
        have second : ∀ R, Ev (fun k => if b2 = true then spec_l1Cur_arguments.l0 k (out ++ [(i : Int)]) ((i + 1 : Nat) : Int) c a2 s2 n l else (spec_l22Good.f k n l).bind fun t278 => if t278 = true then (spec_l22Mask.f k (out ++ [(i : Int)])).bind fun t279 => (spec_l22Free.f k n l t279).bind fun t280 => if t280 = true then spec_l1Cur_arguments.l0 k (out ++ [(i : Int)]) ((i + 1 : Nat) : Int) c a2 s2 n l else spec_l1Cur_arguments.l0 k out ((i + 1 : Nat) : Int) c a2 s2 n l else spec_l1Cur_arguments.l0 k out ((i + 1 : Nat) : Int) c a2 s2 n l) R → Ev (fun k => spec_l1Cur_arguments.j1 k out (i : Int) true c a s n l) R := fun R hR => Ev.step (fun k => by
          simp only [spec_l1Cur_arguments.j1, if_true, e1, Option.bind_some, hown, if_pos (show out.length < 17592186044416 by omega), e2, hw]) hR
        cases b2 with
        | true => exact ⟨R1, first R1 (second R1 hR1), hk1⟩
        | false =>
          have hG := spec_ev n l hl
          cases hg : good n l with
          | false =>
            rw [hg] at hG
            exact ⟨R2, first R2 (second R2 (Ev.bind hG hR2)), hk2⟩
          | true =>
            rw [hg] at hG
            have hM := specMask_ev (out ++ [(i : Int)]) (by omega) hm2
            have hF := specFree_ev n l hl hg (mask (out ++ [(i : Int)])) (small62 (mask_lt hm2))
            cases hf : free l (mask (out ++ [(i : Int)])) with
            | true =>
              rw [hf] at hF
              exact ⟨R1, first R1 (second R1 (Ev.bind hG (Ev.bind hM (Ev.bind hF hR1)))), hk1⟩
            | false =>
              rw [hf] at hF
              exact ⟨R2, first R2 (second R2 (Ev.bind hG (Ev.bind hM (Ev.bind hF hR2)))), hk2⟩
    · obtain ⟨R, hR, hk⟩ := args_end hc n l out (i : Int) a s h0 (by omega) (by omega)
      refine ⟨R, Ev.step (fun k => ?_) hR, hk⟩
      simp only [spec_l1Cur_arguments.l0]
      rw [if_neg hin]
theorem pick_big {c : List Int} (hc : codeOk c) (a s n : Int) (h0 : 0 ≤ a) (h1 : a ≤ 1000) (n0 : 1 ≤ n) (n1 : n ≤ 2000) : ∃ v a' s', spec_l1Cur_pick.f c a s n = some (v, a', s') ∧ 0 ≤ v ∧ v < n := by
  by_cases h : n ≤ 200
  · obtain ⟨v, a', s', e, v0, v1, _, _⟩ := pick_ok hc a s n h0 (by omega) n0 h
    exact ⟨v, a', s', e, v0, v1⟩
  · obtain ⟨v, s1, e1, v0, v1⟩ := next_ok hc a s h0 (by omega)
    obtain ⟨u, s2, e2, u0, u1⟩ := next_ok hc (a + 1) s1 (by omega) (by omega)
    unfold spec_l1Cur_pick.f
    rw [if_neg (by omega), e1, Option.bind_some, if_pos (by omega), e2, Option.bind_some, if_neg (by omega), w64 (x := v * 256) (by omega) (by omega), w64 (by omega) (by omega)]
    refine ⟨_, _, _, rfl, ?_, ?_⟩
    · rw [Int.tmod_eq_emod_of_nonneg (by omega)]; exact Int.emod_nonneg _ (by omega)
    · rw [Int.tmod_eq_emod_of_nonneg (by omega)]; exact Int.emod_lt_of_pos _ (by omega)
theorem rows_get (p : Nat → Bool) (n : Int) (i : Int) : (rd_L3 ((picked p (top n)).map fun m => bl m 10) i).length ≤ 10 := by
  show (((picked p (top n)).map fun m => bl m 10).getD i.toNat []).length ≤ 10
  rw [List.getD_eq_getElem?_getD, List.getElem?_map]
  cases (picked p (top n))[i.toNat]? with
  | none => simp
  | some m => exact bl_len m 10
theorem draw_ok {c : List Int} (hc : codeOk c) : ∃ (n : Int) (l : List IA) (s : List Int), Ev (fun k => spec_DrawIsAdmissible.f k c) (n, l, s) ∧ l.length ≤ 1048576 ∧ s.length ≤ 1048576 := by
  obtain ⟨n, l, a, s, hA, hl, a0, a1⟩ := any_ok hc
  obtain ⟨⟨r, x, y⟩, hR, hk⟩ := args_loop hc n l hl 0 (Nat.zero_le _) a s [] a0 (by omega) (by simp) (fun x hx => by cases hx)
  unfold okA at hk
  dsimp only at hk
  have hD : Ev (fun k => spec_DrawIsConflictFree.f k c) (n, l, r) := by
    unfold spec_DrawIsConflictFree.f spec_l1Cur_arguments.f
    exact Ev.bind hA (Ev.bind hR (Ev.now _))
  have hP := specPrefSets_ev n l hl
  have hS : Ev (fun k => spec_l22Sets.f k n l) (if good n l = true then (picked (pref n l) (top n)).map (fun m => bl m 10) else []) := by
    unfold spec_l22Sets.f
    refine Ev.bind hP ?_
    cases good n l <;> exact Ev.now _
  unfold spec_DrawIsAdmissible.f
  cases hg : good n l with
  | false =>
    rw [hg] at hS
    refine ⟨n, l, r, Ev.bind hD (Ev.bind hS ?_), hl, by omega⟩
    exact Ev.now _
  | true =>
    rw [hg] at hS
    have hlen : ((picked (pref n l) (top n)).map fun m => bl m 10).length ≤ 1024 := by
      rw [List.length_map]
      exact Nat.le_trans (picked_len _ _) (top_le hg)
    by_cases hpos : (((picked (pref n l) (top n)).map fun m => bl m 10).length : Int) > 0
    · obtain ⟨b, a2, s2, e2, b0, b1⟩ := one_ok hc 0 0 3 (by omega) (by omega) (by omega) (by omega)
      cases b with
      | false =>
        refine ⟨n, l, r, Ev.bind hD (Ev.bind hS ?_), hl, by omega⟩
        simp only [if_true, if_pos hpos, e2, Option.bind_some, Bool.false_eq_true, if_false]
        exact Ev.now _
      | true =>
        obtain ⟨v, a3, s3, e3, v0, v1⟩ := pick_big hc a2 s2 (((picked (pref n l) (top n)).map fun m => bl m 10).length : Int) b0 (by omega) (by omega) (by omega)
        have hrow := rows_get (pref n l) n v
        refine ⟨n, l, rd_L3 ((picked (pref n l) (top n)).map fun m => bl m 10) v, Ev.bind hD (Ev.bind hS ?_), hl, by omega⟩
        simp only [if_true, if_pos hpos, e2, Option.bind_some, e3, if_pos v0, if_pos v1]
        exact Ev.now _
    · refine ⟨n, l, r, Ev.bind hD (Ev.bind hS ?_), hl, by omega⟩
      simp only [if_true, if_neg hpos]
      exact Ev.now _

/-! the law -/
def two (p : Int → List IA → Nat → Bool) (n : Int) (l : List IA) (s : List Int) : Bool × Bool := if setOk n l s = true then (p n l (mask s), true) else (false, false)
theorem specA_ev (n : Int) (l : List IA) (s : List Int) (hl : l.length ≤ 1048576) (hs : s.length ≤ 1048576) : Ev (fun k => spec_IsAdmissible.f k n l s) (two adm n l s) := by
  unfold spec_IsAdmissible.f two
  refine Ev.bind (specSet_ev n l s hl hs) ?_
  cases h : setOk n l s with
  | false => exact Ev.now _
  | true =>
    simp only [if_true]
    exact Ev.bind (specMask_ev s hs (set_mem h)) (Ev.bind (specAdm_ev n l hl (setOk_good h) (mask s) (small62 (mask_lt (set_mem h)))) (Ev.now _))
theorem implA_ev (n : Int) (l : List IA) (s : List Int) (hl : l.length ≤ 1048576) (hs : s.length ≤ 1048576) : Ev (fun k => impl_IsAdmissible.f k n l s) (two adm n l s) := by
  unfold impl_IsAdmissible.f two
  refine Ev.bind (numberOf_ev n l s hl hs) ?_
  unfold numOf
  cases h : setOk n l s with
  | false => exact Ev.now _
  | true =>
    simp only [if_true]
    exact Ev.bind (implAdm_ev n l hl (setOk_good h) (mask s) (small62 (mask_lt (set_mem h)))) (Ev.now _)
theorem implF_ev (n : Int) (l : List IA) (s : List Int) (hl : l.length ≤ 1048576) (hs : s.length ≤ 1048576) : Ev (fun k => impl_IsConflictFree.f k n l s) (two (fun _ l m => free l m) n l s) := by
  unfold impl_IsConflictFree.f two
  refine Ev.bind (numberOf_ev n l s hl hs) ?_
  unfold numOf
  cases h : setOk n l s with
  | false => exact Ev.now _
  | true =>
    simp only [if_true]
    exact Ev.bind (implFree_ev n l hl (setOk_good h) (mask s) (small62 (mask_lt (set_mem h)))) (Ev.now _)
theorem mask_in {s : List Int} (hs : ∀ a ∈ s, 0 ≤ a ∧ a ≤ 9) (i : Nat) : (mask s).testBit i = s.contains (i : Int) := by
  rw [mask_bit, Bool.eq_iff_iff, List.any_eq_true, List.contains_iff_mem]
  constructor
  · rintro ⟨a, ha, hd⟩
    have := hs a ha
    have := of_decide_eq_true hd
    have e : a = (i : Int) := by omega
    rw [← e]; exact ha
  · intro ha
    exact ⟨_, ha, by simp⟩
/-- Whether all elements from i on are defended. -/
def alld (d : Nat) (s : List Int) : Bool := s.all fun a => d.testBit a.toNat
theorem all_sub {s : List Int} (hs : ∀ a ∈ s, 0 ≤ a ∧ a ≤ 9) (d : Nat) : alld d s = true ↔ sub (mask s) d := by
  unfold alld
  rw [List.all_eq_true]
  constructor
  · intro h i hi
    rw [mask_in hs, List.contains_iff_mem] at hi
    have := h _ hi
    rwa [Int.toNat_natCast] at this
  · intro h a ha
    have := hs a ha
    refine h _ ?_
    rw [mask_in hs, List.contains_iff_mem, show ((a.toNat : Nat) : Int) = a by omega]
    exact ha
theorem adm_all (n : Int) (l : List IA) {s : List Int} (hs : ∀ a ∈ s, 0 ≤ a ∧ a ≤ 9) : adm n l (mask s) = (free l (mask s) && alld (dfn n l (mask s)) s) := by
  rw [Bool.eq_iff_iff, adm_iff, Bool.and_eq_true, all_sub hs]
theorem marks_loop (n : Int) (l : List IA) (hl : l.length ≤ 1048576) (hg : good n l = true) (s : List Int) (hs : s.length ≤ 1048576) (hm : ∀ a ∈ s, 0 ≤ a ∧ a ≤ 9) (hf : free l (mask s) = true) (i : Nat) (hi : i < n.toNat)
    (next : Ev (fun k => laws_FnAdmissible.l1 k s (labs s (att l (mask s)) n.toNat) ((i + 1 : Nat) : Int) n l) true) :
    ∀ j, j ≤ l.length → ∀ b : Bool, (b || (l.drop j).any (fun x => decide (x.f1 = (i : Int)) && s.contains x.f0)) = (att l (mask s)).testBit i → Ev (fun k => laws_FnAdmissible.l2 k s (labs s (att l (mask s)) n.toNat) (i : Int) b (j : Int) n l) true := by
  have hn := good_n hg
  have hll := labs_length s (att l (mask s)) n.toNat
  refine down l.length ?_ (fun j hj ih => ?_)
  · intro b hb
    rw [List.drop_length, List.any_nil, Bool.or_false] at hb
    have hlab : rd (labs s (att l (mask s)) n.toNat) (i : Int) = lab s (att l (mask s)) i := by
      show (labs s (att l (mask s)) n.toNat).getD i 0 = _
      unfold labs
      rw [List.getD_eq_getElem?_getD, List.getElem?_map, List.getElem?_range hi]
      rfl
    refine Ev.step (f := fun k => (laws_rIn.f k s (i : Int)).bind fun t => if ((lab s (att l (mask s)) i == 1) != t) = true then some false else if ((lab s (att l (mask s)) i == 2) != b) = true then some false else laws_FnAdmissible.l1 k s (labs s (att l (mask s)) n.toNat) ((i + 1 : Nat) : Int) n l) (fun k => ?_) ?_
    · simp only [laws_FnAdmissible.l2]
      rw [if_neg (by omega), if_pos (by omega), if_pos (by omega), hlab, w64s (by omega)]
    · refine Ev.bind (rIn_ev s hs _) ?_
      have hx : s.contains (i : Int) = true → (att l (mask s)).testBit i = true → False := by
        intro h1 h2
        rw [← mask_in hm] at h1
        obtain ⟨x, hx, hx0, hx1⟩ := (att_iff l (mask s) i).1 h2
        exact (free_iff l (mask s)).1 hf x hx hx0 (by rw [hx1]; exact h1)
      rw [hb]
      unfold lab
      cases h1 : s.contains (i : Int) with
      | true =>
        cases h2 : (att l (mask s)).testBit i with
        | true => exact (hx h1 h2).elim
        | false => exact next
      | false =>
        cases h2 : (att l (mask s)).testBit i with
        | true => exact next
        | false => exact next
  · intro b hb
    have hmem := getD_mem l j hj z65
    have hin := inR_iff.1 (good_mem hg _ hmem)
    rw [drop_getD l j hj z65, List.any_cons] at hb
    have hx : rd_T65 l (j : Int) = l.getD j z65 := rfl
    generalize l.getD j z65 = x at hx hin hb
    cases b with
    | true =>
      refine Ev.step (fun k => ?_) (ih true (by rw [← hb]; simp))
      simp only [laws_FnAdmissible.l2, if_true]
      rw [if_pos (by omega), w64s (by omega)]
    | false =>
      by_cases c : x.f1 = (i : Int)
      · rw [decide_eq_true c, Bool.true_and, Bool.false_or] at hb
        refine Ev.step (f := fun k => (laws_rIn.f k s x.f0).bind fun t => laws_FnAdmissible.l2 k s (labs s (att l (mask s)) n.toNat) (i : Int) t ((j + 1 : Nat) : Int) n l) (fun k => ?_) ?_
        · simp only [laws_FnAdmissible.l2, Bool.false_eq_true, if_false]
          rw [if_pos (by omega), if_pos (by omega), hx, if_pos c, w64s (by omega)]
        · exact Ev.bind (rIn_ev s hs _) (ih _ hb)
      · rw [decide_eq_false c, Bool.false_and, Bool.false_or] at hb
        refine Ev.step (fun k => ?_) (ih false (by rw [Bool.false_or]; exact hb))
        simp only [laws_FnAdmissible.l2, Bool.false_eq_true, if_false]
        rw [if_pos (by omega), if_pos (by omega), hx, if_neg c, w64s (by omega)]
theorem labs_loop (n : Int) (l : List IA) (hl : l.length ≤ 1048576) (hg : good n l = true) (s : List Int) (hs : s.length ≤ 1048576) (hm : ∀ a ∈ s, 0 ≤ a ∧ a ≤ 9) (hf : free l (mask s) = true) :
    ∀ i, i ≤ n.toNat → Ev (fun k => laws_FnAdmissible.l1 k s (labs s (att l (mask s)) n.toNat) (i : Int) n l) true := by
  have hn := good_n hg
  have hll := labs_length s (att l (mask s)) n.toNat
  refine down n.toNat ?_ (fun i hi ih => ?_)
  · refine Ev.step (f := fun _ => some true) (fun k => ?_) (Ev.now _)
    simp only [laws_FnAdmissible.l1]
    rw [if_neg (by omega), hll]
    congr 1
    rw [beq_iff_eq]
    omega
  · refine Ev.step (f := fun k => laws_FnAdmissible.l2 k s (labs s (att l (mask s)) n.toNat) (i : Int) false ((0 : Nat) : Int) n l) (fun k => by simp only [laws_FnAdmissible.l1]; rw [if_pos (by omega)]; rfl) ?_
    refine marks_loop n l hl hg s hs hm hf i hi ih 0 (Nat.zero_le _) false ?_
    rw [Bool.false_or, List.drop_zero, Bool.eq_iff_iff, List.any_eq_true, att_iff]
    constructor
    · rintro ⟨x, hx, h⟩
      rw [Bool.and_eq_true, decide_eq_true_eq] at h
      have hin := inR_iff.1 (good_mem hg x hx)
      refine ⟨x, hx, ?_, by omega⟩
      rw [mask_in hm, show ((x.f0.toNat : Nat) : Int) = x.f0 by omega]
      exact h.2
    · rintro ⟨x, hx, h1, h2⟩
      have hin := inR_iff.1 (good_mem hg x hx)
      rw [mask_in hm, show ((x.f0.toNat : Nat) : Int) = x.f0 by omega] at h1
      exact ⟨x, hx, by rw [Bool.and_eq_true, decide_eq_true_eq]; exact ⟨by omega, h1⟩⟩
theorem set_in {n : Int} {l : List IA} {s : List Int} (h : setOk n l s = true) : ∀ a ∈ s, 0 ≤ a ∧ a ≤ n - 1 := by
  unfold setOk at h
  rw [Bool.and_eq_true] at h
  exact rise_mem h.2
theorem defs_loop (n : Int) (l : List IA) (hl : l.length ≤ 1048576) (s : List Int) (hs : s.length ≤ 1048576) (h : setOk n l s = true) (yes fr : Bool)
    (last : ∀ all : Bool, all = alld (dfn n l (mask s)) s → Ev (fun k => if fr = true then laws_FnAdmissible.j2 k s fr (yes != all) n l else laws_FnAdmissible.j2 k s fr (yes != false) n l) true) :
    ∀ i, i ≤ s.length → ∀ b : Bool, (b && alld (dfn n l (mask s)) (s.drop i)) = alld (dfn n l (mask s)) s → Ev (fun k => laws_FnAdmissible.l0 k s yes fr b (i : Int) n l) true := by
  refine down s.length ?_ (fun i hi ih => ?_)
  · intro b hb
    rw [List.drop_length] at hb
    have hb' : b = alld (dfn n l (mask s)) s := by rw [← hb]; simp [alld]
    exact Ev.step (fun k => by simp only [laws_FnAdmissible.l0]; rw [if_neg (by omega)]) (last b hb')
  · intro b hb
    have hx := rd_nat s i
    have hm := set_in h _ (getD_mem s i hi 0)
    rw [drop_getD s i hi 0] at hb
    generalize s.getD i 0 = x at hx hm hb
    have hd := implD_ev n l s x hl hs
    unfold defAnswer at hd
    rw [if_pos h, if_pos (by simp; omega)] at hd
    have hb2 : ((if b = true then (dfn n l (mask s)).testBit x.toNat else false) && alld (dfn n l (mask s)) (s.drop (i + 1))) = alld (dfn n l (mask s)) s := by
      rw [← hb]
      unfold alld
      rw [List.all_cons]
      cases b <;> simp
    refine Ev.step (f := fun k => (impl_Defends.f k n l s x).bind fun bt => if bt.2 = true then (if b = true then laws_FnAdmissible.l0 k s yes fr bt.1 ((i + 1 : Nat) : Int) n l else laws_FnAdmissible.l0 k s yes fr false ((i + 1 : Nat) : Int) n l) else some false) (fun k => ?_) ?_
    · simp only [laws_FnAdmissible.l0]
      rw [if_pos (by omega), if_pos (by omega), hx, w64s (by omega)]
    · refine Ev.bind hd ?_
      simp only [if_true]
      cases b with
      | true =>
        simp only [if_true] at hb2 ⊢
        exact ih _ hb2
      | false =>
        simp only [Bool.false_eq_true, if_false] at hb2 ⊢
        exact ih _ hb2
theorem whole (c : List Int) (hc : ∀ x ∈ c, 0 ≤ x ∧ x ≤ 255) : Ev (fun k => laws_FnAdmissible.f k c) true := by
  unfold laws_FnAdmissible.f laws_vBig.f
  simp only [Option.bind_some]
  by_cases hl : (c.length : Int) > 65536
  · simp only [decide_eq_true hl, if_true]
    exact Ev.now _
  · simp only [decide_eq_false hl, Bool.false_eq_true, if_false]
    obtain ⟨n, l, s, hD, hll, hs⟩ := draw_ok (c := c) ⟨by omega, hc⟩
    have hA := implA_ev n l s hll hs
    have hF := implF_ev n l s hll hs
    have hS := specA_ev n l s hll hs
    unfold two at hA hF hS
    cases h : setOk n l s with
    | false =>
      rw [h] at hA hF hS
      refine Ev.bind hD (Ev.bind hA (Ev.bind hF (Ev.bind hS ?_)))
      simp only [Bool.false_eq_true, if_false, bne_self_eq_false]
      exact Ev.step (f := fun _ => some true) (fun k => by simp only [laws_FnAdmissible.j0]; rfl) (Ev.now _)
    | true =>
      rw [h] at hA hF hS
      have hg := setOk_good h
      have hm := set_mem h
      have hL := implL_ev n l s hll hs
      unfold labAnswer at hL
      rw [if_pos h] at hL
      refine Ev.bind hD (Ev.bind hA (Ev.bind hF (Ev.bind hS ?_)))
      simp only [if_true, Bool.false_eq_true, if_false, bne_self_eq_false]
      refine Ev.step (f := fun k => laws_FnAdmissible.l0 k s (adm n l (mask s)) (free l (mask s)) true ((0 : Nat) : Int) n l) (fun k => by simp only [laws_FnAdmissible.j0]; rfl) ?_
      refine defs_loop n l hll s hs h _ _ (fun all hall => ?_) 0 (Nat.zero_le _) true (by rw [Bool.true_and, List.drop_zero])
      have hy : adm n l (mask s) = (free l (mask s) && all) := by rw [hall]; exact adm_all n l hm
      have after : Ev (fun k => laws_FnAdmissible.j2 k s (free l (mask s)) false n l) true := by
        refine Ev.step (f := fun k => (impl_LabelArguments.f k n l s).bind fun bt => if (bt.2 != free l (mask s)) = true then laws_FnAdmissible.j3 k s (free l (mask s)) bt.1 bt.2 true n l else laws_FnAdmissible.j3 k s (free l (mask s)) bt.1 bt.2 (!bt.2) n l) (fun k => by simp only [laws_FnAdmissible.j2]; rfl) ?_
        refine Ev.bind hL ?_
        cases hf : free l (mask s) with
        | false =>
          simp only [Bool.false_eq_true, if_false, bne_self_eq_false]
          exact Ev.step (f := fun _ => some true) (fun k => by simp only [laws_FnAdmissible.j3]; rfl) (Ev.now _)
        | true =>
          simp only [if_true, Bool.false_eq_true, if_false, bne_self_eq_false]
          exact Ev.step (fun k => by simp only [laws_FnAdmissible.j3]; rfl) (labs_loop n l hll hg s hs hm hf 0 (Nat.zero_le _))
      cases hf : free l (mask s) with
      | true =>
        rw [hf] at hy after
        rw [Bool.true_and] at hy
        simp only [if_true, hy, bne_self_eq_false]
        exact after
      | false =>
        rw [hf] at hy after
        rw [Bool.false_and] at hy
        simp only [Bool.false_eq_true, if_false, hy, bne_self_eq_false]
        exact after
end Go.Proofs.Ytfhbnmlmobpjgaa.PureFnAdmissible
namespace Go.Proofs.Ytfhbnmlmobpjgaa.Pure
theorem FnAdmissible : PFnAdmissible.laws_FnAdmissible.Ask := fun c hc => (PureFnAdmissible.whole c (fun x hx => by have := hc.2.2 x hx; have h : IntKind.u8.min ≤ x ∧ x ≤ IntKind.u8.max := (by simpa [Go.Proofs.YtfhbnmlmobpjgaaOpen.bInt, Lit.wf] using this); exact h)).rounds
end Go.Proofs.Ytfhbnmlmobpjgaa.Pure
