/-
The plain law behind FnExactInterimAmount: the printed functions of the program and of the reference give the same values, so the law answers true. No condition.
-/
import Derived.Test.YtjpceeemmebghaaAskFnExactInterimAmount
import Derived.Test.YtjpceeemmebghaaBase
namespace Go.Proofs.Ytjpceeemmebghaa.PureFnExactInterimAmount
open Go.RowKit Go.Proofs.Ytjpceeemmebghaa.PFnExactInterimAmount Go.Proofs.YtjpceeemmebghaaOpen Go.Proofs.YtjpceeemmebghaaBase Go.Proofs.YtjpceeemmebghaaW.PrintWords Go.Proofs.YtjpceeemmebghaaW.PrintLast Go.Proofs.YtjpceeemmebghaaW.PrintMore

theorem within_eq (x a b : Int) : impl_within.f x a b = some (decide (a ≤ x) && decide (x ≤ b)) := by
  unfold impl_within.f
  by_cases h : x ≥ a
  · rw [if_pos h]; simp [h]
  · rw [if_neg h]; simp [h]

theorem l1In_eq (x a b : Int) : spec_l1In.f x a b = some (decide (a ≤ x) && decide (x ≤ b)) := by
  unfold spec_l1In.f
  by_cases h : x ≥ a
  · rw [if_pos h]; simp [h]
  · rw [if_neg h]; simp [h]

/-! amounts -/
def am (x : Int) : Bool := decide (-1000000000 ≤ x) && decide (x ≤ 1000000000)
theorem am_iff {x : Int} : am x = true ↔ -1000000000 ≤ x ∧ x ≤ 1000000000 := by simp [am]
theorem isAmount_eq (x : Int) : impl_isAmount.f x = some (am x) := by unfold impl_isAmount.f; rw [within_eq]; rfl
theorem l2Amount_eq (x : Int) : spec_l2Amount.f x = some (am x) := by unfold spec_l2Amount.f; rw [l1In_eq]; rfl

/-! dates: the two ways to find a day's date go in step -/
def ys (y : Int) : Int := 365 * (y - 2000) + (y - 2000 + 3) / 4
def ln (y m : Int) : Int := if m = 2 then (if Int.tmod y 4 = 0 then 29 else 28) else if m = 4 ∨ m = 6 ∨ m = 9 ∨ m = 11 then 30 else 31
def cum (y : Int) : Nat → Int
  | 0 => 0
  | j + 1 => cum y j + ln y ((j + 1 : Nat) : Int)
theorem ln_bd (y m : Int) : 28 ≤ ln y m ∧ ln y m ≤ 31 := by
  unfold ln
  split
  · split <;> omega
  · split <;> omega
theorem cum_bd (y : Int) : ∀ j : Nat, 28 * (j : Int) ≤ cum y j ∧ cum y j ≤ 31 * (j : Int)
  | 0 => by simp [cum]
  | j + 1 => by
    have := cum_bd y j
    have := ln_bd y ((j + 1 : Nat) : Int)
    rw [cum]
    omega
theorem daysIn_eq (y m : Int) : impl_daysIn.f y m = some (ln y m) := by
  unfold impl_daysIn.f ln
  by_cases h2 : m = 2
  · rw [if_pos h2, if_pos h2]
    split <;> rfl
  · rw [if_neg h2, if_neg h2]
    by_cases h4 : m = 4
    · rw [if_pos h4, if_pos (.inl h4)]
    · rw [if_neg h4]
      by_cases h6 : m = 6
      · rw [if_pos h6, if_pos (.inr (.inl h6))]
      · rw [if_neg h6]
        by_cases h9 : m = 9
        · rw [if_pos h9, if_pos (.inr (.inr (.inl h9)))]
        · rw [if_neg h9]
          by_cases h11 : m = 11
          · rw [if_pos h11, if_pos (.inr (.inr (.inr h11)))]
          · rw [if_neg h11, if_neg (by omega)]
theorem tmod4 (y : Int) (h : 0 ≤ y) : Int.tmod y 4 = y % 4 := Int.tmod_eq_emod_of_nonneg h
theorem ys_succ (y : Int) (h : 2000 ≤ y) : ys (y + 1) = ys y + (337 + ln y 2) := by
  unfold ys ln
  rw [if_pos rfl, tmod4 y (by omega)]
  split <;> omega
theorem ys_bd (y : Int) (h0 : 2000 ≤ y) (h1 : y ≤ 2100) : 0 ≤ ys y ∧ ys y ≤ 36525 := by unfold ys; omega
theorem daysOf_eq (y : Int) : impl_daysOf.f y = some (337 + ln y 2) := by
  unfold impl_daysOf.f
  have := ln_bd y 2
  rw [daysIn_eq, Option.bind_some, w64 (by omega) (by omega)]
theorem length_ev (y m : Int) : Ev (fun k => spec_l3Length.f k y m) (ln y m) := by
  have key : ∀ b : Bool, (b = true ↔ (m = 4 ∨ m = 6 ∨ m = 9 ∨ m = 11)) → Ev (fun k => spec_l3Length.j0 k y m b) (ln y m) := by
    intro b hb
    refine Ev.step (f := fun _ => some (ln y m)) (fun k => ?_) (Ev.now _)
    simp only [spec_l3Length.j0]
    unfold ln
    cases b with
    | true =>
      have := hb.1 rfl
      rw [if_pos rfl, if_neg (by omega), if_pos this]
    | false =>
      have : ¬ (m = 4 ∨ m = 6 ∨ m = 9 ∨ m = 11) := fun h => by cases hb.2 h
      rw [if_neg (by simp)]
      by_cases h2 : m = 2
      · rw [if_pos h2, if_pos h2]; split <;> rfl
      · rw [if_neg h2, if_neg h2, if_neg this]
  unfold spec_l3Length.f
  by_cases h4 : m = 4
  · simp only [if_pos h4]; exact key _ (by simp [h4])
  · simp only [if_neg h4]
    by_cases h6 : m = 6
    · simp only [if_pos h6]; exact key _ (by simp [h6])
    · simp only [if_neg h6]
      by_cases h9 : m = 9
      · simp only [if_pos h9]; exact key _ (by simp [h9])
      · simp only [if_neg h9]; exact key _ (by simp [h4, h6, h9])
theorem dayLoop (y d : Int) (m : Nat) (hm : m ≤ 12) (S : Int) (h0 : 0 ≤ S) (h1 : S ≤ 40000) (hd0 : 0 ≤ d) (hd1 : d ≤ 40000) : ∀ i, i ≤ m → Ev (fun k => spec_l3Day.l0 k (S + cum y i) ((i : Int) + 1) y ((m : Int) + 1) d) (S + cum y m + d - 1) := by
  refine down m ?_ (fun i hi ih => ?_)
  · have := cum_bd y m
    refine Ev.step (f := fun _ => some (S + cum y m + d - 1)) (fun k => ?_) (Ev.now _)
    simp only [spec_l3Day.l0]
    rw [if_neg (by omega), w64 (x := S + cum y m + d) (by omega) (by omega), w64 (by omega) (by omega)]
  · have hc := cum_bd y i
    have hl := ln_bd y ((i + 1 : Nat) : Int)
    refine Ev.step (f := fun k => (spec_l3Length.f k y ((i + 1 : Nat) : Int)).bind fun t => spec_l3Day.l0 k (wrap64 (S + cum y i + t)) (wrap64 ((i : Int) + 1 + 1)) y ((m : Int) + 1) d) (fun k => ?_) ?_
    · simp only [spec_l3Day.l0]
      rw [if_pos (by omega), show (i : Int) + 1 = ((i + 1 : Nat) : Int) by omega]
    · refine Ev.bind (length_ev y _) ?_
      rw [w64 (by omega) (by omega), w64 (by omega) (by omega)]
      rw [cum] at ih
      rw [show S + cum y i + ln y ((i + 1 : Nat) : Int) = S + (cum y i + ln y ((i + 1 : Nat) : Int)) by omega, show (i : Int) + 1 + 1 = ((i + 1 : Nat) : Int) + 1 by omega]
      exact ih
theorem day_ev (y d : Int) (m : Nat) (hm : m ≤ 12) (h0 : 2000 ≤ y) (h1 : y ≤ 2100) (hd0 : 0 ≤ d) (hd1 : d ≤ 40000) : Ev (fun k => spec_l3Day.f k y ((m : Int) + 1) d) (ys y + cum y m + d - 1) := by
  unfold spec_l3Day.f
  have hb := ys_bd y h0 h1
  have e : wrap64 (wrap64 (365 * wrap64 (y - 2000)) + wrap64 (Int.tdiv (wrap64 (wrap64 (y - 2000) + 3)) 4)) = ys y := by
    rw [w64 (x := y - 2000) (by omega) (by omega), w64 (x := 365 * (y - 2000)) (by omega) (by omega), w64 (x := y - 2000 + 3) (by omega) (by omega), Int.tdiv_eq_ediv_of_nonneg (by omega), w64 (x := (y - 2000 + 3) / 4) (by omega) (by omega)]
    unfold ys at hb ⊢
    rw [w64 (by omega) (by omega)]
  rw [e]
  have := dayLoop y d m hm (ys y) hb.1 (by omega) hd0 hd1 0 (Nat.zero_le _)
  rw [cum, Int.add_zero] at this
  exact this
/-- Months, in step. -/
theorem month_both (y day : Int) (h0 : 2000 ≤ y) (h1 : y ≤ 2099) (hd1 : day < ys (y + 1)) (s2 i2 : Int) (hs : s2 = 1) : ∀ d (m : Nat), m + d = 11 → ys y + cum y m ≤ day →
    ∃ r : Int × Int × Int, Ev (fun k => spec_l3Date.l1 k day y ((m : Int) + 1) s2) r ∧ Ev (fun k => impl_dateOf.l1 k (day - ys y - cum y m) y ((m : Int) + 1) i2) r ∧ r.1 = y ∧ 1 ≤ r.2.1 ∧ r.2.1 ≤ 12 ∧ 1 ≤ r.2.2 ∧ r.2.2 ≤ 31 := by
  have hb := ys_bd y h0 (by omega)
  have hb2 := ys_bd (y + 1) (by omega) (by omega)
  subst hs
  intro d
  induction d with
  | zero =>
    intro m hm hle
    have hc := cum_bd y m
    have hyear : cum y 12 = 337 + ln y 2 := by
      simp only [cum, ln]
      simp
      split <;> omega
    have hlast : day - ys y - cum y m < ln y ((m : Int) + 1) := by
      have e : m = 11 := by omega
      subst e
      have := ys_succ y h0
      rw [cum] at hyear
      have e2 : ((11 + 1 : Nat) : Int) = ((11 : Nat) : Int) + 1 := rfl
      rw [e2] at hyear
      omega
    have hl := ln_bd y ((m : Int) + 1)
    refine ⟨(y, (m : Int) + 1, day - ys y - cum y m + 1), ?_, ?_, rfl, by dsimp only; omega, by dsimp only; omega, by dsimp only; omega, by dsimp only; omega⟩
    · refine Ev.step (f := fun k => (spec_l3Day.f k y ((m : Int) + 1) 1).bind fun t => some (y, (m : Int) + 1, wrap64 (wrap64 (day - t) + 1))) (fun k => ?_) ?_
      · simp only [spec_l3Date.l1]
        rw [if_neg (by omega)]
      · refine Ev.bind (day_ev y 1 m (by omega) h0 (by omega) (by omega) (by omega)) ?_
        rw [w64 (x := day - _) (by omega) (by omega), w64 (by omega) (by omega), show day - (ys y + cum y m + 1 - 1) + 1 = day - ys y - cum y m + 1 by omega]
        exact Ev.now _
    · refine Ev.step (f := fun _ => some (y, (m : Int) + 1, day - ys y - cum y m + 1)) (fun k => ?_) (Ev.now _)
      simp only [impl_dateOf.l1]
      rw [daysIn_eq, Option.bind_some, if_neg (by omega), w64 (by omega) (by omega)]
  | succ d ih =>
    intro m hm hle
    have hc := cum_bd y m
    have hl := ln_bd y ((m : Int) + 1)
    have e1 : (m : Int) + 1 = ((m + 1 : Nat) : Int) := by omega
    have hcs : cum y (m + 1) = cum y m + ln y ((m : Int) + 1) := by rw [cum, e1]
    by_cases c : ys y + cum y (m + 1) ≤ day
    · obtain ⟨r, hS, hI, hr⟩ := ih (m + 1) (by omega) c
      refine ⟨r, ?_, ?_, hr⟩
      · refine Ev.step (f := fun k => (spec_l3Day.f k y (((m + 1 : Nat) : Int) + 1) 1).bind fun t => if t ≤ day then spec_l3Date.l1 k day y (((m + 1 : Nat) : Int) + 1) 1 else (spec_l3Day.f k y ((m : Int) + 1) 1).bind fun t => some (y, (m : Int) + 1, wrap64 (wrap64 (day - t) + 1))) (fun k => ?_) ?_
        · simp only [spec_l3Date.l1]
          rw [if_pos (by omega), w64 (by omega) (by omega), e1]
        · refine Ev.bind (day_ev y 1 (m + 1) (by omega) h0 (by omega) (by omega) (by omega)) ?_
          simp only [if_pos (show ys y + cum y (m + 1) + 1 - 1 ≤ day by omega)]
          exact hS
      · refine Ev.step (fun k => ?_) hI
        simp only [impl_dateOf.l1]
        rw [daysIn_eq, Option.bind_some, if_pos (by omega), Option.bind_some, w64 (x := day - ys y - cum y m - _) (by omega) (by omega), w64 (by omega) (by omega), hcs, show day - ys y - cum y m - ln y ((m : Int) + 1) = day - ys y - (cum y m + ln y ((m : Int) + 1)) by omega, e1]
    · refine ⟨(y, (m : Int) + 1, day - ys y - cum y m + 1), ?_, ?_, rfl, by dsimp only; omega, by dsimp only; omega, by dsimp only; omega, by dsimp only; omega⟩
      · refine Ev.step (f := fun k => (spec_l3Day.f k y (((m + 1 : Nat) : Int) + 1) 1).bind fun t => if t ≤ day then spec_l3Date.l1 k day y (((m + 1 : Nat) : Int) + 1) 1 else (spec_l3Day.f k y ((m : Int) + 1) 1).bind fun t => some (y, (m : Int) + 1, wrap64 (wrap64 (day - t) + 1))) (fun k => ?_) ?_
        · simp only [spec_l3Date.l1]
          rw [if_pos (by omega), w64 (by omega) (by omega), e1]
        · refine Ev.bind (day_ev y 1 (m + 1) (by omega) h0 (by omega) (by omega) (by omega)) ?_
          simp only [if_neg (show ¬ ys y + cum y (m + 1) + 1 - 1 ≤ day by omega)]
          refine Ev.bind (day_ev y 1 m (by omega) h0 (by omega) (by omega) (by omega)) ?_
          rw [w64 (x := day - _) (by omega) (by omega), w64 (by omega) (by omega), show day - (ys y + cum y m + 1 - 1) + 1 = day - ys y - cum y m + 1 by omega]
          exact Ev.now _
      · refine Ev.step (f := fun _ => some (y, (m : Int) + 1, day - ys y - cum y m + 1)) (fun k => ?_) (Ev.now _)
        simp only [impl_dateOf.l1]
        rw [daysIn_eq, Option.bind_some, if_neg (by omega), w64 (by omega) (by omega)]
/-- Years, in step. -/
theorem year_both (day : Int) (h0 : 0 ≤ day) (h1 : day ≤ 36524) : ∀ (d : Nat) (y : Int), y + (d : Int) = 2099 → 2000 ≤ y → ys y ≤ day →
    ∃ r : Int × Int × Int, Ev (fun k => spec_l3Date.l0 k day y 1 1) r ∧ Ev (fun k => impl_dateOf.l0 k (day - ys y) y 1 0) r ∧ (2000 ≤ r.1 ∧ r.1 ≤ 2099 ∧ ys r.1 ≤ day ∧ day < ys (r.1 + 1)) ∧ 1 ≤ r.2.1 ∧ r.2.1 ≤ 12 ∧ 1 ≤ r.2.2 ∧ r.2.2 ≤ 31 := by
  intro d
  induction d with
  | zero =>
    intro y hy hy0 hle
    have e : y = 2099 := by omega
    have hnext : day < ys (y + 1) := by rw [e]; unfold ys; omega
    have hs := ys_succ y hy0
    have hb := ys_bd y hy0 (by omega)
    obtain ⟨r, hS, hI, hr⟩ := month_both y day hy0 (by omega) hnext 1 0 rfl 11 0 rfl (by rw [cum]; omega)
    refine ⟨r, ?_, ?_, by rw [hr.1]; exact ⟨hy0, by omega, hle, hnext⟩, hr.2⟩
    · refine Ev.step (fun k => by simp only [spec_l3Date.l0]; rw [if_neg (by omega)]) ?_
      exact Ev.step (fun k => by simp only [spec_l3Date.j1]; rfl) hS
    · refine Ev.step (fun k => by simp only [impl_dateOf.l0]; rw [daysOf_eq, Option.bind_some, if_neg (by omega)]) ?_
      rw [cum, Int.sub_zero] at hI
      exact hI
  | succ d ih =>
    intro y hy hy0 hle
    have hs := ys_succ y hy0
    have hb := ys_bd y hy0 (by omega)
    have hb2 := ys_bd (y + 1) (by omega) (by omega)
    have hl := ln_bd y 2
    have hd : Ev (fun k => spec_l3Day.f k (y + 1) 1 1) (ys (y + 1)) := by
      have := day_ev (y + 1) 1 0 (by omega) (by omega) (by omega) (by omega) (by omega)
      rw [cum, show ys (y + 1) + 0 + 1 - 1 = ys (y + 1) by omega] at this
      exact this
    by_cases c : ys (y + 1) ≤ day
    · obtain ⟨r, hS, hI, hr⟩ := ih (y + 1) (by omega) (by omega) c
      refine ⟨r, ?_, ?_, hr⟩
      · refine Ev.step (fun k => by simp only [spec_l3Date.l0]; rw [if_pos (by omega), w64 (by omega) (by omega)]) ?_
        refine Ev.bind hd ?_
        simp only [if_pos c]
        exact hS
      · refine Ev.step (fun k => ?_) hI
        simp only [impl_dateOf.l0]
        rw [daysOf_eq, Option.bind_some, if_pos (by omega), Option.bind_some, w64 (by omega) (by omega), w64 (by omega) (by omega), hs, show day - ys y - (337 + ln y 2) = day - (ys y + (337 + ln y 2)) by omega]
    · obtain ⟨r, hS, hI, hr⟩ := month_both y day hy0 (by omega) (by omega) 1 0 rfl 11 0 rfl (by rw [cum]; omega)
      refine ⟨r, ?_, ?_, by rw [hr.1]; exact ⟨hy0, by omega, hle, by omega⟩, hr.2⟩
      · refine Ev.step (fun k => by simp only [spec_l3Date.l0]; rw [if_pos (by omega), w64 (by omega) (by omega)]) ?_
        refine Ev.bind hd ?_
        simp only [if_neg c]
        exact Ev.step (fun k => by simp only [spec_l3Date.j1]; rfl) hS
      · refine Ev.step (fun k => by simp only [impl_dateOf.l0]; rw [daysOf_eq, Option.bind_some, if_neg (by omega)]) ?_
        rw [cum, Int.sub_zero] at hI
        exact hI
theorem date_both (day : Int) (h0 : 0 ≤ day) (h1 : day ≤ 36524) : ∃ r : Int × Int × Int, Ev (fun k => spec_l3Date.f k day) r ∧ Ev (fun k => impl_dateOf.f k day) r ∧ (2000 ≤ r.1 ∧ r.1 ≤ 2099 ∧ ys r.1 ≤ day ∧ day < ys (r.1 + 1)) ∧ 1 ≤ r.2.1 ∧ r.2.1 ≤ 12 ∧ 1 ≤ r.2.2 ∧ r.2.2 ≤ 31 := by
  have e : ys 2000 = 0 := by unfold ys; omega
  obtain ⟨r, hS, hI, hr⟩ := year_both day h0 h1 99 2000 (by omega) (by omega) (by omega)
  rw [e, Int.sub_zero] at hI
  exact ⟨r, hS, hI, hr⟩

/-! greatest common divisors, in step -/
theorem abs_eq (x : Int) (h0 : -4611686018427387904 ≤ x) (h1 : x ≤ 4611686018427387904) : spec_l2Abs.f x = some (x.natAbs : Int) := by
  unfold spec_l2Abs.f
  by_cases c : x < 0
  · rw [if_pos c, w64 (by omega) (by omega)]; congr 1; omega
  · rw [if_neg c]; congr 1; omega
theorem size_eq (x : Int) (h0 : -4611686018427387904 ≤ x) (h1 : x ≤ 4611686018427387904) : impl_size.f x = some (x.natAbs : Int) := by
  unfold impl_size.f mx
  rw [w64 (by omega) (by omega)]
  congr 1
  split <;> omega
theorem tmod_lt (a b : Int) (hb : b ≠ 0) : (Int.tmod a b).natAbs < b.natAbs := by
  rw [Int.natAbs_tmod]
  exact Nat.mod_lt _ (by omega)
theorem gcd_both : ∀ (n : Nat) (a b : Int), b.natAbs ≤ n → a.natAbs ≤ 4611686018427387904 → b.natAbs ≤ 4611686018427387904 → (a ≠ 0 ∨ b ≠ 0) → ∃ g : Int, Ev (fun k => spec_l2Gcd.l0 k (a.natAbs : Int) (b.natAbs : Int)) g ∧ Ev (fun k => impl_divisor.l0 k a b) g ∧ 1 ≤ g ∧ g ≤ 4611686018427387904 := by
  intro n
  induction n with
  | zero =>
    intro a b hn ha hb hz
    have e : b = 0 := by omega
    subst e
    refine ⟨(a.natAbs : Int), ?_, ?_, by omega, by omega⟩
    · exact Ev.step (f := fun _ => some (a.natAbs : Int)) (fun k => by simp only [spec_l2Gcd.l0]; rfl) (Ev.now _)
    · exact Ev.step (f := fun _ => some (a.natAbs : Int)) (fun k => by simp only [impl_divisor.l0]; rw [if_pos trivial, size_eq a (by omega) (by omega)]; rfl) (Ev.now _)
  | succ n ih =>
    intro a b hn ha hb hz
    by_cases c : b = 0
    · subst c
      refine ⟨(a.natAbs : Int), ?_, ?_, by omega, by omega⟩
      · exact Ev.step (f := fun _ => some (a.natAbs : Int)) (fun k => by simp only [spec_l2Gcd.l0]; rfl) (Ev.now _)
      · exact Ev.step (f := fun _ => some (a.natAbs : Int)) (fun k => by simp only [impl_divisor.l0]; rw [if_pos trivial, size_eq a (by omega) (by omega)]; rfl) (Ev.now _)
    · have hlt := tmod_lt a b c
      obtain ⟨g, hS, hI, hg⟩ := ih b (Int.tmod a b) (by omega) hb (by omega) (.inl c)
      refine ⟨g, ?_, ?_, hg⟩
      · refine Ev.step (fun k => ?_) hS
        simp only [spec_l2Gcd.l0]
        rw [if_neg (by omega), Int.natAbs_tmod]
        congr 1
      · refine Ev.step (fun k => ?_) hI
        simp only [impl_divisor.l0]
        rw [if_neg c]
theorem fr_both (p q : Int) : ∃ b, Ev (fun k => spec_l2Fraction.f k p q) b ∧ Ev (fun k => impl_isFraction.f k p q) b ∧ (b = true → -1000000000 ≤ p ∧ p ≤ 1000000000 ∧ 1 ≤ q ∧ q ≤ 1000000000) := by
  unfold spec_l2Fraction.f impl_isFraction.f
  rw [l1In_eq, within_eq, l2Amount_eq, isAmount_eq]
  simp only [Option.bind_some]
  cases c : (decide (1 ≤ q) && decide (q ≤ 1000000000)) with
  | false => exact ⟨false, Ev.now _, Ev.now _, fun h => by cases h⟩
  | true =>
    simp only [Bool.and_eq_true, decide_eq_true_eq] at c
    simp only [if_true]
    cases d : am p with
    | false => exact ⟨false, Ev.now _, Ev.now _, fun h => by cases h⟩
    | true =>
      have hp := am_iff.1 d
      obtain ⟨g, hS, hI, _⟩ := gcd_both q.natAbs p q (Nat.le_refl _) (by omega) (by omega) (.inr (by omega))
      rw [show (q.natAbs : Int) = q by omega] at hS
      rw [abs_eq p (by omega) (by omega)]
      simp only [if_true, Option.bind_some]
      refine ⟨g == 1, ?_, ?_, fun _ => ⟨hp.1, hp.2, c.1, c.2⟩⟩
      · exact Ev.bind (g := fun k => spec_l2Gcd.f k (p.natAbs : Int) q) hS (Ev.now _)
      · exact Ev.bind (g := fun k => impl_divisor.f k p q) hI (Ev.now _)
theorem tdiv_bd (a g : Int) (_ : 1 ≤ g) (h0 : -4611686018427387904 ≤ a) (h1 : a ≤ 4611686018427387904) : -4611686018427387904 ≤ Int.tdiv a g ∧ Int.tdiv a g ≤ 4611686018427387904 := by
  have : (Int.tdiv a g).natAbs ≤ a.natAbs := by rw [Int.natAbs_tdiv]; exact Nat.div_le_self _ _
  omega
theorem red_both (p q : Int) (hp0 : -4611686018427387904 ≤ p) (hp1 : p ≤ 4611686018427387904) (hq0 : 1 ≤ q) (hq1 : q ≤ 4611686018427387904) : ∃ r : Int × Int × Bool, Ev (fun k => spec_l2Reduce.f k p q) r ∧ Ev (fun k => impl_fraction.f k p q) r ∧ (r.2.2 = true → -1000000000 ≤ r.1 ∧ r.1 ≤ 1000000000 ∧ 1 ≤ r.2.1 ∧ r.2.1 ≤ 1000000000) := by
  obtain ⟨g, hS, hI, hg⟩ := gcd_both q.natAbs p q (Nat.le_refl _) (by omega) (by omega) (.inr (by omega))
  rw [show (q.natAbs : Int) = q by omega] at hS
  have bp := tdiv_bd p g hg.1 hp0 hp1
  have bq := tdiv_bd q g hg.1 (by omega) hq1
  obtain ⟨b, hbS, hbI, hb⟩ := fr_both (Int.tdiv p g) (Int.tdiv q g)
  have ep : wrap64 (Int.tdiv p g) = Int.tdiv p g := w64 (by omega) (by omega)
  have eq : wrap64 (Int.tdiv q g) = Int.tdiv q g := w64 (by omega) (by omega)
  refine ⟨if b = true then (Int.tdiv p g, Int.tdiv q g, true) else (0, 0, false), ?_, ?_, ?_⟩
  · unfold spec_l2Reduce.f
    simp only [if_neg (show ¬ q < 0 by omega)]
    refine Ev.step (fun k => by simp only [spec_l2Reduce.j0]; rfl) ?_
    rw [abs_eq p hp0 hp1]
    simp only [Option.bind_some]
    refine Ev.bind (g := fun k => spec_l2Gcd.f k (p.natAbs : Int) q) hS ?_
    simp only [if_neg (show ¬ g = 0 by omega), ep, eq]
    refine Ev.bind hbS ?_
    exact Ev.const (by cases b <;> rfl)
  · unfold impl_fraction.f
    simp only [if_neg (show ¬ q < 0 by omega)]
    refine Ev.bind (g := fun k => impl_divisor.f k p q) hI ?_
    simp only [if_neg (show ¬ g = 0 by omega), ep, eq]
    refine Ev.bind hbI ?_
    exact Ev.const (by cases b <;> rfl)
  · cases b with
    | true => exact fun _ => hb rfl
    | false => exact fun h => by cases h

/-! fractions, counts of days, rounding -/
def ok3 (r : Int × Int × Bool) : Prop := r.2.2 = true → -1000000000 ≤ r.1 ∧ r.1 ≤ 1000000000 ∧ 1 ≤ r.2.1 ∧ r.2.1 ≤ 1000000000
theorem rng_true {a b x : Int} (h0 : a ≤ x) (h1 : x ≤ b) : (decide (a ≤ x) && decide (x ≤ b)) = true := by simp [h0, h1]
theorem make_both (p q : Int) (hp0 : -1000000000000000000 ≤ p) (hp1 : p ≤ 1000000000000000000) (hq0 : 1 ≤ q) (hq1 : q ≤ 1000000000000000000) : ∃ r : Int × Int × Bool, Ev (fun k => spec_MakeFraction.f k p q) r ∧ Ev (fun k => impl_fraction.f k p q) r ∧ ok3 r := by
  obtain ⟨r, hS, hI, hr⟩ := red_both p q (by omega) (by omega) hq0 (by omega)
  refine ⟨r, ?_, hI, hr⟩
  unfold spec_MakeFraction.f
  simp only [if_neg (show ¬ q = 0 by omega), l1In_eq, Option.bind_some, rng_true hp0 hp1, rng_true (show -1000000000000000000 ≤ q by omega) hq1, if_true]
  exact Ev.bind hS (Ev.now _)
theorem mul_bd (a b : Int) (ha0 : -1000000000 ≤ a) (ha1 : a ≤ 1000000000) (hb0 : -1000000000 ≤ b) (hb1 : b ≤ 1000000000) : -1000000000000000000 ≤ a * b ∧ a * b ≤ 1000000000000000000 := by
  have h : (a * b).natAbs ≤ 1000000000 * 1000000000 := by
    rw [Int.natAbs_mul]
    exact Nat.mul_le_mul (by omega) (by omega)
  omega
theorem mulfr_both (p q p' q' : Int) : ∃ r : Int × Int × Bool, Ev (fun k => spec_MultiplyFractions.f k p q p' q') r ∧ Ev (fun k => impl_MultiplyFractions.f k p q p' q') r ∧ ok3 r := by
  unfold spec_MultiplyFractions.f impl_MultiplyFractions.f
  obtain ⟨b, bS, bI, hb⟩ := fr_both p q
  cases b with
  | false => exact ⟨(0, 0, false), Ev.bind bS (Ev.now _), Ev.bind bI (Ev.now _), fun h => by cases h⟩
  | true =>
    obtain ⟨c, cS, cI, hc⟩ := fr_both p' q'
    cases c with
    | false => exact ⟨(0, 0, false), Ev.bind bS (Ev.bind cS (Ev.now _)), Ev.bind bI (Ev.bind cI (Ev.now _)), fun h => by cases h⟩
    | true =>
      have hb := hb rfl
      have hc := hc rfl
      have m1 := mul_bd p p' hb.1 hb.2.1 hc.1 hc.2.1
      have m2 := mul_bd q q' (by omega) hb.2.2.2 (by omega) hc.2.2.2
      have m3 : 1 ≤ q * q' := by
        have : 0 < q * q' := Int.mul_pos (by omega) (by omega)
        omega
      obtain ⟨r, rS, rI, hr⟩ := red_both (p * p') (q * q') (by omega) (by omega) m3 (by omega)
      refine ⟨r, Ev.bind bS (Ev.bind cS ?_), Ev.bind bI (Ev.bind cI ?_), hr⟩
      · rw [w64 (by omega) (by omega), w64 (by omega) (by omega)]
        exact Ev.bind rS (Ev.now _)
      · rw [w64 (by omega) (by omega), w64 (by omega) (by omega)]
        exact Ev.bind rI (Ev.now _)
theorem least_eq (a b : Int) : spec_l1Least.f a b = some (if a < b then a else b) := by
  unfold spec_l1Least.f
  split <;> rfl
theorem ys_mono (y z : Int) (h : y ≤ z) : ys y ≤ ys z := by unfold ys; omega
def yw (y : Int) : Int := if Int.tmod y 4 = 0 then 365 else 366
theorem yw_bd (y : Int) : 365 ≤ yw y ∧ yw y ≤ 366 := by unfold yw; split <;> omega
/-- The program's loop over days, within one year. -/
theorem seg (x1 y t : Int) (ht : t ≤ x1) (ht1 : x1 ≤ 36524) (hy1 : t ≤ ys (y + 1)) (r : Int × Int × Bool) : ∀ (d : Nat) (x N : Int), x + (d : Int) = t → 0 ≤ x → ys y ≤ x → 0 ≤ N → N ≤ 100000000 - 366 * (d : Int) → Ev (fun k => impl_dayCount.l0 k x1 (N + yw y * (d : Int)) t) r → Ev (fun k => impl_dayCount.l0 k x1 N x) r := by
  intro d
  induction d with
  | zero =>
    intro x N hx _ _ _ _ h
    rw [show x = t by omega]
    simpa using h
  | succ d ih =>
    intro x N hx h0 hy hN0 hN1 h
    have hw := yw_bd y
    obtain ⟨e, _, eI, he, _⟩ := date_both x h0 (by omega)
    have hye : e.1 = y := by
      have a1 := he.2.2.1
      have a2 := he.2.2.2
      by_cases c : e.1 ≤ y - 1
      · have := ys_mono (e.1 + 1) y (by omega); omega
      · by_cases c' : y + 1 ≤ e.1
        · have := ys_mono (y + 1) e.1 c'; omega
        · omega
    have hnext : Ev (fun k => impl_dayCount.l0 k x1 (N + yw y) (x + 1)) r := by
      refine ih (x + 1) (N + yw y) (by omega) (by omega) (by omega) (by omega) (by omega) ?_
      rw [show N + yw y + yw y * (d : Int) = N + yw y * ((d + 1 : Nat) : Int) by rw [show ((d + 1 : Nat) : Int) = (d : Int) + 1 by omega, Int.mul_add, Int.mul_one]; omega]
      exact h
    refine Ev.step (f := fun k => (impl_dateOf.f k x).bind fun bt => if (Int.tmod bt.1 4) = 0 then impl_dayCount.l0 k x1 (wrap64 (N + 365)) (wrap64 (x + 1)) else impl_dayCount.l0 k x1 (wrap64 (N + 366)) (wrap64 (x + 1))) (fun k => by simp only [impl_dayCount.l0]; rw [if_pos (by omega)]) ?_
    refine Ev.bind eI ?_
    rw [hye]
    unfold yw at hnext
    by_cases c : Int.tmod y 4 = 0
    · simp only [if_pos c] at hnext ⊢
      rw [w64 (by omega) (by omega), w64 (by omega) (by omega)]
      exact hnext
    · simp only [if_neg c] at hnext ⊢
      rw [w64 (by omega) (by omega), w64 (by omega) (by omega)]
      exact hnext
theorem lastday (y : Int) (h0 : 2000 ≤ y) (h1 : y ≤ 2099) : Ev (fun k => spec_l3Day.f k y 12 31) (ys (y + 1) - 1) := by
  have := day_ev y 31 11 (by omega) h0 (by omega) (by omega) (by omega)
  have e : cum y 11 = 306 + ln y 2 := by
    simp only [cum, ln]
    simp
    split <;> omega
  rw [e, show ys y + (306 + ln y 2) + 31 - 1 = ys (y + 1) - 1 by have := ys_succ y h0; omega] at this
  exact this
theorem years_both (x1 : Int) (hx1 : x1 ≤ 36524) : ∀ (n : Nat) (x A B : Int), (x1 - x).toNat ≤ n → 0 ≤ x → x ≤ x1 → 0 ≤ A → 0 ≤ B → A + B ≤ x →
    ∃ r : Int × Int, Ev (fun k => spec_l4Years.l0 k x x1 A B) r ∧ (0 ≤ r.1 ∧ 0 ≤ r.2 ∧ r.1 + r.2 ≤ 36524) ∧ ∀ q : Int × Int × Bool, Ev (fun k => impl_fraction.f k (365 * r.1 + 366 * r.2) 133590) q → Ev (fun k => impl_dayCount.l0 k x1 (365 * A + 366 * B) x) q := by
  have done : ∀ (x A B : Int), 0 ≤ A → 0 ≤ B → A + B ≤ x → x = x1 → ∃ r : Int × Int, Ev (fun k => spec_l4Years.l0 k x x1 A B) r ∧ (0 ≤ r.1 ∧ 0 ≤ r.2 ∧ r.1 + r.2 ≤ 36524) ∧ ∀ q : Int × Int × Bool, Ev (fun k => impl_fraction.f k (365 * r.1 + 366 * r.2) 133590) q → Ev (fun k => impl_dayCount.l0 k x1 (365 * A + 366 * B) x) q := by
    intro x A B hA hB hAB hx
    refine ⟨(A, B), ?_, ⟨hA, hB, by dsimp only; omega⟩, fun q hq => ?_⟩
    · exact Ev.step (f := fun _ => some (A, B)) (fun k => by simp only [spec_l4Years.l0]; rw [if_neg (by omega)]) (Ev.now _)
    · refine Ev.step (f := fun k => (impl_fraction.f k (365 * A + 366 * B) 133590).bind fun bt => some (bt.1, bt.2.1, bt.2.2)) (fun k => by simp only [impl_dayCount.l0]; rw [if_neg (by omega)]) ?_
      exact Ev.bind hq (Ev.now _)
  intro n
  induction n with
  | zero =>
    intro x A B hn _ hx hA hB hAB
    exact done x A B hA hB hAB (by omega)
  | succ n ih =>
    intro x A B hn h0 hx hA hB hAB
    by_cases c : x = x1
    · exact done x A B hA hB hAB c
    · obtain ⟨e, eS, _, he, _⟩ := date_both x h0 (by omega)
      obtain ⟨y, m, dd⟩ := e
      simp only at he
      have hw := yw_bd y
      have hl := lastday y he.1 he.2.1
      have hyb := ys_bd (y + 1) (by omega) (by omega)
      have hstep : ∀ t : Int, t = (if x1 < ys (y + 1) then x1 else ys (y + 1)) → ∃ r : Int × Int, Ev (fun k => spec_l4Years.l0 k x x1 A B) r ∧ (0 ≤ r.1 ∧ 0 ≤ r.2 ∧ r.1 + r.2 ≤ 36524) ∧ ∀ q : Int × Int × Bool, Ev (fun k => impl_fraction.f k (365 * r.1 + 366 * r.2) 133590) q → Ev (fun k => impl_dayCount.l0 k x1 (365 * A + 366 * B) x) q := by
        intro t ht
        have htx : x < t ∧ t ≤ x1 ∧ t ≤ ys (y + 1) := by
          rw [ht]; split <;> omega
        have spec : ∀ r : Int × Int, Ev (fun k => if Int.tmod y 4 = 0 then spec_l4Years.l0 k t x1 (wrap64 (wrap64 (A + t) - x)) B else spec_l4Years.l0 k t x1 A (wrap64 (wrap64 (B + t) - x))) r → Ev (fun k => spec_l4Years.l0 k x x1 A B) r := by
          intro r hr
          refine Ev.step (f := fun k => (spec_l3Date.f k x).bind fun bt => (spec_l3Day.f k bt.1 12 31).bind fun t143 => (spec_l1Least.f x1 (wrap64 (t143 + 1))).bind fun t144 => if (Int.tmod bt.1 4) = 0 then spec_l4Years.l0 k t144 x1 (wrap64 (wrap64 (A + t144) - x)) B else spec_l4Years.l0 k t144 x1 A (wrap64 (wrap64 (B + t144) - x))) (fun k => by simp only [spec_l4Years.l0]; rw [if_pos (by omega)]) ?_
          refine Ev.bind eS ?_
          refine Ev.bind hl ?_
          simp only [least_eq, Option.bind_some]
          rw [w64 (x := ys (y + 1) - 1 + 1) (by omega) (by omega), show ys (y + 1) - 1 + 1 = ys (y + 1) by omega, ← ht]
          exact hr
        have impl : ∀ (N N' : Int), N = 365 * A + 366 * B → N' = N + yw y * (t - x) → ∀ q : Int × Int × Bool, Ev (fun k => impl_dayCount.l0 k x1 N' t) q → Ev (fun k => impl_dayCount.l0 k x1 (365 * A + 366 * B) x) q := by
          intro N N' hN hN' q hq
          rw [← hN]
          have hd : ((t - x).toNat : Int) = t - x := by omega
          refine seg x1 y t htx.2.1 hx1 htx.2.2 q (t - x).toNat x N (by omega) h0 he.2.2.1 (by omega) (by omega) ?_
          rw [hd, ← hN']
          exact hq
        by_cases c4 : Int.tmod y 4 = 0
        · obtain ⟨r, rS, hr, rI⟩ := ih t (A + (t - x)) B (by omega) (by omega) htx.2.1 (by omega) hB (by omega)
          refine ⟨r, spec r ?_, hr, fun q hq => ?_⟩
          · simp only [if_pos c4]
            rw [w64 (x := A + t) (by omega) (by omega), w64 (by omega) (by omega), show A + t - x = A + (t - x) by omega]
            exact rS
          · refine impl _ _ rfl rfl q ?_
            have := rI q hq
            rw [show 365 * (A + (t - x)) + 366 * B = 365 * A + 366 * B + yw y * (t - x) by unfold yw; rw [if_pos c4]; omega] at this
            exact this
        · obtain ⟨r, rS, hr, rI⟩ := ih t A (B + (t - x)) (by omega) (by omega) htx.2.1 hA (by omega) (by omega)
          refine ⟨r, spec r ?_, hr, fun q hq => ?_⟩
          · simp only [if_neg c4]
            rw [w64 (x := B + t) (by omega) (by omega), w64 (by omega) (by omega), show B + t - x = B + (t - x) by omega]
            exact rS
          · refine impl _ _ rfl rfl q ?_
            have := rI q hq
            rw [show 365 * A + 366 * (B + (t - x)) = 365 * A + 366 * B + yw y * (t - x) by unfold yw; rw [if_neg c4]; omega] at this
            exact this
      exact hstep _ rfl
theorem mn_le (a b : Int) : mn a b = if a < b then a else b := by
  unfold mn
  split <;> split <;> omega
theorem count_both (a b c : Int) (ha : 0 ≤ a) (hab : a ≤ b) (hb : b ≤ 36524) : ∃ r : Int × Int × Bool, Ev (fun k => spec_l4Count.f k a b c) r ∧ Ev (fun k => impl_dayCount.f k a b c) r ∧ ok3 r := by
  unfold spec_l4Count.f impl_dayCount.f
  have wd : wrap64 (b - a) = b - a := w64 (by omega) (by omega)
  by_cases c1 : c = 1
  · simp only [if_pos c1, wd]
    obtain ⟨r, rS, rI, hr⟩ := make_both (b - a) 360 (by omega) (by omega) (by omega) (by omega)
    exact ⟨r, Ev.bind rS (Ev.now _), Ev.bind rI (Ev.now _), hr⟩
  simp only [if_neg c1]
  by_cases c2 : c = 2
  · simp only [if_pos c2, wd]
    obtain ⟨r, rS, rI, hr⟩ := make_both (b - a) 365 (by omega) (by omega) (by omega) (by omega)
    exact ⟨r, Ev.bind rS (Ev.now _), Ev.bind rI (Ev.now _), hr⟩
  simp only [if_neg c2]
  by_cases c3 : c = 3
  · simp only [if_pos c3]
    obtain ⟨e, eS, eI, he, he'⟩ := date_both a ha (by omega)
    obtain ⟨g, gS, gI, hg, hg'⟩ := date_both b (by omega) hb
    obtain ⟨y1, m1, d1⟩ := e
    obtain ⟨y2, m2, d2⟩ := g
    dsimp only at he he' hg hg'
    have hl1 : ∃ u : Int, u = (if d2 < 30 then d2 else 30) ∧ 0 ≤ u ∧ u ≤ 30 := ⟨_, rfl, by split <;> omega, by split <;> omega⟩
    have hl2 : ∃ u : Int, u = (if d1 < 30 then d1 else 30) ∧ 0 ≤ u ∧ u ≤ 30 := ⟨_, rfl, by split <;> omega, by split <;> omega⟩
    obtain ⟨u2, hu2, u20, u21⟩ := hl1
    obtain ⟨u1, hu1, u10, u11⟩ := hl2
    have hw : wrap64 (wrap64 (wrap64 (wrap64 (360 * wrap64 (y2 - y1)) + wrap64 (30 * wrap64 (m2 - m1))) + u2) - u1) = 360 * (y2 - y1) + 30 * (m2 - m1) + u2 - u1 := by
      rw [w64 (x := y2 - y1) (by omega) (by omega), w64 (x := m2 - m1) (by omega) (by omega), w64 (x := 360 * (y2 - y1)) (by omega) (by omega), w64 (x := 30 * (m2 - m1)) (by omega) (by omega), w64 (x := 360 * (y2 - y1) + 30 * (m2 - m1)) (by omega) (by omega), w64 (x := 360 * (y2 - y1) + 30 * (m2 - m1) + u2) (by omega) (by omega), w64 (by omega) (by omega)]
    obtain ⟨r, rS, rI, hr⟩ := make_both (360 * (y2 - y1) + 30 * (m2 - m1) + u2 - u1) 360 (by omega) (by omega) (by omega) (by omega)
    refine ⟨r, ?_, ?_, hr⟩
    · have hT : Ev (fun k => spec_l4Thirty.f k a b) (360 * (y2 - y1) + 30 * (m2 - m1) + u2 - u1) := by
        unfold spec_l4Thirty.f
        refine Ev.bind eS (Ev.bind gS ?_)
        simp only [least_eq, Option.bind_some]
        rw [← hu2, ← hu1, hw]
        exact Ev.now _
      exact Ev.bind hT (Ev.bind rS (Ev.now _))
    · refine Ev.bind eI (Ev.bind gI ?_)
      simp only [mn_le]
      rw [← hu2, ← hu1, hw]
      exact Ev.bind rI (Ev.now _)
  · simp only [if_neg c3]
    obtain ⟨r, rS, hr, rI⟩ := years_both b hb (b - a).toNat a 0 0 (Nat.le_refl _) ha hab (by omega) (by omega) (by omega)
    obtain ⟨q, qS, qI, hq⟩ := make_both (365 * r.1 + 366 * r.2) 133590 (by omega) (by omega) (by omega) (by omega)
    refine ⟨q, ?_, ?_, hq⟩
    · have rS' : Ev (fun k => spec_l4Years.f k a b) r := rS
      refine Ev.bind rS' ?_
      rw [w64 (x := 365 * r.1) (by omega) (by omega), w64 (x := 366 * r.2) (by omega) (by omega), w64 (by omega) (by omega)]
      exact Ev.bind qS (Ev.now _)
    · have := rI q qI
      exact this
theorem DayCount_both (x y c : Int) : ∃ r : Int × Int × Bool, Ev (fun k => spec_DayCount.f k x y c) r ∧ Ev (fun k => impl_DayCount.f k x y c) r ∧ ok3 r ∧ ((decide (1 ≤ c) && decide (c ≤ 4)) = false → r = (0, 0, false)) := by
  have bad : ok3 (0, 0, false) ∧ ((decide (1 ≤ c) && decide (c ≤ 4)) = false → ((0, 0, false) : Int × Int × Bool) = (0, 0, false)) := ⟨fun h => (by cases h), fun _ => rfl⟩
  unfold spec_DayCount.f impl_DayCount.f spec_l3Good.f impl_isDay.f
  simp only [l1In_eq, within_eq, Option.bind_some]
  cases c0 : (decide (0 ≤ x) && decide (x ≤ 36524)) with
  | false => exact ⟨(0, 0, false), Ev.now _, Ev.now _, bad⟩
  | true =>
    cases c1 : (decide (0 ≤ y) && decide (y ≤ 36524)) with
    | false => exact ⟨(0, 0, false), Ev.now _, Ev.now _, bad⟩
    | true =>
      simp only [Bool.and_eq_true, decide_eq_true_eq] at c0 c1
      simp only [if_true]
      by_cases h : x > y
      · simp only [if_pos h]
        exact ⟨(0, 0, false), Ev.now _, Ev.now _, bad⟩
      · simp only [if_neg h]
        cases c2 : (decide (1 ≤ c) && decide (c ≤ 4)) with
        | false => exact ⟨(0, 0, false), Ev.now _, Ev.now _, fun h => (by cases h), fun _ => rfl⟩
        | true =>
          obtain ⟨r, rS, rI, hr⟩ := count_both x y c c0.1 (by omega) c1.2
          exact ⟨r, Ev.bind rS (Ev.now _), Ev.bind rI (Ev.now _), hr, fun h => (by cases h)⟩
theorem growth_both (p q x y c : Int) : ∃ r : Int × Int × Bool, Ev (fun k => spec_l15Year.f k p q x y c) r ∧ Ev (fun k => impl_growth.f k p q x y c) r ∧ ok3 r ∧ ((decide (1 ≤ c) && decide (c ≤ 4)) = false → r = (0, 0, false)) := by
  unfold spec_l15Year.f impl_growth.f
  obtain ⟨d, dS, dI, hd, hbad⟩ := DayCount_both x y c
  obtain ⟨d1, d2, d3⟩ := d
  cases d3 with
  | false => exact ⟨(0, 0, false), Ev.bind dS (Ev.now _), Ev.bind dI (Ev.now _), fun h => (by cases h), fun _ => rfl⟩
  | true =>
    obtain ⟨r, rS, rI, hr⟩ := mulfr_both p q d1 d2
    exact ⟨r, Ev.bind dS (Ev.bind rS (Ev.now _)), Ev.bind dI (Ev.bind rI (Ev.now _)), hr, fun h => by have := hbad h; cases this⟩
theorem round_core (n q m s Q R : Int) (hQ : Int.tdiv n q = Q) (hR : Int.tmod n q = R) (q0 : 1 ≤ q) (q1 : q ≤ 1000000000) (m0 : 1 ≤ m) (m1 : m ≤ 4) (Q0 : 0 ≤ Q) (Q1 : Q ≤ 1000000000000000000) (R0 : 0 ≤ R) (R1 : R < q) (hs : s = 1 ∨ s = -1) :
    ∃ r, (∀ k, spec_l2Round.j0 (k + 1) n q m s = some r) ∧ (∀ k, impl_rounded.j0 (k + 1) q m (s * Q) R s = some r) := by
  have hup : ∃ u : Int, (u = 0 ∨ u = 1) ∧ (u = 1 ↔ (m = 2 ∧ 0 < R) ∨ (m = 3 ∧ q ≤ 2 * R) ∨ (m = 4 ∧ (q < 2 * R ∨ (2 * R = q ∧ Q % 2 = 1)))) := by
    by_cases h : (m = 2 ∧ 0 < R) ∨ (m = 3 ∧ q ≤ 2 * R) ∨ (m = 4 ∧ (q < 2 * R ∨ (2 * R = q ∧ Q % 2 = 1)))
    · exact ⟨1, .inr rfl, by simp only [h]⟩
    · exact ⟨0, .inl rfl, ⟨fun h' => by omega, fun h' => absurd h' h⟩⟩
  obtain ⟨u, hu, hiff⟩ := hup
  have wQ : wrap64 Q = Q := w64 (by omega) (by omega)
  have wQ1 : wrap64 (Q + 1) = Q + 1 := w64 (by omega) (by omega)
  have wR : wrap64 (2 * R) = 2 * R := w64 (by omega) (by omega)
  have tQ : Int.tmod Q 2 = Q % 2 := Int.tmod_eq_emod_of_nonneg Q0
  have hqz : ¬ q = 0 := by omega
  rcases hs with rfl | rfl
  · have w1 : wrap64 (1 * Q) = Q := by rw [Int.one_mul]; exact wQ
    have w2 : wrap64 (1 * (Q + 1)) = Q + 1 := by rw [Int.one_mul]; exact wQ1
    have e1 : (1 : Int) * Q = Q := Int.one_mul _
    refine ⟨Q + u, fun k => ?_, fun k => ?_⟩
    · simp only [spec_l2Round.j0, hQ, hR, wQ, wQ1, wR, w1, w2, tQ, if_neg hqz]
      repeat' split
      all_goals exact congrArg some (by omega)
    · simp only [impl_rounded.j0, e1, wQ1, wR, tQ]
      repeat' split
      all_goals exact congrArg some (by omega)
  · have w1 : wrap64 (-1 * Q) = -Q := by rw [w64 (by omega) (by omega)]; omega
    have w2 : wrap64 (-1 * (Q + 1)) = -Q - 1 := by rw [w64 (by omega) (by omega)]; omega
    have e1 : (-1 : Int) * Q = -Q := by omega
    have w3 : wrap64 (-Q + -1) = -Q - 1 := by rw [w64 (by omega) (by omega)]; omega
    have t2 : Int.tmod (-Q) 2 = -(Q % 2) := by rw [Int.neg_tmod, tQ]
    refine ⟨-Q - u, fun k => ?_, fun k => ?_⟩
    · simp only [spec_l2Round.j0, hQ, hR, wQ, wQ1, wR, w1, w2, tQ, if_neg hqz]
      repeat' split
      all_goals exact congrArg some (by omega)
    · simp only [impl_rounded.j0, e1, w3, wR, t2]
      repeat' split
      all_goals exact congrArg some (by omega)
theorem tdivmod (n q : Int) (h0 : 0 ≤ n) (h1 : n ≤ 1000000000000000000) (q0 : 1 ≤ q) : 0 ≤ Int.tdiv n q ∧ Int.tdiv n q ≤ 1000000000000000000 ∧ 0 ≤ Int.tmod n q ∧ Int.tmod n q < q := by
  rw [Int.tdiv_eq_ediv_of_nonneg h0, Int.tmod_eq_emod_of_nonneg h0]
  have a1 : 0 ≤ n / q := Int.ediv_nonneg h0 (by omega)
  have a2 : n / q ≤ n := Int.ediv_le_self q h0
  have a3 := Int.emod_nonneg n (show q ≠ 0 by omega)
  have a4 := Int.emod_lt_of_pos n (show 0 < q by omega)
  omega
theorem round_both (p q m : Int) (hp0 : -1000000000000000000 ≤ p) (hp1 : p ≤ 1000000000000000000) (q0 : 1 ≤ q) (q1 : q ≤ 1000000000) (m0 : 1 ≤ m) (m1 : m ≤ 4) : ∃ r, Ev (fun k => spec_l2Round.f k p q m) r ∧ Ev (fun k => impl_rounded.f k p q m) r := by
  unfold spec_l2Round.f impl_rounded.f
  simp only [if_neg (show ¬ q = 0 by omega)]
  by_cases c : p < 0
  · obtain ⟨n, rfl⟩ : ∃ n : Int, p = -n := ⟨-p, by omega⟩
    obtain ⟨b0, b1, b2, b3⟩ := tdivmod n q (by omega) (by omega) q0
    obtain ⟨r, rS, rI⟩ := round_core n q m (-1) _ _ rfl rfl q0 q1 m0 m1 b0 b1 b2 b3 (.inr rfl)
    have e1 : wrap64 (- -n) = n := by rw [w64 (by omega) (by omega)]; omega
    have e2 : wrap64 (Int.tdiv (-n) q) = -1 * Int.tdiv n q := by rw [Int.neg_tdiv, w64 (by omega) (by omega)]; omega
    have e3 : impl_size.f (Int.tmod (-n) q) = some (Int.tmod n q) := by
      rw [Int.neg_tmod, size_eq _ (by omega) (by omega)]
      congr 1
      omega
    refine ⟨r, ?_, ?_⟩
    · simp only [if_pos c, e1]
      exact Ev.step rS (Ev.now _)
    · simp only [e3, Option.bind_some, if_pos c, e2]
      exact Ev.step rI (Ev.now _)
  · obtain ⟨b0, b1, b2, b3⟩ := tdivmod p q (by omega) (by omega) q0
    obtain ⟨r, rS, rI⟩ := round_core p q m 1 _ _ rfl rfl q0 q1 m0 m1 b0 b1 b2 b3 (.inl rfl)
    have e2 : wrap64 (Int.tdiv p q) = 1 * Int.tdiv p q := by rw [w64 (by omega) (by omega)]; omega
    have e3 : impl_size.f (Int.tmod p q) = some (Int.tmod p q) := by
      rw [size_eq _ (by omega) (by omega)]
      congr 1
      omega
    refine ⟨r, ?_, ?_⟩
    · simp only [if_neg c]
      exact Ev.step rS (Ev.now _)
    · simp only [e3, Option.bind_some, if_neg c, e2]
      exact Ev.step rI (Ev.now _)
theorem isMode_eq (m : Int) : impl_isMode.f m = some (decide (1 ≤ m) && decide (m ≤ 4)) := by unfold impl_isMode.f; rw [within_eq]; rfl
theorem isCount_eq (m : Int) : impl_isCount.f m = some (decide (1 ≤ m) && decide (m ≤ 4)) := by unfold impl_isCount.f; rw [within_eq]; rfl
theorem scale_both (x p q m : Int) : ∃ r : Int × Bool, Ev (fun k => spec_ScaleAmount.f k x p q m) r ∧ Ev (fun k => impl_ScaleAmount.f k x p q m) r ∧ ((decide (1 ≤ m) && decide (m ≤ 4)) = false → r = (0, false)) := by
  unfold spec_ScaleAmount.f impl_ScaleAmount.f
  simp only [l2Amount_eq, isAmount_eq, l1In_eq, isMode_eq, Option.bind_some]
  have badS : Ev (fun k => spec_ScaleAmount.j0 k x m true p q) (0, false) := Ev.step (f := fun _ => some (0, false)) (fun k => by simp only [spec_ScaleAmount.j0]; rfl) (Ev.now _)
  have badI : Ev (fun k => impl_ScaleAmount.j0 k x m true p q) (0, false) := Ev.step (f := fun _ => some (0, false)) (fun k => by simp only [impl_ScaleAmount.j0]; rfl) (Ev.now _)
  cases c0 : am x with
  | false => exact ⟨(0, false), badS, badI, fun _ => rfl⟩
  | true =>
    simp only [if_true]
    obtain ⟨b, bS, bI, hb⟩ := fr_both p q
    cases b with
    | false => exact ⟨(0, false), Ev.bind bS badS, Ev.bind bI badI, fun _ => rfl⟩
    | true =>
      cases c2 : (decide (1 ≤ m) && decide (m ≤ 4)) with
      | false => exact ⟨(0, false), Ev.bind bS badS, Ev.bind bI badI, fun _ => rfl⟩
      | true =>
        simp only [Bool.and_eq_true, decide_eq_true_eq] at c2
        have hx := am_iff.1 c0
        have hb := hb rfl
        have m1 := mul_bd x p hx.1 hx.2 hb.1 hb.2.1
        obtain ⟨t, tS, tI⟩ := round_both (x * p) q m m1.1 m1.2 hb.2.2.1 hb.2.2.2 c2.1 c2.2
        have ew : wrap64 (x * p) = x * p := w64 (by omega) (by omega)
        refine ⟨if am t = true then (t, true) else (0, false), Ev.bind bS ?_, Ev.bind bI ?_, fun h => (by cases h)⟩
        · simp only [if_true]
          refine Ev.step (f := fun k => (spec_l2Round.f k (x * p) q m).bind fun t => if am t = true then some (t, true) else some (0, false)) (fun k => by simp only [spec_ScaleAmount.j0, l2Amount_eq, Option.bind_some, ew]; rfl) ?_
          refine Ev.bind tS ?_
          exact Ev.const (by split <;> rfl)
        · simp only [if_true]
          refine Ev.step (f := fun k => (impl_rounded.f k (x * p) q m).bind fun t => if am t = true then some (t, true) else some (0, false)) (fun k => by simp only [impl_ScaleAmount.j0, isAmount_eq, Option.bind_some, ew]; rfl) ?_
          refine Ev.bind tI ?_
          exact Ev.const (by split <;> rfl)
theorem rate_both (p q : Int) : ∃ b, Ev (fun k => spec_l15Rate.f k p q) b ∧ Ev (fun k => impl_isRate.f k p q) b := by
  unfold spec_l15Rate.f impl_isRate.f
  obtain ⟨b, bS, bI, hb⟩ := fr_both p q
  refine ⟨if b = true then decide (p ≥ 0) else false, Ev.bind bS ?_, Ev.bind bI ?_⟩
  · exact Ev.const (by cases b <;> rfl)
  · exact Ev.const (by cases b <;> rfl)
theorem accr_both (a p q x y c m : Int) : ∃ r : Int × Bool, Ev (fun k => spec_AccrueInterest.f k a p q x y c m) r ∧ Ev (fun k => impl_AccrueInterest.f k a p q x y c m) r := by
  have badS : Ev (fun k => spec_AccrueInterest.j0 k a x y c m true p q) (0, false) := Ev.step (f := fun _ => some (0, false)) (fun k => by simp only [spec_AccrueInterest.j0]; rfl) (Ev.now _)
  have badI : Ev (fun k => impl_AccrueInterest.j0 k a x y c m true p q) (0, false) := Ev.step (f := fun _ => some (0, false)) (fun k => by simp only [impl_AccrueInterest.j0]; rfl) (Ev.now _)
  unfold spec_AccrueInterest.f impl_AccrueInterest.f spec_l15Principal.f
  simp only [l1In_eq, within_eq, Option.bind_some]
  cases (decide (0 ≤ a) && decide (a ≤ 1000000000)) with
  | false => exact ⟨(0, false), badS, badI⟩
  | true =>
    simp only [if_true]
    unfold impl_isInterest.f
    simp only [isCount_eq, isMode_eq, Option.bind_some]
    obtain ⟨b, bS, bI⟩ := rate_both p q
    cases b with
    | false => exact ⟨(0, false), Ev.bind bS badS, Ev.bind (Ev.bind bI (Ev.now _)) badI⟩
    | true =>
      obtain ⟨g, gS, gI, hg, hbad⟩ := growth_both p q x y c
      obtain ⟨g1, g2, g3⟩ := g
      obtain ⟨t, tS, tI, ht⟩ := scale_both a g1 g2 m
      have stepS : ∀ r, Ev (fun k => if g3 = true then (spec_ScaleAmount.f k a g1 g2 m).bind fun bt => some (bt.1, bt.2) else some (0, false)) r → Ev (fun k => spec_AccrueInterest.j0 k a x y c m false p q) r := by
        intro r hr
        refine Ev.step (f := fun k => (spec_l15Year.f k p q x y c).bind fun bt => if bt.2.2 = true then (spec_ScaleAmount.f k a bt.1 bt.2.1 m).bind fun bt => some (bt.1, bt.2) else some (0, false)) (fun k => by simp only [spec_AccrueInterest.j0]; rfl) ?_
        exact Ev.bind gS hr
      have stepI : ∀ r, Ev (fun k => if g3 = true then (impl_ScaleAmount.f k a g1 g2 m).bind fun bt => some (bt.1, bt.2) else some (0, false)) r → Ev (fun k => impl_AccrueInterest.j0 k a x y c m false p q) r := by
        intro r hr
        refine Ev.step (f := fun k => (impl_growth.f k p q x y c).bind fun bt => if bt.2.2 = true then (impl_ScaleAmount.f k a bt.1 bt.2.1 m).bind fun bt => some (bt.1, bt.2) else some (0, false)) (fun k => by simp only [impl_AccrueInterest.j0]; rfl) ?_
        exact Ev.bind gI hr
      cases cc : (decide (1 ≤ c) && decide (c ≤ 4)) with
      | false =>
        have hz := hbad cc
        cases hz
        refine ⟨(0, false), Ev.bind bS (stepS _ (Ev.now _)), ?_⟩
        exact Ev.bind (Ev.bind bI (Ev.now false)) badI
      | true =>
        cases cm : (decide (1 ≤ m) && decide (m ≤ 4)) with
        | false =>
          have hz := ht cm
          subst hz
          refine ⟨(0, false), Ev.bind bS (stepS _ ?_), ?_⟩
          · cases g3 with
            | false => exact Ev.now _
            | true =>
              simp only [if_true]
              exact Ev.bind tS (Ev.now _)
          · exact Ev.bind (Ev.bind bI (Ev.now false)) badI
        | true =>
          refine ⟨if g3 = true then t else (0, false), Ev.bind bS (stepS _ ?_), Ev.bind (Ev.bind bI (Ev.now true)) (stepI _ ?_)⟩
          · cases g3 with
            | false => exact Ev.now _
            | true =>
              simp only [if_true]
              exact Ev.bind tS (Ev.now _)
          · cases g3 with
            | false => exact Ev.now _
            | true =>
              simp only [if_true]
              exact Ev.bind tI (Ev.now _)
theorem interim_both (a x y p q c m : Int) : ∃ r : Int × Bool, Ev (fun k => spec_InterimAmount.f k a x y p q c m) r ∧ Ev (fun k => impl_InterimAmount.f k a x y p q c m) r := by
  unfold spec_InterimAmount.f impl_InterimAmount.f impl_amountOr.f
  simp only [l2Amount_eq, isAmount_eq, Option.bind_some]
  cases c0 : am a with
  | false => exact ⟨(0, false), Ev.now _, Ev.now _⟩
  | true =>
    have ha := am_iff.1 c0
    simp only [if_true, abs_eq a (by omega) (by omega), size_eq a (by omega) (by omega), Option.bind_some]
    obtain ⟨r, rS, rI⟩ := accr_both (a.natAbs : Int) p q x y c m
    obtain ⟨t, b⟩ := r
    cases b with
    | false => exact ⟨(0, false), Ev.bind rS (Ev.now _), Ev.bind rI (Ev.now _)⟩
    | true =>
      by_cases h : a < 0
      · simp only [if_pos h]
        refine ⟨if am (wrap64 (a + wrap64 (-t))) = true then (wrap64 (a + wrap64 (-t)), true) else (0, false), Ev.bind rS ?_, Ev.bind rI ?_⟩
        · simp only [if_true]
          exact Ev.const (by split <;> rfl)
        · simp only [if_true]
          exact Ev.const (by split <;> rfl)
      · simp only [if_neg h]
        refine ⟨if am (wrap64 (a + t)) = true then (wrap64 (a + t), true) else (0, false), Ev.bind rS ?_, Ev.bind rI ?_⟩
        · simp only [if_true]
          exact Ev.const (by split <;> rfl)
        · simp only [if_true]
          exact Ev.const (by split <;> rfl)
theorem whole (a x y p q c m : Int) : Ev (fun k => laws_FnExactInterimAmount.f k a x y p q c m) true := by
  unfold laws_FnExactInterimAmount.f laws_toFraction.f
  simp only [Option.bind_some]
  obtain ⟨r, rS, rI⟩ := interim_both a x y p q c m
  refine Ev.bind rS (Ev.bind rI ?_)
  simp only [if_true, bne_self_eq_false]
  exact Ev.now _
end Go.Proofs.Ytjpceeemmebghaa.PureFnExactInterimAmount
namespace Go.Proofs.Ytjpceeemmebghaa.Pure
theorem FnExactInterimAmount : PFnExactInterimAmount.laws_FnExactInterimAmount.Ask := fun a x y f c m _ _ _ _ _ _ => (PureFnExactInterimAmount.whole a x y f.f0 f.f1 c m).rounds
end Go.Proofs.Ytjpceeemmebghaa.Pure
