/-
The plain law behind FnArguments: the printed functions of the program and of the reference give the same values, so the law answers true. No condition.
-/
import Derived.Test.YtlneimpoholkhaaVAskFnArguments
import Derived.Test.YtlneimpoholkhaaVBase
import Derived.Test.YtlneimpoholkhaaVBits
namespace Go.Proofs.Ytlneimpoholkhaa.PureFnArguments
open Go.RowKit Go.Proofs.Ytlneimpoholkhaa.PFnArguments Go.Proofs.YtlneimpoholkhaaOpen Go.Proofs.YtlneimpoholkhaaBase Go.Proofs.YtlneimpoholkhaaBits Go.Proofs.YtlneimpoholkhaaW.PrintWords Go.Proofs.YtlneimpoholkhaaW.PrintLast Go.Proofs.YtlneimpoholkhaaW.PrintMore

theorem within_eq (x a b : Int) : impl_within.f x a b = some (decide (a ≤ x) && decide (x ≤ b)) := by
  unfold impl_within.f
  by_cases h : x ≥ a
  · rw [if_pos h]; simp [h]
  · rw [if_neg h]; simp [h]

theorem l1In_eq (x a b : Int) : spec_l1In.f x a b = some (decide (a ≤ x) && decide (x ≤ b)) := by
  unfold spec_l1In.f
  by_cases h : x ≥ a
  · rw [if_pos h]; simp [h]
  · rw [if_neg h]; simp [h]

/-! frameworks: what is valid -/
abbrev IA := S65
def inR (n : Int) (x : IA) : Bool := decide (0 ≤ x.f0) && decide (x.f0 ≤ n - 1) && decide (0 ≤ x.f1) && decide (x.f1 ≤ n - 1)
def lt2 (a b : IA) : Bool := decide (a.f0 < b.f0) || (decide (a.f0 = b.f0) && decide (a.f1 < b.f1))
/-- From place i on: each in range, each behind the one ahead of it. -/
def goodAt (n : Int) (l : List IA) (i : Nat) : Bool := inR n (l.getD i z65) && (i == 0 || lt2 (l.getD (i - 1) z65) (l.getD i z65))
def good (n : Int) (l : List IA) : Bool := decide (0 ≤ n) && decide (n ≤ 10) && (List.range l.length).all (goodAt n l)
theorem good_iff {n : Int} {l : List IA} : good n l = true ↔ (0 ≤ n ∧ n ≤ 10) ∧ ∀ i, i < l.length → goodAt n l i = true := by
  simp [good, List.all_eq_true]
theorem inR_iff {n : Int} {x : IA} : inR n x = true ↔ 0 ≤ x.f0 ∧ x.f0 ≤ n - 1 ∧ 0 ≤ x.f1 ∧ x.f1 ≤ n - 1 := by simp [inR, and_assoc]

def restGood (n : Int) (l : List IA) (i : Nat) : Bool := (List.range' i (l.length - i)).all (goodAt n l)
theorem restGood_end (n : Int) (l : List IA) : restGood n l l.length = true := by simp [restGood]
theorem restGood_step (n : Int) (l : List IA) {i : Nat} (h : i < l.length) : restGood n l i = (goodAt n l i && restGood n l (i + 1)) := by
  unfold restGood
  rw [show l.length - i = (l.length - (i + 1)) + 1 by omega, List.range'_succ, List.all_cons]
theorem restGood_all (n : Int) (l : List IA) : restGood n l 0 = (List.range l.length).all (goodAt n l) := by
  unfold restGood
  rw [Nat.sub_zero, List.range_eq_range']

theorem rdA (l : List IA) (i : Nat) : rd_T65 l (i : Int) = l.getD i z65 := rfl

/-- What a round asks of element x behind element y: first is whether there is none ahead. -/
def ask (n : Int) (first : Bool) (y x : IA) : Bool := inR n x && (first || lt2 y x)
theorem goodAt_ask (n : Int) (l : List IA) (i : Nat) : goodAt n l i = ask n (i == 0) (l.getD (i - 1) z65) (l.getD i z65) := rfl
theorem inR_and (n : Int) (x : IA) : inR n x = ((decide (0 ≤ x.f0) && decide (x.f0 ≤ n - 1)) && (decide (0 ≤ x.f1) && decide (x.f1 ≤ n - 1))) := by simp only [inR, Bool.and_assoc]

theorem impl_j (n : Int) (l : List IA) (i : Nat) (hi : i < l.length) (hl : l.length ≤ 1048576) (b : Bool) (R : Bool) (ih : Ev (fun k => impl_IsValidFramework.l0 k l (l.length : Int) ((i + 1 : Nat) : Int) n l) R) (x : IA) :
    Ev (fun k => impl_IsValidFramework.j1 k (i : Int) l (l.length : Int) (i : Int) (!b) n l x.f0 x.f1) (b && ((i == 0) || lt2 (l.getD (i - 1) z65) x) && R) := by
  cases b with
  | false => exact Ev.step (f := fun _ => some false) (fun k => by simp only [impl_IsValidFramework.j1]; rfl) (Ev.now _)
  | true =>
    by_cases hz : i = 0
    · subst hz
      refine Ev.step (f := fun k => impl_IsValidFramework.l0 k l (l.length : Int) ((0 + 1 : Nat) : Int) n l) (fun k => ?_) ?_
      · simp only [impl_IsValidFramework.j1]; rw [if_neg (by simp), if_neg (by omega), w64s (by omega)]
      · simpa using ih
    · have hb : (i == 0) = false := by simpa using hz
      rw [hb]
      refine Ev.step (f := fun k => if lt2 (l.getD (i - 1) z65) x = true then impl_IsValidFramework.l0 k l (l.length : Int) ((i + 1 : Nat) : Int) n l else some false) (fun k => ?_) ?_
      · simp only [impl_IsValidFramework.j1]
        rw [if_neg (by simp), if_pos (by omega), w64p (by omega) (by omega), if_pos (by omega), if_pos (by omega), rdA, w64s (by omega)]
        generalize l.getD (i - 1) z65 = y
        simp only [lt2, Bool.or_eq_true, Bool.and_eq_true, decide_eq_true_eq]
        by_cases c1 : x.f0 < y.f0
        · rw [if_pos c1, if_neg (by omega)]
        · rw [if_neg c1]
          by_cases c2 : x.f0 = y.f0
          · rw [if_pos c2]
            by_cases c3 : x.f1 ≤ y.f1
            · rw [if_pos c3, if_neg (by omega)]
            · rw [if_neg c3, if_pos (by omega)]
          · rw [if_neg c2, if_pos (by omega)]
      · cases lt2 (l.getD (i - 1) z65) x with
        | true => simpa using ih
        | false => exact Ev.now _
theorem impl_loop (n : Int) (l : List IA) (hl : l.length ≤ 1048576) (h0 : 0 ≤ n) (h1 : n ≤ 10) : ∀ i, i ≤ l.length → Ev (fun k => impl_IsValidFramework.l0 k l (l.length : Int) (i : Int) n l) (restGood n l i) := by
  refine down l.length ?_ (fun i hi ih => ?_)
  · refine Ev.step (f := fun _ => some true) (fun k => by simp only [impl_IsValidFramework.l0]; rw [if_neg (by omega)]) ?_
    rw [restGood_end]
    exact Ev.now _
  · rw [restGood_step n l hi, goodAt_ask]
    have e := impl_j n l i hi hl (inR n (l.getD i z65)) _ ih (l.getD i z65)
    refine Ev.step (fun k => ?_) e
    simp only [impl_IsValidFramework.l0]
    rw [if_pos (by omega), if_pos (by omega), if_pos (by omega), rdA, within_eq, within_eq, w64 (by omega) (by omega)]
    simp only [Option.bind_some]
    generalize l.getD i z65 = x
    rw [inR_and]
    cases (decide (0 ≤ x.f0) && decide (x.f0 ≤ n - 1)) <;> simp
theorem good_eq (n : Int) (l : List IA) : good n l = (decide (0 ≤ n) && decide (n ≤ 10) && restGood n l 0) := by rw [restGood_all]; rfl
theorem impl_ev (n : Int) (l : List IA) (hl : l.length ≤ 1048576) : Ev (fun k => impl_IsValidFramework.f k n l) (good n l) := by
  unfold impl_IsValidFramework.f
  rw [within_eq, good_eq]
  simp only [Option.bind_some]
  by_cases c : 0 ≤ n ∧ n ≤ 10
  · have : (decide (0 ≤ n) && decide (n ≤ 10)) = true := by simpa using c
    simp only [this, if_true, Bool.true_and]
    exact impl_loop n l hl c.1 c.2 0 (Nat.zero_le _)
  · have : (decide (0 ≤ n) && decide (n ≤ 10)) = false := by simpa using c
    simp only [this, Bool.false_and]
    exact Ev.now _

theorem spec_j (n : Int) (l : List IA) (i : Nat) (hi : i < l.length) (hl : l.length ≤ 1048576) (h0 : 0 ≤ n) (h1 : n ≤ 10) (b : Bool) (R : Bool) (ih : b = true → Ev (fun k => spec_l22Good.l0 k ((i + 1 : Nat) : Int) n l) R) (x : IA) (hx : b = true → inR n x = true) (hy : 0 < i → inR n (l.getD (i - 1) z65) = true) :
    Ev (fun k => spec_l22Good.j1 k (i : Int) (!b) n l x.f0 x.f1) (b && ((i == 0) || lt2 (l.getD (i - 1) z65) x) && R) := by
  cases b with
  | false => exact Ev.step (f := fun _ => some false) (fun k => by simp only [spec_l22Good.j1]; rfl) (Ev.now _)
  | true =>
    have ih := ih rfl
    have hx := inR_iff.1 (hx rfl)
    by_cases hz : i = 0
    · subst hz
      refine Ev.step (f := fun k => spec_l22Good.l0 k ((0 + 1 : Nat) : Int) n l) (fun k => ?_) ?_
      · simp only [spec_l22Good.j1]; rw [if_neg (by simp), if_neg (by omega), w64s (by omega)]
      · simpa using ih
    · have hb : (i == 0) = false := by simpa using hz
      have hy := inR_iff.1 (hy (by omega))
      rw [hb]
      refine Ev.step (f := fun k => if lt2 (l.getD (i - 1) z65) x = true then spec_l22Good.l0 k ((i + 1 : Nat) : Int) n l else some false) (fun k => ?_) ?_
      · simp only [spec_l22Good.j1]
        rw [if_neg (by simp), if_pos (by omega), w64p (by omega) (by omega), if_pos (by omega), if_pos (by omega), rdA, w64s (by omega)]
        generalize l.getD (i - 1) z65 = y at hy ⊢
        have e1 : wrap64 (wrap64 (y.f0 * n) + y.f1) = y.f0 * n + y.f1 := by
          have : 0 ≤ y.f0 * n := Int.mul_nonneg hy.1 h0
          have : y.f0 * n ≤ 10 * 10 := Int.mul_le_mul (by omega) (by omega) h0 (by omega)
          rw [w64 (x := y.f0 * n) (by omega) (by omega), w64 (by omega) (by omega)]
        have e2 : wrap64 (wrap64 (x.f0 * n) + x.f1) = x.f0 * n + x.f1 := by
          have : 0 ≤ x.f0 * n := Int.mul_nonneg hx.1 h0
          have : x.f0 * n ≤ 10 * 10 := Int.mul_le_mul (by omega) (by omega) h0 (by omega)
          rw [w64 (x := x.f0 * n) (by omega) (by omega), w64 (by omega) (by omega)]
        rw [e1, e2]
        simp only [lt2, Bool.or_eq_true, Bool.and_eq_true, decide_eq_true_eq]
        by_cases c1 : y.f0 < x.f0
        · have : (y.f0 + 1) * n ≤ x.f0 * n := Int.mul_le_mul_of_nonneg_right (by omega) h0
          rw [Int.add_mul, Int.one_mul] at this
          rw [if_neg (by omega), if_pos (by omega)]
        · by_cases c2 : y.f0 = x.f0
          · rw [c2]
            by_cases c3 : y.f1 < x.f1
            · rw [if_neg (by omega), if_pos (by omega)]
            · rw [if_pos (by omega), if_neg (by omega)]
          · have : (x.f0 + 1) * n ≤ y.f0 * n := Int.mul_le_mul_of_nonneg_right (by omega) h0
            rw [Int.add_mul, Int.one_mul] at this
            rw [if_pos (by omega), if_neg (by omega)]
      · cases lt2 (l.getD (i - 1) z65) x with
        | true => simpa using ih
        | false => exact Ev.now _
theorem spec_loop (n : Int) (l : List IA) (hl : l.length ≤ 1048576) (h0 : 0 ≤ n) (h1 : n ≤ 10) : ∀ i, i ≤ l.length → (0 < i → inR n (l.getD (i - 1) z65) = true) → Ev (fun k => spec_l22Good.l0 k (i : Int) n l) (restGood n l i) := by
  refine down l.length ?_ (fun i hi ih => ?_)
  · intro _
    refine Ev.step (f := fun _ => some true) (fun k => by simp only [spec_l22Good.l0]; rw [if_neg (by omega)]) ?_
    rw [restGood_end]
    exact Ev.now _
  · intro hy
    rw [restGood_step n l hi, goodAt_ask]
    have e := spec_j n l i hi hl h0 h1 (inR n (l.getD i z65)) (restGood n l (i + 1)) (fun hb => ih (fun _ => hb)) (l.getD i z65) (fun h => h) hy
    refine Ev.step (fun k => ?_) e
    simp only [spec_l22Good.l0]
    rw [if_pos (by omega), if_pos (by omega), rdA, l1In_eq, l1In_eq, w64 (by omega) (by omega)]
    simp only [Option.bind_some]
    generalize l.getD i z65 = x
    rw [inR_and]
    cases (decide (0 ≤ x.f0) && decide (x.f0 ≤ n - 1)) <;> simp
theorem spec_ev (n : Int) (l : List IA) (hl : l.length ≤ 1048576) : Ev (fun k => spec_l22Good.f k n l) (good n l) := by
  unfold spec_l22Good.f
  rw [l1In_eq, good_eq]
  simp only [Option.bind_some]
  by_cases c : 0 ≤ n ∧ n ≤ 10
  · have : (decide (0 ≤ n) && decide (n ≤ 10)) = true := by simpa using c
    simp only [this, if_true, Bool.true_and]
    exact spec_loop n l hl c.1 c.2 0 (Nat.zero_le _) (fun h => absurd h (Nat.lt_irrefl 0))
  · have : (decide (0 ≤ n) && decide (n ≤ 10)) = false := by simpa using c
    simp only [this, Bool.false_and]
    exact Ev.now _
theorem good_n {n : Int} {l : List IA} (h : good n l = true) : 0 ≤ n ∧ n ≤ 10 := by
  rw [good_iff] at h
  exact h.1
theorem good_mem {n : Int} {l : List IA} (h : good n l = true) : ∀ x ∈ l, inR n x = true := by
  intro x hx
  obtain ⟨i, hi, rfl⟩ := List.getElem_of_mem hx
  have := (good_iff.1 h).2 i hi
  simp only [goodAt, Bool.and_eq_true] at this
  rw [List.getD_eq_getElem?_getD, List.getElem?_eq_getElem hi] at this
  exact this.1

/-! an attack that is added -/
theorem Ev.at1 {α : Type} {g : Nat → Option α} {r : α} (h : ∀ k, g (k + 1) = some r) : Ev g r := ⟨1, fun k hk => by have := h (k - 1); rwa [show k - 1 + 1 = k by omega] at this⟩
theorem Ev.at2 {α : Type} {g : Nat → Option α} {r : α} (h : ∀ k, g (k + 2) = some r) : Ev g r := ⟨2, fun k hk => by have := h (k - 2); rwa [show k - 2 + 2 = k by omega] at this⟩
theorem IA_ext {a b : IA} (h0 : a.f0 = b.f0) (h1 : a.f1 = b.f1) : a = b := by
  cases a; cases b
  simp only at h0 h1
  rw [h0, h1]
instance : DecidableEq IA := fun a b => if h : a.f0 = b.f0 ∧ a.f1 = b.f1 then isTrue (IA_ext h.1 h.2) else isFalse (fun e => h (by rw [e]; exact ⟨rfl, rfl⟩))
def pos (x : IA) : List IA → Nat
  | [] => 0
  | y :: l => if lt2 y x = true then pos x l + 1 else 0
theorem pos_le (x : IA) : ∀ l : List IA, pos x l ≤ l.length
  | [] => Nat.le_refl _
  | y :: l => by
    unfold pos
    have := pos_le x l
    split <;> simp <;> omega
theorem pos_drop (x : IA) (l : List IA) (i : Nat) (h : i < l.length) : pos x (l.drop i) = if lt2 (l.getD i z65) x = true then pos x (l.drop (i + 1)) + 1 else 0 := by
  rw [drop_getD l i h z65]
  rfl
theorem pos_below (x : IA) : ∀ (l : List IA) (j : Nat), j < pos x l → lt2 (l.getD j z65) x = true
  | [], j, h => absurd h (by simp [pos])
  | y :: l, j, h => by
    unfold pos at h
    by_cases c : lt2 y x = true
    · rw [if_pos c] at h
      cases j with
      | zero => exact c
      | succ j => exact pos_below x l j (by omega)
    · rw [if_neg c] at h
      omega
theorem pos_at (x : IA) : ∀ (l : List IA), pos x l < l.length → lt2 (l.getD (pos x l) z65) x = false
  | [], h => absurd h (by simp [pos])
  | y :: l, h => by
    unfold pos at h ⊢
    by_cases c : lt2 y x = true
    · rw [if_pos c] at h ⊢
      exact pos_at x l (by simpa using h)
    · rw [if_neg c]
      simpa using c
theorem lt2_iff {a b : IA} : lt2 a b = true ↔ a.f0 < b.f0 ∨ (a.f0 = b.f0 ∧ a.f1 < b.f1) := by simp [lt2]
theorem lt2_self (a : IA) : lt2 a a = false := by
  cases h : lt2 a a with
  | false => rfl
  | true => have := lt2_iff.1 h; omega
theorem goodAt_of {n : Int} {l : List IA} (h : good n l = true) (i : Nat) (hi : i < l.length) : inR n (l.getD i z65) = true ∧ (0 < i → lt2 (l.getD (i - 1) z65) (l.getD i z65) = true) := by
  have := (good_iff.1 h).2 i hi
  rw [goodAt, Bool.and_eq_true, Bool.or_eq_true] at this
  refine ⟨this.1, fun h0 => ?_⟩
  rcases this.2 with h2 | h2
  · have : i = 0 := by simpa using h2
    omega
  · exact h2
theorem good_sorted {n : Int} {l : List IA} (h : good n l = true) (i : Nat) : ∀ d, i + d + 1 < l.length → lt2 (l.getD i z65) (l.getD (i + d + 1) z65) = true
  | 0, hj => by
    have := (goodAt_of h (i + 1) hj).2 (by omega)
    simpa using this
  | d + 1, hj => by
    have h1 := lt2_iff.1 (good_sorted h i d (by omega))
    have h2 := lt2_iff.1 ((goodAt_of h (i + (d + 1) + 1) hj).2 (by omega))
    rw [show i + (d + 1) + 1 - 1 = i + d + 1 by omega] at h2
    exact lt2_iff.2 (by omega)
theorem pos_mem {n : Int} {l : List IA} (h : good n l = true) (x : IA) (j : Nat) (hj : j < l.length) (hx : l.getD j z65 = x) : pos x l = j := by
  have h1 : pos x l ≤ j := by
    refine Nat.le_of_not_lt (fun c => ?_)
    have := pos_below x l j c
    rw [hx, lt2_self] at this
    cases this
  rcases Nat.lt_or_ge (pos x l) j with c | c
  · have h2 := pos_at x l (by omega)
    have h3 := good_sorted h (pos x l) (j - pos x l - 1) (by omega)
    rw [show pos x l + (j - pos x l - 1) + 1 = j by omega, hx, h2] at h3
    cases h3
  · omega
/-- What comes out: the list itself where the attack stands in it; else the attack lies where it belongs. -/
def added (l : List IA) (x : IA) : List IA := if pos x l < l.length ∧ l.getD (pos x l) z65 = x then l else l.take (pos x l) ++ [x] ++ l.drop (pos x l)
theorem added_len (l : List IA) (x : IA) : (added l x).length ≤ l.length + 1 := by
  unfold added
  have := pos_le x l
  split <;> simp <;> omega
def addR (n : Int) (l : List IA) (a b : Int) : Int × List IA × Bool := if good n l = true ∧ inR n ⟨a, b⟩ = true then (n, added l ⟨a, b⟩, true) else (0, [], false)
theorem key_lt {n : Int} (h0 : 0 ≤ n) (h1 : n ≤ 10) {x y : IA} (hx : inR n x = true) (hy : inR n y = true) : decide (wrap64 (wrap64 (x.f0 * n) + x.f1) < wrap64 (wrap64 (y.f0 * n) + y.f1)) = lt2 x y := by
  have hx := inR_iff.1 hx
  have hy := inR_iff.1 hy
  have b1 : x.f0 * n ≤ 10 * 10 := Int.mul_le_mul (by omega) (by omega) h0 (by omega)
  have b2 : y.f0 * n ≤ 10 * 10 := Int.mul_le_mul (by omega) (by omega) h0 (by omega)
  have b3 : 0 ≤ x.f0 * n := Int.mul_nonneg (by omega) h0
  have b4 : 0 ≤ y.f0 * n := Int.mul_nonneg (by omega) h0
  rw [w64 (x := x.f0 * n) (by omega) (by omega), w64 (x := y.f0 * n) (by omega) (by omega), w64 (by omega) (by omega), w64 (by omega) (by omega)]
  have e : (x.f0 * n + x.f1 < y.f0 * n + y.f1) ↔ lt2 x y = true := by
    rw [lt2_iff]
    rcases Int.lt_trichotomy x.f0 y.f0 with c | c | c
    · have : (x.f0 + 1) * n ≤ y.f0 * n := Int.mul_le_mul_of_nonneg_right (by omega) h0
      rw [Int.add_mul, Int.one_mul] at this
      constructor <;> intro <;> omega
    · rw [c]
      constructor <;> intro <;> omega
    · have : (y.f0 + 1) * n ≤ x.f0 * n := Int.mul_le_mul_of_nonneg_right (by omega) h0
      rw [Int.add_mul, Int.one_mul] at this
      constructor <;> intro <;> omega
  cases h : lt2 x y with
  | true => simpa using e.2 h
  | false => simp only [decide_eq_false_iff_not]; intro c; rw [e.1 c] at h; cases h
theorem spec_tail (n : Int) (l : List IA) (hl : l.length ≤ 1048576) (x : IA) (i : Nat) (hi : i ≤ l.length) (k : Nat) :
    spec_AddAttack.j2 (k + 2) x.f0 x.f1 (i : Int) false n l = some (n, (if i < l.length ∧ l.getD i z65 = x then l.take i ++ [x] ++ l.drop (i + 1) else l.take i ++ [x] ++ l.drop i), true) := by
  have hl2 : (l.take i).length ≤ 1048576 := by simp; omega
  have hd : (l.drop i).length ≤ 1048576 := by simp; omega
  have hd2 : (l.drop (i + 1)).length ≤ 1048576 := by simp; omega
  have hx : (⟨x.f0, x.f1⟩ : IA) = x := rfl
  have hf : spec_AddAttack.j3 (k + 1) (i : Int) false n l n (l.take i ++ [x]) = some (n, l.take i ++ [x] ++ l.drop i, true) := by
    simp only [spec_AddAttack.j3]
    rw [if_neg (by simp), if_pos (by omega), if_pos (by omega), Option.bind_some, show (i : Int).toNat = i by omega, if_pos (by simp at hl2 hd ⊢; omega)]
  have hj : ∀ b : Bool, (b = true → i < l.length) → spec_AddAttack.j3 (k + 1) (i : Int) b n l n (l.take i ++ [x]) = some (n, (if b = true then l.take i ++ [x] ++ l.drop (i + 1) else l.take i ++ [x] ++ l.drop i), true) := by
    intro b hb
    cases b with
    | false => rw [hf, if_neg (by simp)]
    | true =>
      have := hb rfl
      simp only [spec_AddAttack.j3]
      rw [if_pos trivial, if_pos trivial, w64s (by omega), if_pos (by omega), if_pos (by omega), Option.bind_some, show ((i + 1 : Nat) : Int).toNat = i + 1 by omega, if_pos (by simp at hl2 hd2 ⊢; omega)]
  rw [show k + 2 = (k + 1) + 1 by omega, spec_AddAttack.j2]
  rw [if_neg (by simp), Option.bind_some, if_pos (by omega), if_pos (by omega), Option.bind_some, show (i : Int).toNat = i by omega, List.nil_append, if_pos (by simp; omega), Option.bind_some, if_pos (by simp; omega), Option.bind_some, hx]
  by_cases c : i < l.length
  · rw [if_pos (by omega), rdA]
    by_cases c0 : (l.getD i z65).f0 = x.f0
    · rw [if_pos c0, hj _ (fun _ => c)]
      by_cases c1 : (l.getD i z65).f1 = x.f1
      · rw [if_pos (by simpa using c1), if_pos ⟨c, IA_ext c0 c1⟩]
      · rw [if_neg (by simpa using c1), if_neg (fun h => c1 (by rw [h.2]))]
    · rw [if_neg c0, hf, if_neg (fun h => c0 (by rw [h.2]))]
  · rw [if_neg (by omega), hf, if_neg (fun h => c h.1)]
theorem spec_walk (n : Int) (l : List IA) (hl : l.length ≤ 1048576) (hg : good n l = true) (x : IA) (hx : inR n x = true) (r : List IA) : ∀ i, i ≤ l.length →
    (∀ k, spec_AddAttack.j2 (k + 2) x.f0 x.f1 ((i + pos x (l.drop i) : Nat) : Int) false n l = some (n, r, true)) → Ev (fun k => spec_AddAttack.l0 k x.f0 x.f1 (i : Int) n l) (n, r, true) := by
  have hn := good_n hg
  refine down l.length ?_ (fun i hi ih => ?_)
  · intro h
    rw [List.drop_length] at h
    refine Ev.step (f := fun k => spec_AddAttack.j2 k x.f0 x.f1 (l.length : Int) false n l) (fun k => ?_) (Ev.at2 h)
    simp only [spec_AddAttack.l0]
    rw [if_neg (by omega)]
  · intro h
    rw [pos_drop x l i hi] at h
    have hr := (goodAt_of hg i hi).1
    by_cases c : lt2 (l.getD i z65) x = true
    · rw [if_pos c] at h
      have ih' := ih (fun k => by rw [← h k, show i + (pos x (l.drop (i + 1)) + 1) = i + 1 + pos x (l.drop (i + 1)) by omega])
      refine Ev.step (f := fun k => spec_AddAttack.j2 k x.f0 x.f1 (i : Int) true n l) (fun k => ?_) (Ev.step (fun k => ?_) ih')
      · simp only [spec_AddAttack.l0]
        rw [if_pos (by omega), if_pos (by omega), rdA, key_lt hn.1 hn.2 hr hx, c]
      · rw [spec_AddAttack.j2, if_pos rfl, w64s (by omega)]
    · rw [if_neg c] at h
      refine Ev.step (f := fun k => spec_AddAttack.j2 k x.f0 x.f1 (i : Int) false n l) (fun k => ?_) (Ev.at2 h)
      simp only [spec_AddAttack.l0]
      rw [if_pos (by omega), if_pos (by omega), rdA, key_lt hn.1 hn.2 hr hx, Bool.eq_false_iff.2 c]
theorem in_split (n a b : Int) : inR n ⟨a, b⟩ = ((decide (0 ≤ a) && decide (a ≤ n - 1)) && (decide (0 ≤ b) && decide (b ≤ n - 1))) := inR_and n ⟨a, b⟩
theorem spec_added (l : List IA) (x : IA) (c : pos x l < l.length ∧ l.getD (pos x l) z65 = x) : l.take (pos x l) ++ [x] ++ l.drop (pos x l + 1) = l := by
  have := drop_getD l (pos x l) c.1 z65
  rw [c.2] at this
  rw [List.append_assoc, List.singleton_append, ← this, List.take_append_drop]
theorem specAdd_ev (n : Int) (l : List IA) (hl : l.length ≤ 1048576) (a b : Int) : Ev (fun k => spec_AddAttack.f k n l a b) (addR n l a b) := by
  unfold spec_AddAttack.f addR
  refine Ev.bind (spec_ev n l hl) ?_
  by_cases hg : good n l = true
  · rw [hg]
    have hn := good_n hg
    simp only [if_true, l1In_eq, Option.bind_some, w64 (x := n - 1) (by omega) (by omega), true_and]
    rw [in_split]
    cases h1 : (decide (0 ≤ a) && decide (a ≤ n - 1)) with
    | false =>
      simp only [Bool.false_eq_true, if_false, Bool.false_and]
      exact Ev.step (f := fun _ => some (0, [], false)) (fun k => by simp only [spec_AddAttack.j0]; rfl) (Ev.now _)
    | true =>
      simp only [if_true, Bool.true_and]
      cases h2 : (decide (0 ≤ b) && decide (b ≤ n - 1)) with
      | false =>
        simp only [Bool.false_eq_true, if_false, Bool.not_false]
        exact Ev.step (f := fun _ => some (0, [], false)) (fun k => by simp only [spec_AddAttack.j0]; rfl) (Ev.now _)
      | true =>
        simp only [if_true, Bool.not_true]
        have hx : inR n ⟨a, b⟩ = true := by rw [in_split, h1, h2]; rfl
        refine Ev.step (f := fun k => spec_AddAttack.l0 k a b 0 n l) (fun k => by simp only [spec_AddAttack.j0]; rfl) ?_
        refine spec_walk n l hl hg ⟨a, b⟩ hx (added l ⟨a, b⟩) 0 (Nat.zero_le _) (fun k => ?_)
        rw [List.drop_zero, Nat.zero_add, spec_tail n l hl ⟨a, b⟩ _ (pos_le _ _)]
        unfold added
        by_cases c : pos ⟨a, b⟩ l < l.length ∧ l.getD (pos ⟨a, b⟩ l) z65 = ⟨a, b⟩
        · rw [if_pos c, if_pos c, spec_added l _ c]
        · rw [if_neg c, if_neg c]
  · have hf : good n l = false := by simpa using hg
    rw [hf]
    simp only [Bool.false_eq_true, if_false, false_and]
    exact Ev.step (f := fun _ => some (0, [], false)) (fun k => by simp only [spec_AddAttack.j0]; rfl) (Ev.now _)
/-! the program's -/
theorem has_loop (l : List IA) (hl : l.length ≤ 1048576) (x : IA) : ∀ i, i ≤ l.length → ∃ r : Int, Ev (fun k => impl_Attack_78.l0 k l (l.length : Int) (i : Int) x.f0 x.f1) r ∧ (decide (r ≥ 0) = true ↔ ∃ j, i ≤ j ∧ j < l.length ∧ l.getD j z65 = x) := by
  refine down l.length ?_ (fun i hi ih => ?_)
  · refine ⟨-1, Ev.step (f := fun _ => some (-1)) (fun k => by simp only [impl_Attack_78.l0]; rw [if_neg (by omega)]) (Ev.now _), ?_⟩
    constructor
    · intro h; simp at h
    · rintro ⟨j, h1, h2, _⟩; omega
  · by_cases c : l.getD i z65 = x
    · refine ⟨(i : Int), Ev.step (f := fun _ => some (i : Int)) (fun k => ?_) (Ev.now _), ?_⟩
      · simp only [impl_Attack_78.l0]
        rw [if_pos (by omega), if_pos (by omega), if_pos (by omega), rdA, c, if_pos (by simp)]
      · exact ⟨fun _ => ⟨i, Nat.le_refl _, hi, c⟩, fun _ => by simp⟩
    · obtain ⟨r, hr, hj⟩ := ih
      refine ⟨r, Ev.step (fun k => ?_) hr, ?_⟩
      · simp only [impl_Attack_78.l0]
        rw [if_pos (by omega), if_pos (by omega), if_pos (by omega), rdA, if_neg, w64s (by omega)]
        intro h
        simp only [Bool.and_eq_true, beq_iff_eq] at h
        exact c (IA_ext h.1.symm h.2.symm)
      · rw [hj]
        constructor
        · rintro ⟨j, h1, h2, h3⟩; exact ⟨j, by omega, h2, h3⟩
        · rintro ⟨j, h1, h2, h3⟩
          refine ⟨j, ?_, h2, h3⟩
          rcases Nat.lt_or_ge i j with h4 | h4
          · omega
          · obtain rfl : j = i := by omega
            exact absurd h3 c
theorem impl_tail (n : Int) (l : List IA) (hl : l.length ≤ 1048576) (x : IA) (i : Nat) (hi : i ≤ l.length) (k : Nat) : impl_AddAttack.j2 (k + 1) x.f0 x.f1 (i : Int) false n l x.f0 x.f1 = some (n, l.take i ++ [x] ++ l.drop i, true) := by
  simp only [impl_AddAttack.j2]
  rw [if_neg (by simp)]
  unfold impl_Attack_42.f
  rw [if_pos (by omega), if_pos (by omega), if_pos (by simp), if_pos (by omega), show (i : Int).toNat = i by omega]
  rfl
theorem impl_walk (n : Int) (l : List IA) (hl : l.length ≤ 1048576) (x : IA) (r : List IA) : ∀ i, i ≤ l.length →
    (∀ k, impl_AddAttack.j2 (k + 1) x.f0 x.f1 ((i + pos x (l.drop i) : Nat) : Int) false n l x.f0 x.f1 = some (n, r, true)) → Ev (fun k => impl_AddAttack.l0 k x.f0 x.f1 (i : Int) n l x.f0 x.f1) (n, r, true) := by
  refine down l.length ?_ (fun i hi ih => ?_)
  · intro h
    rw [List.drop_length] at h
    refine Ev.step (f := fun k => impl_AddAttack.j2 k x.f0 x.f1 (l.length : Int) false n l x.f0 x.f1) (fun k => ?_) (Ev.at1 h)
    simp only [impl_AddAttack.l0]
    rw [if_neg (by omega)]
  · intro h
    rw [pos_drop x l i hi] at h
    have hstep : ∀ k, impl_AddAttack.l0 (k + 1) x.f0 x.f1 (i : Int) n l x.f0 x.f1 = impl_AddAttack.j2 k x.f0 x.f1 (i : Int) (lt2 (l.getD i z65) x) n l x.f0 x.f1 := fun k => by
      simp only [impl_AddAttack.l0]
      rw [if_pos (by omega), if_pos (by omega), rdA]
      generalize l.getD i z65 = y
      by_cases c0 : y.f0 < x.f0
      · rw [if_pos c0, lt2_iff.2 (.inl c0)]
      · rw [if_neg c0]
        by_cases c1 : y.f0 = x.f0
        · rw [if_pos c1]
          congr 1
          simp [lt2, c1]
        · rw [if_neg c1]
          congr 1
          simp [lt2, c0, c1]
    by_cases c : lt2 (l.getD i z65) x = true
    · rw [if_pos c] at h
      have ih' := ih (fun k => by rw [← h k, show i + (pos x (l.drop (i + 1)) + 1) = i + 1 + pos x (l.drop (i + 1)) by omega])
      refine Ev.step (f := fun k => impl_AddAttack.j2 k x.f0 x.f1 (i : Int) true n l x.f0 x.f1) (fun k => by rw [hstep, c]) (Ev.step (fun k => ?_) ih')
      rw [impl_AddAttack.j2, if_pos rfl, w64s (by omega)]
    · rw [if_neg c] at h
      exact Ev.step (f := fun k => impl_AddAttack.j2 k x.f0 x.f1 (i : Int) false n l x.f0 x.f1) (fun k => by rw [hstep, Bool.eq_false_iff.2 c]) (Ev.at1 h)
theorem implAdd_ev (n : Int) (l : List IA) (hl : l.length ≤ 1048576) (a b : Int) : Ev (fun k => impl_AddAttack.f k n l a b) (addR n l a b) := by
  unfold impl_AddAttack.f addR
  refine Ev.bind (impl_ev n l hl) ?_
  by_cases hg : good n l = true
  · rw [hg]
    have hn := good_n hg
    simp only [if_true, within_eq, Option.bind_some, w64 (x := n - 1) (by omega) (by omega), true_and]
    rw [in_split]
    cases h1 : (decide (0 ≤ a) && decide (a ≤ n - 1)) with
    | false =>
      simp only [Bool.false_eq_true, if_false, Bool.false_and]
      exact Ev.step (f := fun _ => some (0, [], false)) (fun k => by simp only [impl_AddAttack.j0]; rfl) (Ev.now _)
    | true =>
      simp only [if_true, Bool.true_and]
      cases h2 : (decide (0 ≤ b) && decide (b ≤ n - 1)) with
      | false =>
        simp only [Bool.false_eq_true, if_false, Bool.not_false]
        exact Ev.step (f := fun _ => some (0, [], false)) (fun k => by simp only [impl_AddAttack.j0]; rfl) (Ev.now _)
      | true =>
        simp only [if_true, Bool.not_true]
        obtain ⟨r, hr, hj⟩ := has_loop l hl ⟨a, b⟩ 0 (Nat.zero_le _)
        have hcl : impl_Attack_40.f l = some l := by
          unfold impl_Attack_40.f
          rw [if_pos (by omega)]
        refine Ev.step (f := fun k => (impl_Attack_41.f k l a b).bind fun t187 => (if t187 = true then (some (n, l, true)) else (impl_AddAttack.l0 k a b 0 n l a b))) (fun k => by simp only [impl_AddAttack.j0]; rw [if_neg (by simp), hcl, Option.bind_some]) ?_
        refine Ev.bind (a := decide (r ≥ 0)) ?_ ?_
        · unfold impl_Attack_41.f impl_Attack_78.f
          exact Ev.bind hr (Ev.now _)
        · unfold added
          by_cases c : decide (r ≥ 0) = true
          · rw [c]
            simp only [if_true]
            obtain ⟨j, _, h3, h4⟩ := hj.1 c
            have hp := pos_mem hg ⟨a, b⟩ j h3 h4
            rw [if_pos (by rw [hp]; exact ⟨h3, h4⟩)]
            exact Ev.now _
          · rw [Bool.eq_false_iff.2 c]
            simp only [Bool.false_eq_true, if_false]
            rw [if_neg (fun h => c (hj.2 ⟨_, Nat.zero_le _, h.1, h.2⟩))]
            refine impl_walk n l hl ⟨a, b⟩ _ 0 (Nat.zero_le _) (fun k => ?_)
            rw [List.drop_zero, Nat.zero_add]
            exact impl_tail n l hl ⟨a, b⟩ _ (pos_le _ _) k
  · have hf : good n l = false := by simpa using hg
    rw [hf]
    simp only [Bool.false_eq_true, if_false, false_and]
    exact Ev.step (f := fun _ => some (0, [], false)) (fun k => by simp only [impl_AddAttack.j0]; rfl) (Ev.now _)
theorem addR_len (n : Int) (l : List IA) (a b : Int) : (addR n l a b).2.1.length ≤ l.length + 1 := by
  unfold addR
  split
  · exact added_len l _
  · simp

/-! what a set attacks -/
def attFrom (m o : Nat) (l : List IA) : Nat := l.foldl (fun o x => if m.testBit x.f0.toNat = true then o ||| 2 ^ x.f1.toNat else o) o
def att (l : List IA) (m : Nat) : Nat := attFrom m 0 l
theorem attFrom_bit (m : Nat) (l : List IA) : ∀ (o j : Nat), (attFrom m o l).testBit j = (o.testBit j || l.any (fun x => m.testBit x.f0.toNat && decide (x.f1.toNat = j))) := by
  induction l with
  | nil => intro o j; simp [attFrom]
  | cons x l ih =>
    intro o j
    show (attFrom m (if m.testBit x.f0.toNat = true then o ||| 2 ^ x.f1.toNat else o) l).testBit j = _
    rw [ih, List.any_cons]
    cases m.testBit x.f0.toNat with
    | false => simp
    | true => rw [if_pos rfl, bit_or_pow, Bool.true_and, Bool.or_assoc]
theorem att_bit (l : List IA) (m j : Nat) : (att l m).testBit j = l.any (fun x => m.testBit x.f0.toNat && decide (x.f1.toNat = j)) := by
  rw [att, attFrom_bit, Nat.zero_testBit, Bool.false_or]
theorem att_lt {n : Int} {l : List IA} (h : good n l = true) (m : Nat) : att l m < 2 ^ 10 := lt_of_bits (fun i hi => by
  rw [att_bit, List.any_eq_true] at hi
  obtain ⟨a, ha, hd⟩ := hi
  rw [Bool.and_eq_true] at hd
  have := inR_iff.1 (good_mem h a ha)
  have := good_n h
  have := of_decide_eq_true hd.2
  omega)
theorem small_of {n : Int} {l : List IA} (h : good n l = true) {x : IA} (hx : x ∈ l) : ∃ a b : Nat, x.f0 = (a : Int) ∧ x.f1 = (b : Int) ∧ a < 10 ∧ b < 10 := by
  have := inR_iff.1 (good_mem h x hx)
  have := good_n h
  exact ⟨x.f0.toNat, x.f1.toNat, by omega, by omega, by omega, by omega⟩
theorem implAtt_loop (n : Int) (l : List IA) (hl : l.length ≤ 1048576) (hg : good n l = true) (m : Nat) (hm : m < 2 ^ 62) : ∀ i, i ≤ l.length → ∀ o : Nat, o < 2 ^ 62 → Ev (fun k => impl_attackedBy.l0 k (m : Int) (o : Int) l (l.length : Int) (i : Int)) ((attFrom m o (l.drop i) : Nat) : Int) := by
  refine down l.length ?_ (fun i hi ih => ?_)
  · intro o _
    rw [List.drop_length]
    exact Ev.step (f := fun _ => some (o : Int)) (fun k => by simp only [impl_attackedBy.l0]; rw [if_neg (by omega)]) (Ev.now _)
  · intro o ho
    rw [drop_getD l i hi z65]
    obtain ⟨a, b, h0, h1, ha, hb⟩ := small_of hg (getD_mem l i hi z65)
    have hx := rdA l i
    generalize l.getD i z65 = x at hx h0 h1 ⊢
    have e : attFrom m o (x :: l.drop (i + 1)) = attFrom m (if m.testBit a = true then o ||| 2 ^ b else o) (l.drop (i + 1)) := by
      show attFrom m (if m.testBit x.f0.toNat = true then o ||| 2 ^ x.f1.toNat else o) (l.drop (i + 1)) = _
      rw [h0, h1, Int.toNat_natCast, Int.toNat_natCast]
    rw [e]
    refine Ev.step (f := fun k => impl_attackedBy.l0 k (m : Int) ((if m.testBit a = true then o ||| 2 ^ b else o : Nat) : Int) l (l.length : Int) ((i + 1 : Nat) : Int)) (fun k => ?_) (ih _ (by split; exact or62 ho (pow62 (by omega)); exact ho))
    simp only [impl_attackedBy.l0]
    rw [if_pos (by omega), if_pos (by omega), if_pos (by omega), hx, h0, h1, if_pos (by omega), b_one hm (by omega), w64s (by omega)]
    cases m.testBit a with
    | false => rfl
    | true => rw [if_pos rfl, if_pos rfl, if_pos (by omega), b_orshl ho (by omega)]; rfl
theorem implAtt_ev (n : Int) (l : List IA) (hl : l.length ≤ 1048576) (hg : good n l = true) (m : Nat) (hm : m < 2 ^ 62) : Ev (fun k => impl_attackedBy.f k n l (m : Int)) ((att l m : Nat) : Int) := implAtt_loop n l hl hg m hm 0 (Nat.zero_le _) 0 (by decide)
theorem small62 {a : Nat} (h : a < 2 ^ 10) : a < 2 ^ 62 := Nat.lt_trans h (by decide)

/-! conflict-free sets -/
def free (l : List IA) (m : Nat) : Bool := att l m &&& m == 0
theorem beq_cast (a : Nat) : ((a : Int) == 0) = (a == 0) := by
  rw [Bool.eq_iff_iff]; simp
theorem implFree_ev (n : Int) (l : List IA) (hl : l.length ≤ 1048576) (hg : good n l = true) (m : Nat) (hm : m < 2 ^ 62) : Ev (fun k => impl_isFree.f k n l (m : Int)) (free l m) := by
  unfold impl_isFree.f
  refine Ev.bind (implAtt_ev n l hl hg m hm) ?_
  rw [b_and (small62 (att_lt hg m)) hm, beq_cast]
  exact Ev.now _

/-! what a set defends -/
def defFrom (h o : Nat) (l : List IA) : Nat := l.foldl (fun o x => if h.testBit x.f0.toNat = false then less o (2 ^ x.f1.toNat) else o) o
def dfn (n : Int) (l : List IA) (m : Nat) : Nat := defFrom (att l m) (2 ^ n.toNat - 1) l
theorem defFrom_bit (h : Nat) (l : List IA) : ∀ (o j : Nat), (defFrom h o l).testBit j = (o.testBit j && l.all (fun x => h.testBit x.f0.toNat || !decide (x.f1.toNat = j))) := by
  induction l with
  | nil => intro o j; simp [defFrom]
  | cons x l ih =>
    intro o j
    show (defFrom h (if h.testBit x.f0.toNat = false then less o (2 ^ x.f1.toNat) else o) l).testBit j = _
    rw [ih, List.all_cons]
    cases h.testBit x.f0.toNat with
    | true => simp
    | false => rw [if_pos rfl, bit_less_pow, Bool.false_or, Bool.and_assoc]
theorem dfn_bit (n : Int) (l : List IA) (m j : Nat) : (dfn n l m).testBit j = (decide (j < n.toNat) && l.all (fun x => (att l m).testBit x.f0.toNat || !decide (x.f1.toNat = j))) := by
  rw [dfn, defFrom_bit, Nat.testBit_two_pow_sub_one]
theorem dfn_lt {n : Int} {l : List IA} (hg : good n l = true) (m : Nat) : dfn n l m < 2 ^ 10 := lt_of_bits (fun i hi => by
  rw [dfn_bit, Bool.and_eq_true, decide_eq_true_eq] at hi
  have := good_n hg
  omega)
def atkFrom (a : Nat) (o : Nat) (l : List IA) : Nat := l.foldl (fun o x => if x.f1.toNat = a then o ||| 2 ^ x.f0.toNat else o) o
def atk (l : List IA) (a : Nat) : Nat := atkFrom a 0 l
theorem atkFrom_bit (a : Nat) (l : List IA) : ∀ (o j : Nat), (atkFrom a o l).testBit j = (o.testBit j || l.any (fun x => decide (x.f1.toNat = a) && decide (x.f0.toNat = j))) := by
  induction l with
  | nil => intro o j; simp [atkFrom]
  | cons x l ih =>
    intro o j
    show (atkFrom a (if x.f1.toNat = a then o ||| 2 ^ x.f0.toNat else o) l).testBit j = _
    rw [ih, List.any_cons]
    by_cases h : x.f1.toNat = a
    · rw [if_pos h, bit_or_pow, decide_eq_true h, Bool.true_and, Bool.or_assoc]
    · rw [if_neg h, decide_eq_false h, Bool.false_and, Bool.false_or]
theorem atk_bit (l : List IA) (a j : Nat) : (atk l a).testBit j = l.any (fun x => decide (x.f1.toNat = a) && decide (x.f0.toNat = j)) := by
  rw [atk, atkFrom_bit, Nat.zero_testBit, Bool.false_or]
theorem atk_lt {n : Int} {l : List IA} (hg : good n l = true) (a : Nat) : atk l a < 2 ^ 10 := lt_of_bits (fun i hi => by
  rw [atk_bit, List.any_eq_true] at hi
  obtain ⟨x, hx, hd⟩ := hi
  rw [Bool.and_eq_true] at hd
  obtain ⟨p, q, h0, h1, hp, hq⟩ := small_of hg hx
  have := of_decide_eq_true hd.2
  omega)
theorem implAtk_loop (n : Int) (l : List IA) (hl : l.length ≤ 1048576) (hg : good n l = true) (a : Nat) : ∀ i, i ≤ l.length → ∀ o : Nat, o < 2 ^ 62 → Ev (fun k => impl_attackersOf.l0 k (a : Int) (o : Int) l (l.length : Int) (i : Int)) ((atkFrom a o (l.drop i) : Nat) : Int) := by
  refine down l.length ?_ (fun i hi ih => ?_)
  · intro o _
    rw [List.drop_length]
    exact Ev.step (f := fun _ => some (o : Int)) (fun k => by simp only [impl_attackersOf.l0]; rw [if_neg (by omega)]) (Ev.now _)
  · intro o ho
    rw [drop_getD l i hi z65]
    obtain ⟨p, q, h0, h1, hp, hq⟩ := small_of hg (getD_mem l i hi z65)
    have hx := rdA l i
    generalize l.getD i z65 = x at hx h0 h1 ⊢
    have e : atkFrom a o (x :: l.drop (i + 1)) = atkFrom a (if q = a then o ||| 2 ^ p else o) (l.drop (i + 1)) := by
      show atkFrom a (if x.f1.toNat = a then o ||| 2 ^ x.f0.toNat else o) (l.drop (i + 1)) = _
      rw [h0, h1, Int.toNat_natCast, Int.toNat_natCast]
    rw [e]
    refine Ev.step (f := fun k => impl_attackersOf.l0 k (a : Int) ((if q = a then o ||| 2 ^ p else o : Nat) : Int) l (l.length : Int) ((i + 1 : Nat) : Int)) (fun k => ?_) (ih _ (by split; exact or62 ho (pow62 (by omega)); exact ho))
    simp only [impl_attackersOf.l0]
    rw [if_pos (by omega), if_pos (by omega), if_pos (by omega), hx, h0, h1, w64s (by omega)]
    by_cases hqa : q = a
    · rw [if_pos (by omega), if_pos (by omega), b_orshl ho (by omega), if_pos hqa]
    · rw [if_neg (by omega), if_neg hqa]
theorem implAtk_ev (n : Int) (l : List IA) (hl : l.length ≤ 1048576) (hg : good n l = true) (a : Nat) : Ev (fun k => impl_attackersOf.f k n l (a : Int)) ((atk l a : Nat) : Int) := implAtk_loop n l hl hg a 0 (Nat.zero_le _) 0 (by decide)
/-- What defendedBy has behind the arguments 0, .., i - 1. -/
def dfi (l : List IA) (h : Nat) : Nat → Nat
  | 0 => 0
  | i + 1 => if less (atk l i) h = 0 then dfi l h i ||| 2 ^ i else dfi l h i
theorem dfi_bit (l : List IA) (h : Nat) : ∀ (i j : Nat), (dfi l h i).testBit j = (decide (j < i) && (less (atk l j) h == 0)) := by
  intro i
  induction i with
  | zero => intro j; simp [dfi]
  | succ i ih =>
    intro j
    rw [dfi]
    by_cases c : less (atk l i) h = 0
    · rw [if_pos c, bit_or_pow, ih]
      by_cases hj : i = j
      · subst hj; simp [c]
      · have : decide (j < i + 1) = decide (j < i) := by rw [decide_eq_decide]; omega
        simp [hj, this]
    · rw [if_neg c, ih]
      by_cases hj : i = j
      · subst hj; simp [c]
      · have : decide (j < i + 1) = decide (j < i) := by rw [decide_eq_decide]; omega
        rw [this]
theorem dfi_lt (l : List IA) (h : Nat) (i : Nat) : dfi l h i < 2 ^ i := lt_of_bits (fun j hj => by
  rw [dfi_bit, Bool.and_eq_true, decide_eq_true_eq] at hj
  exact hj.1)
theorem implDef_loop (n : Nat) (l : List IA) (hl : l.length ≤ 1048576) (hg : good (n : Int) l = true) (h : Nat) (hh : h < 2 ^ 62) : ∀ i, i ≤ n → Ev (fun k => impl_defendedBy.l0 k ((dfi l h i : Nat) : Int) (h : Int) (n : Int) (i : Int) (n : Int) l) ((dfi l h n : Nat) : Int) := by
  have hn := good_n hg
  refine down n ?_ (fun i hi ih => ?_)
  · exact Ev.step (f := fun _ => some ((dfi l h n : Nat) : Int)) (fun k => by simp only [impl_defendedBy.l0]; rw [if_neg (by omega)]) (Ev.now _)
  · have ho : dfi l h i < 2 ^ 62 := Nat.lt_trans (dfi_lt l h i) (pow62 (by omega))
    refine Ev.step (f := fun k => (impl_attackersOf.f k (n : Int) l (i : Int)).bind fun t => if (Go.bits .andNot .i64 t (h : Int)) = 0 then (if 0 ≤ (i : Int) then (impl_defendedBy.l0 k (Go.bits .or .i64 ((dfi l h i : Nat) : Int) (shl .i64 1 (i : Int))) (h : Int) (n : Int) (wrap64 ((i : Int) + 1)) (n : Int) l) else none) else impl_defendedBy.l0 k ((dfi l h i : Nat) : Int) (h : Int) (n : Int) (wrap64 ((i : Int) + 1)) (n : Int) l) (fun k => ?_) ?_
    · simp only [impl_defendedBy.l0]
      rw [if_pos (by omega)]
    · refine Ev.bind (implAtk_ev _ l hl hg i) ?_
      rw [b_less (small62 (atk_lt hg i)) hh, w64s (by omega), b_orshl ho (by omega)]
      simp only [if_pos (show (0 : Int) ≤ (i : Int) by omega)]
      rw [dfi] at ih
      by_cases c : less (atk l i) h = 0
      · rw [if_pos c] at ih
        simp only [if_pos (show ((less (atk l i) h : Nat) : Int) = 0 by omega)]
        exact ih
      · rw [if_neg c] at ih
        simp only [if_neg (show ¬ ((less (atk l i) h : Nat) : Int) = 0 by omega)]
        exact ih
theorem dfi_dfn (n : Nat) (l : List IA) (m : Nat) : dfi l (att l m) n = dfn (n : Int) l m := by
  refine Nat.eq_of_testBit_eq (fun j => ?_)
  rw [dfi_bit, dfn_bit, Int.toNat_natCast]
  congr 1
  rw [Bool.eq_iff_iff, beq_iff_eq, eq_zero_bits, List.all_eq_true]
  constructor
  · intro h x hx
    have := h x.f0.toNat
    rw [less_bit, Bool.and_eq_false_iff, atk_bit] at this
    rcases this with h1 | h1
    · rw [List.any_eq_false] at h1
      have := h1 x hx
      simp only [decide_true, Bool.and_true] at this
      rw [Bool.or_eq_true]
      right
      simpa using this
    · rw [Bool.or_eq_true]
      left
      simpa using h1
  · intro h i
    rw [less_bit]
    cases hb : (atk l j).testBit i with
    | false => rfl
    | true =>
      rw [atk_bit, List.any_eq_true] at hb
      obtain ⟨x, hx, hd⟩ := hb
      simp only [Bool.and_eq_true, decide_eq_true_eq] at hd
      have := h x hx
      rw [hd.1, hd.2] at this
      simpa using this
theorem implDef_ev (n : Int) (l : List IA) (hl : l.length ≤ 1048576) (hg : good n l = true) (m : Nat) (hm : m < 2 ^ 62) : Ev (fun k => impl_defendedBy.f k n l (m : Int)) ((dfn n l m : Nat) : Int) := by
  unfold impl_defendedBy.f
  have hn := good_n hg
  obtain ⟨n, rfl⟩ := Int.eq_ofNat_of_zero_le hn.1
  refine Ev.bind (implAtt_ev _ l hl hg m hm) ?_
  rw [← dfi_dfn]
  exact implDef_loop n l hl hg (att l m) (small62 (att_lt hg m)) 0 (Nat.zero_le _)

/-! admissible sets -/
def adm (n : Int) (l : List IA) (m : Nat) : Bool := free l m && (less m (dfn n l m) == 0)
theorem implAdm_ev (n : Int) (l : List IA) (hl : l.length ≤ 1048576) (hg : good n l = true) (m : Nat) (hm : m < 2 ^ 62) : Ev (fun k => impl_isAdmissible.f k n l (m : Int)) (adm n l m) := by
  unfold impl_isAdmissible.f adm
  refine Ev.bind (implFree_ev n l hl hg m hm) ?_
  cases free l m with
  | false => exact Ev.now _
  | true =>
    simp only [if_true, Bool.true_and]
    refine Ev.bind (implDef_ev n l hl hg m hm) ?_
    rw [b_less hm (small62 (dfn_lt hg m)), beq_cast]
    exact Ev.now _

/-! the list of a number's bits -/
def bl (m i : Nat) : List Int := ((List.range i).filter fun j => m.testBit j).map fun (j : Nat) => (j : Int)
theorem bl_succ (m i : Nat) : bl m (i + 1) = if m.testBit i = true then bl m i ++ [(i : Int)] else bl m i := by
  unfold bl
  rw [List.range_succ, List.filter_append, List.map_append]
  cases h : m.testBit i with
  | true => simp [h]
  | false => simp [h]
theorem bl_len (m i : Nat) : (bl m i).length ≤ i := by
  unfold bl
  rw [List.length_map]
  exact Nat.le_trans (List.length_filter_le _ _) (by simp)
theorem bl_mem {m i : Nat} {a : Int} (h : a ∈ bl m i) : ∃ j : Nat, a = (j : Int) ∧ j < i ∧ m.testBit j = true := by
  unfold bl at h
  rw [List.mem_map] at h
  obtain ⟨j, hj, rfl⟩ := h
  rw [List.mem_filter, List.mem_range] at hj
  exact ⟨j, rfl, hj.1, hj.2⟩
theorem bl_in {m i j : Nat} (h : j < i) (hb : m.testBit j = true) : (j : Int) ∈ bl m i := by
  unfold bl
  rw [List.mem_map]
  exact ⟨j, by rw [List.mem_filter, List.mem_range]; exact ⟨h, hb⟩, rfl⟩
theorem bl_end {m i : Nat} (h : m < 2 ^ i) : ∀ d, bl m (i + d) = bl m i := by
  intro d
  induction d with
  | zero => rfl
  | succ d ih =>
    rw [← Nat.add_assoc, bl_succ, Nat.testBit_lt_two_pow (Nat.lt_of_lt_of_le h (Nat.pow_le_pow_right (by decide) (by omega))), if_neg (by simp), ih]
theorem implBits_loop (m : Nat) (hm : m < 2 ^ 10) : ∀ i, i ≤ 10 → Ev (fun k => impl_bitsOf.l0 k (m : Int) (bl m i) (i : Int)) (bl m 10) := by
  refine down 10 ?_ (fun i hi ih => ?_)
  · refine Ev.step (f := fun _ => some (bl m 10)) (fun k => ?_) (Ev.now _)
    simp only [impl_bitsOf.l0]
    have : ¬ shr .i64 (m : Int) ((10 : Nat) : Int) > 0 := by rw [b_shr_pos (by decide)]; omega
    rw [if_pos (by omega), if_neg this]
  · by_cases c : 2 ^ i ≤ m
    · refine Ev.step (fun k => ?_) ih
      simp only [impl_bitsOf.l0]
      rw [if_pos (by omega), if_pos ((b_shr_pos (by omega)).2 c), b_one (small62 hm) (by omega), w64s (by omega), bl_succ]
      have := bl_len m i
      simp only [if_pos (show (bl m i).length < 17592186044416 by omega)]
      cases m.testBit i <;> rfl
    · have e : bl m 10 = bl m i := by
        have := bl_end (m := m) (i := i) (by omega) (10 - i)
        rwa [show i + (10 - i) = 10 by omega] at this
      rw [e]
      refine Ev.step (f := fun _ => some (bl m i)) (fun k => ?_) (Ev.now _)
      simp only [impl_bitsOf.l0]
      rw [if_pos (by omega), if_neg (fun h => c ((b_shr_pos (by omega)).1 h))]
theorem implBits_ev (m : Nat) (hm : m < 2 ^ 10) : Ev (fun k => impl_bitsOf.f k (m : Int)) (bl m 10) := implBits_loop m hm 0 (Nat.zero_le _)

/-! the grounded set -/
def sub (a b : Nat) : Prop := ∀ i, a.testBit i = true → b.testBit i = true
theorem att_mono (l : List IA) {a b : Nat} (h : sub a b) : sub (att l a) (att l b) := by
  intro i hi
  rw [att_bit, List.any_eq_true] at hi ⊢
  obtain ⟨x, hx, hd⟩ := hi
  rw [Bool.and_eq_true] at hd
  exact ⟨x, hx, by rw [Bool.and_eq_true]; exact ⟨h _ hd.1, hd.2⟩⟩
theorem dfn_mono (n : Int) (l : List IA) {a b : Nat} (h : sub a b) : sub (dfn n l a) (dfn n l b) := by
  intro i hi
  rw [dfn_bit, Bool.and_eq_true, List.all_eq_true] at hi ⊢
  refine ⟨hi.1, fun x hx => ?_⟩
  have := hi.2 x hx
  rw [Bool.or_eq_true] at this ⊢
  rcases this with h1 | h1
  · exact .inl (att_mono l h _ h1)
  · exact .inr h1
theorem or_sub {a b : Nat} (h : sub a b) : a ||| b = b := by
  refine Nat.eq_of_testBit_eq (fun i => ?_)
  rw [Nat.testBit_or]
  cases ha : a.testBit i with
  | false => rfl
  | true => rw [h i ha]; rfl
/-- The rounds behind the places below i. -/
def upd (r : List Int) (S T : Nat) (t : Int) (i : Nat) : List Int := (List.range r.length).map fun j => if (decide (j < i) && (T.testBit j && !S.testBit j)) = true then t else r.getD j 0
theorem upd_length (r : List Int) (S T : Nat) (t : Int) (i : Nat) : (upd r S T t i).length = r.length := by simp [upd]
theorem upd_getD (r : List Int) (S T : Nat) (t : Int) (i j : Nat) (hj : j < r.length) : (upd r S T t i).getD j 0 = if (decide (j < i) && (T.testBit j && !S.testBit j)) = true then t else r.getD j 0 := by
  unfold upd
  rw [List.getD_eq_getElem?_getD, List.getElem?_map, List.getElem?_range hj]
  rfl
theorem ext_getD {a b : List Int} (hl : a.length = b.length) (h : ∀ j, j < a.length → a.getD j 0 = b.getD j 0) : a = b := by
  refine List.ext_getElem hl (fun j h1 h2 => ?_)
  have := h j h1
  rw [List.getD_eq_getElem?_getD, List.getD_eq_getElem?_getD, List.getElem?_eq_getElem h1, List.getElem?_eq_getElem h2] at this
  exact this
theorem upd_zero (r : List Int) (S T : Nat) (t : Int) : upd r S T t 0 = r := ext_getD (upd_length _ _ _ _ _) (fun j hj => by rw [upd_getD _ _ _ _ _ _ (by rwa [upd_length] at hj)]; simp)
theorem getD_set (a : List Int) (i j : Nat) (t : Int) (hi : i < a.length) : (a.set i t).getD j 0 = if i = j then t else a.getD j 0 := by
  rw [List.getD_eq_getElem?_getD, List.getD_eq_getElem?_getD, List.getElem?_set]
  by_cases h : i = j
  · rw [if_pos h, if_pos h, if_pos hi]; rfl
  · rw [if_neg h, if_neg h]
theorem upd_succ (r : List Int) (S T : Nat) (t : Int) (i : Nat) (hi : i < r.length) : upd r S T t (i + 1) = if (T.testBit i && !S.testBit i) = true then (upd r S T t i).set i t else upd r S T t i := by
  by_cases c : (T.testBit i && !S.testBit i) = true
  · rw [if_pos c]
    refine ext_getD (by rw [List.length_set, upd_length, upd_length]) (fun j hj => ?_)
    rw [upd_length] at hj
    rw [getD_set _ _ _ _ (by rw [upd_length]; exact hi), upd_getD _ _ _ _ _ _ hj, upd_getD _ _ _ _ _ _ hj]
    by_cases e : i = j
    · subst e; rw [if_pos rfl, if_pos (by simp at c ⊢; exact c)]
    · rw [if_neg e, show decide (j < i + 1) = decide (j < i) by rw [decide_eq_decide]; omega]
  · rw [if_neg c]
    refine ext_getD (by rw [upd_length, upd_length]) (fun j hj => ?_)
    rw [upd_length] at hj
    rw [upd_getD _ _ _ _ _ _ hj, upd_getD _ _ _ _ _ _ hj]
    by_cases e : i = j
    · subst e
      have c' : (T.testBit i && !S.testBit i) = false := by simpa using c
      rw [c', Bool.and_false, Bool.and_false]
    · rw [show decide (j < i + 1) = decide (j < i) by rw [decide_eq_decide]; omega]
/-- What is known of the rounds: they are told of the set's arguments, and of no others. -/
def told (r : List Int) (S n : Nat) : Prop := r.length = n ∧ ∀ i, i < n → (r.getD i 0 = 0 ↔ S.testBit i = false)
theorem told_upd {r : List Int} {S T n : Nat} {t : Int} (ht : 1 ≤ t) (h : told r S n) (hs : sub S T) : told (upd r S T t n) T n := by
  refine ⟨by rw [upd_length, h.1], fun i hi => ?_⟩
  rw [upd_getD _ _ _ _ _ _ (by rw [h.1]; exact hi), decide_eq_true hi, Bool.true_and]
  cases hT : T.testBit i with
  | false =>
    have : S.testBit i = false := by
      cases hS : S.testBit i with
      | false => rfl
      | true => rw [hs i hS] at hT; cases hT
    simp only [Bool.false_and, Bool.false_eq_true, if_false, iff_true]
    exact (h.2 i hi).2 this
  | true =>
    cases hS : S.testBit i with
    | false => simp; omega
    | true =>
      have := (h.2 i hi).1
      rw [hS] at this
      simp only [Bool.not_true, Bool.and_false, Bool.false_eq_true, if_false, Bool.true_eq_false, iff_false]
      exact fun h0 => by cases this h0
/-- The rounds of a list of arguments, told. -/
def setAll (r : List Int) (b : List Int) (t : Int) : List Int := b.foldl (fun r a => r.set a.toNat t) r
theorem setAll_getD (t : Int) : ∀ (b : List Int) (r : List Int) (j : Nat), (∀ a ∈ b, 0 ≤ a ∧ a < (r.length : Int)) → (setAll r b t).getD j 0 = if (b.any fun a => decide (a.toNat = j)) = true then t else r.getD j 0
  | [], r, j, _ => by simp [setAll]
  | a :: b, r, j, h => by
    show (setAll (r.set a.toNat t) b t).getD j 0 = _
    have ha := h a (List.mem_cons_self)
    rw [setAll_getD t b _ j (fun x hx => by rw [List.length_set]; exact h x (List.mem_cons_of_mem _ hx)), getD_set _ _ _ _ (by omega), List.any_cons]
    by_cases c : a.toNat = j
    · rw [if_pos c, decide_eq_true c, Bool.true_or, if_pos rfl, ite_self]
    · rw [if_neg c, decide_eq_false c, Bool.false_or]
theorem setAll_length (t : Int) : ∀ (b : List Int) (r : List Int), (setAll r b t).length = r.length
  | [], r => rfl
  | a :: b, r => by
    show (setAll (r.set a.toNat t) b t).length = _
    rw [setAll_length t b, List.length_set]
theorem setAll_upd (r : List Int) (S T n : Nat) (t : Int) (hr : r.length = n) (hn : n ≤ 10) (hT : ∀ i, T.testBit i = true → i < n) : setAll r (bl (less T S) 10) t = upd r S T t n := by
  have hb : ∀ a ∈ bl (less T S) 10, 0 ≤ a ∧ a < (r.length : Int) := by
    intro a ha
    obtain ⟨j, rfl, hj, hbit⟩ := bl_mem ha
    rw [less_bit, Bool.and_eq_true] at hbit
    have := hT j hbit.1
    omega
  refine ext_getD (by rw [setAll_length, upd_length]) (fun j hj => ?_)
  rw [setAll_length] at hj
  rw [setAll_getD t _ r j hb, upd_getD _ _ _ _ _ _ hj, decide_eq_true (show j < n by omega), Bool.true_and]
  congr 1
  rw [eq_iff_iff, List.any_eq_true, ← less_bit]
  constructor
  · rintro ⟨a, ha, hd⟩
    obtain ⟨i, rfl, _, hbit⟩ := bl_mem ha
    have := of_decide_eq_true hd
    rw [Int.toNat_natCast] at this
    rwa [← this]
  · intro hbit
    exact ⟨_, bl_in (by omega) hbit, by simp⟩
theorem implG_l1 (n : Nat) (l : List IA) (T : Nat) (t : Int) (h0 : 1 ≤ t) (h1 : t ≤ 100) (b : List Int) (hbl : b.length ≤ 10) (r0 : List Int) (hb : ∀ a ∈ b, 0 ≤ a ∧ a < (n : Int)) (R : List Int × List Int × Bool)
    (hR : Ev (fun k => impl_GroundedSet.l0 k (setAll r0 b t) (T : Int) (t + 1) (n : Int) l) R) : ∀ i, i ≤ b.length → ∀ r : List Int, r.length = n → setAll r (b.drop i) t = setAll r0 b t → Ev (fun k => impl_GroundedSet.l1 k r t (T : Int) b (b.length : Int) (i : Int) (n : Int) l) R := by
  refine down b.length ?_ (fun i hi ih => ?_)
  · intro r _ he
    rw [List.drop_length] at he
    have : r = setAll r0 b t := he
    subst this
    refine Ev.step (fun k => ?_) hR
    simp only [impl_GroundedSet.l1]
    rw [if_neg (by omega), w64 (by omega) (by omega)]
  · intro r hr' he
    rw [drop_getD b i hi 0] at he
    have hx : rd b (i : Int) = b.getD i 0 := rfl
    have ha := hb _ (getD_mem b i hi 0)
    generalize b.getD i 0 = x at hx ha he
    refine Ev.step (fun k => ?_) (ih (r.set x.toNat t) (by rw [List.length_set, hr']) he)
    simp only [impl_GroundedSet.l1]
    rw [if_pos (by omega), if_pos (by omega), if_pos (by omega), hx, if_pos (by omega), if_pos (by omega), w64s (by omega)]
theorem implG_l2 (r b : List Int) (hbl : b.length ≤ 10) (hb : ∀ a ∈ b, 0 ≤ a ∧ a < (r.length : Int)) : ∀ i, i ≤ b.length → Ev (fun k => impl_GroundedSet.l2 k r b ((b.take i).map (rd r)) (b.length : Int) (i : Int)) (b, b.map (rd r), true) := by
  refine down b.length ?_ (fun i hi ih => ?_)
  · rw [List.take_length]
    refine Ev.step (f := fun _ => some (b, b.map (rd r), true)) (fun k => ?_) (Ev.now _)
    simp only [impl_GroundedSet.l2]
    rw [if_neg (by omega)]
  · rw [take_getD b i hi 0, List.map_append] at ih
    have hx : rd b (i : Int) = b.getD i 0 := rfl
    have ha := hb _ (getD_mem b i hi 0)
    generalize b.getD i 0 = x at hx ha ih
    refine Ev.step (fun k => ?_) ih
    simp only [impl_GroundedSet.l2]
    rw [if_pos (by omega), if_pos (by omega), if_pos (by omega), hx, if_pos (by omega), if_pos (by omega), if_pos (by rw [List.length_map, List.length_take]; omega), w64s (by omega)]
    rfl
def cnt (S n : Nat) : Nat := ((List.range n).filter fun i => !S.testBit i).length
theorem filter_le_of_imp {α : Type} (p q : α → Bool) (h : ∀ x, q x = true → p x = true) (l : List α) : (l.filter q).length ≤ (l.filter p).length := by
  rw [← List.countP_eq_length_filter, ← List.countP_eq_length_filter]
  exact List.countP_mono_left (fun x _ hx => h x hx)
theorem filter_lt_of {α : Type} (p q : α → Bool) (h : ∀ x, q x = true → p x = true) : ∀ (l : List α) (x : α), x ∈ l → p x = true → q x = false → (l.filter q).length < (l.filter p).length
  | [], x, hx, _, _ => by simp at hx
  | a :: l, x, hx, hp, hq => by
    have hle := filter_le_of_imp p q h l
    rcases List.mem_cons.1 hx with rfl | hx
    · rw [List.filter_cons_of_neg (by rw [hq]; simp), List.filter_cons_of_pos hp, List.length_cons]
      omega
    · have ih := filter_lt_of p q h l x hx hp hq
      by_cases ha : q a = true
      · rw [List.filter_cons_of_pos ha, List.filter_cons_of_pos (h a ha), List.length_cons, List.length_cons]
        omega
      · rw [List.filter_cons_of_neg ha]
        by_cases hpa : p a = true
        · rw [List.filter_cons_of_pos hpa, List.length_cons]; omega
        · rw [List.filter_cons_of_neg hpa]; exact ih
theorem cnt_lt {S T n : Nat} (h : sub S T) (hne : T ≠ S) (hT : ∀ i, T.testBit i = true → i < n) : cnt T n < cnt S n := by
  have : ∃ i, T.testBit i = true ∧ S.testBit i = false := by
    refine Classical.byContradiction (fun hc => hne (Nat.eq_of_testBit_eq (fun i => ?_)))
    cases hS : S.testBit i with
    | true => exact h i hS
    | false =>
      cases hTi : T.testBit i with
      | false => rfl
      | true => exact absurd ⟨i, hTi, hS⟩ hc
  obtain ⟨i, hi, hs⟩ := this
  refine filter_lt_of _ _ (fun x hx => ?_) (List.range n) i (List.mem_range.2 (hT i hi)) (by rw [hs]; rfl) (by rw [hi]; rfl)
  cases hS : S.testBit x with
  | false => rfl
  | true => rw [h x hS] at hx; cases hx
theorem bitsIn {S n : Nat} {r : List Int} (hr : r.length = n) (hS : ∀ i, S.testBit i = true → i < n) : ∀ a ∈ bl S 10, 0 ≤ a ∧ a < (r.length : Int) := by
  intro a ha
  obtain ⟨j, rfl, hj, hbit⟩ := bl_mem ha
  have := hS j hbit
  omega
theorem both_l0 (n : Nat) (l : List IA) (hl : l.length ≤ 1048576) (hg : good (n : Int) l = true) (Q : Nat → Prop) (hQ : ∀ S, Q S → sub S (dfn (n : Int) l S) → Q (dfn (n : Int) l S)) : ∀ (d S : Nat) (r : List Int) (t : Int), cnt S n ≤ d → sub S (dfn (n : Int) l S) → told r S n → 1 ≤ t → t + (d : Int) ≤ 50 → (∀ i, S.testBit i = true → i < n) → Q S →
    ∃ R : List Int × List Int × Bool, Ev (fun k => impl_GroundedSet.l0 k r (S : Int) t (n : Int) l) R ∧ ∃ G, R.1 = bl G 10 ∧ R.2.1.length = R.1.length ∧ R.2.2 = true ∧ dfn (n : Int) l G = G ∧ Q G := by
  have hn := good_n hg
  intro d
  induction d with
  | zero =>
    intro S r t hd hsub htold ht1 ht2 hS hq
    have hS10 : S < 2 ^ 10 := lt_of_bits (fun i hi => by have := hS i hi; omega)
    have hS62 := small62 hS10
    have hDn : ∀ i, (dfn (n : Int) l S).testBit i = true → i < n := fun i hi => by
      rw [dfn_bit, Bool.and_eq_true, decide_eq_true_eq] at hi
      omega
    by_cases e : dfn (n : Int) l S = S
    · refine ⟨(bl S 10, (bl S 10).map (rd r), true), ?_, S, rfl, by simp, rfl, e, hq⟩
      · refine Ev.step (fun k => by simp only [impl_GroundedSet.l0]; rfl) ?_
        refine Ev.bind (implDef_ev _ l hl hg S hS62) ?_
        rw [b_or hS62 (small62 (dfn_lt hg S)), e, Nat.or_self]
        simp only [if_true]
        exact Ev.bind (implBits_ev S hS10) (implG_l2 r (bl S 10) (bl_len S 10) (bitsIn htold.1 hS) 0 (Nat.zero_le _))
    · exact absurd (cnt_lt hsub e hDn) (by omega)
  | succ d ih =>
    intro S r t hd hsub htold ht1 ht2 hS hq
    have hS10 : S < 2 ^ 10 := lt_of_bits (fun i hi => by have := hS i hi; omega)
    have hS62 := small62 hS10
    have hDn : ∀ i, (dfn (n : Int) l S).testBit i = true → i < n := fun i hi => by
      rw [dfn_bit, Bool.and_eq_true, decide_eq_true_eq] at hi
      omega
    by_cases e : dfn (n : Int) l S = S
    · refine ⟨(bl S 10, (bl S 10).map (rd r), true), ?_, S, rfl, by simp, rfl, e, hq⟩
      · refine Ev.step (fun k => by simp only [impl_GroundedSet.l0]; rfl) ?_
        refine Ev.bind (implDef_ev _ l hl hg S hS62) ?_
        rw [b_or hS62 (small62 (dfn_lt hg S)), e, Nat.or_self]
        simp only [if_true]
        exact Ev.bind (implBits_ev S hS10) (implG_l2 r (bl S 10) (bl_len S 10) (bitsIn htold.1 hS) 0 (Nat.zero_le _))
    · have hlt := cnt_lt hsub e hDn
      have hD62 := small62 (dfn_lt hg S)
      obtain ⟨R, hR2, hR3⟩ := ih (dfn (n : Int) l S) (upd r S (dfn (n : Int) l S) t n) (t + 1) (by omega) (dfn_mono _ l hsub) (told_upd ht1 htold hsub) (by omega) (by omega) hDn (hQ S hq hsub)
      refine ⟨R, ?_, hR3⟩
      · refine Ev.step (fun k => by simp only [impl_GroundedSet.l0]; rfl) ?_
        refine Ev.bind (implDef_ev _ l hl hg S hS62) ?_
        rw [b_or hS62 hD62, or_sub hsub, b_less hD62 hS62]
        simp only [if_neg (show ¬ ((dfn (n : Int) l S : Nat) : Int) = (S : Int) by omega)]
        refine Ev.bind (implBits_ev _ (less_lt (dfn_lt hg S))) ?_
        refine implG_l1 n l _ t ht1 (by omega) (bl (less (dfn (n : Int) l S) S) 10) (bl_len _ _) r (fun a ha => ?_) R ?_ 0 (Nat.zero_le _) r htold.1 rfl
        · obtain ⟨j, rfl, hj, hbit⟩ := bl_mem ha
          rw [less_bit, Bool.and_eq_true] at hbit
          have := hDn j hbit.1
          omega
        · rw [setAll_upd r S _ n t htold.1 (by omega) hDn]
          exact hR2
theorem ground_ev (n : Int) (l : List IA) (hl : l.length ≤ 1048576) (hg : good n l = true) (Q : Nat → Prop) (hQ : ∀ S, Q S → sub S (dfn n l S) → Q (dfn n l S)) (h0 : Q 0) : ∃ (G : Nat) (r : List Int), Ev (fun k => impl_GroundedSet.f k n l) (bl G 10, r, true) ∧ r.length = (bl G 10).length ∧ dfn n l G = G ∧ Q G := by
  have hn := good_n hg
  have h2 := impl_ev n l hl
  rw [hg] at h2
  obtain ⟨n, rfl⟩ := Int.eq_ofNat_of_zero_le hn.1
  obtain ⟨⟨a, r, b⟩, hR2, G, e1, e2, e3, hG, hq⟩ := both_l0 n l hl hg Q hQ 10 0 (List.replicate n 0) 1 (Nat.le_trans (List.length_filter_le _ _) (by simp; omega)) (fun i hi => by rw [Nat.zero_testBit] at hi; cases hi)
    ⟨by simp, fun i hi => by simp [List.getD_eq_getElem?_getD, hi]⟩ (by omega) (by omega) (fun i hi => by rw [Nat.zero_testBit] at hi; cases hi) h0
  dsimp only at e1 e2 e3
  subst e1 e3
  refine ⟨G, r, ?_, e2, hG, hq⟩
  · unfold impl_GroundedSet.f
    refine Ev.bind h2 ?_
    simp only [if_true, Int.toNat_natCast, if_pos (show (0 : Int) ≤ (n : Int) by omega), if_pos (show n ≤ 35184372088832 by omega)]
    exact hR2
/-! the sets for which a condition holds, in order -/
def top (n : Int) : Nat := 2 ^ n.toNat
theorem top_le {n : Int} {l : List IA} (hg : good n l = true) : top n ≤ 1024 := by
  have h := (good_n hg).2
  show 2 ^ n.toNat ≤ 2 ^ 10
  exact Nat.pow_le_pow_right (by decide) (by omega)
theorem shl_top {n : Int} {l : List IA} (hg : good n l = true) : shl .i64 1 n = ((top n : Nat) : Int) := by
  have h := good_n hg
  have e : n = ((n.toNat : Nat) : Int) := by omega
  have := b_shl (i := n.toNat) (by omega)
  rw [← e] at this
  exact this
theorem wrapN {n : Int} {l : List IA} (hg : good n l = true) : IntKind.u64.wrap n = n := by
  have h := good_n hg
  exact wrap_u64_small n h.1 (by omega)
def picked (p : Nat → Bool) (i : Nat) : List Nat := (List.range i).filter p
theorem picked_succ (p : Nat → Bool) (i : Nat) : picked p (i + 1) = if p i = true then picked p i ++ [i] else picked p i := by
  unfold picked
  rw [List.range_succ, List.filter_append]
  cases h : p i with
  | true => simp [h]
  | false => simp [h]
theorem picked_len (p : Nat → Bool) (i : Nat) : (picked p i).length ≤ i := Nat.le_trans (List.length_filter_le _ _) (by simp)
theorem setsWith_loop (HOLDS : Nat → Int → Option Bool) (p : Nat → Bool) (N : Nat) (hN : N ≤ 1024) (hp : ∀ i, i < N → Ev (fun k => HOLDS k (i : Int)) (p i)) : ∀ i, i ≤ N → Ev (fun k => impl_setsWith.l0 HOLDS k ((picked p i).map fun m => bl m 10) (N : Int) (i : Int)) ((picked p N).map (fun m => bl m 10), true) := by
  refine down N ?_ (fun i hi ih => ?_)
  · exact Ev.step (f := fun _ => some ((picked p N).map (fun m => bl m 10), true)) (fun k => by simp only [impl_setsWith.l0]; rw [if_neg (by omega)]) (Ev.now _)
  · have hl := picked_len p i
    refine Ev.step (f := fun k => (HOLDS k (i : Int)).bind fun t => if t = true then (impl_bitsOf.f k (i : Int)).bind fun r => impl_setsWith.l0 HOLDS k ((picked p i).map (fun m => bl m 10) ++ [r]) (N : Int) ((i + 1 : Nat) : Int) else impl_setsWith.l0 HOLDS k ((picked p i).map fun m => bl m 10) (N : Int) ((i + 1 : Nat) : Int)) (fun k => ?_) ?_
    · simp only [impl_setsWith.l0]
      rw [if_pos (by omega), w64s (by omega)]
      simp only [if_pos (show ((picked p i).map fun m => bl m 10).length < 5864062014805 by rw [List.length_map]; omega)]
    · refine Ev.bind (hp i hi) ?_
      rw [picked_succ] at ih
      cases h : p i with
      | true =>
        rw [h] at ih
        simp only [if_true, List.map_append, List.map_cons, List.map_nil] at ih ⊢
        exact Ev.bind (implBits_ev i (by omega)) ih
      | false =>
        rw [h] at ih
        simpa using ih
theorem setsWith_ev (HOLDS : Nat → Int → Option Bool) (p : Nat → Bool) (n : Int) (l : List IA) (hl : l.length ≤ 1048576) (hp : good n l = true → ∀ i, i < top n → Ev (fun k => HOLDS k (i : Int)) (p i)) : Ev (fun k => impl_setsWith.f HOLDS k n l) (if good n l = true then ((picked p (top n)).map (fun m => bl m 10), true) else ([], false)) := by
  unfold impl_setsWith.f
  refine Ev.bind (impl_ev n l hl) ?_
  cases hg : good n l with
  | false => exact Ev.now _
  | true =>
    simp only [if_true, if_pos (good_n hg).1, shl_top hg]
    exact setsWith_loop HOLDS p (top n) (top_le hg) (hp hg) 0 (Nat.zero_le _)

/-! preferred sets -/
def beats (n : Int) (l : List IA) (m o : Nat) : Bool := !(o == m) && ((o &&& m == m) && adm n l o)
def pref (n : Int) (l : List IA) (m : Nat) : Bool := adm n l m && (List.range (top n)).all fun o => !beats n l m o
theorem implPref_loop (n : Int) (l : List IA) (hl : l.length ≤ 1048576) (hg : good n l = true) (m : Nat) (hm : m < 1024) : ∀ i, i ≤ top n → Ev (fun k => impl_PreferredSets_1.l0 k (m : Int) ((top n : Nat) : Int) (i : Int) n l) ((List.range' i (top n - i)).all fun o => !beats n l m o) := by
  have hN := top_le hg
  refine down (top n) ?_ (fun i hi ih => ?_)
  · rw [Nat.sub_self]
    exact Ev.step (f := fun _ => some true) (fun k => by simp only [impl_PreferredSets_1.l0]; rw [if_neg (by omega)]) (Ev.now _)
  · rw [show top n - i = (top n - (i + 1)) + 1 by omega, List.range'_succ, List.all_cons]
    have hb : Go.bits .and .i64 (i : Int) (m : Int) = ((i &&& m : Nat) : Int) := b_and (by omega) (by omega)
    by_cases c : i = m
    · have e : beats n l m i = false := by simp [beats, c]
      rw [e, Bool.not_false, Bool.true_and]
      refine Ev.step (fun k => ?_) ih
      simp only [impl_PreferredSets_1.l0]
      rw [if_pos (by omega), if_pos (by omega), w64s (by omega)]
    · by_cases c2 : i &&& m = m
      · have e : beats n l m i = adm n l i := by simp [beats, c, c2]
        rw [e]
        refine Ev.step (f := fun k => (impl_isAdmissible.f k n l (i : Int)).bind fun t => if t = true then some false else impl_PreferredSets_1.l0 k (m : Int) ((top n : Nat) : Int) ((i + 1 : Nat) : Int) n l) (fun k => ?_) ?_
        · simp only [impl_PreferredSets_1.l0]
          rw [if_pos (by omega), if_neg (by omega), hb, if_pos (by omega), w64s (by omega)]
        · refine Ev.bind (implAdm_ev n l hl hg i (by omega)) ?_
          cases adm n l i with
          | true => exact Ev.now _
          | false =>
            simpa using ih
      · have e : beats n l m i = false := by simp [beats, c2]
        rw [e, Bool.not_false, Bool.true_and]
        refine Ev.step (fun k => ?_) ih
        simp only [impl_PreferredSets_1.l0]
        rw [if_pos (by omega), if_neg (by omega), hb, if_neg (by omega), w64s (by omega)]
theorem implPref_ev (n : Int) (l : List IA) (hl : l.length ≤ 1048576) (hg : good n l = true) (m : Nat) (hm : m < top n) : Ev (fun k => impl_PreferredSets_1.f k (m : Int) n l) (pref n l m) := by
  have hN := top_le hg
  unfold impl_PreferredSets_1.f pref
  refine Ev.bind (implAdm_ev n l hl hg m (by omega)) ?_
  cases adm n l m with
  | false => exact Ev.now _
  | true =>
    simp only [if_true, if_pos (good_n hg).1, shl_top hg, Bool.true_and]
    have := implPref_loop n l hl hg m (by omega) 0 (Nat.zero_le _)
    rw [Nat.sub_zero, ← List.range_eq_range'] at this
    exact this
theorem implPrefSets_ev (n : Int) (l : List IA) (hl : l.length ≤ 1048576) : Ev (fun k => impl_PreferredSets.f k n l) (if good n l = true then ((picked (pref n l) (top n)).map (fun m => bl m 10), true) else ([], false)) :=
  setsWith_ev _ (pref n l) n l hl (fun hg i hi => implPref_ev n l hl hg i hi)

/-! complete sets -/
def comp (n : Int) (l : List IA) (m : Nat) : Bool := free l m && (dfn n l m == m)
theorem less_self (a : Nat) : less a a = 0 := by
  refine Nat.eq_of_testBit_eq (fun i => ?_)
  rw [less_bit, Nat.zero_testBit]
  cases a.testBit i <;> rfl
theorem beq_casts (a b : Nat) : ((a : Int) == (b : Int)) = (a == b) := by
  rw [Bool.eq_iff_iff, beq_iff_eq, beq_iff_eq]
  omega

/-! conflict-free, defended, complete, preferred, stable: plain laws -/
theorem dfn_iff (n : Int) (l : List IA) (m j : Nat) : (dfn n l m).testBit j = true ↔ j < n.toNat ∧ ∀ x ∈ l, x.f1.toNat = j → (att l m).testBit x.f0.toNat = true := by
  rw [dfn_bit, Bool.and_eq_true, decide_eq_true_eq, List.all_eq_true]
  constructor
  · intro h
    refine ⟨h.1, fun x hx e => ?_⟩
    have := h.2 x hx
    rw [Bool.or_eq_true] at this
    rcases this with h1 | h1
    · exact h1
    · rw [decide_eq_true e] at h1; cases h1
  · intro h
    refine ⟨h.1, fun x hx => ?_⟩
    by_cases e : x.f1.toNat = j
    · rw [h.2 x hx e]; rfl
    · rw [decide_eq_false e]; simp
theorem att_iff (l : List IA) (m j : Nat) : (att l m).testBit j = true ↔ ∃ x ∈ l, m.testBit x.f0.toNat = true ∧ x.f1.toNat = j := by
  rw [att_bit, List.any_eq_true]
  constructor
  · rintro ⟨x, hx, h⟩
    rw [Bool.and_eq_true, decide_eq_true_eq] at h
    exact ⟨x, hx, h.1, h.2⟩
  · rintro ⟨x, hx, h1, h2⟩
    exact ⟨x, hx, by rw [Bool.and_eq_true, decide_eq_true_eq]; exact ⟨h1, h2⟩⟩
theorem free_iff (l : List IA) (m : Nat) : free l m = true ↔ ∀ x ∈ l, m.testBit x.f0.toNat = true → m.testBit x.f1.toNat = true → False := by
  unfold free
  rw [beq_iff_eq]
  constructor
  · intro h x hx h1 h2
    have h3 : (att l m).testBit x.f1.toNat = true := (att_iff l m _).2 ⟨x, hx, h1, rfl⟩
    have : (att l m &&& m).testBit x.f1.toNat = true := by rw [Nat.testBit_and, h3, h2]; rfl
    rw [h, Nat.zero_testBit] at this
    cases this
  · intro h
    refine Nat.eq_of_testBit_eq (fun j => ?_)
    rw [Nat.zero_testBit, Nat.testBit_and]
    cases ha : (att l m).testBit j with
    | false => rfl
    | true =>
      cases hm : m.testBit j with
      | false => rfl
      | true =>
        obtain ⟨x, hx, h1, h2⟩ := (att_iff l m j).1 ha
        subst h2
        exact (h x hx h1 hm).elim
theorem adm_iff (n : Int) (l : List IA) (m : Nat) : adm n l m = true ↔ free l m = true ∧ sub m (dfn n l m) := by
  unfold adm
  rw [Bool.and_eq_true, beq_iff_eq]
  refine and_congr Iff.rfl ?_
  constructor
  · intro h i hi
    have : (less m (dfn n l m)).testBit i = false := by rw [h]; exact Nat.zero_testBit i
    rw [less_bit, hi] at this
    simpa using this
  · intro h
    refine Nat.eq_of_testBit_eq (fun i => ?_)
    rw [less_bit, Nat.zero_testBit]
    cases hm : m.testBit i with
    | false => rfl
    | true => rw [h i hm]; rfl
theorem dfn_free {n : Int} {l : List IA} {m : Nat} (hf : free l m = true) (_ : sub m (dfn n l m)) : free l (dfn n l m) = true := by
  rw [free_iff] at hf ⊢
  intro x hx ha hb
  have h1 := ((dfn_iff n l m _).1 hb).2 x hx rfl
  obtain ⟨y, hy, hy0, hy1⟩ := (att_iff l m _).1 h1
  have h2 := ((dfn_iff n l m _).1 ha).2 y hy hy1
  obtain ⟨z, hz, hz0, hz1⟩ := (att_iff l m _).1 h2
  exact hf z hz hz0 (by rw [hz1]; exact hy0)
theorem sub_eq {a b : Nat} (h1 : sub a b) (h2 : sub b a) : a = b := by
  refine Nat.eq_of_testBit_eq (fun i => ?_)
  cases ha : a.testBit i with
  | true => rw [h1 i ha]
  | false =>
    cases hb : b.testBit i with
    | false => rfl
    | true => rw [h2 i hb] at ha; cases ha
theorem sub_and {a b : Nat} (h : sub a b) : b &&& a = a := by
  refine Nat.eq_of_testBit_eq (fun i => ?_)
  rw [Nat.testBit_and]
  cases ha : a.testBit i with
  | false => simp
  | true => rw [h i ha]; rfl
theorem and_sub {a b : Nat} (h : b &&& a = a) : sub a b := by
  intro i hi
  have : (b &&& a).testBit i = true := by rw [h]; exact hi
  rw [Nat.testBit_and, Bool.and_eq_true] at this
  exact this.1
theorem lt_top_of {n : Int} {m : Nat} (h : ∀ i, m.testBit i = true → i < n.toNat) : m < top n := lt_of_bits h
theorem dfn_top (n : Int) (l : List IA) (m : Nat) : dfn n l m < top n := lt_top_of (fun i hi => ((dfn_iff n l m i).1 hi).1)
theorem comp_iff (n : Int) (l : List IA) (m : Nat) : comp n l m = true ↔ free l m = true ∧ dfn n l m = m := by
  unfold comp
  rw [Bool.and_eq_true, beq_iff_eq]
theorem pref_iff (n : Int) (l : List IA) (m : Nat) : pref n l m = true ↔ adm n l m = true ∧ ∀ o, o < top n → sub m o → adm n l o = true → o = m := by
  unfold pref beats
  rw [Bool.and_eq_true, List.all_eq_true]
  refine and_congr Iff.rfl ?_
  constructor
  · intro h o ho hs ha
    have := h o (List.mem_range.2 ho)
    rw [sub_and hs, ha] at this
    simpa using this
  · intro h o ho
    have ho' := List.mem_range.1 ho
    by_cases c : o = m
    · simp [c]
    · by_cases c2 : o &&& m = m
      · cases ha : adm n l o with
        | false => simp
        | true => exact absurd (h o ho' (and_sub c2) ha) c
      · simp [c2]
theorem pref_comp {n : Int} {l : List IA} {m : Nat} (h : pref n l m = true) : comp n l m = true := by
  rw [pref_iff] at h
  obtain ⟨ha, hmax⟩ := h
  have ha' := (adm_iff n l m).1 ha
  have hd : adm n l (dfn n l m) = true := (adm_iff n l _).2 ⟨dfn_free ha'.1 ha'.2, dfn_mono n l ha'.2⟩
  exact (comp_iff n l m).2 ⟨ha'.1, hmax _ (dfn_top n l m) ha'.2 hd⟩
theorem zero_free (l : List IA) : free l 0 = true := (free_iff l 0).2 (fun x _ h _ => by rw [Nat.zero_testBit] at h; cases h)
theorem zero_sub (m : Nat) : sub 0 m := fun i hi => by rw [Nat.zero_testBit] at hi; cases hi
/-- Above an admissible set there is a preferred one. -/
theorem picked_in {p : Nat → Bool} {i m : Nat} (h : m < i) (hp : p m = true) : m ∈ picked p i := by
  unfold picked
  rw [List.mem_filter, List.mem_range]
  exact ⟨h, hp⟩

/-! the reference's draws: what they give, and that they end -/
def codeOk (c : List Int) : Prop := c.length ≤ 65536 ∧ ∀ x ∈ c, 0 ≤ x ∧ x ≤ 255
theorem u64_bd (x : Int) : 0 ≤ IntKind.u64.wrap x ∧ IntKind.u64.wrap x < 18446744073709551616 := by
  have h : IntKind.u64.wrap x = x % 18446744073709551616 := by simp [IntKind.wrap, IntKind.bits, IntKind.signed]
  omega
theorem and255 (x : Int) (h0 : 0 ≤ x) (h1 : x < 2 ^ 62) : 0 ≤ Go.bits .and .u64 x 255 ∧ Go.bits .and .u64 x 255 ≤ 255 := by
  obtain ⟨n, rfl⟩ := Int.eq_ofNat_of_zero_le h0
  have hb : Go.bits .and .u64 (n : Int) ((255 : Nat) : Int) = ((n &&& 255 : Nat) : Int) := (bits_nat .u64 62 (by decide) wrap_u64_small n 255 (by omega) (by decide)).1
  have e : (255 : Int) = ((255 : Nat) : Int) := rfl
  rw [e, hb]
  have := Nat.and_le_right (n := n) (m := 255)
  omega
theorem rd_ok {c : List Int} (hc : codeOk c) (a : Int) : 0 ≤ rd c a ∧ rd c a ≤ 255 := by
  show 0 ≤ c.getD a.toNat 0 ∧ c.getD a.toNat 0 ≤ 255
  rw [List.getD_eq_getElem?_getD]
  cases e : c[a.toNat]? with
  | none => exact ⟨by simp, by simp⟩
  | some x => exact hc.2 x (List.mem_of_getElem? e)
theorem next_ok {c : List Int} (hc : codeOk c) (a s : Int) (h0 : 0 ≤ a) (h1 : a ≤ 100000) : ∃ v s', spec_l1Cur_next.f c a s = some (v, a + 1, s') ∧ 0 ≤ v ∧ v ≤ 255 := by
  have hr := rd_ok hc a
  have hl := hc.1
  unfold spec_l1Cur_next.f
  rw [w64 (x := a + 1) (by omega) (by omega)]
  by_cases h : a < (c.length : Int)
  · rw [if_pos h, if_pos h0, if_pos (by omega)]
    exact ⟨_, _, rfl, by rw [w64 (by omega) (by omega)]; exact hr.1, by rw [w64 (by omega) (by omega)]; exact hr.2⟩
  · rw [if_neg h, if_neg (by omega)]
    have hu := u64_bd (IntKind.u64.wrap (IntKind.u64.wrap (s * 6364136223846793005) + 0) + 902902)
    have hb := and255 (IntKind.u64.wrap (IntKind.u64.wrap (IntKind.u64.wrap (s * 6364136223846793005) + 0) + 902902) / 1099511627776) (by omega) (by omega)
    exact ⟨_, _, rfl, by rw [w64 (by omega) (by omega)]; exact hb.1, by rw [w64 (by omega) (by omega)]; exact hb.2⟩
theorem pick_ok {c : List Int} (hc : codeOk c) (a s n : Int) (h0 : 0 ≤ a) (h1 : a ≤ 100000) (n0 : 1 ≤ n) (n1 : n ≤ 200) : ∃ v a' s', spec_l1Cur_pick.f c a s n = some (v, a', s') ∧ 0 ≤ v ∧ v < n ∧ a ≤ a' ∧ a' ≤ a + 1 := by
  unfold spec_l1Cur_pick.f
  by_cases h : n ≤ 1
  · rw [if_pos h]
    exact ⟨0, a, s, rfl, by omega, by omega, by omega, by omega⟩
  · obtain ⟨v, s', e, v0, v1⟩ := next_ok hc a s h0 h1
    rw [if_neg h, e, Option.bind_some, if_neg (by omega), if_neg (by omega)]
    refine ⟨Int.tmod v n, a + 1, s', rfl, ?_, ?_, by omega, by omega⟩
    · rw [Int.tmod_eq_emod_of_nonneg v0]; exact Int.emod_nonneg _ (by omega)
    · rw [Int.tmod_eq_emod_of_nonneg v0]; exact Int.emod_lt_of_pos _ (by omega)
theorem one_ok {c : List Int} (hc : codeOk c) (a s n : Int) (h0 : 0 ≤ a) (h1 : a ≤ 100000) (n0 : 1 ≤ n) (n1 : n ≤ 200) : ∃ b a' s', spec_l1Cur_one.f c a s n = some (b, a', s') ∧ a ≤ a' ∧ a' ≤ a + 1 := by
  obtain ⟨v, a', s', e, _, _, a0, a1⟩ := pick_ok hc a s n h0 h1 n0 n1
  unfold spec_l1Cur_one.f
  rw [e]
  exact ⟨_, _, _, rfl, a0, a1⟩
theorem among_ok {c : List Int} (hc : codeOk c) (a s : Int) (l : List Int) (h0 : 0 ≤ a) (h1 : a ≤ 100000) (n0 : 1 ≤ l.length) (n1 : l.length ≤ 200) : ∃ v a' s', spec_l1Cur_among.f c a s l = some (v, a', s') ∧ v ∈ l ∧ a ≤ a' ∧ a' ≤ a + 1 := by
  obtain ⟨v, a', s', e, v0, v1, a0, a1⟩ := pick_ok hc a s (l.length : Int) h0 h1 (by omega) (by omega)
  unfold spec_l1Cur_among.f
  rw [e, Option.bind_some, if_pos v0, if_pos v1]
  refine ⟨rd l v, a', s', rfl, ?_, a0, a1⟩
  show l.getD v.toNat 0 ∈ l
  exact getD_mem l v.toNat (by omega) 0
def okF (N : Int) (R : Int × List IA × Int × Int) : Prop := R.1 = N ∧ R.2.1.length ≤ 100 ∧ 0 ≤ R.2.2.1 ∧ R.2.2.1 ≤ 300
theorem inner_ok {c : List Int} (hc : codeOk c) (N : Nat) (hN : N ≤ 10) (often : Int) (o0 : 1 ≤ often) (o1 : often ≤ 200) (i : Nat) (hi : i < N) (hnext : ∀ (a s : Int) (L : List IA), 0 ≤ a → a ≤ 2 + 2 * (10 * ((i : Int) + 1)) → L.length ≤ 10 * (i + 1) → ∃ R, Ev (fun k => spec_l1Cur_framework.l0 k often ((i + 1 : Nat) : Int) c a s (N : Int) L) R ∧ okF N R) :
    ∀ j, j ≤ N → ∀ (a s : Int) (L : List IA), 0 ≤ a → a ≤ 2 + 2 * (10 * (i : Int) + (j : Int)) → L.length ≤ 10 * i + j → ∃ R, Ev (fun k => spec_l1Cur_framework.l1 k often (i : Int) (j : Int) c a s (N : Int) L) R ∧ okF N R := by
  refine down N ?_ (fun j hj ih => ?_)
  · intro a s L h0 h1 hL
    obtain ⟨R, hR, ho⟩ := hnext a s L h0 (by omega) (by omega)
    refine ⟨R, Ev.step (fun k => ?_) hR, ho⟩
    simp only [spec_l1Cur_framework.l1]
    rw [if_neg (by omega), w64s (by omega)]
  · intro a s L h0 h1 hL
    obtain ⟨b, a', s', e, a0, a1⟩ := one_ok hc a s often h0 (by omega) o0 o1
    have hx : wrap64 ((j : Int) + 1) = ((j + 1 : Nat) : Int) := w64s (by omega)
    cases b with
    | false =>
      obtain ⟨R, hR, ho⟩ := ih a' s' L (by omega) (by omega) (by omega)
      refine ⟨R, Ev.step (fun k => ?_) hR, ho⟩
      simp only [spec_l1Cur_framework.l1]
      rw [if_pos (by omega), e, Option.bind_some, hx]
      rfl
    | true =>
      by_cases hij : (i : Int) = (j : Int)
      · obtain ⟨b2, a2, s2, e2, a20, a21⟩ := one_ok hc a' s' 4 (by omega) (by omega) (by omega) (by omega)
        cases b2 with
        | false =>
          obtain ⟨R, hR, ho⟩ := ih a2 s2 L (by omega) (by omega) (by omega)
          refine ⟨R, Ev.step (fun k => ?_) hR, ho⟩
          simp only [spec_l1Cur_framework.l1]
          rw [if_pos (by omega), e, Option.bind_some]
          simp only [if_true, if_pos hij, e2, Option.bind_some, hx]
          rfl
        | true =>
          obtain ⟨R, hR, ho⟩ := ih a2 s2 (L ++ [⟨(i : Int), (j : Int)⟩]) (by omega) (by omega) (by simp; omega)
          refine ⟨R, Ev.step (fun k => ?_) hR, ho⟩
          simp only [spec_l1Cur_framework.l1]
          rw [if_pos (by omega), e, Option.bind_some]
          simp only [if_true, if_pos hij, e2, Option.bind_some, hx, if_pos (show L.length < 8796093022208 by omega)]
      · obtain ⟨R, hR, ho⟩ := ih a' s' (L ++ [⟨(i : Int), (j : Int)⟩]) (by omega) (by omega) (by simp; omega)
        refine ⟨R, Ev.step (fun k => ?_) hR, ho⟩
        simp only [spec_l1Cur_framework.l1]
        rw [if_pos (by omega), e, Option.bind_some]
        simp only [if_true, if_neg hij, hx, if_pos (show L.length < 8796093022208 by omega)]
theorem outer_ok {c : List Int} (hc : codeOk c) (N : Nat) (hN : N ≤ 10) (often : Int) (o0 : 1 ≤ often) (o1 : often ≤ 200) :
    ∀ i, i ≤ N → ∀ (a s : Int) (L : List IA), 0 ≤ a → a ≤ 2 + 2 * (10 * (i : Int)) → L.length ≤ 10 * i → ∃ R, Ev (fun k => spec_l1Cur_framework.l0 k often (i : Int) c a s (N : Int) L) R ∧ okF N R := by
  refine down N ?_ (fun i hi ih => ?_)
  · intro a s L h0 h1 hL
    refine ⟨((N : Int), L, a, s), ?_, rfl, by dsimp only; omega, h0, by dsimp only; omega⟩
    exact Ev.step (f := fun _ => some ((N : Int), L, a, s)) (fun k => by simp only [spec_l1Cur_framework.l0]; rw [if_neg (by omega)]) (Ev.now _)
  · intro a s L h0 h1 hL
    obtain ⟨R, hR, ho⟩ := inner_ok hc N hN often o0 o1 i hi (fun a s L h0 h1 hL => ih a s L h0 (by omega) hL) 0 (Nat.zero_le _) a s L h0 (by omega) (by omega)
    refine ⟨R, Ev.step (fun k => ?_) hR, ho⟩
    simp only [spec_l1Cur_framework.l0]
    rw [if_pos (by omega)]
    rfl
theorem frame_ok {c : List Int} (hc : codeOk c) (a s : Int) (ha0 : a = 0) : ∃ (N : Nat) (R : Int × List IA × Int × Int), N ≤ 10 ∧ Ev (fun k => spec_l1Cur_framework.f k c a s) R ∧ okF N R := by
  subst ha0
  obtain ⟨v, a1, s1, e1, hv, b0, b1⟩ := among_ok hc 0 s [1, 2, 3, 4, 5, 6, 0, 10] (by omega) (by omega) (by decide) (by decide)
  obtain ⟨o, a2, s2, e2, ho, b2, b3⟩ := among_ok hc a1 s1 [2, 3, 4, 6] (by omega) (by omega) (by decide) (by decide)
  have hv' : 0 ≤ v ∧ v ≤ 10 := by simp at hv; omega
  have ho' : 1 ≤ o ∧ o ≤ 200 := by simp at ho; omega
  obtain ⟨R, hR, hk⟩ := outer_ok hc v.toNat (by omega) o ho'.1 ho'.2 0 (Nat.zero_le _) a2 s2 [] (by omega) (by omega) (by simp)
  rw [show ((v.toNat : Nat) : Int) = v by omega] at hR
  refine ⟨v.toNat, R, by omega, ?_, hk⟩
  unfold spec_l1Cur_framework.f
  simp only [e1, e2, Option.bind_some]
  exact hR

/-! what the reference draws for the law -/
theorem any_ok {c : List Int} (hc : codeOk c) : ∃ (n : Int) (l : List IA) (a s : Int), Ev (fun k => spec_l1Cur_anyFramework.f k c 0 0) (n, l, a, s) ∧ l.length ≤ 1048 ∧ (-1 ≤ n ∧ n ≤ 11) ∧ 0 ≤ a ∧ a ≤ 400 := by
  obtain ⟨N, ⟨n0, L, a, s⟩, hN, hR, hk⟩ := frame_ok hc 0 0 rfl
  obtain ⟨k1, k2, k3, k4⟩ := hk
  dsimp only at k1 k2 k3 k4
  obtain ⟨v, a1, s1, e1, v0, v1, b0, b1⟩ := pick_ok hc a s 30 k3 (by omega) (by omega) (by omega)
  unfold spec_l1Cur_anyFramework.f
  by_cases h : v = 0
  · obtain ⟨u, a2, s2, e2, hu, b2, b3⟩ := among_ok hc a1 s1 [-1, 11, 1] (by omega) (by omega) (by decide) (by decide)
    have hu' : -1 ≤ u ∧ u ≤ 11 := by simp at hu; omega
    refine ⟨u, L, a2, s2, Ev.bind hR ?_, by omega, by omega, by omega, by omega⟩
    simp only [e1, Option.bind_some, if_pos h, e2]
    exact Ev.now _
  · by_cases h1 : v = 1
    · obtain ⟨u, a2, s2, e2, _, _, b2, b3⟩ := pick_ok hc a1 s1 3 (by omega) (by omega) (by omega) (by omega)
      refine ⟨n0, L ++ [⟨0, wrap64 (u - 1)⟩], a2, s2, Ev.bind hR ?_, by simp; omega, by omega, by omega, by omega⟩
      simp only [e1, Option.bind_some, if_neg h, if_pos h1, e2, if_pos (show L.length < 8796093022208 by omega)]
      exact Ev.now _
    · refine ⟨n0, L, a1, s1, Ev.bind hR ?_, by omega, by omega, by omega, by omega⟩
      simp only [e1, Option.bind_some, if_neg h, if_neg h1]
      exact Ev.now _
theorem draw_ok {c : List Int} (hc : codeOk c) : ∃ (n : Int) (l : List IA) (a b : Int), Ev (fun k => spec_DrawAddAttack.f k c) (n, l, a, b) ∧ l.length ≤ 1048 := by
  obtain ⟨n, l, a, s, hA, hl, hn, h0, h1⟩ := any_ok hc
  obtain ⟨M, hM, hM0, hM1⟩ : ∃ M, spec_l1Most.f n 1 = some M ∧ 1 ≤ M ∧ M ≤ 11 := by
    unfold spec_l1Most.f
    by_cases h : n > 1
    · exact ⟨n, by rw [if_pos h], by omega, by omega⟩
    · exact ⟨1, by rw [if_neg h], by omega, by omega⟩
  obtain ⟨v1, a1, s1, e1, _, _, b0, b1⟩ := pick_ok hc a s (M + 1) h0 (by omega) (by omega) (by omega)
  obtain ⟨v2, a2, s2, e2, _, _, b2, b3⟩ := pick_ok hc a1 s1 12 (by omega) (by omega) (by omega) (by omega)
  obtain ⟨v3, a3, s3, e3, _, _, b4, b5⟩ := pick_ok hc a2 s2 M (by omega) (by omega) (by omega) (by omega)
  refine ⟨n, l, wrap64 (v1 - (wrap64 (Int.tdiv v2 11))), v3, ?_, hl⟩
  unfold spec_DrawAddAttack.f
  refine Ev.bind hA ?_
  simp only [hM, Option.bind_some, w64 (x := M + 1) (by omega) (by omega), e1, e2, e3]
  exact Ev.now _

/-! the status of an argument, the program's side -/
def fin (c L : Nat) : Int × Bool := if c = L then (1, true) else if c = 0 then (3, true) else (2, true)
theorem index_loop (s : List Int) (hs : s.length ≤ 1048576) (a : Int) : ∀ i, i ≤ s.length → ∃ r : Int, Ev (fun k => slices_Index_int_int.l0 k s a (s.length : Int) (i : Int)) r ∧ decide (r ≥ 0) = (s.drop i).contains a := by
  refine down s.length ?_ (fun i hi ih => ?_)
  · refine ⟨-1, ?_, by rw [List.drop_length]; rfl⟩
    exact Ev.step (f := fun _ => some (-1)) (fun k => by simp only [slices_Index_int_int.l0]; rw [if_neg (by omega)]) (Ev.now _)
  · rw [drop_getD s i hi 0, List.contains_cons]
    have hx := rd_nat s i
    generalize s.getD i 0 = x at hx ⊢
    by_cases c : a = x
    · refine ⟨(i : Int), ?_, ?_⟩
      · refine Ev.step (f := fun _ => some (i : Int)) (fun k => ?_) (Ev.now _)
        simp only [slices_Index_int_int.l0]
        rw [if_pos (by omega), if_pos (by omega), if_pos (by omega), hx, if_pos c]
      · rw [show (a == x) = true by simp [c], Bool.true_or]
        exact decide_eq_true (by omega)
    · obtain ⟨r, h1, h2⟩ := ih
      refine ⟨r, ?_, by rw [h2, show (a == x) = false by simp [c], Bool.false_or]⟩
      refine Ev.step (fun k => ?_) h1
      simp only [slices_Index_int_int.l0]
      rw [if_pos (by omega), if_pos (by omega), if_pos (by omega), hx, if_neg c, w64s (by omega)]
theorem contains_ev (s : List Int) (hs : s.length ≤ 1048576) (a : Int) : Ev (fun k => slices_Contains_int_int.f k s a) (s.contains a) := by
  obtain ⟨r, h1, h2⟩ := index_loop s hs a 0 (Nat.zero_le _)
  rw [List.drop_zero] at h2
  unfold slices_Contains_int_int.f slices_Index_int_int.f
  refine Ev.bind h1 ?_
  rw [h2]
  exact Ev.now _
theorem bl_contains (m a : Nat) (ha : a < 10) : (bl m 10).contains (a : Int) = m.testBit a := by
  cases h : m.testBit a with
  | true =>
    rw [List.contains_iff_mem]
    exact bl_in ha h
  | false =>
    rw [← Bool.not_eq_true, List.contains_iff_mem]
    intro h'
    obtain ⟨j, e, _, hj⟩ := bl_mem h'
    have : a = j := by omega
    subst this
    rw [h] at hj
    cases hj
theorem rdL (L : List (List Int)) (i : Nat) : rd_L3 L (i : Int) = L.getD i [] := rfl
theorem map_getD (S : List Nat) (i : Nat) (hi : i < S.length) : (S.map fun m => bl m 10).getD i [] = bl (S.getD i 0) 10 := by
  rw [List.getD_eq_getElem?_getD, List.getD_eq_getElem?_getD, List.getElem?_map, List.getElem?_eq_getElem hi]
  rfl
theorem implS_loop (S : List Nat) (hS : S.length ≤ 1024) (a : Nat) (ha : a < 10) : ∀ i, i ≤ S.length → ∀ c : Nat, c ≤ i → Ev (fun k => impl_ArgumentStatus.l0 k (a : Int) (S.map fun m => bl m 10) (c : Int) (S.length : Int) (i : Int)) (fin (c + ((S.drop i).filter fun m => m.testBit a).length) S.length) := by
  refine down S.length ?_ (fun i hi ih => ?_)
  · intro c hc
    rw [List.drop_length]
    refine Ev.step (f := fun _ => some (fin c S.length)) (fun k => ?_) (Ev.now _)
    simp only [impl_ArgumentStatus.l0]
    rw [if_neg (by omega), List.length_map]
    unfold fin
    by_cases c1 : c = S.length
    · rw [if_pos (by omega), if_pos c1]
    · rw [if_neg (by omega), if_neg c1]
      by_cases c2 : c = 0
      · rw [if_pos (by omega), if_pos c2]
      · rw [if_neg (by omega), if_neg c2]
  · intro c hc
    have hmg := map_getD S i hi
    rw [drop_getD S i hi 0, List.filter_cons]
    generalize S.getD i 0 = m at hmg ⊢
    refine Ev.step (f := fun k => (slices_Contains_int_int.f k (bl m 10) (a : Int)).bind fun t => if t = true then impl_ArgumentStatus.l0 k (a : Int) (S.map fun m => bl m 10) ((c + 1 : Nat) : Int) (S.length : Int) ((i + 1 : Nat) : Int) else impl_ArgumentStatus.l0 k (a : Int) (S.map fun m => bl m 10) (c : Int) (S.length : Int) ((i + 1 : Nat) : Int)) (fun k => ?_) ?_
    · simp only [impl_ArgumentStatus.l0]
      rw [if_pos (by omega), if_pos (by omega), if_pos (by rw [List.length_map]; omega), rdL, hmg, w64s (by omega), w64s (by omega)]
    · have hbl := bl_len m 10
      refine Ev.bind (contains_ev (bl m 10) (by omega) (a : Int)) ?_
      rw [bl_contains m a ha]
      cases h : m.testBit a with
      | true =>
        have := ih (c + 1) (by omega)
        simp only [if_true, List.length_cons]
        rw [show c + 1 + ((S.drop (i + 1)).filter fun m => m.testBit a).length = c + (((S.drop (i + 1)).filter fun m => m.testBit a).length + 1) by omega] at this
        exact this
      | false =>
        have := ih c (by omega)
        simpa using this

/-! what was added is valid, and adding it again changes nothing -/
theorem lt2_tri {a b : IA} (h : lt2 a b = false) (hne : a ≠ b) : lt2 b a = true := by
  have h' : ¬ (a.f0 < b.f0 ∨ (a.f0 = b.f0 ∧ a.f1 < b.f1)) := fun c => by rw [lt2_iff.2 c] at h; cases h
  refine lt2_iff.2 ?_
  rcases Int.lt_trichotomy b.f0 a.f0 with c | c | c
  · exact .inl c
  · refine .inr ⟨c, ?_⟩
    have : b.f1 ≠ a.f1 := fun e => hne (IA_ext c.symm e.symm)
    omega
  · omega
theorem ins_getD (l : List IA) (x : IA) (p i : Nat) (hp : p ≤ l.length) : (l.take p ++ [x] ++ l.drop p).getD i z65 = if i < p then l.getD i z65 else if i = p then x else l.getD (i - 1) z65 := by
  rw [List.getD_eq_getElem?_getD, List.append_assoc, List.getElem?_append, List.length_take, Nat.min_eq_left hp]
  by_cases c : i < p
  · rw [if_pos c, if_pos c, List.getElem?_take, if_pos c, List.getD_eq_getElem?_getD]
  · rw [if_neg c, if_neg c]
    by_cases c2 : i = p
    · rw [if_pos c2, c2, Nat.sub_self]
      rfl
    · rw [if_neg c2, show i - p = (i - p - 1) + 1 by omega, List.singleton_append, List.getElem?_cons_succ, List.getElem?_drop, show p + (i - p - 1) = i - 1 by omega, List.getD_eq_getElem?_getD]
theorem ins_len (l : List IA) (x : IA) (p : Nat) (hp : p ≤ l.length) : (l.take p ++ [x] ++ l.drop p).length = l.length + 1 := by simp; omega
theorem good_added {n : Int} {l : List IA} (h : good n l = true) (x : IA) (hx : inR n x = true) : good n (added l x) = true := by
  unfold added
  by_cases c : pos x l < l.length ∧ l.getD (pos x l) z65 = x
  · rw [if_pos c]; exact h
  · rw [if_neg c]
    have hp := pos_le x l
    refine good_iff.2 ⟨good_n h, fun i hi => ?_⟩
    rw [ins_len l x _ hp] at hi
    rw [goodAt, ins_getD l x _ _ hp, ins_getD l x _ _ hp, Bool.and_eq_true, Bool.or_eq_true]
    by_cases c1 : i < pos x l
    · have hg := goodAt_of h i (by omega)
      rw [if_pos c1, if_pos (by omega)]
      refine ⟨hg.1, ?_⟩
      by_cases c0 : i = 0
      · exact .inl (by simpa using c0)
      · exact .inr (hg.2 (by omega))
    · rw [if_neg c1]
      by_cases c2 : i = pos x l
      · rw [if_pos c2]
        refine ⟨hx, ?_⟩
        by_cases c0 : i = 0
        · exact .inl (by simpa using c0)
        · rw [if_pos (by omega)]
          exact .inr (pos_below x l _ (by omega))
      · rw [if_neg c2]
        have hg := goodAt_of h (i - 1) (by omega)
        refine ⟨hg.1, .inr ?_⟩
        rw [if_neg (by omega)]
        by_cases c3 : i - 1 = pos x l
        · rw [if_pos c3, c3]
          exact lt2_tri (pos_at x l (by omega)) (fun e => c ⟨by omega, e⟩)
        · rw [if_neg c3]
          exact hg.2 (by omega)
theorem added_again {n : Int} {l : List IA} (h : good n l = true) (x : IA) (hx : inR n x = true) : added (added l x) x = added l x := by
  have hg := good_added h x hx
  by_cases c : pos x l < l.length ∧ l.getD (pos x l) z65 = x
  · have e : added l x = l := by unfold added; rw [if_pos c]
    rw [e, e]
  · have e : added l x = l.take (pos x l) ++ [x] ++ l.drop (pos x l) := by unfold added; rw [if_neg c]
    have hp := pos_le x l
    have hat : (added l x).getD (pos x l) z65 = x := by rw [e, ins_getD l x _ _ hp, if_neg (by omega), if_pos rfl]
    have hlen : (added l x).length = l.length + 1 := by rw [e, ins_len l x _ hp]
    have hq := pos_mem hg x (pos x l) (by omega) hat
    generalize added l x = g at hq hat hlen
    unfold added
    rw [if_pos (by rw [hq]; exact ⟨by omega, hat⟩)]
theorem added_ge (l : List IA) (x : IA) : l.length ≤ (added l x).length := by
  unfold added
  have := pos_le x l
  split
  · exact Nat.le_refl _
  · rw [ins_len l x _ this]; omega
theorem statusI (n : Int) (l : List IA) (hl : l.length ≤ 1048576) (hg : good n l = true) (b : Nat) (hb : (b : Int) < n) (hall : ∀ m, pref n l m = true → m.testBit b = true) : Ev (fun k => impl_ArgumentStatus.f k n l (b : Int)) (1, true) := by
  unfold impl_ArgumentStatus.f
  have hI := implPrefSets_ev n l hl
  rw [hg] at hI
  have hgn := good_n hg
  simp only [within_eq, Option.bind_some]
  rw [w64 (x := n - 1) (by omega) (by omega)]
  have c : (decide (0 ≤ (b : Int)) && decide ((b : Int) ≤ n - 1)) = true := by simp; omega
  simp only [c]
  have hN := top_le hg
  have hpl := picked_len (pref n l) (top n)
  refine Ev.bind hI ?_
  simp only [if_true]
  refine Ev.step (f := fun k => impl_ArgumentStatus.l0 k (b : Int) ((picked (pref n l) (top n)).map fun m => bl m 10) ((0 : Nat) : Int) ((picked (pref n l) (top n)).length : Int) ((0 : Nat) : Int)) (fun k => by simp only [impl_ArgumentStatus.j0]; rw [if_neg (by simp), List.length_map]; rfl) ?_
  have := implS_loop (picked (pref n l) (top n)) (by omega) b (by omega) 0 (Nat.zero_le _) 0 (Nat.le_refl _)
  have hf : (picked (pref n l) (top n)).filter (fun m => m.testBit b) = picked (pref n l) (top n) := List.filter_eq_self.2 (fun m hm => hall m (List.mem_filter.1 hm).2)
  rw [List.drop_zero, hf, Nat.zero_add] at this
  unfold fin at this
  rw [if_pos rfl] at this
  exact this
theorem whole (c : List Int) (hc : ∀ x ∈ c, 0 ≤ x ∧ x ≤ 255) : Ev (fun k => laws_FnArguments.f k c) true := by
  unfold laws_FnArguments.f laws_vBig.f
  simp only [Option.bind_some]
  by_cases hl : (c.length : Int) > 65536
  · simp only [decide_eq_true hl, if_true]
    exact Ev.now _
  · simp only [decide_eq_false hl, Bool.false_eq_true, if_false]
    obtain ⟨n, l, a, b, hD, hll⟩ := draw_ok (c := c) ⟨by omega, hc⟩
    refine Ev.bind hD (Ev.bind (implAdd_ev n l (by omega) a b) (Ev.bind (specAdd_ev n l (by omega) a b) ?_))
    simp only [bne_self_eq_false, Bool.false_eq_true, if_false]
    unfold addR
    by_cases hok : good n l = true ∧ inR n ⟨a, b⟩ = true
    · simp only [if_pos hok, Bool.not_true]
      obtain ⟨hg, hx⟩ := hok
      have hga := good_added hg _ hx
      have hag := added_again hg _ hx
      have h1 := added_len l ⟨a, b⟩
      have h2 := added_ge l ⟨a, b⟩
      have hagain : Ev (fun k => impl_AddAttack.f k n (added l ⟨a, b⟩) a b) (n, added l ⟨a, b⟩, true) := by
        have := implAdd_ev n (added l ⟨a, b⟩) (by omega) a b
        unfold addR at this
        rw [if_pos ⟨hga, hx⟩, hag] at this
        exact this
      generalize added l ⟨a, b⟩ = g at hga hag h1 h2 hagain ⊢
      refine Ev.step (fun k => by simp only [laws_FnArguments.j0]; rfl) ?_
      simp only [Bool.false_eq_true, if_false]
      refine Ev.bind hagain ?_
      simp only [if_true]
      simp only [if_neg (show ¬ ((g.length : Int) < (l.length : Int)) by omega), w64 (x := (l.length : Int) + 1) (by omega) (by omega), if_neg (show ¬ ((g.length : Int) > (l.length : Int) + 1) by omega)]
      have hv := impl_ev n g (by omega)
      rw [hga] at hv
      refine Ev.bind hv ?_
      refine Ev.step (fun k => by simp only [laws_FnArguments.j1]; rfl) ?_
      simp only [Bool.not_true, Bool.false_eq_true, if_false]
      obtain ⟨G, r, g2, hr, hG, hleast⟩ := ground_ev n g (by omega) hga (fun S => ∀ m, dfn n g m = m → sub S m)
        (fun S hS hsub m hm i hi => by have := dfn_mono n g (hS m hm) i hi; rw [hm] at this; exact this) (fun m _ => zero_sub m)
      refine Ev.bind g2 ?_
      dsimp only
      have key : ∀ i, i ≤ (bl G 10).length → Ev (fun k => laws_FnArguments.l0 k (bl G 10) true (i : Int) n g) true := by
        refine down _ ?_ (fun i hi ih => ?_)
        · exact Ev.step (f := fun _ => some true) (fun k => by simp only [laws_FnArguments.l0]; rw [if_neg (by omega)]) (Ev.now _)
        · have hbl := bl_len G 10
          obtain ⟨j, ej, hj, hb⟩ := bl_mem (getD_mem (bl G 10) i hi 0)
          have hjn : (j : Int) < n := by
            have : (dfn n g G).testBit j = true := by rw [hG]; exact hb
            have := ((dfn_iff n g G j).1 this).1
            have := good_n hga
            omega
          refine Ev.step (f := fun k => (impl_ArgumentStatus.f k n g (j : Int)).bind fun bt => if bt.2 = true then (if bt.1 = 1 then laws_FnArguments.l0 k (bl G 10) true ((i + 1 : Nat) : Int) n g else some false) else some false) (fun k => ?_) ?_
          · simp only [laws_FnArguments.l0]
            rw [if_pos (by omega), if_pos (by omega), rd_nat, ej, w64s (by omega)]
          · refine Ev.bind (statusI n g (by omega) hga j hjn (fun m hm => hleast m ((comp_iff n g m).1 (pref_comp hm)).2 j hb)) ?_
            simp only [if_true]
            exact ih
      exact key 0 (Nat.zero_le _)
    · simp only [if_neg hok, Bool.not_false]
      exact Ev.step (f := fun _ => some true) (fun k => by simp only [laws_FnArguments.j0]; rfl) (Ev.now _)
end Go.Proofs.Ytlneimpoholkhaa.PureFnArguments
namespace Go.Proofs.Ytlneimpoholkhaa.Pure
theorem FnArguments : PFnArguments.laws_FnArguments.Ask := fun c hc => (PureFnArguments.whole c (fun x hx => by have := hc.2.2 x hx; have h : IntKind.u8.min ≤ x ∧ x ≤ IntKind.u8.max := (by simpa [Go.Proofs.YtlneimpoholkhaaOpen.bInt, Lit.wf] using this); exact h)).rounds
end Go.Proofs.Ytlneimpoholkhaa.Pure
