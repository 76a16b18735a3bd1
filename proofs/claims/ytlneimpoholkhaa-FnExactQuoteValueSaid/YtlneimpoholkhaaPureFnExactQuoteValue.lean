/-
The plain law behind FnExactQuoteValue: the printed functions of the program and of the reference give the same values, so the law answers true. No condition.
-/
import Derived.Test.YtlneimpoholkhaaAskFnExactQuoteValue
import Derived.Test.YtlneimpoholkhaaBase
namespace Go.Proofs.Ytlneimpoholkhaa.PureFnExactQuoteValue
open Go.RowKit Go.Proofs.Ytlneimpoholkhaa.PFnExactQuoteValue Go.Proofs.YtlneimpoholkhaaOpen Go.Proofs.YtlneimpoholkhaaBase Go.Proofs.YtlneimpoholkhaaW.PrintWords Go.Proofs.YtlneimpoholkhaaW.PrintLast Go.Proofs.YtlneimpoholkhaaW.PrintMore

theorem within_eq (x a b : Int) : impl_within.f x a b = some (decide (a ≤ x) && decide (x ≤ b)) := by
  unfold impl_within.f
  by_cases h : x ≥ a
  · rw [if_pos h]; simp [h]
  · rw [if_neg h]; simp [h]

theorem l1In_eq (x a b : Int) : spec_l1In.f x a b = some (decide (a ≤ x) && decide (x ≤ b)) := by
  unfold spec_l1In.f
  by_cases h : x ≥ a
  · rw [if_pos h]; simp [h]
  · rw [if_neg h]; simp [h]

theorem toI_ev (s : List Int) (hs : s.length ≤ 1048576) : Ev (fun k => laws_toIntS.f k s) s := by
  unfold laws_toIntS.f
  refine Ev.congr (f := fun k => laws_toIntS.l0 k s (List.replicate s.length 0) 0) (fun k => by rw [if_pos (by omega), if_pos (by omega)]; rfl) ?_
  have := copy_loop (fun x : Int => x) 0 0 s (fun k y i => laws_toIntS.l0 k s y i) ?_ ?_
  · rw [List.map_id'] at this; exact this
  · intro k i y hi hy
    simp only [laws_toIntS.l0]
    rw [if_pos (by omega), if_pos (by omega), if_pos (by omega), w64s (by omega)]
    rfl
  · intro k y hy
    simp only [laws_toIntS.l0]
    rw [if_neg (by omega)]

theorem eqI_ev (s : List Int) (hl : s.length ≤ 1048576) : Ev (fun k => laws_eqIntS.f k s s) true := by
  unfold laws_eqIntS.f
  refine Ev.congr (f := fun k => laws_eqIntS.l0 k s s 0) (fun k => by rw [if_pos rfl]) ?_
  refine same_loop s (fun k i => laws_eqIntS.l0 k s s i) (fun i hi ih => ?_) (fun k => by simp only [laws_eqIntS.l0]; rw [if_neg (by omega)])
  refine Ev.step (f := fun k => laws_eqIntS.l0 k s s ((i + 1 : Nat) : Int)) (fun k => ?_) ih
  simp only [laws_eqIntS.l0]
  rw [if_pos (by omega), if_pos (by omega), if_pos (by omega), w64s (by omega)]
  exact if_pos trivial

/-! amounts -/
def am (x : Int) : Bool := decide (-1000000000 ≤ x) && decide (x ≤ 1000000000)
theorem am_iff {x : Int} : am x = true ↔ -1000000000 ≤ x ∧ x ≤ 1000000000 := by simp [am]
theorem isAmount_eq (x : Int) : impl_isAmount.f x = some (am x) := by unfold impl_isAmount.f; rw [within_eq]; rfl
theorem l2Amount_eq (x : Int) : spec_l2Amount.f x = some (am x) := by unfold spec_l2Amount.f; rw [l1In_eq]; rfl

/-! lists of amounts -/
def ams (l : List Int) : Bool := decide (l.length ≤ 20) && l.all am
theorem areAmounts_eq (l : List Int) : impl_areAmounts.f l = some (ams l) := rfl
theorem ams_len {l : List Int} (h : ams l = true) : l.length ≤ 20 := by
  rw [ams, Bool.and_eq_true, decide_eq_true_eq] at h
  exact h.1
theorem ams_mem {l : List Int} (h : ams l = true) : ∀ x ∈ l, -1000000000 ≤ x ∧ x ≤ 1000000000 := by
  rw [ams, Bool.and_eq_true, List.all_eq_true] at h
  exact fun x hx => am_iff.1 (h.2 x hx)
theorem specAms_loop (l : List Int) (hl : l.length ≤ 1048576) : ∀ i, i ≤ l.length → Ev (fun k => spec_l2Amounts.l0 k l (i : Int)) (decide (l.length ≤ 20) && (l.drop i).all am) := by
  refine down l.length ?_ (fun i hi ih => ?_)
  · rw [List.drop_length]
    refine Ev.step (f := fun k => spec_l2Amounts.j1 k l (l.length : Int) false) (fun k => by simp only [spec_l2Amounts.l0]; rw [if_neg (by omega)]) ?_
    refine Ev.step (f := fun _ => some (decide ((l.length : Int) ≤ 20))) (fun k => by simp only [spec_l2Amounts.j1]; rfl) ?_
    rw [List.all_nil, Bool.and_true, show decide ((l.length : Int) ≤ 20) = decide (l.length ≤ 20) by rw [decide_eq_decide]; omega]
    exact Ev.now _
  · rw [drop_getD l i hi 0, List.all_cons]
    have hx : rd l (i : Int) = l.getD i 0 := rfl
    generalize l.getD i 0 = x at hx ⊢
    by_cases c : (i : Int) ≤ 20
    · refine Ev.step (f := fun k => spec_l2Amounts.j1 k l (i : Int) true) (fun k => by simp only [spec_l2Amounts.l0]; rw [if_pos (by omega), decide_eq_true c]) ?_
      cases ha : am x with
      | true =>
        rw [Bool.true_and]
        refine Ev.step (fun k => ?_) ih
        simp only [spec_l2Amounts.j1]
        rw [if_pos trivial, if_pos (by omega), if_pos (by omega), hx, l2Amount_eq, ha, Option.bind_some, if_pos rfl, w64s (by omega)]
      | false =>
        rw [Bool.false_and, Bool.and_false]
        refine Ev.step (f := fun _ => some false) (fun k => ?_) (Ev.now _)
        simp only [spec_l2Amounts.j1]
        rw [if_pos trivial, if_pos (by omega), if_pos (by omega), hx, l2Amount_eq, ha]
        rfl
    · refine Ev.step (f := fun k => spec_l2Amounts.j1 k l (i : Int) false) (fun k => by simp only [spec_l2Amounts.l0]; rw [if_pos (by omega), decide_eq_false c]) ?_
      refine Ev.step (f := fun _ => some (decide ((l.length : Int) ≤ 20))) (fun k => by simp only [spec_l2Amounts.j1]; rfl) ?_
      have : decide (l.length ≤ 20) = false := by simp; omega
      rw [show decide ((l.length : Int) ≤ 20) = decide (l.length ≤ 20) by rw [decide_eq_decide]; omega, this, Bool.false_and]
      exact Ev.now _
theorem specAms_ev (l : List Int) (hl : l.length ≤ 1048576) : Ev (fun k => spec_l2Amounts.f k l) (ams l) := specAms_loop l hl 0 (Nat.zero_le _)

/-! rounding -/
theorem size_eq (x : Int) (h0 : -4611686018427387904 ≤ x) (h1 : x ≤ 4611686018427387904) : impl_size.f x = some (x.natAbs : Int) := by
  unfold impl_size.f mx
  rw [w64 (by omega) (by omega)]
  congr 1
  split <;> omega
theorem round_core (n q m s Q R : Int) (hQ : Int.tdiv n q = Q) (hR : Int.tmod n q = R) (q0 : 1 ≤ q) (q1 : q ≤ 1000000000) (m0 : 1 ≤ m) (m1 : m ≤ 4) (Q0 : 0 ≤ Q) (Q1 : Q ≤ 1000000000000000000) (R0 : 0 ≤ R) (R1 : R < q) (hs : s = 1 ∨ s = -1) :
    ∃ r, (∀ k, spec_l2Round.j0 (k + 1) n q m s = some r) ∧ (∀ k, impl_rounded.j0 (k + 1) q m (s * Q) R s = some r) := by
  have hup : ∃ u : Int, (u = 0 ∨ u = 1) ∧ (u = 1 ↔ (m = 2 ∧ 0 < R) ∨ (m = 3 ∧ q ≤ 2 * R) ∨ (m = 4 ∧ (q < 2 * R ∨ (2 * R = q ∧ Q % 2 = 1)))) := by
    by_cases h : (m = 2 ∧ 0 < R) ∨ (m = 3 ∧ q ≤ 2 * R) ∨ (m = 4 ∧ (q < 2 * R ∨ (2 * R = q ∧ Q % 2 = 1)))
    · exact ⟨1, .inr rfl, by simp only [h]⟩
    · exact ⟨0, .inl rfl, ⟨fun h' => by omega, fun h' => absurd h' h⟩⟩
  obtain ⟨u, hu, hiff⟩ := hup
  have wQ : wrap64 Q = Q := w64 (by omega) (by omega)
  have wQ1 : wrap64 (Q + 1) = Q + 1 := w64 (by omega) (by omega)
  have wR : wrap64 (2 * R) = 2 * R := w64 (by omega) (by omega)
  have tQ : Int.tmod Q 2 = Q % 2 := Int.tmod_eq_emod_of_nonneg Q0
  have hqz : ¬ q = 0 := by omega
  rcases hs with rfl | rfl
  · have w1 : wrap64 (1 * Q) = Q := by rw [Int.one_mul]; exact wQ
    have w2 : wrap64 (1 * (Q + 1)) = Q + 1 := by rw [Int.one_mul]; exact wQ1
    have e1 : (1 : Int) * Q = Q := Int.one_mul _
    refine ⟨Q + u, fun k => ?_, fun k => ?_⟩
    · simp only [spec_l2Round.j0, hQ, hR, wQ, wQ1, wR, w1, w2, tQ, if_neg hqz]
      repeat' split
      all_goals exact congrArg some (by omega)
    · simp only [impl_rounded.j0, e1, wQ1, wR, tQ]
      repeat' split
      all_goals exact congrArg some (by omega)
  · have w1 : wrap64 (-1 * Q) = -Q := by rw [w64 (by omega) (by omega)]; omega
    have w2 : wrap64 (-1 * (Q + 1)) = -Q - 1 := by rw [w64 (by omega) (by omega)]; omega
    have e1 : (-1 : Int) * Q = -Q := by omega
    have w3 : wrap64 (-Q + -1) = -Q - 1 := by rw [w64 (by omega) (by omega)]; omega
    have t2 : Int.tmod (-Q) 2 = -(Q % 2) := by rw [Int.neg_tmod, tQ]
    refine ⟨-Q - u, fun k => ?_, fun k => ?_⟩
    · simp only [spec_l2Round.j0, hQ, hR, wQ, wQ1, wR, w1, w2, tQ, if_neg hqz]
      repeat' split
      all_goals exact congrArg some (by omega)
    · simp only [impl_rounded.j0, e1, w3, wR, t2]
      repeat' split
      all_goals exact congrArg some (by omega)
theorem tdivmod (n q : Int) (h0 : 0 ≤ n) (h1 : n ≤ 1000000000000000000) (q0 : 1 ≤ q) : 0 ≤ Int.tdiv n q ∧ Int.tdiv n q ≤ 1000000000000000000 ∧ 0 ≤ Int.tmod n q ∧ Int.tmod n q < q := by
  rw [Int.tdiv_eq_ediv_of_nonneg h0, Int.tmod_eq_emod_of_nonneg h0]
  have a1 : 0 ≤ n / q := Int.ediv_nonneg h0 (by omega)
  have a2 : n / q ≤ n := Int.ediv_le_self q h0
  have a3 := Int.emod_nonneg n (show q ≠ 0 by omega)
  have a4 := Int.emod_lt_of_pos n (show 0 < q by omega)
  omega
theorem round_both (p q m : Int) (hp0 : -1000000000000000000 ≤ p) (hp1 : p ≤ 1000000000000000000) (q0 : 1 ≤ q) (q1 : q ≤ 1000000000) (m0 : 1 ≤ m) (m1 : m ≤ 4) : ∃ r, Ev (fun k => spec_l2Round.f k p q m) r ∧ Ev (fun k => impl_rounded.f k p q m) r := by
  unfold spec_l2Round.f impl_rounded.f
  simp only [if_neg (show ¬ q = 0 by omega)]
  by_cases c : p < 0
  · obtain ⟨n, rfl⟩ : ∃ n : Int, p = -n := ⟨-p, by omega⟩
    obtain ⟨b0, b1, b2, b3⟩ := tdivmod n q (by omega) (by omega) q0
    obtain ⟨r, rS, rI⟩ := round_core n q m (-1) _ _ rfl rfl q0 q1 m0 m1 b0 b1 b2 b3 (.inr rfl)
    have e1 : wrap64 (- -n) = n := by rw [w64 (by omega) (by omega)]; omega
    have e2 : wrap64 (Int.tdiv (-n) q) = -1 * Int.tdiv n q := by rw [Int.neg_tdiv, w64 (by omega) (by omega)]; omega
    have e3 : impl_size.f (Int.tmod (-n) q) = some (Int.tmod n q) := by
      rw [Int.neg_tmod, size_eq _ (by omega) (by omega)]
      congr 1
      omega
    refine ⟨r, ?_, ?_⟩
    · simp only [if_pos c, e1]
      exact Ev.step rS (Ev.now _)
    · simp only [e3, Option.bind_some, if_pos c, e2]
      exact Ev.step rI (Ev.now _)
  · obtain ⟨b0, b1, b2, b3⟩ := tdivmod p q (by omega) (by omega) q0
    obtain ⟨r, rS, rI⟩ := round_core p q m 1 _ _ rfl rfl q0 q1 m0 m1 b0 b1 b2 b3 (.inl rfl)
    have e2 : wrap64 (Int.tdiv p q) = 1 * Int.tdiv p q := by rw [w64 (by omega) (by omega)]; omega
    have e3 : impl_size.f (Int.tmod p q) = some (Int.tmod p q) := by
      rw [size_eq _ (by omega) (by omega)]
      congr 1
      omega
    refine ⟨r, ?_, ?_⟩
    · simp only [if_neg c]
      exact Ev.step rS (Ev.now _)
    · simp only [e3, Option.bind_some, if_neg c, e2]
      exact Ev.step rI (Ev.now _)
theorem isMode_eq (m : Int) : impl_isMode.f m = some (decide (1 ≤ m) && decide (m ≤ 4)) := by unfold impl_isMode.f; rw [within_eq]; rfl

/-! sorted lists -/
def ins (x : Int) : List Int → List Int
  | [] => [x]
  | y :: l => if y < x then y :: ins x l else x :: y :: l
def posI (x : Int) : List Int → Nat
  | [] => 0
  | y :: l => if y < x then posI x l + 1 else 0
theorem posI_le (x : Int) : ∀ l : List Int, posI x l ≤ l.length
  | [] => Nat.le_refl _
  | y :: l => by
    unfold posI
    have := posI_le x l
    split <;> simp <;> omega
theorem posI_drop (x : Int) (l : List Int) (i : Nat) (h : i < l.length) : posI x (l.drop i) = if l.getD i 0 < x then posI x (l.drop (i + 1)) + 1 else 0 := by
  rw [drop_getD l i h 0]
  rfl
theorem ins_eq (x : Int) : ∀ l : List Int, ins x l = l.take (posI x l) ++ [x] ++ l.drop (posI x l)
  | [] => rfl
  | y :: l => by
    unfold ins posI
    by_cases c : y < x
    · rw [if_pos c, if_pos c, ins_eq x l]; simp
    · rw [if_neg c, if_neg c]; simp
theorem ins_perm (x : Int) : ∀ l : List Int, (ins x l).Perm (x :: l)
  | [] => List.Perm.refl _
  | y :: l => by
    unfold ins
    split
    · exact ((ins_perm x l).cons y).trans (List.Perm.swap x y l)
    · exact List.Perm.refl _
theorem ins_mem {x a : Int} {l : List Int} (h : a ∈ ins x l) : a = x ∨ a ∈ l := by
  have := (ins_perm x l).mem_iff.1 h
  simpa using this
theorem ins_sorted (x : Int) : ∀ l : List Int, l.Pairwise (· ≤ ·) → (ins x l).Pairwise (· ≤ ·)
  | [], _ => by simp [ins]
  | y :: l, h => by
    have h1 := List.pairwise_cons.1 h
    unfold ins
    split
    · rename_i c
      refine List.pairwise_cons.2 ⟨fun a ha => ?_, ins_sorted x l h1.2⟩
      rcases ins_mem ha with rfl | ha
      · omega
      · exact h1.1 a ha
    · rename_i c
      refine List.pairwise_cons.2 ⟨fun a ha => ?_, h⟩
      rcases List.mem_cons.1 ha with rfl | ha
      · omega
      · have := h1.1 a ha; omega
def insAll (l : List Int) : List Int := l.foldl (fun s x => ins x s) []
theorem insAll_take (l : List Int) (i : Nat) (h : i < l.length) : insAll (l.take (i + 1)) = ins (l.getD i 0) (insAll (l.take i)) := by
  rw [take_getD l i h 0]
  simp [insAll, List.foldl_append]
theorem foldl_perm : ∀ (l s : List Int), (l.foldl (fun s x => ins x s) s).Perm (l ++ s)
  | [], _ => List.Perm.refl _
  | x :: l, s => (foldl_perm l (ins x s)).trans (((ins_perm x s).append_left l).trans List.perm_middle)
theorem foldl_sorted : ∀ (l s : List Int), s.Pairwise (· ≤ ·) → (l.foldl (fun s x => ins x s) s).Pairwise (· ≤ ·)
  | [], _, h => h
  | x :: l, s, h => foldl_sorted l (ins x s) (ins_sorted x s h)
theorem insAll_sort (l : List Int) : insAll l = Go.Proofs.YtlneimpoholkhaaSort.sortI l := by
  have p1 : (insAll l).Perm l := by simpa [insAll] using foldl_perm l []
  have p2 : (Go.Proofs.YtlneimpoholkhaaSort.sortI l).Perm l := List.mergeSort_perm l _
  have s1 : (insAll l).Pairwise (· ≤ ·) := foldl_sorted l [] List.Pairwise.nil
  have s2 : (Go.Proofs.YtlneimpoholkhaaSort.sortI l).Pairwise (· ≤ ·) := by
    have := List.pairwise_mergeSort (le := fun x y : Int => decide (x ≤ y)) (fun a b c h1 h2 => by simp at h1 h2 ⊢; omega) (fun a b => by simp; omega) l
    exact this.imp (fun h => by simpa using h)
  exact List.Perm.eq_of_pairwise (le := (· ≤ ·)) (fun a b _ _ h1 h2 => Int.le_antisymm h1 h2) s1 s2 (p1.trans p2.symm)
theorem insAll_len (l : List Int) : (insAll l).length = l.length := by
  have p1 : (insAll l).Perm l := by simpa [insAll] using foldl_perm l []
  exact p1.length_eq
theorem insAll_mem {l : List Int} {a : Int} (h : a ∈ insAll l) : a ∈ l := by
  have p1 : (insAll l).Perm l := by simpa [insAll] using foldl_perm l []
  exact p1.mem_iff.1 h
/-! sums -/
def total (l : List Int) : Int := l.foldl (· + ·) 0
theorem foldl_add (l : List Int) : ∀ s : Int, l.foldl (· + ·) s = s + l.foldl (· + ·) 0 := by
  induction l with
  | nil => intro s; simp
  | cons x l ih => intro s; rw [List.foldl_cons, List.foldl_cons, ih (s + x), ih (0 + x)]; omega
theorem take_total (l : List Int) (i : Nat) (h : i < l.length) : total (l.take (i + 1)) = total (l.take i) + l.getD i 0 := by
  rw [take_getD l i h 0]
  simp [total, List.foldl_append]
theorem total_bd (l : List Int) (hm : ∀ x ∈ l, -1000000000 ≤ x ∧ x ≤ 1000000000) : ∀ i, i ≤ l.length → -1000000000 * (i : Int) ≤ total (l.take i) ∧ total (l.take i) ≤ 1000000000 * (i : Int)
  | 0, _ => by simp [total]
  | i + 1, h => by
    have ih := total_bd l hm i (by omega)
    have := hm _ (getD_mem l i (by omega) 0)
    rw [take_total l i (by omega)]
    omega
theorem sum_both (l : List Int) (hl : l.length ≤ 20) (hm : ∀ x ∈ l, -1000000000 ≤ x ∧ x ≤ 1000000000) : Ev (fun k => spec_l2Sum.f k l) (total l) ∧ Ev (fun k => impl_sumOf.f k l) (total l) := by
  have hb := total_bd l hm
  unfold spec_l2Sum.f impl_sumOf.f
  have kS : ∀ i, i ≤ l.length → Ev (fun k => spec_l2Sum.l0 k l (total (l.take i)) (i : Int)) (total l) := by
    refine down l.length ?_ (fun i hi ih => ?_)
    · rw [List.take_length]
      exact Ev.step (f := fun _ => some (total l)) (fun k => by simp only [spec_l2Sum.l0]; rw [if_neg (by omega)]) (Ev.now _)
    · refine Ev.step (fun k => ?_) ih
      have h1 := hb (i + 1) (by omega)
      have e := take_total l i hi
      simp only [spec_l2Sum.l0]
      rw [if_pos (by omega), if_pos (by omega), rd_nat, ← e, w64 (x := total (l.take (i + 1))) (by omega) (by omega), w64s (by omega)]
  have kI : ∀ i, i ≤ l.length → Ev (fun k => impl_sumOf.l0 k (total (l.take i)) l (l.length : Int) (i : Int)) (total l) := by
    refine down l.length ?_ (fun i hi ih => ?_)
    · rw [List.take_length]
      exact Ev.step (f := fun _ => some (total l)) (fun k => by simp only [impl_sumOf.l0]; rw [if_neg (by omega)]) (Ev.now _)
    · refine Ev.step (fun k => ?_) ih
      have h1 := hb (i + 1) (by omega)
      have e := take_total l i hi
      simp only [impl_sumOf.l0]
      rw [if_pos (by omega), if_pos (by omega), if_pos (by omega), rd_nat, ← e, w64 (x := total (l.take (i + 1))) (by omega) (by omega), w64s (by omega)]
  exact ⟨kS 0 (Nat.zero_le _), kI 0 (Nat.zero_le _)⟩
theorem round_one (p m : Int) (h0 : -1000000000000000000 ≤ p) (h1 : p ≤ 1000000000000000000) : Ev (fun k => impl_rounded.f k p 1 m) p := by
  unfold impl_rounded.f
  have hm : Int.tmod p 1 = 0 := by simp
  have hd : Int.tdiv p 1 = p := by simp
  have hs : impl_size.f 0 = some 0 := by unfold impl_size.f; rw [show wrap64 (-0) = 0 from w64 (by omega) (by omega)]; rfl
  simp only [hm, hd, hs, Option.bind_some, if_neg (show ¬ (1 : Int) = 0 by omega), w64 (x := p) (by omega) (by omega)]
  have hj : ∀ s k, impl_rounded.j0 (k + 1) 1 m p 0 s = some p := fun s k => by
    simp only [impl_rounded.j0]
    have e0 : wrap64 (2 * 0) = 0 := w64 (by omega) (by omega)
    rw [e0]
    by_cases c2 : m = 2
    · rw [if_pos c2, if_neg (by omega)]
    · rw [if_neg c2]
      by_cases c3 : m = 3
      · rw [if_pos c3, if_neg (by omega)]
      · rw [if_neg c3]
        by_cases c4 : m = 4
        · rw [if_pos c4, if_neg (by omega), if_neg (by omega)]
        · rw [if_neg c4]
  by_cases c : p < 0
  · simp only [if_pos c]
    exact Ev.step (f := fun _ => some p) (fun k => hj _ k) (Ev.now _)
  · simp only [if_neg c]
    exact Ev.step (f := fun _ => some p) (fun k => hj _ k) (Ev.now _)
/-! the reference's loops -/
theorem spec_inner (q : List Int) (m : Int) (s : List Int) (hq : q.length ≤ 20) (hs : s.length ≤ 20) (i : Nat) (hi : i < q.length) (R : Int × Bool)
    (hR : Ev (fun k => spec_QuoteValue.l0 k q m (q.length : Int) (ins (q.getD i 0) s) ((i + 1 : Nat) : Int)) R) : ∀ j, j ≤ s.length → posI (q.getD i 0) s = j + posI (q.getD i 0) (s.drop j) → Ev (fun k => spec_QuoteValue.l1 k q m (q.length : Int) s (i : Int) (j : Int)) R := by
  have hpl := posI_le (q.getD i 0) s
  have hend : ∀ j, j ≤ s.length → posI (q.getD i 0) s = j → Ev (fun k => spec_QuoteValue.l0 k q m (q.length : Int) (s.take j ++ [q.getD i 0] ++ s.drop j) ((i + 1 : Nat) : Int)) R := fun j hj e => by
    rw [ins_eq, e] at hR
    exact hR
  refine down s.length ?_ (fun j hj ih => ?_)
  · intro hp
    rw [List.drop_length] at hp
    have hp' : posI (q.getD i 0) s = s.length := hp
    refine Ev.step (fun k => ?_) (hend s.length (Nat.le_refl _) hp')
    simp only [spec_QuoteValue.l1]
    rw [if_neg (by omega)]
    simp only [Option.bind_some, List.nil_append, if_pos (show (0 : Int) ≤ (s.length : Int) by omega), if_pos (show (s.length : Int) ≤ (s.length : Int) by omega), if_pos (show (0 : Int) ≤ (i : Int) by omega), if_pos (show (i : Int) < (q.length : Int) by omega), rd_nat, w64s (show i < 4611686018427387904 by omega), Int.toNat_natCast]
    rw [if_pos (by simp; omega), if_pos (by simp; omega), if_pos (by simp; omega)]
  · intro hp
    rw [posI_drop _ s j hj] at hp
    by_cases c : s.getD j 0 < q.getD i 0
    · rw [if_pos c] at hp
      have ih' := ih (by omega)
      refine Ev.step (fun k => ?_) ih'
      simp only [spec_QuoteValue.l1]
      rw [if_pos (by omega), if_pos (by omega), if_pos (by omega), if_pos (by omega), rd_nat, rd_nat, if_pos c, w64s (by omega)]
    · rw [if_neg c] at hp
      refine Ev.step (fun k => ?_) (hend j (by omega) hp)
      simp only [spec_QuoteValue.l1]
      rw [if_pos (by omega), if_pos (by omega), if_pos (by omega), if_pos (by omega), rd_nat, rd_nat, if_neg c]
      simp only [Option.bind_some, List.nil_append, if_pos (show (j : Int) ≤ (s.length : Int) by omega), w64s (show i < 4611686018427387904 by omega), Int.toNat_natCast]
      rw [if_pos (by simp; omega), if_pos (by simp; omega), if_pos (by simp; omega)]
theorem spec_outer (q : List Int) (m : Int) (hq : q.length ≤ 20) (R : Int × Bool) (hR : Ev (fun k => spec_QuoteValue.l0 k q m (q.length : Int) (insAll q) (q.length : Int)) R) : ∀ i, i ≤ q.length → Ev (fun k => spec_QuoteValue.l0 k q m (q.length : Int) (insAll (q.take i)) (i : Int)) R := by
  refine down q.length ?_ (fun i hi ih => ?_)
  · rw [List.take_length]; exact hR
  · rw [insAll_take q i hi] at ih
    have hl : (insAll (q.take i)).length ≤ 20 := by rw [insAll_len]; simp; omega
    refine Ev.step (f := fun k => spec_QuoteValue.l1 k q m (q.length : Int) (insAll (q.take i)) (i : Int) ((0 : Nat) : Int)) (fun k => ?_) (spec_inner q m _ hq hl i hi R ih 0 (Nat.zero_le _) (by simp))
    simp only [spec_QuoteValue.l0]
    rw [if_pos (by omega)]
    rfl
theorem mid_mem {s : List Int} {a b : Nat} {x : Int} (h : x ∈ (s.take a).drop b) : x ∈ s := List.mem_of_mem_take (List.mem_of_mem_drop h)
theorem both (q : List Int) (m : Int) (hq : q.length ≤ 1048576) : ∃ r : Int × Bool, Ev (fun k => spec_QuoteValue.f k q m) r ∧ Ev (fun k => impl_QuoteValue.f k q m) r := by
  unfold spec_QuoteValue.f impl_QuoteValue.f
  simp only [l1In_eq, within_eq, isMode_eq, Option.bind_some, areAmounts_eq]
  have badS : Ev (fun k => spec_QuoteValue.j0 k q m (q.length : Int) true) (0, false) := Ev.step (f := fun _ => some (0, false)) (fun k => by simp only [spec_QuoteValue.j0]; rfl) (Ev.now _)
  have badI : Ev (fun k => impl_QuoteValue.j0 k q m (q.length : Int) true) (0, false) := Ev.step (f := fun _ => some (0, false)) (fun k => by simp only [impl_QuoteValue.j0]; rfl) (Ev.now _)
  cases h1 : (decide ((3 : Int) ≤ (q.length : Int)) && decide ((q.length : Int) ≤ 20)) with
  | false => exact ⟨(0, false), badS, badI⟩
  | true =>
    simp only [Bool.and_eq_true, decide_eq_true_eq] at h1
    simp only [if_true]
    have hA := specAms_ev q hq
    cases h2 : ams q with
    | false =>
      rw [h2] at hA
      exact ⟨(0, false), Ev.bind hA badS, badI⟩
    | true =>
      rw [h2] at hA
      simp only [if_true]
      cases h3 : (decide (1 ≤ m) && decide (m ≤ 4)) with
      | false => exact ⟨(0, false), Ev.bind hA badS, badI⟩
      | true =>
        simp only [Bool.and_eq_true, decide_eq_true_eq] at h3
        have hm := ams_mem h2
        have hlen := insAll_len q
        have hmem : ∀ x ∈ insAll q, -1000000000 ≤ x ∧ x ≤ 1000000000 := fun x hx => hm x (insAll_mem hx)
        obtain ⟨s, hs⟩ : ∃ s, s = insAll q := ⟨_, rfl⟩
        have hsI : Go.Proofs.YtlneimpoholkhaaSort.sortI q = s := by rw [hs, insAll_sort]
        have hml : ((s.take (q.length - 1)).drop 1).length = q.length - 2 := by rw [hs]; simp [hlen]; omega
        obtain ⟨sS, sI⟩ := sum_both ((s.take (q.length - 1)).drop 1) (by omega) (fun x hx => hmem x (by rw [← hs]; exact mid_mem hx))
        have tb := total_bd ((s.take (q.length - 1)).drop 1) (fun x hx => hmem x (by rw [← hs]; exact mid_mem hx)) _ (Nat.le_refl _)
        rw [List.take_length, hml] at tb
        have n1 : wrap64 ((q.length : Int) - 1) = ((q.length - 1 : Nat) : Int) := by rw [w64 (by omega) (by omega)]; omega
        have n2 : wrap64 ((q.length : Int) - 2) = ((q.length - 2 : Nat) : Int) := by rw [w64 (by omega) (by omega)]; omega
        have hI0 : ∀ r, Ev (fun k => impl_rounded.f k (total ((s.take (q.length - 1)).drop 1)) ((q.length - 2 : Nat) : Int) m) r → Ev (fun k => impl_QuoteValue.j0 k q m (q.length : Int) false) (r, true) := fun r hr => by
          refine Ev.step (f := fun k => (impl_sumOf.f k ((s.take (q.length - 1)).drop 1)).bind fun t => (impl_rounded.f k t ((q.length - 2 : Nat) : Int) m).bind fun u => some (u, true)) (fun k => ?_) (Ev.bind sI (Ev.bind hr (Ev.now _)))
          simp only [impl_QuoteValue.j0]
          rw [if_neg (by simp)]
          unfold slices_Clone_int_int.f slices_Sort_int_int.f
          rw [if_pos (by omega), Option.bind_some, if_pos (by omega), Option.bind_some, hsI, n1, n2, if_pos (by omega), if_pos (by omega), Int.toNat_natCast]
        have hS0 : ∀ R, Ev (fun k => spec_QuoteValue.l0 k q m (q.length : Int) s (q.length : Int)) R → Ev (fun k => spec_QuoteValue.j0 k q m (q.length : Int) false) R := fun R hR => by
          rw [hs] at hR
          refine Ev.step (f := fun k => spec_QuoteValue.l0 k q m (q.length : Int) (insAll (q.take 0)) ((0 : Nat) : Int)) (fun k => by simp only [spec_QuoteValue.j0]; rfl) (spec_outer q m (by omega) R hR 0 (Nat.zero_le _))
        by_cases c3 : q.length = 3
        · have hsl : s.length = 3 := by rw [hs, hlen]; exact c3
          have hone : (s.take (q.length - 1)).drop 1 = [s.getD 1 0] := by
            match s, hsl with
            | [a, b, c], _ => rw [c3]; rfl
          have hx := hmem (s.getD 1 0) (by rw [← hs]; exact getD_mem s 1 (by omega) 0)
          have ht : total ((s.take (q.length - 1)).drop 1) = s.getD 1 0 := by rw [hone]; simp [total]
          refine ⟨(s.getD 1 0, true), Ev.bind hA (hS0 _ ?_), hI0 _ ?_⟩
          · refine Ev.step (f := fun _ => some (s.getD 1 0, true)) (fun k => ?_) (Ev.now _)
            simp only [spec_QuoteValue.l0]
            rw [if_neg (by omega), if_pos (by omega), if_pos (by omega)]
            rfl
          · rw [ht, c3]
            exact round_one _ m (by omega) (by omega)
        · obtain ⟨r, rS, rI⟩ := round_both (total ((s.take (q.length - 1)).drop 1)) ((q.length - 2 : Nat) : Int) m (by omega) (by omega) (by omega) (by omega) h3.1 h3.2
          have hsl : s.length = q.length := by rw [hs, hlen]
          refine ⟨(r, true), Ev.bind hA (hS0 _ ?_), hI0 _ rI⟩
          refine Ev.step (f := fun k => (spec_l2Sum.f k ((s.take (q.length - 1)).drop 1)).bind fun t => (spec_l2Round.f k t ((q.length - 2 : Nat) : Int) m).bind fun u => some (u, true)) (fun k => ?_) (Ev.bind sS (Ev.bind rS (Ev.now _)))
          simp only [spec_QuoteValue.l0]
          rw [if_neg (by omega), if_neg (by omega), n1, n2, if_pos (by omega), if_pos (by omega), Int.toNat_natCast]

theorem whole (q : List Int) (m : Int) : Ev (fun k => laws_FnExactQuoteValue.f k q m) true := by
  unfold laws_FnExactQuoteValue.f
  by_cases h : (q.length : Int) > 1048576
  · simp only [if_pos h]
    exact Ev.now _
  · simp only [if_neg h]
    obtain ⟨r, hS, hI⟩ := both q m (by omega)
    refine Ev.bind (toI_ev q (by omega)) (Ev.bind hS (Ev.bind (toI_ev q (by omega)) (Ev.bind hI ?_)))
    simp only [if_true, bne_self_eq_false]
    refine Ev.step (fun k => by simp only [laws_FnExactQuoteValue.j0]; rfl) ?_
    simp only [Bool.false_eq_true, if_false]
    refine Ev.bind (toI_ev q (by omega)) (Ev.bind (eqI_ev q (by omega)) ?_)
    simp only [if_true]
    exact Ev.now _
end Go.Proofs.Ytlneimpoholkhaa.PureFnExactQuoteValue
namespace Go.Proofs.Ytlneimpoholkhaa.Pure
theorem FnExactQuoteValue : PFnExactQuoteValue.laws_FnExactQuoteValue.Ask := fun q m _ _ => (PureFnExactQuoteValue.whole q m).rounds
end Go.Proofs.Ytlneimpoholkhaa.Pure
