/-
The plain law behind FnExactEstateDividend: the printed functions of the program and of the reference give the same values, so the law answers true. No condition.
-/
import Derived.Test.YtlneimpoholkhaaAskFnExactEstateDividend
import Derived.Test.YtlneimpoholkhaaBase
namespace Go.Proofs.Ytlneimpoholkhaa.PureFnExactEstateDividend
open Go.RowKit Go.Proofs.Ytlneimpoholkhaa.PFnExactEstateDividend Go.Proofs.YtlneimpoholkhaaOpen Go.Proofs.YtlneimpoholkhaaBase Go.Proofs.YtlneimpoholkhaaW.PrintWords Go.Proofs.YtlneimpoholkhaaW.PrintLast Go.Proofs.YtlneimpoholkhaaW.PrintMore

theorem within_eq (x a b : Int) : impl_within.f x a b = some (decide (a ≤ x) && decide (x ≤ b)) := by
  unfold impl_within.f
  by_cases h : x ≥ a
  · rw [if_pos h]; simp [h]
  · rw [if_neg h]; simp [h]

theorem l1In_eq (x a b : Int) : spec_l1In.f x a b = some (decide (a ≤ x) && decide (x ≤ b)) := by
  unfold spec_l1In.f
  by_cases h : x ≥ a
  · rw [if_pos h]; simp [h]
  · rw [if_neg h]; simp [h]

theorem toI_ev (s : List Int) (hs : s.length ≤ 1048576) : Ev (fun k => laws_toIntS.f k s) s := by
  unfold laws_toIntS.f
  refine Ev.congr (f := fun k => laws_toIntS.l0 k s (List.replicate s.length 0) 0) (fun k => by rw [if_pos (by omega), if_pos (by omega)]; rfl) ?_
  have := copy_loop (fun x : Int => x) 0 0 s (fun k y i => laws_toIntS.l0 k s y i) ?_ ?_
  · rw [List.map_id'] at this; exact this
  · intro k i y hi hy
    simp only [laws_toIntS.l0]
    rw [if_pos (by omega), if_pos (by omega), if_pos (by omega), w64s (by omega)]
    rfl
  · intro k y hy
    simp only [laws_toIntS.l0]
    rw [if_neg (by omega)]

theorem eqI_ev (s : List Int) (hl : s.length ≤ 1048576) : Ev (fun k => laws_eqIntS.f k s s) true := by
  unfold laws_eqIntS.f
  refine Ev.congr (f := fun k => laws_eqIntS.l0 k s s 0) (fun k => by rw [if_pos rfl]) ?_
  refine same_loop s (fun k i => laws_eqIntS.l0 k s s i) (fun i hi ih => ?_) (fun k => by simp only [laws_eqIntS.l0]; rw [if_neg (by omega)])
  refine Ev.step (f := fun k => laws_eqIntS.l0 k s s ((i + 1 : Nat) : Int)) (fun k => ?_) ih
  simp only [laws_eqIntS.l0]
  rw [if_pos (by omega), if_pos (by omega), if_pos (by omega), w64s (by omega)]
  exact if_pos trivial

/-! marks in lists of numbers -/
/-- Numbers from m on. -/
def nums_ (m : Int) (n : Nat) : List Int := (List.range n).map fun (i : Nat) => m + (i : Int)
theorem nums__length (m : Int) (n : Nat) : (nums_ m n).length = n := by simp [nums_]
theorem nums__get (m : Int) (n i : Nat) (h : i < n) : (nums_ m n).getD i 0 = m + (i : Int) := by
  unfold nums_
  rw [List.getD_eq_getElem?_getD, List.getElem?_map, List.getElem?_range h]
  rfl
theorem markI_ev (s : List Int) (m : Int) (h0 : 0 ≤ m) (h1 : m ≤ 4611686018427387904) (hs : s.length ≤ 1048576) : Ev (fun k => laws_markIntS.f k s m) (m + (s.length : Int), nums_ m s.length) := by
  unfold laws_markIntS.f
  have key : ∀ i, i ≤ s.length → Ev (fun k => laws_markIntS.l0 k (nums_ m i ++ s.drop i) (m + (i : Int)) (i : Int)) (m + (s.length : Int), nums_ m s.length) := by
    refine down s.length ?_ (fun i hi ih => ?_)
    · refine Ev.step (f := fun _ => some (m + (s.length : Int), nums_ m s.length)) (fun k => ?_) (Ev.now _)
      simp only [laws_markIntS.l0]
      rw [List.drop_length, List.append_nil, nums__length, if_neg (by omega)]
    · refine Ev.step (fun k => ?_) ih
      simp only [laws_markIntS.l0]
      rw [if_pos (by rw [List.length_append, nums__length, List.length_drop]; omega), if_pos (by omega), w64s (by omega), w64 (by omega) (by omega)]
      have e : (nums_ m i ++ s.drop i).set ((i : Int)).toNat (m + (i : Int)) = nums_ m (i + 1) ++ s.drop (i + 1) := by
        rw [Int.toNat_natCast, List.set_append_right _ _ (by rw [nums__length]; exact Nat.le_refl _), nums__length, Nat.sub_self, drop_getD s i hi 0, List.set_cons_zero]
        simp [nums_, List.range_succ]
      rw [e, show m + (i : Int) + 1 = m + ((i + 1 : Nat) : Int) by omega]
  have := key 0 (Nat.zero_le _)
  simpa [nums_] using this
theorem heldI_ev (n : Nat) (m : Int) (h0 : 0 ≤ m) (h1 : m ≤ 4611686018427387904) (hn : n ≤ 1048576) : Ev (fun k => laws_heldIntS.f k (nums_ m n) m) (m + (n : Int)) := by
  unfold laws_heldIntS.f
  have key : ∀ i, i ≤ n → Ev (fun k => laws_heldIntS.l0 k (nums_ m n) (m + (i : Int)) (i : Int)) (m + (n : Int)) := by
    refine down n ?_ (fun i hi ih => ?_)
    · refine Ev.step (f := fun _ => some (m + (n : Int))) (fun k => ?_) (Ev.now _)
      simp only [laws_heldIntS.l0]
      rw [nums__length, if_neg (by omega)]
    · refine Ev.step (fun k => ?_) ih
      simp only [laws_heldIntS.l0]
      rw [nums__length, if_pos (by omega), if_pos (by omega), rd_nat, nums__get m n i hi, if_pos rfl, w64s (by omega), w64 (by omega) (by omega), show m + (i : Int) + 1 = m + ((i + 1 : Nat) : Int) by omega]
  have := key 0 (Nat.zero_le _)
  simpa using this

/-! amounts -/
def am (x : Int) : Bool := decide (-1000000000 ≤ x) && decide (x ≤ 1000000000)
theorem am_iff {x : Int} : am x = true ↔ -1000000000 ≤ x ∧ x ≤ 1000000000 := by simp [am]
theorem isAmount_eq (x : Int) : impl_isAmount.f x = some (am x) := by unfold impl_isAmount.f; rw [within_eq]; rfl

/-! lists of amounts -/
def ams (l : List Int) : Bool := decide (l.length ≤ 20) && l.all am
theorem areAmounts_eq (l : List Int) : impl_areAmounts.f l = some (ams l) := rfl
theorem ams_len {l : List Int} (h : ams l = true) : l.length ≤ 20 := by
  rw [ams, Bool.and_eq_true, decide_eq_true_eq] at h
  exact h.1
theorem ams_mem {l : List Int} (h : ams l = true) : ∀ x ∈ l, -1000000000 ≤ x ∧ x ≤ 1000000000 := by
  rw [ams, Bool.and_eq_true, List.all_eq_true] at h
  exact fun x hx => am_iff.1 (h.2 x hx)

/-! lists of amounts that are not negative -/
def sums (l : List Int) : Bool := ams l && l.all (fun x => decide (0 ≤ x))
theorem areSums_eq (l : List Int) : impl_areSums.f l = some (sums l) := rfl
theorem sums_len {l : List Int} (h : sums l = true) : l.length ≤ 20 := by
  rw [sums, Bool.and_eq_true] at h
  exact ams_len h.1
theorem sums_mem {l : List Int} (h : sums l = true) : ∀ x ∈ l, 0 ≤ x ∧ x ≤ 1000000000 := by
  rw [sums, Bool.and_eq_true, List.all_eq_true] at h
  exact fun x hx => ⟨of_decide_eq_true (h.2 x hx), (ams_mem h.1 x hx).2⟩

/-! sums -/
def total (l : List Int) : Int := l.foldl (· + ·) 0
theorem foldl_add (l : List Int) : ∀ s : Int, l.foldl (· + ·) s = s + l.foldl (· + ·) 0 := by
  induction l with
  | nil => intro s; simp
  | cons x l ih => intro s; rw [List.foldl_cons, List.foldl_cons, ih (s + x), ih (0 + x)]; omega
theorem take_total (l : List Int) (i : Nat) (h : i < l.length) : total (l.take (i + 1)) = total (l.take i) + l.getD i 0 := by
  rw [take_getD l i h 0]
  simp [total, List.foldl_append]
theorem total_bd (l : List Int) (hm : ∀ x ∈ l, -1000000000 ≤ x ∧ x ≤ 1000000000) : ∀ i, i ≤ l.length → -1000000000 * (i : Int) ≤ total (l.take i) ∧ total (l.take i) ≤ 1000000000 * (i : Int)
  | 0, _ => by simp [total]
  | i + 1, h => by
    have ih := total_bd l hm i (by omega)
    have := hm _ (getD_mem l i (by omega) 0)
    rw [take_total l i (by omega)]
    omega
theorem sum_both (l : List Int) (hl : l.length ≤ 20) (hm : ∀ x ∈ l, -1000000000 ≤ x ∧ x ≤ 1000000000) : Ev (fun k => spec_l2Sum.f k l) (total l) ∧ Ev (fun k => impl_sumOf.f k l) (total l) := by
  have hb := total_bd l hm
  unfold spec_l2Sum.f impl_sumOf.f
  have kS : ∀ i, i ≤ l.length → Ev (fun k => spec_l2Sum.l0 k l (total (l.take i)) (i : Int)) (total l) := by
    refine down l.length ?_ (fun i hi ih => ?_)
    · rw [List.take_length]
      exact Ev.step (f := fun _ => some (total l)) (fun k => by simp only [spec_l2Sum.l0]; rw [if_neg (by omega)]) (Ev.now _)
    · refine Ev.step (fun k => ?_) ih
      have h1 := hb (i + 1) (by omega)
      have e := take_total l i hi
      simp only [spec_l2Sum.l0]
      rw [if_pos (by omega), if_pos (by omega), rd_nat, ← e, w64 (x := total (l.take (i + 1))) (by omega) (by omega), w64s (by omega)]
  have kI : ∀ i, i ≤ l.length → Ev (fun k => impl_sumOf.l0 k (total (l.take i)) l (l.length : Int) (i : Int)) (total l) := by
    refine down l.length ?_ (fun i hi ih => ?_)
    · rw [List.take_length]
      exact Ev.step (f := fun _ => some (total l)) (fun k => by simp only [impl_sumOf.l0]; rw [if_neg (by omega)]) (Ev.now _)
    · refine Ev.step (fun k => ?_) ih
      have h1 := hb (i + 1) (by omega)
      have e := take_total l i hi
      simp only [impl_sumOf.l0]
      rw [if_pos (by omega), if_pos (by omega), if_pos (by omega), rd_nat, ← e, w64 (x := total (l.take (i + 1))) (by omega) (by omega), w64s (by omega)]
  exact ⟨kS 0 (Nat.zero_le _), kI 0 (Nat.zero_le _)⟩

/-! sharing by the largest remainder -/
theorem total_cons (x : Int) (l : List Int) : total (x :: l) = x + total l := by
  unfold total
  rw [List.foldl_cons, foldl_add]
  omega
theorem total_app (l : List Int) (x : Int) : total (l ++ [x]) = total l + x := by simp [total, List.foldl_append]
theorem total_ge : ∀ (l : List Int), (∀ x ∈ l, 0 ≤ x) → 0 ≤ total l ∧ ∀ x ∈ l, x ≤ total l
  | [], _ => ⟨by simp [total], fun x hx => by cases hx⟩
  | y :: l, h => by
    obtain ⟨h0, h1⟩ := total_ge l (fun x hx => h x (List.mem_cons_of_mem _ hx))
    have hy := h y List.mem_cons_self
    rw [total_cons]
    refine ⟨by omega, fun x hx => ?_⟩
    rcases List.mem_cons.1 hx with rfl | hx
    · omega
    · have := h1 x hx
      omega
def idxs (n : Nat) : List Int := (List.range n).map fun (i : Nat) => (i : Int)
theorem idxs_succ (n : Nat) : idxs (n + 1) = idxs n ++ [(n : Int)] := by simp [idxs, List.range_succ]
theorem idxs_len (n : Nat) : (idxs n).length = n := by simp [idxs]
theorem idxs_mem {n : Nat} {x : Int} : x ∈ idxs n ↔ 0 ≤ x ∧ x < n := by
  unfold idxs
  rw [List.mem_map]
  constructor
  · rintro ⟨i, hi, rfl⟩
    have := List.mem_range.1 hi
    omega
  · rintro ⟨h0, h1⟩
    exact ⟨x.toNat, List.mem_range.2 (by omega), by omega⟩
theorem idxs_lt : ∀ n : Nat, (idxs n).Pairwise (· < ·)
  | 0 => by simp [idxs]
  | n + 1 => by
    rw [idxs_succ]
    refine List.pairwise_append.2 ⟨idxs_lt n, List.pairwise_singleton _ _, fun a ha b hb => ?_⟩
    have := idxs_mem.1 ha
    have := List.mem_singleton.1 hb
    omega
/-- x ahead of y: the greater remainder first, of two alike the earlier. -/
def Bef (r : Int → Int) (x y : Int) : Prop := r y < r x ∨ (r y = r x ∧ x < y)
open Go.Proofs.YtlneimpoholkhaaStab in
theorem insB_mem (lt : Int → Int → Bool) (x a : Int) : ∀ l : List Int, a ∈ insB lt x l ↔ a = x ∨ a ∈ l
  | [] => by simp [insB]
  | y :: ys => by
    rw [insB]
    split
    · rw [List.mem_cons, insB_mem lt x a ys, List.mem_cons]
      constructor
      · rintro (h | h | h) <;> simp [h]
      · rintro (h | h | h) <;> simp [h]
    · rw [List.mem_cons]
open Go.Proofs.YtlneimpoholkhaaStab in
theorem insB_sorted (lt : Int → Int → Bool) (r : Int → Int) (x : Int) : ∀ l : List Int, (∀ y ∈ l, lt x y = decide (r y < r x)) → (∀ y ∈ l, y < x) → l.Pairwise (fun a b => Bef r b a) → (insB lt x l).Pairwise (fun a b => Bef r b a)
  | [], _, _, _ => by simp [insB]
  | y :: ys, hlt, hx, h => by
    have h1 := List.pairwise_cons.1 h
    rw [insB, hlt y List.mem_cons_self]
    by_cases c : r y < r x
    · rw [if_pos (by simp [c])]
      refine List.pairwise_cons.2 ⟨fun a ha => ?_, insB_sorted lt r x ys (fun z hz => hlt z (List.mem_cons_of_mem _ hz)) (fun z hz => hx z (List.mem_cons_of_mem _ hz)) h1.2⟩
      rcases (insB_mem lt x a ys).1 ha with rfl | ha
      · exact .inl c
      · exact h1.1 a ha
    · rw [if_neg (by simp [c])]
      refine List.pairwise_cons.2 ⟨fun a ha => ?_, h⟩
      have hyx := hx y List.mem_cons_self
      rcases List.mem_cons.1 ha with rfl | ha
      · unfold Bef; omega
      · have h2 := h1.1 a ha
        have h3 := hx a (List.mem_cons_of_mem _ ha)
        unfold Bef at h2 ⊢
        omega
open Go.Proofs.YtlneimpoholkhaaStab in
theorem stab_order (lt : Int → Int → Bool) (r : Int → Int) (n : Nat) (hlt : ∀ x ∈ idxs n, ∀ y ∈ idxs n, lt x y = decide (r y < r x)) : (stab lt (idxs n)).Pairwise (Bef r) ∧ ∀ a, a ∈ stab lt (idxs n) ↔ a ∈ idxs n := by
  have key : ∀ (xs A : List Int), (∀ a ∈ A, ∀ x ∈ xs, a < x) → xs.Pairwise (· < ·) → (∀ a ∈ A, a ∈ idxs n) → (∀ a ∈ xs, a ∈ idxs n) → A.Pairwise (fun a b => Bef r b a) →
      (xs.foldl (fun acc x => insB lt x acc) A).Pairwise (fun a b => Bef r b a) ∧ ∀ a, a ∈ xs.foldl (fun acc x => insB lt x acc) A ↔ a ∈ xs ∨ a ∈ A := by
    intro xs
    induction xs with
    | nil => intro A _ _ _ _ h; exact ⟨h, fun a => by simp⟩
    | cons x xs ih =>
      intro A h1 h2 h3 h4 h5
      have hp := List.pairwise_cons.1 h2
      have hx := h4 x List.mem_cons_self
      rw [List.foldl_cons]
      obtain ⟨i1, i2⟩ := ih (insB lt x A) (fun a ha y hy => by
          rcases (insB_mem lt x a A).1 ha with rfl | ha
          · exact hp.1 y hy
          · exact h1 a ha y (List.mem_cons_of_mem _ hy)) hp.2 (fun a ha => by
          rcases (insB_mem lt x a A).1 ha with rfl | ha
          · exact hx
          · exact h3 a ha) (fun a ha => h4 a (List.mem_cons_of_mem _ ha)) (insB_sorted lt r x A (fun y hy => hlt x hx y (h3 y hy)) (fun y hy => h1 y hy x List.mem_cons_self) h5)
      refine ⟨i1, fun a => ?_⟩
      rw [i2, insB_mem, List.mem_cons]
      constructor
      · rintro (h | h | h) <;> simp [h]
      · rintro ((h | h) | h) <;> simp [h]
  obtain ⟨k1, k2⟩ := key (idxs n) [] (fun a ha => by cases ha) (idxs_lt n) (fun a ha => by cases ha) (fun a ha => ha) List.Pairwise.nil
  unfold stab
  refine ⟨List.pairwise_reverse.2 k1, fun a => ?_⟩
  rw [List.mem_reverse, k2]
  simp
/-- One more at each of some places. -/
def incs (o : List Int) (js : List Int) : List Int := js.foldl (fun o j => o.set j.toNat (o.getD j.toNat 0 + 1)) o
theorem incs_snoc (o js : List Int) (j : Int) : incs o (js ++ [j]) = (incs o js).set j.toNat ((incs o js).getD j.toNat 0 + 1) := by simp [incs, List.foldl_append]
theorem total_set : ∀ (l : List Int) (i : Nat), i < l.length → total (l.set i (l.getD i 0 + 1)) = total l + 1
  | [], i, h => by simp at h
  | x :: l, 0, h => by
    rw [List.set_cons_zero, total_cons, total_cons]
    simp only [List.getD_cons_zero]
    omega
  | x :: l, i + 1, h => by
    rw [List.set_cons_succ, total_cons, total_cons, List.getD_cons_succ, total_set l i (by simpa using h)]
    omega
theorem incs_facts : ∀ (js o : List Int) (B : Int), (∀ x ∈ o, 0 ≤ x ∧ x ≤ B) → (∀ j ∈ js, 0 ≤ j ∧ j < o.length) → (incs o js).length = o.length ∧ (∀ x ∈ incs o js, 0 ≤ x ∧ x ≤ B + js.length) ∧ total (incs o js) = total o + js.length
  | [], o, B, h0, _ => ⟨rfl, fun x hx => by have := h0 x hx; simp; omega, by simp [incs]⟩
  | j :: js, o, B, h0, h => by
    have hj := h j List.mem_cons_self
    have hv := h0 _ (getD_mem o j.toNat (by omega) 0)
    obtain ⟨i1, i2, i3⟩ := incs_facts js (o.set j.toNat (o.getD j.toNat 0 + 1)) (B + 1) (fun x hx => by
      rcases List.mem_or_eq_of_mem_set hx with hx | rfl
      · have := h0 x hx
        omega
      · omega) (fun a ha => by rw [List.length_set]; exact h a (List.mem_cons_of_mem _ ha))
    rw [List.length_set] at i1
    rw [total_set _ _ (by omega)] at i3
    show (incs (o.set j.toNat (o.getD j.toNat 0 + 1)) js).length = _ ∧ (∀ x ∈ incs (o.set j.toNat (o.getD j.toNat 0 + 1)) js, _) ∧ total (incs (o.set j.toNat (o.getD j.toNat 0 + 1)) js) = _
    rw [List.length_cons]
    exact ⟨i1, fun x hx => by have := i2 x hx; omega, by omega⟩
section
variable (T : Int) (w : List Int)
def qof (x : Int) : Int := T * x / total w
def rof (x : Int) : Int := T * x % total w
def qs : List Int := w.map (qof T w)
def rs : List Int := w.map (rof T w)
def ord : List Int := Go.Proofs.YtlneimpoholkhaaStab.stabI (fun x y : Int => impl_shares_1.f x y T w (total w)) (idxs w.length)
def leftof : Int := T - total (qs T w)
/-- The shares of T in proportion to w. -/
def share : List Int := incs (qs T w) ((ord T w).take (leftof T w).toNat)
end
/-- What the weights keep to. -/
structure Wts (T : Int) (w : List Int) : Prop where
  t0 : 0 ≤ T
  t1 : T ≤ 1000000000
  len : w.length ≤ 20
  bd : ∀ x ∈ w, 0 ≤ x ∧ x ≤ 1000000
  pos : 0 < total w
theorem Wts.ne {T : Int} {w : List Int} (h : Wts T w) : 0 < w.length := by
  rcases w with _ | ⟨x, l⟩
  · have := h.pos; simp [total] at this
  · simp
theorem Wts.prod {T : Int} {w : List Int} (h : Wts T w) {x : Int} (hx : x ∈ w) : 0 ≤ T * x ∧ T * x ≤ 1000000000000000 := by
  have h1 := h.bd x hx
  have h2 := h.t0
  have h3 := h.t1
  refine ⟨Int.mul_nonneg h2 h1.1, ?_⟩
  have a := Int.mul_le_mul_of_nonneg_right h3 h1.1
  omega
theorem Wts.q {T : Int} {w : List Int} (h : Wts T w) {x : Int} (hx : x ∈ w) : 0 ≤ qof T w x ∧ qof T w x ≤ 1000000000 := by
  have h1 := h.prod hx
  have h2 := (total_ge w (fun y hy => (h.bd y hy).1)).2 x hx
  refine ⟨Int.ediv_nonneg h1.1 (by have := h.pos; omega), ?_⟩
  refine Int.le_trans (Int.ediv_le_of_le_mul (b := T) h.pos ?_) h.t1
  exact Int.mul_le_mul_of_nonneg_left h2 h.t0
theorem Wts.r {T : Int} {w : List Int} (h : Wts T w) (x : Int) : 0 ≤ rof T w x ∧ rof T w x < total w := ⟨Int.emod_nonneg _ (by have := h.pos; omega), Int.emod_lt_of_pos _ h.pos⟩
theorem Wts.tq {T : Int} {w : List Int} (h : Wts T w) {x : Int} (hx : x ∈ w) : wrap64 (Int.tdiv (wrap64 (T * x)) (total w)) = qof T w x := by
  have h1 := h.prod hx
  have h2 := h.q hx
  rw [w64 (x := T * x) (by omega) (by omega), Int.tdiv_eq_ediv_of_nonneg h1.1]
  exact w64 (by unfold qof at h2; omega) (by unfold qof at h2; omega)
theorem Wts.tr {T : Int} {w : List Int} (h : Wts T w) {x : Int} (hx : x ∈ w) : Int.tmod (wrap64 (T * x)) (total w) = rof T w x := by
  have h1 := h.prod hx
  rw [w64 (x := T * x) (by omega) (by omega), Int.tmod_eq_emod_of_nonneg h1.1]
  rfl
theorem qs_len (T : Int) (w : List Int) : (qs T w).length = w.length := by simp [qs]
theorem rs_len (T : Int) (w : List Int) : (rs T w).length = w.length := by simp [rs]
theorem map_getD (f : Int → Int) (w : List Int) (i : Nat) (h : i < w.length) : (w.map f).getD i 0 = f (w.getD i 0) := by
  simp [List.getD_eq_getElem?_getD, List.getElem?_map, List.getElem?_eq_getElem h]
theorem Wts.qs_bd {T : Int} {w : List Int} (h : Wts T w) : ∀ x ∈ qs T w, 0 ≤ x ∧ x ≤ 1000000000 := by
  intro x hx
  obtain ⟨y, hy, rfl⟩ := List.mem_map.1 hx
  exact h.q hy
theorem sums_q (T A : Int) (hA : 0 < A) : ∀ w : List Int, A * total (w.map fun x => T * x / A) ≤ T * total w ∧ T * total w ≤ A * total (w.map fun x => T * x / A) + A * w.length - w.length
  | [] => by simp [total]
  | x :: w => by
    obtain ⟨h1, h2⟩ := sums_q T A hA w
    have h3 := Int.mul_ediv_add_emod (T * x) A
    have h4 := Int.emod_nonneg (T * x) (show A ≠ 0 by omega)
    have h5 := Int.emod_lt_of_pos (T * x) hA
    rw [List.map_cons, total_cons, total_cons, Int.mul_add, Int.mul_add, List.length_cons, show ((w.length + 1 : Nat) : Int) = (w.length : Int) + 1 by omega, Int.mul_add A (w.length : Int) 1, Int.mul_one]
    omega
theorem Wts.left {T : Int} {w : List Int} (h : Wts T w) : 0 ≤ leftof T w ∧ leftof T w < w.length := by
  obtain ⟨h1, h2⟩ := sums_q T (total w) h.pos w
  have hp := h.pos
  have hn := h.ne
  unfold leftof
  have e : total (qs T w) = total (w.map fun x => T * x / total w) := rfl
  rw [e]
  generalize total (w.map fun x => T * x / total w) = Q at h1 h2 ⊢
  generalize total w = A at h1 h2 hp ⊢
  constructor
  · rw [Int.mul_comm T A] at h1
    have := Int.le_of_mul_le_mul_left h1 hp
    omega
  · rw [Int.mul_comm T A, ← Int.mul_add] at h2
    have h3 : A * T < A * (Q + w.length) := by omega
    have := Int.lt_of_mul_lt_mul_left h3 (by omega)
    omega
theorem Wts.cmp {T : Int} {w : List Int} (h : Wts T w) {x y : Int} (hx : x ∈ idxs w.length) (hy : y ∈ idxs w.length) :
    impl_shares_1.f x y T w (total w) = some (if rof T w (rd w y) < rof T w (rd w x) then -1 else if rof T w (rd w y) > rof T w (rd w x) then 1 else 0) := by
  have h1 := idxs_mem.1 hx
  have h2 := idxs_mem.1 hy
  have m1 : rd w x ∈ w := getD_mem w x.toNat (by omega) 0
  have m2 : rd w y ∈ w := getD_mem w y.toNat (by omega) 0
  unfold impl_shares_1.f
  rw [if_pos h1.1, if_pos h1.2, if_pos h2.1, if_pos h2.2, if_neg (by have := h.pos; omega), h.tr m1, h.tr m2]
  unfold cmp_Compare_int.f cmp_isNaN_int.f
  simp only [bne_self_eq_false, Option.bind_some, Bool.false_eq_true, if_false]
  split
  · rfl
  · split <;> rfl
theorem Wts.order {T : Int} {w : List Int} (h : Wts T w) : (ord T w).Pairwise (Bef (fun i => rof T w (rd w i))) ∧ (∀ a, a ∈ ord T w ↔ a ∈ idxs w.length) ∧ (ord T w).length = w.length := by
  unfold ord Go.Proofs.YtlneimpoholkhaaStab.stabI
  obtain ⟨h1, h2⟩ := stab_order (fun x y => decide ((impl_shares_1.f x y T w (total w)).getD 0 < 0)) (fun i => rof T w (rd w i)) w.length (fun x hx y hy => by
    rw [h.cmp hx hy, Option.getD_some, decide_eq_decide]
    split
    · simp_all
    · split
      · simp_all
      · simp_all)
  refine ⟨h1, h2, ?_⟩
  rw [Go.Proofs.YtlneimpoholkhaaStab.stab_length, idxs_len]
theorem Wts.sorts {T : Int} {w : List Int} (h : Wts T w) : stab_impl_shares_1.f (idxs w.length) T w (total w) = some (ord T w) := by
  unfold stab_impl_shares_1.f
  rw [idxs_len, if_pos h.ne, if_pos h.len, if_pos]
  · rfl
  · rw [List.all_eq_true]
    intro x hx
    rw [List.all_eq_true]
    intro y hy
    show (impl_shares_1.f x y T w (total w)).isSome = true
    rw [h.cmp hx hy]
    rfl
theorem Wts.share_facts {T : Int} {w : List Int} (h : Wts T w) (j : Nat) (hj : j ≤ w.length) : (incs (qs T w) ((ord T w).take j)).length = w.length ∧ (∀ x ∈ incs (qs T w) ((ord T w).take j), 0 ≤ x ∧ x ≤ 1000000020) ∧ total (incs (qs T w) ((ord T w).take j)) = total (qs T w) + j := by
  obtain ⟨_, o2, o3⟩ := h.order
  have hl : ((ord T w).take j).length = j := by rw [List.length_take]; omega
  obtain ⟨i1, i2, i3⟩ := incs_facts ((ord T w).take j) (qs T w) 1000000000 h.qs_bd (fun a ha => by
    have := idxs_mem.1 ((o2 a).1 (List.mem_of_mem_take ha))
    rw [qs_len]
    exact this)
  rw [hl] at i2 i3
  refine ⟨i1.trans (qs_len T w), fun x hx => ?_, i3⟩
  have := i2 x hx
  have := h.len
  omega
theorem Wts.share_total {T : Int} {w : List Int} (h : Wts T w) : (share T w).length = w.length ∧ (∀ x ∈ share T w, 0 ≤ x ∧ x ≤ 1000000020) ∧ total (share T w) = T := by
  have hl := h.left
  obtain ⟨a, b, c⟩ := h.share_facts (leftof T w).toNat (by omega)
  refine ⟨a, b, ?_⟩
  unfold share
  rw [c]
  unfold leftof at hl ⊢
  omega
/-- What the j-th round of the choice finds. -/
theorem Wts.best {T : Int} {w : List Int} (h : Wts T w) (j : Nat) (hj : j < w.length) (R : List Int) (hR : R.length = w.length) (hv : ∀ i : Nat, i < w.length → R.getD i 0 = if (i : Int) ∈ (ord T w).take j then -1 else rof T w (w.getD i 0)) :
    ∃ b : Nat, b < w.length ∧ (ord T w).getD j 0 = b ∧ (∀ i : Nat, i < b → R.getD i 0 < R.getD b 0) ∧ (∀ i : Nat, b < i → i < w.length → R.getD i 0 ≤ R.getD b 0) ∧
      ∀ i : Nat, i < w.length → (R.set b (-1)).getD i 0 = if (i : Int) ∈ (ord T w).take (j + 1) then -1 else rof T w (w.getD i 0) := by
  obtain ⟨o1, o2, o3⟩ := h.order
  have hm := idxs_mem.1 ((o2 _).1 (getD_mem (ord T w) j (by omega) 0))
  have ht := take_getD (ord T w) j (by omega) 0
  have hd := drop_getD (ord T w) j (by omega) 0
  have hs : (ord T w).take j ++ (ord T w).getD j 0 :: (ord T w).drop (j + 1) = ord T w := by rw [← hd, List.take_append_drop]
  generalize hb : (ord T w).getD j 0 = b at hm ht hd hs
  obtain ⟨b, rfl⟩ : ∃ c : Nat, b = (c : Int) := ⟨b.toNat, by omega⟩
  have hbl : b < w.length := by omega
  have hpw := o1
  rw [← hs, List.pairwise_append] at hpw
  obtain ⟨p1, p2, p3⟩ := hpw
  have p4 := (List.pairwise_cons.1 p2).1
  have hbn : ¬ ((b : Int) ∈ (ord T w).take j) := fun hc => by
    have := p3 _ hc _ List.mem_cons_self
    unfold Bef at this
    omega
  have hRb : R.getD b 0 = rof T w (w.getD b 0) := by rw [hv b hbl, if_neg hbn]
  have hother : ∀ i : Nat, i < w.length → i ≠ b → R.getD i 0 < R.getD b 0 ∨ (R.getD i 0 = R.getD b 0 ∧ b < i) := by
    intro i hi hne
    rw [hv i hi, hRb]
    have hr := h.r (w.getD b 0)
    split
    · left; omega
    · rename_i hn
      have hin : (i : Int) ∈ ord T w := (o2 _).2 (idxs_mem.2 ⟨by omega, by omega⟩)
      rw [← hs, List.mem_append, List.mem_cons] at hin
      rcases hin with hin | hin | hin
      · exact absurd hin hn
      · exact absurd (by omega) hne
      · have := p4 _ hin
        unfold Bef at this
        simp only [rd_nat] at this
        rcases this with this | ⟨this, h2⟩
        · exact .inl this
        · exact .inr ⟨this, by omega⟩
  refine ⟨b, hbl, rfl, fun i hi => ?_, fun i hi hl => ?_, fun i hi => ?_⟩
  · rcases hother i (by omega) (by omega) with h1 | ⟨_, h1⟩
    · exact h1
    · omega
  · rcases hother i hl (by omega) with h1 | ⟨h1, _⟩
    · omega
    · omega
  · rw [ht]
    by_cases c : i = b
    · subst c
      rw [if_pos (by simp), List.getD_eq_getElem?_getD, List.getElem?_set_self (by omega)]
      rfl
    · rw [List.getD_eq_getElem?_getD, List.getElem?_set_ne (by omega), ← List.getD_eq_getElem?_getD, hv i hi]
      have : ((i : Int) ∈ (ord T w).take j ++ [(b : Int)]) ↔ ((i : Int) ∈ (ord T w).take j) := by
        rw [List.mem_append, List.mem_singleton]
        constructor
        · rintro (h1 | h1)
          · exact h1
          · omega
        · exact .inl
      simp only [this]
theorem scan (out R : List Int) (left : Int) (b : Nat) (hR : R.length = out.length) (hR2 : R.length ≤ 20) (hb : b < R.length) (h1 : ∀ i : Nat, i < b → R.getD i 0 < R.getD b 0) (h2 : ∀ i : Nat, b < i → i < R.length → R.getD i 0 ≤ R.getD b 0) (V : List Int)
    (hout : 0 ≤ out.getD b 0 ∧ out.getD b 0 ≤ 2000000000) (hl : 0 < left ∧ left ≤ 100)
    (hV : Ev (fun k => spec_l2Share.l1 k (out.set b (out.getD b 0 + 1)) (R.set b (-1)) (left - 1)) V) : Ev (fun k => spec_l2Share.l2 k out R left 0 1) V := by
  have key : ∀ i, i ≤ R.length → 0 < i → ∀ c : Nat, c < i → (b < i → c = b) → Ev (fun k => spec_l2Share.l2 k out R left (c : Int) (i : Int)) V := by
    refine down R.length ?_ (fun i hi ih => ?_)
    · intro _ c hc hcb
      obtain rfl := hcb hb
      refine Ev.step (fun k => ?_) hV
      simp only [spec_l2Share.l2]
      rw [if_neg (by omega), if_pos (by omega), if_pos (by omega), if_pos (by omega), rd_nat, Int.toNat_natCast, w64 (x := out.getD c 0 + 1) (by omega) (by omega), w64 (x := left - 1) (by omega) (by omega)]
    · intro h0 c hc hcb
      by_cases hgt : R.getD i 0 > R.getD c 0
      · refine Ev.step (fun k => ?_) (ih (by omega) i (by omega) (fun hb2 => by
          by_cases e : i = b
          · exact e
          · obtain rfl := hcb (by omega)
            have := h2 i (by omega) hi
            omega))
        simp only [spec_l2Share.l2]
        rw [if_pos (by omega), if_pos (by omega), if_pos (by omega), if_pos (by omega), rd_nat, rd_nat, if_pos hgt, w64s (by omega)]
      · refine Ev.step (fun k => ?_) (ih (by omega) c (by omega) (fun hb2 => by
          by_cases e : i = b
          · subst e
            have := h1 c hc
            omega
          · exact hcb (by omega)))
        simp only [spec_l2Share.l2]
        rw [if_pos (by omega), if_pos (by omega), if_pos (by omega), if_pos (by omega), rd_nat, rd_nat, if_neg hgt, w64s (by omega)]
  exact key 1 (by omega) (by omega) 0 (by omega) (by omega)
theorem Wts.specShare {T : Int} {w : List Int} (h : Wts T w) : Ev (fun k => spec_l2Share.f k T w) (share T w) := by
  have hlen := h.len
  have hne := h.ne
  have hpos := h.pos
  have hleft := h.left
  have hb20 : ∀ x ∈ w, -1000000000 ≤ x ∧ x ≤ 1000000000 := fun x hx => by have := h.bd x hx; omega
  unfold spec_l2Share.f
  refine Ev.bind (sum_both w hlen hb20).1 ?_
  -- the rounds of the choice
  have rounds : ∀ j, j ≤ (leftof T w).toNat → ∀ R : List Int, R.length = w.length → (∀ i : Nat, i < w.length → R.getD i 0 = if (i : Int) ∈ (ord T w).take j then -1 else rof T w (w.getD i 0)) →
      Ev (fun k => spec_l2Share.l1 k (incs (qs T w) ((ord T w).take j)) R (leftof T w - (j : Int))) (share T w) := by
    refine down _ ?_ (fun j hj ih => ?_)
    · intro R _ _
      refine Ev.step (f := fun _ => some (share T w)) (fun k => ?_) (Ev.now _)
      simp only [spec_l2Share.l1]
      rw [if_neg (by omega)]
      rfl
    · intro R hR hv
      obtain ⟨b, hb, hob, b1, b2, b3⟩ := h.best j (by omega) R hR hv
      obtain ⟨f1, f2, _⟩ := h.share_facts j (by omega)
      have hih := ih (R.set b (-1)) (by rw [List.length_set, hR]) b3
      have e : incs (qs T w) ((ord T w).take (j + 1)) = (incs (qs T w) ((ord T w).take j)).set b ((incs (qs T w) ((ord T w).take j)).getD b 0 + 1) := by
        rw [take_getD (ord T w) j (by rw [h.order.2.2]; omega) 0, incs_snoc, hob, Int.toNat_natCast]
      rw [e] at hih
      refine Ev.step (f := fun k => spec_l2Share.l2 k (incs (qs T w) ((ord T w).take j)) R (leftof T w - (j : Int)) 0 1) (fun k => ?_) ?_
      · simp only [spec_l2Share.l1]
        rw [if_pos (by omega)]
      · refine scan _ R _ b (by omega) (by omega) (by omega) b1 (fun i h1 h2 => b2 i h1 (by omega)) _ ?_ ⟨by omega, by omega⟩ ?_
        · have := f2 _ (getD_mem (incs (qs T w) ((ord T w).take j)) b (by omega) 0)
          omega
        · rw [show leftof T w - (j : Int) - 1 = leftof T w - ((j + 1 : Nat) : Int) by omega]
          exact hih
  have hq := total_bd (qs T w) (fun x hx => by have := h.qs_bd x hx; omega)
  have first : ∀ i, i ≤ w.length → Ev (fun k => spec_l2Share.l0 k T w (total w) ((qs T w).take i) ((rs T w).take i) (T - total ((qs T w).take i)) (i : Int)) (share T w) := by
    refine down w.length ?_ (fun i hi ih => ?_)
    · have := rounds 0 (Nat.zero_le _) (rs T w) (rs_len T w) (fun i hi => by
        rw [List.take_zero, if_neg (by simp)]
        exact map_getD _ w i hi)
      refine Ev.step (fun k => ?_) this
      simp only [spec_l2Share.l0]
      rw [if_neg (by omega), List.take_of_length_le (by rw [qs_len]; omega), List.take_of_length_le (by rw [rs_len]; omega)]
      show spec_l2Share.l1 k (qs T w) (rs T w) (leftof T w) = spec_l2Share.l1 k (qs T w) (rs T w) (leftof T w - ((0 : Nat) : Int))
      rw [show leftof T w - ((0 : Nat) : Int) = leftof T w by omega]
    · refine Ev.step (fun k => ?_) ih
      have hm := getD_mem w i hi 0
      have e1 := take_getD (qs T w) i (by rw [qs_len]; exact hi) 0
      have e2 := take_getD (rs T w) i (by rw [rs_len]; exact hi) 0
      have g1 : (qs T w).getD i 0 = qof T w (w.getD i 0) := map_getD _ w i hi
      have g2 : (rs T w).getD i 0 = rof T w (w.getD i 0) := map_getD _ w i hi
      have l1 : ((qs T w).take i).length = i := by rw [List.length_take, qs_len]; omega
      have l2 : ((rs T w).take i).length = i := by rw [List.length_take, rs_len]; omega
      have hqi := h.q hm
      have hti := hq i (by rw [qs_len]; omega)
      have ht0 := h.t0
      have ht1 := h.t1
      simp only [spec_l2Share.l0]
      rw [if_pos (by omega), if_pos (by omega), if_neg (by omega), if_pos (by omega), Option.bind_some, if_pos (by omega), rd_nat, h.tq hm, h.tr hm, ← g1, ← e1, ← g2, ← e2, if_pos (by rw [List.length_take, qs_len]; omega)]
      have e3 : rd ((qs T w).take (i + 1)) (i : Int) = (qs T w).getD i 0 := by
        rw [rd_nat, e1, List.getD_eq_getElem?_getD, List.getElem?_append_right (by omega), l1, Nat.sub_self]
        rfl
      rw [e3, w64s (by omega), e1, total_app, w64 (by rw [g1]; omega) (by rw [g1]; omega)]
      congr 1
      omega
  have := first 0 (Nat.zero_le _)
  simpa [total] using this
theorem Wts.implShare {T : Int} {w : List Int} (h : Wts T w) : Ev (fun k => impl_shares.f k T w) (share T w) := by
  have hlen := h.len
  have hne := h.ne
  have hpos := h.pos
  have hleft := h.left
  obtain ⟨o1, o2, o3⟩ := h.order
  have hb20 : ∀ x ∈ w, -1000000000 ≤ x ∧ x ≤ 1000000000 := fun x hx => by have := h.bd x hx; omega
  have hqb : ∀ x ∈ qs T w, -1000000000 ≤ x ∧ x ≤ 1000000000 := fun x hx => by have := h.qs_bd x hx; omega
  unfold impl_shares.f
  refine Ev.bind (sum_both w hlen hb20).2 ?_
  have rounds : ∀ j, j ≤ (leftof T w).toNat → Ev (fun k => impl_shares.l1 k (incs (qs T w) ((ord T w).take j)) (ord T w) (leftof T w) (j : Int)) (share T w) := by
    refine down _ ?_ (fun j hj ih => ?_)
    · refine Ev.step (f := fun _ => some (share T w)) (fun k => ?_) (Ev.now _)
      simp only [impl_shares.l1]
      rw [if_neg (by omega)]
      rfl
    · obtain ⟨f1, f2, _⟩ := h.share_facts j (by omega)
      have hm := idxs_mem.1 ((o2 _).1 (getD_mem (ord T w) j (by omega) 0))
      have hv := f2 _ (getD_mem (incs (qs T w) ((ord T w).take j)) ((ord T w).getD j 0).toNat (by omega) 0)
      refine Ev.step (fun k => ?_) ih
      have e := incs_snoc (qs T w) ((ord T w).take j) ((ord T w).getD j 0)
      rw [← take_getD (ord T w) j (by omega) 0] at e
      simp only [impl_shares.l1]
      rw [if_pos (by omega), if_pos (by omega), if_pos (by omega), rd_nat, if_pos hm.1, if_pos (by omega), w64s (by omega), e]
      congr 2
      exact w64 (by show _ ≤ (incs (qs T w) ((ord T w).take j)).getD ((ord T w).getD j 0).toNat 0 + 1; omega) (by show (incs (qs T w) ((ord T w).take j)).getD ((ord T w).getD j 0).toNat 0 + 1 ≤ _; omega)
  have first : ∀ i, i ≤ w.length → Ev (fun k => impl_shares.l0 k ((qs T w).take i) (idxs i) w (w.length : Int) (i : Int) T w (total w)) (share T w) := by
    refine down w.length ?_ (fun i hi ih => ?_)
    · refine Ev.step (f := fun k => (impl_sumOf.f k (qs T w)).bind fun t => impl_shares.l1 k (qs T w) (ord T w) (wrap64 (T - t)) 0) (fun k => ?_) ?_
      · simp only [impl_shares.l0]
        rw [if_neg (by omega), h.sorts, Option.bind_some, List.take_of_length_le (by rw [qs_len]; omega)]
      · refine Ev.bind (sum_both (qs T w) (by rw [qs_len]; exact hlen) hqb).2 ?_
        have := rounds 0 (Nat.zero_le _)
        rw [w64 (x := T - total (qs T w)) (by unfold leftof at hleft; omega) (by unfold leftof at hleft; omega)]
        exact this
    · refine Ev.step (fun k => ?_) ih
      have hm := getD_mem w i hi 0
      have e1 := take_getD (qs T w) i (by rw [qs_len]; exact hi) 0
      have g1 : (qs T w).getD i 0 = qof T w (w.getD i 0) := map_getD _ w i hi
      have l1 : ((qs T w).take i).length = i := by rw [List.length_take, qs_len]; omega
      simp only [impl_shares.l0]
      rw [if_pos (by omega), if_pos (by omega), if_pos (by omega), if_neg (by omega), if_pos (by omega), if_pos (by rw [idxs_len]; omega), rd_nat, h.tq hm, ← g1, ← e1, w64s (by omega), idxs_succ]
  exact first 0 (Nat.zero_le _)

/-! dividing a sum in proportion to dues -/
theorem app_at (acc o : List Int) (i : Nat) (h : acc.length = i) (hi : i < o.length) : rd (acc ++ o.drop i) (i : Int) = o.getD i 0 ∧ (acc ++ o.drop i).length = o.length ∧ ∀ y, (acc ++ o.drop i).set i y = (acc ++ [y]) ++ o.drop (i + 1) := by
  refine ⟨?_, by rw [List.length_append, List.length_drop]; omega, fun y => ?_⟩
  · rw [rd_nat, List.getD_eq_getElem?_getD, List.getElem?_append_right (by omega), h, Nat.sub_self, List.getElem?_drop, Nat.add_zero, List.getD_eq_getElem?_getD]
  · rw [List.set_append_right _ _ (by omega), h, Nat.sub_self, drop_getD o i hi 0, List.set_cons_zero]
    simp
def isBig (l : List Int) : Bool := l.any fun d => decide (d > 1000000)
def wts (l : List Int) : List Int := if isBig l = true then l.map (fun d => (d + 999) / 1000) else l
def clip : List Int → List Int → List Int
  | o :: os, d :: ds => min o d :: clip os ds
  | _, _ => []
def fill : Int → List Int → List Int → List Int
  | s, o :: os, d :: ds => (o + min s (d - o)) :: fill (s - min s (d - o)) os ds
  | _, _, _ => []
theorem clip_nil : clip [] [] = [] := by simp [clip]
theorem fill_nil (s : Int) : fill s [] [] = [] := by simp [fill]
/-- What each gets of T, which is less than all dues. -/
def parts (T : Int) (l : List Int) : List Int := fill (T - total (clip (share T (wts l)) l)) (clip (share T (wts l)) l) l
theorem clip_len : ∀ o l : List Int, o.length = l.length → (clip o l).length = l.length
  | [], [], _ => rfl
  | o :: os, d :: ds, h => by rw [clip, List.length_cons, List.length_cons, clip_len os ds (by simpa using h)]
  | [], _ :: _, h => by simp at h
  | _ :: _, [], h => by simp at h
theorem fill_len : ∀ (o l : List Int) (s : Int), o.length = l.length → (fill s o l).length = l.length
  | [], [], _, _ => rfl
  | o :: os, d :: ds, s, h => by rw [fill, List.length_cons, List.length_cons, fill_len os ds _ (by simpa using h)]
  | [], _ :: _, _, h => by simp at h
  | _ :: _, [], _, h => by simp at h
theorem clip_bd : ∀ o l : List Int, (∀ x ∈ o, 0 ≤ x) → (∀ d ∈ l, 0 ≤ d ∧ d ≤ 1000000000) → ∀ x ∈ clip o l, 0 ≤ x ∧ x ≤ 1000000000
  | [], _, _, _, x, hx => by simp [clip] at hx
  | _ :: _, [], _, _, x, hx => by simp [clip] at hx
  | o :: os, d :: ds, h1, h2, x, hx => by
    have a := h1 o List.mem_cons_self
    have b := h2 d List.mem_cons_self
    rw [clip] at hx
    rcases List.mem_cons.1 hx with rfl | hx
    · omega
    · exact clip_bd os ds (fun x hx => h1 x (List.mem_cons_of_mem _ hx)) (fun x hx => h2 x (List.mem_cons_of_mem _ hx)) x hx
theorem clip_total : ∀ o l : List Int, o.length = l.length → total (clip o l) ≤ total o
  | [], [], _ => Int.le_refl _
  | o :: os, d :: ds, h => by
    have := clip_total os ds (by simpa using h)
    rw [clip, total_cons, total_cons]
    omega
  | [], _ :: _, h => by simp at h
  | _ :: _, [], h => by simp at h
theorem fill_bd : ∀ (o l : List Int) (s : Int), 0 ≤ s → (∀ x ∈ o, 0 ≤ x) → (∀ d ∈ l, 0 ≤ d ∧ d ≤ 1000000000) → ∀ x ∈ fill s (clip o l) l, 0 ≤ x ∧ x ≤ 1000000000
  | [], [], _, _, _, _, x, hx => by simp [clip, fill] at hx
  | [], _ :: _, _, _, _, _, x, hx => by simp [clip, fill] at hx
  | _ :: _, [], _, _, _, _, x, hx => by simp [clip, fill] at hx
  | o :: os, d :: ds, s, h0, h1, h2, x, hx => by
    have a := h1 o List.mem_cons_self
    have b := h2 d List.mem_cons_self
    rw [clip, fill] at hx
    rcases List.mem_cons.1 hx with rfl | hx
    · omega
    · exact fill_bd os ds _ (by omega) (fun x hx => h1 x (List.mem_cons_of_mem _ hx)) (fun x hx => h2 x (List.mem_cons_of_mem _ hx)) x hx
theorem fill_zero : ∀ (o l : List Int), o.length = l.length → (∀ x ∈ o, x = 0) → (∀ d ∈ l, 0 ≤ d) → fill 0 o l = List.replicate l.length 0
  | [], [], _, _, _ => rfl
  | o :: os, d :: ds, h, h1, h2 => by
    have a := h1 o List.mem_cons_self
    have b := h2 d List.mem_cons_self
    rw [fill, show o + min 0 (d - o) = 0 by omega, show (0 : Int) - min 0 (d - o) = 0 by omega, fill_zero os ds (by simpa using h) (fun x hx => h1 x (List.mem_cons_of_mem _ hx)) (fun x hx => h2 x (List.mem_cons_of_mem _ hx))]
    rfl
  | [], _ :: _, h, _, _ => by simp at h
  | _ :: _, [], h, _, _ => by simp at h
/-- What the dues keep to. -/
structure Dues (T : Int) (l : List Int) : Prop where
  t0 : 0 ≤ T
  lt : T < total l
  tot : total l ≤ 1000000000
  len : l.length ≤ 20
  bd : ∀ x ∈ l, 0 ≤ x ∧ x ≤ 1000000000
theorem wts_len (l : List Int) : (wts l).length = l.length := by unfold wts; split <;> simp
theorem ceil_total : ∀ l : List Int, (∀ x ∈ l, 0 ≤ x) → total l ≤ 1000 * total (l.map fun d => (d + 999) / 1000)
  | [], _ => by simp [total]
  | x :: l, h => by
    have := ceil_total l (fun y hy => h y (List.mem_cons_of_mem _ hy))
    rw [List.map_cons, total_cons, total_cons]
    omega
theorem Dues.w {T : Int} {l : List Int} (h : Dues T l) : Wts T (wts l) := by
  have h1 := h.tot
  have h2 := h.lt
  have h0 := h.t0
  refine ⟨h.t0, by omega, by rw [wts_len]; exact h.len, fun x hx => ?_, ?_⟩
  · unfold wts at hx
    split at hx
    · obtain ⟨d, hd, rfl⟩ := List.mem_map.1 hx
      have := h.bd d hd
      omega
    · rename_i hb
      have := h.bd x hx
      have hn : ¬ x > 1000000 := fun hc => hb (List.any_eq_true.2 ⟨x, hx, by simpa using hc⟩)
      omega
  · unfold wts
    split
    · have := ceil_total l (fun x hx => (h.bd x hx).1)
      omega
    · omega
theorem Dues.share_ {T : Int} {l : List Int} (h : Dues T l) : (share T (wts l)).length = l.length ∧ (∀ x ∈ share T (wts l), 0 ≤ x ∧ x ≤ 1000000020) ∧ total (share T (wts l)) = T := by
  obtain ⟨a, b, c⟩ := h.w.share_total
  exact ⟨a.trans (wts_len l), b, c⟩
theorem Dues.parts_ {T : Int} {l : List Int} (h : Dues T l) : (parts T l).length = l.length ∧ ∀ x ∈ parts T l, 0 ≤ x ∧ x ≤ 1000000000 := by
  obtain ⟨a, b, c⟩ := h.share_
  refine ⟨fill_len _ _ _ (clip_len _ _ a), fill_bd _ _ _ ?_ (fun x hx => (b x hx).1) h.bd⟩
  have := clip_total _ _ a
  omega
theorem Dues.zero {l : List Int} (h : Dues 0 l) : parts 0 l = List.replicate l.length 0 := by
  obtain ⟨a, b, c⟩ := h.share_
  have hz : ∀ x ∈ share 0 (wts l), x = 0 := fun x hx => by
    have h1 := (total_ge (share 0 (wts l)) (fun y hy => (b y hy).1)).2 x hx
    have := b x hx
    omega
  have hcz : ∀ (o l : List Int), (∀ x ∈ o, x = 0) → (∀ d ∈ l, 0 ≤ d ∧ d ≤ 1000000000) → ∀ x ∈ clip o l, x = 0 := by
    intro o
    induction o with
    | nil => intro l _ _ x hx; simp [clip] at hx
    | cons o os ih =>
      intro l h1 h2 x hx
      cases l with
      | nil => simp [clip] at hx
      | cons d ds =>
        have := h1 o List.mem_cons_self
        have := h2 d List.mem_cons_self
        rw [clip] at hx
        rcases List.mem_cons.1 hx with rfl | hx
        · omega
        · exact ih ds (fun x hx => h1 x (List.mem_cons_of_mem _ hx)) (fun x hx => h2 x (List.mem_cons_of_mem _ hx)) x hx
  have hc := hcz _ l hz h.bd
  have ht : total (clip (share 0 (wts l)) l) = 0 := by
    generalize clip (share 0 (wts l)) l = c at hc
    induction c with
    | nil => rfl
    | cons x c ih =>
      rw [total_cons, ih (fun y hy => hc y (List.mem_cons_of_mem _ hy)), hc x List.mem_cons_self]
      rfl
  unfold parts
  rw [ht, Int.sub_zero]
  exact fill_zero _ _ (clip_len _ _ a) hc (fun d hd => (h.bd d hd).1)
theorem least_eq (a b : Int) : spec_l1Least.f a b = some (min a b) := by
  unfold spec_l1Least.f
  by_cases c : a < b
  · rw [if_pos c]; congr 1; omega
  · rw [if_neg c]; congr 1; omega
theorem mn_eq (a b : Int) : mn a b = min a b := by unfold mn; split <;> omega
theorem Dues.spec {T : Int} {l : List Int} (h : Dues T l) : Ev (fun k => spec_l18Divide.f k l T) (parts T l) := by
  obtain ⟨s1, s2, s3⟩ := h.share_
  have hlen := h.len
  unfold spec_l18Divide.f
  -- the last round: what is left
  have k3 : ∀ (o : List Int), o.length = l.length → (∀ x ∈ o, 0 ≤ x ∧ x ≤ 1000000020) → ∀ i, i ≤ l.length → ∀ (acc : List Int) (s : Int), acc.length = i → -1000000000000 - 3000000000 * (i : Int) ≤ s → s ≤ 1000000000000 + 3000000000 * (i : Int) → Ev (fun k => spec_l18Divide.l3 k l (acc ++ o.drop i) s (i : Int)) (acc ++ fill s (o.drop i) (l.drop i)) := by
    intro o ho hob
    refine down l.length ?_ (fun i hi ih => ?_)
    · intro acc s ha _ _
      rw [List.drop_of_length_le (by omega), List.drop_of_length_le (by omega)]
      refine Ev.step (f := fun _ => some acc) (fun k => ?_) (by rw [fill_nil, List.append_nil]; exact Ev.now _)
      simp only [spec_l18Divide.l3]
      rw [List.append_nil, if_neg (by omega)]
    · intro acc s ha hs0 hs1
      obtain ⟨e1, e2, e3⟩ := app_at acc o i ha (by omega)
      have b1 := hob _ (getD_mem o i (by omega) 0)
      have b2 := h.bd _ (getD_mem l i hi 0)
      rw [drop_getD l i hi 0, drop_getD o i (by omega) 0] at *
      have := ih (acc ++ [o.getD i 0 + min s (l.getD i 0 - o.getD i 0)]) (s - min s (l.getD i 0 - o.getD i 0)) (by simp [ha]) (by omega) (by omega)
      rw [fill]
      rw [List.append_assoc, List.singleton_append, List.append_assoc, List.singleton_append] at this
      refine Ev.step (fun k => ?_) this
      simp only [spec_l18Divide.l3]
      rw [if_pos (by omega), if_pos (by omega), if_pos (by omega), e1, rd_nat, w64 (x := l.getD i 0 - o.getD i 0) (by omega) (by omega), least_eq, Option.bind_some, w64s (by omega), Int.toNat_natCast, w64 (x := o.getD i 0 + min s (l.getD i 0 - o.getD i 0)) (by omega) (by omega), w64 (x := s - min s (l.getD i 0 - o.getD i 0)) (by omega) (by omega), e3, List.append_assoc, List.singleton_append]
  -- the round before: no more than is due
  have k2 : ∀ (o : List Int), o.length = l.length → (∀ x ∈ o, 0 ≤ x ∧ x ≤ 1000000020) → ∀ V, ∀ i, i ≤ l.length → ∀ (acc : List Int) (s : Int), acc.length = i → 0 ≤ s → s ≤ 1000000020 * (i : Int) → Ev (fun k => spec_l18Divide.l3 k l (acc ++ clip (o.drop i) (l.drop i)) (s + total (o.drop i) - total (clip (o.drop i) (l.drop i))) 0) V → Ev (fun k => spec_l18Divide.l2 k l (acc ++ o.drop i) s (i : Int)) V := by
    intro o ho hob V
    refine down l.length ?_ (fun i hi ih => ?_)
    · intro acc s ha _ _ hV
      rw [List.drop_of_length_le (by omega), List.drop_of_length_le (by omega)] at *
      refine Ev.step (fun k => ?_) hV
      simp only [spec_l18Divide.l2]
      rw [List.append_nil, if_neg (by omega), clip_nil, List.append_nil, show s + total [] - total [] = s by omega]
    · intro acc s ha hs0 hs1 hV
      obtain ⟨e1, e2, e3⟩ := app_at acc o i ha (by omega)
      have b1 := hob _ (getD_mem o i (by omega) 0)
      have b2 := h.bd _ (getD_mem l i hi 0)
      rw [drop_getD l i hi 0, drop_getD o i (by omega) 0] at *
      rw [clip, total_cons, total_cons] at hV
      by_cases c : o.getD i 0 > l.getD i 0
      · have := ih (acc ++ [l.getD i 0]) (s + o.getD i 0 - l.getD i 0) (by simp [ha]) (by omega) (by omega) (by
          rw [List.append_assoc, List.singleton_append]
          rw [show min (o.getD i 0) (l.getD i 0) = l.getD i 0 by omega] at hV
          rw [show s + o.getD i 0 - l.getD i 0 + total (o.drop (i + 1)) - total (clip (o.drop (i + 1)) (l.drop (i + 1))) = s + (o.getD i 0 + total (o.drop (i + 1))) - (l.getD i 0 + total (clip (o.drop (i + 1)) (l.drop (i + 1)))) by omega]
          exact hV)
        refine Ev.step (fun k => ?_) this
        simp only [spec_l18Divide.l2]
        rw [if_pos (by omega), if_pos (by omega), if_pos (by omega), e1, rd_nat, if_pos c, w64s (by omega), Int.toNat_natCast, e3, w64 (x := s + o.getD i 0) (by omega) (by omega), w64 (x := s + o.getD i 0 - l.getD i 0) (by omega) (by omega)]
      · have := ih (acc ++ [o.getD i 0]) s (by simp [ha]) (by omega) (by omega) (by
          rw [List.append_assoc, List.singleton_append]
          rw [show min (o.getD i 0) (l.getD i 0) = o.getD i 0 by omega] at hV
          rw [show s + total (o.drop (i + 1)) - total (clip (o.drop (i + 1)) (l.drop (i + 1))) = s + (o.getD i 0 + total (o.drop (i + 1))) - (o.getD i 0 + total (clip (o.drop (i + 1)) (l.drop (i + 1)))) by omega]
          exact hV)
        rw [List.append_assoc, List.singleton_append] at this
        refine Ev.step (fun k => ?_) this
        simp only [spec_l18Divide.l2]
        rw [if_pos (by omega), if_pos (by omega), if_pos (by omega), e1, rd_nat, if_neg c, w64s (by omega)]
  have k2' : Ev (fun k => spec_l18Divide.l2 k l (share T (wts l)) 0 0) (parts T l) := by
    have := k2 (share T (wts l)) s1 s2 (parts T l) 0 (Nat.zero_le _) [] 0 rfl (by omega) (by omega) (by
      have := k3 (clip (share T (wts l)) l) (clip_len _ _ s1) (fun x hx => by have := clip_bd _ _ (fun x hx => (s2 x hx).1) h.bd x hx; omega) 0 (Nat.zero_le _) [] (T - total (clip (share T (wts l)) l)) rfl (by
        have := clip_total _ _ s1
        have := h.t0
        omega) (by
        have := (total_ge (clip (share T (wts l)) l) (fun x hx => (clip_bd _ _ (fun x hx => (s2 x hx).1) h.bd x hx).1)).1
        have := h.lt
        have := h.tot
        omega)
      simp only [List.drop_zero, List.nil_append] at this ⊢
      rw [s3, Int.zero_add]
      exact this)
    simpa using this
  have k1 : ∀ i, i ≤ l.length → Ev (fun k => spec_l18Divide.l1 k l T ((wts l).take i) (isBig l) (i : Int)) (parts T l) := by
    refine down l.length ?_ (fun i hi ih => ?_)
    · refine Ev.step (f := fun k => (spec_l2Share.f k T (wts l)).bind fun t => spec_l18Divide.l2 k l t 0 0) (fun k => ?_) (Ev.bind h.w.specShare k2')
      simp only [spec_l18Divide.l1]
      rw [if_neg (by omega), List.take_of_length_le (by rw [wts_len]; omega)]
    · have hw := wts_len l
      have e := take_getD (wts l) i (by omega) 0
      have b2 := h.bd _ (getD_mem l i hi 0)
      refine Ev.step (fun k => ?_) ih
      simp only [spec_l18Divide.l1]
      rw [if_pos (by omega), if_pos (by omega), e, w64s (by omega), rd_nat]
      cases hb : isBig l with
      | true =>
        have e2 : (wts l).getD i 0 = (l.getD i 0 + 999) / 1000 := by
          unfold wts
          rw [if_pos hb]
          exact map_getD _ l i hi
        rw [if_pos rfl, if_pos (by rw [List.length_take]; omega), w64 (x := l.getD i 0 + 999) (by omega) (by omega), Int.tdiv_eq_ediv_of_nonneg (by omega), w64 (x := (l.getD i 0 + 999) / 1000) (by omega) (by omega), e2]
      | false =>
        have e2 : (wts l).getD i 0 = l.getD i 0 := by
          unfold wts
          rw [if_neg (by simp [hb])]
        rw [if_neg (by simp), if_pos (by rw [List.length_take]; omega), e2]
  have k0 : ∀ i, i ≤ l.length → Ev (fun k => spec_l18Divide.l0 k l T [] (isBig (l.take i)) (i : Int)) (parts T l) := by
    refine down l.length ?_ (fun i hi ih => ?_)
    · refine Ev.step (fun k => ?_) (k1 0 (Nat.zero_le _))
      simp only [spec_l18Divide.l0]
      rw [if_neg (by omega), List.take_length]
      rfl
    · refine Ev.step (fun k => ?_) ih
      simp only [spec_l18Divide.l0]
      rw [if_pos (by omega), w64s (by omega), take_getD l i hi 0, rd_nat]
      have e : isBig (l.take i ++ [l.getD i 0]) = (isBig (l.take i) || decide (l.getD i 0 > 1000000)) := by simp [isBig]
      rw [e]
      cases isBig (l.take i) with
      | true => rw [if_pos rfl, Bool.true_or]
      | false => rw [if_neg (by simp), if_pos (by omega), Bool.false_or]
  exact k0 0 (Nat.zero_le _)
theorem foldl_max (l : List Int) : ∀ s : Int, (l.foldl max s > 1000000) ↔ (s > 1000000 ∨ isBig l = true) := by
  induction l with
  | nil => intro s; simp [isBig]
  | cons x l ih =>
    intro s
    rw [List.foldl_cons, ih]
    unfold isBig
    rw [List.any_cons, Bool.or_eq_true, decide_eq_true_eq]
    constructor
    · rintro (h | h)
      · by_cases c : s > 1000000
        · exact .inl c
        · exact .inr (.inl (by omega))
      · exact .inr (.inr h)
    · rintro (h | h | h)
      · exact .inl (by omega)
      · exact .inl (by omega)
      · exact .inr h
theorem max_big (l : List Int) (h : 0 < l.length) : (Lib.maxOf l > 1000000) ↔ isBig l = true := by
  unfold Lib.maxOf
  cases l with
  | nil => simp at h
  | cons x l =>
    rw [foldl_max, List.headD_cons]
    constructor
    · rintro (h | h)
      · unfold isBig
        rw [List.any_cons, decide_eq_true h, Bool.true_or]
      · exact h
    · exact .inr
theorem Dues.impl {T : Int} {l : List Int} (h : Dues T l) : Ev (fun k => impl_divided.f k T l) (parts T l) := by
  obtain ⟨s1, s2, s3⟩ := h.share_
  have hlen := h.len
  have hne : 0 < l.length := by
    have := h.w.ne
    rwa [wts_len] at this
  unfold impl_divided.f slices_Clone_int_int.f slices_Max_int_int.f
  rw [if_pos (by omega), if_pos hne]
  simp only [Option.bind_some]
  have k2 : ∀ (o : List Int), o.length = l.length → (∀ x ∈ o, 0 ≤ x ∧ x ≤ 1000000020) → ∀ i, i ≤ l.length → ∀ (acc : List Int) (s : Int), acc.length = i → -1000000000000 - 3000000000 * (i : Int) ≤ s → s ≤ 1000000000000 + 3000000000 * (i : Int) → Ev (fun k => impl_divided.l2 k l (acc ++ o.drop i) s (l.length : Int) (i : Int)) (acc ++ fill s (o.drop i) (l.drop i)) := by
    intro o ho hob
    refine down l.length ?_ (fun i hi ih => ?_)
    · intro acc s ha _ _
      rw [List.drop_of_length_le (by omega), List.drop_of_length_le (by omega)]
      refine Ev.step (f := fun _ => some acc) (fun k => ?_) (by rw [fill_nil, List.append_nil]; exact Ev.now _)
      simp only [impl_divided.l2]
      rw [List.append_nil, if_neg (by omega)]
    · intro acc s ha hs0 hs1
      obtain ⟨e1, e2, e3⟩ := app_at acc o i ha (by omega)
      have b1 := hob _ (getD_mem o i (by omega) 0)
      have b2 := h.bd _ (getD_mem l i hi 0)
      rw [drop_getD l i hi 0, drop_getD o i (by omega) 0] at *
      have := ih (acc ++ [o.getD i 0 + min s (l.getD i 0 - o.getD i 0)]) (s - min s (l.getD i 0 - o.getD i 0)) (by simp [ha]) (by omega) (by omega)
      rw [fill]
      rw [List.append_assoc, List.singleton_append, List.append_assoc, List.singleton_append] at this
      refine Ev.step (fun k => ?_) this
      simp only [impl_divided.l2]
      rw [if_pos (by omega), if_pos (by omega), if_pos (by omega), if_pos (by omega), e1, rd_nat, w64 (x := l.getD i 0 - o.getD i 0) (by omega) (by omega), mn_eq, w64s (by omega), Int.toNat_natCast, w64 (x := o.getD i 0 + min s (l.getD i 0 - o.getD i 0)) (by omega) (by omega), w64 (x := s - min s (l.getD i 0 - o.getD i 0)) (by omega) (by omega), e3, List.append_assoc, List.singleton_append]
  have k1 : ∀ (o : List Int), o.length = l.length → (∀ x ∈ o, 0 ≤ x ∧ x ≤ 1000000020) → ∀ V, ∀ i, i ≤ l.length → ∀ (acc : List Int) (s : Int), acc.length = i → -1000000020 * (i : Int) ≤ s → s ≤ 1000000000 → Ev (fun k => impl_divided.l2 k l (acc ++ clip (o.drop i) (l.drop i)) (s - total (clip (o.drop i) (l.drop i))) (l.length : Int) 0) V → Ev (fun k => impl_divided.l1 k l (acc ++ o.drop i) s (l.length : Int) (i : Int)) V := by
    intro o ho hob V
    refine down l.length ?_ (fun i hi ih => ?_)
    · intro acc s ha _ _ hV
      rw [List.drop_of_length_le (by omega), List.drop_of_length_le (by omega)] at *
      rw [clip_nil, show s - total [] = s by simp [total], List.append_nil] at hV
      refine Ev.step (fun k => ?_) hV
      simp only [impl_divided.l1]
      rw [List.append_nil, if_neg (by omega), ha]
    · intro acc s ha hs0 hs1 hV
      obtain ⟨e1, e2, e3⟩ := app_at acc o i ha (by omega)
      have b1 := hob _ (getD_mem o i (by omega) 0)
      have b2 := h.bd _ (getD_mem l i hi 0)
      rw [drop_getD l i hi 0, drop_getD o i (by omega) 0] at *
      rw [clip, total_cons] at hV
      have := ih (acc ++ [min (o.getD i 0) (l.getD i 0)]) (s - min (o.getD i 0) (l.getD i 0)) (by simp [ha]) (by omega) (by omega) (by
        rw [List.append_assoc, List.singleton_append]
        rw [show s - min (o.getD i 0) (l.getD i 0) - total (clip (o.drop (i + 1)) (l.drop (i + 1))) = s - (min (o.getD i 0) (l.getD i 0) + total (clip (o.drop (i + 1)) (l.drop (i + 1)))) by omega]
        exact hV)
      refine Ev.step (fun k => ?_) this
      simp only [impl_divided.l1]
      rw [if_pos (by omega), if_pos (by omega), if_pos (by omega), if_pos (by omega), e1, rd_nat, mn_eq, w64s (by omega), Int.toNat_natCast, e3, w64 (x := s - min (o.getD i 0) (l.getD i 0)) (by omega) (by omega)]
  have j1 : Ev (fun k => impl_divided.j1 k T l (wts l)) (parts T l) := by
    refine Ev.step (f := fun k => (impl_shares.f k T (wts l)).bind fun t => impl_divided.l1 k l t T (t.length : Int) 0) (fun k => by simp only [impl_divided.j1]) (Ev.bind h.w.implShare ?_)
    have := k1 (share T (wts l)) s1 s2 (parts T l) 0 (Nat.zero_le _) [] T rfl (by have := h.t0; omega) (by have := h.lt; have := h.tot; omega) (by
      have := k2 (clip (share T (wts l)) l) (clip_len _ _ s1) (fun x hx => by have := clip_bd _ _ (fun x hx => (s2 x hx).1) h.bd x hx; omega) 0 (Nat.zero_le _) [] (T - total (clip (share T (wts l)) l)) rfl (by
        have := clip_total _ _ s1
        have := h.t0
        omega) (by
        have := (total_ge (clip (share T (wts l)) l) (fun x hx => (clip_bd _ _ (fun x hx => (s2 x hx).1) h.bd x hx).1)).1
        have := h.lt
        have := h.tot
        omega)
      simp only [List.drop_zero, List.nil_append] at this ⊢
      exact this)
    rw [s1]
    simpa using this
  by_cases c : Lib.maxOf l > 1000000
  · simp only [if_pos c]
    have hb := (max_big l hne).1 c
    have hw : wts l = l.map (fun d => (d + 999) / 1000) := by unfold wts; rw [if_pos hb]
    have k0 : ∀ i, i ≤ l.length → Ev (fun k => impl_divided.l0 k T l ((wts l).take i ++ l.drop i) l (l.length : Int) (i : Int)) (parts T l) := by
      refine down l.length ?_ (fun i hi ih => ?_)
      · refine Ev.step (fun k => ?_) j1
        simp only [impl_divided.l0]
        rw [if_neg (by omega), List.take_of_length_le (by rw [wts_len]; omega), List.drop_of_length_le (by omega), List.append_nil]
      · have hwl := wts_len l
        obtain ⟨e1, e2, e3⟩ := app_at ((wts l).take i) l i (by rw [List.length_take]; omega) hi
        have b2 := h.bd _ (getD_mem l i hi 0)
        have e4 : (wts l).getD i 0 = (l.getD i 0 + 999) / 1000 := by rw [hw]; exact map_getD _ l i hi
        refine Ev.step (fun k => ?_) ih
        simp only [impl_divided.l0]
        rw [if_pos (by omega), if_pos (by omega), if_pos (by omega), if_pos (by omega), rd_nat, w64 (x := l.getD i 0 + 999) (by omega) (by omega), Int.tdiv_eq_ediv_of_nonneg (by omega), w64 (x := (l.getD i 0 + 999) / 1000) (by omega) (by omega), ← e4, Int.toNat_natCast, e3, ← take_getD (wts l) i (by omega) 0, w64s (by omega)]
    have := k0 0 (Nat.zero_le _)
    simpa using this
  · simp only [if_neg c]
    have hb : ¬ isBig l = true := fun hb => c ((max_big l hne).2 hb)
    have hw : wts l = l := by unfold wts; rw [if_neg hb]
    rw [hw] at j1
    exact j1

/-! an estate: claims of one rank -/
def trs (l : List Int) : List S85 := l.map fun d => (⟨1, d⟩ : S85)
theorem trs_len (l : List Int) : (trs l).length = l.length := by simp [trs]
theorem trs_get (l : List Int) (i : Nat) (h : i < l.length) : rd_T85 (trs l) (i : Int) = ⟨1, l.getD i 0⟩ := by
  show (trs l).getD i z85 = _
  simp [trs, List.getD_eq_getElem?_getD, List.getElem?_map, List.getElem?_eq_getElem h]
theorem trs_f0 (l : List Int) (i : Nat) (h : i < l.length) : (rd_T85 (trs l) (i : Int)).f0 = 1 := by rw [trs_get l i h]
theorem trs_f1 (l : List Int) (i : Nat) (h : i < l.length) : (rd_T85 (trs l) (i : Int)).f1 = l.getD i 0 := by rw [trs_get l i h]
theorem one_ok : (decide ((1 : Int) ≤ 1) && decide ((1 : Int) ≤ 10)) = true := rfl
theorem w01 : wrap64 (0 + 1) = 1 := w64 (by omega) (by omega)
def okd (d : Int) : Bool := decide (0 ≤ d) && decide (d ≤ 1000000000)
theorem okd_iff {d : Int} : okd d = true ↔ 0 ≤ d ∧ d ≤ 1000000000 := by simp [okd]
def good (l : List Int) : Bool := (decide (l.length ≤ 20) && l.all okd) && decide (total l ≤ 1000000000)
theorem total_bd' (l : List Int) (h : ∀ i, i < l.length → 0 ≤ l.getD i 0 ∧ l.getD i 0 ≤ 1000000000) : ∀ i, i ≤ l.length → 0 ≤ total (l.take i) ∧ total (l.take i) ≤ 1000000000 * (i : Int)
  | 0, _ => by simp [total]
  | i + 1, hi => by
    have ih := total_bd' l h i (by omega)
    have := h i (by omega)
    rw [take_total l i (by omega)]
    omega
theorem specGood_ev (l : List Int) (hl : l.length ≤ 1048576) : Ev (fun k => spec_l18Good.f k (trs l)) (good l) := by
  unfold spec_l18Good.f
  have key : ∀ i, i ≤ l.length → i ≤ 21 → 0 ≤ total (l.take i) → total (l.take i) ≤ 1000000000 * (i : Int) → Ev (fun k => spec_l18Good.l0 k (trs l) (total (l.take i)) (i : Int)) ((decide (l.length ≤ 20) && (l.drop i).all okd) && decide (total l ≤ 1000000000)) := by
    refine down l.length ?_ (fun i hi ih => ?_)
    · intro _ _ _
      refine Ev.step (f := fun k => spec_l18Good.j1 k (trs l) (total l) (l.length : Int) false) (fun k => ?_) (Ev.step (f := fun _ => if (l.length : Int) ≤ 20 then some (decide (total l ≤ 1000000000)) else some false) (fun k => ?_) ?_)
      · simp only [spec_l18Good.l0]
        rw [trs_len, if_neg (by omega), List.take_length]
      · simp only [spec_l18Good.j1]
        rw [trs_len, if_neg (by simp)]
      · rw [List.drop_length, List.all_nil, Bool.and_true]
        by_cases c : l.length ≤ 20
        · simp only [if_pos (show (l.length : Int) ≤ 20 by omega), decide_eq_true c, Bool.true_and]
          exact Ev.now _
        · simp only [if_neg (show ¬ (l.length : Int) ≤ 20 by omega), decide_eq_false c, Bool.false_and]
          exact Ev.now _
    · intro h21 ht0 ht1
      rw [drop_getD l i hi 0, List.all_cons]
      have hg0 := trs_f0 l i hi
      have hg := trs_f1 l i hi
      have htt := take_total l i hi
      generalize l.getD i 0 = d at hg htt ⊢
      by_cases c : (i : Int) ≤ 20
      · refine Ev.step (f := fun k => spec_l18Good.j1 k (trs l) (total (l.take i)) (i : Int) true) (fun k => ?_) ?_
        · simp only [spec_l18Good.l0]
          rw [trs_len, if_pos (by omega), decide_eq_true c]
        · cases ho : okd d with
          | true =>
            have hd := okd_iff.1 ho
            rw [Bool.true_and]
            refine Ev.step (fun k => ?_) (ih (by omega) (by omega) (by omega))
            simp only [spec_l18Good.j1]
            rw [if_pos trivial, trs_len, if_pos (by omega), if_pos (by omega), hg0, hg, l1In_eq, l1In_eq, Option.bind_some, if_pos one_ok, Option.bind_some, show (decide ((0 : Int) ≤ d) && decide (d ≤ 1000000000)) = true from ho, if_pos rfl, w64s (by omega), htt, w64 (by omega) (by omega)]
          | false =>
            rw [Bool.false_and, Bool.and_false, Bool.false_and]
            refine Ev.step (f := fun _ => some false) (fun k => ?_) (Ev.now _)
            simp only [spec_l18Good.j1]
            rw [if_pos trivial, trs_len, if_pos (by omega), if_pos (by omega), hg0, hg, l1In_eq, l1In_eq, Option.bind_some, if_pos one_ok, Option.bind_some, show (decide ((0 : Int) ≤ d) && decide (d ≤ 1000000000)) = false from ho]
            rfl
      · have hL : ¬ l.length ≤ 20 := by omega
        rw [decide_eq_false hL, Bool.false_and, Bool.false_and]
        refine Ev.step (f := fun k => spec_l18Good.j1 k (trs l) (total (l.take i)) (i : Int) false) (fun k => ?_) (Ev.step (f := fun _ => some false) (fun k => ?_) (Ev.now _))
        · simp only [spec_l18Good.l0]
          rw [trs_len, if_pos (by omega), decide_eq_false c]
        · simp only [spec_l18Good.j1]
          rw [if_neg (by simp), trs_len, if_neg (by omega)]
  have := key 0 (Nat.zero_le _) (by omega) (by simp [total]) (by simp [total])
  simpa [total, good] using this
theorem implGood_ev (l : List Int) (h : sums l = true) : Ev (fun k => impl_IsValidTranches.f k (trs l)) (decide (total l ≤ 1000000000)) := by
  have hl := sums_len h
  have hb := total_bd' l (fun i hi => sums_mem h _ (getD_mem l i hi 0))
  unfold impl_IsValidTranches.f
  have key : ∀ i, i ≤ l.length → Ev (fun k => impl_IsValidTranches.l0 k (trs l) (total (l.take i)) (trs l) ((trs l).length : Int) (i : Int)) (decide (total l ≤ 1000000000)) := by
    refine down l.length ?_ (fun i hi ih => ?_)
    · have := hb l.length (Nat.le_refl _)
      rw [List.take_length] at this
      refine Ev.step (f := fun _ => some (decide (total l ≤ 1000000000))) (fun k => ?_) (Ev.now _)
      simp only [impl_IsValidTranches.l0]
      rw [trs_len, if_neg (by omega), if_pos (by omega), isAmount_eq, Option.bind_some, List.take_length]
      unfold am
      rw [decide_eq_true (show -1000000000 ≤ total l by omega), Bool.true_and]
    · have h1 := sums_mem h _ (getD_mem l i hi 0)
      have h2 := hb (i + 1) (by omega)
      have hg0 := trs_f0 l i hi
      have hg := trs_f1 l i hi
      have htt := take_total l i hi
      refine Ev.step (fun k => ?_) ih
      simp only [impl_IsValidTranches.l0]
      rw [trs_len, if_pos (by omega), if_pos (by omega), if_pos (by omega), hg0, hg, within_eq, within_eq, Option.bind_some, if_pos one_ok, Option.bind_some, if_pos (by rw [decide_eq_true h1.1, decide_eq_true h1.2]; rfl), w64s (by omega), ← htt, w64 (x := total (l.take (i + 1))) (by omega) (by omega)]
  have := key 0 (Nat.zero_le _)
  simpa [total] using this
theorem good_sums (l : List Int) : good l = (sums l && decide (total l ≤ 1000000000)) := by
  unfold good sums ams
  congr 1
  rw [Bool.and_assoc]
  congr 1
  have : ∀ l : List Int, l.all okd = (l.all am && l.all fun x => decide (0 ≤ x)) := by
    intro l
    induction l with
    | nil => rfl
    | cons x l ih =>
      rw [List.all_cons, List.all_cons, List.all_cons, ih]
      have : okd x = (am x && decide (0 ≤ x)) := by
        rw [Bool.eq_iff_iff, Bool.and_eq_true, okd_iff, am_iff, decide_eq_true_eq]
        omega
      rw [this]
      cases am x <;> cases decide (0 ≤ x) <;> cases l.all am <;> simp
  exact this l
/-- What the creditors get. -/
def dist (T : Int) (l : List Int) : List Int := if T < total l then parts T l else l
theorem puts_all (at_ : Nat → Int) (out ps : List Int) (hat : ∀ i, i < ps.length → at_ i = (i : Int)) (h : out.length = ps.length) (i : Nat) (hi : i < ps.length) : (ps.take i ++ out.drop i).set (at_ i).toNat (ps.getD i 0) = ps.take (i + 1) ++ out.drop (i + 1) := by
  rw [hat i hi, Int.toNat_natCast, take_getD ps i hi 0]
  exact (app_at (ps.take i) out i (by rw [List.length_take]; omega) (by omega)).2.2 _
theorem idxs_get (n i : Nat) (h : i < n) : (idxs n).getD i 0 = (i : Int) := by
  unfold idxs
  rw [List.getD_eq_getElem?_getD, List.getElem?_map, List.getElem?_range h]
  rfl
theorem idxs_take (n i : Nat) (h : i ≤ n) : (idxs n).take i = idxs i := by
  unfold idxs
  rw [← List.map_take, List.take_range, Nat.min_eq_left h]
/-- What the estate keeps to. -/
structure Est (T : Int) (l : List Int) : Prop where
  t0 : 0 ≤ T
  t1 : T ≤ 1000000000
  tot : total l ≤ 1000000000
  len : l.length ≤ 20
  bd : ∀ x ∈ l, 0 ≤ x ∧ x ≤ 1000000000
theorem Est.dist_ {T : Int} {l : List Int} (h : Est T l) : (dist T l).length = l.length ∧ ∀ x ∈ dist T l, 0 ≤ x ∧ x ≤ 1000000000 := by
  unfold dist
  split
  · rename_i c
    exact (Dues.mk h.t0 c h.tot h.len h.bd).parts_
  · exact ⟨rfl, h.bd⟩
theorem Est.idle {T : Int} {l : List Int} (h : Est T l) (h0 : total l = 0) : dist T l = List.replicate l.length 0 := by
  unfold dist
  rw [if_neg (by have := h.t0; omega)]
  have hz := total_ge l (fun x hx => (h.bd x hx).1)
  refine List.eq_replicate_iff.2 ⟨rfl, fun x hx => ?_⟩
  have := hz.2 x hx
  have := h.bd x hx
  omega
theorem Est.zero {l : List Int} (h : Est 0 l) : dist 0 l = List.replicate l.length 0 := by
  have hz := (total_ge l (fun x hx => (h.bd x hx).1)).1
  by_cases c : 0 < total l
  · unfold dist
    rw [if_pos c]
    exact (Dues.mk h.t0 c h.tot h.len h.bd).zero
  · exact h.idle (by omega)
theorem specRank_ev {T : Int} {l : List Int} (h : Est T l) : Ev (fun k => spec_l18Rank.f k (trs l) 1 T (List.replicate l.length 0)) (T - min T (total l), dist T l) := by
  have hlen := h.len
  have hb := total_bd' l (fun i hi => h.bd _ (getD_mem l i hi 0))
  have hz := (total_ge l (fun x hx => (h.bd x hx).1)).1
  unfold spec_l18Rank.f
  have fin : ∀ ps : List Int, ps.length = l.length → Ev (fun k => spec_l18Rank.j1 k T (List.replicate l.length 0) (idxs l.length) (total l) ps) (T - min T (total l), ps) := by
    intro ps hp
    refine Ev.step (f := fun k => spec_l18Rank.l1 k T (List.replicate l.length 0) (idxs l.length) (total l) ps 0) (fun k => by simp only [spec_l18Rank.j1]) ?_
    have key : ∀ i, i ≤ l.length → Ev (fun k => spec_l18Rank.l1 k T (ps.take i ++ (List.replicate l.length 0).drop i) (idxs l.length) (total l) ps (i : Int)) (T - min T (total l), ps) := by
      refine down l.length ?_ (fun i hi ih => ?_)
      · refine Ev.step (f := fun _ => some (T - min T (total l), ps)) (fun k => ?_) (Ev.now _)
        have := h.t0
        have := h.t1
        have := h.tot
        simp only [spec_l18Rank.l1]
        rw [idxs_len, if_neg (by omega), least_eq, Option.bind_some, w64 (by omega) (by omega), List.take_of_length_le (by omega), List.drop_of_length_le (by simp), List.append_nil]
      · refine Ev.step (fun k => ?_) ih
        have e := puts_all (fun i => rd (idxs l.length) (i : Int)) (List.replicate l.length 0) ps (fun i hi => by rw [rd_nat]; exact idxs_get _ _ (by omega)) (by simp [hp]) i (by omega)
        have e1 : rd (idxs l.length) (i : Int) = (i : Int) := by rw [rd_nat]; exact idxs_get _ _ hi
        simp only [spec_l18Rank.l1]
        rw [idxs_len, if_pos (by omega), if_pos (by omega), if_pos (by omega), e1, if_pos (by omega), if_pos (by simp; omega), w64s (by omega)]
        rw [e1] at e
        rw [rd_nat, e]
    have := key 0 (Nat.zero_le _)
    simpa using this
  have key : ∀ i, i ≤ l.length → Ev (fun k => spec_l18Rank.l0 k (trs l) 1 T (List.replicate l.length 0) (idxs i) (l.take i) (total (l.take i)) (i : Int)) (T - min T (total l), dist T l) := by
    refine down l.length ?_ (fun i hi ih => ?_)
    · by_cases c0 : total l = 0
      · rw [c0, h.idle c0, show T - min T 0 = T by have := h.t0; omega]
        refine Ev.step (f := fun _ => some (T, List.replicate l.length 0)) (fun k => ?_) (Ev.now _)
        simp only [spec_l18Rank.l0]
        rw [trs_len, if_neg (by omega), List.take_length, if_pos c0]
      · unfold dist
        by_cases c : T < total l
        · rw [if_pos c]
          have hd := Dues.mk h.t0 c h.tot h.len h.bd
          refine Ev.step (f := fun k => (spec_l18Divide.f k l T).bind fun t => spec_l18Rank.j1 k T (List.replicate l.length 0) (idxs l.length) (total l) t) (fun k => ?_) (Ev.bind hd.spec (fin _ hd.parts_.1))
          simp only [spec_l18Rank.l0]
          rw [trs_len, if_neg (by omega), List.take_length, if_neg c0, if_pos c]
        · rw [if_neg c]
          refine Ev.step (fun k => ?_) (fin l rfl)
          simp only [spec_l18Rank.l0]
          rw [trs_len, if_neg (by omega), List.take_length, if_neg c0, if_neg c]
    · have h2 := hb (i + 1) (by omega)
      have htt := take_total l i hi
      refine Ev.step (fun k => ?_) ih
      simp only [spec_l18Rank.l0]
      rw [trs_len, if_pos (by omega), if_pos (by omega), trs_f0 l i hi, trs_f1 l i hi, if_pos rfl, if_pos (by rw [idxs_len]; omega), if_pos (by rw [List.length_take]; omega), ← htt, w64 (x := total (l.take (i + 1))) (by omega) (by omega), w64s (by omega), idxs_succ, take_getD l i hi 0]
  have := key 0 (Nat.zero_le _)
  simpa [total, idxs] using this
theorem specIdle_ev (l : List Int) (hl : l.length ≤ 20) (r T : Int) (hr : ¬ (1 : Int) = r) (out : List Int) : Ev (fun k => spec_l18Rank.f k (trs l) r T out) (T, out) := by
  unfold spec_l18Rank.f
  have key : ∀ i, i ≤ l.length → Ev (fun k => spec_l18Rank.l0 k (trs l) r T out [] [] 0 (i : Int)) (T, out) := by
    refine down l.length ?_ (fun i hi ih => ?_)
    · refine Ev.step (f := fun _ => some (T, out)) (fun k => ?_) (Ev.now _)
      simp only [spec_l18Rank.l0]
      rw [trs_len, if_neg (by omega), if_pos trivial]
    · refine Ev.step (fun k => ?_) ih
      simp only [spec_l18Rank.l0]
      rw [trs_len, if_pos (by omega), if_pos (by omega), trs_f0 l i hi, if_neg hr, w64s (by omega)]
  exact key 0 (Nat.zero_le _)
theorem specDist_ev (T : Int) (l : List Int) (hl : l.length ≤ 1048576) : ∃ m, Ev (fun k => spec_DistributeCash.f k (trs l) T) (if (good l && (decide (0 ≤ T) && decide (T ≤ 1000000000))) = true then (dist T l, m, true) else ([], 0, false)) := by
  refine ⟨T - min T (total l), ?_⟩
  unfold spec_DistributeCash.f
  refine Ev.bind (specGood_ev l hl) ?_
  cases hg : good l with
  | false => exact Ev.step (f := fun _ => some ([], 0, false)) (fun k => by simp only [spec_DistributeCash.j0]; rfl) (Ev.now _)
  | true =>
    simp only [if_true, Bool.true_and]
    rw [l1In_eq]
    simp only [Option.bind_some]
    cases ht : (decide (0 ≤ T) && decide (T ≤ 1000000000)) with
    | false => exact Ev.step (f := fun _ => some ([], 0, false)) (fun k => by simp only [spec_DistributeCash.j0]; rfl) (Ev.now _)
    | true =>
      have hT : 0 ≤ T ∧ T ≤ 1000000000 := by simpa using ht
      unfold good at hg
      rw [Bool.and_eq_true, Bool.and_eq_true, decide_eq_true_eq, decide_eq_true_eq, List.all_eq_true] at hg
      have h : Est T l := ⟨hT.1, hT.2, hg.2, hg.1.1, fun x hx => okd_iff.1 (hg.1.2 x hx)⟩
      have hlen := h.len
      refine Ev.step (f := fun k => spec_DistributeCash.l0 k (trs l) T (List.replicate l.length 0) 1) (fun k => ?_) ?_
      · simp only [spec_DistributeCash.j0]
        rw [trs_len, Bool.not_true, if_neg (by simp), if_pos (by omega), if_pos (by omega), Int.toNat_natCast]
      · have rest : ∀ i : Nat, i ≤ 11 → 2 ≤ i → Ev (fun k => spec_DistributeCash.l0 k (trs l) (T - min T (total l)) (dist T l) (i : Int)) (dist T l, T - min T (total l), true) := by
          refine down 11 ?_ (fun i hi ih => ?_)
          · intro _
            refine Ev.step (f := fun _ => some (dist T l, T - min T (total l), true)) (fun k => ?_) (Ev.now _)
            simp only [spec_DistributeCash.l0]
            rw [if_neg (by omega)]
          · intro h2
            refine Ev.step (f := fun k => (spec_l18Rank.f k (trs l) (i : Int) (T - min T (total l)) (dist T l)).bind fun t => spec_DistributeCash.l0 k (trs l) t.1 t.2 ((i + 1 : Nat) : Int)) (fun k => ?_) (Ev.bind (specIdle_ev l hlen _ _ (by omega) _) (ih (by omega)))
            simp only [spec_DistributeCash.l0]
            rw [if_pos (by omega), w64s (by omega)]
        refine Ev.step (f := fun k => (spec_l18Rank.f k (trs l) 1 T (List.replicate l.length 0)).bind fun t => spec_DistributeCash.l0 k (trs l) t.1 t.2 2) (fun k => ?_) (Ev.bind (specRank_ev h) (rest 2 (by omega) (by omega)))
        simp only [spec_DistributeCash.l0]
        rw [if_pos (by omega), show wrap64 (1 + 1) = 2 from w64 (by omega) (by omega)]
def estate (T : Int) (l : List Int) : List Int × Bool := if (good l && (decide (0 ≤ T) && decide (T ≤ 1000000000))) = true then (dist T l, true) else ([], false)
theorem spec_ev (T : Int) (l : List Int) (hl : l.length ≤ 1048576) : Ev (fun k => spec_EstateDividend.f k T l) (estate T l) := by
  unfold spec_EstateDividend.f
  have key : ∀ i, i ≤ l.length → Ev (fun k => spec_EstateDividend.l0 k T l (trs (l.take i)) (i : Int)) (estate T l) := by
    refine down l.length ?_ (fun i hi ih => ?_)
    · obtain ⟨m, hm⟩ := specDist_ev T l hl
      refine Ev.step (f := fun k => (spec_DistributeCash.f k (trs l) T).bind fun t => some (t.1, t.2.2)) (fun k => ?_) (Ev.bind hm ?_)
      · simp only [spec_EstateDividend.l0]
        rw [if_neg (by omega), List.take_length]
      · unfold estate
        split
        · exact Ev.now _
        · exact Ev.now _
    · refine Ev.step (fun k => ?_) ih
      simp only [spec_EstateDividend.l0]
      rw [if_pos (by omega), if_pos (by omega), if_pos (by rw [trs_len, List.length_take]; omega), w64s (by omega), take_getD l i hi 0, rd_nat]
      simp [trs]
  have := key 0 (Nat.zero_le _)
  simpa [trs] using this
def ten : List Int := [1, 2, 3, 4, 5, 6, 7, 8, 9, 10]
theorem ten_take : ∀ i : Nat, i < 10 → ten.take (i + 1) = ten.take i ++ [((i + 1 : Nat) : Int)] := by decide
theorem ranks_ev : Ev (fun k => impl_ranksUp.f k) ten := by
  unfold impl_ranksUp.f
  have key : ∀ i : Nat, i ≤ 10 → Ev (fun k => impl_ranksUp.l0 k (ten.take i) ((i + 1 : Nat) : Int)) ten := by
    refine down 10 ?_ (fun i hi ih => ?_)
    · refine Ev.step (f := fun _ => some ten) (fun k => ?_) (Ev.now _)
      simp only [impl_ranksUp.l0]
      rw [if_neg (by omega)]
      rfl
    · refine Ev.step (fun k => ?_) ih
      simp only [impl_ranksUp.l0]
      rw [if_pos (by omega), if_pos (by rw [List.length_take]; omega), w64s (by omega), ten_take i hi]
  exact key 0 (Nat.zero_le _)
theorem ten_get : ∀ i : Nat, i < 10 → rd ten (i : Int) = ((i + 1 : Nat) : Int) := by decide
theorem implRest_ev (l : List Int) (hl : l.length ≤ 20) : ∀ i : Nat, i ≤ 10 → 1 ≤ i → ∀ (T : Int) (out : List Int), Ev (fun k => impl_servedBy.l0 k (trs l) T out ten 10 (i : Int)) (out, T) := by
  refine down 10 ?_ (fun i hi ih => ?_)
  · intro _ T out
    refine Ev.step (f := fun _ => some (out, T)) (fun k => ?_) (Ev.now _)
    simp only [impl_servedBy.l0]
    rw [if_neg (by omega)]
  · intro h1 T out
    have hr := ten_get i hi
    have key : ∀ j, j ≤ l.length → Ev (fun k => impl_servedBy.l1 k (trs l) T out ((i + 1 : Nat) : Int) [] [] ten 10 (i : Int) (trs l) (l.length : Int) (j : Int)) (out, T) := by
      refine down l.length ?_ (fun j hj ihj => ?_)
      · refine Ev.step (f := fun k => impl_servedBy.j2 k (trs l) T out [] [] ten 10 (i : Int) true) (fun k => ?_) (Ev.step (fun k => ?_) (ih (by omega) T out))
        · simp only [impl_servedBy.l1]
          rw [if_neg (by omega), if_pos (by simp)]
        · simp only [impl_servedBy.j2]
          rw [if_pos trivial, w64s (by omega)]
      · refine Ev.step (fun k => ?_) ihj
        simp only [impl_servedBy.l1]
        rw [if_pos (by omega), if_pos (by omega), if_pos (by rw [trs_len]; omega), trs_f0 l j hj, if_neg (by omega), w64s (by omega)]
    refine Ev.step (fun k => ?_) (key 0 (Nat.zero_le _))
    simp only [impl_servedBy.l0]
    rw [if_pos (by omega), if_pos (by omega), if_pos (by show (i : Int) < ((10 : Nat) : Int); omega), hr, trs_len]
    rfl
theorem implServed_ev {T : Int} {l : List Int} (h : Est T l) : ∃ m, Ev (fun k => impl_servedBy.f k (trs l) T ten) (dist T l, m) := by
  have hlen := h.len
  have hb20 : ∀ x ∈ l, -1000000000 ≤ x ∧ x ≤ 1000000000 := fun x hx => by have := h.bd x hx; omega
  have rest : ∀ (T' : Int) (out : List Int), Ev (fun k => impl_servedBy.l0 k (trs l) T' out ten 10 1) (out, T') := fun T' out => implRest_ev l hlen 1 (by omega) (by omega) T' out
  have fin : ∀ ps : List Int, ps.length = l.length → (∀ x ∈ ps, 0 ≤ x ∧ x ≤ 1000000000) → ∃ m, Ev (fun k => impl_servedBy.j3 k (trs l) T (List.replicate l.length 0) (idxs l.length) ps ten 10 0) (ps, m) := by
    intro ps hp hpb
    refine ⟨wrap64 (T - total ps), ?_⟩
    refine Ev.step (f := fun k => impl_servedBy.l2 k (trs l) T (List.replicate l.length 0) ps ten 10 0 (idxs l.length) (l.length : Int) 0) (fun k => by simp only [impl_servedBy.j3]; rw [idxs_len]) ?_
    have key : ∀ i, i ≤ l.length → Ev (fun k => impl_servedBy.l2 k (trs l) T (ps.take i ++ (List.replicate l.length 0).drop i) ps ten 10 0 (idxs l.length) (l.length : Int) (i : Int)) (ps, wrap64 (T - total ps)) := by
      refine down l.length ?_ (fun i hi ih => ?_)
      · refine Ev.step (f := fun k => (impl_sumOf.f k ps).bind fun t => impl_servedBy.l0 k (trs l) (wrap64 (T - t)) ps ten 10 1) (fun k => ?_) (Ev.bind (sum_both ps (by omega) (fun x hx => by have := hpb x hx; omega)).2 (rest _ _))
        simp only [impl_servedBy.l2]
        rw [if_neg (by omega), List.take_of_length_le (by omega), List.drop_of_length_le (by simp), List.append_nil, w01]
      · refine Ev.step (fun k => ?_) ih
        have e := puts_all (fun i => rd (idxs l.length) (i : Int)) (List.replicate l.length 0) ps (fun i hi => by rw [rd_nat]; exact idxs_get _ _ (by omega)) (by simp [hp]) i (by omega)
        have e1 : rd (idxs l.length) (i : Int) = (i : Int) := by rw [rd_nat]; exact idxs_get _ _ hi
        simp only [impl_servedBy.l2]
        rw [if_pos (by omega), if_pos (by omega), if_pos (by rw [idxs_len]; omega), if_pos (by omega), e1, if_pos (by omega), if_pos (by simp; omega), w64s (by omega)]
        rw [e1] at e
        rw [rd_nat, e]
    have := key 0 (Nat.zero_le _)
    simpa using this
  have skip : ∀ (own ds : List Int), List.replicate l.length 0 = dist T l → Ev (fun k => impl_servedBy.j2 k (trs l) T (List.replicate l.length 0) own ds ten 10 0 true) (dist T l, T) := by
    intro own ds he
    rw [← he]
    refine Ev.step (fun k => ?_) (rest T _)
    simp only [impl_servedBy.j2]
    rw [if_pos trivial, w01]
  have behind : ∃ m, Ev (fun k => if ((idxs l.length).length : Int) = 0 then impl_servedBy.j2 k (trs l) T (List.replicate l.length 0) (idxs l.length) l ten 10 0 true else impl_servedBy.j2 k (trs l) T (List.replicate l.length 0) (idxs l.length) l ten 10 0 (T == 0)) (dist T l, m) := by
    rw [idxs_len]
    by_cases c0 : (l.length : Int) = 0
    · refine ⟨T, ?_⟩
      simp only [if_pos c0]
      have : l = [] := List.eq_nil_of_length_eq_zero (by omega)
      subst this
      exact skip _ _ (h.idle (by simp [total])).symm
    · simp only [if_neg c0]
      by_cases cT : T = 0
      · subst cT
        exact ⟨0, skip _ _ h.zero.symm⟩
      · rw [beq_eq_false_iff_ne.mpr cT]
        have step : ∀ k, impl_servedBy.j2 (k + 1) (trs l) T (List.replicate l.length 0) (idxs l.length) l ten 10 0 false = (impl_sumOf.f k l).bind fun t => if T < t then (impl_divided.f k T l).bind fun t2 => impl_servedBy.j3 k (trs l) T (List.replicate l.length 0) (idxs l.length) t2 ten 10 0 else impl_servedBy.j3 k (trs l) T (List.replicate l.length 0) (idxs l.length) l ten 10 0 := fun k => by
          simp only [impl_servedBy.j2]
          rw [if_neg (by simp)]
        by_cases c : T < total l
        · have hd := Dues.mk h.t0 c h.tot h.len h.bd
          obtain ⟨m, hm⟩ := fin _ hd.parts_.1 hd.parts_.2
          refine ⟨m, Ev.step step (Ev.bind (sum_both l hlen hb20).2 ?_)⟩
          unfold dist
          simp only [if_pos c]
          exact Ev.bind hd.impl hm
        · obtain ⟨m, hm⟩ := fin l rfl h.bd
          refine ⟨m, Ev.step step (Ev.bind (sum_both l hlen hb20).2 ?_)⟩
          unfold dist
          simp only [if_neg c]
          exact hm
  obtain ⟨m, hm⟩ := behind
  refine ⟨m, ?_⟩
  unfold impl_servedBy.f
  have key : ∀ i, i ≤ l.length → Ev (fun k => impl_servedBy.l1 k (trs l) T (List.replicate l.length 0) 1 (idxs i) (l.take i) ten 10 0 (trs l) (l.length : Int) (i : Int)) (dist T l, m) := by
    refine down l.length ?_ (fun i hi ih => ?_)
    · refine Ev.step (fun k => ?_) hm
      simp only [impl_servedBy.l1]
      rw [if_neg (by omega), List.take_length]
    · refine Ev.step (fun k => ?_) ih
      simp only [impl_servedBy.l1]
      rw [if_pos (by omega), if_pos (by omega), if_pos (by rw [trs_len]; omega), trs_f0 l i hi, trs_f1 l i hi, if_pos rfl, if_pos (by rw [idxs_len]; omega), if_pos (by rw [List.length_take]; omega), w64s (by omega), idxs_succ, take_getD l i hi 0]
  refine Ev.congr (f := fun k => impl_servedBy.l0 k (trs l) T (List.replicate l.length 0) ten 10 0) (fun k => ?_) (Ev.step (fun k => ?_) (key 0 (Nat.zero_le _)))
  · rw [trs_len, if_pos (by omega), if_pos (by omega), Int.toNat_natCast]
    rfl
  · simp only [impl_servedBy.l0]
    rw [if_pos (by omega), if_pos (by omega), if_pos (by show (0 : Int) < ((10 : Nat) : Int); omega), trs_len]
    rfl
theorem implDist_ev (T : Int) (l : List Int) (hs : sums l = true) : ∃ m, Ev (fun k => impl_DistributeCash.f k (trs l) T) (if (good l && (decide (0 ≤ T) && decide (T ≤ 1000000000))) = true then (dist T l, m, true) else ([], 0, false)) := by
  unfold impl_DistributeCash.f
  have hgs := good_sums l
  rw [hs, Bool.true_and] at hgs
  have hok : Ev (fun k => impl_IsValidTranches.f k (trs l)) (good l) := by rw [hgs]; exact implGood_ev l hs
  by_cases hg : good l = true
  · by_cases ht : (decide (0 ≤ T) && decide (T ≤ 1000000000)) = true
    · have hT : 0 ≤ T ∧ T ≤ 1000000000 := by simpa using ht
      rw [hgs, decide_eq_true_eq] at hg
      have h : Est T l := ⟨hT.1, hT.2, hg, sums_len hs, sums_mem hs⟩
      obtain ⟨m, hm⟩ := implServed_ev h
      refine ⟨m, Ev.bind hok ?_⟩
      rw [hgs, decide_eq_true hg, ht]
      simp only [if_true, Bool.and_self]
      rw [within_eq, ht]
      simp only [Option.bind_some]
      refine Ev.step (f := fun k => (impl_ranksUp.f k).bind fun t => (impl_servedBy.f k (trs l) T t).bind fun b => some (b.1, b.2, true)) (fun k => by simp only [impl_DistributeCash.j0]; rfl) (Ev.bind ranks_ev (Ev.bind hm (Ev.now _)))
    · refine ⟨0, Ev.bind hok ?_⟩
      rw [hg, Bool.true_and]
      simp only [if_true, if_neg ht]
      rw [within_eq]
      simp only [Option.bind_some]
      rw [Bool.not_eq_true] at ht
      rw [ht]
      exact Ev.step (f := fun _ => some ([], 0, false)) (fun k => by simp only [impl_DistributeCash.j0]; rfl) (Ev.now _)
  · refine ⟨0, Ev.bind hok ?_⟩
    rw [Bool.not_eq_true] at hg
    rw [hg, Bool.false_and]
    exact Ev.step (f := fun _ => some ([], 0, false)) (fun k => by simp only [impl_DistributeCash.j0]; rfl) (Ev.now _)
theorem impl_ev (T : Int) (l : List Int) (hl : l.length ≤ 1048576) : Ev (fun k => impl_EstateDividend.f k T l) (estate T l) := by
  unfold impl_EstateDividend.f
  rw [areSums_eq]
  simp only [Option.bind_some]
  cases hs : sums l with
  | false =>
    unfold estate
    rw [good_sums, hs, Bool.false_and, Bool.false_and]
    exact Ev.now _
  | true =>
    simp only [if_true]
    have key : ∀ i, i ≤ l.length → Ev (fun k => impl_EstateDividend.l0 k T (trs (l.take i)) l (l.length : Int) (i : Int)) (estate T l) := by
      refine down l.length ?_ (fun i hi ih => ?_)
      · obtain ⟨m, hm⟩ := implDist_ev T l hs
        refine Ev.step (f := fun k => (impl_DistributeCash.f k (trs l) T).bind fun t => some (t.1, t.2.2)) (fun k => ?_) (Ev.bind hm ?_)
        · simp only [impl_EstateDividend.l0]
          rw [if_neg (by omega), List.take_length]
        · unfold estate
          split
          · exact Ev.now _
          · exact Ev.now _
      · refine Ev.step (fun k => ?_) ih
        simp only [impl_EstateDividend.l0]
        rw [if_pos (by omega), if_pos (by omega), if_pos (by omega), if_pos (by rw [trs_len, List.length_take]; omega), w64s (by omega), take_getD l i hi 0, rd_nat]
        simp [trs]
    have := key 0 (Nat.zero_le _)
    simpa [trs] using this
theorem estate_len (T : Int) (l : List Int) : (estate T l).1.length ≤ 20 := by
  unfold estate
  split
  · rename_i hg
    rw [Bool.and_eq_true] at hg
    obtain ⟨h1, h2⟩ := hg
    have hT : 0 ≤ T ∧ T ≤ 1000000000 := by simpa using h2
    unfold good at h1
    rw [Bool.and_eq_true, Bool.and_eq_true, decide_eq_true_eq, decide_eq_true_eq, List.all_eq_true] at h1
    have h : Est T l := ⟨hT.1, hT.2, h1.2, h1.1.1, fun x hx => okd_iff.1 (h1.1.2 x hx)⟩
    have := h.dist_.1
    have := h.len
    dsimp only
    omega
  · simp

theorem whole (T : Int) (c : List Int) : Ev (fun k => laws_FnExactEstateDividend.f k T c) true := by
  unfold laws_FnExactEstateDividend.f
  by_cases hc : (c.length : Int) > 1048576
  · simp only [if_pos hc]
    exact Ev.now _
  simp only [if_neg hc]
  have hS := spec_ev T c (by omega)
  have hI := impl_ev T c (by omega)
  have hl := estate_len T c
  generalize estate T c = r at hS hI hl
  obtain ⟨p, b⟩ := r
  dsimp only at hl
  refine Ev.bind (toI_ev c (by omega)) (Ev.bind hS (Ev.bind (toI_ev c (by omega)) (Ev.bind hI ?_)))
  refine Ev.bind (eqI_ev p (by omega)) ?_
  simp only [if_true, bne_self_eq_false]
  refine Ev.step (fun k => by simp only [laws_FnExactEstateDividend.j0]; rfl) ?_
  simp only [Bool.false_eq_true, if_false]
  refine Ev.bind (toI_ev c (by omega)) (Ev.bind (eqI_ev c (by omega)) ?_)
  simp only [if_true]
  refine Ev.bind (markI_ev c 1 (by omega) (by omega) (by omega)) ?_
  simp only [if_neg (show ¬ (1 + (c.length : Int) < 0) by omega)]
  refine Ev.bind (eqI_ev p (by omega)) ?_
  simp only [if_true, bne_self_eq_false]
  refine Ev.step (fun k => by simp only [laws_FnExactEstateDividend.j1]; rfl) ?_
  simp only [Bool.false_eq_true, if_false]
  refine Ev.bind (markI_ev p 1 (by omega) (by omega) (by omega)) (Ev.bind (heldI_ev p.length 1 (by omega) (by omega) (by omega)) ?_)
  simp only [if_neg (show ¬ (1 + (p.length : Int) < 0) by omega), if_true]
  refine Ev.bind (toI_ev c (by omega)) (Ev.bind hI ?_)
  refine Ev.bind (eqI_ev p (by omega)) ?_
  simp only [if_true, bne_self_eq_false]
  refine Ev.step (fun k => by simp only [laws_FnExactEstateDividend.j2]; rfl) ?_
  simp only [Bool.false_eq_true, if_false]
  refine Ev.bind (heldI_ev p.length 1 (by omega) (by omega) (by omega)) ?_
  simp only [if_neg (show ¬ (1 + (p.length : Int) < 0) by omega), if_true]
  exact Ev.now _
end Go.Proofs.Ytlneimpoholkhaa.PureFnExactEstateDividend
namespace Go.Proofs.Ytlneimpoholkhaa.Pure
theorem FnExactEstateDividend : PFnExactEstateDividend.laws_FnExactEstateDividend.Ask := fun T c _ _ => (PureFnExactEstateDividend.whole T c).rounds
end Go.Proofs.Ytlneimpoholkhaa.Pure
