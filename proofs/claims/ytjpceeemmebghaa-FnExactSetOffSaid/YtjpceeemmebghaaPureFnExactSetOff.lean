/-
The plain law behind FnExactSetOff: the printed functions of the program and of the reference give the same values, so the law answers true. No condition.
-/
import Derived.Test.YtjpceeemmebghaaAskFnExactSetOff
import Derived.Test.YtjpceeemmebghaaBase
namespace Go.Proofs.Ytjpceeemmebghaa.PureFnExactSetOff
open Go.RowKit Go.Proofs.Ytjpceeemmebghaa.PFnExactSetOff Go.Proofs.YtjpceeemmebghaaOpen Go.Proofs.YtjpceeemmebghaaBase Go.Proofs.YtjpceeemmebghaaW.PrintWords Go.Proofs.YtjpceeemmebghaaW.PrintLast Go.Proofs.YtjpceeemmebghaaW.PrintMore

theorem toI_ev (s : List Int) (hs : s.length ≤ 1048576) : Ev (fun k => laws_toIntS.f k s) s := by
  unfold laws_toIntS.f
  refine Ev.congr (f := fun k => laws_toIntS.l0 k s (List.replicate s.length 0) 0) (fun k => by rw [if_pos (by omega), if_pos (by omega)]; rfl) ?_
  have := copy_loop (fun x : Int => x) 0 0 s (fun k y i => laws_toIntS.l0 k s y i) ?_ ?_
  · rw [List.map_id'] at this; exact this
  · intro k i y hi hy
    simp only [laws_toIntS.l0]
    rw [if_pos (by omega), if_pos (by omega), if_pos (by omega), w64s (by omega)]
    rfl
  · intro k y hy
    simp only [laws_toIntS.l0]
    rw [if_neg (by omega)]

theorem eqI_ev (s : List Int) (hl : s.length ≤ 1048576) : Ev (fun k => laws_eqIntS.f k s s) true := by
  unfold laws_eqIntS.f
  refine Ev.congr (f := fun k => laws_eqIntS.l0 k s s 0) (fun k => by rw [if_pos rfl]) ?_
  refine same_loop s (fun k i => laws_eqIntS.l0 k s s i) (fun i hi ih => ?_) (fun k => by simp only [laws_eqIntS.l0]; rw [if_neg (by omega)])
  refine Ev.step (f := fun k => laws_eqIntS.l0 k s s ((i + 1 : Nat) : Int)) (fun k => ?_) ih
  simp only [laws_eqIntS.l0]
  rw [if_pos (by omega), if_pos (by omega), if_pos (by omega), w64s (by omega)]
  exact if_pos trivial

/-! marks in lists of numbers -/
/-- Numbers from m on. -/
def nums_ (m : Int) (n : Nat) : List Int := (List.range n).map fun (i : Nat) => m + (i : Int)
theorem nums__length (m : Int) (n : Nat) : (nums_ m n).length = n := by simp [nums_]
theorem nums__get (m : Int) (n i : Nat) (h : i < n) : (nums_ m n).getD i 0 = m + (i : Int) := by
  unfold nums_
  rw [List.getD_eq_getElem?_getD, List.getElem?_map, List.getElem?_range h]
  rfl
theorem markI_ev (s : List Int) (m : Int) (h0 : 0 ≤ m) (h1 : m ≤ 4611686018427387904) (hs : s.length ≤ 1048576) : Ev (fun k => laws_markIntS.f k s m) (m + (s.length : Int), nums_ m s.length) := by
  unfold laws_markIntS.f
  have key : ∀ i, i ≤ s.length → Ev (fun k => laws_markIntS.l0 k (nums_ m i ++ s.drop i) (m + (i : Int)) (i : Int)) (m + (s.length : Int), nums_ m s.length) := by
    refine down s.length ?_ (fun i hi ih => ?_)
    · refine Ev.step (f := fun _ => some (m + (s.length : Int), nums_ m s.length)) (fun k => ?_) (Ev.now _)
      simp only [laws_markIntS.l0]
      rw [List.drop_length, List.append_nil, nums__length, if_neg (by omega)]
    · refine Ev.step (fun k => ?_) ih
      simp only [laws_markIntS.l0]
      rw [if_pos (by rw [List.length_append, nums__length, List.length_drop]; omega), if_pos (by omega), w64s (by omega), w64 (by omega) (by omega)]
      have e : (nums_ m i ++ s.drop i).set ((i : Int)).toNat (m + (i : Int)) = nums_ m (i + 1) ++ s.drop (i + 1) := by
        rw [Int.toNat_natCast, List.set_append_right _ _ (by rw [nums__length]; exact Nat.le_refl _), nums__length, Nat.sub_self, drop_getD s i hi 0, List.set_cons_zero]
        simp [nums_, List.range_succ]
      rw [e, show m + (i : Int) + 1 = m + ((i + 1 : Nat) : Int) by omega]
  have := key 0 (Nat.zero_le _)
  simpa [nums_] using this
theorem heldI_ev (n : Nat) (m : Int) (h0 : 0 ≤ m) (h1 : m ≤ 4611686018427387904) (hn : n ≤ 1048576) : Ev (fun k => laws_heldIntS.f k (nums_ m n) m) (m + (n : Int)) := by
  unfold laws_heldIntS.f
  have key : ∀ i, i ≤ n → Ev (fun k => laws_heldIntS.l0 k (nums_ m n) (m + (i : Int)) (i : Int)) (m + (n : Int)) := by
    refine down n ?_ (fun i hi ih => ?_)
    · refine Ev.step (f := fun _ => some (m + (n : Int))) (fun k => ?_) (Ev.now _)
      simp only [laws_heldIntS.l0]
      rw [nums__length, if_neg (by omega)]
    · refine Ev.step (fun k => ?_) ih
      simp only [laws_heldIntS.l0]
      rw [nums__length, if_pos (by omega), if_pos (by omega), rd_nat, nums__get m n i hi, if_pos rfl, w64s (by omega), w64 (by omega) (by omega), show m + (i : Int) + 1 = m + ((i + 1 : Nat) : Int) by omega]
  have := key 0 (Nat.zero_le _)
  simpa using this

/-! amounts -/
def am (x : Int) : Bool := decide (-1000000000 ≤ x) && decide (x ≤ 1000000000)
theorem am_iff {x : Int} : am x = true ↔ -1000000000 ≤ x ∧ x ≤ 1000000000 := by simp [am]
theorem within_eq (x a b : Int) : impl_within.f x a b = some (decide (a ≤ x) && decide (x ≤ b)) := by
  unfold impl_within.f
  by_cases h : x ≥ a
  · rw [if_pos h]; simp [h]
  · rw [if_neg h]; simp [h]
theorem l1In_eq (x a b : Int) : spec_l1In.f x a b = some (decide (a ≤ x) && decide (x ≤ b)) := by
  unfold spec_l1In.f
  by_cases h : x ≥ a
  · rw [if_pos h]; simp [h]
  · rw [if_neg h]; simp [h]
theorem isAmount_eq (x : Int) : impl_isAmount.f x = some (am x) := by unfold impl_isAmount.f; rw [within_eq]; rfl
theorem l2Amount_eq (x : Int) : spec_l2Amount.f x = some (am x) := by unfold spec_l2Amount.f; rw [l1In_eq]; rfl

/-! lists of amounts -/
def ams (l : List Int) : Bool := decide (l.length ≤ 20) && l.all am
theorem areAmounts_eq (l : List Int) : impl_areAmounts.f l = some (ams l) := rfl
theorem ams_len {l : List Int} (h : ams l = true) : l.length ≤ 20 := by
  rw [ams, Bool.and_eq_true, decide_eq_true_eq] at h
  exact h.1
theorem ams_mem {l : List Int} (h : ams l = true) : ∀ x ∈ l, -1000000000 ≤ x ∧ x ≤ 1000000000 := by
  rw [ams, Bool.and_eq_true, List.all_eq_true] at h
  exact fun x hx => am_iff.1 (h.2 x hx)
theorem specAms_loop (l : List Int) (hl : l.length ≤ 1048576) : ∀ i, i ≤ l.length → Ev (fun k => spec_l2Amounts.l0 k l (i : Int)) (decide (l.length ≤ 20) && (l.drop i).all am) := by
  refine down l.length ?_ (fun i hi ih => ?_)
  · rw [List.drop_length]
    refine Ev.step (f := fun k => spec_l2Amounts.j1 k l (l.length : Int) false) (fun k => by simp only [spec_l2Amounts.l0]; rw [if_neg (by omega)]) ?_
    refine Ev.step (f := fun _ => some (decide ((l.length : Int) ≤ 20))) (fun k => by simp only [spec_l2Amounts.j1]; rfl) ?_
    rw [List.all_nil, Bool.and_true, show decide ((l.length : Int) ≤ 20) = decide (l.length ≤ 20) by rw [decide_eq_decide]; omega]
    exact Ev.now _
  · rw [drop_getD l i hi 0, List.all_cons]
    have hx : rd l (i : Int) = l.getD i 0 := rfl
    generalize l.getD i 0 = x at hx ⊢
    by_cases c : (i : Int) ≤ 20
    · refine Ev.step (f := fun k => spec_l2Amounts.j1 k l (i : Int) true) (fun k => by simp only [spec_l2Amounts.l0]; rw [if_pos (by omega), decide_eq_true c]) ?_
      cases ha : am x with
      | true =>
        rw [Bool.true_and]
        refine Ev.step (fun k => ?_) ih
        simp only [spec_l2Amounts.j1]
        rw [if_pos trivial, if_pos (by omega), if_pos (by omega), hx, l2Amount_eq, ha, Option.bind_some, if_pos rfl, w64s (by omega)]
      | false =>
        rw [Bool.false_and, Bool.and_false]
        refine Ev.step (f := fun _ => some false) (fun k => ?_) (Ev.now _)
        simp only [spec_l2Amounts.j1]
        rw [if_pos trivial, if_pos (by omega), if_pos (by omega), hx, l2Amount_eq, ha]
        rfl
    · refine Ev.step (f := fun k => spec_l2Amounts.j1 k l (i : Int) false) (fun k => by simp only [spec_l2Amounts.l0]; rw [if_pos (by omega), decide_eq_false c]) ?_
      refine Ev.step (f := fun _ => some (decide ((l.length : Int) ≤ 20))) (fun k => by simp only [spec_l2Amounts.j1]; rfl) ?_
      have : decide (l.length ≤ 20) = false := by simp; omega
      rw [show decide ((l.length : Int) ≤ 20) = decide (l.length ≤ 20) by rw [decide_eq_decide]; omega, this, Bool.false_and]
      exact Ev.now _
theorem specAms_ev (l : List Int) (hl : l.length ≤ 1048576) : Ev (fun k => spec_l2Amounts.f k l) (ams l) := specAms_loop l hl 0 (Nat.zero_le _)

/-! lists of amounts that are not negative -/
def sums (l : List Int) : Bool := ams l && l.all (fun x => decide (0 ≤ x))
theorem areSums_eq (l : List Int) : impl_areSums.f l = some (sums l) := rfl
theorem sums_len {l : List Int} (h : sums l = true) : l.length ≤ 20 := by
  rw [sums, Bool.and_eq_true] at h
  exact ams_len h.1
theorem sums_mem {l : List Int} (h : sums l = true) : ∀ x ∈ l, 0 ≤ x ∧ x ≤ 1000000000 := by
  rw [sums, Bool.and_eq_true, List.all_eq_true] at h
  exact fun x hx => ⟨of_decide_eq_true (h.2 x hx), (ams_mem h.1 x hx).2⟩
theorem specSums_loop (l : List Int) (hl : l.length ≤ 1048576) : ∀ i, i ≤ l.length → Ev (fun k => spec_l19List.l0 k l (i : Int)) (ams l && (l.drop i).all (fun x => decide (0 ≤ x))) := by
  refine down l.length ?_ (fun i hi ih => ?_)
  · rw [List.drop_length, List.all_nil, Bool.and_true]
    refine Ev.step (f := fun k => (spec_l2Amounts.f k l).bind fun t => some t) (fun k => by simp only [spec_l19List.l0]; rw [if_neg (by omega)]) ?_
    exact Ev.bind (specAms_ev l hl) (Ev.now _)
  · rw [drop_getD l i hi 0, List.all_cons]
    have hx : rd l (i : Int) = l.getD i 0 := rfl
    generalize l.getD i 0 = x at hx ⊢
    by_cases c : x < 0
    · have : decide (0 ≤ x) = false := by simpa using c
      rw [this, Bool.false_and, Bool.and_false]
      refine Ev.step (f := fun _ => some false) (fun k => ?_) (Ev.now _)
      simp only [spec_l19List.l0]
      rw [if_pos (by omega), if_pos (by omega), hx, if_pos c]
    · have : decide (0 ≤ x) = true := by simpa using c
      rw [this, Bool.true_and]
      refine Ev.step (fun k => ?_) ih
      simp only [spec_l19List.l0]
      rw [if_pos (by omega), if_pos (by omega), hx, if_neg c, w64s (by omega)]
theorem specSums_ev (l : List Int) (hl : l.length ≤ 1048576) : Ev (fun k => spec_l19List.f k l) (sums l) := specSums_loop l hl 0 (Nat.zero_le _)

/-! set-off -/
theorem clone_ev (l : List Int) (hl : l.length ≤ 1048576) : slices_Clone_int_int.f l = some l := by
  unfold slices_Clone_int_int.f
  rw [if_pos (by omega)]
theorem own_ev (l : List Int) (hl : l.length ≤ 1048576) : spec_l1Own.f l = some l := by
  unfold spec_l1Own.f
  rw [Option.bind_some, if_pos (by simp; omega), List.nil_append]
/-- A list reduced by as much of a sum as possible, and what is left of the sum. -/
def red : Int → List Int → List Int × Int
  | s, [] => ([], s)
  | s, x :: xs => ((x - min x s) :: (red (s - min x s) xs).1, (red (s - min x s) xs).2)
theorem red_len : ∀ (l : List Int) (s : Int), (red s l).1.length = l.length
  | [], s => rfl
  | x :: xs, s => by rw [red, List.length_cons, red_len xs, List.length_cons]
theorem red_left : ∀ (l : List Int) (s : Int), 0 ≤ s → (∀ x ∈ l, 0 ≤ x ∧ x ≤ 1000000000) → 0 ≤ (red s l).2 ∧ (red s l).2 ≤ s
  | [], s, h, _ => ⟨h, Int.le_refl _⟩
  | x :: xs, s, h, hl => by
    have hx := hl x List.mem_cons_self
    have := red_left xs (s - min x s) (by omega) (fun y hy => hl y (List.mem_cons_of_mem _ hy))
    rw [red]
    dsimp only
    omega
theorem red_zero : ∀ (l : List Int), (∀ x ∈ l, 0 ≤ x ∧ x ≤ 1000000000) → red 0 l = (l, 0)
  | [], _ => rfl
  | x :: xs, hl => by
    have hx := hl x List.mem_cons_self
    have e : min x 0 = 0 := by omega
    rw [red, e, Int.sub_zero, Int.sub_zero, red_zero xs (fun y hy => hl y (List.mem_cons_of_mem _ hy))]
theorem use_loop (l : List Int) (hl : l.length ≤ 20) (hm : ∀ x ∈ l, 0 ≤ x ∧ x ≤ 1000000000) : ∀ i, i ≤ l.length → ∀ (s : Int) (acc : List Int), 0 ≤ s → s ≤ 1000000000 → acc.length = i → Ev (fun k => spec_l19Use.l0 k s l acc (i : Int)) ((red s (l.drop i)).2, acc ++ (red s (l.drop i)).1) := by
  refine down l.length ?_ (fun i hi ih => ?_)
  · intro s acc _ _ _
    rw [List.drop_length]
    refine Ev.step (f := fun _ => some (s, acc)) (fun k => by simp only [spec_l19Use.l0]; rw [if_neg (by omega)]) ?_
    rw [red, List.append_nil]
    exact Ev.now _
  · intro s acc h0 h1 hacc
    rw [drop_getD l i hi 0]
    have hx : rd l (i : Int) = l.getD i 0 := rfl
    have ha := hm _ (getD_mem l i hi 0)
    generalize l.getD i 0 = x at hx ha ⊢
    have := ih (s - min x s) (acc ++ [x - min x s]) (by omega) (by omega) (by simp [hacc])
    rw [red]
    dsimp only
    rw [List.append_assoc, List.singleton_append] at this
    refine Ev.step (fun k => ?_) this
    simp only [spec_l19Use.l0]
    have e : spec_l1Least.f s x = some (min x s) := by
      unfold spec_l1Least.f
      by_cases c : s < x
      · rw [if_pos c]; congr 1; omega
      · rw [if_neg c]; congr 1; omega
    rw [if_pos (by omega), if_pos (by omega), hx, e, Option.bind_some, if_pos (by omega), w64 (by omega) (by omega), w64 (by omega) (by omega), w64s (by omega)]
theorem use_ev (l : List Int) (s : Int) (h : sums l = true) (h0 : 0 ≤ s) (h1 : s ≤ 1000000000) : Ev (fun k => spec_l19Use.f k s l) ((red s l).2, (red s l).1) := by
  have := use_loop l (sums_len h) (sums_mem h) 0 (Nat.zero_le _) s [] h0 h1 rfl
  rw [List.drop_zero, List.nil_append] at this
  exact this
theorem red_loop (l : List Int) (hl : l.length ≤ 20) (hm : ∀ x ∈ l, 0 ≤ x ∧ x ≤ 1000000000) : ∀ i, i ≤ l.length → ∀ (s : Int) (acc : List Int), 0 ≤ s → s ≤ 1000000000 → acc.length = i → Ev (fun k => impl_reduced.l0 k s (acc ++ l.drop i) (l.length : Int) (i : Int)) (acc ++ (red s (l.drop i)).1, (red s (l.drop i)).2) := by
  refine down l.length ?_ (fun i hi ih => ?_)
  · intro s acc _ _ _
    rw [List.drop_length, List.append_nil]
    refine Ev.step (f := fun _ => some (acc, s)) (fun k => by simp only [impl_reduced.l0]; rw [if_neg (by omega)]) ?_
    rw [red, List.append_nil]
    exact Ev.now _
  · intro s acc h0 h1 hacc
    have hlen : (acc ++ l.drop i).length = l.length := by rw [List.length_append, List.length_drop]; omega
    have hrd : rd (acc ++ l.drop i) (i : Int) = l.getD i 0 := by
      rw [rd_nat, List.getD_eq_getElem?_getD, List.getElem?_append_right (by omega), hacc, Nat.sub_self, List.getElem?_drop, Nat.add_zero, List.getD_eq_getElem?_getD]
    have hset : ∀ y, (acc ++ l.drop i).set i y = (acc ++ [y]) ++ l.drop (i + 1) := fun y => by
      rw [List.set_append_right _ _ (by omega), hacc, Nat.sub_self, drop_getD l i hi 0, List.set_cons_zero]
      simp
    rw [drop_getD l i hi 0] at *
    have ha := hm _ (getD_mem l i hi 0)
    generalize l.getD i 0 = x at hrd ha hset hlen ⊢
    have := ih (s - min x s) (acc ++ [x - min x s]) (by omega) (by omega) (by simp [hacc])
    rw [red]
    dsimp only
    rw [show (acc ++ [x - min x s]) ++ (red (s - min x s) (l.drop (i + 1))).1 = acc ++ (x - min x s) :: (red (s - min x s) (l.drop (i + 1))).1 by simp] at this
    refine Ev.step (fun k => ?_) this
    simp only [impl_reduced.l0]
    have e : mn x s = min x s := by unfold mn; split <;> omega
    rw [if_pos (by omega), if_pos (by omega), if_pos (by rw [hlen]; omega), hrd, e, w64 (by omega) (by omega), w64 (by omega) (by omega), w64s (by omega), Int.toNat_natCast, hset]
theorem red_ev (l : List Int) (s : Int) (h : sums l = true) (h0 : 0 ≤ s) (h1 : s ≤ 1000000000) : Ev (fun k => impl_reduced.f k l s) ((red s l).1, (red s l).2) := by
  unfold impl_reduced.f
  have hl := sums_len h
  rw [clone_ev l (by omega)]
  simp only [Option.bind_some]
  have := red_loop l hl (sums_mem h) 0 (Nat.zero_le _) s [] h0 h1 rfl
  rw [List.drop_zero, List.nil_append, List.nil_append] at this
  exact this
def off (a : Int) (c d : List Int) : Int × List Int × List Int × Bool :=
  if (am a && sums c && sums d) = true then (if a > 0 then ((red a d).2, c, (red a d).1, true) else (-(red (-a) c).2, (red (-a) c).1, d, true)) else (0, [], [], false)
theorem off_len (a : Int) (c d : List Int) : (off a c d).2.1.length ≤ 20 ∧ (off a c d).2.2.1.length ≤ 20 := by
  unfold off
  split
  · rename_i h
    simp only [Bool.and_eq_true] at h
    have h1 := sums_len h.1.2
    have h2 := sums_len h.2
    split
    · exact ⟨h1, by simp only [red_len]; exact h2⟩
    · exact ⟨by simp only [red_len]; exact h1, h2⟩
  · simp
theorem specOff_ev (a : Int) (c d : List Int) (hc : c.length ≤ 1048576) (hd : d.length ≤ 1048576) : Ev (fun k => spec_SetOff.f k a c d) (off a c d) := by
  unfold spec_SetOff.f off
  rw [l2Amount_eq]
  simp only [Option.bind_some]
  cases h1 : am a with
  | false => exact Ev.step (f := fun _ => some (0, [], [], false)) (fun k => by simp only [spec_SetOff.j0]; rfl) (Ev.now _)
  | true =>
    simp only [if_true, Bool.true_and]
    refine Ev.bind (specSums_ev c hc) ?_
    cases h2 : sums c with
    | false => exact Ev.step (f := fun _ => some (0, [], [], false)) (fun k => by simp only [spec_SetOff.j0]; rfl) (Ev.now _)
    | true =>
      simp only [if_true, Bool.true_and]
      refine Ev.bind (specSums_ev d hd) ?_
      cases h3 : sums d with
      | false => exact Ev.step (f := fun _ => some (0, [], [], false)) (fun k => by simp only [spec_SetOff.j0]; rfl) (Ev.now _)
      | true =>
        have ha := am_iff.1 h1
        refine Ev.step (fun k => by simp only [spec_SetOff.j0]; rfl) ?_
        simp only [Bool.not_true, Bool.false_eq_true, if_false, if_true, own_ev c hc, own_ev d hd, Option.bind_some]
        by_cases hn : a < 0
        · have hr := red_left c (-a) (by omega) (sums_mem h2)
          simp only [if_pos hn, if_neg (show ¬ a > 0 by omega)]
          rw [w64 (x := -a) (by omega) (by omega)]
          refine Ev.bind (use_ev c (-a) h2 (by omega) (by omega)) ?_
          dsimp only
          rw [w64 (by omega) (by omega)]
          exact Ev.now _
        · simp only [if_neg hn]
          refine Ev.bind (use_ev d a h3 (by omega) (by omega)) ?_
          by_cases hz : a > 0
          · simp only [if_pos hz]
            exact Ev.now _
          · have e : a = 0 := by omega
            subst e
            rw [red_zero d (sums_mem h3)]
            simp only [if_neg hz, Int.neg_zero, red_zero c (sums_mem h2)]
            exact Ev.now _
theorem implOff_ev (a : Int) (c d : List Int) (hc : c.length ≤ 1048576) (hd : d.length ≤ 1048576) : Ev (fun k => impl_SetOff.f k a c d) (off a c d) := by
  unfold impl_SetOff.f off
  rw [isAmount_eq, areSums_eq, areSums_eq]
  simp only [Option.bind_some]
  cases h1 : am a with
  | false => exact Ev.step (f := fun _ => some (0, [], [], false)) (fun k => by simp only [impl_SetOff.j0]; rfl) (Ev.now _)
  | true =>
    cases h2 : sums c with
    | false => exact Ev.step (f := fun _ => some (0, [], [], false)) (fun k => by simp only [impl_SetOff.j0]; rfl) (Ev.now _)
    | true =>
      cases h3 : sums d with
      | false => exact Ev.step (f := fun _ => some (0, [], [], false)) (fun k => by simp only [impl_SetOff.j0]; rfl) (Ev.now _)
      | true =>
        have ha := am_iff.1 h1
        refine Ev.step (fun k => by simp only [impl_SetOff.j0]; rfl) ?_
        simp only [Bool.not_true, Bool.and_self, Bool.false_eq_true, if_false, if_true, clone_ev c hc, clone_ev d hd, Option.bind_some]
        by_cases hz : a > 0
        · simp only [if_pos hz]
          exact Ev.bind (red_ev d a h3 (by omega) (by omega)) (Ev.now _)
        · have hr := red_left c (-a) (by omega) (sums_mem h2)
          simp only [if_neg hz]
          rw [w64 (x := -a) (by omega) (by omega)]
          refine Ev.bind (red_ev c (-a) h2 (by omega) (by omega)) ?_
          dsimp only
          rw [w64 (by omega) (by omega)]
          exact Ev.now _

theorem whole (a : Int) (c d : List Int) : Ev (fun k => laws_FnExactSetOff.f k a c d) true := by
  unfold laws_FnExactSetOff.f
  by_cases hc : (c.length : Int) > 1048576
  · simp only [if_pos hc]
    exact Ev.now _
  by_cases hd : (d.length : Int) > 1048576
  · simp only [if_neg hc, if_pos hd]
    exact Ev.now _
  simp only [if_neg hc, if_neg hd]
  have hS := specOff_ev a c d (by omega) (by omega)
  have hI := implOff_ev a c d (by omega) (by omega)
  have hl := off_len a c d
  generalize off a c d = r at hS hI hl
  obtain ⟨x, p, q, b⟩ := r
  dsimp only at hl
  refine Ev.bind (toI_ev c (by omega)) (Ev.bind (toI_ev d (by omega)) (Ev.bind hS (Ev.bind (toI_ev c (by omega)) (Ev.bind (toI_ev d (by omega)) (Ev.bind hI ?_)))))
  simp only [if_true]
  refine Ev.bind (eqI_ev p (by omega)) ?_
  simp only [if_true]
  refine Ev.bind (eqI_ev q (by omega)) ?_
  simp only [if_true, bne_self_eq_false]
  refine Ev.step (fun k => by simp only [laws_FnExactSetOff.j0]; rfl) ?_
  simp only [Bool.false_eq_true, if_false]
  refine Ev.bind (toI_ev c (by omega)) (Ev.bind (eqI_ev c (by omega)) ?_)
  simp only [if_true]
  refine Ev.bind (toI_ev d (by omega)) (Ev.bind (eqI_ev d (by omega)) ?_)
  simp only [if_true]
  refine Ev.bind (markI_ev c 1 (by omega) (by omega) (by omega)) (Ev.bind (markI_ev d _ (by omega) (by omega) (by omega)) ?_)
  simp only [if_neg (show ¬ (1 + (c.length : Int) + (d.length : Int) < 0) by omega)]
  refine Ev.bind (eqI_ev p (by omega)) ?_
  simp only [if_true]
  refine Ev.bind (eqI_ev q (by omega)) ?_
  simp only [if_true, bne_self_eq_false]
  refine Ev.step (fun k => by simp only [laws_FnExactSetOff.j1]; rfl) ?_
  simp only [Bool.false_eq_true, if_false]
  refine Ev.bind (markI_ev p 1 (by omega) (by omega) (by omega)) (Ev.bind (markI_ev q _ (by omega) (by omega) (by omega)) (Ev.bind (heldI_ev p.length 1 (by omega) (by omega) (by omega)) ?_))
  simp only [if_neg (show ¬ (1 + (p.length : Int) < 0) by omega)]
  refine Ev.bind (heldI_ev q.length _ (by omega) (by omega) (by omega)) ?_
  simp only [if_neg (show ¬ (1 + (p.length : Int) + (q.length : Int) < 0) by omega), if_true]
  refine Ev.bind (toI_ev c (by omega)) (Ev.bind (toI_ev d (by omega)) (Ev.bind hI ?_))
  simp only [if_true]
  refine Ev.bind (eqI_ev p (by omega)) ?_
  simp only [if_true]
  refine Ev.bind (eqI_ev q (by omega)) ?_
  simp only [if_true, bne_self_eq_false]
  refine Ev.step (fun k => by simp only [laws_FnExactSetOff.j2]; rfl) ?_
  simp only [Bool.false_eq_true, if_false]
  refine Ev.bind (heldI_ev p.length 1 (by omega) (by omega) (by omega)) ?_
  simp only [if_neg (show ¬ (1 + (p.length : Int) < 0) by omega)]
  refine Ev.bind (heldI_ev q.length _ (by omega) (by omega) (by omega)) ?_
  simp only [if_neg (show ¬ (1 + (p.length : Int) + (q.length : Int) < 0) by omega), if_true]
  exact Ev.now _
end Go.Proofs.Ytjpceeemmebghaa.PureFnExactSetOff
namespace Go.Proofs.Ytjpceeemmebghaa.Pure
theorem FnExactSetOff : PFnExactSetOff.laws_FnExactSetOff.Ask := fun a c d _ _ _ => (PureFnExactSetOff.whole a c d).rounds
end Go.Proofs.Ytjpceeemmebghaa.Pure
