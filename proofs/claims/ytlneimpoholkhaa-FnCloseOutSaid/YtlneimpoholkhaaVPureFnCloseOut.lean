/-
The plain law behind FnCloseOut: the printed functions of the program and of the reference give the same values, so the law answers true. No condition.
-/
import Derived.Test.YtlneimpoholkhaaVAskFnCloseOut
import Derived.Test.YtlneimpoholkhaaVBase
import Derived.Test.YtlneimpoholkhaaVBits
namespace Go.Proofs.Ytlneimpoholkhaa.PureFnCloseOut
open Go.RowKit Go.Proofs.Ytlneimpoholkhaa.PFnCloseOut Go.Proofs.YtlneimpoholkhaaOpen Go.Proofs.YtlneimpoholkhaaBase Go.Proofs.YtlneimpoholkhaaBits Go.Proofs.YtlneimpoholkhaaW.PrintWords Go.Proofs.YtlneimpoholkhaaW.PrintLast Go.Proofs.YtlneimpoholkhaaW.PrintMore

theorem within_eq (x a b : Int) : impl_within.f x a b = some (decide (a ≤ x) && decide (x ≤ b)) := by
 unfold impl_within.f
 by_cases h : x ≥ a
 ·
  rw [if_pos h]; simp [h]
 ·
  rw [if_neg h]; simp [h]

theorem l1In_eq (x a b : Int) : spec_l1In.f x a b = some (decide (a ≤ x) && decide (x ≤ b)) := by
 unfold spec_l1In.f
 by_cases h : x ≥ a
 ·
  rw [if_pos h]; simp [h]
 ·
  rw [if_neg h]; simp [h]

/-! amounts -/
def am (x : Int) : Bool := decide (-1000000000 ≤ x) && decide (x ≤ 1000000000)
theorem am_iff {x : Int} : am x = true ↔ -1000000000 ≤ x ∧ x ≤ 1000000000 := by simp [am]
theorem isAmount_eq (x : Int) : impl_isAmount.f x = some (am x) := by unfold impl_isAmount.f; rw [within_eq]; rfl
theorem l2Amount_eq (x : Int) : spec_l2Amount.f x = some (am x) := by unfold spec_l2Amount.f; rw [l1In_eq]; rfl

/-! lists of amounts -/
def ams (l : List Int) : Bool := decide (l.length ≤ 20) && l.all am
theorem areAmounts_eq (l : List Int) : impl_areAmounts.f l = some (ams l) := rfl
theorem ams_len {l : List Int} (h : ams l = true) : l.length ≤ 20 := by
 rw [ams, Bool.and_eq_true, decide_eq_true_eq] at h
 exact h.1
theorem ams_mem {l : List Int} (h : ams l = true) : ∀ x ∈ l, -1000000000 ≤ x ∧ x ≤ 1000000000 := by
 rw [ams, Bool.and_eq_true, List.all_eq_true] at h
 exact fun x hx => am_iff.1 (h.2 x hx)
theorem specAms_loop (l : List Int) (hl : l.length ≤ 1048576) : ∀ i, i ≤ l.length → Ev (fun k => spec_l2Amounts.l0 k l (i : Int)) (decide (l.length ≤ 20) && (l.drop i).all am) := by
 refine down l.length ?_ (fun i hi ih => ?_)
 ·
  rw [List.drop_length]
  refine Ev.step (f := fun k => spec_l2Amounts.j1 k l (l.length : Int) false) (fun k => by simp only [spec_l2Amounts.l0]; rw [if_neg (by omega)]) ?_
  refine Ev.step (f := fun _ => some (decide ((l.length : Int) ≤ 20))) (fun k => by simp only [spec_l2Amounts.j1]; rfl) ?_
  rw [List.all_nil, Bool.and_true, show decide ((l.length : Int) ≤ 20) = decide (l.length ≤ 20) by rw [decide_eq_decide]; omega]
  exact Ev.now _
 ·
  rw [drop_getD l i hi 0, List.all_cons]
  have hx : rd l (i : Int) = l.getD i 0 := rfl
  generalize l.getD i 0 = x at hx ⊢
  by_cases c : (i : Int) ≤ 20
  ·
   refine Ev.step (f := fun k => spec_l2Amounts.j1 k l (i : Int) true) (fun k => by simp only [spec_l2Amounts.l0]; rw [if_pos (by omega), decide_eq_true c]) ?_
   cases ha : am x with
   | true =>
    rw [Bool.true_and]
    refine Ev.step (fun k => ?_) ih
    simp only [spec_l2Amounts.j1]
    rw [if_pos trivial, if_pos (by omega), if_pos (by omega), hx, l2Amount_eq, ha, Option.bind_some, if_pos rfl, w64s (by omega)]
   | false =>
    rw [Bool.false_and, Bool.and_false]
    refine Ev.step (f := fun _ => some false) (fun k => ?_) (Ev.now _)
    simp only [spec_l2Amounts.j1]
    rw [if_pos trivial, if_pos (by omega), if_pos (by omega), hx, l2Amount_eq, ha]
    rfl
  ·
   refine Ev.step (f := fun k => spec_l2Amounts.j1 k l (i : Int) false) (fun k => by simp only [spec_l2Amounts.l0]; rw [if_pos (by omega), decide_eq_false c]) ?_
   refine Ev.step (f := fun _ => some (decide ((l.length : Int) ≤ 20))) (fun k => by simp only [spec_l2Amounts.j1]; rfl) ?_
   have : decide (l.length ≤ 20) = false := by simp; omega
   rw [show decide ((l.length : Int) ≤ 20) = decide (l.length ≤ 20) by rw [decide_eq_decide]; omega, this, Bool.false_and]
   exact Ev.now _
theorem specAms_ev (l : List Int) (hl : l.length ≤ 1048576) : Ev (fun k => spec_l2Amounts.f k l) (ams l) := specAms_loop l hl 0 (Nat.zero_le _)

/-! lists of amounts that are not negative -/
def sums (l : List Int) : Bool := ams l && l.all (fun x => decide (0 ≤ x))
theorem areSums_eq (l : List Int) : impl_areSums.f l = some (sums l) := rfl
theorem sums_len {l : List Int} (h : sums l = true) : l.length ≤ 20 := by
 rw [sums, Bool.and_eq_true] at h
 exact ams_len h.1
theorem sums_mem {l : List Int} (h : sums l = true) : ∀ x ∈ l, 0 ≤ x ∧ x ≤ 1000000000 := by
 rw [sums, Bool.and_eq_true, List.all_eq_true] at h
 exact fun x hx => ⟨of_decide_eq_true (h.2 x hx), (ams_mem h.1 x hx).2⟩
theorem specSums_loop (l : List Int) (hl : l.length ≤ 1048576) : ∀ i, i ≤ l.length → Ev (fun k => spec_l19List.l0 k l (i : Int)) (ams l && (l.drop i).all (fun x => decide (0 ≤ x))) := by
 refine down l.length ?_ (fun i hi ih => ?_)
 ·
  rw [List.drop_length, List.all_nil, Bool.and_true]
  refine Ev.step (f := fun k => (spec_l2Amounts.f k l).bind fun t => some t) (fun k => by simp only [spec_l19List.l0]; rw [if_neg (by omega)]) ?_
  exact Ev.bind (specAms_ev l hl) (Ev.now _)
 ·
  rw [drop_getD l i hi 0, List.all_cons]
  have hx : rd l (i : Int) = l.getD i 0 := rfl
  generalize l.getD i 0 = x at hx ⊢
  by_cases c : x < 0
  ·
   have : decide (0 ≤ x) = false := by simpa using c
   rw [this, Bool.false_and, Bool.and_false]
   refine Ev.step (f := fun _ => some false) (fun k => ?_) (Ev.now _)
   simp only [spec_l19List.l0]
   rw [if_pos (by omega), if_pos (by omega), hx, if_pos c]
  ·
   have : decide (0 ≤ x) = true := by simpa using c
   rw [this, Bool.true_and]
   refine Ev.step (fun k => ?_) ih
   simp only [spec_l19List.l0]
   rw [if_pos (by omega), if_pos (by omega), hx, if_neg c, w64s (by omega)]
theorem specSums_ev (l : List Int) (hl : l.length ≤ 1048576) : Ev (fun k => spec_l19List.f k l) (sums l) := specSums_loop l hl 0 (Nat.zero_le _)

/-! set-off -/
theorem clone_ev (l : List Int) (hl : l.length ≤ 1048576) : slices_Clone_int_int.f l = some l := by
 unfold slices_Clone_int_int.f
 rw [if_pos (by omega)]
theorem own_ev (l : List Int) (hl : l.length ≤ 1048576) : spec_l1Own.f l = some l := by
 unfold spec_l1Own.f
 rw [Option.bind_some, if_pos (by simp; omega), List.nil_append]
/-- A list reduced by as much of a sum as possible, and what is left of the sum. -/
def red : Int → List Int → List Int × Int
 | s, [] => ([], s)
 | s, x :: xs => ((x - min x s) :: (red (s - min x s) xs).1, (red (s - min x s) xs).2)
theorem red_len : ∀ (l : List Int) (s : Int), (red s l).1.length = l.length
 | [], s => rfl
 | x :: xs, s => by rw [red, List.length_cons, red_len xs, List.length_cons]
theorem red_left : ∀ (l : List Int) (s : Int), 0 ≤ s → (∀ x ∈ l, 0 ≤ x ∧ x ≤ 1000000000) → 0 ≤ (red s l).2 ∧ (red s l).2 ≤ s
 | [], s, h, _ => ⟨h, Int.le_refl _⟩
 | x :: xs, s, h, hl => by
  have hx := hl x List.mem_cons_self
  have := red_left xs (s - min x s) (by omega) (fun y hy => hl y (List.mem_cons_of_mem _ hy))
  rw [red]
  dsimp only
  omega
theorem red_zero : ∀ (l : List Int), (∀ x ∈ l, 0 ≤ x ∧ x ≤ 1000000000) → red 0 l = (l, 0)
 | [], _ => rfl
 | x :: xs, hl => by
  have hx := hl x List.mem_cons_self
  have e : min x 0 = 0 := by omega
  rw [red, e, Int.sub_zero, Int.sub_zero, red_zero xs (fun y hy => hl y (List.mem_cons_of_mem _ hy))]
theorem use_loop (l : List Int) (hl : l.length ≤ 20) (hm : ∀ x ∈ l, 0 ≤ x ∧ x ≤ 1000000000) : ∀ i, i ≤ l.length → ∀ (s : Int) (acc : List Int), 0 ≤ s → s ≤ 1000000000 → acc.length = i → Ev (fun k => spec_l19Use.l0 k s l acc (i : Int)) ((red s (l.drop i)).2, acc ++ (red s (l.drop i)).1) := by
 refine down l.length ?_ (fun i hi ih => ?_)
 ·
  intro s acc _ _ _
  rw [List.drop_length]
  refine Ev.step (f := fun _ => some (s, acc)) (fun k => by simp only [spec_l19Use.l0]; rw [if_neg (by omega)]) ?_
  rw [red, List.append_nil]
  exact Ev.now _
 ·
  intro s acc h0 h1 hacc
  rw [drop_getD l i hi 0]
  have hx : rd l (i : Int) = l.getD i 0 := rfl
  have ha := hm _ (getD_mem l i hi 0)
  generalize l.getD i 0 = x at hx ha ⊢
  have := ih (s - min x s) (acc ++ [x - min x s]) (by omega) (by omega) (by simp [hacc])
  rw [red]
  dsimp only
  rw [List.append_assoc, List.singleton_append] at this
  refine Ev.step (fun k => ?_) this
  simp only [spec_l19Use.l0]
  have e : spec_l1Least.f s x = some (min x s) := by
   unfold spec_l1Least.f
   by_cases c : s < x
   ·
    rw [if_pos c]; congr 1; omega
   ·
    rw [if_neg c]; congr 1; omega
  rw [if_pos (by omega), if_pos (by omega), hx, e, Option.bind_some, if_pos (by omega), w64 (by omega) (by omega), w64 (by omega) (by omega), w64s (by omega)]
theorem use_ev (l : List Int) (s : Int) (h : sums l = true) (h0 : 0 ≤ s) (h1 : s ≤ 1000000000) : Ev (fun k => spec_l19Use.f k s l) ((red s l).2, (red s l).1) := by
 have := use_loop l (sums_len h) (sums_mem h) 0 (Nat.zero_le _) s [] h0 h1 rfl
 rw [List.drop_zero, List.nil_append] at this
 exact this
theorem red_loop (l : List Int) (hl : l.length ≤ 20) (hm : ∀ x ∈ l, 0 ≤ x ∧ x ≤ 1000000000) : ∀ i, i ≤ l.length → ∀ (s : Int) (acc : List Int), 0 ≤ s → s ≤ 1000000000 → acc.length = i → Ev (fun k => impl_reduced.l0 k s (acc ++ l.drop i) (l.length : Int) (i : Int)) (acc ++ (red s (l.drop i)).1, (red s (l.drop i)).2) := by
 refine down l.length ?_ (fun i hi ih => ?_)
 ·
  intro s acc _ _ _
  rw [List.drop_length, List.append_nil]
  refine Ev.step (f := fun _ => some (acc, s)) (fun k => by simp only [impl_reduced.l0]; rw [if_neg (by omega)]) ?_
  rw [red, List.append_nil]
  exact Ev.now _
 ·
  intro s acc h0 h1 hacc
  have hlen : (acc ++ l.drop i).length = l.length := by rw [List.length_append, List.length_drop]; omega
  have hrd : rd (acc ++ l.drop i) (i : Int) = l.getD i 0 := by
   rw [rd_nat, List.getD_eq_getElem?_getD, List.getElem?_append_right (by omega), hacc, Nat.sub_self, List.getElem?_drop, Nat.add_zero, List.getD_eq_getElem?_getD]
  have hset : ∀ y, (acc ++ l.drop i).set i y = (acc ++ [y]) ++ l.drop (i + 1) := fun y => by
   rw [List.set_append_right _ _ (by omega), hacc, Nat.sub_self, drop_getD l i hi 0, List.set_cons_zero]
   simp
  rw [drop_getD l i hi 0] at *
  have ha := hm _ (getD_mem l i hi 0)
  generalize l.getD i 0 = x at hrd ha hset hlen ⊢
  have := ih (s - min x s) (acc ++ [x - min x s]) (by omega) (by omega) (by simp [hacc])
  rw [red]
  dsimp only
  rw [show (acc ++ [x - min x s]) ++ (red (s - min x s) (l.drop (i + 1))).1 = acc ++ (x - min x s) :: (red (s - min x s) (l.drop (i + 1))).1 by simp] at this
  refine Ev.step (fun k => ?_) this
  simp only [impl_reduced.l0]
  have e : mn x s = min x s := by unfold mn; split <;> omega
  rw [if_pos (by omega), if_pos (by omega), if_pos (by rw [hlen]; omega), hrd, e, w64 (by omega) (by omega), w64 (by omega) (by omega), w64s (by omega), Int.toNat_natCast, hset]
theorem red_ev (l : List Int) (s : Int) (h : sums l = true) (h0 : 0 ≤ s) (h1 : s ≤ 1000000000) : Ev (fun k => impl_reduced.f k l s) ((red s l).1, (red s l).2) := by
 unfold impl_reduced.f
 have hl := sums_len h
 rw [clone_ev l (by omega)]
 simp only [Option.bind_some]
 have := red_loop l hl (sums_mem h) 0 (Nat.zero_le _) s [] h0 h1 rfl
 rw [List.drop_zero, List.nil_append, List.nil_append] at this
 exact this
def off (a : Int) (c d : List Int) : Int × List Int × List Int × Bool :=
 if (am a && sums c && sums d) = true then (if a > 0 then ((red a d).2, c, (red a d).1, true) else (-(red (-a) c).2, (red (-a) c).1, d, true)) else (0, [], [], false)
theorem off_len (a : Int) (c d : List Int) : (off a c d).2.1.length ≤ 20 ∧ (off a c d).2.2.1.length ≤ 20 := by
 unfold off
 split
 ·
  rename_i h
  simp only [Bool.and_eq_true] at h
  have h1 := sums_len h.1.2
  have h2 := sums_len h.2
  split
  ·
   exact ⟨h1, by simp only [red_len]; exact h2⟩
  ·
   exact ⟨by simp only [red_len]; exact h1, h2⟩
 ·
  simp
theorem specOff_ev (a : Int) (c d : List Int) (hc : c.length ≤ 1048576) (hd : d.length ≤ 1048576) : Ev (fun k => spec_SetOff.f k a c d) (off a c d) := by
 unfold spec_SetOff.f off
 rw [l2Amount_eq]
 simp only [Option.bind_some]
 cases h1 : am a with
 | false => exact Ev.step (f := fun _ => some (0, [], [], false)) (fun k => by simp only [spec_SetOff.j0]; rfl) (Ev.now _)
 | true =>
  simp only [if_true, Bool.true_and]
  refine Ev.bind (specSums_ev c hc) ?_
  cases h2 : sums c with
  | false => exact Ev.step (f := fun _ => some (0, [], [], false)) (fun k => by simp only [spec_SetOff.j0]; rfl) (Ev.now _)
  | true =>
   simp only [if_true, Bool.true_and]
   refine Ev.bind (specSums_ev d hd) ?_
   cases h3 : sums d with
   | false => exact Ev.step (f := fun _ => some (0, [], [], false)) (fun k => by simp only [spec_SetOff.j0]; rfl) (Ev.now _)
   | true =>
    have ha := am_iff.1 h1
    refine Ev.step (fun k => by simp only [spec_SetOff.j0]; rfl) ?_
    simp only [Bool.not_true, Bool.false_eq_true, if_false, if_true, own_ev c hc, own_ev d hd, Option.bind_some]
    by_cases hn : a < 0
    ·
     have hr := red_left c (-a) (by omega) (sums_mem h2)
     simp only [if_pos hn, if_neg (show ¬ a > 0 by omega)]
     rw [w64 (x := -a) (by omega) (by omega)]
     refine Ev.bind (use_ev c (-a) h2 (by omega) (by omega)) ?_
     dsimp only
     rw [w64 (by omega) (by omega)]
     exact Ev.now _
    ·
     simp only [if_neg hn]
     refine Ev.bind (use_ev d a h3 (by omega) (by omega)) ?_
     by_cases hz : a > 0
     ·
      simp only [if_pos hz]
      exact Ev.now _
     ·
      have e : a = 0 := by omega
      subst e
      rw [red_zero d (sums_mem h3)]
      simp only [if_neg hz, Int.neg_zero, red_zero c (sums_mem h2)]
      exact Ev.now _
theorem implOff_ev (a : Int) (c d : List Int) (hc : c.length ≤ 1048576) (hd : d.length ≤ 1048576) : Ev (fun k => impl_SetOff.f k a c d) (off a c d) := by
 unfold impl_SetOff.f off
 rw [isAmount_eq, areSums_eq, areSums_eq]
 simp only [Option.bind_some]
 cases h1 : am a with
 | false => exact Ev.step (f := fun _ => some (0, [], [], false)) (fun k => by simp only [impl_SetOff.j0]; rfl) (Ev.now _)
 | true =>
  cases h2 : sums c with
  | false => exact Ev.step (f := fun _ => some (0, [], [], false)) (fun k => by simp only [impl_SetOff.j0]; rfl) (Ev.now _)
  | true =>
   cases h3 : sums d with
   | false => exact Ev.step (f := fun _ => some (0, [], [], false)) (fun k => by simp only [impl_SetOff.j0]; rfl) (Ev.now _)
   | true =>
    have ha := am_iff.1 h1
    refine Ev.step (fun k => by simp only [impl_SetOff.j0]; rfl) ?_
    simp only [Bool.not_true, Bool.and_self, Bool.false_eq_true, if_false, if_true, clone_ev c hc, clone_ev d hd, Option.bind_some]
    by_cases hz : a > 0
    ·
     simp only [if_pos hz]
     exact Ev.bind (red_ev d a h3 (by omega) (by omega)) (Ev.now _)
    ·
     have hr := red_left c (-a) (by omega) (sums_mem h2)
     simp only [if_neg hz]
     rw [w64 (x := -a) (by omega) (by omega)]
     refine Ev.bind (red_ev c (-a) h2 (by omega) (by omega)) ?_
     dsimp only
     rw [w64 (by omega) (by omega)]
     exact Ev.now _

/-! rounding -/
theorem size_eq (x : Int) (h0 : -4611686018427387904 ≤ x) (h1 : x ≤ 4611686018427387904) : impl_size.f x = some (x.natAbs : Int) := by
 unfold impl_size.f mx
 rw [w64 (by omega) (by omega)]
 congr 1
 split <;> omega
theorem round_core (n q m s Q R : Int) (hQ : Int.tdiv n q = Q) (hR : Int.tmod n q = R) (q0 : 1 ≤ q) (q1 : q ≤ 1000000000) (m0 : 1 ≤ m) (m1 : m ≤ 4) (Q0 : 0 ≤ Q) (Q1 : Q ≤ 1000000000000000000) (R0 : 0 ≤ R) (R1 : R < q) (hs : s = 1 ∨ s = -1) :
 ∃ r u : Int, (∀ k, spec_l2Round.j0 (k + 1) n q m s = some r) ∧ (∀ k, impl_rounded.j0 (k + 1) q m (s * Q) R s = some r) ∧ r = s * Q + s * u ∧ (u = 0 ∨ (u = 1 ∧ 0 < R)) := by
 have hup : ∃ u : Int, (u = 0 ∨ u = 1) ∧ (u = 1 ↔ (m = 2 ∧ 0 < R) ∨ (m = 3 ∧ q ≤ 2 * R) ∨ (m = 4 ∧ (q < 2 * R ∨ (2 * R = q ∧ Q % 2 = 1)))) := by
  by_cases h : (m = 2 ∧ 0 < R) ∨ (m = 3 ∧ q ≤ 2 * R) ∨ (m = 4 ∧ (q < 2 * R ∨ (2 * R = q ∧ Q % 2 = 1)))
  ·
   exact ⟨1, .inr rfl, by simp only [h]⟩
  ·
   exact ⟨0, .inl rfl, ⟨fun h' => by omega, fun h' => absurd h' h⟩⟩
 obtain ⟨u, hu, hiff⟩ := hup
 have wQ : wrap64 Q = Q := w64 (by omega) (by omega)
 have wQ1 : wrap64 (Q + 1) = Q + 1 := w64 (by omega) (by omega)
 have wR : wrap64 (2 * R) = 2 * R := w64 (by omega) (by omega)
 have tQ : Int.tmod Q 2 = Q % 2 := Int.tmod_eq_emod_of_nonneg Q0
 have hqz : ¬ q = 0 := by omega
 rcases hs with rfl | rfl
 ·
  have w1 : wrap64 (1 * Q) = Q := by rw [Int.one_mul]; exact wQ
  have w2 : wrap64 (1 * (Q + 1)) = Q + 1 := by rw [Int.one_mul]; exact wQ1
  have e1 : (1 : Int) * Q = Q := Int.one_mul _
  refine ⟨Q + u, u, fun k => ?_, fun k => ?_, by omega, by omega⟩
  ·
   simp only [spec_l2Round.j0, hQ, hR, wQ, wQ1, wR, w1, w2, tQ, if_neg hqz]
   repeat' split
   all_goals exact congrArg some (by omega)
  ·
   simp only [impl_rounded.j0, e1, wQ1, wR, tQ]
   repeat' split
   all_goals exact congrArg some (by omega)
 ·
  have w1 : wrap64 (-1 * Q) = -Q := by rw [w64 (by omega) (by omega)]; omega
  have w2 : wrap64 (-1 * (Q + 1)) = -Q - 1 := by rw [w64 (by omega) (by omega)]; omega
  have e1 : (-1 : Int) * Q = -Q := by omega
  have w3 : wrap64 (-Q + -1) = -Q - 1 := by rw [w64 (by omega) (by omega)]; omega
  have t2 : Int.tmod (-Q) 2 = -(Q % 2) := by rw [Int.neg_tmod, tQ]
  refine ⟨-Q - u, u, fun k => ?_, fun k => ?_, by omega, by omega⟩
  ·
   simp only [spec_l2Round.j0, hQ, hR, wQ, wQ1, wR, w1, w2, tQ, if_neg hqz]
   repeat' split
   all_goals exact congrArg some (by omega)
  ·
   simp only [impl_rounded.j0, e1, w3, wR, t2]
   repeat' split
   all_goals exact congrArg some (by omega)
theorem tdivmod (n q : Int) (h0 : 0 ≤ n) (h1 : n ≤ 1000000000000000000) (q0 : 1 ≤ q) : 0 ≤ Int.tdiv n q ∧ Int.tdiv n q ≤ 1000000000000000000 ∧ 0 ≤ Int.tmod n q ∧ Int.tmod n q < q := by
 rw [Int.tdiv_eq_ediv_of_nonneg h0, Int.tmod_eq_emod_of_nonneg h0]
 have a1 : 0 ≤ n / q := Int.ediv_nonneg h0 (by omega)
 have a2 : n / q ≤ n := Int.ediv_le_self q h0
 have a3 := Int.emod_nonneg n (show q ≠ 0 by omega)
 have a4 := Int.emod_lt_of_pos n (show 0 < q by omega)
 omega
theorem round_bd (n q Q R u s r p : Int) (e : n = q * Q + R) (q0 : 1 ≤ q) (R0 : 0 ≤ R) (R1 : R < q) (hu : u = 0 ∨ (u = 1 ∧ 0 < R)) (hr : r = s * Q + s * u) (hp : p = s * n) (hs : s = 1 ∨ s = -1) (lo hi : Int) (h0 : lo * q ≤ p) (h1 : p ≤ hi * q) : lo ≤ r ∧ r ≤ hi := by
 have up : ∀ x y : Int, x ≤ y → x * q ≤ y * q := fun x y h => Int.mul_le_mul_of_nonneg_right h (by omega)
 have eQ : q * Q = Q * q := Int.mul_comm _ _
 have key : ∀ x : Int, (Q + x) * q = Q * q + x * q := fun x => Int.add_mul _ _ _
 have key2 : ∀ x : Int, (-Q + x) * q = -(Q * q) + x * q := fun x => by rw [Int.add_mul, Int.neg_mul]
 rw [eQ] at e
 rcases hs with rfl | rfl
 ·
  constructor
  ·
   by_cases c : lo ≤ r
   ·
    exact c
   ·
    have := up (Q + (u + 1)) lo (by omega)
    rw [key] at this
    rcases hu with rfl | ⟨rfl, _⟩ <;> omega
  ·
   by_cases c : r ≤ hi
   ·
    exact c
   ·
    have := up hi (Q + (u - 1)) (by omega)
    rw [key] at this
    rcases hu with rfl | ⟨rfl, _⟩ <;> omega
 ·
  constructor
  ·
   by_cases c : lo ≤ r
   ·
    exact c
   ·
    have := up (-Q + (1 - u)) lo (by omega)
    rw [key2] at this
    rcases hu with rfl | ⟨rfl, _⟩ <;> omega
  ·
   by_cases c : r ≤ hi
   ·
    exact c
   ·
    have := up hi (-Q + (-1 - u)) (by omega)
    rw [key2] at this
    rcases hu with rfl | ⟨rfl, _⟩ <;> omega
theorem round_both (p q m : Int) (hp0 : -1000000000000000000 ≤ p) (hp1 : p ≤ 1000000000000000000) (q0 : 1 ≤ q) (q1 : q ≤ 1000000000) (m0 : 1 ≤ m) (m1 : m ≤ 4) : ∃ r, Ev (fun k => spec_l2Round.f k p q m) r ∧ Ev (fun k => impl_rounded.f k p q m) r ∧ ∀ lo hi : Int, lo * q ≤ p → p ≤ hi * q → lo ≤ r ∧ r ≤ hi := by
 unfold spec_l2Round.f impl_rounded.f
 simp only [if_neg (show ¬ q = 0 by omega)]
 by_cases c : p < 0
 ·
  obtain ⟨n, rfl⟩ : ∃ n : Int, p = -n := ⟨-p, by omega⟩
  obtain ⟨b0, b1, b2, b3⟩ := tdivmod n q (by omega) (by omega) q0
  obtain ⟨r, u, rS, rI, ru, hu⟩ := round_core n q m (-1) _ _ rfl rfl q0 q1 m0 m1 b0 b1 b2 b3 (.inr rfl)
  have e1 : wrap64 (- -n) = n := by rw [w64 (by omega) (by omega)]; omega
  have e2 : wrap64 (Int.tdiv (-n) q) = -1 * Int.tdiv n q := by rw [Int.neg_tdiv, w64 (by omega) (by omega)]; omega
  have e3 : impl_size.f (Int.tmod (-n) q) = some (Int.tmod n q) := by
   rw [Int.neg_tmod, size_eq _ (by omega) (by omega)]
   congr 1
   omega
  refine ⟨r, ?_, ?_, round_bd n q _ _ u (-1) r (-n) (Int.mul_tdiv_add_tmod n q).symm q0 b2 b3 hu ru (by omega) (.inr rfl)⟩
  ·
   simp only [if_pos c, e1]
   exact Ev.step rS (Ev.now _)
  ·
   simp only [e3, Option.bind_some, if_pos c, e2]
   exact Ev.step rI (Ev.now _)
 ·
  obtain ⟨b0, b1, b2, b3⟩ := tdivmod p q (by omega) (by omega) q0
  obtain ⟨r, u, rS, rI, ru, hu⟩ := round_core p q m 1 _ _ rfl rfl q0 q1 m0 m1 b0 b1 b2 b3 (.inl rfl)
  have e2 : wrap64 (Int.tdiv p q) = 1 * Int.tdiv p q := by rw [w64 (by omega) (by omega)]; omega
  have e3 : impl_size.f (Int.tmod p q) = some (Int.tmod p q) := by
   rw [size_eq _ (by omega) (by omega)]
   congr 1
   omega
  refine ⟨r, ?_, ?_, round_bd p q _ _ u 1 r p (Int.mul_tdiv_add_tmod p q).symm q0 b2 b3 hu ru (by omega) (.inl rfl)⟩
  ·
   simp only [if_neg c]
   exact Ev.step rS (Ev.now _)
  ·
   simp only [e3, Option.bind_some, if_neg c, e2]
   exact Ev.step rI (Ev.now _)
theorem isMode_eq (m : Int) : impl_isMode.f m = some (decide (1 ≤ m) && decide (m ≤ 4)) := by unfold impl_isMode.f; rw [within_eq]; rfl

/-! sums -/
def total (l : List Int) : Int := l.foldl (· + ·) 0
theorem foldl_add (l : List Int) : ∀ s : Int, l.foldl (· + ·) s = s + l.foldl (· + ·) 0 := by
 induction l with
 | nil => intro s; simp
 | cons x l ih => intro s; rw [List.foldl_cons, List.foldl_cons, ih (s + x), ih (0 + x)]; omega
theorem take_total (l : List Int) (i : Nat) (h : i < l.length) : total (l.take (i + 1)) = total (l.take i) + l.getD i 0 := by
 rw [take_getD l i h 0]
 simp [total, List.foldl_append]
theorem total_bd (l : List Int) (hm : ∀ x ∈ l, -1000000000 ≤ x ∧ x ≤ 1000000000) : ∀ i, i ≤ l.length → -1000000000 * (i : Int) ≤ total (l.take i) ∧ total (l.take i) ≤ 1000000000 * (i : Int)
 | 0, _ => by simp [total]
 | i + 1, h => by
  have ih := total_bd l hm i (by omega)
  have := hm _ (getD_mem l i (by omega) 0)
  rw [take_total l i (by omega)]
  omega
theorem sum_both (l : List Int) (hl : l.length ≤ 20) (hm : ∀ x ∈ l, -1000000000 ≤ x ∧ x ≤ 1000000000) : Ev (fun k => spec_l2Sum.f k l) (total l) ∧ Ev (fun k => impl_sumOf.f k l) (total l) := by
 have hb := total_bd l hm
 unfold spec_l2Sum.f impl_sumOf.f
 have kS : ∀ i, i ≤ l.length → Ev (fun k => spec_l2Sum.l0 k l (total (l.take i)) (i : Int)) (total l) := by
  refine down l.length ?_ (fun i hi ih => ?_)
  ·
   rw [List.take_length]
   exact Ev.step (f := fun _ => some (total l)) (fun k => by simp only [spec_l2Sum.l0]; rw [if_neg (by omega)]) (Ev.now _)
  ·
   refine Ev.step (fun k => ?_) ih
   have h1 := hb (i + 1) (by omega)
   have e := take_total l i hi
   simp only [spec_l2Sum.l0]
   rw [if_pos (by omega), if_pos (by omega), rd_nat, ← e, w64 (x := total (l.take (i + 1))) (by omega) (by omega), w64s (by omega)]
 have kI : ∀ i, i ≤ l.length → Ev (fun k => impl_sumOf.l0 k (total (l.take i)) l (l.length : Int) (i : Int)) (total l) := by
  refine down l.length ?_ (fun i hi ih => ?_)
  ·
   rw [List.take_length]
   exact Ev.step (f := fun _ => some (total l)) (fun k => by simp only [impl_sumOf.l0]; rw [if_neg (by omega)]) (Ev.now _)
  ·
   refine Ev.step (fun k => ?_) ih
   have h1 := hb (i + 1) (by omega)
   have e := take_total l i hi
   simp only [impl_sumOf.l0]
   rw [if_pos (by omega), if_pos (by omega), if_pos (by omega), rd_nat, ← e, w64 (x := total (l.take (i + 1))) (by omega) (by omega), w64s (by omega)]
 exact ⟨kS 0 (Nat.zero_le _), kI 0 (Nat.zero_le _)⟩

/-! sharing by the largest remainder -/
theorem total_cons (x : Int) (l : List Int) : total (x :: l) = x + total l := by
 unfold total
 rw [List.foldl_cons, foldl_add]
 omega
theorem total_app (l : List Int) (x : Int) : total (l ++ [x]) = total l + x := by simp [total, List.foldl_append]
theorem total_ge : ∀ (l : List Int), (∀ x ∈ l, 0 ≤ x) → 0 ≤ total l ∧ ∀ x ∈ l, x ≤ total l
 | [], _ => ⟨by simp [total], fun x hx => by cases hx⟩
 | y :: l, h => by
  obtain ⟨h0, h1⟩ := total_ge l (fun x hx => h x (List.mem_cons_of_mem _ hx))
  have hy := h y List.mem_cons_self
  rw [total_cons]
  refine ⟨by omega, fun x hx => ?_⟩
  rcases List.mem_cons.1 hx with rfl | hx
  ·
   omega
  ·
   have := h1 x hx
   omega
def idxs (n : Nat) : List Int := (List.range n).map fun (i : Nat) => (i : Int)
theorem idxs_succ (n : Nat) : idxs (n + 1) = idxs n ++ [(n : Int)] := by simp [idxs, List.range_succ]
theorem idxs_len (n : Nat) : (idxs n).length = n := by simp [idxs]
theorem idxs_mem {n : Nat} {x : Int} : x ∈ idxs n ↔ 0 ≤ x ∧ x < n := by
 unfold idxs
 rw [List.mem_map]
 constructor
 ·
  rintro ⟨i, hi, rfl⟩
  have := List.mem_range.1 hi
  omega
 ·
  rintro ⟨h0, h1⟩
  exact ⟨x.toNat, List.mem_range.2 (by omega), by omega⟩
theorem idxs_lt : ∀ n : Nat, (idxs n).Pairwise (· < ·)
 | 0 => by simp [idxs]
 | n + 1 => by
  rw [idxs_succ]
  refine List.pairwise_append.2 ⟨idxs_lt n, List.pairwise_singleton _ _, fun a ha b hb => ?_⟩
  have := idxs_mem.1 ha
  have := List.mem_singleton.1 hb
  omega
/-- x ahead of y: the greater remainder first, of two alike the earlier. -/
def Bef (r : Int → Int) (x y : Int) : Prop := r y < r x ∨ (r y = r x ∧ x < y)
open Go.Proofs.YtlneimpoholkhaaStab in
theorem insB_mem (lt : Int → Int → Bool) (x a : Int) : ∀ l : List Int, a ∈ insB lt x l ↔ a = x ∨ a ∈ l
 | [] => by simp [insB]
 | y :: ys => by
  rw [insB]
  split
  ·
   rw [List.mem_cons, insB_mem lt x a ys, List.mem_cons]
   constructor
   ·
    rintro (h | h | h) <;> simp [h]
   ·
    rintro (h | h | h) <;> simp [h]
  ·
   rw [List.mem_cons]
open Go.Proofs.YtlneimpoholkhaaStab in
theorem insB_sorted (lt : Int → Int → Bool) (r : Int → Int) (x : Int) : ∀ l : List Int, (∀ y ∈ l, lt x y = decide (r y < r x)) → (∀ y ∈ l, y < x) → l.Pairwise (fun a b => Bef r b a) → (insB lt x l).Pairwise (fun a b => Bef r b a)
 | [], _, _, _ => by simp [insB]
 | y :: ys, hlt, hx, h => by
  have h1 := List.pairwise_cons.1 h
  rw [insB, hlt y List.mem_cons_self]
  by_cases c : r y < r x
  ·
   rw [if_pos (by simp [c])]
   refine List.pairwise_cons.2 ⟨fun a ha => ?_, insB_sorted lt r x ys (fun z hz => hlt z (List.mem_cons_of_mem _ hz)) (fun z hz => hx z (List.mem_cons_of_mem _ hz)) h1.2⟩
   rcases (insB_mem lt x a ys).1 ha with rfl | ha
   ·
    exact .inl c
   ·
    exact h1.1 a ha
  ·
   rw [if_neg (by simp [c])]
   refine List.pairwise_cons.2 ⟨fun a ha => ?_, h⟩
   have hyx := hx y List.mem_cons_self
   rcases List.mem_cons.1 ha with rfl | ha
   ·
    unfold Bef; omega
   ·
    have h2 := h1.1 a ha
    have h3 := hx a (List.mem_cons_of_mem _ ha)
    unfold Bef at h2 ⊢
    omega
open Go.Proofs.YtlneimpoholkhaaStab in
theorem stab_order (lt : Int → Int → Bool) (r : Int → Int) (n : Nat) (hlt : ∀ x ∈ idxs n, ∀ y ∈ idxs n, lt x y = decide (r y < r x)) : (stab lt (idxs n)).Pairwise (Bef r) ∧ ∀ a, a ∈ stab lt (idxs n) ↔ a ∈ idxs n := by
 have key : ∀ (xs A : List Int), (∀ a ∈ A, ∀ x ∈ xs, a < x) → xs.Pairwise (· < ·) → (∀ a ∈ A, a ∈ idxs n) → (∀ a ∈ xs, a ∈ idxs n) → A.Pairwise (fun a b => Bef r b a) →
  (xs.foldl (fun acc x => insB lt x acc) A).Pairwise (fun a b => Bef r b a) ∧ ∀ a, a ∈ xs.foldl (fun acc x => insB lt x acc) A ↔ a ∈ xs ∨ a ∈ A := by
  intro xs
  induction xs with
  | nil => intro A _ _ _ _ h; exact ⟨h, fun a => by simp⟩
  | cons x xs ih =>
   intro A h1 h2 h3 h4 h5
   have hp := List.pairwise_cons.1 h2
   have hx := h4 x List.mem_cons_self
   rw [List.foldl_cons]
   obtain ⟨i1, i2⟩ := ih (insB lt x A) (fun a ha y hy => by
    rcases (insB_mem lt x a A).1 ha with rfl | ha
    ·
     exact hp.1 y hy
    ·
     exact h1 a ha y (List.mem_cons_of_mem _ hy)) hp.2 (fun a ha => by
    rcases (insB_mem lt x a A).1 ha with rfl | ha
    ·
     exact hx
    ·
     exact h3 a ha) (fun a ha => h4 a (List.mem_cons_of_mem _ ha)) (insB_sorted lt r x A (fun y hy => hlt x hx y (h3 y hy)) (fun y hy => h1 y hy x List.mem_cons_self) h5)
   refine ⟨i1, fun a => ?_⟩
   rw [i2, insB_mem, List.mem_cons]
   constructor
   ·
    rintro (h | h | h) <;> simp [h]
   ·
    rintro ((h | h) | h) <;> simp [h]
 obtain ⟨k1, k2⟩ := key (idxs n) [] (fun a ha => by cases ha) (idxs_lt n) (fun a ha => by cases ha) (fun a ha => ha) List.Pairwise.nil
 unfold stab
 refine ⟨List.pairwise_reverse.2 k1, fun a => ?_⟩
 rw [List.mem_reverse, k2]
 simp
/-- One more at each of some places. -/
def incs (o : List Int) (js : List Int) : List Int := js.foldl (fun o j => o.set j.toNat (o.getD j.toNat 0 + 1)) o
theorem incs_snoc (o js : List Int) (j : Int) : incs o (js ++ [j]) = (incs o js).set j.toNat ((incs o js).getD j.toNat 0 + 1) := by simp [incs, List.foldl_append]
theorem total_set : ∀ (l : List Int) (i : Nat), i < l.length → total (l.set i (l.getD i 0 + 1)) = total l + 1
 | [], i, h => by simp at h
 | x :: l, 0, h => by
  rw [List.set_cons_zero, total_cons, total_cons]
  simp only [List.getD_cons_zero]
  omega
 | x :: l, i + 1, h => by
  rw [List.set_cons_succ, total_cons, total_cons, List.getD_cons_succ, total_set l i (by simpa using h)]
  omega
theorem incs_facts : ∀ (js o : List Int) (B : Int), (∀ x ∈ o, 0 ≤ x ∧ x ≤ B) → (∀ j ∈ js, 0 ≤ j ∧ j < o.length) → (incs o js).length = o.length ∧ (∀ x ∈ incs o js, 0 ≤ x ∧ x ≤ B + js.length) ∧ total (incs o js) = total o + js.length
 | [], o, B, h0, _ => ⟨rfl, fun x hx => by have := h0 x hx; simp; omega, by simp [incs]⟩
 | j :: js, o, B, h0, h => by
  have hj := h j List.mem_cons_self
  have hv := h0 _ (getD_mem o j.toNat (by omega) 0)
  obtain ⟨i1, i2, i3⟩ := incs_facts js (o.set j.toNat (o.getD j.toNat 0 + 1)) (B + 1) (fun x hx => by
   rcases List.mem_or_eq_of_mem_set hx with hx | rfl
   ·
    have := h0 x hx
    omega
   ·
    omega) (fun a ha => by rw [List.length_set]; exact h a (List.mem_cons_of_mem _ ha))
  rw [List.length_set] at i1
  rw [total_set _ _ (by omega)] at i3
  show (incs (o.set j.toNat (o.getD j.toNat 0 + 1)) js).length = _ ∧ (∀ x ∈ incs (o.set j.toNat (o.getD j.toNat 0 + 1)) js, _) ∧ total (incs (o.set j.toNat (o.getD j.toNat 0 + 1)) js) = _
  rw [List.length_cons]
  exact ⟨i1, fun x hx => by have := i2 x hx; omega, by omega⟩
section
variable (T : Int) (w : List Int)
def qof (x : Int) : Int := T * x / total w
def rof (x : Int) : Int := T * x % total w
def qs : List Int := w.map (qof T w)
def rs : List Int := w.map (rof T w)
def ord : List Int := Go.Proofs.YtlneimpoholkhaaStab.stabI (fun x y : Int => impl_shares_1.f x y T w (total w)) (idxs w.length)
def leftof : Int := T - total (qs T w)
/-- The shares of T in proportion to w. -/
def share : List Int := incs (qs T w) ((ord T w).take (leftof T w).toNat)
end
/-- What the weights keep to. -/
structure Wts (T : Int) (w : List Int) : Prop where
 t0 : 0 ≤ T
 t1 : T ≤ 1000000000
 len : w.length ≤ 20
 bd : ∀ x ∈ w, 0 ≤ x ∧ x ≤ 1000000
 pos : 0 < total w
theorem Wts.ne {T : Int} {w : List Int} (h : Wts T w) : 0 < w.length := by
 rcases w with _ | ⟨x, l⟩
 ·
  have := h.pos; simp [total] at this
 ·
  simp
theorem Wts.prod {T : Int} {w : List Int} (h : Wts T w) {x : Int} (hx : x ∈ w) : 0 ≤ T * x ∧ T * x ≤ 1000000000000000 := by
 have h1 := h.bd x hx
 have h2 := h.t0
 have h3 := h.t1
 refine ⟨Int.mul_nonneg h2 h1.1, ?_⟩
 have a := Int.mul_le_mul_of_nonneg_right h3 h1.1
 omega
theorem Wts.q {T : Int} {w : List Int} (h : Wts T w) {x : Int} (hx : x ∈ w) : 0 ≤ qof T w x ∧ qof T w x ≤ 1000000000 := by
 have h1 := h.prod hx
 have h2 := (total_ge w (fun y hy => (h.bd y hy).1)).2 x hx
 refine ⟨Int.ediv_nonneg h1.1 (by have := h.pos; omega), ?_⟩
 refine Int.le_trans (Int.ediv_le_of_le_mul (b := T) h.pos ?_) h.t1
 exact Int.mul_le_mul_of_nonneg_left h2 h.t0
theorem Wts.r {T : Int} {w : List Int} (h : Wts T w) (x : Int) : 0 ≤ rof T w x ∧ rof T w x < total w := ⟨Int.emod_nonneg _ (by have := h.pos; omega), Int.emod_lt_of_pos _ h.pos⟩
theorem Wts.tq {T : Int} {w : List Int} (h : Wts T w) {x : Int} (hx : x ∈ w) : wrap64 (Int.tdiv (wrap64 (T * x)) (total w)) = qof T w x := by
 have h1 := h.prod hx
 have h2 := h.q hx
 rw [w64 (x := T * x) (by omega) (by omega), Int.tdiv_eq_ediv_of_nonneg h1.1]
 exact w64 (by unfold qof at h2; omega) (by unfold qof at h2; omega)
theorem Wts.tr {T : Int} {w : List Int} (h : Wts T w) {x : Int} (hx : x ∈ w) : Int.tmod (wrap64 (T * x)) (total w) = rof T w x := by
 have h1 := h.prod hx
 rw [w64 (x := T * x) (by omega) (by omega), Int.tmod_eq_emod_of_nonneg h1.1]
 rfl
theorem qs_len (T : Int) (w : List Int) : (qs T w).length = w.length := by simp [qs]
theorem rs_len (T : Int) (w : List Int) : (rs T w).length = w.length := by simp [rs]
theorem map_getD (f : Int → Int) (w : List Int) (i : Nat) (h : i < w.length) : (w.map f).getD i 0 = f (w.getD i 0) := by
 simp [List.getD_eq_getElem?_getD, List.getElem?_map, List.getElem?_eq_getElem h]
theorem Wts.qs_bd {T : Int} {w : List Int} (h : Wts T w) : ∀ x ∈ qs T w, 0 ≤ x ∧ x ≤ 1000000000 := by
 intro x hx
 obtain ⟨y, hy, rfl⟩ := List.mem_map.1 hx
 exact h.q hy
theorem sums_q (T A : Int) (hA : 0 < A) : ∀ w : List Int, A * total (w.map fun x => T * x / A) ≤ T * total w ∧ T * total w ≤ A * total (w.map fun x => T * x / A) + A * w.length - w.length
 | [] => by simp [total]
 | x :: w => by
  obtain ⟨h1, h2⟩ := sums_q T A hA w
  have h3 := Int.mul_ediv_add_emod (T * x) A
  have h4 := Int.emod_nonneg (T * x) (show A ≠ 0 by omega)
  have h5 := Int.emod_lt_of_pos (T * x) hA
  rw [List.map_cons, total_cons, total_cons, Int.mul_add, Int.mul_add, List.length_cons, show ((w.length + 1 : Nat) : Int) = (w.length : Int) + 1 by omega, Int.mul_add A (w.length : Int) 1, Int.mul_one]
  omega
theorem Wts.left {T : Int} {w : List Int} (h : Wts T w) : 0 ≤ leftof T w ∧ leftof T w < w.length := by
 obtain ⟨h1, h2⟩ := sums_q T (total w) h.pos w
 have hp := h.pos
 have hn := h.ne
 unfold leftof
 have e : total (qs T w) = total (w.map fun x => T * x / total w) := rfl
 rw [e]
 generalize total (w.map fun x => T * x / total w) = Q at h1 h2 ⊢
 generalize total w = A at h1 h2 hp ⊢
 constructor
 ·
  rw [Int.mul_comm T A] at h1
  have := Int.le_of_mul_le_mul_left h1 hp
  omega
 ·
  rw [Int.mul_comm T A, ← Int.mul_add] at h2
  have h3 : A * T < A * (Q + w.length) := by omega
  have := Int.lt_of_mul_lt_mul_left h3 (by omega)
  omega
theorem Wts.cmp {T : Int} {w : List Int} (h : Wts T w) {x y : Int} (hx : x ∈ idxs w.length) (hy : y ∈ idxs w.length) :
 impl_shares_1.f x y T w (total w) = some (if rof T w (rd w y) < rof T w (rd w x) then -1 else if rof T w (rd w y) > rof T w (rd w x) then 1 else 0) := by
 have h1 := idxs_mem.1 hx
 have h2 := idxs_mem.1 hy
 have m1 : rd w x ∈ w := getD_mem w x.toNat (by omega) 0
 have m2 : rd w y ∈ w := getD_mem w y.toNat (by omega) 0
 unfold impl_shares_1.f
 rw [if_pos h1.1, if_pos h1.2, if_pos h2.1, if_pos h2.2, if_neg (by have := h.pos; omega), h.tr m1, h.tr m2]
 unfold cmp_Compare_int.f cmp_isNaN_int.f
 simp only [bne_self_eq_false, Option.bind_some, Bool.false_eq_true, if_false]
 split
 ·
  rfl
 ·
  split <;> rfl
theorem Wts.order {T : Int} {w : List Int} (h : Wts T w) : (ord T w).Pairwise (Bef (fun i => rof T w (rd w i))) ∧ (∀ a, a ∈ ord T w ↔ a ∈ idxs w.length) ∧ (ord T w).length = w.length := by
 unfold ord Go.Proofs.YtlneimpoholkhaaStab.stabI
 obtain ⟨h1, h2⟩ := stab_order (fun x y => decide ((impl_shares_1.f x y T w (total w)).getD 0 < 0)) (fun i => rof T w (rd w i)) w.length (fun x hx y hy => by
  rw [h.cmp hx hy, Option.getD_some, decide_eq_decide]
  split
  ·
   simp_all
  ·
   split
   ·
    simp_all
   ·
    simp_all)
 refine ⟨h1, h2, ?_⟩
 rw [Go.Proofs.YtlneimpoholkhaaStab.stab_length, idxs_len]
theorem Wts.sorts {T : Int} {w : List Int} (h : Wts T w) : stab_impl_shares_1.f (idxs w.length) T w (total w) = some (ord T w) := by
 unfold stab_impl_shares_1.f
 rw [idxs_len, if_pos h.ne, if_pos h.len, if_pos]
 ·
  rfl
 ·
  rw [List.all_eq_true]
  intro x hx
  rw [List.all_eq_true]
  intro y hy
  show (impl_shares_1.f x y T w (total w)).isSome = true
  rw [h.cmp hx hy]
  rfl
theorem Wts.share_facts {T : Int} {w : List Int} (h : Wts T w) (j : Nat) (hj : j ≤ w.length) : (incs (qs T w) ((ord T w).take j)).length = w.length ∧ (∀ x ∈ incs (qs T w) ((ord T w).take j), 0 ≤ x ∧ x ≤ 1000000020) ∧ total (incs (qs T w) ((ord T w).take j)) = total (qs T w) + j := by
 obtain ⟨_, o2, o3⟩ := h.order
 have hl : ((ord T w).take j).length = j := by rw [List.length_take]; omega
 obtain ⟨i1, i2, i3⟩ := incs_facts ((ord T w).take j) (qs T w) 1000000000 h.qs_bd (fun a ha => by
  have := idxs_mem.1 ((o2 a).1 (List.mem_of_mem_take ha))
  rw [qs_len]
  exact this)
 rw [hl] at i2 i3
 refine ⟨i1.trans (qs_len T w), fun x hx => ?_, i3⟩
 have := i2 x hx
 have := h.len
 omega
theorem Wts.share_total {T : Int} {w : List Int} (h : Wts T w) : (share T w).length = w.length ∧ (∀ x ∈ share T w, 0 ≤ x ∧ x ≤ 1000000020) ∧ total (share T w) = T := by
 have hl := h.left
 obtain ⟨a, b, c⟩ := h.share_facts (leftof T w).toNat (by omega)
 refine ⟨a, b, ?_⟩
 unfold share
 rw [c]
 unfold leftof at hl ⊢
 omega
/-- What the j-th round of the choice finds. -/
theorem Wts.best {T : Int} {w : List Int} (h : Wts T w) (j : Nat) (hj : j < w.length) (R : List Int) (hR : R.length = w.length) (hv : ∀ i : Nat, i < w.length → R.getD i 0 = if (i : Int) ∈ (ord T w).take j then -1 else rof T w (w.getD i 0)) :
 ∃ b : Nat, b < w.length ∧ (ord T w).getD j 0 = b ∧ (∀ i : Nat, i < b → R.getD i 0 < R.getD b 0) ∧ (∀ i : Nat, b < i → i < w.length → R.getD i 0 ≤ R.getD b 0) ∧
  ∀ i : Nat, i < w.length → (R.set b (-1)).getD i 0 = if (i : Int) ∈ (ord T w).take (j + 1) then -1 else rof T w (w.getD i 0) := by
 obtain ⟨o1, o2, o3⟩ := h.order
 have hm := idxs_mem.1 ((o2 _).1 (getD_mem (ord T w) j (by omega) 0))
 have ht := take_getD (ord T w) j (by omega) 0
 have hd := drop_getD (ord T w) j (by omega) 0
 have hs : (ord T w).take j ++ (ord T w).getD j 0 :: (ord T w).drop (j + 1) = ord T w := by rw [← hd, List.take_append_drop]
 generalize hb : (ord T w).getD j 0 = b at hm ht hd hs
 obtain ⟨b, rfl⟩ : ∃ c : Nat, b = (c : Int) := ⟨b.toNat, by omega⟩
 have hbl : b < w.length := by omega
 have hpw := o1
 rw [← hs, List.pairwise_append] at hpw
 obtain ⟨p1, p2, p3⟩ := hpw
 have p4 := (List.pairwise_cons.1 p2).1
 have hbn : ¬ ((b : Int) ∈ (ord T w).take j) := fun hc => by
  have := p3 _ hc _ List.mem_cons_self
  unfold Bef at this
  omega
 have hRb : R.getD b 0 = rof T w (w.getD b 0) := by rw [hv b hbl, if_neg hbn]
 have hother : ∀ i : Nat, i < w.length → i ≠ b → R.getD i 0 < R.getD b 0 ∨ (R.getD i 0 = R.getD b 0 ∧ b < i) := by
  intro i hi hne
  rw [hv i hi, hRb]
  have hr := h.r (w.getD b 0)
  split
  ·
   left; omega
  ·
   rename_i hn
   have hin : (i : Int) ∈ ord T w := (o2 _).2 (idxs_mem.2 ⟨by omega, by omega⟩)
   rw [← hs, List.mem_append, List.mem_cons] at hin
   rcases hin with hin | hin | hin
   ·
    exact absurd hin hn
   ·
    exact absurd (by omega) hne
   ·
    have := p4 _ hin
    unfold Bef at this
    simp only [rd_nat] at this
    rcases this with this | ⟨this, h2⟩
    ·
     exact .inl this
    ·
     exact .inr ⟨this, by omega⟩
 refine ⟨b, hbl, rfl, fun i hi => ?_, fun i hi hl => ?_, fun i hi => ?_⟩
 ·
  rcases hother i (by omega) (by omega) with h1 | ⟨_, h1⟩
  ·
   exact h1
  ·
   omega
 ·
  rcases hother i hl (by omega) with h1 | ⟨h1, _⟩
  ·
   omega
  ·
   omega
 ·
  rw [ht]
  by_cases c : i = b
  ·
   subst c
   rw [if_pos (by simp), List.getD_eq_getElem?_getD, List.getElem?_set_self (by omega)]
   rfl
  ·
   rw [List.getD_eq_getElem?_getD, List.getElem?_set_ne (by omega), ← List.getD_eq_getElem?_getD, hv i hi]
   have : ((i : Int) ∈ (ord T w).take j ++ [(b : Int)]) ↔ ((i : Int) ∈ (ord T w).take j) := by
    rw [List.mem_append, List.mem_singleton]
    constructor
    ·
     rintro (h1 | h1)
     ·
      exact h1
     ·
      omega
    ·
     exact .inl
   simp only [this]
theorem scan (out R : List Int) (left : Int) (b : Nat) (hR : R.length = out.length) (hR2 : R.length ≤ 20) (hb : b < R.length) (h1 : ∀ i : Nat, i < b → R.getD i 0 < R.getD b 0) (h2 : ∀ i : Nat, b < i → i < R.length → R.getD i 0 ≤ R.getD b 0) (V : List Int)
 (hout : 0 ≤ out.getD b 0 ∧ out.getD b 0 ≤ 2000000000) (hl : 0 < left ∧ left ≤ 100)
 (hV : Ev (fun k => spec_l2Share.l1 k (out.set b (out.getD b 0 + 1)) (R.set b (-1)) (left - 1)) V) : Ev (fun k => spec_l2Share.l2 k out R left 0 1) V := by
 have key : ∀ i, i ≤ R.length → 0 < i → ∀ c : Nat, c < i → (b < i → c = b) → Ev (fun k => spec_l2Share.l2 k out R left (c : Int) (i : Int)) V := by
  refine down R.length ?_ (fun i hi ih => ?_)
  ·
   intro _ c hc hcb
   obtain rfl := hcb hb
   refine Ev.step (fun k => ?_) hV
   simp only [spec_l2Share.l2]
   rw [if_neg (by omega), if_pos (by omega), if_pos (by omega), if_pos (by omega), rd_nat, Int.toNat_natCast, w64 (x := out.getD c 0 + 1) (by omega) (by omega), w64 (x := left - 1) (by omega) (by omega)]
  ·
   intro h0 c hc hcb
   by_cases hgt : R.getD i 0 > R.getD c 0
   ·
    refine Ev.step (fun k => ?_) (ih (by omega) i (by omega) (fun hb2 => by
     by_cases e : i = b
     ·
      exact e
     ·
      obtain rfl := hcb (by omega)
      have := h2 i (by omega) hi
      omega))
    simp only [spec_l2Share.l2]
    rw [if_pos (by omega), if_pos (by omega), if_pos (by omega), if_pos (by omega), rd_nat, rd_nat, if_pos hgt, w64s (by omega)]
   ·
    refine Ev.step (fun k => ?_) (ih (by omega) c (by omega) (fun hb2 => by
     by_cases e : i = b
     ·
      subst e
      have := h1 c hc
      omega
     ·
      exact hcb (by omega)))
    simp only [spec_l2Share.l2]
    rw [if_pos (by omega), if_pos (by omega), if_pos (by omega), if_pos (by omega), rd_nat, rd_nat, if_neg hgt, w64s (by omega)]
 exact key 1 (by omega) (by omega) 0 (by omega) (by omega)
theorem Wts.specShare {T : Int} {w : List Int} (h : Wts T w) : Ev (fun k => spec_l2Share.f k T w) (share T w) := by
 have hlen := h.len
 have hne := h.ne
 have hpos := h.pos
 have hleft := h.left
 have hb20 : ∀ x ∈ w, -1000000000 ≤ x ∧ x ≤ 1000000000 := fun x hx => by have := h.bd x hx; omega
 unfold spec_l2Share.f
 refine Ev.bind (sum_both w hlen hb20).1 ?_
 -- the rounds of the choice
 have rounds : ∀ j, j ≤ (leftof T w).toNat → ∀ R : List Int, R.length = w.length → (∀ i : Nat, i < w.length → R.getD i 0 = if (i : Int) ∈ (ord T w).take j then -1 else rof T w (w.getD i 0)) →
  Ev (fun k => spec_l2Share.l1 k (incs (qs T w) ((ord T w).take j)) R (leftof T w - (j : Int))) (share T w) := by
  refine down _ ?_ (fun j hj ih => ?_)
  ·
   intro R _ _
   refine Ev.step (f := fun _ => some (share T w)) (fun k => ?_) (Ev.now _)
   simp only [spec_l2Share.l1]
   rw [if_neg (by omega)]
   rfl
  ·
   intro R hR hv
   obtain ⟨b, hb, hob, b1, b2, b3⟩ := h.best j (by omega) R hR hv
   obtain ⟨f1, f2, _⟩ := h.share_facts j (by omega)
   have hih := ih (R.set b (-1)) (by rw [List.length_set, hR]) b3
   have e : incs (qs T w) ((ord T w).take (j + 1)) = (incs (qs T w) ((ord T w).take j)).set b ((incs (qs T w) ((ord T w).take j)).getD b 0 + 1) := by
    rw [take_getD (ord T w) j (by rw [h.order.2.2]; omega) 0, incs_snoc, hob, Int.toNat_natCast]
   rw [e] at hih
   refine Ev.step (f := fun k => spec_l2Share.l2 k (incs (qs T w) ((ord T w).take j)) R (leftof T w - (j : Int)) 0 1) (fun k => ?_) ?_
   ·
    simp only [spec_l2Share.l1]
    rw [if_pos (by omega)]
   ·
    refine scan _ R _ b (by omega) (by omega) (by omega) b1 (fun i h1 h2 => b2 i h1 (by omega)) _ ?_ ⟨by omega, by omega⟩ ?_
    ·
     have := f2 _ (getD_mem (incs (qs T w) ((ord T w).take j)) b (by omega) 0)
     omega
    ·
     rw [show leftof T w - (j : Int) - 1 = leftof T w - ((j + 1 : Nat) : Int) by omega]
     exact hih
 have hq := total_bd (qs T w) (fun x hx => by have := h.qs_bd x hx; omega)
 have first : ∀ i, i ≤ w.length → Ev (fun k => spec_l2Share.l0 k T w (total w) ((qs T w).take i) ((rs T w).take i) (T - total ((qs T w).take i)) (i : Int)) (share T w) := by
  refine down w.length ?_ (fun i hi ih => ?_)
  ·
   have := rounds 0 (Nat.zero_le _) (rs T w) (rs_len T w) (fun i hi => by
    rw [List.take_zero, if_neg (by simp)]
    exact map_getD _ w i hi)
   refine Ev.step (fun k => ?_) this
   simp only [spec_l2Share.l0]
   rw [if_neg (by omega), List.take_of_length_le (by rw [qs_len]; omega), List.take_of_length_le (by rw [rs_len]; omega)]
   show spec_l2Share.l1 k (qs T w) (rs T w) (leftof T w) = spec_l2Share.l1 k (qs T w) (rs T w) (leftof T w - ((0 : Nat) : Int))
   rw [show leftof T w - ((0 : Nat) : Int) = leftof T w by omega]
  ·
   refine Ev.step (fun k => ?_) ih
   have hm := getD_mem w i hi 0
   have e1 := take_getD (qs T w) i (by rw [qs_len]; exact hi) 0
   have e2 := take_getD (rs T w) i (by rw [rs_len]; exact hi) 0
   have g1 : (qs T w).getD i 0 = qof T w (w.getD i 0) := map_getD _ w i hi
   have g2 : (rs T w).getD i 0 = rof T w (w.getD i 0) := map_getD _ w i hi
   have l1 : ((qs T w).take i).length = i := by rw [List.length_take, qs_len]; omega
   have l2 : ((rs T w).take i).length = i := by rw [List.length_take, rs_len]; omega
   have hqi := h.q hm
   have hti := hq i (by rw [qs_len]; omega)
   have ht0 := h.t0
   have ht1 := h.t1
   simp only [spec_l2Share.l0]
   rw [if_pos (by omega), if_pos (by omega), if_neg (by omega), if_pos (by omega), Option.bind_some, if_pos (by omega), rd_nat, h.tq hm, h.tr hm, ← g1, ← e1, ← g2, ← e2, if_pos (by rw [List.length_take, qs_len]; omega)]
   have e3 : rd ((qs T w).take (i + 1)) (i : Int) = (qs T w).getD i 0 := by
    rw [rd_nat, e1, List.getD_eq_getElem?_getD, List.getElem?_append_right (by omega), l1, Nat.sub_self]
    rfl
   rw [e3, w64s (by omega), e1, total_app, w64 (by rw [g1]; omega) (by rw [g1]; omega)]
   congr 1
   omega
 have := first 0 (Nat.zero_le _)
 simpa [total] using this
theorem Wts.implShare {T : Int} {w : List Int} (h : Wts T w) : Ev (fun k => impl_shares.f k T w) (share T w) := by
 have hlen := h.len
 have hne := h.ne
 have hpos := h.pos
 have hleft := h.left
 obtain ⟨o1, o2, o3⟩ := h.order
 have hb20 : ∀ x ∈ w, -1000000000 ≤ x ∧ x ≤ 1000000000 := fun x hx => by have := h.bd x hx; omega
 have hqb : ∀ x ∈ qs T w, -1000000000 ≤ x ∧ x ≤ 1000000000 := fun x hx => by have := h.qs_bd x hx; omega
 unfold impl_shares.f
 refine Ev.bind (sum_both w hlen hb20).2 ?_
 have rounds : ∀ j, j ≤ (leftof T w).toNat → Ev (fun k => impl_shares.l1 k (incs (qs T w) ((ord T w).take j)) (ord T w) (leftof T w) (j : Int)) (share T w) := by
  refine down _ ?_ (fun j hj ih => ?_)
  ·
   refine Ev.step (f := fun _ => some (share T w)) (fun k => ?_) (Ev.now _)
   simp only [impl_shares.l1]
   rw [if_neg (by omega)]
   rfl
  ·
   obtain ⟨f1, f2, _⟩ := h.share_facts j (by omega)
   have hm := idxs_mem.1 ((o2 _).1 (getD_mem (ord T w) j (by omega) 0))
   have hv := f2 _ (getD_mem (incs (qs T w) ((ord T w).take j)) ((ord T w).getD j 0).toNat (by omega) 0)
   refine Ev.step (fun k => ?_) ih
   have e := incs_snoc (qs T w) ((ord T w).take j) ((ord T w).getD j 0)
   rw [← take_getD (ord T w) j (by omega) 0] at e
   simp only [impl_shares.l1]
   rw [if_pos (by omega), if_pos (by omega), if_pos (by omega), rd_nat, if_pos hm.1, if_pos (by omega), w64s (by omega), e]
   congr 2
   exact w64 (by show _ ≤ (incs (qs T w) ((ord T w).take j)).getD ((ord T w).getD j 0).toNat 0 + 1; omega) (by show (incs (qs T w) ((ord T w).take j)).getD ((ord T w).getD j 0).toNat 0 + 1 ≤ _; omega)
 have first : ∀ i, i ≤ w.length → Ev (fun k => impl_shares.l0 k ((qs T w).take i) (idxs i) w (w.length : Int) (i : Int) T w (total w)) (share T w) := by
  refine down w.length ?_ (fun i hi ih => ?_)
  ·
   refine Ev.step (f := fun k => (impl_sumOf.f k (qs T w)).bind fun t => impl_shares.l1 k (qs T w) (ord T w) (wrap64 (T - t)) 0) (fun k => ?_) ?_
   ·
    simp only [impl_shares.l0]
    rw [if_neg (by omega), h.sorts, Option.bind_some, List.take_of_length_le (by rw [qs_len]; omega)]
   ·
    refine Ev.bind (sum_both (qs T w) (by rw [qs_len]; exact hlen) hqb).2 ?_
    have := rounds 0 (Nat.zero_le _)
    rw [w64 (x := T - total (qs T w)) (by unfold leftof at hleft; omega) (by unfold leftof at hleft; omega)]
    exact this
  ·
   refine Ev.step (fun k => ?_) ih
   have hm := getD_mem w i hi 0
   have e1 := take_getD (qs T w) i (by rw [qs_len]; exact hi) 0
   have g1 : (qs T w).getD i 0 = qof T w (w.getD i 0) := map_getD _ w i hi
   have l1 : ((qs T w).take i).length = i := by rw [List.length_take, qs_len]; omega
   simp only [impl_shares.l0]
   rw [if_pos (by omega), if_pos (by omega), if_pos (by omega), if_neg (by omega), if_pos (by omega), if_pos (by rw [idxs_len]; omega), rd_nat, h.tq hm, ← g1, ← e1, w64s (by omega), idxs_succ]
 exact first 0 (Nat.zero_le _)

/-! dividing a sum in proportion to dues -/
theorem app_at (acc o : List Int) (i : Nat) (h : acc.length = i) (hi : i < o.length) : rd (acc ++ o.drop i) (i : Int) = o.getD i 0 ∧ (acc ++ o.drop i).length = o.length ∧ ∀ y, (acc ++ o.drop i).set i y = (acc ++ [y]) ++ o.drop (i + 1) := by
 refine ⟨?_, by rw [List.length_append, List.length_drop]; omega, fun y => ?_⟩
 ·
  rw [rd_nat, List.getD_eq_getElem?_getD, List.getElem?_append_right (by omega), h, Nat.sub_self, List.getElem?_drop, Nat.add_zero, List.getD_eq_getElem?_getD]
 ·
  rw [List.set_append_right _ _ (by omega), h, Nat.sub_self, drop_getD o i hi 0, List.set_cons_zero]
  simp
def isBig (l : List Int) : Bool := l.any fun d => decide (d > 1000000)
def wts (l : List Int) : List Int := if isBig l = true then l.map (fun d => (d + 999) / 1000) else l
def clip : List Int → List Int → List Int
 | o :: os, d :: ds => min o d :: clip os ds
 | _, _ => []
def fill : Int → List Int → List Int → List Int
 | s, o :: os, d :: ds => (o + min s (d - o)) :: fill (s - min s (d - o)) os ds
 | _, _, _ => []
theorem clip_nil : clip [] [] = [] := by simp [clip]
theorem fill_nil (s : Int) : fill s [] [] = [] := by simp [fill]
/-- What each gets of T, which is less than all dues. -/
def parts (T : Int) (l : List Int) : List Int := fill (T - total (clip (share T (wts l)) l)) (clip (share T (wts l)) l) l
theorem clip_len : ∀ o l : List Int, o.length = l.length → (clip o l).length = l.length
 | [], [], _ => rfl
 | o :: os, d :: ds, h => by rw [clip, List.length_cons, List.length_cons, clip_len os ds (by simpa using h)]
 | [], _ :: _, h => by simp at h
 | _ :: _, [], h => by simp at h
theorem fill_len : ∀ (o l : List Int) (s : Int), o.length = l.length → (fill s o l).length = l.length
 | [], [], _, _ => rfl
 | o :: os, d :: ds, s, h => by rw [fill, List.length_cons, List.length_cons, fill_len os ds _ (by simpa using h)]
 | [], _ :: _, _, h => by simp at h
 | _ :: _, [], _, h => by simp at h
theorem clip_bd : ∀ o l : List Int, (∀ x ∈ o, 0 ≤ x) → (∀ d ∈ l, 0 ≤ d ∧ d ≤ 1000000000) → ∀ x ∈ clip o l, 0 ≤ x ∧ x ≤ 1000000000
 | [], _, _, _, x, hx => by simp [clip] at hx
 | _ :: _, [], _, _, x, hx => by simp [clip] at hx
 | o :: os, d :: ds, h1, h2, x, hx => by
  have a := h1 o List.mem_cons_self
  have b := h2 d List.mem_cons_self
  rw [clip] at hx
  rcases List.mem_cons.1 hx with rfl | hx
  ·
   omega
  ·
   exact clip_bd os ds (fun x hx => h1 x (List.mem_cons_of_mem _ hx)) (fun x hx => h2 x (List.mem_cons_of_mem _ hx)) x hx
theorem clip_total : ∀ o l : List Int, o.length = l.length → total (clip o l) ≤ total o
 | [], [], _ => Int.le_refl _
 | o :: os, d :: ds, h => by
  have := clip_total os ds (by simpa using h)
  rw [clip, total_cons, total_cons]
  omega
 | [], _ :: _, h => by simp at h
 | _ :: _, [], h => by simp at h
theorem fill_bd : ∀ (o l : List Int) (s : Int), 0 ≤ s → (∀ x ∈ o, 0 ≤ x) → (∀ d ∈ l, 0 ≤ d ∧ d ≤ 1000000000) → ∀ x ∈ fill s (clip o l) l, 0 ≤ x ∧ x ≤ 1000000000
 | [], [], _, _, _, _, x, hx => by simp [clip, fill] at hx
 | [], _ :: _, _, _, _, _, x, hx => by simp [clip, fill] at hx
 | _ :: _, [], _, _, _, _, x, hx => by simp [clip, fill] at hx
 | o :: os, d :: ds, s, h0, h1, h2, x, hx => by
  have a := h1 o List.mem_cons_self
  have b := h2 d List.mem_cons_self
  rw [clip, fill] at hx
  rcases List.mem_cons.1 hx with rfl | hx
  ·
   omega
  ·
   exact fill_bd os ds _ (by omega) (fun x hx => h1 x (List.mem_cons_of_mem _ hx)) (fun x hx => h2 x (List.mem_cons_of_mem _ hx)) x hx
theorem fill_zero : ∀ (o l : List Int), o.length = l.length → (∀ x ∈ o, x = 0) → (∀ d ∈ l, 0 ≤ d) → fill 0 o l = List.replicate l.length 0
 | [], [], _, _, _ => rfl
 | o :: os, d :: ds, h, h1, h2 => by
  have a := h1 o List.mem_cons_self
  have b := h2 d List.mem_cons_self
  rw [fill, show o + min 0 (d - o) = 0 by omega, show (0 : Int) - min 0 (d - o) = 0 by omega, fill_zero os ds (by simpa using h) (fun x hx => h1 x (List.mem_cons_of_mem _ hx)) (fun x hx => h2 x (List.mem_cons_of_mem _ hx))]
  rfl
 | [], _ :: _, h, _, _ => by simp at h
 | _ :: _, [], h, _, _ => by simp at h
/-- What the dues keep to. -/
structure Dues (T : Int) (l : List Int) : Prop where
 t0 : 0 ≤ T
 lt : T < total l
 tot : total l ≤ 1000000000
 len : l.length ≤ 20
 bd : ∀ x ∈ l, 0 ≤ x ∧ x ≤ 1000000000
theorem wts_len (l : List Int) : (wts l).length = l.length := by unfold wts; split <;> simp
theorem ceil_total : ∀ l : List Int, (∀ x ∈ l, 0 ≤ x) → total l ≤ 1000 * total (l.map fun d => (d + 999) / 1000)
 | [], _ => by simp [total]
 | x :: l, h => by
  have := ceil_total l (fun y hy => h y (List.mem_cons_of_mem _ hy))
  rw [List.map_cons, total_cons, total_cons]
  omega
theorem Dues.w {T : Int} {l : List Int} (h : Dues T l) : Wts T (wts l) := by
 have h1 := h.tot
 have h2 := h.lt
 have h0 := h.t0
 refine ⟨h.t0, by omega, by rw [wts_len]; exact h.len, fun x hx => ?_, ?_⟩
 ·
  unfold wts at hx
  split at hx
  ·
   obtain ⟨d, hd, rfl⟩ := List.mem_map.1 hx
   have := h.bd d hd
   omega
  ·
   rename_i hb
   have := h.bd x hx
   have hn : ¬ x > 1000000 := fun hc => hb (List.any_eq_true.2 ⟨x, hx, by simpa using hc⟩)
   omega
 ·
  unfold wts
  split
  ·
   have := ceil_total l (fun x hx => (h.bd x hx).1)
   omega
  ·
   omega
theorem Dues.share_ {T : Int} {l : List Int} (h : Dues T l) : (share T (wts l)).length = l.length ∧ (∀ x ∈ share T (wts l), 0 ≤ x ∧ x ≤ 1000000020) ∧ total (share T (wts l)) = T := by
 obtain ⟨a, b, c⟩ := h.w.share_total
 exact ⟨a.trans (wts_len l), b, c⟩
theorem Dues.parts_ {T : Int} {l : List Int} (h : Dues T l) : (parts T l).length = l.length ∧ ∀ x ∈ parts T l, 0 ≤ x ∧ x ≤ 1000000000 := by
 obtain ⟨a, b, c⟩ := h.share_
 refine ⟨fill_len _ _ _ (clip_len _ _ a), fill_bd _ _ _ ?_ (fun x hx => (b x hx).1) h.bd⟩
 have := clip_total _ _ a
 omega
theorem Dues.zero {l : List Int} (h : Dues 0 l) : parts 0 l = List.replicate l.length 0 := by
 obtain ⟨a, b, c⟩ := h.share_
 have hz : ∀ x ∈ share 0 (wts l), x = 0 := fun x hx => by
  have h1 := (total_ge (share 0 (wts l)) (fun y hy => (b y hy).1)).2 x hx
  have := b x hx
  omega
 have hcz : ∀ (o l : List Int), (∀ x ∈ o, x = 0) → (∀ d ∈ l, 0 ≤ d ∧ d ≤ 1000000000) → ∀ x ∈ clip o l, x = 0 := by
  intro o
  induction o with
  | nil => intro l _ _ x hx; simp [clip] at hx
  | cons o os ih =>
   intro l h1 h2 x hx
   cases l with
   | nil => simp [clip] at hx
   | cons d ds =>
    have := h1 o List.mem_cons_self
    have := h2 d List.mem_cons_self
    rw [clip] at hx
    rcases List.mem_cons.1 hx with rfl | hx
    ·
     omega
    ·
     exact ih ds (fun x hx => h1 x (List.mem_cons_of_mem _ hx)) (fun x hx => h2 x (List.mem_cons_of_mem _ hx)) x hx
 have hc := hcz _ l hz h.bd
 have ht : total (clip (share 0 (wts l)) l) = 0 := by
  generalize clip (share 0 (wts l)) l = c at hc
  induction c with
  | nil => rfl
  | cons x c ih =>
   rw [total_cons, ih (fun y hy => hc y (List.mem_cons_of_mem _ hy)), hc x List.mem_cons_self]
   rfl
 unfold parts
 rw [ht, Int.sub_zero]
 exact fill_zero _ _ (clip_len _ _ a) hc (fun d hd => (h.bd d hd).1)
theorem least_eq (a b : Int) : spec_l1Least.f a b = some (min a b) := by
 unfold spec_l1Least.f
 by_cases c : a < b
 ·
  rw [if_pos c]; congr 1; omega
 ·
  rw [if_neg c]; congr 1; omega
theorem mn_eq (a b : Int) : mn a b = min a b := by unfold mn; split <;> omega
theorem Dues.spec {T : Int} {l : List Int} (h : Dues T l) : Ev (fun k => spec_l18Divide.f k l T) (parts T l) := by
 obtain ⟨s1, s2, s3⟩ := h.share_
 have hlen := h.len
 unfold spec_l18Divide.f
 -- the last round: what is left
 have k3 : ∀ (o : List Int), o.length = l.length → (∀ x ∈ o, 0 ≤ x ∧ x ≤ 1000000020) → ∀ i, i ≤ l.length → ∀ (acc : List Int) (s : Int), acc.length = i → -1000000000000 - 3000000000 * (i : Int) ≤ s → s ≤ 1000000000000 + 3000000000 * (i : Int) → Ev (fun k => spec_l18Divide.l3 k l (acc ++ o.drop i) s (i : Int)) (acc ++ fill s (o.drop i) (l.drop i)) := by
  intro o ho hob
  refine down l.length ?_ (fun i hi ih => ?_)
  ·
   intro acc s ha _ _
   rw [List.drop_of_length_le (by omega), List.drop_of_length_le (by omega)]
   refine Ev.step (f := fun _ => some acc) (fun k => ?_) (by rw [fill_nil, List.append_nil]; exact Ev.now _)
   simp only [spec_l18Divide.l3]
   rw [List.append_nil, if_neg (by omega)]
  ·
   intro acc s ha hs0 hs1
   obtain ⟨e1, e2, e3⟩ := app_at acc o i ha (by omega)
   have b1 := hob _ (getD_mem o i (by omega) 0)
   have b2 := h.bd _ (getD_mem l i hi 0)
   rw [drop_getD l i hi 0, drop_getD o i (by omega) 0] at *
   have := ih (acc ++ [o.getD i 0 + min s (l.getD i 0 - o.getD i 0)]) (s - min s (l.getD i 0 - o.getD i 0)) (by simp [ha]) (by omega) (by omega)
   rw [fill]
   rw [List.append_assoc, List.singleton_append, List.append_assoc, List.singleton_append] at this
   refine Ev.step (fun k => ?_) this
   simp only [spec_l18Divide.l3]
   rw [if_pos (by omega), if_pos (by omega), if_pos (by omega), e1, rd_nat, w64 (x := l.getD i 0 - o.getD i 0) (by omega) (by omega), least_eq, Option.bind_some, w64s (by omega), Int.toNat_natCast, w64 (x := o.getD i 0 + min s (l.getD i 0 - o.getD i 0)) (by omega) (by omega), w64 (x := s - min s (l.getD i 0 - o.getD i 0)) (by omega) (by omega), e3, List.append_assoc, List.singleton_append]
 -- the round before: no more than is due
 have k2 : ∀ (o : List Int), o.length = l.length → (∀ x ∈ o, 0 ≤ x ∧ x ≤ 1000000020) → ∀ V, ∀ i, i ≤ l.length → ∀ (acc : List Int) (s : Int), acc.length = i → 0 ≤ s → s ≤ 1000000020 * (i : Int) → Ev (fun k => spec_l18Divide.l3 k l (acc ++ clip (o.drop i) (l.drop i)) (s + total (o.drop i) - total (clip (o.drop i) (l.drop i))) 0) V → Ev (fun k => spec_l18Divide.l2 k l (acc ++ o.drop i) s (i : Int)) V := by
  intro o ho hob V
  refine down l.length ?_ (fun i hi ih => ?_)
  ·
   intro acc s ha _ _ hV
   rw [List.drop_of_length_le (by omega), List.drop_of_length_le (by omega)] at *
   refine Ev.step (fun k => ?_) hV
   simp only [spec_l18Divide.l2]
   rw [List.append_nil, if_neg (by omega), clip_nil, List.append_nil, show s + total [] - total [] = s by omega]
  ·
   intro acc s ha hs0 hs1 hV
   obtain ⟨e1, e2, e3⟩ := app_at acc o i ha (by omega)
   have b1 := hob _ (getD_mem o i (by omega) 0)
   have b2 := h.bd _ (getD_mem l i hi 0)
   rw [drop_getD l i hi 0, drop_getD o i (by omega) 0] at *
   rw [clip, total_cons, total_cons] at hV
   by_cases c : o.getD i 0 > l.getD i 0
   ·
    have := ih (acc ++ [l.getD i 0]) (s + o.getD i 0 - l.getD i 0) (by simp [ha]) (by omega) (by omega) (by
     rw [List.append_assoc, List.singleton_append]
     rw [show min (o.getD i 0) (l.getD i 0) = l.getD i 0 by omega] at hV
     rw [show s + o.getD i 0 - l.getD i 0 + total (o.drop (i + 1)) - total (clip (o.drop (i + 1)) (l.drop (i + 1))) = s + (o.getD i 0 + total (o.drop (i + 1))) - (l.getD i 0 + total (clip (o.drop (i + 1)) (l.drop (i + 1)))) by omega]
     exact hV)
    refine Ev.step (fun k => ?_) this
    simp only [spec_l18Divide.l2]
    rw [if_pos (by omega), if_pos (by omega), if_pos (by omega), e1, rd_nat, if_pos c, w64s (by omega), Int.toNat_natCast, e3, w64 (x := s + o.getD i 0) (by omega) (by omega), w64 (x := s + o.getD i 0 - l.getD i 0) (by omega) (by omega)]
   ·
    have := ih (acc ++ [o.getD i 0]) s (by simp [ha]) (by omega) (by omega) (by
     rw [List.append_assoc, List.singleton_append]
     rw [show min (o.getD i 0) (l.getD i 0) = o.getD i 0 by omega] at hV
     rw [show s + total (o.drop (i + 1)) - total (clip (o.drop (i + 1)) (l.drop (i + 1))) = s + (o.getD i 0 + total (o.drop (i + 1))) - (o.getD i 0 + total (clip (o.drop (i + 1)) (l.drop (i + 1)))) by omega]
     exact hV)
    rw [List.append_assoc, List.singleton_append] at this
    refine Ev.step (fun k => ?_) this
    simp only [spec_l18Divide.l2]
    rw [if_pos (by omega), if_pos (by omega), if_pos (by omega), e1, rd_nat, if_neg c, w64s (by omega)]
 have k2' : Ev (fun k => spec_l18Divide.l2 k l (share T (wts l)) 0 0) (parts T l) := by
  have := k2 (share T (wts l)) s1 s2 (parts T l) 0 (Nat.zero_le _) [] 0 rfl (by omega) (by omega) (by
   have := k3 (clip (share T (wts l)) l) (clip_len _ _ s1) (fun x hx => by have := clip_bd _ _ (fun x hx => (s2 x hx).1) h.bd x hx; omega) 0 (Nat.zero_le _) [] (T - total (clip (share T (wts l)) l)) rfl (by
    have := clip_total _ _ s1
    have := h.t0
    omega) (by
    have := (total_ge (clip (share T (wts l)) l) (fun x hx => (clip_bd _ _ (fun x hx => (s2 x hx).1) h.bd x hx).1)).1
    have := h.lt
    have := h.tot
    omega)
   simp only [List.drop_zero, List.nil_append] at this ⊢
   rw [s3, Int.zero_add]
   exact this)
  simpa using this
 have k1 : ∀ i, i ≤ l.length → Ev (fun k => spec_l18Divide.l1 k l T ((wts l).take i) (isBig l) (i : Int)) (parts T l) := by
  refine down l.length ?_ (fun i hi ih => ?_)
  ·
   refine Ev.step (f := fun k => (spec_l2Share.f k T (wts l)).bind fun t => spec_l18Divide.l2 k l t 0 0) (fun k => ?_) (Ev.bind h.w.specShare k2')
   simp only [spec_l18Divide.l1]
   rw [if_neg (by omega), List.take_of_length_le (by rw [wts_len]; omega)]
  ·
   have hw := wts_len l
   have e := take_getD (wts l) i (by omega) 0
   have b2 := h.bd _ (getD_mem l i hi 0)
   refine Ev.step (fun k => ?_) ih
   simp only [spec_l18Divide.l1]
   rw [if_pos (by omega), if_pos (by omega), e, w64s (by omega), rd_nat]
   cases hb : isBig l with
   | true =>
    have e2 : (wts l).getD i 0 = (l.getD i 0 + 999) / 1000 := by
     unfold wts
     rw [if_pos hb]
     exact map_getD _ l i hi
    rw [if_pos rfl, if_pos (by rw [List.length_take]; omega), w64 (x := l.getD i 0 + 999) (by omega) (by omega), Int.tdiv_eq_ediv_of_nonneg (by omega), w64 (x := (l.getD i 0 + 999) / 1000) (by omega) (by omega), e2]
   | false =>
    have e2 : (wts l).getD i 0 = l.getD i 0 := by
     unfold wts
     rw [if_neg (by simp [hb])]
    rw [if_neg (by simp), if_pos (by rw [List.length_take]; omega), e2]
 have k0 : ∀ i, i ≤ l.length → Ev (fun k => spec_l18Divide.l0 k l T [] (isBig (l.take i)) (i : Int)) (parts T l) := by
  refine down l.length ?_ (fun i hi ih => ?_)
  ·
   refine Ev.step (fun k => ?_) (k1 0 (Nat.zero_le _))
   simp only [spec_l18Divide.l0]
   rw [if_neg (by omega), List.take_length]
   rfl
  ·
   refine Ev.step (fun k => ?_) ih
   simp only [spec_l18Divide.l0]
   rw [if_pos (by omega), w64s (by omega), take_getD l i hi 0, rd_nat]
   have e : isBig (l.take i ++ [l.getD i 0]) = (isBig (l.take i) || decide (l.getD i 0 > 1000000)) := by simp [isBig]
   rw [e]
   cases isBig (l.take i) with
   | true => rw [if_pos rfl, Bool.true_or]
   | false => rw [if_neg (by simp), if_pos (by omega), Bool.false_or]
 exact k0 0 (Nat.zero_le _)
theorem foldl_max (l : List Int) : ∀ s : Int, (l.foldl max s > 1000000) ↔ (s > 1000000 ∨ isBig l = true) := by
 induction l with
 | nil => intro s; simp [isBig]
 | cons x l ih =>
  intro s
  rw [List.foldl_cons, ih]
  unfold isBig
  rw [List.any_cons, Bool.or_eq_true, decide_eq_true_eq]
  constructor
  ·
   rintro (h | h)
   ·
    by_cases c : s > 1000000
    ·
     exact .inl c
    ·
     exact .inr (.inl (by omega))
   ·
    exact .inr (.inr h)
  ·
   rintro (h | h | h)
   ·
    exact .inl (by omega)
   ·
    exact .inl (by omega)
   ·
    exact .inr h
theorem max_big (l : List Int) (h : 0 < l.length) : (Lib.maxOf l > 1000000) ↔ isBig l = true := by
 unfold Lib.maxOf
 cases l with
 | nil => simp at h
 | cons x l =>
  rw [foldl_max, List.headD_cons]
  constructor
  ·
   rintro (h | h)
   ·
    unfold isBig
    rw [List.any_cons, decide_eq_true h, Bool.true_or]
   ·
    exact h
  ·
   exact .inr
theorem Dues.impl {T : Int} {l : List Int} (h : Dues T l) : Ev (fun k => impl_divided.f k T l) (parts T l) := by
 obtain ⟨s1, s2, s3⟩ := h.share_
 have hlen := h.len
 have hne : 0 < l.length := by
  have := h.w.ne
  rwa [wts_len] at this
 unfold impl_divided.f slices_Clone_int_int.f slices_Max_int_int.f
 rw [if_pos (by omega), if_pos hne]
 simp only [Option.bind_some]
 have k2 : ∀ (o : List Int), o.length = l.length → (∀ x ∈ o, 0 ≤ x ∧ x ≤ 1000000020) → ∀ i, i ≤ l.length → ∀ (acc : List Int) (s : Int), acc.length = i → -1000000000000 - 3000000000 * (i : Int) ≤ s → s ≤ 1000000000000 + 3000000000 * (i : Int) → Ev (fun k => impl_divided.l2 k l (acc ++ o.drop i) s (l.length : Int) (i : Int)) (acc ++ fill s (o.drop i) (l.drop i)) := by
  intro o ho hob
  refine down l.length ?_ (fun i hi ih => ?_)
  ·
   intro acc s ha _ _
   rw [List.drop_of_length_le (by omega), List.drop_of_length_le (by omega)]
   refine Ev.step (f := fun _ => some acc) (fun k => ?_) (by rw [fill_nil, List.append_nil]; exact Ev.now _)
   simp only [impl_divided.l2]
   rw [List.append_nil, if_neg (by omega)]
  ·
   intro acc s ha hs0 hs1
   obtain ⟨e1, e2, e3⟩ := app_at acc o i ha (by omega)
   have b1 := hob _ (getD_mem o i (by omega) 0)
   have b2 := h.bd _ (getD_mem l i hi 0)
   rw [drop_getD l i hi 0, drop_getD o i (by omega) 0] at *
   have := ih (acc ++ [o.getD i 0 + min s (l.getD i 0 - o.getD i 0)]) (s - min s (l.getD i 0 - o.getD i 0)) (by simp [ha]) (by omega) (by omega)
   rw [fill]
   rw [List.append_assoc, List.singleton_append, List.append_assoc, List.singleton_append] at this
   refine Ev.step (fun k => ?_) this
   simp only [impl_divided.l2]
   rw [if_pos (by omega), if_pos (by omega), if_pos (by omega), if_pos (by omega), e1, rd_nat, w64 (x := l.getD i 0 - o.getD i 0) (by omega) (by omega), mn_eq, w64s (by omega), Int.toNat_natCast, w64 (x := o.getD i 0 + min s (l.getD i 0 - o.getD i 0)) (by omega) (by omega), w64 (x := s - min s (l.getD i 0 - o.getD i 0)) (by omega) (by omega), e3, List.append_assoc, List.singleton_append]
 have k1 : ∀ (o : List Int), o.length = l.length → (∀ x ∈ o, 0 ≤ x ∧ x ≤ 1000000020) → ∀ V, ∀ i, i ≤ l.length → ∀ (acc : List Int) (s : Int), acc.length = i → -1000000020 * (i : Int) ≤ s → s ≤ 1000000000 → Ev (fun k => impl_divided.l2 k l (acc ++ clip (o.drop i) (l.drop i)) (s - total (clip (o.drop i) (l.drop i))) (l.length : Int) 0) V → Ev (fun k => impl_divided.l1 k l (acc ++ o.drop i) s (l.length : Int) (i : Int)) V := by
  intro o ho hob V
  refine down l.length ?_ (fun i hi ih => ?_)
  ·
   intro acc s ha _ _ hV
   rw [List.drop_of_length_le (by omega), List.drop_of_length_le (by omega)] at *
   rw [clip_nil, show s - total [] = s by simp [total], List.append_nil] at hV
   refine Ev.step (fun k => ?_) hV
   simp only [impl_divided.l1]
   rw [List.append_nil, if_neg (by omega), ha]
  ·
   intro acc s ha hs0 hs1 hV
   obtain ⟨e1, e2, e3⟩ := app_at acc o i ha (by omega)
   have b1 := hob _ (getD_mem o i (by omega) 0)
   have b2 := h.bd _ (getD_mem l i hi 0)
   rw [drop_getD l i hi 0, drop_getD o i (by omega) 0] at *
   rw [clip, total_cons] at hV
   have := ih (acc ++ [min (o.getD i 0) (l.getD i 0)]) (s - min (o.getD i 0) (l.getD i 0)) (by simp [ha]) (by omega) (by omega) (by
    rw [List.append_assoc, List.singleton_append]
    rw [show s - min (o.getD i 0) (l.getD i 0) - total (clip (o.drop (i + 1)) (l.drop (i + 1))) = s - (min (o.getD i 0) (l.getD i 0) + total (clip (o.drop (i + 1)) (l.drop (i + 1)))) by omega]
    exact hV)
   refine Ev.step (fun k => ?_) this
   simp only [impl_divided.l1]
   rw [if_pos (by omega), if_pos (by omega), if_pos (by omega), if_pos (by omega), e1, rd_nat, mn_eq, w64s (by omega), Int.toNat_natCast, e3, w64 (x := s - min (o.getD i 0) (l.getD i 0)) (by omega) (by omega)]
 have j1 : Ev (fun k => impl_divided.j1 k T l (wts l)) (parts T l) := by
  refine Ev.step (f := fun k => (impl_shares.f k T (wts l)).bind fun t => impl_divided.l1 k l t T (t.length : Int) 0) (fun k => by simp only [impl_divided.j1]) (Ev.bind h.w.implShare ?_)
  have := k1 (share T (wts l)) s1 s2 (parts T l) 0 (Nat.zero_le _) [] T rfl (by have := h.t0; omega) (by have := h.lt; have := h.tot; omega) (by
   have := k2 (clip (share T (wts l)) l) (clip_len _ _ s1) (fun x hx => by have := clip_bd _ _ (fun x hx => (s2 x hx).1) h.bd x hx; omega) 0 (Nat.zero_le _) [] (T - total (clip (share T (wts l)) l)) rfl (by
    have := clip_total _ _ s1
    have := h.t0
    omega) (by
    have := (total_ge (clip (share T (wts l)) l) (fun x hx => (clip_bd _ _ (fun x hx => (s2 x hx).1) h.bd x hx).1)).1
    have := h.lt
    have := h.tot
    omega)
   simp only [List.drop_zero, List.nil_append] at this ⊢
   exact this)
  rw [s1]
  simpa using this
 by_cases c : Lib.maxOf l > 1000000
 ·
  simp only [if_pos c]
  have hb := (max_big l hne).1 c
  have hw : wts l = l.map (fun d => (d + 999) / 1000) := by unfold wts; rw [if_pos hb]
  have k0 : ∀ i, i ≤ l.length → Ev (fun k => impl_divided.l0 k T l ((wts l).take i ++ l.drop i) l (l.length : Int) (i : Int)) (parts T l) := by
   refine down l.length ?_ (fun i hi ih => ?_)
   ·
    refine Ev.step (fun k => ?_) j1
    simp only [impl_divided.l0]
    rw [if_neg (by omega), List.take_of_length_le (by rw [wts_len]; omega), List.drop_of_length_le (by omega), List.append_nil]
   ·
    have hwl := wts_len l
    obtain ⟨e1, e2, e3⟩ := app_at ((wts l).take i) l i (by rw [List.length_take]; omega) hi
    have b2 := h.bd _ (getD_mem l i hi 0)
    have e4 : (wts l).getD i 0 = (l.getD i 0 + 999) / 1000 := by rw [hw]; exact map_getD _ l i hi
    refine Ev.step (fun k => ?_) ih
    simp only [impl_divided.l0]
    rw [if_pos (by omega), if_pos (by omega), if_pos (by omega), if_pos (by omega), rd_nat, w64 (x := l.getD i 0 + 999) (by omega) (by omega), Int.tdiv_eq_ediv_of_nonneg (by omega), w64 (x := (l.getD i 0 + 999) / 1000) (by omega) (by omega), ← e4, Int.toNat_natCast, e3, ← take_getD (wts l) i (by omega) 0, w64s (by omega)]
  have := k0 0 (Nat.zero_le _)
  simpa using this
 ·
  simp only [if_neg c]
  have hb : ¬ isBig l = true := fun hb => c ((max_big l hne).2 hb)
  have hw : wts l = l := by unfold wts; rw [if_neg hb]
  rw [hw] at j1
  exact j1

/-! an estate: claims of one rank -/
def trs (l : List Int) : List S85 := l.map fun d => (⟨1, d⟩ : S85)
theorem trs_len (l : List Int) : (trs l).length = l.length := by simp [trs]
theorem trs_get (l : List Int) (i : Nat) (h : i < l.length) : rd_T85 (trs l) (i : Int) = ⟨1, l.getD i 0⟩ := by
 show (trs l).getD i z85 = _
 simp [trs, List.getD_eq_getElem?_getD, List.getElem?_map, List.getElem?_eq_getElem h]
theorem trs_f0 (l : List Int) (i : Nat) (h : i < l.length) : (rd_T85 (trs l) (i : Int)).f0 = 1 := by rw [trs_get l i h]
theorem trs_f1 (l : List Int) (i : Nat) (h : i < l.length) : (rd_T85 (trs l) (i : Int)).f1 = l.getD i 0 := by rw [trs_get l i h]
theorem rank_ok : (decide ((1 : Int) ≤ 1) && decide ((1 : Int) ≤ 10)) = true := rfl
theorem w01 : wrap64 (0 + 1) = 1 := w64 (by omega) (by omega)
def okd (d : Int) : Bool := decide (0 ≤ d) && decide (d ≤ 1000000000)
theorem okd_iff {d : Int} : okd d = true ↔ 0 ≤ d ∧ d ≤ 1000000000 := by simp [okd]
def good (l : List Int) : Bool := (decide (l.length ≤ 20) && l.all okd) && decide (total l ≤ 1000000000)
theorem total_bd' (l : List Int) (h : ∀ i, i < l.length → 0 ≤ l.getD i 0 ∧ l.getD i 0 ≤ 1000000000) : ∀ i, i ≤ l.length → 0 ≤ total (l.take i) ∧ total (l.take i) ≤ 1000000000 * (i : Int)
 | 0, _ => by simp [total]
 | i + 1, hi => by
  have ih := total_bd' l h i (by omega)
  have := h i (by omega)
  rw [take_total l i (by omega)]
  omega
theorem specGood_ev (l : List Int) (hl : l.length ≤ 1048576) : Ev (fun k => spec_l18Good.f k (trs l)) (good l) := by
 unfold spec_l18Good.f
 have key : ∀ i, i ≤ l.length → i ≤ 21 → 0 ≤ total (l.take i) → total (l.take i) ≤ 1000000000 * (i : Int) → Ev (fun k => spec_l18Good.l0 k (trs l) (total (l.take i)) (i : Int)) ((decide (l.length ≤ 20) && (l.drop i).all okd) && decide (total l ≤ 1000000000)) := by
  refine down l.length ?_ (fun i hi ih => ?_)
  ·
   intro _ _ _
   refine Ev.step (f := fun k => spec_l18Good.j1 k (trs l) (total l) (l.length : Int) false) (fun k => ?_) (Ev.step (f := fun _ => if (l.length : Int) ≤ 20 then some (decide (total l ≤ 1000000000)) else some false) (fun k => ?_) ?_)
   ·
    simp only [spec_l18Good.l0]
    rw [trs_len, if_neg (by omega), List.take_length]
   ·
    simp only [spec_l18Good.j1]
    rw [trs_len, if_neg (by simp)]
   ·
    rw [List.drop_length, List.all_nil, Bool.and_true]
    by_cases c : l.length ≤ 20
    ·
     simp only [if_pos (show (l.length : Int) ≤ 20 by omega), decide_eq_true c, Bool.true_and]
     exact Ev.now _
    ·
     simp only [if_neg (show ¬ (l.length : Int) ≤ 20 by omega), decide_eq_false c, Bool.false_and]
     exact Ev.now _
  ·
   intro h21 ht0 ht1
   rw [drop_getD l i hi 0, List.all_cons]
   have hg0 := trs_f0 l i hi
   have hg := trs_f1 l i hi
   have htt := take_total l i hi
   generalize l.getD i 0 = d at hg htt ⊢
   by_cases c : (i : Int) ≤ 20
   ·
    refine Ev.step (f := fun k => spec_l18Good.j1 k (trs l) (total (l.take i)) (i : Int) true) (fun k => ?_) ?_
    ·
     simp only [spec_l18Good.l0]
     rw [trs_len, if_pos (by omega), decide_eq_true c]
    ·
     cases ho : okd d with
     | true =>
      have hd := okd_iff.1 ho
      rw [Bool.true_and]
      refine Ev.step (fun k => ?_) (ih (by omega) (by omega) (by omega))
      simp only [spec_l18Good.j1]
      rw [if_pos trivial, trs_len, if_pos (by omega), if_pos (by omega), hg0, hg, l1In_eq, l1In_eq, Option.bind_some, if_pos rank_ok, Option.bind_some, show (decide ((0 : Int) ≤ d) && decide (d ≤ 1000000000)) = true from ho, if_pos rfl, w64s (by omega), htt, w64 (by omega) (by omega)]
     | false =>
      rw [Bool.false_and, Bool.and_false, Bool.false_and]
      refine Ev.step (f := fun _ => some false) (fun k => ?_) (Ev.now _)
      simp only [spec_l18Good.j1]
      rw [if_pos trivial, trs_len, if_pos (by omega), if_pos (by omega), hg0, hg, l1In_eq, l1In_eq, Option.bind_some, if_pos rank_ok, Option.bind_some, show (decide ((0 : Int) ≤ d) && decide (d ≤ 1000000000)) = false from ho]
      rfl
   ·
    have hL : ¬ l.length ≤ 20 := by omega
    rw [decide_eq_false hL, Bool.false_and, Bool.false_and]
    refine Ev.step (f := fun k => spec_l18Good.j1 k (trs l) (total (l.take i)) (i : Int) false) (fun k => ?_) (Ev.step (f := fun _ => some false) (fun k => ?_) (Ev.now _))
    ·
     simp only [spec_l18Good.l0]
     rw [trs_len, if_pos (by omega), decide_eq_false c]
    ·
     simp only [spec_l18Good.j1]
     rw [if_neg (by simp), trs_len, if_neg (by omega)]
 have := key 0 (Nat.zero_le _) (by omega) (by simp [total]) (by simp [total])
 simpa [total, good] using this
theorem implGood_ev (l : List Int) (h : sums l = true) : Ev (fun k => impl_IsValidTranches.f k (trs l)) (decide (total l ≤ 1000000000)) := by
 have hl := sums_len h
 have hb := total_bd' l (fun i hi => sums_mem h _ (getD_mem l i hi 0))
 unfold impl_IsValidTranches.f
 have key : ∀ i, i ≤ l.length → Ev (fun k => impl_IsValidTranches.l0 k (trs l) (total (l.take i)) (trs l) ((trs l).length : Int) (i : Int)) (decide (total l ≤ 1000000000)) := by
  refine down l.length ?_ (fun i hi ih => ?_)
  ·
   have := hb l.length (Nat.le_refl _)
   rw [List.take_length] at this
   refine Ev.step (f := fun _ => some (decide (total l ≤ 1000000000))) (fun k => ?_) (Ev.now _)
   simp only [impl_IsValidTranches.l0]
   rw [trs_len, if_neg (by omega), if_pos (by omega), isAmount_eq, Option.bind_some, List.take_length]
   unfold am
   rw [decide_eq_true (show -1000000000 ≤ total l by omega), Bool.true_and]
  ·
   have h1 := sums_mem h _ (getD_mem l i hi 0)
   have h2 := hb (i + 1) (by omega)
   have hg0 := trs_f0 l i hi
   have hg := trs_f1 l i hi
   have htt := take_total l i hi
   refine Ev.step (fun k => ?_) ih
   simp only [impl_IsValidTranches.l0]
   rw [trs_len, if_pos (by omega), if_pos (by omega), if_pos (by omega), hg0, hg, within_eq, within_eq, Option.bind_some, if_pos rank_ok, Option.bind_some, if_pos (by rw [decide_eq_true h1.1, decide_eq_true h1.2]; rfl), w64s (by omega), ← htt, w64 (x := total (l.take (i + 1))) (by omega) (by omega)]
 have := key 0 (Nat.zero_le _)
 simpa [total] using this
theorem good_sums (l : List Int) : good l = (sums l && decide (total l ≤ 1000000000)) := by
 unfold good sums ams
 congr 1
 rw [Bool.and_assoc]
 congr 1
 have : ∀ l : List Int, l.all okd = (l.all am && l.all fun x => decide (0 ≤ x)) := by
  intro l
  induction l with
  | nil => rfl
  | cons x l ih =>
   rw [List.all_cons, List.all_cons, List.all_cons, ih]
   have : okd x = (am x && decide (0 ≤ x)) := by
    rw [Bool.eq_iff_iff, Bool.and_eq_true, okd_iff, am_iff, decide_eq_true_eq]
    omega
   rw [this]
   cases am x <;> cases decide (0 ≤ x) <;> cases l.all am <;> simp
 exact this l
/-- What the creditors get. -/
def dist (T : Int) (l : List Int) : List Int := if T < total l then parts T l else l
theorem puts_all (at_ : Nat → Int) (out ps : List Int) (hat : ∀ i, i < ps.length → at_ i = (i : Int)) (h : out.length = ps.length) (i : Nat) (hi : i < ps.length) : (ps.take i ++ out.drop i).set (at_ i).toNat (ps.getD i 0) = ps.take (i + 1) ++ out.drop (i + 1) := by
 rw [hat i hi, Int.toNat_natCast, take_getD ps i hi 0]
 exact (app_at (ps.take i) out i (by rw [List.length_take]; omega) (by omega)).2.2 _
theorem idxs_get (n i : Nat) (h : i < n) : (idxs n).getD i 0 = (i : Int) := by
 unfold idxs
 rw [List.getD_eq_getElem?_getD, List.getElem?_map, List.getElem?_range h]
 rfl
theorem idxs_take (n i : Nat) (h : i ≤ n) : (idxs n).take i = idxs i := by
 unfold idxs
 rw [← List.map_take, List.take_range, Nat.min_eq_left h]
/-- What the estate keeps to. -/
structure Est (T : Int) (l : List Int) : Prop where
 t0 : 0 ≤ T
 t1 : T ≤ 1000000000
 tot : total l ≤ 1000000000
 len : l.length ≤ 20
 bd : ∀ x ∈ l, 0 ≤ x ∧ x ≤ 1000000000
theorem Est.dist_ {T : Int} {l : List Int} (h : Est T l) : (dist T l).length = l.length ∧ ∀ x ∈ dist T l, 0 ≤ x ∧ x ≤ 1000000000 := by
 unfold dist
 split
 ·
  rename_i c
  exact (Dues.mk h.t0 c h.tot h.len h.bd).parts_
 ·
  exact ⟨rfl, h.bd⟩
theorem Est.idle {T : Int} {l : List Int} (h : Est T l) (h0 : total l = 0) : dist T l = List.replicate l.length 0 := by
 unfold dist
 rw [if_neg (by have := h.t0; omega)]
 have hz := total_ge l (fun x hx => (h.bd x hx).1)
 refine List.eq_replicate_iff.2 ⟨rfl, fun x hx => ?_⟩
 have := hz.2 x hx
 have := h.bd x hx
 omega
theorem Est.zero {l : List Int} (h : Est 0 l) : dist 0 l = List.replicate l.length 0 := by
 have hz := (total_ge l (fun x hx => (h.bd x hx).1)).1
 by_cases c : 0 < total l
 ·
  unfold dist
  rw [if_pos c]
  exact (Dues.mk h.t0 c h.tot h.len h.bd).zero
 ·
  exact h.idle (by omega)
theorem specRank_ev {T : Int} {l : List Int} (h : Est T l) : Ev (fun k => spec_l18Rank.f k (trs l) 1 T (List.replicate l.length 0)) (T - min T (total l), dist T l) := by
 have hlen := h.len
 have hb := total_bd' l (fun i hi => h.bd _ (getD_mem l i hi 0))
 have hz := (total_ge l (fun x hx => (h.bd x hx).1)).1
 unfold spec_l18Rank.f
 have fin : ∀ ps : List Int, ps.length = l.length → Ev (fun k => spec_l18Rank.j1 k T (List.replicate l.length 0) (idxs l.length) (total l) ps) (T - min T (total l), ps) := by
  intro ps hp
  refine Ev.step (f := fun k => spec_l18Rank.l1 k T (List.replicate l.length 0) (idxs l.length) (total l) ps 0) (fun k => by simp only [spec_l18Rank.j1]) ?_
  have key : ∀ i, i ≤ l.length → Ev (fun k => spec_l18Rank.l1 k T (ps.take i ++ (List.replicate l.length 0).drop i) (idxs l.length) (total l) ps (i : Int)) (T - min T (total l), ps) := by
   refine down l.length ?_ (fun i hi ih => ?_)
   ·
    refine Ev.step (f := fun _ => some (T - min T (total l), ps)) (fun k => ?_) (Ev.now _)
    have := h.t0
    have := h.t1
    have := h.tot
    simp only [spec_l18Rank.l1]
    rw [idxs_len, if_neg (by omega), least_eq, Option.bind_some, w64 (by omega) (by omega), List.take_of_length_le (by omega), List.drop_of_length_le (by simp), List.append_nil]
   ·
    refine Ev.step (fun k => ?_) ih
    have e := puts_all (fun i => rd (idxs l.length) (i : Int)) (List.replicate l.length 0) ps (fun i hi => by rw [rd_nat]; exact idxs_get _ _ (by omega)) (by simp [hp]) i (by omega)
    have e1 : rd (idxs l.length) (i : Int) = (i : Int) := by rw [rd_nat]; exact idxs_get _ _ hi
    simp only [spec_l18Rank.l1]
    rw [idxs_len, if_pos (by omega), if_pos (by omega), if_pos (by omega), e1, if_pos (by omega), if_pos (by simp; omega), w64s (by omega)]
    rw [e1] at e
    rw [rd_nat, e]
  have := key 0 (Nat.zero_le _)
  simpa using this
 have key : ∀ i, i ≤ l.length → Ev (fun k => spec_l18Rank.l0 k (trs l) 1 T (List.replicate l.length 0) (idxs i) (l.take i) (total (l.take i)) (i : Int)) (T - min T (total l), dist T l) := by
  refine down l.length ?_ (fun i hi ih => ?_)
  ·
   by_cases c0 : total l = 0
   ·
    rw [c0, h.idle c0, show T - min T 0 = T by have := h.t0; omega]
    refine Ev.step (f := fun _ => some (T, List.replicate l.length 0)) (fun k => ?_) (Ev.now _)
    simp only [spec_l18Rank.l0]
    rw [trs_len, if_neg (by omega), List.take_length, if_pos c0]
   ·
    unfold dist
    by_cases c : T < total l
    ·
     rw [if_pos c]
     have hd := Dues.mk h.t0 c h.tot h.len h.bd
     refine Ev.step (f := fun k => (spec_l18Divide.f k l T).bind fun t => spec_l18Rank.j1 k T (List.replicate l.length 0) (idxs l.length) (total l) t) (fun k => ?_) (Ev.bind hd.spec (fin _ hd.parts_.1))
     simp only [spec_l18Rank.l0]
     rw [trs_len, if_neg (by omega), List.take_length, if_neg c0, if_pos c]
    ·
     rw [if_neg c]
     refine Ev.step (fun k => ?_) (fin l rfl)
     simp only [spec_l18Rank.l0]
     rw [trs_len, if_neg (by omega), List.take_length, if_neg c0, if_neg c]
  ·
   have h2 := hb (i + 1) (by omega)
   have htt := take_total l i hi
   refine Ev.step (fun k => ?_) ih
   simp only [spec_l18Rank.l0]
   rw [trs_len, if_pos (by omega), if_pos (by omega), trs_f0 l i hi, trs_f1 l i hi, if_pos rfl, if_pos (by rw [idxs_len]; omega), if_pos (by rw [List.length_take]; omega), ← htt, w64 (x := total (l.take (i + 1))) (by omega) (by omega), w64s (by omega), idxs_succ, take_getD l i hi 0]
 have := key 0 (Nat.zero_le _)
 simpa [total, idxs] using this
theorem specIdle_ev (l : List Int) (hl : l.length ≤ 20) (r T : Int) (hr : ¬ (1 : Int) = r) (out : List Int) : Ev (fun k => spec_l18Rank.f k (trs l) r T out) (T, out) := by
 unfold spec_l18Rank.f
 have key : ∀ i, i ≤ l.length → Ev (fun k => spec_l18Rank.l0 k (trs l) r T out [] [] 0 (i : Int)) (T, out) := by
  refine down l.length ?_ (fun i hi ih => ?_)
  ·
   refine Ev.step (f := fun _ => some (T, out)) (fun k => ?_) (Ev.now _)
   simp only [spec_l18Rank.l0]
   rw [trs_len, if_neg (by omega), if_pos trivial]
  ·
   refine Ev.step (fun k => ?_) ih
   simp only [spec_l18Rank.l0]
   rw [trs_len, if_pos (by omega), if_pos (by omega), trs_f0 l i hi, if_neg hr, w64s (by omega)]
 exact key 0 (Nat.zero_le _)
theorem specDist_ev (T : Int) (l : List Int) (hl : l.length ≤ 1048576) : ∃ m, Ev (fun k => spec_DistributeCash.f k (trs l) T) (if (good l && (decide (0 ≤ T) && decide (T ≤ 1000000000))) = true then (dist T l, m, true) else ([], 0, false)) := by
 refine ⟨T - min T (total l), ?_⟩
 unfold spec_DistributeCash.f
 refine Ev.bind (specGood_ev l hl) ?_
 cases hg : good l with
 | false => exact Ev.step (f := fun _ => some ([], 0, false)) (fun k => by simp only [spec_DistributeCash.j0]; rfl) (Ev.now _)
 | true =>
  simp only [if_true, Bool.true_and]
  rw [l1In_eq]
  simp only [Option.bind_some]
  cases ht : (decide (0 ≤ T) && decide (T ≤ 1000000000)) with
  | false => exact Ev.step (f := fun _ => some ([], 0, false)) (fun k => by simp only [spec_DistributeCash.j0]; rfl) (Ev.now _)
  | true =>
   have hT : 0 ≤ T ∧ T ≤ 1000000000 := by simpa using ht
   unfold good at hg
   rw [Bool.and_eq_true, Bool.and_eq_true, decide_eq_true_eq, decide_eq_true_eq, List.all_eq_true] at hg
   have h : Est T l := ⟨hT.1, hT.2, hg.2, hg.1.1, fun x hx => okd_iff.1 (hg.1.2 x hx)⟩
   have hlen := h.len
   refine Ev.step (f := fun k => spec_DistributeCash.l0 k (trs l) T (List.replicate l.length 0) 1) (fun k => ?_) ?_
   ·
    simp only [spec_DistributeCash.j0]
    rw [trs_len, Bool.not_true, if_neg (by simp), if_pos (by omega), if_pos (by omega), Int.toNat_natCast]
   ·
    have rest : ∀ i : Nat, i ≤ 11 → 2 ≤ i → Ev (fun k => spec_DistributeCash.l0 k (trs l) (T - min T (total l)) (dist T l) (i : Int)) (dist T l, T - min T (total l), true) := by
     refine down 11 ?_ (fun i hi ih => ?_)
     ·
      intro _
      refine Ev.step (f := fun _ => some (dist T l, T - min T (total l), true)) (fun k => ?_) (Ev.now _)
      simp only [spec_DistributeCash.l0]
      rw [if_neg (by omega)]
     ·
      intro h2
      refine Ev.step (f := fun k => (spec_l18Rank.f k (trs l) (i : Int) (T - min T (total l)) (dist T l)).bind fun t => spec_DistributeCash.l0 k (trs l) t.1 t.2 ((i + 1 : Nat) : Int)) (fun k => ?_) (Ev.bind (specIdle_ev l hlen _ _ (by omega) _) (ih (by omega)))
      simp only [spec_DistributeCash.l0]
      rw [if_pos (by omega), w64s (by omega)]
    refine Ev.step (f := fun k => (spec_l18Rank.f k (trs l) 1 T (List.replicate l.length 0)).bind fun t => spec_DistributeCash.l0 k (trs l) t.1 t.2 2) (fun k => ?_) (Ev.bind (specRank_ev h) (rest 2 (by omega) (by omega)))
    simp only [spec_DistributeCash.l0]
    rw [if_pos (by omega), show wrap64 (1 + 1) = 2 from w64 (by omega) (by omega)]
def estate (T : Int) (l : List Int) : List Int × Bool := if (good l && (decide (0 ≤ T) && decide (T ≤ 1000000000))) = true then (dist T l, true) else ([], false)
theorem spec_ev (T : Int) (l : List Int) (hl : l.length ≤ 1048576) : Ev (fun k => spec_EstateDividend.f k T l) (estate T l) := by
 unfold spec_EstateDividend.f
 have key : ∀ i, i ≤ l.length → Ev (fun k => spec_EstateDividend.l0 k T l (trs (l.take i)) (i : Int)) (estate T l) := by
  refine down l.length ?_ (fun i hi ih => ?_)
  ·
   obtain ⟨m, hm⟩ := specDist_ev T l hl
   refine Ev.step (f := fun k => (spec_DistributeCash.f k (trs l) T).bind fun t => some (t.1, t.2.2)) (fun k => ?_) (Ev.bind hm ?_)
   ·
    simp only [spec_EstateDividend.l0]
    rw [if_neg (by omega), List.take_length]
   ·
    unfold estate
    split
    ·
     exact Ev.now _
    ·
     exact Ev.now _
  ·
   refine Ev.step (fun k => ?_) ih
   simp only [spec_EstateDividend.l0]
   rw [if_pos (by omega), if_pos (by omega), if_pos (by rw [trs_len, List.length_take]; omega), w64s (by omega), take_getD l i hi 0, rd_nat]
   simp [trs]
 have := key 0 (Nat.zero_le _)
 simpa [trs] using this
def ten : List Int := [1, 2, 3, 4, 5, 6, 7, 8, 9, 10]
theorem ten_take : ∀ i : Nat, i < 10 → ten.take (i + 1) = ten.take i ++ [((i + 1 : Nat) : Int)] := by decide
theorem ranks_ev : Ev (fun k => impl_ranksUp.f k) ten := by
 unfold impl_ranksUp.f
 have key : ∀ i : Nat, i ≤ 10 → Ev (fun k => impl_ranksUp.l0 k (ten.take i) ((i + 1 : Nat) : Int)) ten := by
  refine down 10 ?_ (fun i hi ih => ?_)
  ·
   refine Ev.step (f := fun _ => some ten) (fun k => ?_) (Ev.now _)
   simp only [impl_ranksUp.l0]
   rw [if_neg (by omega)]
   rfl
  ·
   refine Ev.step (fun k => ?_) ih
   simp only [impl_ranksUp.l0]
   rw [if_pos (by omega), if_pos (by rw [List.length_take]; omega), w64s (by omega), ten_take i hi]
 exact key 0 (Nat.zero_le _)
theorem ten_get : ∀ i : Nat, i < 10 → rd ten (i : Int) = ((i + 1 : Nat) : Int) := by decide
theorem implRest_ev (l : List Int) (hl : l.length ≤ 20) : ∀ i : Nat, i ≤ 10 → 1 ≤ i → ∀ (T : Int) (out : List Int), Ev (fun k => impl_servedBy.l0 k (trs l) T out ten 10 (i : Int)) (out, T) := by
 refine down 10 ?_ (fun i hi ih => ?_)
 ·
  intro _ T out
  refine Ev.step (f := fun _ => some (out, T)) (fun k => ?_) (Ev.now _)
  simp only [impl_servedBy.l0]
  rw [if_neg (by omega)]
 ·
  intro h1 T out
  have hr := ten_get i hi
  have key : ∀ j, j ≤ l.length → Ev (fun k => impl_servedBy.l1 k (trs l) T out ((i + 1 : Nat) : Int) [] [] ten 10 (i : Int) (trs l) (l.length : Int) (j : Int)) (out, T) := by
   refine down l.length ?_ (fun j hj ihj => ?_)
   ·
    refine Ev.step (f := fun k => impl_servedBy.j2 k (trs l) T out [] [] ten 10 (i : Int) true) (fun k => ?_) (Ev.step (fun k => ?_) (ih (by omega) T out))
    ·
     simp only [impl_servedBy.l1]
     rw [if_neg (by omega), if_pos (by simp)]
    ·
     simp only [impl_servedBy.j2]
     rw [if_pos trivial, w64s (by omega)]
   ·
    refine Ev.step (fun k => ?_) ihj
    simp only [impl_servedBy.l1]
    rw [if_pos (by omega), if_pos (by omega), if_pos (by rw [trs_len]; omega), trs_f0 l j hj, if_neg (by omega), w64s (by omega)]
  refine Ev.step (fun k => ?_) (key 0 (Nat.zero_le _))
  simp only [impl_servedBy.l0]
  rw [if_pos (by omega), if_pos (by omega), if_pos (by show (i : Int) < ((10 : Nat) : Int); omega), hr, trs_len]
  rfl
theorem implServed_ev {T : Int} {l : List Int} (h : Est T l) : ∃ m, Ev (fun k => impl_servedBy.f k (trs l) T ten) (dist T l, m) := by
 have hlen := h.len
 have hb20 : ∀ x ∈ l, -1000000000 ≤ x ∧ x ≤ 1000000000 := fun x hx => by have := h.bd x hx; omega
 have rest : ∀ (T' : Int) (out : List Int), Ev (fun k => impl_servedBy.l0 k (trs l) T' out ten 10 1) (out, T') := fun T' out => implRest_ev l hlen 1 (by omega) (by omega) T' out
 have fin : ∀ ps : List Int, ps.length = l.length → (∀ x ∈ ps, 0 ≤ x ∧ x ≤ 1000000000) → ∃ m, Ev (fun k => impl_servedBy.j3 k (trs l) T (List.replicate l.length 0) (idxs l.length) ps ten 10 0) (ps, m) := by
  intro ps hp hpb
  refine ⟨wrap64 (T - total ps), ?_⟩
  refine Ev.step (f := fun k => impl_servedBy.l2 k (trs l) T (List.replicate l.length 0) ps ten 10 0 (idxs l.length) (l.length : Int) 0) (fun k => by simp only [impl_servedBy.j3]; rw [idxs_len]) ?_
  have key : ∀ i, i ≤ l.length → Ev (fun k => impl_servedBy.l2 k (trs l) T (ps.take i ++ (List.replicate l.length 0).drop i) ps ten 10 0 (idxs l.length) (l.length : Int) (i : Int)) (ps, wrap64 (T - total ps)) := by
   refine down l.length ?_ (fun i hi ih => ?_)
   ·
    refine Ev.step (f := fun k => (impl_sumOf.f k ps).bind fun t => impl_servedBy.l0 k (trs l) (wrap64 (T - t)) ps ten 10 1) (fun k => ?_) (Ev.bind (sum_both ps (by omega) (fun x hx => by have := hpb x hx; omega)).2 (rest _ _))
    simp only [impl_servedBy.l2]
    rw [if_neg (by omega), List.take_of_length_le (by omega), List.drop_of_length_le (by simp), List.append_nil, w01]
   ·
    refine Ev.step (fun k => ?_) ih
    have e := puts_all (fun i => rd (idxs l.length) (i : Int)) (List.replicate l.length 0) ps (fun i hi => by rw [rd_nat]; exact idxs_get _ _ (by omega)) (by simp [hp]) i (by omega)
    have e1 : rd (idxs l.length) (i : Int) = (i : Int) := by rw [rd_nat]; exact idxs_get _ _ hi
    simp only [impl_servedBy.l2]
    rw [if_pos (by omega), if_pos (by omega), if_pos (by rw [idxs_len]; omega), if_pos (by omega), e1, if_pos (by omega), if_pos (by simp; omega), w64s (by omega)]
    rw [e1] at e
    rw [rd_nat, e]
  have := key 0 (Nat.zero_le _)
  simpa using this
 have skip : ∀ (own ds : List Int), List.replicate l.length 0 = dist T l → Ev (fun k => impl_servedBy.j2 k (trs l) T (List.replicate l.length 0) own ds ten 10 0 true) (dist T l, T) := by
  intro own ds he
  rw [← he]
  refine Ev.step (fun k => ?_) (rest T _)
  simp only [impl_servedBy.j2]
  rw [if_pos trivial, w01]
 have behind : ∃ m, Ev (fun k => if ((idxs l.length).length : Int) = 0 then impl_servedBy.j2 k (trs l) T (List.replicate l.length 0) (idxs l.length) l ten 10 0 true else impl_servedBy.j2 k (trs l) T (List.replicate l.length 0) (idxs l.length) l ten 10 0 (T == 0)) (dist T l, m) := by
  rw [idxs_len]
  by_cases c0 : (l.length : Int) = 0
  ·
   refine ⟨T, ?_⟩
   simp only [if_pos c0]
   have : l = [] := List.eq_nil_of_length_eq_zero (by omega)
   subst this
   exact skip _ _ (h.idle (by simp [total])).symm
  ·
   simp only [if_neg c0]
   by_cases cT : T = 0
   ·
    subst cT
    exact ⟨0, skip _ _ h.zero.symm⟩
   ·
    rw [beq_eq_false_iff_ne.mpr cT]
    have step : ∀ k, impl_servedBy.j2 (k + 1) (trs l) T (List.replicate l.length 0) (idxs l.length) l ten 10 0 false = (impl_sumOf.f k l).bind fun t => if T < t then (impl_divided.f k T l).bind fun t2 => impl_servedBy.j3 k (trs l) T (List.replicate l.length 0) (idxs l.length) t2 ten 10 0 else impl_servedBy.j3 k (trs l) T (List.replicate l.length 0) (idxs l.length) l ten 10 0 := fun k => by
     simp only [impl_servedBy.j2]
     rw [if_neg (by simp)]
    by_cases c : T < total l
    ·
     have hd := Dues.mk h.t0 c h.tot h.len h.bd
     obtain ⟨m, hm⟩ := fin _ hd.parts_.1 hd.parts_.2
     refine ⟨m, Ev.step step (Ev.bind (sum_both l hlen hb20).2 ?_)⟩
     unfold dist
     simp only [if_pos c]
     exact Ev.bind hd.impl hm
    ·
     obtain ⟨m, hm⟩ := fin l rfl h.bd
     refine ⟨m, Ev.step step (Ev.bind (sum_both l hlen hb20).2 ?_)⟩
     unfold dist
     simp only [if_neg c]
     exact hm
 obtain ⟨m, hm⟩ := behind
 refine ⟨m, ?_⟩
 unfold impl_servedBy.f
 have key : ∀ i, i ≤ l.length → Ev (fun k => impl_servedBy.l1 k (trs l) T (List.replicate l.length 0) 1 (idxs i) (l.take i) ten 10 0 (trs l) (l.length : Int) (i : Int)) (dist T l, m) := by
  refine down l.length ?_ (fun i hi ih => ?_)
  ·
   refine Ev.step (fun k => ?_) hm
   simp only [impl_servedBy.l1]
   rw [if_neg (by omega), List.take_length]
  ·
   refine Ev.step (fun k => ?_) ih
   simp only [impl_servedBy.l1]
   rw [if_pos (by omega), if_pos (by omega), if_pos (by rw [trs_len]; omega), trs_f0 l i hi, trs_f1 l i hi, if_pos rfl, if_pos (by rw [idxs_len]; omega), if_pos (by rw [List.length_take]; omega), w64s (by omega), idxs_succ, take_getD l i hi 0]
 refine Ev.congr (f := fun k => impl_servedBy.l0 k (trs l) T (List.replicate l.length 0) ten 10 0) (fun k => ?_) (Ev.step (fun k => ?_) (key 0 (Nat.zero_le _)))
 ·
  rw [trs_len, if_pos (by omega), if_pos (by omega), Int.toNat_natCast]
  rfl
 ·
  simp only [impl_servedBy.l0]
  rw [if_pos (by omega), if_pos (by omega), if_pos (by show (0 : Int) < ((10 : Nat) : Int); omega), trs_len]
  rfl
theorem implDist_ev (T : Int) (l : List Int) (hs : sums l = true) : ∃ m, Ev (fun k => impl_DistributeCash.f k (trs l) T) (if (good l && (decide (0 ≤ T) && decide (T ≤ 1000000000))) = true then (dist T l, m, true) else ([], 0, false)) := by
 unfold impl_DistributeCash.f
 have hgs := good_sums l
 rw [hs, Bool.true_and] at hgs
 have hok : Ev (fun k => impl_IsValidTranches.f k (trs l)) (good l) := by rw [hgs]; exact implGood_ev l hs
 by_cases hg : good l = true
 ·
  by_cases ht : (decide (0 ≤ T) && decide (T ≤ 1000000000)) = true
  ·
   have hT : 0 ≤ T ∧ T ≤ 1000000000 := by simpa using ht
   rw [hgs, decide_eq_true_eq] at hg
   have h : Est T l := ⟨hT.1, hT.2, hg, sums_len hs, sums_mem hs⟩
   obtain ⟨m, hm⟩ := implServed_ev h
   refine ⟨m, Ev.bind hok ?_⟩
   rw [hgs, decide_eq_true hg, ht]
   simp only [if_true, Bool.and_self]
   rw [within_eq, ht]
   simp only [Option.bind_some]
   refine Ev.step (f := fun k => (impl_ranksUp.f k).bind fun t => (impl_servedBy.f k (trs l) T t).bind fun b => some (b.1, b.2, true)) (fun k => by simp only [impl_DistributeCash.j0]; rfl) (Ev.bind ranks_ev (Ev.bind hm (Ev.now _)))
  ·
   refine ⟨0, Ev.bind hok ?_⟩
   rw [hg, Bool.true_and]
   simp only [if_true, if_neg ht]
   rw [within_eq]
   simp only [Option.bind_some]
   rw [Bool.not_eq_true] at ht
   rw [ht]
   exact Ev.step (f := fun _ => some ([], 0, false)) (fun k => by simp only [impl_DistributeCash.j0]; rfl) (Ev.now _)
 ·
  refine ⟨0, Ev.bind hok ?_⟩
  rw [Bool.not_eq_true] at hg
  rw [hg, Bool.false_and]
  exact Ev.step (f := fun _ => some ([], 0, false)) (fun k => by simp only [impl_DistributeCash.j0]; rfl) (Ev.now _)
theorem impl_ev (T : Int) (l : List Int) (hl : l.length ≤ 1048576) : Ev (fun k => impl_EstateDividend.f k T l) (estate T l) := by
 unfold impl_EstateDividend.f
 rw [areSums_eq]
 simp only [Option.bind_some]
 cases hs : sums l with
 | false =>
  unfold estate
  rw [good_sums, hs, Bool.false_and, Bool.false_and]
  exact Ev.now _
 | true =>
  simp only [if_true]
  have key : ∀ i, i ≤ l.length → Ev (fun k => impl_EstateDividend.l0 k T (trs (l.take i)) l (l.length : Int) (i : Int)) (estate T l) := by
   refine down l.length ?_ (fun i hi ih => ?_)
   ·
    obtain ⟨m, hm⟩ := implDist_ev T l hs
    refine Ev.step (f := fun k => (impl_DistributeCash.f k (trs l) T).bind fun t => some (t.1, t.2.2)) (fun k => ?_) (Ev.bind hm ?_)
    ·
     simp only [impl_EstateDividend.l0]
     rw [if_neg (by omega), List.take_length]
    ·
     unfold estate
     split
     ·
      exact Ev.now _
     ·
      exact Ev.now _
   ·
    refine Ev.step (fun k => ?_) ih
    simp only [impl_EstateDividend.l0]
    rw [if_pos (by omega), if_pos (by omega), if_pos (by omega), if_pos (by rw [trs_len, List.length_take]; omega), w64s (by omega), take_getD l i hi 0, rd_nat]
    simp [trs]
  have := key 0 (Nat.zero_le _)
  simpa [trs] using this
theorem estate_len (T : Int) (l : List Int) : (estate T l).1.length ≤ 20 := by
 unfold estate
 split
 ·
  rename_i hg
  rw [Bool.and_eq_true] at hg
  obtain ⟨h1, h2⟩ := hg
  have hT : 0 ≤ T ∧ T ≤ 1000000000 := by simpa using h2
  unfold good at h1
  rw [Bool.and_eq_true, Bool.and_eq_true, decide_eq_true_eq, decide_eq_true_eq, List.all_eq_true] at h1
  have h : Est T l := ⟨hT.1, hT.2, h1.2, h1.1.1, fun x hx => okd_iff.1 (h1.1.2 x hx)⟩
  have := h.dist_.1
  have := h.len
  dsimp only
  omega
 ·
  simp

/-! sorted lists -/
def ins (x : Int) : List Int → List Int
 | [] => [x]
 | y :: l => if y < x then y :: ins x l else x :: y :: l
def posI (x : Int) : List Int → Nat
 | [] => 0
 | y :: l => if y < x then posI x l + 1 else 0
theorem posI_le (x : Int) : ∀ l : List Int, posI x l ≤ l.length
 | [] => Nat.le_refl _
 | y :: l => by
  unfold posI
  have := posI_le x l
  split <;> simp <;> omega
theorem posI_drop (x : Int) (l : List Int) (i : Nat) (h : i < l.length) : posI x (l.drop i) = if l.getD i 0 < x then posI x (l.drop (i + 1)) + 1 else 0 := by
 rw [drop_getD l i h 0]
 rfl
theorem ins_eq (x : Int) : ∀ l : List Int, ins x l = l.take (posI x l) ++ [x] ++ l.drop (posI x l)
 | [] => rfl
 | y :: l => by
  unfold ins posI
  by_cases c : y < x
  ·
   rw [if_pos c, if_pos c, ins_eq x l]; simp
  ·
   rw [if_neg c, if_neg c]; simp
theorem ins_perm (x : Int) : ∀ l : List Int, (ins x l).Perm (x :: l)
 | [] => List.Perm.refl _
 | y :: l => by
  unfold ins
  split
  ·
   exact ((ins_perm x l).cons y).trans (List.Perm.swap x y l)
  ·
   exact List.Perm.refl _
theorem ins_mem {x a : Int} {l : List Int} (h : a ∈ ins x l) : a = x ∨ a ∈ l := by
 have := (ins_perm x l).mem_iff.1 h
 simpa using this
theorem ins_sorted (x : Int) : ∀ l : List Int, l.Pairwise (· ≤ ·) → (ins x l).Pairwise (· ≤ ·)
 | [], _ => by simp [ins]
 | y :: l, h => by
  have h1 := List.pairwise_cons.1 h
  unfold ins
  split
  ·
   rename_i c
   refine List.pairwise_cons.2 ⟨fun a ha => ?_, ins_sorted x l h1.2⟩
   rcases ins_mem ha with rfl | ha
   ·
    omega
   ·
    exact h1.1 a ha
  ·
   rename_i c
   refine List.pairwise_cons.2 ⟨fun a ha => ?_, h⟩
   rcases List.mem_cons.1 ha with rfl | ha
   ·
    omega
   ·
    have := h1.1 a ha; omega
def insAll (l : List Int) : List Int := l.foldl (fun s x => ins x s) []
theorem insAll_take (l : List Int) (i : Nat) (h : i < l.length) : insAll (l.take (i + 1)) = ins (l.getD i 0) (insAll (l.take i)) := by
 rw [take_getD l i h 0]
 simp [insAll, List.foldl_append]
theorem foldl_perm : ∀ (l s : List Int), (l.foldl (fun s x => ins x s) s).Perm (l ++ s)
 | [], _ => List.Perm.refl _
 | x :: l, s => (foldl_perm l (ins x s)).trans (((ins_perm x s).append_left l).trans List.perm_middle)
theorem foldl_sorted : ∀ (l s : List Int), s.Pairwise (· ≤ ·) → (l.foldl (fun s x => ins x s) s).Pairwise (· ≤ ·)
 | [], _, h => h
 | x :: l, s, h => foldl_sorted l (ins x s) (ins_sorted x s h)
theorem insAll_sort (l : List Int) : insAll l = Go.Proofs.YtlneimpoholkhaaSort.sortI l := by
 have p1 : (insAll l).Perm l := by simpa [insAll] using foldl_perm l []
 have p2 : (Go.Proofs.YtlneimpoholkhaaSort.sortI l).Perm l := List.mergeSort_perm l _
 have s1 : (insAll l).Pairwise (· ≤ ·) := foldl_sorted l [] List.Pairwise.nil
 have s2 : (Go.Proofs.YtlneimpoholkhaaSort.sortI l).Pairwise (· ≤ ·) := by
  have := List.pairwise_mergeSort (le := fun x y : Int => decide (x ≤ y)) (fun a b c h1 h2 => by simp at h1 h2 ⊢; omega) (fun a b => by simp; omega) l
  exact this.imp (fun h => by simpa using h)
 exact List.Perm.eq_of_pairwise (le := (· ≤ ·)) (fun a b _ _ h1 h2 => Int.le_antisymm h1 h2) s1 s2 (p1.trans p2.symm)
theorem insAll_len (l : List Int) : (insAll l).length = l.length := by
 have p1 : (insAll l).Perm l := by simpa [insAll] using foldl_perm l []
 exact p1.length_eq
theorem insAll_mem {l : List Int} {a : Int} (h : a ∈ insAll l) : a ∈ l := by
 have p1 : (insAll l).Perm l := by simpa [insAll] using foldl_perm l []
 exact p1.mem_iff.1 h
theorem round_one (p m : Int) (h0 : -1000000000000000000 ≤ p) (h1 : p ≤ 1000000000000000000) : Ev (fun k => impl_rounded.f k p 1 m) p := by
 unfold impl_rounded.f
 have hm : Int.tmod p 1 = 0 := by simp
 have hd : Int.tdiv p 1 = p := by simp
 have hs : impl_size.f 0 = some 0 := by unfold impl_size.f; rw [show wrap64 (-0) = 0 from w64 (by omega) (by omega)]; rfl
 simp only [hm, hd, hs, Option.bind_some, if_neg (show ¬ (1 : Int) = 0 by omega), w64 (x := p) (by omega) (by omega)]
 have hj : ∀ s k, impl_rounded.j0 (k + 1) 1 m p 0 s = some p := fun s k => by
  simp only [impl_rounded.j0]
  have e0 : wrap64 (2 * 0) = 0 := w64 (by omega) (by omega)
  rw [e0]
  by_cases c2 : m = 2
  ·
   rw [if_pos c2, if_neg (by omega)]
  ·
   rw [if_neg c2]
   by_cases c3 : m = 3
   ·
    rw [if_pos c3, if_neg (by omega)]
   ·
    rw [if_neg c3]
    by_cases c4 : m = 4
    ·
     rw [if_pos c4, if_neg (by omega), if_neg (by omega)]
    ·
     rw [if_neg c4]
 by_cases c : p < 0
 ·
  simp only [if_pos c]
  exact Ev.step (f := fun _ => some p) (fun k => hj _ k) (Ev.now _)
 ·
  simp only [if_neg c]
  exact Ev.step (f := fun _ => some p) (fun k => hj _ k) (Ev.now _)
/-! the reference's loops -/
theorem spec_inner (q : List Int) (m : Int) (s : List Int) (hq : q.length ≤ 20) (hs : s.length ≤ 20) (i : Nat) (hi : i < q.length) (R : Int × Bool)
 (hR : Ev (fun k => spec_QuoteValue.l0 k q m (q.length : Int) (ins (q.getD i 0) s) ((i + 1 : Nat) : Int)) R) : ∀ j, j ≤ s.length → posI (q.getD i 0) s = j + posI (q.getD i 0) (s.drop j) → Ev (fun k => spec_QuoteValue.l1 k q m (q.length : Int) s (i : Int) (j : Int)) R := by
 have hpl := posI_le (q.getD i 0) s
 have hend : ∀ j, j ≤ s.length → posI (q.getD i 0) s = j → Ev (fun k => spec_QuoteValue.l0 k q m (q.length : Int) (s.take j ++ [q.getD i 0] ++ s.drop j) ((i + 1 : Nat) : Int)) R := fun j hj e => by
  rw [ins_eq, e] at hR
  exact hR
 have hj3 : ∀ j, j ≤ s.length → posI (q.getD i 0) s = j → Ev (fun k => spec_QuoteValue.j3 k q m (q.length : Int) s (i : Int) (j : Int) false) R := fun j hj e => by
  refine Ev.step (fun k => ?_) (hend j hj e)
  simp only [spec_QuoteValue.j3]
  rw [if_neg (by simp)]
  simp only [Option.bind_some, List.nil_append, if_pos (show (0 : Int) ≤ (j : Int) by omega), if_pos (show (j : Int) ≤ (s.length : Int) by omega), if_pos (show (0 : Int) ≤ (i : Int) by omega), if_pos (show (i : Int) < (q.length : Int) by omega), rd_nat, w64s (show i < 4611686018427387904 by omega), Int.toNat_natCast]
  rw [if_pos (by simp; omega), if_pos (by simp; omega), if_pos (by simp; omega)]
 refine down s.length ?_ (fun j hj ih => ?_)
 ·
  intro hp
  rw [List.drop_length] at hp
  have hp' : posI (q.getD i 0) s = s.length := hp
  refine Ev.step (fun k => ?_) (hj3 s.length (Nat.le_refl _) hp')
  simp only [spec_QuoteValue.l1]
  rw [if_neg (by omega)]
 ·
  intro hp
  rw [posI_drop _ s j hj] at hp
  by_cases c : s.getD j 0 < q.getD i 0
  ·
   rw [if_pos c] at hp
   have ih' := ih (by omega)
   refine Ev.step (f := fun k => spec_QuoteValue.j3 k q m (q.length : Int) s (i : Int) (j : Int) true) (fun k => ?_) (Ev.step (fun k => ?_) ih')
   ·
    simp only [spec_QuoteValue.l1]
    rw [if_pos (by omega), if_pos (by omega), if_pos (by omega), if_pos (by omega), rd_nat, rd_nat, decide_eq_true c]
   ·
    simp only [spec_QuoteValue.j3]
    rw [if_pos trivial, w64s (by omega)]
  ·
   rw [if_neg c] at hp
   refine Ev.step (fun k => ?_) (hj3 j (by omega) hp)
   simp only [spec_QuoteValue.l1]
   rw [if_pos (by omega), if_pos (by omega), if_pos (by omega), if_pos (by omega), rd_nat, rd_nat, decide_eq_false c]
theorem spec_outer (q : List Int) (m : Int) (hq : q.length ≤ 20) (R : Int × Bool) (hR : Ev (fun k => spec_QuoteValue.l0 k q m (q.length : Int) (insAll q) (q.length : Int)) R) : ∀ i, i ≤ q.length → Ev (fun k => spec_QuoteValue.l0 k q m (q.length : Int) (insAll (q.take i)) (i : Int)) R := by
 refine down q.length ?_ (fun i hi ih => ?_)
 ·
  rw [List.take_length]; exact hR
 ·
  rw [insAll_take q i hi] at ih
  have hl : (insAll (q.take i)).length ≤ 20 := by rw [insAll_len]; simp; omega
  refine Ev.step (f := fun k => spec_QuoteValue.l1 k q m (q.length : Int) (insAll (q.take i)) (i : Int) ((0 : Nat) : Int)) (fun k => ?_) (spec_inner q m _ hq hl i hi R ih 0 (Nat.zero_le _) (by simp))
  simp only [spec_QuoteValue.l0]
  rw [if_pos (by omega)]
  rfl
theorem mid_mem {s : List Int} {a b : Nat} {x : Int} (h : x ∈ (s.take a).drop b) : x ∈ s := List.mem_of_mem_take (List.mem_of_mem_drop h)
theorem tot_lo (m : Int) : ∀ l : List Int, (∀ x ∈ l, m ≤ x) → m * l.length ≤ total l
 | [], _ => by simp [total]
 | x :: l, h => by
  have h1 := h x List.mem_cons_self
  have h2 := tot_lo m l (fun y hy => h y (List.mem_cons_of_mem _ hy))
  rw [total_cons, List.length_cons, show ((l.length + 1 : Nat) : Int) = (l.length : Int) + 1 by omega, Int.mul_add, Int.mul_one]
  omega
theorem tot_hi (m : Int) : ∀ l : List Int, (∀ x ∈ l, x ≤ m) → total l ≤ m * l.length
 | [], _ => by simp [total]
 | x :: l, h => by
  have h1 := h x List.mem_cons_self
  have h2 := tot_hi m l (fun y hy => h y (List.mem_cons_of_mem _ hy))
  rw [total_cons, List.length_cons, show ((l.length + 1 : Nat) : Int) = (l.length : Int) + 1 by omega, Int.mul_add, Int.mul_one]
  omega
theorem ex_ends : ∀ l : List Int, 0 < l.length → ∃ a ∈ l, ∃ b ∈ l, ∀ x ∈ l, a ≤ x ∧ x ≤ b
 | [], h => by simp at h
 | [x], _ => ⟨x, by simp, x, by simp, fun y hy => by simp at hy; omega⟩
 | x :: y :: l, _ => by
  obtain ⟨a, ha, b, hb, h⟩ := ex_ends (y :: l) (by simp)
  refine ⟨if x ≤ a then x else a, ?_, if b ≤ x then x else b, ?_, fun z hz => ?_⟩
  ·
   split
   ·
    exact List.mem_cons_self
   ·
    exact List.mem_cons_of_mem _ ha
  ·
   split
   ·
    exact List.mem_cons_self
   ·
    exact List.mem_cons_of_mem _ hb
  ·
   have hab := h a ha
   rcases List.mem_cons.1 hz with rfl | hz
   ·
    constructor <;> split <;> omega
   ·
    have := h z hz
    constructor <;> split <;> omega
theorem both (q : List Int) (m : Int) (hq : q.length ≤ 1048576) : ∃ r : Int × Bool, Ev (fun k => spec_QuoteValue.f k q m) r ∧ Ev (fun k => impl_QuoteValue.f k q m) r ∧ (r.2 = true → (∃ x ∈ q, x ≤ r.1) ∧ ∃ x ∈ q, r.1 ≤ x) := by
 unfold spec_QuoteValue.f impl_QuoteValue.f
 simp only [l1In_eq, within_eq, isMode_eq, Option.bind_some, areAmounts_eq]
 have badS : Ev (fun k => spec_QuoteValue.j0 k q m (q.length : Int) true) (0, false) := Ev.step (f := fun _ => some (0, false)) (fun k => by simp only [spec_QuoteValue.j0]; rfl) (Ev.now _)
 have badI : Ev (fun k => impl_QuoteValue.j0 k q m (q.length : Int) true) (0, false) := Ev.step (f := fun _ => some (0, false)) (fun k => by simp only [impl_QuoteValue.j0]; rfl) (Ev.now _)
 cases h1 : (decide ((3 : Int) ≤ (q.length : Int)) && decide ((q.length : Int) ≤ 20)) with
 | false => exact ⟨(0, false), badS, badI, fun h => by cases h⟩
 | true =>
  simp only [Bool.and_eq_true, decide_eq_true_eq] at h1
  simp only [if_true]
  have hA := specAms_ev q hq
  cases h2 : ams q with
  | false =>
   rw [h2] at hA
   exact ⟨(0, false), Ev.bind hA badS, badI, fun h => by cases h⟩
  | true =>
   rw [h2] at hA
   simp only [if_true]
   cases h3 : (decide (1 ≤ m) && decide (m ≤ 4)) with
   | false => exact ⟨(0, false), Ev.bind hA badS, badI, fun h => by cases h⟩
   | true =>
    simp only [Bool.and_eq_true, decide_eq_true_eq] at h3
    have hm := ams_mem h2
    have hlen := insAll_len q
    have hmem : ∀ x ∈ insAll q, -1000000000 ≤ x ∧ x ≤ 1000000000 := fun x hx => hm x (insAll_mem hx)
    obtain ⟨s, hs⟩ : ∃ s, s = insAll q := ⟨_, rfl⟩
    have hsI : Go.Proofs.YtlneimpoholkhaaSort.sortI q = s := by rw [hs, insAll_sort]
    have hml : ((s.take (q.length - 1)).drop 1).length = q.length - 2 := by rw [hs]; simp [hlen]; omega
    obtain ⟨sS, sI⟩ := sum_both ((s.take (q.length - 1)).drop 1) (by omega) (fun x hx => hmem x (by rw [← hs]; exact mid_mem hx))
    have tb := total_bd ((s.take (q.length - 1)).drop 1) (fun x hx => hmem x (by rw [← hs]; exact mid_mem hx)) _ (Nat.le_refl _)
    rw [List.take_length, hml] at tb
    have n1 : wrap64 ((q.length : Int) - 1) = ((q.length - 1 : Nat) : Int) := by rw [w64 (by omega) (by omega)]; omega
    have n2 : wrap64 ((q.length : Int) - 2) = ((q.length - 2 : Nat) : Int) := by rw [w64 (by omega) (by omega)]; omega
    have hI0 : ∀ r, Ev (fun k => impl_rounded.f k (total ((s.take (q.length - 1)).drop 1)) ((q.length - 2 : Nat) : Int) m) r → Ev (fun k => impl_QuoteValue.j0 k q m (q.length : Int) false) (r, true) := fun r hr => by
     refine Ev.step (f := fun k => (impl_sumOf.f k ((s.take (q.length - 1)).drop 1)).bind fun t => (impl_rounded.f k t ((q.length - 2 : Nat) : Int) m).bind fun u => some (u, true)) (fun k => ?_) (Ev.bind sI (Ev.bind hr (Ev.now _)))
     simp only [impl_QuoteValue.j0]
     rw [if_neg (by simp)]
     unfold slices_Clone_int_int.f slices_Sort_int_int.f
     rw [if_pos (by omega), Option.bind_some, if_pos (by omega), Option.bind_some, hsI, n1, n2, if_pos (by omega), if_pos (by omega), Int.toNat_natCast]
    have hS0 : ∀ R, Ev (fun k => spec_QuoteValue.l0 k q m (q.length : Int) s (q.length : Int)) R → Ev (fun k => spec_QuoteValue.j0 k q m (q.length : Int) false) R := fun R hR => by
     rw [hs] at hR
     refine Ev.step (f := fun k => spec_QuoteValue.l0 k q m (q.length : Int) (insAll (q.take 0)) ((0 : Nat) : Int)) (fun k => by simp only [spec_QuoteValue.j0]; rfl) (spec_outer q m (by omega) R hR 0 (Nat.zero_le _))
    by_cases c3 : q.length = 3
    ·
     have hsl : s.length = 3 := by rw [hs, hlen]; exact c3
     have hone : (s.take (q.length - 1)).drop 1 = [s.getD 1 0] := by
      match s, hsl with
      | [a, b, c], _ => rw [c3]; rfl
     have hx := hmem (s.getD 1 0) (by rw [← hs]; exact getD_mem s 1 (by omega) 0)
     have ht : total ((s.take (q.length - 1)).drop 1) = s.getD 1 0 := by rw [hone]; simp [total]
     have hxq : s.getD 1 0 ∈ q := insAll_mem (by rw [← hs]; exact getD_mem s 1 (by omega) 0)
     refine ⟨(s.getD 1 0, true), Ev.bind hA (hS0 _ ?_), hI0 _ ?_, fun _ => ⟨⟨_, hxq, Int.le_refl _⟩, _, hxq, Int.le_refl _⟩⟩
     ·
      refine Ev.step (f := fun _ => some (s.getD 1 0, true)) (fun k => ?_) (Ev.now _)
      simp only [spec_QuoteValue.l0]
      rw [if_neg (by omega), if_pos (by omega), if_pos (by omega)]
      rfl
     ·
      rw [ht, c3]
      exact round_one _ m (by omega) (by omega)
    ·
     obtain ⟨r, rS, rI, rb⟩ := round_both (total ((s.take (q.length - 1)).drop 1)) ((q.length - 2 : Nat) : Int) m (by omega) (by omega) (by omega) (by omega) h3.1 h3.2
     have hsl : s.length = q.length := by rw [hs, hlen]
     obtain ⟨lo, hlo, hi, hhi, hends⟩ := ex_ends ((s.take (q.length - 1)).drop 1) (by omega)
     have t0 := tot_lo lo _ (fun x hx => (hends x hx).1)
     have t1 := tot_hi hi _ (fun x hx => (hends x hx).2)
     rw [hml] at t0 t1
     obtain ⟨rb0, rb1⟩ := rb lo hi t0 t1
     refine ⟨(r, true), Ev.bind hA (hS0 _ ?_), hI0 _ rI, fun _ => ⟨⟨lo, insAll_mem (by rw [← hs]; exact mid_mem hlo), rb0⟩, hi, insAll_mem (by rw [← hs]; exact mid_mem hhi), rb1⟩⟩
     refine Ev.step (f := fun k => (spec_l2Sum.f k ((s.take (q.length - 1)).drop 1)).bind fun t => (spec_l2Round.f k t ((q.length - 2 : Nat) : Int) m).bind fun u => some (u, true)) (fun k => ?_) (Ev.bind sS (Ev.bind rS (Ev.now _)))
     simp only [spec_QuoteValue.l0]
     rw [if_neg (by omega), if_neg (by omega), n1, n2, if_pos (by omega), if_pos (by omega), Int.toNat_natCast]

/-! the reference's draws: what they give, and that they end -/
def codeOk (c : List Int) : Prop := c.length ≤ 65536 ∧ ∀ x ∈ c, 0 ≤ x ∧ x ≤ 255
theorem u64_bd (x : Int) : 0 ≤ IntKind.u64.wrap x ∧ IntKind.u64.wrap x < 18446744073709551616 := by
 have h : IntKind.u64.wrap x = x % 18446744073709551616 := by simp [IntKind.wrap, IntKind.bits, IntKind.signed]
 omega
theorem and255 (x : Int) (h0 : 0 ≤ x) (h1 : x < 2 ^ 62) : 0 ≤ Go.bits .and .u64 x 255 ∧ Go.bits .and .u64 x 255 ≤ 255 := by
 obtain ⟨n, rfl⟩ := Int.eq_ofNat_of_zero_le h0
 have hb : Go.bits .and .u64 (n : Int) ((255 : Nat) : Int) = ((n &&& 255 : Nat) : Int) := (bits_nat .u64 62 (by decide) wrap_u64_small n 255 (by omega) (by decide)).1
 have e : (255 : Int) = ((255 : Nat) : Int) := rfl
 rw [e, hb]
 have := Nat.and_le_right (n := n) (m := 255)
 omega
theorem rd_ok {c : List Int} (hc : codeOk c) (a : Int) : 0 ≤ rd c a ∧ rd c a ≤ 255 := by
 show 0 ≤ c.getD a.toNat 0 ∧ c.getD a.toNat 0 ≤ 255
 rw [List.getD_eq_getElem?_getD]
 cases e : c[a.toNat]? with
 | none => exact ⟨by simp, by simp⟩
 | some x => exact hc.2 x (List.mem_of_getElem? e)
theorem next_ok {c : List Int} (hc : codeOk c) (a s : Int) (h0 : 0 ≤ a) (h1 : a ≤ 100000) : ∃ v s', spec_l1Cur_next.f c a s = some (v, a + 1, s') ∧ 0 ≤ v ∧ v ≤ 255 := by
 have hr := rd_ok hc a
 have hl := hc.1
 unfold spec_l1Cur_next.f
 rw [w64 (x := a + 1) (by omega) (by omega)]
 by_cases h : a < (c.length : Int)
 ·
  rw [if_pos h, if_pos h0, if_pos (by omega)]
  exact ⟨_, _, rfl, by rw [w64 (by omega) (by omega)]; exact hr.1, by rw [w64 (by omega) (by omega)]; exact hr.2⟩
 ·
  rw [if_neg h, if_neg (by omega)]
  have hu := u64_bd (IntKind.u64.wrap (IntKind.u64.wrap (s * 6364136223846793005) + 0) + 902902)
  have hb := and255 (IntKind.u64.wrap (IntKind.u64.wrap (IntKind.u64.wrap (s * 6364136223846793005) + 0) + 902902) / 1099511627776) (by omega) (by omega)
  exact ⟨_, _, rfl, by rw [w64 (by omega) (by omega)]; exact hb.1, by rw [w64 (by omega) (by omega)]; exact hb.2⟩
theorem pick_ok {c : List Int} (hc : codeOk c) (a s n : Int) (h0 : 0 ≤ a) (h1 : a ≤ 100000) (n0 : 1 ≤ n) (n1 : n ≤ 200) : ∃ v a' s', spec_l1Cur_pick.f c a s n = some (v, a', s') ∧ 0 ≤ v ∧ v < n ∧ a ≤ a' ∧ a' ≤ a + 1 := by
 unfold spec_l1Cur_pick.f
 by_cases h : n ≤ 1
 ·
  rw [if_pos h]
  exact ⟨0, a, s, rfl, by omega, by omega, by omega, by omega⟩
 ·
  obtain ⟨v, s', e, v0, v1⟩ := next_ok hc a s h0 h1
  rw [if_neg h, e, Option.bind_some, if_neg (by omega), if_neg (by omega)]
  refine ⟨Int.tmod v n, a + 1, s', rfl, ?_, ?_, by omega, by omega⟩
  ·
   rw [Int.tmod_eq_emod_of_nonneg v0]; exact Int.emod_nonneg _ (by omega)
  ·
   rw [Int.tmod_eq_emod_of_nonneg v0]; exact Int.emod_lt_of_pos _ (by omega)
theorem one_ok {c : List Int} (hc : codeOk c) (a s n : Int) (h0 : 0 ≤ a) (h1 : a ≤ 100000) (n0 : 1 ≤ n) (n1 : n ≤ 200) : ∃ b a' s', spec_l1Cur_one.f c a s n = some (b, a', s') ∧ a ≤ a' ∧ a' ≤ a + 1 := by
 obtain ⟨v, a', s', e, _, _, a0, a1⟩ := pick_ok hc a s n h0 h1 n0 n1
 unfold spec_l1Cur_one.f
 rw [e]
 exact ⟨_, _, _, rfl, a0, a1⟩
theorem among_ok {c : List Int} (hc : codeOk c) (a s : Int) (l : List Int) (h0 : 0 ≤ a) (h1 : a ≤ 100000) (n0 : 1 ≤ l.length) (n1 : l.length ≤ 200) : ∃ v a' s', spec_l1Cur_among.f c a s l = some (v, a', s') ∧ v ∈ l ∧ a ≤ a' ∧ a' ≤ a + 1 := by
 obtain ⟨v, a', s', e, v0, v1, a0, a1⟩ := pick_ok hc a s (l.length : Int) h0 h1 (by omega) (by omega)
 unfold spec_l1Cur_among.f
 rw [e, Option.bind_some, if_pos v0, if_pos v1]
 refine ⟨rd l v, a', s', rfl, ?_, a0, a1⟩
 show l.getD v.toNat 0 ∈ l
 exact getD_mem l v.toNat (by omega) 0

/-! what the reference draws for the law -/
theorem pickn {c : List Int} (hc : codeOk c) (a s n : Int) (h0 : 0 ≤ a) (h1 : a ≤ 90000) (n0 : 1 ≤ n) (n1 : n ≤ 65536) : ∃ v a' s', spec_l1Cur_pick.f c a s n = some (v, a', s') ∧ 0 ≤ v ∧ v < n ∧ a ≤ a' ∧ a' ≤ a + 2 := by
 by_cases h : n ≤ 200
 ·
  obtain ⟨v, a', s', e, v0, v1, b0, b1⟩ := pick_ok hc a s n h0 (by omega) n0 h
  exact ⟨v, a', s', e, v0, v1, b0, by omega⟩
 ·
  obtain ⟨v, s1, e1, v0, v1⟩ := next_ok hc a s h0 (by omega)
  obtain ⟨u, s2, e2, u0, u1⟩ := next_ok hc (a + 1) s1 (by omega) (by omega)
  unfold spec_l1Cur_pick.f
  rw [if_neg (by omega), e1, Option.bind_some, if_pos (by omega), e2, Option.bind_some, if_neg (by omega), w64 (x := v * 256) (by omega) (by omega), w64 (by omega) (by omega)]
  refine ⟨_, _, _, rfl, ?_, ?_, by dsimp only; omega, by dsimp only; omega⟩
  ·
   rw [Int.tmod_eq_emod_of_nonneg (by omega)]; exact Int.emod_nonneg _ (by omega)
  ·
   rw [Int.tmod_eq_emod_of_nonneg (by omega)]; exact Int.emod_lt_of_pos _ (by omega)
theorem cut_ok {c : List Int} (hc : codeOk c) (a s m d b : Int) (l : List Int) (h0 : 0 ≤ a) (h1 : a ≤ 80000) (m0 : 1 ≤ m) (m1 : m ≤ 100) (d0 : 1 ≤ d) (b0 : 1 ≤ b) (hl : b + (m - 1) / d ≤ (l.length : Int)) (hll : l.length ≤ 100) :
 ∃ v u a1 s1 a2 s2, spec_l1Cur_pick.f c a s m = some (u, a1, s1) ∧ 0 ≤ wrap64 (b + wrap64 (Int.tdiv u d)) ∧ wrap64 (b + wrap64 (Int.tdiv u d)) ≤ (l.length : Int) ∧ spec_l1Cur_among.f c a1 s1 (l.take (wrap64 (b + wrap64 (Int.tdiv u d))).toNat) = some (v, a2, s2) ∧ a ≤ a2 ∧ a2 ≤ a + 3 := by
 obtain ⟨u, a1, s1, e1, u0, u1, b2, b3⟩ := pick_ok hc a s m h0 (by omega) m0 (by omega)
 have hd : 0 ≤ u / d ∧ u / d ≤ (m - 1) / d := ⟨Int.ediv_nonneg u0 (by omega), Int.ediv_le_ediv (by omega) (by omega)⟩
 have ht : wrap64 (b + wrap64 (Int.tdiv u d)) = b + u / d := by
  rw [Int.tdiv_eq_ediv_of_nonneg u0, w64 (x := u / d) (by omega) (by omega), w64 (by omega) (by omega)]
 obtain ⟨v, a2, s2, e2, _, b4, b5⟩ := among_ok hc a1 s1 (l.take (b + u / d).toNat) (by omega) (by omega) (by rw [List.length_take]; omega) (by rw [List.length_take]; omega)
 refine ⟨v, u, a1, s1, a2, s2, e1, ?_, ?_, ?_, by omega, by omega⟩
 ·
  rw [ht]; omega
 ·
  rw [ht]; omega
 ·
  rw [ht]; exact e2
theorem worth_ok {c : List Int} (hc : codeOk c) (a s : Int) (h0 : 0 ≤ a) (h1 : a ≤ 80000) : ∃ v a' s', spec_l1Cur_worth.f c a s = some (v, a', s') ∧ a ≤ a' ∧ a' ≤ a + 3 := by
 obtain ⟨v, u, a1, s1, a2, s2, e1, c0, c1, e2, b0, b1⟩ := cut_ok hc a s 40 39 10 [0, 1, -1, 50, -50, 70, 1234, -99999, 1000000000, -1000000000, 1000000001] h0 h1 (by omega) (by omega) (by omega) (by omega) (by simp) (by simp)
 unfold spec_l1Cur_worth.f
 rw [Option.bind_some, e1, Option.bind_some]
 dsimp only
 rw [if_pos c0, if_pos c1, e2]
 exact ⟨_, _, _, rfl, b0, b1⟩

theorem cash_ok {c : List Int} (hc : codeOk c) (a s : Int) (h0 : 0 ≤ a) (h1 : a ≤ 80000) : ∃ v a' s', spec_l1Cur_cash.f c a s = some (v, a', s') ∧ a ≤ a' ∧ a' ≤ a + 3 := by
 obtain ⟨v, u, a1, s1, a2, s2, e1, c0, c1, e2, b0, b1⟩ := cut_ok hc a s 40 20 9 [0, 1, 5, 13, 60, 111, 100000, 3000000, 1000000000, -1, 1000000001] h0 h1 (by omega) (by omega) (by omega) (by omega) (by simp) (by simp)
 unfold spec_l1Cur_cash.f
 rw [Option.bind_some, e1, Option.bind_some]
 dsimp only
 rw [if_pos c0, if_pos c1, e2]
 exact ⟨_, _, _, rfl, b0, b1⟩
theorem terms_ok {c : List Int} (hc : codeOk c) (a s : Int) (h0 : 0 ≤ a) (h1 : a ≤ 70000) : ∃ v v2 a' s', spec_l1Cur_terms15.f c a s = some (v, v2, a', s') := by
 obtain ⟨v, u, a1, s1, a2, s2, e1, c0, c1, e2, b0, b1⟩ := cut_ok hc a s 24 23 8 [1, 2, 3, 4, 1, 2, 3, 4, 0] h0 (by omega) (by omega) (by omega) (by omega) (by omega) (by simp) (by simp)
 obtain ⟨v2, u2, a3, s3, a4, s4, e3, c2, c3, e4, b2, b3⟩ := cut_ok hc a2 s2 24 23 8 [1, 2, 3, 4, 1, 2, 3, 4, 5] (by omega) (by omega) (by omega) (by omega) (by omega) (by omega) (by simp) (by simp)
 unfold spec_l1Cur_terms15.f
 rw [Option.bind_some, e1, Option.bind_some]
 dsimp only
 rw [if_pos c0, if_pos c1, e2, Option.bind_some, Option.bind_some]
 dsimp only
 rw [e3, Option.bind_some]
 dsimp only
 rw [if_pos c2, if_pos c3, e4]
 exact ⟨_, _, _, _, rfl⟩
theorem pad_ok {c : List Int} (hc : codeOk c) : ∀ (n : Nat) (L : List Int) (a s : Int), 21 ≤ L.length + n → L.length ≤ 30 → 0 ≤ a → a + n ≤ 50000 → ∃ L' a' s', Ev (fun k => spec_l1Cur_plus.l1 k L c a s) (L', a', s') ∧ L'.length ≤ 30 ∧ a ≤ a' ∧ a' ≤ a + n + 1 := by
 intro n
 induction n with
 | zero =>
  intro L a s hn hL h0 h1
  obtain ⟨v, a1, s1, e1, v0, v1, b0, b1⟩ := pick_ok hc a s 2 h0 (by omega) (by omega) (by omega)
  refine ⟨L, a1, s1, Ev.step (f := fun _ => some (L, a1, s1)) (fun k => ?_) (Ev.now _), hL, b0, by omega⟩
  simp only [spec_l1Cur_plus.l1]
  rw [e1, Option.bind_some]
  dsimp only
  rw [w64 (x := 20 + v) (by omega) (by omega), if_neg (by omega)]
 | succ n ih =>
  intro L a s hn hL h0 h1
  obtain ⟨v, a1, s1, e1, v0, v1, b0, b1⟩ := pick_ok hc a s 2 h0 (by omega) (by omega) (by omega)
  by_cases g : (L.length : Int) < 20 + v
  ·
   obtain ⟨L', a', s', hR, hl, b2, b3⟩ := ih (L ++ [2]) a1 s1 (by simp; omega) (by simp; omega) (by omega) (by omega)
   refine ⟨L', a', s', Ev.step (fun k => ?_) hR, hl, by omega, by omega⟩
   simp only [spec_l1Cur_plus.l1]
   rw [e1, Option.bind_some]
   dsimp only
   rw [w64 (x := 20 + v) (by omega) (by omega), if_pos g, if_pos (by omega)]
  ·
   refine ⟨L, a1, s1, Ev.step (f := fun _ => some (L, a1, s1)) (fun k => ?_) (Ev.now _), hL, b0, by omega⟩
   simp only [spec_l1Cur_plus.l1]
   rw [e1, Option.bind_some]
   dsimp only
   rw [w64 (x := 20 + v) (by omega) (by omega), if_neg g]
theorem plus_loop {c : List Int} (hc : codeOk c) : ∀ (n : Nat) (L : List Int) (a s : Int), L.length + n ≤ 10 → 0 ≤ a → a + n ≤ 40000 → ∃ L' a' s', Ev (fun k => spec_l1Cur_plus.l0 k L (n : Int) c a s) (L', a', s') ∧ L'.length ≤ 30 ∧ a ≤ a' ∧ a' ≤ a + n + 24 := by
 intro n
 induction n with
 | zero =>
  intro L a s hn h0 h1
  obtain ⟨v, a1, s1, e1, v0, v1, b0, b1⟩ := pick_ok hc a s 40 h0 (by omega) (by omega) (by omega)
  by_cases g0 : v = 0
  ·
   obtain ⟨x, a2, s2, e2, _, b2, b3⟩ := among_ok hc a1 s1 [-1, 1000000001] (by omega) (by omega) (by decide) (by decide)
   refine ⟨L ++ [x], a2, s2, Ev.step (f := fun _ => some (L ++ [x], a2, s2)) (fun k => ?_) (Ev.now _), by simp; omega, by omega, by omega⟩
   simp only [spec_l1Cur_plus.l0]
   rw [if_neg (by omega), e1, Option.bind_some]
   dsimp only
   rw [if_pos g0, e2, Option.bind_some, if_pos (by omega)]
  ·
   by_cases g1 : v = 1
   ·
    obtain ⟨L', a', s', hR, hl, b2, b3⟩ := pad_ok hc 21 L a1 s1 (by omega) (by omega) (by omega) (by omega)
    refine ⟨L', a', s', Ev.step (fun k => ?_) hR, hl, by omega, by omega⟩
    simp only [spec_l1Cur_plus.l0]
    rw [if_neg (by omega), e1, Option.bind_some]
    dsimp only
    rw [if_neg g0, if_pos g1]
   ·
    refine ⟨L, a1, s1, Ev.step (f := fun _ => some (L, a1, s1)) (fun k => ?_) (Ev.now _), by omega, by omega, by omega⟩
    simp only [spec_l1Cur_plus.l0]
    rw [if_neg (by omega), e1, Option.bind_some]
    dsimp only
    rw [if_neg g0, if_neg g1]
 | succ n ih =>
  intro L a s hn h0 h1
  obtain ⟨x, a2, s2, e2, _, b2, b3⟩ := among_ok hc a s [0, 1, 40, 50, 3, 1000] (by omega) (by omega) (by decide) (by decide)
  obtain ⟨L', a', s', hR, hl, b4, b5⟩ := ih (L ++ [x]) a2 s2 (by simp; omega) (by omega) (by omega)
  refine ⟨L', a', s', Ev.step (fun k => ?_) hR, hl, by omega, by omega⟩
  simp only [spec_l1Cur_plus.l0]
  rw [if_pos (by omega), e2, Option.bind_some, if_pos (by omega), w64 (x := ((n + 1 : Nat) : Int) - 1) (by omega) (by omega), show ((n + 1 : Nat) : Int) - 1 = (n : Int) by omega]
theorem plus_ok {c : List Int} (hc : codeOk c) (a s n : Int) (h0 : 0 ≤ a) (h1 : a ≤ 30000) (n0 : 1 ≤ n) (n1 : n ≤ 8) : ∃ L a' s', Ev (fun k => spec_l1Cur_plus.f k c a s n) (L, a', s') ∧ L.length ≤ 30 ∧ a ≤ a' ∧ a' ≤ a + 40 := by
 obtain ⟨v, a1, s1, e1, v0, v1, b0, b1⟩ := pick_ok hc a s (n + 1) h0 (by omega) (by omega) (by omega)
 obtain ⟨L, a', s', hR, hl, b2, b3⟩ := plus_loop hc v.toNat [] a1 s1 (by simp; omega) (by omega) (by omega)
 refine ⟨L, a', s', ?_, hl, by omega, by omega⟩
 unfold spec_l1Cur_plus.f
 rw [w64 (x := n + 1) (by omega) (by omega), e1]
 simp only [Option.bind_some]
 rw [show ((v.toNat : Nat) : Int) = v by omega] at hR
 exact hR
theorem dsetoff_ok {c : List Int} (hc : codeOk c) : ∃ x L M, Ev (fun k => spec_DrawSetOff.f k c) (x, L, M) ∧ L.length ≤ 30 ∧ M.length ≤ 30 := by
 obtain ⟨x, a, s, e, a0, a1⟩ := worth_ok hc 0 0 (by omega) (by omega)
 obtain ⟨L, a2, s2, hL, l1, b0, b1⟩ := plus_ok hc a s 4 (by omega) (by omega) (by omega) (by omega)
 obtain ⟨M, a3, s3, hM, l2, _, _⟩ := plus_ok hc a2 s2 4 (by omega) (by omega) (by omega) (by omega)
 refine ⟨x, L, M, ?_, l1, l2⟩
 unfold spec_DrawSetOff.f
 rw [e]
 simp only [Option.bind_some]
 exact Ev.bind hL (Ev.bind hM (Ev.now _))
theorem destate_ok {c : List Int} (hc : codeOk c) : ∃ x L, Ev (fun k => spec_DrawEstateDividend.f k c) (x, L) ∧ L.length ≤ 30 := by
 obtain ⟨x, a, s, e, a0, a1⟩ := cash_ok hc 0 0 (by omega) (by omega)
 obtain ⟨L, a2, s2, hL, l1, b0, b1⟩ := plus_ok hc a s 6 (by omega) (by omega) (by omega) (by omega)
 refine ⟨x, L, ?_, l1⟩
 unfold spec_DrawEstateDividend.f
 rw [e]
 simp only [Option.bind_some]
 exact Ev.bind hL (Ev.now _)
theorem dquote_loop {c : List Int} (hc : codeOk c) : ∀ (n : Nat) (L : List Int) (a s : Int), L.length + n ≤ 100 → 0 ≤ a → a + 2 * n ≤ 40000 → ∃ L' m, Ev (fun k => spec_DrawQuoteValue.l0 k L (n : Int) c a s) (L', m) ∧ L'.length ≤ 101 := by
 intro n
 induction n with
 | zero =>
  intro L a s hn h0 h1
  obtain ⟨b, a1, s1, e1, b0, b1⟩ := one_ok hc a s 30 h0 (by omega) (by omega) (by omega)
  cases b with
  | false =>
   obtain ⟨v, m, a3, s3, e3⟩ := terms_ok hc a1 s1 (by omega) (by omega)
   refine ⟨L, m, Ev.step (f := fun _ => some (L, m)) (fun k => ?_) (Ev.now _), by omega⟩
   simp only [spec_DrawQuoteValue.l0]
   rw [if_neg (by omega), e1, Option.bind_some]
   dsimp only
   rw [if_neg (by simp), e3]
   rfl
  | true =>
   obtain ⟨x, a2, s2, e2, _, b2, b3⟩ := among_ok hc a1 s1 [1000000001, 5] (by omega) (by omega) (by decide) (by decide)
   obtain ⟨v, m, a3, s3, e3⟩ := terms_ok hc a2 s2 (by omega) (by omega)
   refine ⟨L ++ [x], m, Ev.step (f := fun _ => some (L ++ [x], m)) (fun k => ?_) (Ev.now _), by simp; omega⟩
   simp only [spec_DrawQuoteValue.l0]
   rw [if_neg (by omega), e1, Option.bind_some]
   dsimp only
   rw [if_pos rfl, e2, Option.bind_some, if_pos (by omega)]
   dsimp only
   rw [e3]
   rfl
 | succ n ih =>
  intro L a s hn h0 h1
  obtain ⟨u, a1, s1, e1, _, _, b0, b1⟩ := pick_ok hc a s 50 h0 (by omega) (by omega) (by omega)
  obtain ⟨x, a2, s2, e2, _, b2, b3⟩ := among_ok hc a1 s1 [1, 2, 3, 9, -4, 100, u] (by omega) (by omega) (by simp) (by simp)
  obtain ⟨L', m, hR, hl⟩ := ih (L ++ [x]) a2 s2 (by simp; omega) (by omega) (by omega)
  refine ⟨L', m, Ev.step (fun k => ?_) hR, hl⟩
  simp only [spec_DrawQuoteValue.l0]
  rw [if_pos (by omega), e1, Option.bind_some]
  dsimp only
  rw [e2, Option.bind_some, if_pos (by omega), w64 (x := ((n + 1 : Nat) : Int) - 1) (by omega) (by omega), show ((n + 1 : Nat) : Int) - 1 = (n : Int) by omega]
theorem dquote_ok {c : List Int} (hc : codeOk c) : ∃ L m, Ev (fun k => spec_DrawQuoteValue.f k c) (L, m) ∧ L.length ≤ 101 := by
 obtain ⟨n, a1, s1, e1, hn, b0, b1⟩ := among_ok hc 0 0 [3, 4, 5, 6, 3, 4, 2, 20] (by omega) (by omega) (by decide) (by decide)
 have hn' : 2 ≤ n ∧ n ≤ 20 := by simp at hn; omega
 obtain ⟨L, m, hR, hl⟩ := dquote_loop hc n.toNat [] a1 s1 (by simp; omega) (by omega) (by omega)
 refine ⟨L, m, ?_, hl⟩
 unfold spec_DrawQuoteValue.f
 rw [e1]
 simp only [Option.bind_some]
 rw [show ((n.toNat : Nat) : Int) = n by omega] at hR
 exact hR

/-! the law -/
theorem vInts_ev (s : List Int) (hl : s.length ≤ 1048576) : Ev (fun k => laws_vInts.f k s s) true := by
 unfold laws_vInts.f
 refine Ev.congr (f := fun k => laws_vInts.l0 k s s 0) (fun k => by rw [if_pos rfl]) ?_
 refine same_loop s (fun k i => laws_vInts.l0 k s s i) (fun i hi ih => ?_) (fun k => by simp only [laws_vInts.l0]; rw [if_neg (by omega)])
 refine Ev.step (f := fun k => laws_vInts.l0 k s s ((i + 1 : Nat) : Int)) (fun k => ?_) ih
 simp only [laws_vInts.l0]
 rw [if_pos (by omega), if_pos (by omega), if_pos (by omega), w64s (by omega)]
 exact if_pos trivial
theorem rSum_ev (l : List Int) (hl : l.length ≤ 20) (hm : ∀ x ∈ l, 0 ≤ x ∧ x ≤ 1000000000) : Ev (fun k => laws_rSum.f k l) (total l) := by
 have hb := total_bd l (fun x hx => by have := hm x hx; omega)
 unfold laws_rSum.f
 have kS : ∀ i, i ≤ l.length → Ev (fun k => laws_rSum.l0 k l (total (l.take i)) (i : Int)) (total l) := by
  refine down l.length ?_ (fun i hi ih => ?_)
  ·
   rw [List.take_length]
   exact Ev.step (f := fun _ => some (total l)) (fun k => by simp only [laws_rSum.l0]; rw [if_neg (by omega)]) (Ev.now _)
  ·
   refine Ev.step (fun k => ?_) ih
   have h1 := hb (i + 1) (by omega)
   have e := take_total l i hi
   simp only [laws_rSum.l0]
   rw [if_pos (by omega), if_pos (by omega), rd_nat, ← e, w64 (x := total (l.take (i + 1))) (by omega) (by omega), w64s (by omega)]
 exact kS 0 (Nat.zero_le _)
theorem red_total : ∀ (l : List Int) (s : Int), total (red s l).1 = total l - (s - (red s l).2)
 | [], s => by rw [red]; simp [total]
 | x :: xs, s => by
  have := red_total xs (s - min x s)
  rw [red]
  dsimp only
  rw [total_cons, total_cons, this]
  omega
theorem red_bd : ∀ (l : List Int) (s : Int), 0 ≤ s → (∀ x ∈ l, 0 ≤ x ∧ x ≤ 1000000000) → ∀ x ∈ (red s l).1, 0 ≤ x ∧ x ≤ 1000000000
 | [], s, _, _, x, hx => by rw [red] at hx; cases hx
 | y :: l, s, h0, hm, x, hx => by
  have hy := hm y List.mem_cons_self
  rw [red] at hx
  dsimp only at hx
  rcases List.mem_cons.1 hx with rfl | hx
  ·
   omega
  ·
   exact red_bd l _ (by omega) (fun z hz => hm z (List.mem_cons_of_mem _ hz)) x hx
theorem off_law (a : Int) (c d : List Int) (h : (off a c d).2.2.2 = true) : sums c = true ∧ sums d = true ∧ (-1000000000 ≤ a ∧ a ≤ 1000000000) ∧ (-1000000000 ≤ (off a c d).1 ∧ (off a c d).1 ≤ 1000000000) ∧
 (∀ x ∈ (off a c d).2.1, 0 ≤ x ∧ x ≤ 1000000000) ∧ (∀ x ∈ (off a c d).2.2.1, 0 ≤ x ∧ x ≤ 1000000000) ∧
 a - (off a c d).1 = total d - total (off a c d).2.2.1 - total c + total (off a c d).2.1 ∧ (0 ≤ a → 0 ≤ (off a c d).1) ∧ (a < 0 → (off a c d).1 ≤ 0) := by
 unfold off at h ⊢
 by_cases hg : (am a && sums c && sums d) = true
 ·
  rw [if_pos hg]
  simp only [Bool.and_eq_true] at hg
  obtain ⟨⟨ha, hc⟩, hd⟩ := hg
  have ha := am_iff.1 ha
  by_cases hz : a > 0
  ·
   rw [if_pos hz]
   have hl := red_left d a (by omega) (sums_mem hd)
   have ht := red_total d a
   refine ⟨hc, hd, ha, ⟨by dsimp only; omega, by dsimp only; omega⟩, sums_mem hc, red_bd d a (by omega) (sums_mem hd), by dsimp only; omega, fun _ => hl.1, fun _ => by omega⟩
  ·
   rw [if_neg hz]
   have hl := red_left c (-a) (by omega) (sums_mem hc)
   have ht := red_total c (-a)
   refine ⟨hc, hd, ha, ⟨by dsimp only; omega, by dsimp only; omega⟩, red_bd c (-a) (by omega) (sums_mem hc), sums_mem hd, by dsimp only; omega, fun _ => by dsimp only; omega, fun _ => by dsimp only; omega⟩
 ·
  rw [if_neg hg] at h
  cases h
theorem fill_total : ∀ (o l : List Int) (s : Int), o.length = l.length → 0 ≤ s → total (fill s (clip o l) l) = total (clip o l) + min s (total l - total (clip o l)) ∧ total (clip o l) ≤ total l
 | [], [], s, _, h => by rw [clip_nil, fill_nil]; simp [total]; omega
 | o :: os, d :: ds, s, h, h0 => by
  have hi := fill_total os ds (s - min s (d - min o d)) (by simpa using h) (by omega)
  rw [clip, fill, total_cons, total_cons, total_cons, hi.1]
  omega
 | [], _ :: _, _, h, _ => by simp at h
 | _ :: _, [], _, h, _ => by simp at h
theorem Dues.total_ {T : Int} {l : List Int} (h : Dues T l) : total (parts T l) = T := by
 obtain ⟨a, b, c⟩ := h.share_
 have h1 := clip_total _ _ a
 have h2 := h.lt
 unfold parts
 rw [(fill_total _ _ _ a (by omega)).1]
 omega
theorem Est.total_ {T : Int} {l : List Int} (h : Est T l) : total (dist T l) = if T < total l then T else total l := by
 unfold dist
 split
 ·
  rename_i c
  exact (Dues.mk h.t0 c h.tot h.len h.bd).total_
 ·
  rfl
theorem estate_est (T : Int) (l : List Int) (h : (estate T l).2 = true) : Est T l ∧ (estate T l).1 = dist T l := by
 unfold estate at h ⊢
 split
 ·
  rename_i hg
  rw [Bool.and_eq_true] at hg
  obtain ⟨h1, h2⟩ := hg
  have hT : 0 ≤ T ∧ T ≤ 1000000000 := by simpa using h2
  unfold good at h1
  rw [Bool.and_eq_true, Bool.and_eq_true, decide_eq_true_eq, decide_eq_true_eq, List.all_eq_true] at h1
  exact ⟨⟨hT.1, hT.2, h1.2, h1.1.1, fun x hx => okd_iff.1 (h1.1.2 x hx)⟩, rfl⟩
 ·
  rename_i hg
  rw [if_neg hg] at h
  cases h
theorem third {c : List Int} (hok : codeOk c) : Ev (fun k => laws_FnCloseOut.j4 k c false) true := by
 obtain ⟨T, l, hD, hl⟩ := destate_ok hok
 have hS := spec_ev T l (by omega)
 have hI := impl_ev T l (by omega)
 have hn := estate_len T l
 have he := estate_est T l
 generalize estate T l = r at hS hI hn he
 obtain ⟨p, b⟩ := r
 dsimp only at hn he
 refine Ev.step (fun k => by simp only [laws_FnCloseOut.j4]; rfl) ?_
 simp only [Bool.false_eq_true, if_false]
 refine Ev.bind hD (Ev.bind hI (Ev.bind hS ?_))
 simp only [bne_self_eq_false, Bool.false_eq_true, if_false]
 refine Ev.bind (vInts_ev p (by omega)) ?_
 simp only [if_true]
 refine Ev.step (fun k => by simp only [laws_FnCloseOut.j5]; rfl) ?_
 cases b with
 | false =>
  simp only [Bool.not_false, if_true, beq_self_eq_true]
  exact Ev.bind (vInts_ev p (by omega)) (Ev.now _)
 | true =>
  obtain ⟨h, rfl⟩ := he rfl
  have hd := h.dist_
  have ht := h.total_
  simp only [Bool.not_true, Bool.false_eq_true, if_false]
  refine Ev.bind (rSum_ev l h.len h.bd) ?_
  have hs := rSum_ev (dist T l) (by have := h.len; omega) hd.2
  rw [ht] at hs
  by_cases cT : T < total l
  ·
   simp only [if_pos cT] at hs ⊢
   refine Ev.bind hs ?_
   simp only [beq_self_eq_true]
   exact Ev.now _
  ·
   simp only [if_neg cT] at hs ⊢
   refine Ev.bind hs ?_
   simp only [beq_self_eq_true]
   exact Ev.now _
theorem second {c : List Int} (hok : codeOk c) : Ev (fun k => laws_FnCloseOut.j2 k c) true := by
 obtain ⟨a, L, M, hD, hL, hM⟩ := dsetoff_ok hok
 have hS := specOff_ev a L M (by omega) (by omega)
 have hI := implOff_ev a L M (by omega) (by omega)
 have hn := off_len a L M
 have hw := off_law a L M
 have h3 := third hok
 generalize off a L M = r at hS hI hn hw
 obtain ⟨x, p, q, b⟩ := r
 dsimp only at hn hw
 refine Ev.step (fun k => by simp only [laws_FnCloseOut.j2]; rfl) ?_
 refine Ev.bind hD (Ev.bind hI (Ev.bind hS ?_))
 simp only [bne_self_eq_false, Bool.false_eq_true, if_false]
 refine Ev.bind (vInts_ev p (by omega)) ?_
 simp only [if_true]
 refine Ev.bind (vInts_ev q (by omega)) ?_
 simp only [Bool.not_true]
 refine Ev.step (fun k => by simp only [laws_FnCloseOut.j3]; rfl) ?_
 simp only [Bool.false_eq_true, if_false]
 cases b with
 | false =>
  simp only [Bool.false_eq_true, if_false]
  exact h3
 | true =>
  obtain ⟨sL, sM, ha, hx, hp, hq, heq, g0, g1⟩ := hw rfl
  simp only [if_true]
  have tL := total_bd L (fun x hx => by have := sums_mem sL x hx; omega) _ (Nat.le_refl _)
  have tM := total_bd M (fun x hx => by have := sums_mem sM x hx; omega) _ (Nat.le_refl _)
  have tp := total_bd p (fun x hx => by have := hp x hx; omega) _ (Nat.le_refl _)
  have tq := total_bd q (fun x hx => by have := hq x hx; omega) _ (Nat.le_refl _)
  rw [List.take_length] at tL tM tp tq
  have lL := sums_len sL
  have lM := sums_len sM
  refine Ev.bind (rSum_ev M lM (sums_mem sM)) (Ev.bind (rSum_ev q hn.2 hq) (Ev.bind (rSum_ev L lL (sums_mem sL)) (Ev.bind (rSum_ev p hn.1 hp) ?_)))
  have e : wrap64 (a - x) = wrap64 (wrap64 (wrap64 (total M - total q) - total L) + total p) := by
   rw [w64 (x := a - x) (by omega) (by omega), w64 (x := total M - total q) (by omega) (by omega), w64 (x := total M - total q - total L) (by omega) (by omega), w64 (x := total M - total q - total L + total p) (by omega) (by omega)]
   exact heq
  simp only [if_pos e]
  by_cases c0 : a ≥ 0
  ·
   simp only [if_pos c0, if_neg (show ¬ x < 0 by have := g0 c0; omega), if_neg (show ¬ a < 0 by omega)]
   exact h3
  ·
   simp only [if_neg c0, if_pos (show a < 0 by omega), decide_eq_false (show ¬ x > 0 by have := g1 (by omega); omega)]
   exact h3
theorem counts {c q : List Int} {v : Int} (hq : q.length ≤ 101) (h2 : Ev (fun k => laws_FnCloseOut.j2 k c) true) (hlo : ∃ x ∈ q, x ≤ v) (hhi : ∃ x ∈ q, v ≤ x) : Ev (fun k => laws_FnCloseOut.l0 k c q v 0 0 0) true := by
 have key : ∀ i, i ≤ q.length → Ev (fun k => laws_FnCloseOut.l0 k c q v (((q.take i).countP fun x => decide (x < v) : Nat) : Int) (((q.take i).countP fun x => decide (x > v) : Nat) : Int) (i : Int)) true := by
  refine down q.length ?_ (fun i hi ih => ?_)
  ·
   rw [List.take_length]
   have n1 : ¬ (q.countP fun x => decide (x < v)) = q.length := fun h => by
    obtain ⟨x, hx, hv⟩ := hhi
    have := List.countP_eq_length.1 h x hx
    simp at this
    omega
   have n2 : ¬ (q.countP fun x => decide (x > v)) = q.length := fun h => by
    obtain ⟨x, hx, hv⟩ := hlo
    have := List.countP_eq_length.1 h x hx
    simp at this
    omega
   refine Ev.step (fun k => ?_) h2
   simp only [laws_FnCloseOut.l0]
   rw [if_neg (by omega), if_neg (by omega), if_neg (by omega)]
  ·
   have b1 : (q.take i).countP (fun x => decide (x < v)) ≤ i := Nat.le_trans List.countP_le_length (by rw [List.length_take]; omega)
   have b2 : (q.take i).countP (fun x => decide (x > v)) ≤ i := Nat.le_trans List.countP_le_length (by rw [List.length_take]; omega)
   rw [take_getD q i hi 0, List.countP_append, List.countP_append, List.countP_singleton, List.countP_singleton] at ih
   refine Ev.step (fun k => ?_) ih
   simp only [laws_FnCloseOut.l0]
   rw [if_pos (by omega), if_pos (by omega), rd_nat, w64s (i := i) (by omega)]
   generalize (q.take i).countP (fun x => decide (x < v)) = m1 at b1 ⊢
   generalize (q.take i).countP (fun x => decide (x > v)) = m2 at b2 ⊢
   generalize q.getD i 0 = x
   by_cases c1 : x < v
   ·
    rw [if_pos c1, if_neg (show ¬ x > v by omega), if_pos (decide_eq_true c1), if_neg (by simp; omega), w64s (by omega)]
    rfl
   ·
    rw [if_neg c1]
    by_cases c2 : x > v
    ·
     rw [if_pos c2, if_neg (by simp; omega), if_pos (decide_eq_true c2), w64s (by omega)]
     rfl
    ·
     rw [if_neg c2, if_neg (by simp; omega), if_neg (by simp; omega)]
     rfl
 exact key 0 (Nat.zero_le _)
theorem whole (c : List Int) (hc : ∀ x ∈ c, 0 ≤ x ∧ x ≤ 255) : Ev (fun k => laws_FnCloseOut.f k c) true := by
 unfold laws_FnCloseOut.f laws_vBig.f
 simp only [Option.bind_some]
 by_cases hl : (c.length : Int) > 65536
 ·
  simp only [decide_eq_true hl, if_true]
  exact Ev.now _
 ·
  simp only [decide_eq_false hl, Bool.false_eq_true, if_false]
  have hok : codeOk c := ⟨by omega, hc⟩
  obtain ⟨q, m, hD, hq⟩ := dquote_ok hok
  obtain ⟨⟨v, b⟩, hS, hI, hb⟩ := both q m (by omega)
  have h2 := second hok
  dsimp only at hb
  refine Ev.bind hD (Ev.bind hI (Ev.bind hS ?_))
  simp only [if_true, bne_self_eq_false]
  refine Ev.step (fun k => by simp only [laws_FnCloseOut.j0]; rfl) ?_
  simp only [Bool.false_eq_true, if_false]
  cases b with
  | false =>
   simp only [Bool.false_eq_true, if_false]
   exact h2
  | true =>
   obtain ⟨h3, h4⟩ := hb rfl
   simp only [if_true]
   exact counts hq h2 h3 h4
end Go.Proofs.Ytlneimpoholkhaa.PureFnCloseOut
namespace Go.Proofs.Ytlneimpoholkhaa.Pure
theorem FnCloseOut : PFnCloseOut.laws_FnCloseOut.Ask := fun c hc => (PureFnCloseOut.whole c (fun x hx => by have := hc.2.2 x hx; have h : IntKind.u8.min ≤ x ∧ x ≤ IntKind.u8.max := (by simpa [Go.Proofs.YtlneimpoholkhaaOpen.bInt, Lit.wf] using this); exact h)).rounds
end Go.Proofs.Ytlneimpoholkhaa.Pure
