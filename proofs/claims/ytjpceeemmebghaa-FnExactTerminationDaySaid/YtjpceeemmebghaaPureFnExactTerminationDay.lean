/-
The plain law behind FnExactTerminationDay: the printed functions of the program and of the reference give the same values, so the law answers true. No condition.
-/
import Derived.Test.YtjpceeemmebghaaAskFnExactTerminationDay
import Derived.Test.YtjpceeemmebghaaBase
namespace Go.Proofs.Ytjpceeemmebghaa.PureFnExactTerminationDay
open Go.RowKit Go.Proofs.Ytjpceeemmebghaa.PFnExactTerminationDay Go.Proofs.YtjpceeemmebghaaOpen Go.Proofs.YtjpceeemmebghaaBase Go.Proofs.YtjpceeemmebghaaW.PrintWords Go.Proofs.YtjpceeemmebghaaW.PrintLast Go.Proofs.YtjpceeemmebghaaW.PrintMore

theorem within_eq (x a b : Int) : impl_within.f x a b = some (decide (a ≤ x) && decide (x ≤ b)) := by
  unfold impl_within.f
  by_cases h : x ≥ a
  · rw [if_pos h]; simp [h]
  · rw [if_neg h]; simp [h]

theorem l1In_eq (x a b : Int) : spec_l1In.f x a b = some (decide (a ≤ x) && decide (x ≤ b)) := by
  unfold spec_l1In.f
  by_cases h : x ≥ a
  · rw [if_pos h]; simp [h]
  · rw [if_neg h]; simp [h]

/-! rising lists -/
def riseAt (lo hi : Int) (s : List Int) (i : Nat) : Bool := (decide (lo ≤ s.getD i 0) && decide (s.getD i 0 ≤ hi)) && (i == 0 || decide (s.getD (i - 1) 0 < s.getD i 0))
def restRise (lo hi : Int) (s : List Int) (i : Nat) : Bool := (List.range' i (s.length - i)).all (riseAt lo hi s)
def rise (lo hi : Int) (s : List Int) : Bool := restRise lo hi s 0
theorem restRise_end (lo hi : Int) (s : List Int) : restRise lo hi s s.length = true := by simp [restRise]
theorem restRise_step (lo hi : Int) (s : List Int) {i : Nat} (h : i < s.length) : restRise lo hi s i = (riseAt lo hi s i && restRise lo hi s (i + 1)) := by
  unfold restRise
  rw [show s.length - i = (s.length - (i + 1)) + 1 by omega, List.range'_succ, List.all_cons]
theorem rise_at {lo hi : Int} {s : List Int} (h : rise lo hi s = true) (i : Nat) (hi' : i < s.length) : riseAt lo hi s i = true := by
  unfold rise restRise at h
  rw [List.all_eq_true] at h
  exact h i (by rw [List.mem_range']; exact ⟨i, by omega, by omega⟩)
theorem rise_mem {lo hi : Int} {s : List Int} (h : rise lo hi s = true) : ∀ a ∈ s, lo ≤ a ∧ a ≤ hi := by
  intro a ha
  obtain ⟨i, hi', rfl⟩ := List.getElem_of_mem ha
  have := rise_at h i hi'
  simp only [riseAt, Bool.and_eq_true, decide_eq_true_eq] at this
  rw [List.getD_eq_getElem?_getD, List.getElem?_eq_getElem hi'] at this
  exact this.1
theorem rise_ge {hi : Int} {s : List Int} (h : rise 0 hi s = true) : ∀ i, i < s.length → (i : Int) ≤ s.getD i 0 := by
  intro i
  induction i with
  | zero =>
    intro hi'
    have := rise_at h 0 hi'
    simp only [riseAt, Bool.and_eq_true, decide_eq_true_eq] at this
    omega
  | succ i ih =>
    intro hi'
    have h1 := ih (by omega)
    have := rise_at h (i + 1) hi'
    simp only [riseAt, Bool.and_eq_true, decide_eq_true_eq, Nat.add_sub_cancel, Bool.or_eq_true, beq_iff_eq] at this
    omega
theorem rise_len {hi : Int} {s : List Int} (h : rise 0 hi s = true) : s = [] ∨ (s.length : Int) ≤ hi + 1 := by
  rcases Nat.eq_zero_or_pos s.length with h0 | h0
  · exact .inl (List.eq_nil_of_length_eq_zero h0)
  · right
    have h1 := rise_ge h (s.length - 1) (by omega)
    have := rise_at h (s.length - 1) (by omega)
    simp only [riseAt, Bool.and_eq_true, decide_eq_true_eq] at this
    omega

theorem specRise_loop (lo hi : Int) (s : List Int) (hs : s.length ≤ 1048576) : ∀ i, i ≤ s.length → Ev (fun k => spec_l1Rising.l0 k s lo hi (i : Int)) (restRise lo hi s i) := by
  refine down s.length ?_ (fun i hi' ih => ?_)
  · rw [restRise_end]
    exact Ev.step (f := fun _ => some true) (fun k => by simp only [spec_l1Rising.l0]; rw [if_neg (by omega)]) (Ev.now _)
  · rw [restRise_step lo hi s hi', riseAt]
    have hx : rd s (i : Int) = s.getD i 0 := rfl
    have hy : rd s ((i - 1 : Nat) : Int) = s.getD (i - 1) 0 := rfl
    generalize s.getD i 0 = x at hx ⊢
    generalize s.getD (i - 1) 0 = y at hy ⊢
    cases c : (decide (lo ≤ x) && decide (x ≤ hi)) with
    | false =>
      refine Ev.step (f := fun _ => some false) (fun k => ?_) (Ev.now _)
      simp only [spec_l1Rising.l0]
      rw [if_pos (by omega), if_pos (by omega), hx, l1In_eq, c]
      rfl
    | true =>
      by_cases hz : i = 0
      · subst hz
        refine Ev.step (f := fun k => spec_l1Rising.l0 k s lo hi ((0 + 1 : Nat) : Int)) (fun k => ?_) (by simpa using ih)
        simp only [spec_l1Rising.l0]
        rw [if_pos (by omega), if_pos (by omega), hx, l1In_eq, c, Option.bind_some, if_pos rfl, if_neg (by omega), w64s (by omega)]
      · have hb : (i == 0) = false := by simpa using hz
        rw [hb]
        by_cases c2 : y ≥ x
        · have : decide (y < x) = false := by simpa using c2
          rw [this]
          refine Ev.step (f := fun _ => some false) (fun k => ?_) (Ev.now _)
          simp only [spec_l1Rising.l0]
          rw [if_pos (by omega), if_pos (by omega), hx, l1In_eq, c, Option.bind_some, if_pos rfl, if_pos (by omega), w64p (by omega) (by omega), if_pos (by omega), if_pos (by omega), hy, if_pos c2]
        · have : decide (y < x) = true := by simpa using c2
          rw [this]
          refine Ev.step (f := fun k => spec_l1Rising.l0 k s lo hi ((i + 1 : Nat) : Int)) (fun k => ?_) (by simpa using ih)
          simp only [spec_l1Rising.l0]
          rw [if_pos (by omega), if_pos (by omega), hx, l1In_eq, c, Option.bind_some, if_pos rfl, if_pos (by omega), w64p (by omega) (by omega), if_pos (by omega), if_pos (by omega), hy, if_neg c2, w64s (by omega)]
theorem specRise_ev (lo hi : Int) (s : List Int) (hs : s.length ≤ 1048576) : Ev (fun k => spec_l1Rising.f k s lo hi) (rise lo hi s) := specRise_loop lo hi s hs 0 (Nat.zero_le _)

theorem implRise_loop (lo hi most : Int) (s : List Int) (hs : s.length ≤ 1048576) : ∀ i, i ≤ s.length → Ev (fun k => impl_isRising.l0 k s lo hi most s (s.length : Int) (i : Int)) (restRise lo hi s i && decide ((s.length : Int) ≤ most)) := by
  refine down s.length ?_ (fun i hi' ih => ?_)
  · rw [restRise_end]
    exact Ev.step (f := fun _ => some (decide ((s.length : Int) ≤ most))) (fun k => by simp only [impl_isRising.l0]; rw [if_neg (by omega)]) (by rw [Bool.true_and]; exact Ev.now _)
  · rw [restRise_step lo hi s hi', riseAt]
    have hx : rd s (i : Int) = s.getD i 0 := rfl
    have hy : rd s ((i - 1 : Nat) : Int) = s.getD (i - 1) 0 := rfl
    generalize s.getD i 0 = x at hx ⊢
    generalize s.getD (i - 1) 0 = y at hy ⊢
    cases c : (decide (lo ≤ x) && decide (x ≤ hi)) with
    | false =>
      refine Ev.step (f := fun _ => some false) (fun k => ?_) (Ev.now _)
      simp only [impl_isRising.l0]
      rw [if_pos (by omega), if_pos (by omega), if_pos (by omega), hx, within_eq, c]
      rfl
    | true =>
      by_cases hz : i = 0
      · subst hz
        refine Ev.step (f := fun k => impl_isRising.l0 k s lo hi most s (s.length : Int) ((0 + 1 : Nat) : Int)) (fun k => ?_) (by simpa using ih)
        simp only [impl_isRising.l0]
        rw [if_pos (by omega), if_pos (by omega), if_pos (by omega), hx, within_eq, c, Option.bind_some, if_pos rfl, if_neg (by omega), w64s (by omega)]
      · have hb : (i == 0) = false := by simpa using hz
        rw [hb]
        by_cases c2 : x ≤ y
        · have : decide (y < x) = false := by simpa using c2
          rw [this]
          refine Ev.step (f := fun _ => some false) (fun k => ?_) (Ev.now _)
          simp only [impl_isRising.l0]
          rw [if_pos (by omega), if_pos (by omega), if_pos (by omega), hx, within_eq, c, Option.bind_some, if_pos rfl, if_pos (by omega), w64p (by omega) (by omega), if_pos (by omega), if_pos (by omega), hy, if_pos c2]
        · have : decide (y < x) = true := by simp; omega
          rw [this]
          refine Ev.step (f := fun k => impl_isRising.l0 k s lo hi most s (s.length : Int) ((i + 1 : Nat) : Int)) (fun k => ?_) (by simpa using ih)
          simp only [impl_isRising.l0]
          rw [if_pos (by omega), if_pos (by omega), if_pos (by omega), hx, within_eq, c, Option.bind_some, if_pos rfl, if_pos (by omega), w64p (by omega) (by omega), if_pos (by omega), if_pos (by omega), hy, if_neg c2, w64s (by omega)]
theorem implRise_ev (lo hi most : Int) (s : List Int) (hs : s.length ≤ 1048576) : Ev (fun k => impl_isRising.f k s lo hi most) (rise lo hi s && decide ((s.length : Int) ≤ most)) := implRise_loop lo hi most s hs 0 (Nat.zero_le _)


theorem has_ev (s : List Int) (a : Int) (hs : s.length ≤ 1048576) : Ev (fun k => spec_l1Has.f k s a) (s.contains a) := by
  unfold spec_l1Has.f
  have key : ∀ i, i ≤ s.length → Ev (fun k => spec_l1Has.l0 k s a (i : Int)) ((s.drop i).contains a) := by
    refine down s.length ?_ (fun i hi ih => ?_)
    · rw [List.drop_length]
      exact Ev.step (f := fun _ => some false) (fun k => by simp only [spec_l1Has.l0]; rw [if_neg (by omega)]) (Ev.now _)
    · rw [drop_getD s i hi 0]
      have hx : rd s (i : Int) = s.getD i 0 := rfl
      generalize s.getD i 0 = x at hx ⊢
      by_cases c : x = a
      · have : (x :: s.drop (i + 1)).contains a = true := by simp [c]
        rw [this]
        refine Ev.step (f := fun _ => some true) (fun k => ?_) (Ev.now _)
        simp only [spec_l1Has.l0]
        rw [if_pos (by omega), if_pos (by omega), hx, if_pos c]
      · have : (x :: s.drop (i + 1)).contains a = (s.drop (i + 1)).contains a := by
          rw [Bool.eq_iff_iff]; simp [Ne.symm c]
        rw [this]
        refine Ev.step (fun k => ?_) ih
        simp only [spec_l1Has.l0]
        rw [if_pos (by omega), if_pos (by omega), hx, if_neg c, w64s (by omega)]
  exact key 0 (Nat.zero_le _)

theorem toI_ev (s : List Int) (hs : s.length ≤ 1048576) : Ev (fun k => laws_toIntS.f k s) s := by
  unfold laws_toIntS.f
  refine Ev.congr (f := fun k => laws_toIntS.l0 k s (List.replicate s.length 0) 0) (fun k => by rw [if_pos (by omega), if_pos (by omega)]; rfl) ?_
  have := copy_loop (fun x : Int => x) 0 0 s (fun k y i => laws_toIntS.l0 k s y i) ?_ ?_
  · rw [List.map_id'] at this; exact this
  · intro k i y hi hy
    simp only [laws_toIntS.l0]
    rw [if_pos (by omega), if_pos (by omega), if_pos (by omega), w64s (by omega)]
    rfl
  · intro k y hy
    simp only [laws_toIntS.l0]
    rw [if_neg (by omega)]

theorem eqI_ev (s : List Int) (hl : s.length ≤ 1048576) : Ev (fun k => laws_eqIntS.f k s s) true := by
  unfold laws_eqIntS.f
  refine Ev.congr (f := fun k => laws_eqIntS.l0 k s s 0) (fun k => by rw [if_pos rfl]) ?_
  refine same_loop s (fun k i => laws_eqIntS.l0 k s s i) (fun i hi ih => ?_) (fun k => by simp only [laws_eqIntS.l0]; rw [if_neg (by omega)])
  refine Ev.step (f := fun k => laws_eqIntS.l0 k s s ((i + 1 : Nat) : Int)) (fun k => ?_) ih
  simp only [laws_eqIntS.l0]
  rw [if_pos (by omega), if_pos (by omega), if_pos (by omega), w64s (by omega)]
  exact if_pos trivial

/-! calendars: valid ones, open days, the next open day -/
def calOk (w h : List Int) : Bool := (rise 0 6 w && decide (w.length ≤ 6)) && (rise 0 36524 h && decide (h.length ≤ 40))
theorem specCal_ev (w h : List Int) (hw : w.length ≤ 1048576) (hh : h.length ≤ 1048576) : Ev (fun k => spec_l4Good.f k w h) (calOk w h) := by
  unfold spec_l4Good.f calOk
  by_cases c : (w.length : Int) ≤ 6
  · simp only [if_pos c, decide_eq_true (show w.length ≤ 6 by omega), Bool.and_true]
    refine Ev.bind (specRise_ev 0 6 w hw) ?_
    cases rise 0 6 w with
    | false => exact Ev.now _
    | true =>
      simp only [if_true, Bool.true_and]
      by_cases d : (h.length : Int) ≤ 40
      · simp only [if_pos d, decide_eq_true (show h.length ≤ 40 by omega), Bool.and_true]
        exact Ev.bind (specRise_ev 0 36524 h hh) (Ev.now _)
      · simp only [if_neg d, decide_eq_false (show ¬ h.length ≤ 40 by omega), Bool.and_false]
        exact Ev.now _
  · simp only [if_neg c, decide_eq_false (show ¬ w.length ≤ 6 by omega), Bool.and_false, Bool.false_and]
    exact Ev.now _
theorem implCal_ev (w h : List Int) (hw : w.length ≤ 1048576) (hh : h.length ≤ 1048576) : Ev (fun k => impl_IsValidCalendar.f k w h) (calOk w h) := by
  unfold impl_IsValidCalendar.f calOk
  refine Ev.bind (implRise_ev 0 6 6 w hw) ?_
  rw [show decide ((w.length : Int) ≤ 6) = decide (w.length ≤ 6) by rw [decide_eq_decide]; omega]
  cases rise 0 6 w && decide (w.length ≤ 6) with
  | false => exact Ev.now _
  | true =>
    simp only [if_true, Bool.true_and]
    have := implRise_ev 0 36524 40 h hh
    rw [show decide ((h.length : Int) ≤ 40) = decide (h.length ≤ 40) by rw [decide_eq_decide]; omega] at this
    exact Ev.bind this (Ev.now _)
theorem calOk_len {w h : List Int} (hc : calOk w h = true) : w.length ≤ 6 ∧ h.length ≤ 40 := by
  simp only [calOk, Bool.and_eq_true, decide_eq_true_eq] at hc
  exact ⟨hc.1.2, hc.2.2⟩
def dayOk (d : Int) : Bool := decide (0 ≤ d) && decide (d ≤ 36524)
theorem dayOk_iff {d : Int} : dayOk d = true ↔ 0 ≤ d ∧ d ≤ 36524 := by simp [dayOk]
theorem specDay_eq (d : Int) : spec_l3Good.f d = some (dayOk d) := by unfold spec_l3Good.f; rw [l1In_eq]; rfl
theorem implDay_eq (d : Int) : impl_isDay.f d = some (dayOk d) := by unfold impl_isDay.f; rw [within_eq]; rfl
def isOpen (w h : List Int) (d : Int) : Bool := !(w.contains (Int.tmod (wrap64 (d + 5)) 7)) && !(h.contains d)
theorem index_ev (s : List Int) (a : Int) (hs : s.length ≤ 1048576) : ∃ r, Ev (fun k => slices_Index_int_int.f k s a) r ∧ (decide (r ≥ 0)) = s.contains a := by
  unfold slices_Index_int_int.f
  have key : ∀ i, i ≤ s.length → ∃ r, Ev (fun k => slices_Index_int_int.l0 k s a (s.length : Int) (i : Int)) r ∧ decide (r ≥ 0) = (s.drop i).contains a := by
    refine down s.length ?_ (fun i hi ih => ?_)
    · refine ⟨-1, Ev.step (f := fun _ => some (-1)) (fun k => by simp only [slices_Index_int_int.l0]; rw [if_neg (by omega)]) (Ev.now _), ?_⟩
      rw [List.drop_length]; rfl
    · rw [drop_getD s i hi 0]
      have hx : rd s (i : Int) = s.getD i 0 := rfl
      generalize s.getD i 0 = x at hx ⊢
      by_cases c : a = x
      · refine ⟨(i : Int), Ev.step (f := fun _ => some (i : Int)) (fun k => ?_) (Ev.now _), ?_⟩
        · simp only [slices_Index_int_int.l0]
          rw [if_pos (by omega), if_pos (by omega), if_pos (by omega), hx, if_pos c]
        · have : (x :: s.drop (i + 1)).contains a = true := by simp [c]
          rw [this]; simp
      · obtain ⟨r, hr, hd⟩ := ih
        refine ⟨r, Ev.step (fun k => ?_) hr, ?_⟩
        · simp only [slices_Index_int_int.l0]
          rw [if_pos (by omega), if_pos (by omega), if_pos (by omega), hx, if_neg c, w64s (by omega)]
        · have : (x :: s.drop (i + 1)).contains a = (s.drop (i + 1)).contains a := by
            rw [Bool.eq_iff_iff]; simp [c]
          rw [this, hd]
  exact key 0 (Nat.zero_le _)
theorem contains_ev (s : List Int) (a : Int) (hs : s.length ≤ 1048576) : Ev (fun k => slices_Contains_int_int.f k s a) (s.contains a) := by
  obtain ⟨r, hr, hd⟩ := index_ev s a hs
  unfold slices_Contains_int_int.f
  refine Ev.bind hr ?_
  rw [hd]
  exact Ev.now _
theorem specOpen_ev (w h : List Int) (d : Int) (hw : w.length ≤ 1048576) (hh : h.length ≤ 1048576) : Ev (fun k => spec_l4Open.f k w h d) (isOpen w h d) := by
  unfold spec_l4Open.f spec_l3Weekday.f isOpen
  simp only [Option.bind_some]
  refine Ev.bind (has_ev w _ hw) ?_
  cases w.contains (Int.tmod (wrap64 (d + 5)) 7) with
  | true => exact Ev.now _
  | false => exact Ev.bind (has_ev h d hh) (Ev.now _)
theorem implOpen_ev (w h : List Int) (d : Int) (hw : w.length ≤ 1048576) (hh : h.length ≤ 1048576) : Ev (fun k => impl_isBusiness.f k w h d) (isOpen w h d) := by
  unfold impl_isBusiness.f impl_weekday.f isOpen
  simp only [Option.bind_some]
  refine Ev.bind (contains_ev w _ hw) ?_
  cases w.contains (Int.tmod (wrap64 (d + 5)) 7) with
  | true => exact Ev.now _
  | false => exact Ev.bind (contains_ev h d hh) (Ev.now _)
theorem seek_both (w h : List Int) (hw : w.length ≤ 1048576) (hh : h.length ≤ 1048576) (step : Int) (hs : step = 1 ∨ step = -1) : ∀ (n : Nat) (d : Int), -1 ≤ d → d ≤ 36525 → (if step = 1 then 36526 - d else d + 2) ≤ (n : Int) →
    ∃ r, Ev (fun k => spec_l4Seek.l0 k d step w h) r ∧ Ev (fun k => impl_nearBusiness.l0 k d step w h) r ∧ (r = -1 ∨ 0 ≤ r ∧ r ≤ 36524) := by
  intro n
  induction n with
  | zero =>
    intro d h0 h1 hn
    rcases hs with rfl | rfl
    · rw [if_pos rfl] at hn; omega
    · rw [if_neg (by decide)] at hn; omega
  | succ n ih =>
    intro d h0 h1 hn
    cases hd : dayOk d with
    | false =>
      refine ⟨-1, ?_, ?_, .inl rfl⟩
      · exact Ev.step (f := fun _ => some (-1)) (fun k => by simp only [spec_l4Seek.l0]; rw [specDay_eq, hd]; rfl) (Ev.now _)
      · exact Ev.step (f := fun _ => some (-1)) (fun k => by simp only [impl_nearBusiness.l0]; rw [implDay_eq, hd]; rfl) (Ev.now _)
    | true =>
      have hb := dayOk_iff.1 hd
      cases ho : isOpen w h d with
      | true =>
        refine ⟨d, ?_, ?_, .inr hb⟩
        · refine Ev.step (fun k => by simp only [spec_l4Seek.l0]; rfl) ?_
          rw [specDay_eq, hd]
          simp only [Option.bind_some, if_true]
          refine Ev.bind (specOpen_ev w h d hw hh) ?_
          rw [ho]; exact Ev.now _
        · refine Ev.step (fun k => by simp only [impl_nearBusiness.l0]; rfl) ?_
          rw [implDay_eq, hd]
          simp only [Option.bind_some, if_true]
          refine Ev.bind (implOpen_ev w h d hw hh) ?_
          rw [ho]; exact Ev.now _
      | false =>
        have e : wrap64 (d + step) = d + step := w64 (by omega) (by omega)
        obtain ⟨r, h1', h2', h3'⟩ := ih (d + step) (by omega) (by omega) (by rcases hs with rfl | rfl; (rw [if_pos rfl] at hn ⊢; omega); (rw [if_neg (by decide)] at hn ⊢; omega))
        refine ⟨r, ?_, ?_, h3'⟩
        · refine Ev.step (fun k => by simp only [spec_l4Seek.l0]; rfl) ?_
          rw [specDay_eq, hd]
          simp only [Option.bind_some, if_true]
          refine Ev.bind (specOpen_ev w h d hw hh) ?_
          rw [ho, e]; exact h1'
        · refine Ev.step (fun k => by simp only [impl_nearBusiness.l0]; rfl) ?_
          rw [implDay_eq, hd]
          simp only [Option.bind_some, if_true]
          refine Ev.bind (implOpen_ev w h d hw hh) ?_
          rw [ho, e]; exact h2'
theorem seek_ev (w h : List Int) (hw : w.length ≤ 1048576) (hh : h.length ≤ 1048576) (step : Int) (hs : step = 1 ∨ step = -1) (d : Int) (h0 : -1 ≤ d) (h1 : d ≤ 36525) :
    ∃ r, Ev (fun k => spec_l4Seek.f k w h d step) r ∧ Ev (fun k => impl_nearBusiness.f k w h d step) r ∧ (r = -1 ∨ 0 ≤ r ∧ r ≤ 36524) :=
  seek_both w h hw hh step hs 36527 d h0 h1 (by rcases hs with rfl | rfl; (rw [if_pos rfl]; omega); (rw [if_neg (by decide)]; omega))
theorem add_loop (w h : List Int) (hw : w.length ≤ 1048576) (hh : h.length ≤ 1048576) (step : Int) (hs : step = 1 ∨ step = -1) (N : Nat) (hN : N ≤ 1000) : ∀ i, i ≤ N → ∀ d : Int, 0 ≤ d → d ≤ 36524 →
    ∃ r, Ev (fun k => spec_AddBusinessDays.l0 k d ((N - i : Nat) : Int) step w h) r ∧ Ev (fun k => impl_AddBusinessDays.l0 k d step (N : Int) (i : Int) w h) r ∧ (r = (0, false) ∨ r.2 = true ∧ 0 ≤ r.1 ∧ r.1 ≤ 36524) := by
  refine down N ?_ (fun i hi ih => ?_)
  · intro d h0 h1
    refine ⟨(d, true), ?_, ?_, .inr ⟨rfl, h0, h1⟩⟩
    · refine Ev.step (f := fun _ => some (d, true)) (fun k => ?_) (Ev.now _)
      simp only [spec_AddBusinessDays.l0]
      rw [if_neg (by omega)]
    · refine Ev.step (f := fun _ => some (d, true)) (fun k => ?_) (Ev.now _)
      simp only [impl_AddBusinessDays.l0]
      rw [if_neg (by omega)]
  · intro d h0 h1
    have e : wrap64 (d + step) = d + step := w64 (by omega) (by omega)
    obtain ⟨r, hS, hI, hr⟩ := seek_ev w h hw hh step hs (d + step) (by omega) (by omega)
    by_cases c : r < 0
    · refine ⟨(0, false), ?_, ?_, .inl rfl⟩
      · refine Ev.step (fun k => by simp only [spec_AddBusinessDays.l0]; rw [if_pos (show ((N - i : Nat) : Int) > 0 by omega), e]) ?_
        refine Ev.bind hS ?_
        simp only [if_pos c]
        exact Ev.now _
      · refine Ev.step (fun k => by simp only [impl_AddBusinessDays.l0]; rw [if_pos (show (i : Int) < (N : Int) by omega), e]) ?_
        refine Ev.bind hI ?_
        simp only [if_pos c]
        exact Ev.now _
    · obtain ⟨q, hS', hI', hq⟩ := ih r (by omega) (by omega)
      refine ⟨q, ?_, ?_, hq⟩
      · refine Ev.step (fun k => by simp only [spec_AddBusinessDays.l0]; rw [if_pos (show ((N - i : Nat) : Int) > 0 by omega), e]) ?_
        refine Ev.bind hS ?_
        simp only [if_neg c]
        rw [w64 (by omega) (by omega), show ((N - i : Nat) : Int) - 1 = ((N - (i + 1) : Nat) : Int) by omega]
        exact hS'
      · refine Ev.step (fun k => by simp only [impl_AddBusinessDays.l0]; rw [if_pos (show (i : Int) < (N : Int) by omega), e]) ?_
        refine Ev.bind hI ?_
        simp only [if_neg c]
        rw [w64s (by omega)]
        exact hI'
theorem add_both (w h : List Int) (hw : w.length ≤ 1048576) (hh : h.length ≤ 1048576) (d n : Int) : ∃ r, Ev (fun k => spec_AddBusinessDays.f k w h d n) r ∧ Ev (fun k => impl_AddBusinessDays.f k w h d n) r ∧ (r = (0, false) ∨ r.2 = true ∧ 0 ≤ r.1 ∧ r.1 ≤ 36524) := by
  unfold spec_AddBusinessDays.f impl_AddBusinessDays.f
  have hS := specCal_ev w h hw hh
  have hI := implCal_ev w h hw hh
  rw [specDay_eq, implDay_eq, l1In_eq, within_eq]
  have bad : ∀ (P : Prop), ∃ r : Int × Bool, Ev (fun k => spec_AddBusinessDays.j0 k d n true w h) r ∧ Ev (fun k => impl_AddBusinessDays.j0 k d n true w h) r ∧ (r = (0, false) ∨ r.2 = true ∧ 0 ≤ r.1 ∧ r.1 ≤ 36524) := fun _ => by
    refine ⟨(0, false), ?_, ?_, .inl rfl⟩
    · exact Ev.step (f := fun _ => some (0, false)) (fun k => by simp only [spec_AddBusinessDays.j0]; rfl) (Ev.now _)
    · exact Ev.step (f := fun _ => some (0, false)) (fun k => by simp only [impl_AddBusinessDays.j0]; rfl) (Ev.now _)
  cases hc : calOk w h with
  | false =>
    rw [hc] at hS hI
    obtain ⟨r, h1, h2, h3⟩ := bad True
    exact ⟨r, Ev.bind hS h1, Ev.bind hI h2, h3⟩
  | true =>
    rw [hc] at hS hI
    cases hd : dayOk d with
    | false =>
      obtain ⟨r, h1, h2, h3⟩ := bad True
      exact ⟨r, Ev.bind hS h1, Ev.bind hI h2, h3⟩
    | true =>
      have hd' := dayOk_iff.1 hd
      by_cases c : -1000 ≤ n ∧ n ≤ 1000
      · have e : (decide (-1000 ≤ n) && decide (n ≤ 1000)) = true := by simpa using c
        rw [e]
        by_cases hn : n < 0
        · obtain ⟨r, h1, h2, h3⟩ := add_loop w h hw hh (-1) (.inr rfl) n.natAbs (by omega) 0 (Nat.zero_le _) d hd'.1 hd'.2
          refine ⟨r, Ev.bind hS ?_, Ev.bind hI ?_, h3⟩
          · simp only [if_true, Option.bind_some]
            refine Ev.step (fun k => by simp only [spec_AddBusinessDays.j0]; rw [if_neg (by simp), if_pos hn, w64 (x := -n) (by omega) (by omega)]) ?_
            refine Ev.step (fun k => by simp only [spec_AddBusinessDays.j1]; rfl) ?_
            rw [show ((n.natAbs - 0 : Nat) : Int) = -n by omega] at h1
            exact h1
          · simp only [if_true, Option.bind_some]
            refine Ev.step (fun k => by simp only [impl_AddBusinessDays.j0]; rw [if_neg (by simp), if_pos hn]) ?_
            refine Ev.step (f := fun k => impl_AddBusinessDays.l0 k d (-1) (n.natAbs : Int) 0 w h) (fun k => ?_) h2
            simp only [impl_AddBusinessDays.j1]
            unfold impl_size.f
            rw [Option.bind_some, w64 (x := -n) (by omega) (by omega), show mx n (-n) = (n.natAbs : Int) by unfold mx; split <;> omega]
        · obtain ⟨r, h1, h2, h3⟩ := add_loop w h hw hh 1 (.inl rfl) n.natAbs (by omega) 0 (Nat.zero_le _) d hd'.1 hd'.2
          refine ⟨r, Ev.bind hS ?_, Ev.bind hI ?_, h3⟩
          · simp only [if_true, Option.bind_some]
            refine Ev.step (fun k => by simp only [spec_AddBusinessDays.j0]; rw [if_neg (by simp), if_neg hn]) ?_
            refine Ev.step (fun k => by simp only [spec_AddBusinessDays.j1]; rfl) ?_
            rw [show ((n.natAbs - 0 : Nat) : Int) = n by omega] at h1
            exact h1
          · simp only [if_true, Option.bind_some]
            refine Ev.step (fun k => by simp only [impl_AddBusinessDays.j0]; rw [if_neg (by simp), if_neg hn]) ?_
            refine Ev.step (f := fun k => impl_AddBusinessDays.l0 k d 1 (n.natAbs : Int) 0 w h) (fun k => ?_) h2
            simp only [impl_AddBusinessDays.j1]
            unfold impl_size.f
            rw [Option.bind_some, w64 (x := -n) (by omega) (by omega), show mx n (-n) = (n.natAbs : Int) by unfold mx; split <;> omega]
      · have e : (decide (-1000 ≤ n) && decide (n ≤ 1000)) = false := by simpa using c
        rw [e]
        obtain ⟨r, h1, h2, h3⟩ := bad True
        refine ⟨r, Ev.bind hS ?_, Ev.bind hI ?_, h3⟩
        · simp only [if_true, Option.bind_some]; exact h1
        · simp only [if_true, Option.bind_some]; exact h2

/-! a calendar as an argument -/
theorem szCal_ev (w h : List Int) (hw : w.length ≤ maxLen) (hh : h.length ≤ maxLen) : ∃ r, laws_szCalendar.f w h 1048576 = some r ∧ (0 ≤ r → w.length ≤ 1048576 ∧ h.length ≤ 1048576) := by
  unfold maxLen at hw hh
  unfold laws_szCalendar.f laws_szIntS.f
  rw [w64 (by omega) (by omega)]
  by_cases c : w.length ≤ 1048576
  · rw [if_neg (by omega), Option.bind_some, if_neg (by omega), w64 (by omega) (by omega)]
    by_cases d : w.length + h.length ≤ 1048576
    · rw [if_neg (by omega), Option.bind_some, if_neg (by omega)]
      exact ⟨_, rfl, fun _ => by omega⟩
    · rw [if_pos (by omega), Option.bind_some, if_pos (by omega)]
      exact ⟨_, rfl, fun h => by omega⟩
  · rw [if_pos (by omega), Option.bind_some, if_pos (by omega)]
    exact ⟨_, rfl, fun h => by omega⟩
theorem toCal_ev (w h : List Int) (hw : w.length ≤ 1048576) (hh : h.length ≤ 1048576) : Ev (fun k => laws_toCalendar.f k w h) (w, h) := by
  unfold laws_toCalendar.f
  exact Ev.bind (toI_ev w hw) (Ev.bind (toI_ev h hh) (Ev.now _))
theorem eqCal_ev (w h : List Int) (hw : w.length ≤ 1048576) (hh : h.length ≤ 1048576) : Ev (fun k => laws_eqCalendar.f k w h w h) true := by
  unfold laws_eqCalendar.f
  refine Ev.bind (eqI_ev w hw) ?_
  simp only [if_true]
  refine Ev.bind (eqI_ev h hh) ?_
  simp only [if_true]
  exact Ev.now _

/-! the day of termination -/
theorem specT_loop (a : Int) (cured : List Int) (hc : cured.length ≤ 1048576) (e : Int) : ∀ i, i ≤ cured.length → Ev (fun k => spec_TerminationDay.l0 k a cured e (i : Int)) (if (cured.drop i).any (fun d => decide (a ≤ d) && decide (d ≤ e)) = true then (0, false) else (e, true)) := by
  refine down cured.length ?_ (fun i hi ih => ?_)
  · rw [List.drop_length]
    exact Ev.step (f := fun _ => some (e, true)) (fun k => by simp only [spec_TerminationDay.l0]; rw [if_neg (by omega)]) (Ev.now _)
  · rw [drop_getD cured i hi 0, List.any_cons]
    have hx : rd cured (i : Int) = cured.getD i 0 := rfl
    generalize cured.getD i 0 = x at hx ⊢
    cases c : (decide (a ≤ x) && decide (x ≤ e)) with
    | true =>
      refine Ev.step (f := fun _ => some (0, false)) (fun k => ?_) (Ev.now _)
      simp only [spec_TerminationDay.l0]
      rw [if_pos (by omega), if_pos (by omega), hx, l1In_eq, c]
      rfl
    | false =>
      rw [Bool.false_or]
      refine Ev.step (fun k => ?_) ih
      simp only [spec_TerminationDay.l0]
      rw [if_pos (by omega), if_pos (by omega), hx, l1In_eq, c, Option.bind_some, if_neg (by simp), w64s (by omega)]
theorem term_both (w h : List Int) (hw : w.length ≤ 1048576) (hh : h.length ≤ 1048576) (a g : Int) (cured : List Int) (hc : cured.length ≤ 1048576) : ∃ r, Ev (fun k => spec_TerminationDay.f k w h a g cured) r ∧ Ev (fun k => impl_TerminationDay.f k w h a g cured) r := by
  unfold spec_TerminationDay.f impl_TerminationDay.f
  rw [l1In_eq, within_eq]
  simp only [Option.bind_some]
  have bad : Ev (fun k => spec_TerminationDay.j0 k a g cured true w h) (0, false) := Ev.step (f := fun _ => some (0, false)) (fun k => by simp only [spec_TerminationDay.j0]; rfl) (Ev.now _)
  cases (decide (0 ≤ g) && decide (g ≤ 60)) with
  | false => exact ⟨(0, false), bad, Ev.now _⟩
  | true =>
    simp only [if_true]
    have hS := specRise_ev 0 36524 cured hc
    have hI := implRise_ev 0 36524 (cured.length : Int) cured hc
    rw [decide_eq_true (Int.le_refl _), Bool.and_true] at hI
    cases hr : rise 0 36524 cured with
    | false =>
      rw [hr] at hS hI
      exact ⟨(0, false), Ev.bind hS bad, Ev.bind hI (Ev.now _)⟩
    | true =>
      rw [hr] at hS hI
      obtain ⟨r, h1, h2, h3⟩ := add_both w h hw hh a g
      obtain ⟨e, b⟩ := r
      cases b with
      | false =>
        refine ⟨(0, false), Ev.bind hS ?_, Ev.bind hI ?_⟩
        · refine Ev.step (fun k => by simp only [spec_TerminationDay.j0]; rfl) ?_
          exact Ev.bind h1 (Ev.now _)
        · simp only [if_true]
          exact Ev.bind h2 (Ev.now _)
      | true =>
        refine ⟨if cured.any (fun d => decide (a ≤ d) && decide (d ≤ e)) = true then (0, false) else (e, true), Ev.bind hS ?_, Ev.bind hI ?_⟩
        rotate_left
        · simp only [if_true]
          refine Ev.bind h2 ?_
          simp only [if_true]
          exact Ev.const (r := if cured.any (fun d => decide (a ≤ d) && decide (d ≤ e)) = true then (0, false) else (e, true)) (by split <;> rfl)
        · refine Ev.step (fun k => by simp only [spec_TerminationDay.j0]; rfl) ?_
          refine Ev.bind h1 ?_
          simp only [if_true]
          exact specT_loop a cured hc e 0 (Nat.zero_le _)

theorem whole (w h : List Int) (a g : Int) (cured : List Int) (hw : w.length ≤ maxLen) (hh : h.length ≤ maxLen) : Ev (fun k => laws_FnExactTerminationDay.f k w h a g cured) true := by
  unfold laws_FnExactTerminationDay.f
  by_cases hs : (cured.length : Int) > 1048576
  · simp only [if_pos hs]
    exact Ev.now _
  simp only [if_neg hs]
  obtain ⟨r, hr, hsz⟩ := szCal_ev w h hw hh
  rw [hr]
  by_cases c : r < 0
  · simp only [Option.bind_some, if_pos c]
    exact Ev.now _
  · obtain ⟨hw', hh'⟩ := hsz (by omega)
    simp only [Option.bind_some, if_neg c]
    obtain ⟨⟨x, b⟩, hS, hI⟩ := term_both w h hw' hh' a g cured (by omega)
    refine Ev.bind (toCal_ev w h hw' hh') (Ev.bind (toI_ev cured (by omega)) (Ev.bind hS (Ev.bind (toCal_ev w h hw' hh') (Ev.bind (toI_ev cured (by omega)) (Ev.bind hI ?_)))))
    simp only [if_true, bne_self_eq_false]
    refine Ev.step (fun k => by simp only [laws_FnExactTerminationDay.j0]; rfl) ?_
    simp only [Bool.false_eq_true, if_false]
    refine Ev.bind (toCal_ev w h hw' hh') (Ev.bind (eqCal_ev w h hw' hh') ?_)
    simp only [if_true]
    refine Ev.bind (toI_ev cured (by omega)) (Ev.bind (eqI_ev cured (by omega)) ?_)
    simp only [if_true]
    exact Ev.now _
end Go.Proofs.Ytjpceeemmebghaa.PureFnExactTerminationDay
namespace Go.Proofs.Ytjpceeemmebghaa.Pure
theorem FnExactTerminationDay : PFnExactTerminationDay.laws_FnExactTerminationDay.Ask := fun x a g cured hx _ _ _ => (PureFnExactTerminationDay.whole x.f0 x.f1 a g cured hx.1.1 hx.2.1).rounds
end Go.Proofs.Ytjpceeemmebghaa.Pure
