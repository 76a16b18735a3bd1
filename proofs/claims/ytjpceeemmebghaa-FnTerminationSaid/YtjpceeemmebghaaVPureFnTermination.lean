/-
The plain law behind FnTermination: the printed functions of the program and of the reference give the same values, so the law answers true. No condition.
-/
import Derived.Test.YtjpceeemmebghaaVAskFnTermination
import Derived.Test.YtjpceeemmebghaaVBase
import Derived.Test.YtjpceeemmebghaaVBits
namespace Go.Proofs.Ytjpceeemmebghaa.PureFnTermination
open Go.RowKit Go.Proofs.Ytjpceeemmebghaa.PFnTermination Go.Proofs.YtjpceeemmebghaaOpen Go.Proofs.YtjpceeemmebghaaBase Go.Proofs.YtjpceeemmebghaaBits Go.Proofs.YtjpceeemmebghaaW.PrintWords Go.Proofs.YtjpceeemmebghaaW.PrintLast Go.Proofs.YtjpceeemmebghaaW.PrintMore

theorem within_eq (x a b : Int) : impl_within.f x a b = some (decide (a ≤ x) && decide (x ≤ b)) := by
  unfold impl_within.f
  by_cases h : x ≥ a
  · rw [if_pos h]; simp [h]
  · rw [if_neg h]; simp [h]

theorem l1In_eq (x a b : Int) : spec_l1In.f x a b = some (decide (a ≤ x) && decide (x ≤ b)) := by
  unfold spec_l1In.f
  by_cases h : x ≥ a
  · rw [if_pos h]; simp [h]
  · rw [if_neg h]; simp [h]

/-! rising lists -/
def riseAt (lo hi : Int) (s : List Int) (i : Nat) : Bool := (decide (lo ≤ s.getD i 0) && decide (s.getD i 0 ≤ hi)) && (i == 0 || decide (s.getD (i - 1) 0 < s.getD i 0))
def restRise (lo hi : Int) (s : List Int) (i : Nat) : Bool := (List.range' i (s.length - i)).all (riseAt lo hi s)
def rise (lo hi : Int) (s : List Int) : Bool := restRise lo hi s 0
theorem restRise_end (lo hi : Int) (s : List Int) : restRise lo hi s s.length = true := by simp [restRise]
theorem restRise_step (lo hi : Int) (s : List Int) {i : Nat} (h : i < s.length) : restRise lo hi s i = (riseAt lo hi s i && restRise lo hi s (i + 1)) := by
  unfold restRise
  rw [show s.length - i = (s.length - (i + 1)) + 1 by omega, List.range'_succ, List.all_cons]
theorem rise_at {lo hi : Int} {s : List Int} (h : rise lo hi s = true) (i : Nat) (hi' : i < s.length) : riseAt lo hi s i = true := by
  unfold rise restRise at h
  rw [List.all_eq_true] at h
  exact h i (by rw [List.mem_range']; exact ⟨i, by omega, by omega⟩)
theorem rise_mem {lo hi : Int} {s : List Int} (h : rise lo hi s = true) : ∀ a ∈ s, lo ≤ a ∧ a ≤ hi := by
  intro a ha
  obtain ⟨i, hi', rfl⟩ := List.getElem_of_mem ha
  have := rise_at h i hi'
  simp only [riseAt, Bool.and_eq_true, decide_eq_true_eq] at this
  rw [List.getD_eq_getElem?_getD, List.getElem?_eq_getElem hi'] at this
  exact this.1
theorem rise_ge {hi : Int} {s : List Int} (h : rise 0 hi s = true) : ∀ i, i < s.length → (i : Int) ≤ s.getD i 0 := by
  intro i
  induction i with
  | zero =>
    intro hi'
    have := rise_at h 0 hi'
    simp only [riseAt, Bool.and_eq_true, decide_eq_true_eq] at this
    omega
  | succ i ih =>
    intro hi'
    have h1 := ih (by omega)
    have := rise_at h (i + 1) hi'
    simp only [riseAt, Bool.and_eq_true, decide_eq_true_eq, Nat.add_sub_cancel, Bool.or_eq_true, beq_iff_eq] at this
    omega
theorem rise_len {hi : Int} {s : List Int} (h : rise 0 hi s = true) : s = [] ∨ (s.length : Int) ≤ hi + 1 := by
  rcases Nat.eq_zero_or_pos s.length with h0 | h0
  · exact .inl (List.eq_nil_of_length_eq_zero h0)
  · right
    have h1 := rise_ge h (s.length - 1) (by omega)
    have := rise_at h (s.length - 1) (by omega)
    simp only [riseAt, Bool.and_eq_true, decide_eq_true_eq] at this
    omega

theorem specRise_loop (lo hi : Int) (s : List Int) (hs : s.length ≤ 1048576) : ∀ i, i ≤ s.length → Ev (fun k => spec_l1Rising.l0 k s lo hi (i : Int)) (restRise lo hi s i) := by
  refine down s.length ?_ (fun i hi' ih => ?_)
  · rw [restRise_end]
    exact Ev.step (f := fun _ => some true) (fun k => by simp only [spec_l1Rising.l0]; rw [if_neg (by omega)]) (Ev.now _)
  · rw [restRise_step lo hi s hi', riseAt]
    have hx : rd s (i : Int) = s.getD i 0 := rfl
    have hy : rd s ((i - 1 : Nat) : Int) = s.getD (i - 1) 0 := rfl
    generalize s.getD i 0 = x at hx ⊢
    generalize s.getD (i - 1) 0 = y at hy ⊢
    cases c : (decide (lo ≤ x) && decide (x ≤ hi)) with
    | false =>
      refine Ev.step (f := fun _ => some false) (fun k => ?_) (Ev.now _)
      simp only [spec_l1Rising.l0]
      rw [if_pos (by omega), if_pos (by omega), hx, l1In_eq, c]
      rfl
    | true =>
      by_cases hz : i = 0
      · subst hz
        refine Ev.step (f := fun k => spec_l1Rising.l0 k s lo hi ((0 + 1 : Nat) : Int)) (fun k => ?_) (by simpa using ih)
        simp only [spec_l1Rising.l0]
        rw [if_pos (by omega), if_pos (by omega), hx, l1In_eq, c, Option.bind_some, if_pos rfl, if_neg (by omega), w64s (by omega)]
      · have hb : (i == 0) = false := by simpa using hz
        rw [hb]
        by_cases c2 : y ≥ x
        · have : decide (y < x) = false := by simpa using c2
          rw [this]
          refine Ev.step (f := fun _ => some false) (fun k => ?_) (Ev.now _)
          simp only [spec_l1Rising.l0]
          rw [if_pos (by omega), if_pos (by omega), hx, l1In_eq, c, Option.bind_some, if_pos rfl, if_pos (by omega), w64p (by omega) (by omega), if_pos (by omega), if_pos (by omega), hy, if_pos c2]
        · have : decide (y < x) = true := by simpa using c2
          rw [this]
          refine Ev.step (f := fun k => spec_l1Rising.l0 k s lo hi ((i + 1 : Nat) : Int)) (fun k => ?_) (by simpa using ih)
          simp only [spec_l1Rising.l0]
          rw [if_pos (by omega), if_pos (by omega), hx, l1In_eq, c, Option.bind_some, if_pos rfl, if_pos (by omega), w64p (by omega) (by omega), if_pos (by omega), if_pos (by omega), hy, if_neg c2, w64s (by omega)]
theorem specRise_ev (lo hi : Int) (s : List Int) (hs : s.length ≤ 1048576) : Ev (fun k => spec_l1Rising.f k s lo hi) (rise lo hi s) := specRise_loop lo hi s hs 0 (Nat.zero_le _)

theorem implRise_loop (lo hi most : Int) (s : List Int) (hs : s.length ≤ 1048576) : ∀ i, i ≤ s.length → Ev (fun k => impl_isRising.l0 k s lo hi most s (s.length : Int) (i : Int)) (restRise lo hi s i && decide ((s.length : Int) ≤ most)) := by
  refine down s.length ?_ (fun i hi' ih => ?_)
  · rw [restRise_end]
    exact Ev.step (f := fun _ => some (decide ((s.length : Int) ≤ most))) (fun k => by simp only [impl_isRising.l0]; rw [if_neg (by omega)]) (by rw [Bool.true_and]; exact Ev.now _)
  · rw [restRise_step lo hi s hi', riseAt]
    have hx : rd s (i : Int) = s.getD i 0 := rfl
    have hy : rd s ((i - 1 : Nat) : Int) = s.getD (i - 1) 0 := rfl
    generalize s.getD i 0 = x at hx ⊢
    generalize s.getD (i - 1) 0 = y at hy ⊢
    cases c : (decide (lo ≤ x) && decide (x ≤ hi)) with
    | false =>
      refine Ev.step (f := fun _ => some false) (fun k => ?_) (Ev.now _)
      simp only [impl_isRising.l0]
      rw [if_pos (by omega), if_pos (by omega), if_pos (by omega), hx, within_eq, c]
      rfl
    | true =>
      by_cases hz : i = 0
      · subst hz
        refine Ev.step (f := fun k => impl_isRising.l0 k s lo hi most s (s.length : Int) ((0 + 1 : Nat) : Int)) (fun k => ?_) (by simpa using ih)
        simp only [impl_isRising.l0]
        rw [if_pos (by omega), if_pos (by omega), if_pos (by omega), hx, within_eq, c, Option.bind_some, if_pos rfl, if_neg (by omega), w64s (by omega)]
      · have hb : (i == 0) = false := by simpa using hz
        rw [hb]
        by_cases c2 : x ≤ y
        · have : decide (y < x) = false := by simpa using c2
          rw [this]
          refine Ev.step (f := fun _ => some false) (fun k => ?_) (Ev.now _)
          simp only [impl_isRising.l0]
          rw [if_pos (by omega), if_pos (by omega), if_pos (by omega), hx, within_eq, c, Option.bind_some, if_pos rfl, if_pos (by omega), w64p (by omega) (by omega), if_pos (by omega), if_pos (by omega), hy, if_pos c2]
        · have : decide (y < x) = true := by simp; omega
          rw [this]
          refine Ev.step (f := fun k => impl_isRising.l0 k s lo hi most s (s.length : Int) ((i + 1 : Nat) : Int)) (fun k => ?_) (by simpa using ih)
          simp only [impl_isRising.l0]
          rw [if_pos (by omega), if_pos (by omega), if_pos (by omega), hx, within_eq, c, Option.bind_some, if_pos rfl, if_pos (by omega), w64p (by omega) (by omega), if_pos (by omega), if_pos (by omega), hy, if_neg c2, w64s (by omega)]
theorem implRise_ev (lo hi most : Int) (s : List Int) (hs : s.length ≤ 1048576) : Ev (fun k => impl_isRising.f k s lo hi most) (rise lo hi s && decide ((s.length : Int) ≤ most)) := implRise_loop lo hi most s hs 0 (Nat.zero_le _)


theorem has_ev (s : List Int) (a : Int) (hs : s.length ≤ 1048576) : Ev (fun k => spec_l1Has.f k s a) (s.contains a) := by
  unfold spec_l1Has.f
  have key : ∀ i, i ≤ s.length → Ev (fun k => spec_l1Has.l0 k s a (i : Int)) ((s.drop i).contains a) := by
    refine down s.length ?_ (fun i hi ih => ?_)
    · rw [List.drop_length]
      exact Ev.step (f := fun _ => some false) (fun k => by simp only [spec_l1Has.l0]; rw [if_neg (by omega)]) (Ev.now _)
    · rw [drop_getD s i hi 0]
      have hx : rd s (i : Int) = s.getD i 0 := rfl
      generalize s.getD i 0 = x at hx ⊢
      by_cases c : x = a
      · have : (x :: s.drop (i + 1)).contains a = true := by simp [c]
        rw [this]
        refine Ev.step (f := fun _ => some true) (fun k => ?_) (Ev.now _)
        simp only [spec_l1Has.l0]
        rw [if_pos (by omega), if_pos (by omega), hx, if_pos c]
      · have : (x :: s.drop (i + 1)).contains a = (s.drop (i + 1)).contains a := by
          rw [Bool.eq_iff_iff]; simp [Ne.symm c]
        rw [this]
        refine Ev.step (fun k => ?_) ih
        simp only [spec_l1Has.l0]
        rw [if_pos (by omega), if_pos (by omega), hx, if_neg c, w64s (by omega)]
  exact key 0 (Nat.zero_le _)

/-! calendars: valid ones, open days, the next open day -/
def calOk (w h : List Int) : Bool := (rise 0 6 w && decide (w.length ≤ 6)) && (rise 0 36524 h && decide (h.length ≤ 40))
theorem specCal_ev (w h : List Int) (hw : w.length ≤ 1048576) (hh : h.length ≤ 1048576) : Ev (fun k => spec_l4Good.f k w h) (calOk w h) := by
  unfold spec_l4Good.f calOk
  by_cases c : (w.length : Int) ≤ 6
  · simp only [if_pos c, decide_eq_true (show w.length ≤ 6 by omega), Bool.and_true]
    refine Ev.bind (specRise_ev 0 6 w hw) ?_
    cases rise 0 6 w with
    | false => exact Ev.now _
    | true =>
      simp only [if_true, Bool.true_and]
      by_cases d : (h.length : Int) ≤ 40
      · simp only [if_pos d, decide_eq_true (show h.length ≤ 40 by omega), Bool.and_true]
        exact Ev.bind (specRise_ev 0 36524 h hh) (Ev.now _)
      · simp only [if_neg d, decide_eq_false (show ¬ h.length ≤ 40 by omega), Bool.and_false]
        exact Ev.now _
  · simp only [if_neg c, decide_eq_false (show ¬ w.length ≤ 6 by omega), Bool.and_false, Bool.false_and]
    exact Ev.now _
theorem implCal_ev (w h : List Int) (hw : w.length ≤ 1048576) (hh : h.length ≤ 1048576) : Ev (fun k => impl_IsValidCalendar.f k w h) (calOk w h) := by
  unfold impl_IsValidCalendar.f calOk
  refine Ev.bind (implRise_ev 0 6 6 w hw) ?_
  rw [show decide ((w.length : Int) ≤ 6) = decide (w.length ≤ 6) by rw [decide_eq_decide]; omega]
  cases rise 0 6 w && decide (w.length ≤ 6) with
  | false => exact Ev.now _
  | true =>
    simp only [if_true, Bool.true_and]
    have := implRise_ev 0 36524 40 h hh
    rw [show decide ((h.length : Int) ≤ 40) = decide (h.length ≤ 40) by rw [decide_eq_decide]; omega] at this
    exact Ev.bind this (Ev.now _)
theorem calOk_len {w h : List Int} (hc : calOk w h = true) : w.length ≤ 6 ∧ h.length ≤ 40 := by
  simp only [calOk, Bool.and_eq_true, decide_eq_true_eq] at hc
  exact ⟨hc.1.2, hc.2.2⟩
def dayOk (d : Int) : Bool := decide (0 ≤ d) && decide (d ≤ 36524)
theorem dayOk_iff {d : Int} : dayOk d = true ↔ 0 ≤ d ∧ d ≤ 36524 := by simp [dayOk]
theorem specDay_eq (d : Int) : spec_l3Good.f d = some (dayOk d) := by unfold spec_l3Good.f; rw [l1In_eq]; rfl
theorem implDay_eq (d : Int) : impl_isDay.f d = some (dayOk d) := by unfold impl_isDay.f; rw [within_eq]; rfl
def isOpen (w h : List Int) (d : Int) : Bool := !(w.contains (Int.tmod (wrap64 (d + 5)) 7)) && !(h.contains d)
theorem index_ev (s : List Int) (a : Int) (hs : s.length ≤ 1048576) : ∃ r, Ev (fun k => slices_Index_int_int.f k s a) r ∧ (decide (r ≥ 0)) = s.contains a := by
  unfold slices_Index_int_int.f
  have key : ∀ i, i ≤ s.length → ∃ r, Ev (fun k => slices_Index_int_int.l0 k s a (s.length : Int) (i : Int)) r ∧ decide (r ≥ 0) = (s.drop i).contains a := by
    refine down s.length ?_ (fun i hi ih => ?_)
    · refine ⟨-1, Ev.step (f := fun _ => some (-1)) (fun k => by simp only [slices_Index_int_int.l0]; rw [if_neg (by omega)]) (Ev.now _), ?_⟩
      rw [List.drop_length]; rfl
    · rw [drop_getD s i hi 0]
      have hx : rd s (i : Int) = s.getD i 0 := rfl
      generalize s.getD i 0 = x at hx ⊢
      by_cases c : a = x
      · refine ⟨(i : Int), Ev.step (f := fun _ => some (i : Int)) (fun k => ?_) (Ev.now _), ?_⟩
        · simp only [slices_Index_int_int.l0]
          rw [if_pos (by omega), if_pos (by omega), if_pos (by omega), hx, if_pos c]
        · have : (x :: s.drop (i + 1)).contains a = true := by simp [c]
          rw [this]; simp
      · obtain ⟨r, hr, hd⟩ := ih
        refine ⟨r, Ev.step (fun k => ?_) hr, ?_⟩
        · simp only [slices_Index_int_int.l0]
          rw [if_pos (by omega), if_pos (by omega), if_pos (by omega), hx, if_neg c, w64s (by omega)]
        · have : (x :: s.drop (i + 1)).contains a = (s.drop (i + 1)).contains a := by
            rw [Bool.eq_iff_iff]; simp [c]
          rw [this, hd]
  exact key 0 (Nat.zero_le _)
theorem contains_ev (s : List Int) (a : Int) (hs : s.length ≤ 1048576) : Ev (fun k => slices_Contains_int_int.f k s a) (s.contains a) := by
  obtain ⟨r, hr, hd⟩ := index_ev s a hs
  unfold slices_Contains_int_int.f
  refine Ev.bind hr ?_
  rw [hd]
  exact Ev.now _
theorem specOpen_ev (w h : List Int) (d : Int) (hw : w.length ≤ 1048576) (hh : h.length ≤ 1048576) : Ev (fun k => spec_l4Open.f k w h d) (isOpen w h d) := by
  unfold spec_l4Open.f spec_l3Weekday.f isOpen
  simp only [Option.bind_some]
  refine Ev.bind (has_ev w _ hw) ?_
  cases w.contains (Int.tmod (wrap64 (d + 5)) 7) with
  | true => exact Ev.now _
  | false => exact Ev.bind (has_ev h d hh) (Ev.now _)
theorem implOpen_ev (w h : List Int) (d : Int) (hw : w.length ≤ 1048576) (hh : h.length ≤ 1048576) : Ev (fun k => impl_isBusiness.f k w h d) (isOpen w h d) := by
  unfold impl_isBusiness.f impl_weekday.f isOpen
  simp only [Option.bind_some]
  refine Ev.bind (contains_ev w _ hw) ?_
  cases w.contains (Int.tmod (wrap64 (d + 5)) 7) with
  | true => exact Ev.now _
  | false => exact Ev.bind (contains_ev h d hh) (Ev.now _)
theorem seek_both (w h : List Int) (hw : w.length ≤ 1048576) (hh : h.length ≤ 1048576) (step : Int) (hs : step = 1 ∨ step = -1) : ∀ (n : Nat) (d : Int), -1 ≤ d → d ≤ 36525 → (if step = 1 then 36526 - d else d + 2) ≤ (n : Int) →
    ∃ r, Ev (fun k => spec_l4Seek.l0 k d step w h) r ∧ Ev (fun k => impl_nearBusiness.l0 k d step w h) r ∧ (r = -1 ∨ (0 ≤ r ∧ r ≤ 36524) ∧ (step = 1 → d ≤ r)) := by
  intro n
  induction n with
  | zero =>
    intro d h0 h1 hn
    rcases hs with rfl | rfl
    · rw [if_pos rfl] at hn; omega
    · rw [if_neg (by decide)] at hn; omega
  | succ n ih =>
    intro d h0 h1 hn
    cases hd : dayOk d with
    | false =>
      refine ⟨-1, ?_, ?_, .inl rfl⟩
      · exact Ev.step (f := fun _ => some (-1)) (fun k => by simp only [spec_l4Seek.l0]; rw [specDay_eq, hd]; rfl) (Ev.now _)
      · exact Ev.step (f := fun _ => some (-1)) (fun k => by simp only [impl_nearBusiness.l0]; rw [implDay_eq, hd]; rfl) (Ev.now _)
    | true =>
      have hb := dayOk_iff.1 hd
      cases ho : isOpen w h d with
      | true =>
        refine ⟨d, ?_, ?_, .inr ⟨hb, fun _ => Int.le_refl _⟩⟩
        · refine Ev.step (fun k => by simp only [spec_l4Seek.l0]; rfl) ?_
          rw [specDay_eq, hd]
          simp only [Option.bind_some, if_true]
          refine Ev.bind (specOpen_ev w h d hw hh) ?_
          rw [ho]; exact Ev.now _
        · refine Ev.step (fun k => by simp only [impl_nearBusiness.l0]; rfl) ?_
          rw [implDay_eq, hd]
          simp only [Option.bind_some, if_true]
          refine Ev.bind (implOpen_ev w h d hw hh) ?_
          rw [ho]; exact Ev.now _
      | false =>
        have e : wrap64 (d + step) = d + step := w64 (by omega) (by omega)
        obtain ⟨r, h1', h2', h3'⟩ := ih (d + step) (by omega) (by omega) (by rcases hs with rfl | rfl; (rw [if_pos rfl] at hn ⊢; omega); (rw [if_neg (by decide)] at hn ⊢; omega))
        refine ⟨r, ?_, ?_, h3'.imp id (fun h => ⟨h.1, fun hs1 => by have := h.2 hs1; omega⟩)⟩
        · refine Ev.step (fun k => by simp only [spec_l4Seek.l0]; rfl) ?_
          rw [specDay_eq, hd]
          simp only [Option.bind_some, if_true]
          refine Ev.bind (specOpen_ev w h d hw hh) ?_
          rw [ho, e]; exact h1'
        · refine Ev.step (fun k => by simp only [impl_nearBusiness.l0]; rfl) ?_
          rw [implDay_eq, hd]
          simp only [Option.bind_some, if_true]
          refine Ev.bind (implOpen_ev w h d hw hh) ?_
          rw [ho, e]; exact h2'
theorem seek_ev (w h : List Int) (hw : w.length ≤ 1048576) (hh : h.length ≤ 1048576) (step : Int) (hs : step = 1 ∨ step = -1) (d : Int) (h0 : -1 ≤ d) (h1 : d ≤ 36525) :
    ∃ r, Ev (fun k => spec_l4Seek.f k w h d step) r ∧ Ev (fun k => impl_nearBusiness.f k w h d step) r ∧ (r = -1 ∨ (0 ≤ r ∧ r ≤ 36524) ∧ (step = 1 → d ≤ r)) :=
  seek_both w h hw hh step hs 36527 d h0 h1 (by rcases hs with rfl | rfl; (rw [if_pos rfl]; omega); (rw [if_neg (by decide)]; omega))
theorem add_loop (w h : List Int) (hw : w.length ≤ 1048576) (hh : h.length ≤ 1048576) (step : Int) (hs : step = 1 ∨ step = -1) (N : Nat) (hN : N ≤ 1000) : ∀ i, i ≤ N → ∀ d : Int, 0 ≤ d → d ≤ 36524 →
    ∃ r, Ev (fun k => spec_AddBusinessDays.l0 k d ((N - i : Nat) : Int) step w h) r ∧ Ev (fun k => impl_AddBusinessDays.l0 k d step (N : Int) (i : Int) w h) r ∧ (r = (0, false) ∨ (r.2 = true ∧ 0 ≤ r.1 ∧ r.1 ≤ 36524) ∧ (step = 1 → d ≤ r.1)) := by
  refine down N ?_ (fun i hi ih => ?_)
  · intro d h0 h1
    refine ⟨(d, true), ?_, ?_, .inr ⟨⟨rfl, h0, h1⟩, fun _ => Int.le_refl _⟩⟩
    · refine Ev.step (f := fun _ => some (d, true)) (fun k => ?_) (Ev.now _)
      simp only [spec_AddBusinessDays.l0]
      rw [if_neg (by omega)]
    · refine Ev.step (f := fun _ => some (d, true)) (fun k => ?_) (Ev.now _)
      simp only [impl_AddBusinessDays.l0]
      rw [if_neg (by omega)]
  · intro d h0 h1
    have e : wrap64 (d + step) = d + step := w64 (by omega) (by omega)
    obtain ⟨r, hS, hI, hr⟩ := seek_ev w h hw hh step hs (d + step) (by omega) (by omega)
    by_cases c : r < 0
    · refine ⟨(0, false), ?_, ?_, .inl rfl⟩
      · refine Ev.step (fun k => by simp only [spec_AddBusinessDays.l0]; rw [if_pos (show ((N - i : Nat) : Int) > 0 by omega), e]) ?_
        refine Ev.bind hS ?_
        simp only [if_pos c]
        exact Ev.now _
      · refine Ev.step (fun k => by simp only [impl_AddBusinessDays.l0]; rw [if_pos (show (i : Int) < (N : Int) by omega), e]) ?_
        refine Ev.bind hI ?_
        simp only [if_pos c]
        exact Ev.now _
    · obtain ⟨q, hS', hI', hq⟩ := ih r (by omega) (by omega)
      refine ⟨q, ?_, ?_, hq.imp id (fun h => ⟨h.1, fun hs1 => by have := h.2 hs1; rcases hr with e0 | e0; (· omega); (· have := e0.2 hs1; omega)⟩)⟩
      · refine Ev.step (fun k => by simp only [spec_AddBusinessDays.l0]; rw [if_pos (show ((N - i : Nat) : Int) > 0 by omega), e]) ?_
        refine Ev.bind hS ?_
        simp only [if_neg c]
        rw [w64 (by omega) (by omega), show ((N - i : Nat) : Int) - 1 = ((N - (i + 1) : Nat) : Int) by omega]
        exact hS'
      · refine Ev.step (fun k => by simp only [impl_AddBusinessDays.l0]; rw [if_pos (show (i : Int) < (N : Int) by omega), e]) ?_
        refine Ev.bind hI ?_
        simp only [if_neg c]
        rw [w64s (by omega)]
        exact hI'
theorem add_both (w h : List Int) (hw : w.length ≤ 1048576) (hh : h.length ≤ 1048576) (d n : Int) : ∃ r, Ev (fun k => spec_AddBusinessDays.f k w h d n) r ∧ Ev (fun k => impl_AddBusinessDays.f k w h d n) r ∧ (r = (0, false) ∨ (r.2 = true ∧ 0 ≤ r.1 ∧ r.1 ≤ 36524) ∧ (0 ≤ n → d ≤ r.1)) := by
  unfold spec_AddBusinessDays.f impl_AddBusinessDays.f
  have hS := specCal_ev w h hw hh
  have hI := implCal_ev w h hw hh
  rw [specDay_eq, implDay_eq, l1In_eq, within_eq]
  have bad : ∀ (P : Prop), ∃ r : Int × Bool, Ev (fun k => spec_AddBusinessDays.j0 k d n true w h) r ∧ Ev (fun k => impl_AddBusinessDays.j0 k d n true w h) r ∧ (r = (0, false) ∨ (r.2 = true ∧ 0 ≤ r.1 ∧ r.1 ≤ 36524) ∧ (0 ≤ n → d ≤ r.1)) := fun _ => by
    refine ⟨(0, false), ?_, ?_, .inl rfl⟩
    · exact Ev.step (f := fun _ => some (0, false)) (fun k => by simp only [spec_AddBusinessDays.j0]; rfl) (Ev.now _)
    · exact Ev.step (f := fun _ => some (0, false)) (fun k => by simp only [impl_AddBusinessDays.j0]; rfl) (Ev.now _)
  cases hc : calOk w h with
  | false =>
    rw [hc] at hS hI
    obtain ⟨r, h1, h2, h3⟩ := bad True
    exact ⟨r, Ev.bind hS h1, Ev.bind hI h2, h3⟩
  | true =>
    rw [hc] at hS hI
    cases hd : dayOk d with
    | false =>
      obtain ⟨r, h1, h2, h3⟩ := bad True
      exact ⟨r, Ev.bind hS h1, Ev.bind hI h2, h3⟩
    | true =>
      have hd' := dayOk_iff.1 hd
      by_cases c : -1000 ≤ n ∧ n ≤ 1000
      · have e : (decide (-1000 ≤ n) && decide (n ≤ 1000)) = true := by simpa using c
        rw [e]
        by_cases hn : n < 0
        · obtain ⟨r, h1, h2, h3⟩ := add_loop w h hw hh (-1) (.inr rfl) n.natAbs (by omega) 0 (Nat.zero_le _) d hd'.1 hd'.2
          refine ⟨r, Ev.bind hS ?_, Ev.bind hI ?_, h3.imp id (fun h => ⟨h.1, fun _ => by omega⟩)⟩
          · simp only [if_true, Option.bind_some]
            refine Ev.step (fun k => by simp only [spec_AddBusinessDays.j0]; rw [if_neg (by simp), if_pos hn, w64 (x := -n) (by omega) (by omega)]) ?_
            refine Ev.step (fun k => by simp only [spec_AddBusinessDays.j1]; rfl) ?_
            rw [show ((n.natAbs - 0 : Nat) : Int) = -n by omega] at h1
            exact h1
          · simp only [if_true, Option.bind_some]
            refine Ev.step (fun k => by simp only [impl_AddBusinessDays.j0]; rw [if_neg (by simp), if_pos hn]) ?_
            refine Ev.step (f := fun k => impl_AddBusinessDays.l0 k d (-1) (n.natAbs : Int) 0 w h) (fun k => ?_) h2
            simp only [impl_AddBusinessDays.j1]
            unfold impl_size.f
            rw [Option.bind_some, w64 (x := -n) (by omega) (by omega), show mx n (-n) = (n.natAbs : Int) by unfold mx; split <;> omega]
        · obtain ⟨r, h1, h2, h3⟩ := add_loop w h hw hh 1 (.inl rfl) n.natAbs (by omega) 0 (Nat.zero_le _) d hd'.1 hd'.2
          refine ⟨r, Ev.bind hS ?_, Ev.bind hI ?_, h3.imp id (fun h => ⟨h.1, fun _ => h.2 rfl⟩)⟩
          · simp only [if_true, Option.bind_some]
            refine Ev.step (fun k => by simp only [spec_AddBusinessDays.j0]; rw [if_neg (by simp), if_neg hn]) ?_
            refine Ev.step (fun k => by simp only [spec_AddBusinessDays.j1]; rfl) ?_
            rw [show ((n.natAbs - 0 : Nat) : Int) = n by omega] at h1
            exact h1
          · simp only [if_true, Option.bind_some]
            refine Ev.step (fun k => by simp only [impl_AddBusinessDays.j0]; rw [if_neg (by simp), if_neg hn]) ?_
            refine Ev.step (f := fun k => impl_AddBusinessDays.l0 k d 1 (n.natAbs : Int) 0 w h) (fun k => ?_) h2
            simp only [impl_AddBusinessDays.j1]
            unfold impl_size.f
            rw [Option.bind_some, w64 (x := -n) (by omega) (by omega), show mx n (-n) = (n.natAbs : Int) by unfold mx; split <;> omega]
      · have e : (decide (-1000 ≤ n) && decide (n ≤ 1000)) = false := by simpa using c
        rw [e]
        obtain ⟨r, h1, h2, h3⟩ := bad True
        refine ⟨r, Ev.bind hS ?_, Ev.bind hI ?_, h3⟩
        · simp only [if_true, Option.bind_some]; exact h1
        · simp only [if_true, Option.bind_some]; exact h2

/-! the day of termination -/
theorem specT_loop (a : Int) (cured : List Int) (hc : cured.length ≤ 1048576) (e : Int) : ∀ i, i ≤ cured.length → Ev (fun k => spec_TerminationDay.l0 k a cured e (i : Int)) (if (cured.drop i).any (fun d => decide (a ≤ d) && decide (d ≤ e)) = true then (0, false) else (e, true)) := by
  refine down cured.length ?_ (fun i hi ih => ?_)
  · rw [List.drop_length]
    exact Ev.step (f := fun _ => some (e, true)) (fun k => by simp only [spec_TerminationDay.l0]; rw [if_neg (by omega)]) (Ev.now _)
  · rw [drop_getD cured i hi 0, List.any_cons]
    have hx : rd cured (i : Int) = cured.getD i 0 := rfl
    generalize cured.getD i 0 = x at hx ⊢
    cases c : (decide (a ≤ x) && decide (x ≤ e)) with
    | true =>
      refine Ev.step (f := fun _ => some (0, false)) (fun k => ?_) (Ev.now _)
      simp only [spec_TerminationDay.l0]
      rw [if_pos (by omega), if_pos (by omega), hx, l1In_eq, c]
      rfl
    | false =>
      rw [Bool.false_or]
      refine Ev.step (fun k => ?_) ih
      simp only [spec_TerminationDay.l0]
      rw [if_pos (by omega), if_pos (by omega), hx, l1In_eq, c, Option.bind_some, if_neg (by simp), w64s (by omega)]
theorem term_more (w h : List Int) (hw : w.length ≤ 1048576) (hh : h.length ≤ 1048576) (a g : Int) (cured : List Int) (hc : cured.length ≤ 1048576) : ∃ r, Ev (fun k => spec_TerminationDay.f k w h a g cured) r ∧ Ev (fun k => impl_TerminationDay.f k w h a g cured) r ∧ (r.2 = true → Ev (fun k => impl_TerminationDay.f k w h a g []) r ∧ a ≤ r.1) := by
  unfold spec_TerminationDay.f impl_TerminationDay.f
  rw [l1In_eq, within_eq]
  simp only [Option.bind_some]
  have bad : Ev (fun k => spec_TerminationDay.j0 k a g cured true w h) (0, false) := Ev.step (f := fun _ => some (0, false)) (fun k => by simp only [spec_TerminationDay.j0]; rfl) (Ev.now _)
  cases hgd : (decide (0 ≤ g) && decide (g ≤ 60)) with
  | false => exact ⟨(0, false), bad, Ev.now _, fun h => (by cases h)⟩
  | true =>
    simp only [if_true]
    have hS := specRise_ev 0 36524 cured hc
    have hI := implRise_ev 0 36524 (cured.length : Int) cured hc
    rw [decide_eq_true (Int.le_refl _), Bool.and_true] at hI
    cases hr : rise 0 36524 cured with
    | false =>
      rw [hr] at hS hI
      exact ⟨(0, false), Ev.bind hS bad, Ev.bind hI (Ev.now _), fun h => (by cases h)⟩
    | true =>
      rw [hr] at hS hI
      obtain ⟨r, h1, h2, h3⟩ := add_both w h hw hh a g
      obtain ⟨e, b⟩ := r
      cases b with
      | false =>
        refine ⟨(0, false), Ev.bind hS ?_, Ev.bind hI ?_, fun h => (by cases h)⟩
        · refine Ev.step (fun k => by simp only [spec_TerminationDay.j0]; rfl) ?_
          exact Ev.bind h1 (Ev.now _)
        · simp only [if_true]
          exact Ev.bind h2 (Ev.now _)
      | true =>
        refine ⟨if cured.any (fun d => decide (a ≤ d) && decide (d ≤ e)) = true then (0, false) else (e, true), Ev.bind hS ?_, Ev.bind hI ?_, ?_⟩
        rotate_left
        · simp only [if_true]
          refine Ev.bind h2 ?_
          simp only [if_true]
          exact Ev.const (r := if cured.any (fun d => decide (a ≤ d) && decide (d ≤ e)) = true then (0, false) else (e, true)) (by split <;> rfl)
        · have hI0 := implRise_ev 0 36524 0 [] (by simp)
          rw [show (rise 0 36524 [] && decide (((([] : List Int).length : Nat) : Int) ≤ 0)) = true by simp [rise, restRise]] at hI0
          simp only [Bool.and_eq_true, decide_eq_true_eq] at hgd
          have hge : a ≤ e := by
            rcases h3 with h4 | h4
            · cases h4
            · exact h4.2 hgd.1
          cases hany : cured.any (fun d => decide (a ≤ d) && decide (d ≤ e)) with
          | true => intro hr'; simp at hr'
          | false =>
            intro _
            simp only [Bool.false_eq_true, if_false]
            refine ⟨Ev.bind (g := fun k => impl_isRising.f k [] 0 36524 0) hI0 ?_, hge⟩
            simp only [if_true]
            refine Ev.bind h2 ?_
            simp only [if_true]
            exact Ev.const rfl
        · refine Ev.step (fun k => by simp only [spec_TerminationDay.j0]; rfl) ?_
          refine Ev.bind h1 ?_
          simp only [if_true]
          exact specT_loop a cured hc e 0 (Nat.zero_le _)

/-! amounts -/
def am (x : Int) : Bool := decide (-1000000000 ≤ x) && decide (x ≤ 1000000000)
theorem am_iff {x : Int} : am x = true ↔ -1000000000 ≤ x ∧ x ≤ 1000000000 := by simp [am]
theorem isAmount_eq (x : Int) : impl_isAmount.f x = some (am x) := by unfold impl_isAmount.f; rw [within_eq]; rfl
theorem l2Amount_eq (x : Int) : spec_l2Amount.f x = some (am x) := by unfold spec_l2Amount.f; rw [l1In_eq]; rfl

/-! the reference's draws: what they give, and that they end -/
def codeOk (c : List Int) : Prop := c.length ≤ 65536 ∧ ∀ x ∈ c, 0 ≤ x ∧ x ≤ 255
theorem u64_bd (x : Int) : 0 ≤ IntKind.u64.wrap x ∧ IntKind.u64.wrap x < 18446744073709551616 := by
  have h : IntKind.u64.wrap x = x % 18446744073709551616 := by simp [IntKind.wrap, IntKind.bits, IntKind.signed]
  omega
theorem and255 (x : Int) (h0 : 0 ≤ x) (h1 : x < 2 ^ 62) : 0 ≤ Go.bits .and .u64 x 255 ∧ Go.bits .and .u64 x 255 ≤ 255 := by
  obtain ⟨n, rfl⟩ := Int.eq_ofNat_of_zero_le h0
  have hb : Go.bits .and .u64 (n : Int) ((255 : Nat) : Int) = ((n &&& 255 : Nat) : Int) := (bits_nat .u64 62 (by decide) wrap_u64_small n 255 (by omega) (by decide)).1
  have e : (255 : Int) = ((255 : Nat) : Int) := rfl
  rw [e, hb]
  have := Nat.and_le_right (n := n) (m := 255)
  omega
theorem rd_ok {c : List Int} (hc : codeOk c) (a : Int) : 0 ≤ rd c a ∧ rd c a ≤ 255 := by
  show 0 ≤ c.getD a.toNat 0 ∧ c.getD a.toNat 0 ≤ 255
  rw [List.getD_eq_getElem?_getD]
  cases e : c[a.toNat]? with
  | none => exact ⟨by simp, by simp⟩
  | some x => exact hc.2 x (List.mem_of_getElem? e)
theorem next_ok {c : List Int} (hc : codeOk c) (a s : Int) (h0 : 0 ≤ a) (h1 : a ≤ 100000) : ∃ v s', spec_l1Cur_next.f c a s = some (v, a + 1, s') ∧ 0 ≤ v ∧ v ≤ 255 := by
  have hr := rd_ok hc a
  have hl := hc.1
  unfold spec_l1Cur_next.f
  rw [w64 (x := a + 1) (by omega) (by omega)]
  by_cases h : a < (c.length : Int)
  · rw [if_pos h, if_pos h0, if_pos (by omega)]
    exact ⟨_, _, rfl, by rw [w64 (by omega) (by omega)]; exact hr.1, by rw [w64 (by omega) (by omega)]; exact hr.2⟩
  · rw [if_neg h, if_neg (by omega)]
    have hu := u64_bd (IntKind.u64.wrap (IntKind.u64.wrap (s * 6364136223846793005) + 0) + 902902)
    have hb := and255 (IntKind.u64.wrap (IntKind.u64.wrap (IntKind.u64.wrap (s * 6364136223846793005) + 0) + 902902) / 1099511627776) (by omega) (by omega)
    exact ⟨_, _, rfl, by rw [w64 (by omega) (by omega)]; exact hb.1, by rw [w64 (by omega) (by omega)]; exact hb.2⟩
theorem pick_ok {c : List Int} (hc : codeOk c) (a s n : Int) (h0 : 0 ≤ a) (h1 : a ≤ 100000) (n0 : 1 ≤ n) (n1 : n ≤ 200) : ∃ v a' s', spec_l1Cur_pick.f c a s n = some (v, a', s') ∧ 0 ≤ v ∧ v < n ∧ a ≤ a' ∧ a' ≤ a + 1 := by
  unfold spec_l1Cur_pick.f
  by_cases h : n ≤ 1
  · rw [if_pos h]
    exact ⟨0, a, s, rfl, by omega, by omega, by omega, by omega⟩
  · obtain ⟨v, s', e, v0, v1⟩ := next_ok hc a s h0 h1
    rw [if_neg h, e, Option.bind_some, if_neg (by omega), if_neg (by omega)]
    refine ⟨Int.tmod v n, a + 1, s', rfl, ?_, ?_, by omega, by omega⟩
    · rw [Int.tmod_eq_emod_of_nonneg v0]; exact Int.emod_nonneg _ (by omega)
    · rw [Int.tmod_eq_emod_of_nonneg v0]; exact Int.emod_lt_of_pos _ (by omega)
theorem one_ok {c : List Int} (hc : codeOk c) (a s n : Int) (h0 : 0 ≤ a) (h1 : a ≤ 100000) (n0 : 1 ≤ n) (n1 : n ≤ 200) : ∃ b a' s', spec_l1Cur_one.f c a s n = some (b, a', s') ∧ a ≤ a' ∧ a' ≤ a + 1 := by
  obtain ⟨v, a', s', e, _, _, a0, a1⟩ := pick_ok hc a s n h0 h1 n0 n1
  unfold spec_l1Cur_one.f
  rw [e]
  exact ⟨_, _, _, rfl, a0, a1⟩
theorem among_ok {c : List Int} (hc : codeOk c) (a s : Int) (l : List Int) (h0 : 0 ≤ a) (h1 : a ≤ 100000) (n0 : 1 ≤ l.length) (n1 : l.length ≤ 200) : ∃ v a' s', spec_l1Cur_among.f c a s l = some (v, a', s') ∧ v ∈ l ∧ a ≤ a' ∧ a' ≤ a + 1 := by
  obtain ⟨v, a', s', e, v0, v1, a0, a1⟩ := pick_ok hc a s (l.length : Int) h0 h1 (by omega) (by omega)
  unfold spec_l1Cur_among.f
  rw [e, Option.bind_some, if_pos v0, if_pos v1]
  refine ⟨rd l v, a', s', rfl, ?_, a0, a1⟩
  show l.getD v.toNat 0 ∈ l
  exact getD_mem l v.toNat (by omega) 0

/-! dates: the two ways to find a day's date go in step -/
def ys (y : Int) : Int := 365 * (y - 2000) + (y - 2000 + 3) / 4
def ln (y m : Int) : Int := if m = 2 then (if Int.tmod y 4 = 0 then 29 else 28) else if m = 4 ∨ m = 6 ∨ m = 9 ∨ m = 11 then 30 else 31
def cum (y : Int) : Nat → Int
  | 0 => 0
  | j + 1 => cum y j + ln y ((j + 1 : Nat) : Int)
theorem ln_bd (y m : Int) : 28 ≤ ln y m ∧ ln y m ≤ 31 := by
  unfold ln
  split
  · split <;> omega
  · split <;> omega
theorem cum_bd (y : Int) : ∀ j : Nat, 28 * (j : Int) ≤ cum y j ∧ cum y j ≤ 31 * (j : Int)
  | 0 => by simp [cum]
  | j + 1 => by
    have := cum_bd y j
    have := ln_bd y ((j + 1 : Nat) : Int)
    rw [cum]
    omega
theorem tmod4 (y : Int) (h : 0 ≤ y) : Int.tmod y 4 = y % 4 := Int.tmod_eq_emod_of_nonneg h
theorem ys_succ (y : Int) (h : 2000 ≤ y) : ys (y + 1) = ys y + (337 + ln y 2) := by
  unfold ys ln
  rw [if_pos rfl, tmod4 y (by omega)]
  split <;> omega
theorem ys_bd (y : Int) (h0 : 2000 ≤ y) (h1 : y ≤ 2100) : 0 ≤ ys y ∧ ys y ≤ 36525 := by unfold ys; omega
theorem length_ev (y m : Int) : Ev (fun k => spec_l3Length.f k y m) (ln y m) := by
  have key : ∀ b : Bool, (b = true ↔ (m = 4 ∨ m = 6 ∨ m = 9 ∨ m = 11)) → Ev (fun k => spec_l3Length.j0 k y m b) (ln y m) := by
    intro b hb
    refine Ev.step (f := fun _ => some (ln y m)) (fun k => ?_) (Ev.now _)
    simp only [spec_l3Length.j0]
    unfold ln
    cases b with
    | true =>
      have := hb.1 rfl
      rw [if_pos rfl, if_neg (by omega), if_pos this]
    | false =>
      have : ¬ (m = 4 ∨ m = 6 ∨ m = 9 ∨ m = 11) := fun h => by cases hb.2 h
      rw [if_neg (by simp)]
      by_cases h2 : m = 2
      · rw [if_pos h2, if_pos h2]; split <;> rfl
      · rw [if_neg h2, if_neg h2, if_neg this]
  unfold spec_l3Length.f
  by_cases h4 : m = 4
  · simp only [if_pos h4]; exact key _ (by simp [h4])
  · simp only [if_neg h4]
    by_cases h6 : m = 6
    · simp only [if_pos h6]; exact key _ (by simp [h6])
    · simp only [if_neg h6]
      by_cases h9 : m = 9
      · simp only [if_pos h9]; exact key _ (by simp [h9])
      · simp only [if_neg h9]; exact key _ (by simp [h4, h6, h9])
theorem dayLoop (y d : Int) (m : Nat) (hm : m ≤ 12) (S : Int) (h0 : 0 ≤ S) (h1 : S ≤ 40000) (hd0 : 0 ≤ d) (hd1 : d ≤ 40000) : ∀ i, i ≤ m → Ev (fun k => spec_l3Day.l0 k (S + cum y i) ((i : Int) + 1) y ((m : Int) + 1) d) (S + cum y m + d - 1) := by
  refine down m ?_ (fun i hi ih => ?_)
  · have := cum_bd y m
    refine Ev.step (f := fun _ => some (S + cum y m + d - 1)) (fun k => ?_) (Ev.now _)
    simp only [spec_l3Day.l0]
    rw [if_neg (by omega), w64 (x := S + cum y m + d) (by omega) (by omega), w64 (by omega) (by omega)]
  · have hc := cum_bd y i
    have hl := ln_bd y ((i + 1 : Nat) : Int)
    refine Ev.step (f := fun k => (spec_l3Length.f k y ((i + 1 : Nat) : Int)).bind fun t => spec_l3Day.l0 k (wrap64 (S + cum y i + t)) (wrap64 ((i : Int) + 1 + 1)) y ((m : Int) + 1) d) (fun k => ?_) ?_
    · simp only [spec_l3Day.l0]
      rw [if_pos (by omega), show (i : Int) + 1 = ((i + 1 : Nat) : Int) by omega]
    · refine Ev.bind (length_ev y _) ?_
      rw [w64 (by omega) (by omega), w64 (by omega) (by omega)]
      rw [cum] at ih
      rw [show S + cum y i + ln y ((i + 1 : Nat) : Int) = S + (cum y i + ln y ((i + 1 : Nat) : Int)) by omega, show (i : Int) + 1 + 1 = ((i + 1 : Nat) : Int) + 1 by omega]
      exact ih
theorem day_ev (y d : Int) (m : Nat) (hm : m ≤ 12) (h0 : 2000 ≤ y) (h1 : y ≤ 2100) (hd0 : 0 ≤ d) (hd1 : d ≤ 40000) : Ev (fun k => spec_l3Day.f k y ((m : Int) + 1) d) (ys y + cum y m + d - 1) := by
  unfold spec_l3Day.f
  have hb := ys_bd y h0 h1
  have e : wrap64 (wrap64 (365 * wrap64 (y - 2000)) + wrap64 (Int.tdiv (wrap64 (wrap64 (y - 2000) + 3)) 4)) = ys y := by
    rw [w64 (x := y - 2000) (by omega) (by omega), w64 (x := 365 * (y - 2000)) (by omega) (by omega), w64 (x := y - 2000 + 3) (by omega) (by omega), Int.tdiv_eq_ediv_of_nonneg (by omega), w64 (x := (y - 2000 + 3) / 4) (by omega) (by omega)]
    unfold ys at hb ⊢
    rw [w64 (by omega) (by omega)]
  rw [e]
  have := dayLoop y d m hm (ys y) hb.1 (by omega) hd0 hd1 0 (Nat.zero_le _)
  rw [cum, Int.add_zero] at this
  exact this
theorem month_s (y day : Int) (h0 : 2000 ≤ y) (h1 : y ≤ 2099) (_ : day < ys (y + 1)) : ∀ d (m : Nat), m + d = 11 → ys y + cum y m ≤ day →
    ∃ (q : Nat) (z : Int), q ≤ 11 ∧ Ev (fun k => spec_l3Date.l1 k day y ((m : Int) + 1) 1) (y, (q : Int) + 1, z) := by
  have hb := ys_bd y h0 (by omega)
  have last : ∀ m : Nat, m ≤ 11 → ∃ z : Int, Ev (fun k => (spec_l3Day.f k y ((m : Int) + 1) 1).bind fun t => some (y, (m : Int) + 1, wrap64 (wrap64 (day - t) + 1))) (y, (m : Int) + 1, z) := fun m hm => ⟨_, Ev.bind (day_ev y 1 m (by omega) h0 (by omega) (by omega) (by omega)) (Ev.now _)⟩
  intro d
  induction d with
  | zero =>
    intro m hm hle
    obtain ⟨z, hz⟩ := last m (by omega)
    refine ⟨m, z, by omega, Ev.step (fun k => ?_) hz⟩
    simp only [spec_l3Date.l1]
    rw [if_neg (by omega)]
  | succ d ih =>
    intro m hm hle
    have hc := cum_bd y m
    have e1 : (m : Int) + 1 = ((m + 1 : Nat) : Int) := by omega
    have go : ∀ r, Ev (fun k => if ys y + cum y (m + 1) + 1 - 1 ≤ day then spec_l3Date.l1 k day y (((m + 1 : Nat) : Int) + 1) 1 else (spec_l3Day.f k y ((m : Int) + 1) 1).bind fun t => some (y, (m : Int) + 1, wrap64 (wrap64 (day - t) + 1))) r → Ev (fun k => spec_l3Date.l1 k day y ((m : Int) + 1) 1) r := by
      intro r hr
      refine Ev.step (f := fun k => (spec_l3Day.f k y (((m + 1 : Nat) : Int) + 1) 1).bind fun t => if t ≤ day then spec_l3Date.l1 k day y (((m + 1 : Nat) : Int) + 1) 1 else (spec_l3Day.f k y ((m : Int) + 1) 1).bind fun t => some (y, (m : Int) + 1, wrap64 (wrap64 (day - t) + 1))) (fun k => ?_) ?_
      · simp only [spec_l3Date.l1]
        rw [if_pos (by omega), w64 (by omega) (by omega), e1]
      · exact Ev.bind (day_ev y 1 (m + 1) (by omega) h0 (by omega) (by omega) (by omega)) hr
    by_cases c : ys y + cum y (m + 1) ≤ day
    · obtain ⟨q, z, hq, hr⟩ := ih (m + 1) (by omega) c
      refine ⟨q, z, hq, go _ ?_⟩
      simp only [if_pos (show ys y + cum y (m + 1) + 1 - 1 ≤ day by omega)]
      exact hr
    · obtain ⟨z, hz⟩ := last m (by omega)
      refine ⟨m, z, by omega, go _ ?_⟩
      simp only [if_neg (show ¬ ys y + cum y (m + 1) + 1 - 1 ≤ day by omega)]
      exact hz
theorem year_s (day : Int) (h0 : 0 ≤ day) (h1 : day ≤ 36524) : ∀ (d : Nat) (y : Int), y + (d : Int) = 2099 → 2000 ≤ y → ys y ≤ day →
    ∃ (x : Int) (q : Nat) (z : Int), 2000 ≤ x ∧ x ≤ 2099 ∧ q ≤ 11 ∧ Ev (fun k => spec_l3Date.l0 k day y 1 1) (x, (q : Int) + 1, z) := by
  intro d
  induction d with
  | zero =>
    intro y hy hy0 hle
    have e : y = 2099 := by omega
    have hnext : day < ys (y + 1) := by rw [e]; unfold ys; omega
    obtain ⟨q, z, hq, hr⟩ := month_s y day hy0 (by omega) hnext 11 0 rfl (by rw [cum]; omega)
    refine ⟨y, q, z, hy0, by omega, hq, ?_⟩
    refine Ev.step (fun k => by simp only [spec_l3Date.l0]; rw [if_neg (by omega)]) ?_
    exact Ev.step (fun k => by simp only [spec_l3Date.j1]; rfl) hr
  | succ d ih =>
    intro y hy hy0 hle
    have hb2 := ys_bd (y + 1) (by omega) (by omega)
    have hd : Ev (fun k => spec_l3Day.f k (y + 1) 1 1) (ys (y + 1)) := by
      have := day_ev (y + 1) 1 0 (by omega) (by omega) (by omega) (by omega) (by omega)
      rw [cum, show ys (y + 1) + 0 + 1 - 1 = ys (y + 1) by omega] at this
      exact this
    by_cases c : ys (y + 1) ≤ day
    · obtain ⟨x, q, z, x0, x1, hq, hr⟩ := ih (y + 1) (by omega) (by omega) c
      refine ⟨x, q, z, x0, x1, hq, ?_⟩
      refine Ev.step (fun k => by simp only [spec_l3Date.l0]; rw [if_pos (by omega), w64 (by omega) (by omega)]) ?_
      refine Ev.bind hd ?_
      simp only [if_pos c]
      exact hr
    · obtain ⟨q, z, hq, hr⟩ := month_s y day hy0 (by omega) (by omega) 11 0 rfl (by rw [cum]; omega)
      refine ⟨y, q, z, hy0, by omega, hq, ?_⟩
      refine Ev.step (fun k => by simp only [spec_l3Date.l0]; rw [if_pos (by omega), w64 (by omega) (by omega)]) ?_
      refine Ev.bind hd ?_
      simp only [if_neg c]
      exact Ev.step (fun k => by simp only [spec_l3Date.j1]; rfl) hr
theorem date_s (day : Int) (h0 : 0 ≤ day) (h1 : day ≤ 36524) : ∃ (x : Int) (q : Nat) (z : Int), 2000 ≤ x ∧ x ≤ 2099 ∧ q ≤ 11 ∧ Ev (fun k => spec_l3Date.f k day) (x, (q : Int) + 1, z) :=
  year_s day h0 h1 99 2000 (by omega) (by omega) (by unfold ys; omega)

/-! what the reference draws for the law -/
theorem pickn {c : List Int} (hc : codeOk c) (a s n : Int) (h0 : 0 ≤ a) (h1 : a ≤ 90000) (n0 : 1 ≤ n) (n1 : n ≤ 65536) : ∃ v a' s', spec_l1Cur_pick.f c a s n = some (v, a', s') ∧ 0 ≤ v ∧ v < n ∧ a ≤ a' ∧ a' ≤ a + 2 := by
  by_cases h : n ≤ 200
  · obtain ⟨v, a', s', e, v0, v1, b0, b1⟩ := pick_ok hc a s n h0 (by omega) n0 h
    exact ⟨v, a', s', e, v0, v1, b0, by omega⟩
  · obtain ⟨v, s1, e1, v0, v1⟩ := next_ok hc a s h0 (by omega)
    obtain ⟨u, s2, e2, u0, u1⟩ := next_ok hc (a + 1) s1 (by omega) (by omega)
    unfold spec_l1Cur_pick.f
    rw [if_neg (by omega), e1, Option.bind_some, if_pos (by omega), e2, Option.bind_some, if_neg (by omega), w64 (x := v * 256) (by omega) (by omega), w64 (by omega) (by omega)]
    refine ⟨_, _, _, rfl, ?_, ?_, by dsimp only; omega, by dsimp only; omega⟩
    · rw [Int.tmod_eq_emod_of_nonneg (by omega)]; exact Int.emod_nonneg _ (by omega)
    · rw [Int.tmod_eq_emod_of_nonneg (by omega)]; exact Int.emod_lt_of_pos _ (by omega)
theorem cut_ok {c : List Int} (hc : codeOk c) (a s m d b : Int) (l : List Int) (h0 : 0 ≤ a) (h1 : a ≤ 80000) (m0 : 1 ≤ m) (m1 : m ≤ 100) (d0 : 1 ≤ d) (b0 : 1 ≤ b) (hl : b + (m - 1) / d ≤ (l.length : Int)) (hll : l.length ≤ 100) :
    ∃ v u a1 s1 a2 s2, spec_l1Cur_pick.f c a s m = some (u, a1, s1) ∧ 0 ≤ wrap64 (b + wrap64 (Int.tdiv u d)) ∧ wrap64 (b + wrap64 (Int.tdiv u d)) ≤ (l.length : Int) ∧ spec_l1Cur_among.f c a1 s1 (l.take (wrap64 (b + wrap64 (Int.tdiv u d))).toNat) = some (v, a2, s2) ∧ a ≤ a2 ∧ a2 ≤ a + 3 := by
  obtain ⟨u, a1, s1, e1, u0, u1, b2, b3⟩ := pick_ok hc a s m h0 (by omega) m0 (by omega)
  have hd : 0 ≤ u / d ∧ u / d ≤ (m - 1) / d := ⟨Int.ediv_nonneg u0 (by omega), Int.ediv_le_ediv (by omega) (by omega)⟩
  have ht : wrap64 (b + wrap64 (Int.tdiv u d)) = b + u / d := by
    rw [Int.tdiv_eq_ediv_of_nonneg u0, w64 (x := u / d) (by omega) (by omega), w64 (by omega) (by omega)]
  obtain ⟨v, a2, s2, e2, _, b4, b5⟩ := among_ok hc a1 s1 (l.take (b + u / d).toNat) (by omega) (by omega) (by rw [List.length_take]; omega) (by rw [List.length_take]; omega)
  refine ⟨v, u, a1, s1, a2, s2, e1, ?_, ?_, ?_, by omega, by omega⟩
  · rw [ht]; omega
  · rw [ht]; omega
  · rw [ht]; exact e2
theorem worth_ok {c : List Int} (hc : codeOk c) (a s : Int) (h0 : 0 ≤ a) (h1 : a ≤ 80000) : ∃ v a' s', spec_l1Cur_worth.f c a s = some (v, a', s') ∧ a ≤ a' ∧ a' ≤ a + 3 := by
  obtain ⟨v, u, a1, s1, a2, s2, e1, c0, c1, e2, b0, b1⟩ := cut_ok hc a s 40 39 10 [0, 1, -1, 50, -50, 70, 1234, -99999, 1000000000, -1000000000, 1000000001] h0 h1 (by omega) (by omega) (by omega) (by omega) (by simp) (by simp)
  unfold spec_l1Cur_worth.f
  rw [Option.bind_some, e1, Option.bind_some]
  dsimp only
  rw [if_pos c0, if_pos c1, e2]
  exact ⟨_, _, _, rfl, b0, b1⟩
theorem pay_ok {c : List Int} (hc : codeOk c) : ∃ r, spec_DrawPayableAmount.f c = some r := by
  obtain ⟨v, a, s, e, a0, a1⟩ := worth_ok hc 0 0 (by omega) (by omega)
  obtain ⟨b, a2, s2, e2, b0, b1⟩ := one_ok hc a s 2 (by omega) (by omega) (by omega) (by omega)
  obtain ⟨d, a3, s3, e3, _, _⟩ := one_ok hc a2 s2 2 (by omega) (by omega) (by omega) (by omega)
  unfold spec_DrawPayableAmount.f
  rw [e, Option.bind_some]
  dsimp only
  rw [e2, Option.bind_some]
  dsimp only
  rw [e3]
  exact ⟨_, rfl⟩
theorem dday_ok {c : List Int} (hc : codeOk c) (a s : Int) (h0 : 0 ≤ a) (h1 : a ≤ 80000) : ∃ v a' s', spec_l1Cur_day.f c a s = some (v, a', s') ∧ 0 ≤ v ∧ v ≤ 36524 ∧ a ≤ a' ∧ a' ≤ a + 4 := by
  obtain ⟨v, a1, s1, e1, v0, v1, b0, b1⟩ := pick_ok hc a s 6 h0 (by omega) (by omega) (by omega)
  unfold spec_l1Cur_day.f
  rw [e1, Option.bind_some]
  dsimp only
  by_cases h : v = 0
  · obtain ⟨u, a2, s2, e2, hu, b2, b3⟩ := among_ok hc a1 s1 [0, 59, 60, 365, 366, 424, 425, 36524, 36523, 30, 31] (by omega) (by omega) (by decide) (by decide)
    have hu' : 0 ≤ u ∧ u ≤ 36524 := by simp at hu; omega
    rw [if_pos h, e2]
    exact ⟨u, a2, s2, rfl, hu'.1, hu'.2, by omega, by omega⟩
  · by_cases h2 : v = 1
    · obtain ⟨u, a2, s2, e2, u0, u1, b2, b3⟩ := pickn hc a1 s1 36525 (by omega) (by omega) (by omega) (by omega)
      rw [if_neg h, if_pos h2, e2]
      exact ⟨u, a2, s2, rfl, u0, by omega, by omega, by omega⟩
    · obtain ⟨u, a2, s2, e2, u0, u1, b2, b3⟩ := pickn hc a1 s1 1500 (by omega) (by omega) (by omega) (by omega)
      rw [if_neg h, if_neg h2, e2]
      exact ⟨u, a2, s2, rfl, u0, by omega, by omega, by omega⟩
theorem near_ok {c : List Int} (hc : codeOk c) (a s : Int) (h0 : 0 ≤ a) (h1 : a ≤ 70000) : ∃ v a' s', Ev (fun k => spec_l1Cur_near4.f k c a s) (v, a', s') ∧ a ≤ a' ∧ a' ≤ a + 8 := by
  obtain ⟨v, a1, s1, e1, v0, v1, b0, b1⟩ := dday_ok hc a s h0 (by omega)
  obtain ⟨b, a2, s2, e2, b2, b3⟩ := one_ok hc a1 s1 3 (by omega) (by omega) (by omega) (by omega)
  unfold spec_l1Cur_near4.f
  simp only [e1, Option.bind_some, e2]
  cases b with
  | false =>
    simp only [Bool.false_eq_true, if_false]
    exact ⟨v, a2, s2, Ev.now _, by omega, by omega⟩
  | true =>
    obtain ⟨x, q, z, x0, x1, hq, hE⟩ := date_s v v0 v1
    obtain ⟨u, a3, s3, e3, u0, u1, b4, b5⟩ := pick_ok hc a2 s2 3 (by omega) (by omega) (by omega) (by omega)
    have hl := ln_bd x ((q : Int) + 1)
    simp only [if_true, e3, Option.bind_some]
    refine ⟨ys x + cum x q + (ln x ((q : Int) + 1) - u) - 1, a3, s3, Ev.bind hE (Ev.bind (length_ev x ((q : Int) + 1)) ?_), by omega, by omega⟩
    simp only
    rw [w64 (x := ln x ((q : Int) + 1) - u) (by omega) (by omega)]
    exact Ev.bind (day_ev x (ln x ((q : Int) + 1) - u) q (by omega) x0 (by omega) (by omega) (by omega)) (Ev.now _)
theorem cal1_ok {c : List Int} (hc : codeOk c) (W : List Int) (m : Nat) : ∀ (x a s : Int) (H : List Int), m ≤ 10 → 0 ≤ a → a ≤ 60000 - 3 * (m : Int) → H.length + m ≤ 50 → ∃ H' a' s', Ev (fun k => spec_l1Cur_calendar.l1 k x (m : Int) c a s W H) (W, H', a', s') ∧ H'.length ≤ 50 ∧ a ≤ a' ∧ a' ≤ a + 3 * (m : Int) := by
  induction m with
  | zero =>
    intro x a s H _ h0 _ hH
    refine ⟨H, a, s, Ev.step (f := fun _ => some (W, H, a, s)) (fun k => ?_) (Ev.now _), by omega, by omega, by omega⟩
    simp only [spec_l1Cur_calendar.l1]
    rw [if_neg (by omega)]
  | succ m ih =>
    intro x a s H hm h0 h1 hH
    by_cases hx : x ≤ 36524
    · obtain ⟨v, a1, s1, e1, _, _, b0, b1⟩ := pick_ok hc a s 4 h0 (by omega) (by omega) (by omega)
      obtain ⟨H', a', s', hE, hl, c0, c1⟩ := ih (wrap64 (wrap64 (x + 1) + v)) a1 s1 (H ++ [x]) (by omega) (by omega) (by omega) (by simp; omega)
      refine ⟨H', a', s', Ev.step (fun k => ?_) hE, hl, by omega, by omega⟩
      simp only [spec_l1Cur_calendar.l1]
      rw [if_pos (by omega), if_pos hx, if_pos (by omega), e1, Option.bind_some, w64 (x := ((m + 1 : Nat) : Int) - 1) (by omega) (by omega), show ((m + 1 : Nat) : Int) - 1 = (m : Int) by omega]
    · refine ⟨H, a, s, Ev.step (f := fun _ => some (W, H, a, s)) (fun k => ?_) (Ev.now _), by omega, by omega, by omega⟩
      simp only [spec_l1Cur_calendar.l1]
      rw [if_pos (by omega), if_neg hx]
theorem calj_ok {c : List Int} (hc : codeOk c) (n : Int) (W : List Int) (a s : Int) (h0 : 0 ≤ a) (h1 : a ≤ 50000) : ∃ H' a' s', Ev (fun k => spec_l1Cur_calendar.j1 k n c a s W) (W, H', a', s') ∧ H'.length ≤ 50 ∧ a ≤ a' ∧ a' ≤ a + 40 := by
  obtain ⟨v, a1, s1, e1, v0, v1, b0, b1⟩ := pick_ok hc a s 7 h0 (by omega) (by omega) (by omega)
  obtain ⟨H', a', s', hE, hl, c0, c1⟩ := cal1_ok hc W v.toNat (if wrap64 (n - 8) > 0 then wrap64 (n - 8) else 0) a1 s1 [] (by omega) (by omega) (by omega) (by simp; omega)
  rw [show ((v.toNat : Nat) : Int) = v by omega] at hE
  refine ⟨H', a', s', Ev.step (fun k => ?_) hE, hl, by omega, by omega⟩
  simp only [spec_l1Cur_calendar.j1]
  have hm : spec_l1Most.f (wrap64 (n - 8)) 0 = some (if wrap64 (n - 8) > 0 then wrap64 (n - 8) else 0) := by
    unfold spec_l1Most.f
    split <;> rfl
  rw [hm, Option.bind_some, e1, Option.bind_some]
theorem cal0_ok {c : List Int} (hc : codeOk c) (n : Int) : ∀ i : Nat, i ≤ 6 → ∀ (a s : Int) (W : List Int), 0 ≤ a → a ≤ 40000 + (i : Int) → W.length ≤ i → ∃ W' H' a' s', Ev (fun k => spec_l1Cur_calendar.l0 k n (i : Int) c a s W) (W', H', a', s') ∧ W'.length ≤ 50 ∧ H'.length ≤ 50 ∧ 0 ≤ a' ∧ a' ≤ 41000 := by
  refine down 6 ?_ (fun i hi ih => ?_)
  · intro a s W h0 h1 hW
    obtain ⟨H', a', s', hE, hl, c0, c1⟩ := calj_ok hc n W a s h0 (by omega)
    refine ⟨W, H', a', s', Ev.step (fun k => ?_) hE, by omega, hl, by omega, by omega⟩
    simp only [spec_l1Cur_calendar.l0]
    rfl
  · intro a s W h0 h1 hW
    obtain ⟨b, a1, s1, e1, b0, b1⟩ := one_ok hc a s 3 h0 (by omega) (by omega) (by omega)
    have hw : wrap64 ((i : Int) + 1) = ((i + 1 : Nat) : Int) := w64s (by omega)
    cases b with
    | false =>
      obtain ⟨W', H', a', s', hE, h⟩ := ih a1 s1 W (by omega) (by omega) (by omega)
      refine ⟨W', H', a', s', Ev.step (fun k => ?_) hE, h⟩
      simp only [spec_l1Cur_calendar.l0]
      rw [if_pos (by omega), e1, Option.bind_some, hw]
      rfl
    | true =>
      obtain ⟨W', H', a', s', hE, h⟩ := ih a1 s1 (W ++ [(i : Int)]) (by omega) (by omega) (by simp; omega)
      refine ⟨W', H', a', s', Ev.step (fun k => ?_) hE, h⟩
      simp only [spec_l1Cur_calendar.l0]
      rw [if_pos (by omega), e1, Option.bind_some, hw]
      simp only [if_true, if_pos (show W.length < 17592186044416 by omega)]
theorem cal_ok {c : List Int} (hc : codeOk c) (n a s : Int) (h0 : 0 ≤ a) (h1 : a ≤ 30000) : ∃ W' H' a' s', Ev (fun k => spec_l1Cur_calendar.f k c a s n) (W', H', a', s') ∧ W'.length ≤ 50 ∧ H'.length ≤ 50 ∧ 0 ≤ a' ∧ a' ≤ 41000 := by
  obtain ⟨v, a1, s1, e1, v0, v1, b0, b1⟩ := pick_ok hc a s 6 h0 (by omega) (by omega) (by omega)
  unfold spec_l1Cur_calendar.f
  simp only [e1, Option.bind_some]
  by_cases h : v = 0
  · obtain ⟨H', a', s', hE, hl, c0, c1⟩ := calj_ok hc n [4, 5] a1 s1 (by omega) (by omega)
    simp only [if_pos h]
    exact ⟨[4, 5], H', a', s', hE, by simp, hl, by omega, by omega⟩
  · by_cases h2 : v = 1
    · obtain ⟨W', H', a', s', hE, h3⟩ := cal0_ok hc n 0 (Nat.zero_le _) a1 s1 [] (by omega) (by omega) (by simp)
      simp only [if_neg h, if_pos h2]
      exact ⟨W', H', a', s', hE, h3⟩
    · obtain ⟨H', a', s', hE, hl, c0, c1⟩ := calj_ok hc n [5, 6] a1 s1 (by omega) (by omega)
      simp only [if_neg h, if_neg h2]
      exact ⟨[5, 6], H', a', s', hE, by simp, hl, by omega, by omega⟩

theorem anyl_ok {c : List Int} (hc : codeOk c) (n : Int) (W : List Int) : ∀ i : Nat, i ≤ 41 → ∀ (a s : Int) (H : List Int), 0 ≤ a → a ≤ 50000 + (i : Int) → H.length ≤ i → ∃ H' a' s', Ev (fun k => spec_l1Cur_anyCalendar.l0 k n (i : Int) c a s W H) (W, H', a', s') ∧ H'.length ≤ 60 ∧ 0 ≤ a' ∧ a' ≤ 51000 := by
  refine down 41 ?_ (fun i hi ih => ?_)
  · intro a s H h0 h1 hH
    obtain ⟨v, a1, s1, e1, v0, v1, b0, b1⟩ := pick_ok hc a s 2 h0 (by omega) (by omega) (by omega)
    refine ⟨H, a1, s1, Ev.step (f := fun _ => some (W, H, a1, s1)) (fun k => ?_) (Ev.now _), by omega, by omega, by omega⟩
    simp only [spec_l1Cur_anyCalendar.l0]
    rw [e1, Option.bind_some, w64 (x := 40 + v) (by omega) (by omega), if_neg (by omega)]
  · intro a s H h0 h1 hH
    obtain ⟨v, a1, s1, e1, v0, v1, b0, b1⟩ := pick_ok hc a s 2 h0 (by omega) (by omega) (by omega)
    by_cases hx : (i : Int) < 40 + v
    · have hm : ∃ t, spec_l1Most.f (wrap64 (n - 20)) 0 = some t := by unfold spec_l1Most.f; split <;> exact ⟨_, rfl⟩
      obtain ⟨t, ht⟩ := hm
      have hm2 : ∃ u, spec_l1Least.f t 36464 = some u := by unfold spec_l1Least.f; split <;> exact ⟨_, rfl⟩
      obtain ⟨u, hu⟩ := hm2
      obtain ⟨H', a', s', hE, h⟩ := ih a1 s1 (H ++ [wrap64 (u + (i : Int))]) (by omega) (by omega) (by simp; omega)
      refine ⟨H', a', s', Ev.step (fun k => ?_) hE, h⟩
      simp only [spec_l1Cur_anyCalendar.l0]
      rw [e1, Option.bind_some, w64 (x := 40 + v) (by omega) (by omega), if_pos hx, ht, Option.bind_some, hu, Option.bind_some, if_pos (by omega), w64s (by omega)]
    · refine ⟨H, a1, s1, Ev.step (f := fun _ => some (W, H, a1, s1)) (fun k => ?_) (Ev.now _), by omega, by omega, by omega⟩
      simp only [spec_l1Cur_anyCalendar.l0]
      rw [e1, Option.bind_some, w64 (x := 40 + v) (by omega) (by omega), if_neg hx]
theorem any_ok {c : List Int} (hc : codeOk c) (n a s : Int) (h0 : 0 ≤ a) (h1 : a ≤ 30000) : ∃ W' H' a' s', Ev (fun k => spec_l1Cur_anyCalendar.f k c a s n) (W', H', a', s') ∧ W'.length ≤ 100 ∧ H'.length ≤ 100 ∧ 0 ≤ a' ∧ a' ≤ 60000 := by
  obtain ⟨W, H, a1, s1, hE, hW, hH, b0, b1⟩ := cal_ok hc n a s h0 h1
  obtain ⟨v, a2, s2, e2, v0, v1, b2, b3⟩ := pick_ok hc a1 s1 30 b0 (by omega) (by omega) (by omega)
  unfold spec_l1Cur_anyCalendar.f
  by_cases c0 : v = 0
  · obtain ⟨u, a3, s3, e3, _, b4, b5⟩ := among_ok hc a2 s2 [6, 7, -1] (by omega) (by omega) (by decide) (by decide)
    refine ⟨W ++ [u], H, a3, s3, Ev.bind hE ?_, by simp; omega, by omega, by omega, by omega⟩
    simp only [e2, Option.bind_some, if_pos c0, e3, if_pos (show W.length < 17592186044416 by omega)]
    exact Ev.now _
  · by_cases c1 : v = 1
    · obtain ⟨u, a3, s3, e3, _, b4, b5⟩ := among_ok hc a2 s2 [36524, 36525, 0] (by omega) (by omega) (by decide) (by decide)
      refine ⟨W, H ++ [u], a3, s3, Ev.bind hE ?_, by omega, by simp; omega, by omega, by omega⟩
      simp only [e2, Option.bind_some, if_neg c0, if_pos c1, e3, if_pos (show H.length < 17592186044416 by omega)]
      exact Ev.now _
    · by_cases c2 : v = 2
      · refine ⟨[0, 1, 2, 3, 4, 5, 6], H, a2, s2, Ev.bind hE ?_, by simp, by omega, by omega, by omega⟩
        simp only [e2, Option.bind_some, if_neg c0, if_neg c1, if_pos c2]
        exact Ev.now _
      · by_cases c3 : v = 3
        · obtain ⟨H', a3, s3, hE3, hl, b4, b5⟩ := anyl_ok hc n W 0 (Nat.zero_le _) a2 s2 [] (by omega) (by omega) (by simp)
          refine ⟨W, H', a3, s3, Ev.bind hE ?_, by omega, by omega, by omega, by omega⟩
          simp only [e2, Option.bind_some, if_neg c0, if_neg c1, if_neg c2, if_pos c3]
          exact hE3
        · refine ⟨W, H, a2, s2, Ev.bind hE ?_, by omega, by omega, by omega, by omega⟩
          simp only [e2, Option.bind_some, if_neg c0, if_neg c1, if_neg c2, if_neg c3]
          exact Ev.now _
theorem aday_ok {c : List Int} (hc : codeOk c) (a s : Int) (h0 : 0 ≤ a) (h1 : a ≤ 70000) : ∃ v a' s', spec_l1Cur_anyDay.f c a s = some (v, a', s') := by
  obtain ⟨b, a1, s1, e1, b0, b1⟩ := one_ok hc a s 16 h0 (by omega) (by omega) (by omega)
  unfold spec_l1Cur_anyDay.f
  rw [e1, Option.bind_some]
  dsimp only
  cases b with
  | true =>
    obtain ⟨u, a2, s2, e2, _, _, _⟩ := among_ok hc a1 s1 [-1, 36524, 36525, 1099511627776] (by omega) (by omega) (by decide) (by decide)
    rw [if_pos rfl, e2]
    exact ⟨_, _, _, rfl⟩
  | false =>
    obtain ⟨u, a2, s2, e2, _, _, _, _⟩ := dday_ok hc a1 s1 (by omega) (by omega)
    rw [if_neg (by simp), e2]
    exact ⟨_, _, _, rfl⟩
theorem bday_ok {c : List Int} (hc : codeOk c) : ∃ W H d, Ev (fun k => spec_DrawIsBusinessDay.f k c) (W, H, d) ∧ W.length ≤ 100 ∧ H.length ≤ 100 := by
  obtain ⟨v, a, s, hE, a0, a1⟩ := near_ok hc 0 0 (by omega) (by omega)
  obtain ⟨W, H, a2, s2, hE2, hW, hH, b0, b1⟩ := any_ok hc v a s (by omega) (by omega)
  obtain ⟨b, a3, s3, e3, b2, b3⟩ := one_ok hc a2 s2 20 b0 (by omega) (by omega) (by omega)
  unfold spec_DrawIsBusinessDay.f
  cases b with
  | true =>
    obtain ⟨u, a4, s4, e4⟩ := aday_ok hc a3 s3 (by omega) (by omega)
    refine ⟨W, H, u, Ev.bind hE (Ev.bind hE2 ?_), hW, hH⟩
    simp only [e3, Option.bind_some, if_true, e4]
    exact Ev.now _
  | false =>
    refine ⟨W, H, v, Ev.bind hE (Ev.bind hE2 ?_), hW, hH⟩
    simp only [e3, Option.bind_some, Bool.false_eq_true, if_false]
    exact Ev.now _
theorem tday_ok {c : List Int} (hc : codeOk c) : ∃ W H d g cured, Ev (fun k => spec_DrawTerminationDay.f k c) (W, H, d, g, cured) ∧ W.length ≤ 100 ∧ H.length ≤ 100 ∧ cured.length ≤ 100 := by
  obtain ⟨W, H, d, hE, hW, hH⟩ := bday_ok hc
  obtain ⟨b, a1, s1, e1, b0, b1⟩ := one_ok hc 0 0 3 (by omega) (by omega) (by omega) (by omega)
  unfold spec_DrawTerminationDay.f
  have cut := fun (a s : Int) (h0 : 0 ≤ a) (h1 : a ≤ 80000) => cut_ok hc a s 40 20 6 [0, 1, 3, 5, 20, 60, 61, -1] h0 h1 (by omega) (by omega) (by omega) (by omega) (by simp) (by simp)
  cases b with
  | false =>
    obtain ⟨v, u, a2, s2, a3, s3, e2, c0, c1, e3, _, _⟩ := cut a1 s1 (by omega) (by omega)
    refine ⟨W, H, d, v, [], Ev.bind hE ?_, hW, hH, by simp⟩
    simp only [Option.bind_some, e1, Bool.false_eq_true, if_false, e2, if_pos c0, if_pos c1, e3]
    exact Ev.now _
  | true =>
    obtain ⟨x, a2, s2, e2, _, b2, b3⟩ := among_ok hc a1 s1 [-9, -1, 0, 1, 5, 9, 30, 90] (by omega) (by omega) (by decide) (by decide)
    obtain ⟨b', a3, s3, e3, b4, b5⟩ := one_ok hc a2 s2 2 (by omega) (by omega) (by omega) (by omega)
    cases b' with
    | false =>
      obtain ⟨v, u, a4, s4, a5, s5, e4, c0, c1, e5, _, _⟩ := cut a3 s3 (by omega) (by omega)
      refine ⟨W, H, d, v, [wrap64 (d + x)], Ev.bind hE ?_, hW, hH, by simp⟩
      simp only [Option.bind_some, e1, if_true, e2, if_pos (show ([] : List Int).length < 17592186044416 by simp), List.nil_append, e3, Bool.false_eq_true, if_false, e4, if_pos c0, if_pos c1, e5]
      exact Ev.now _
    | true =>
      obtain ⟨y, a4, s4, e4, _, _, b6, b7⟩ := pick_ok hc a3 s3 3 (by omega) (by omega) (by omega) (by omega)
      obtain ⟨v, u, a5, s5, a6, s6, e5, c0, c1, e6, _, _⟩ := cut a4 s4 (by omega) (by omega)
      refine ⟨W, H, d, v, [wrap64 (d + x)] ++ [wrap64 (wrap64 (d + x) + y)], Ev.bind hE ?_, hW, hH, by simp⟩
      simp only [Option.bind_some, e1, if_true, e2, if_pos (show ([] : List Int).length < 17592186044416 by simp), List.nil_append, e3, e4, if_pos (show [wrap64 (d + x)].length < 17592186044416 by simp), e5, if_pos c0, if_pos c1, e6]
      exact Ev.now _

/-! the law -/
theorem payable (x : Int) (d o : Bool) : ∃ r : Int × Bool, impl_PayableAmount.f x d o = some r ∧ spec_PayableAmount.f x d o = some r ∧ (r.2 = true → r.1 = x ∨ r.1 = 0) ∧ (o = true → d = true → ¬ r.1 < 0) := by
  unfold impl_PayableAmount.f spec_PayableAmount.f
  rw [isAmount_eq, l2Amount_eq, Option.bind_some, Option.bind_some]
  cases am x with
  | false => exact ⟨(0, false), rfl, rfl, fun h => (by cases h), fun _ _ => (by simp)⟩
  | true =>
    rw [if_pos rfl, if_pos rfl]
    cases o with
    | false => exact ⟨(x, true), rfl, rfl, fun _ => .inl rfl, fun h => (by cases h)⟩
    | true =>
      cases d with
      | true =>
        by_cases c : x < 0
        · exact ⟨(0, true), by simp [c], by simp [c], fun _ => .inr rfl, fun _ _ => (by simp)⟩
        · exact ⟨(x, true), by simp [c], by simp [c], fun _ => .inl rfl, fun _ _ => c⟩
      | false =>
        by_cases c : x > 0
        · exact ⟨(0, true), by simp [c], by simp; omega, fun _ => .inr rfl, fun _ h => (by cases h)⟩
        · by_cases c2 : x < 0
          · exact ⟨(x, true), by simp [c], by simp [c2], fun _ => .inl rfl, fun _ h => (by cases h)⟩
          · have e : x = 0 := by omega
            subst e
            exact ⟨(0, true), rfl, rfl, fun _ => .inl rfl, fun _ h => (by cases h)⟩
theorem pay_last (p : Int) (d o : Bool) (r : Int × Bool) (h1 : r.2 = true → r.1 = p ∨ r.1 = 0) (h2 : o = true → d = true → ¬ r.1 < 0) : (if r.1 = r.1 then (if (r.2 == r.2) = true then (if r.2 = true then (if r.1 = p then (if o = true then (if d = true then (some (!(decide (r.1 < 0)))) else (some (!false))) else (some (!false))) else (if r.1 = 0 then (if o = true then (if d = true then (some (!(decide (r.1 < 0)))) else (some (!false))) else (some (!false))) else (some false))) else (if o = true then (if d = true then (some (!(decide (r.1 < 0)))) else (some (!false))) else (some (!false)))) else (some false)) else (some false)) = some true := by
  have e : (if o = true then (if d = true then (some (!(decide (r.1 < 0)))) else (some (!false))) else (some (!false))) = some true := by
    cases o with
    | false => rfl
    | true =>
      cases d with
      | false => rfl
      | true => simp [h2 rfl rfl]
  simp only [e, if_true, beq_self_eq_true]
  cases hr : r.2 with
  | false => rfl
  | true =>
    rcases h1 hr with h | h
    · rw [if_pos rfl, if_pos h]
    · rw [if_pos rfl]
      split
      · rfl
      · first | rfl | rw [if_pos h]
theorem whole (c : List Int) (hc : ∀ x ∈ c, 0 ≤ x ∧ x ≤ 255) : Ev (fun k => laws_FnTermination.f k c) true := by
  unfold laws_FnTermination.f laws_vBig.f
  simp only [Option.bind_some]
  by_cases hl : (c.length : Int) > 65536
  · simp only [decide_eq_true hl, if_true]
    exact Ev.now _
  · simp only [decide_eq_false hl, Bool.false_eq_true, if_false]
    have hok : codeOk c := ⟨by omega, hc⟩
    obtain ⟨W, H, d, g, cured, hD, hW, hH, hcu⟩ := tday_ok hok
    obtain ⟨⟨e, b⟩, hS, hI, hm⟩ := term_more W H (by omega) (by omega) d g cured (by omega)
    obtain ⟨⟨p, q, o⟩, hp⟩ := pay_ok hok
    obtain ⟨r, p1, p2, p3, p4⟩ := payable p q o
    have last := pay_last p q o r p3 p4
    refine Ev.bind hD (Ev.bind hI (Ev.bind hS ?_))
    simp only [if_true, bne_self_eq_false]
    refine Ev.step (fun k => by simp only [laws_FnTermination.j0]; rfl) ?_
    simp only [Bool.false_eq_true, if_false]
    cases b with
    | false =>
      simp only [Bool.false_eq_true, if_false, hp, Option.bind_some, p1, p2]
      exact Ev.const ((if_pos trivial).trans ((if_pos rfl).symm.trans last))
    | true =>
      obtain ⟨hI0, hge⟩ := hm rfl
      dsimp only at hge
      simp only [if_true]
      refine Ev.bind hI0 ?_
      simp only [if_true, decide_eq_false (show ¬ e < d by omega)]
      refine Ev.step (fun k => by simp only [laws_FnTermination.j1]; rfl) ?_
      simp only [Bool.false_eq_true, if_false, hp, Option.bind_some, p1, p2]
      exact Ev.const ((if_pos trivial).trans ((if_pos rfl).symm.trans last))
end Go.Proofs.Ytjpceeemmebghaa.PureFnTermination
namespace Go.Proofs.Ytjpceeemmebghaa.Pure
theorem FnTermination : PFnTermination.laws_FnTermination.Ask := fun c hc => (PureFnTermination.whole c (fun x hx => by have := hc.2.2 x hx; have h : IntKind.u8.min ≤ x ∧ x ≤ IntKind.u8.max := (by simpa [Go.Proofs.YtjpceeemmebghaaOpen.bInt, Lit.wf] using this); exact h)).rounds
end Go.Proofs.Ytjpceeemmebghaa.Pure
