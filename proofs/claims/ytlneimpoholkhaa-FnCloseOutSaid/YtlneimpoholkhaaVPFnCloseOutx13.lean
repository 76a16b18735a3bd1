/- Each Go function that the law uses as a plain Lean function, and a proof that its code comes to what this function tells. No condition. -/
import Derived.Test.YtlneimpoholkhaaVPFnCloseOutx0
import Derived.Test.YtlneimpoholkhaaVPFnCloseOutx10
import Derived.Test.YtlneimpoholkhaaVPFnCloseOutx11
namespace Go.Proofs.Ytlneimpoholkhaa.PFnCloseOut
open Go.RowKit Go.Proofs.YtlneimpoholkhaaW.PrintWords Go.Proofs.YtlneimpoholkhaaW.PrintLast Go.Proofs.YtlneimpoholkhaaW.PrintMore
attribute [local go_sem] max2_int min2_int max_two min_two max_three min_three max_four min_four   -- for this text's walks alone
set_option linter.unusedVariables false
set_option linter.unusedSimpArgs false

/-! ### spec_l1Cur_cash: function 76 -/
def spec_l1Cur_cash.f (s0_0 : List Int) (s0_1 : Int) (s0_2 : Int) : Option (Int × Int × Int) := (some (([0, 1, 5, 13, 60, 111, 100000, 3000000, 1000000000, (-1), 1000000001] : List Int) : List Int)).bind fun y568 => ((spec_l1Cur_pick.f s0_0 s0_1 s0_2 40).bind fun bt571 => (if 0 ≤ (wrap64 (9 + (wrap64 (Int.tdiv bt571.1 20)))) then (if (wrap64 (9 + (wrap64 (Int.tdiv bt571.1 20)))) ≤ (y568.length : Int) then ((spec_l1Cur_among.f s0_0 bt571.2.1 bt571.2.2 (y568.take ((wrap64 (9 + (wrap64 (Int.tdiv bt571.1 20)))) : Int).toNat)).bind fun bt578 => (some (bt578.1, bt578.2.1, bt578.2.2))) else (none)) else (none)))
set_option maxHeartbeats 8000000 in
set_option maxRecDepth 100000 in
theorem spec_l1Cur_cash.calls (g : Nat) (s0_0 : List Int) (s0_1 : Int) (s0_2 : Int) (r1 : Int) (r2 : Int) (r3 : Int) (w0 w : World) (hI : IsS75 w0 w g s0_0 s0_1 s0_2) (hB : Below w0.heap.size w0 w) (h : spec_l1Cur_cash.f s0_0 s0_1 s0_2 = some (r1, r2, r3)) :
 Calls Try.prog 76 #[.pointer (some ⟨g, 0, none⟩)] w fun e w' => e = .returned (.int .i64 r1) ∧ IsS75 w0 w' g s0_0 r2 r3 ∧ Below w0.heap.size w0 w' ∧ KeepBut w w' g none := by
 have HI0 := Aside0.mk hI
 have HK := Aside0.mk (KeepBut.refl w g none)
 have HL := Aside0.mk hB.size
 clear hI
 have HW0 := Aside0.mk hB.size
 have HB := Aside0.mk hB
 clear hB
 have H : ((some (([0, 1, 5, 13, 60, 111, 100000, 3000000, 1000000000, (-1), 1000000001] : List Int) : List Int)).bind fun y568 => ((spec_l1Cur_pick.f s0_0 s0_1 s0_2 40).bind fun bt571 => (if 0 ≤ (wrap64 (9 + (wrap64 (Int.tdiv bt571.1 20)))) then (if (wrap64 (9 + (wrap64 (Int.tdiv bt571.1 20)))) ≤ (y568.length : Int) then ((spec_l1Cur_among.f s0_0 bt571.2.1 bt571.2.2 (y568.take ((wrap64 (9 + (wrap64 (Int.tdiv bt571.1 20)))) : Int).toNat)).bind fun bt578 => (some (bt578.1, bt578.2.1, bt578.2.2))) else (none)) else (none)))) = some (r1, r2, r3) := h
 clear h
 obtain ⟨y568, hy568⟩ : ∃ y_ : List Int, y_ = (([0, 1, 5, 13, 60, 111, 100000, 3000000, 1000000000, (-1), 1000000001] : List Int)) := ⟨_, rfl⟩
 replace H : ((spec_l1Cur_pick.f s0_0 s0_1 s0_2 40).bind fun bt571 => (if 0 ≤ (wrap64 (9 + (wrap64 (Int.tdiv bt571.1 20)))) then (if (wrap64 (9 + (wrap64 (Int.tdiv bt571.1 20)))) ≤ (y568.length : Int) then ((spec_l1Cur_among.f s0_0 bt571.2.1 bt571.2.2 (y568.take ((wrap64 (9 + (wrap64 (Int.tdiv bt571.1 20)))) : Int).toNat)).bind fun bt578 => (some (bt578.1, bt578.2.1, bt578.2.2))) else (none)) else (none))) = some (r1, r2, r3) := by first | (rw [hy568]; with_reducible exact H) | (have H2_ := (Option.bind_some _ _).symm.trans H; rw [hy568]; with_reducible exact H2_) | (have H2_ := (Option.bind_some _ _).symm.trans H; with_reducible exact H2_) | with_reducible exact H | (rw [hy568]; exact H) | exact H
 have Ny568 := Aside0.mk hy568
 clear hy568
 replace H := Option.bind_eq_some_iff.mp H
 obtain ⟨⟨t571, t572, t573⟩, A20, H⟩ := H
 replace H : (if 0 ≤ (wrap64 (9 + (wrap64 (Int.tdiv t571 20)))) then (if (wrap64 (9 + (wrap64 (Int.tdiv t571 20)))) ≤ (y568.length : Int) then ((spec_l1Cur_among.f s0_0 t572 t573 (y568.take ((wrap64 (9 + (wrap64 (Int.tdiv t571 20)))) : Int).toNat)).bind fun bt578 => (some (bt578.1, bt578.2.1, bt578.2.2))) else (none)) else (none)) = some (r1, r2, r3) := H
 have A2 := Aside0.mk A20
 clear A20
 obtain ⟨ji3, hji3⟩ : ∃ j_ : Int, (wrap64 (9 + (wrap64 (Int.tdiv t571 20)))) = j_ := ⟨_, rfl⟩
 replace H : (if 0 ≤ (ji3) then (if (ji3) ≤ (y568.length : Int) then ((spec_l1Cur_among.f s0_0 t572 t573 (y568.take ((ji3) : Int).toNat)).bind fun bt578 => (some (bt578.1, bt578.2.1, bt578.2.2))) else (none)) else (none)) = some (r1, r2, r3) := by first | (rw [hji3] at H; exact H) | (simp only [hji3] at H ⊢; exact H)
 (try rw [hji3] at A2)
 have hji3w : (IntKind.i64.wrap (9 + (wrap64 (Int.tdiv t571 20)))) = ji3 := (i64_w _).trans hji3
 by_cases c4 : 0 ≤ (ji3)
 ·
  rw [if_pos c4] at H
  have c4b0 := eq_true c4
  have c4b1 : decide (0 ≤ (ji3)) = true := decide_eq_true c4
  clear c4
  by_cases c5 : (ji3) ≤ (y568.length : Int)
  ·
   rw [if_pos c5] at H
   have c5b0 := eq_true c5
   have c5b1 : decide ((ji3) ≤ (y568.length : Int)) = true := decide_eq_true c5
   clear c5
   obtain ⟨y574, hy574⟩ : ∃ y_ : List Int, y_ = (y568.take ((ji3) : Int).toNat) := ⟨_, rfl⟩
   replace H : ((spec_l1Cur_among.f s0_0 t572 t573 y574).bind fun bt578 => (some (bt578.1, bt578.2.1, bt578.2.2))) = some (r1, r2, r3) := by first | (rw [hy574]; with_reducible exact H) | (have H2_ := (Option.bind_some _ _).symm.trans H; rw [hy574]; with_reducible exact H2_) | (have H2_ := (Option.bind_some _ _).symm.trans H; with_reducible exact H2_) | with_reducible exact H | (rw [hy574]; exact H) | exact H
   have Ny574 := Aside0.mk hy574
   clear hy574
   replace H := Option.bind_eq_some_iff.mp H
   obtain ⟨⟨t578, t579, t580⟩, A60, H⟩ := H
   replace H : (some (t578, t579, t580)) = some (r1, r2, r3) := H
   have A6 := Aside0.mk A60
   clear A60
   simp only [Option.some.injEq, Prod.mk.injEq] at H
   obtain ⟨rfl, rfl, rfl⟩ := H
   go_enter Try.func76, Try.ntmps76
   go_wp2_with (first | ((with_reducible refine gate_dst (N := 4) rfl ?_); refine Kd.R_lit (Kd.int .i64) _ 3 ?hg (N := 4) ?hd (xs := ([0, 1, 5, 13, 60, 111, 100000, 3000000, 1000000000, (-1), 1000000001] : List Int)) (inner := [.int .i64 0, .int .i64 1, .int .i64 5, .int .i64 13, .int .i64 60, .int .i64 111, .int .i64 100000, .int .i64 3000000, .int .i64 1000000000, .int .i64 (-1), .int .i64 1000000001]) (ok := fun _ => True) (okp := fun _ => True) ?hr ?hp (fun _ hk => hk) trivial (Below.refl _ _) (Nat.le_refl _) (by simp) ?_; (case hd => rfl); (case hg => rfl); (case hr => first | (go_simp; done) | (go_simp; rfl)); (case hp => exact (Reps.one (show Kd.M (Kd.int .i64) _ _ _ 0 [.int .i64 0] from rfl) (Reps.one (show Kd.M (Kd.int .i64) _ _ _ 1 [.int .i64 1] from rfl) (Reps.one (show Kd.M (Kd.int .i64) _ _ _ 5 [.int .i64 5] from rfl) (Reps.one (show Kd.M (Kd.int .i64) _ _ _ 13 [.int .i64 13] from rfl) (Reps.one (show Kd.M (Kd.int .i64) _ _ _ 60 [.int .i64 60] from rfl) (Reps.one (show Kd.M (Kd.int .i64) _ _ _ 111 [.int .i64 111] from rfl) (Reps.one (show Kd.M (Kd.int .i64) _ _ _ 100000 [.int .i64 100000] from rfl) (Reps.one (show Kd.M (Kd.int .i64) _ _ _ 3000000 [.int .i64 3000000] from rfl) (Reps.one (show Kd.M (Kd.int .i64) _ _ _ 1000000000 [.int .i64 1000000000] from rfl) (Reps.one (show Kd.M (Kd.int .i64) _ _ _ (-1) [.int .i64 (-1)] from rfl) (Reps.one (show Kd.M (Kd.int .i64) _ _ _ 1000000001 [.int .i64 1000000001] from rfl) (Reps.none _ _))))))))))))); intro v569 w7 ho8 hb hg_ hnew_; clear hg_ hnew_; (first | rw [← Ny568.out] at ho8 | (simp only [Int.reduceToNat] at ho8; rw [← Ny568.out] at ho8)); have n0_ := Aside0.mk (Kd.R_lower ho8 (keep_size (w := w) (g := g) (row := none) (by repeat (first | (with_reducible first | exact HK.out | apply KeepBut.set_ | apply keep_drewN | apply keep_drew | apply keep_alloc) | exact HK.out)))); have n1_ := Aside0.mk (IsS75.below (by repeat (first | (with_reducible first | exact HI0.out | apply IsS75.alloc | apply IsS75.drewN | apply IsS75.drew | apply IsS75.set_1 | apply IsS75.set_2) | exact HI0.out)) hb); have n2_ := Aside0.mk (KeepBut.trans (by repeat (first | (with_reducible first | exact HK.out | apply KeepBut.set_ | apply keep_drewN | apply keep_drew | apply keep_alloc) | exact HK.out)) (KeepBut.of_below hb g none) (.inl rfl)); have n3_ := Aside0.mk (below_step (by repeat (first | (with_reducible first | exact HB.out | apply below_alloc | apply pw_below_drewN | apply below_drew1 | refine below_set ?_ (IsS75.ge HI0.out)) | exact HB.out)) hb); clear HI0; clear HK; clear HB; have HO570 := n0_; have HI0 := n1_; have HK := n2_; have HB := n3_; clear n0_ n1_ n2_ n3_; clear hb ho8) | ((with_reducible refine gate_callee (f := 48) rfl ?_); refine goesL_ (some 6) rfl rfl Try.func48 (by kernel_rfl) rfl #[.pointer (some ⟨g, 0, none⟩), .int .i64 40] rfl (by (try simp only [List.map_toArray, List.map_cons, List.map_nil]); first | done | rfl | (simp only [List.length_drop, List.length_take]; rfl)) ?_; (with_reducible refine (spec_l1Cur_pick.calls g s0_0 s0_1 s0_2 40 t571 t572 t573 w0 _ ?side1 ?side2 A2.out).mono ?_); (case side1 => repeat (first | (with_reducible first | exact HI0.out | apply IsS75.alloc | apply IsS75.drewN | apply IsS75.drew | apply IsS75.set_1 | apply IsS75.set_2) | exact HI0.out)); (case side2 => repeat (first | (with_reducible first | exact HB.out | apply below_alloc | apply pw_below_drewN | apply below_drew1 | refine below_set ?_ (IsS75.ge HI0.out)) | exact HB.out)); rintro e w9 ⟨rfl, hi, hb, hk⟩; refine ⟨_, rfl, ?_⟩; have n0_ := Aside0.mk (Kd.R_mono (Kd.R_keep (IsS75.apart (show IsS75 w0 _ g s0_0 s0_1 s0_2 from by repeat (first | (with_reducible first | exact HI0.out | apply IsS75.alloc | apply IsS75.drewN | apply IsS75.drew | apply IsS75.set_1 | apply IsS75.set_2) | exact HI0.out)) (bR_ HO570.out) (by decide)) hk (fun _ h => h.2)) (fun _ h => h.1)); have n1_ := Aside0.mk (KeepBut.trans (by repeat (first | (with_reducible first | exact HK.out | apply KeepBut.set_ | apply keep_drewN | apply keep_drew | apply keep_alloc) | exact HK.out)) hk (.inl rfl)); have n2_ := Aside0.mk (hb); have n3_ := Aside0.mk (hi); clear HO570; clear HK; clear HB; clear HI0; have HO570 := n0_; have HK := n1_; have HB := n2_; have HI0 := n3_; clear n0_ n1_ n2_ n3_; (try clear hb); (try clear hb2); (try clear hk); (try clear hi); obtain ⟨Ao11, co11, eo11⟩ := Kd.R_slice HO570.out; subst eo11; have q10 : ((ji3) : Int) ≤ ((y568.length : Int) : Int) := of_decide_eq_true (by first | (with_reducible assumption) | assumption); obtain ⟨i010, hi010, _, hsz10, _⟩ := info_parts info3; have hroom10 : y568.length ≤ co11 := (Kd.R_reads' HO570.out).2.1; have hC10 : Kd.C (Kd.int .i64) _ Ao11 y568.length y568 := (Kd.R_reads' HO570.out).2.2; have hcut10 := cut_to (P := Try.prog) 40 3 .i64 Try.underlying40 hi010 Ao11 y568.length co11 (ji3) (of_decide_eq_true (by first | (with_reducible assumption) | assumption)) q10 hroom10; have hr10 := Kd.C_take (m := ((ji3) : Int).toNat) hC10 (by omega); have hy10 : y574.length = ((ji3) : Int).toNat := (by rw [Ny574.out, List.length_take]; omega); rw [← Ny574.out] at hr10; rw [← hy10] at hcut10; have HR577 := Aside0.mk hr10; have HC577 := Aside0.mk (show y574.length ≤ co11 from by omega); clear hr10 hC10 hroom10 hi010 hsz10; have KY10 := Aside0.mk hy10; clear hy10; have KL10 := Aside0.mk (show ((ji3) : Int).toNat ≤ y568.length from by omega); replace q10 := eq_true q10) | ((with_reducible refine gate_callee (f := 65) rfl ?_); refine goesL_ (some 10) rfl rfl Try.func65 (by kernel_rfl) rfl #[.pointer (some ⟨g, 0, none⟩), .slice Ao11 y574.length co11] rfl (by (try simp only [List.map_toArray, List.map_cons, List.map_nil]); first | done | rfl | (simp only [List.length_drop, List.length_take]; rfl)) ?_; (with_reducible refine (spec_l1Cur_among.calls g s0_0 t572 t573 _ _ y574 t578 t579 t580 w0 _ ?side1 ?side2 ?side3 ?side4 ?side5 A6.out).mono ?_); (case side1 => repeat (first | (with_reducible first | exact HI0.out | apply IsS75.alloc | apply IsS75.drewN | apply IsS75.drew | apply IsS75.set_1 | apply IsS75.set_2) | exact HI0.out)); (case side2 => repeat (first | (with_reducible first | exact HB.out | apply below_alloc | apply pw_below_drewN | apply below_drew1 | refine below_set ?_ (IsS75.ge HI0.out)) | exact HB.out)); (case side3 => repeat (first | exact (by repeat (first | (with_reducible exact HR577.out) | (with_reducible refine Kd.C_alloc ?_ _) | (with_reducible refine Kd.C_drewN ?_ _) | (with_reducible refine Kd.C_drew ?_) | exact HR577.out)) | (with_reducible refine Kd.C_alloc ?_ _) | (with_reducible refine Kd.C_drewN ?_ _) | (with_reducible refine Kd.C_drew ?_))); (case side4 => exact HC577.out); (case side5 => exact fun ad_ e_ _ hq_ => (IsS75.own_ne HI0.out HO570.out (by decide)) (by rw [e_, ← hq_]; rfl)); rintro e w12 ⟨rfl, hi, hb, hk⟩; refine ⟨_, rfl, ?_⟩; have n0_ := Aside0.mk (Kd.R_mono (Kd.R_keep (IsS75.apart (show IsS75 w0 _ g s0_0 t572 t573 from by repeat (first | (with_reducible first | exact HI0.out | apply IsS75.alloc | apply IsS75.drewN | apply IsS75.drew | apply IsS75.set_1 | apply IsS75.set_2) | exact HI0.out)) (bR_ HO570.out) (by decide)) hk (fun _ h => h.2)) (fun _ h => h.1)); have n1_ := Aside0.mk (KeepBut.trans (by repeat (first | (with_reducible first | exact HK.out | apply KeepBut.set_ | apply keep_drewN | apply keep_drew | apply keep_alloc) | exact HK.out)) hk (.inl rfl)); have n2_ := Aside0.mk (hb); have n3_ := Aside0.mk (hi); clear HO570; clear HK; clear HB; clear HI0; have HO570 := n0_; have HK := n1_; have HB := n2_; have HI0 := n3_; clear n0_ n1_ n2_ n3_; (try clear hb); (try clear hb2); (try clear hk); (try clear hi)))
   go_ret
   exact ⟨by first | rfl | (simp [errW_none, errW_some] <;> rfl) | (simp only [← hji3]; first | rfl | (simp [errW_none, errW_some] <;> rfl)) | (simp [*, errW_none, errW_some] <;> rfl), by repeat (first | (with_reducible first | exact HI0.out | apply IsS75.alloc | apply IsS75.drewN | apply IsS75.drew | apply IsS75.set_1 | apply IsS75.set_2) | exact HI0.out), by repeat (first | (with_reducible first | exact HB.out | apply below_alloc | apply pw_below_drewN | apply below_drew1 | refine below_set ?_ (IsS75.ge HI0.out)) | exact HB.out), by repeat (first | (with_reducible first | exact HK.out | apply KeepBut.set_ | apply keep_drewN | apply keep_drew | apply keep_alloc) | exact HK.out)⟩
  ·
   rw [if_neg c5] at H
   exact absurd H (by simp)
 ·
  rw [if_neg c4] at H
  exact absurd H (by simp)

/-! ### spec_DrawEstateDividend: function 34 -/
def spec_DrawEstateDividend.f (k : Nat) (l0 : List Int) : Option (Int × List Int) := (spec_l1Cur_cash.f l0 0 0).bind fun bt582 => ((spec_l1Cur_plus.f k l0 bt582.2.1 bt582.2.2 6).bind fun bt585 => (some (bt582.1, bt585.1)))
theorem spec_DrawEstateDividend.mono : ∀ a0 k, LeO (spec_DrawEstateDividend.f k a0) (spec_DrawEstateDividend.f (k + 1) a0) := by
 intro a0 k
 unfold spec_DrawEstateDividend.f
 repeat' first
  | (with_reducible exact spec_l1Cur_plus.mono _ _ _ _ _)
  | (with_reducible exact LeO.refl _)
  | (with_reducible exact LeO.none _)
  | (with_reducible refine LeO.ite ?_ ?_)
  | (with_reducible refine LeO.bind ?_ (fun _ => ?_))
  | exact spec_l1Cur_plus.mono _ _ _ _ _
  | exact LeO.none _
  | refine LeO.ite ?_ ?_
  | refine LeO.bind ?_ (fun _ => ?_)
set_option maxHeartbeats 8000000 in
set_option maxRecDepth 100000 in
theorem spec_DrawEstateDividend.calls (k : Nat) (A0 : Option Addr) (c0 : Nat) (l0 : List Int) (r1 : Int) (r2 : List Int) (w : World) (hr0 : Kd.C (Kd.int .u8) w A0 l0.length l0) (hc0 : l0.length ≤ c0) (h : spec_DrawEstateDividend.f k l0 = some (r1, r2)) :
 Calls Try.prog 34 #[.slice A0 l0.length c0] w fun e w' => ∃ v1_ : Value, e = .returned (.tuple #[.int .i64 r1, v1_]) ∧ Kd.R (Kd.int .i64) 3 w' w.heap.size (fun _ => True) v1_ r2 ∧ Below w.heap.size w w' := by
 have hu75 := Try.underlying75
 have HR0 := Aside0.mk hr0
 have HC0 := Aside0.mk hc0
 clear hr0 hc0
 have HB := Aside0.mk (Below.refl w.heap.size w)
 have H : ((spec_l1Cur_cash.f l0 0 0).bind fun bt582 => ((spec_l1Cur_plus.f k l0 bt582.2.1 bt582.2.2 6).bind fun bt585 => (some (bt582.1, bt585.1)))) = some (r1, r2) := h
 clear h
 replace H := Option.bind_eq_some_iff.mp H
 obtain ⟨⟨t582, t583, t584⟩, A20, H⟩ := H
 replace H : ((spec_l1Cur_plus.f k l0 t583 t584 6).bind fun bt585 => (some (t582, bt585.1))) = some (r1, r2) := H
 have A2 := Aside0.mk A20
 clear A20
 replace H := Option.bind_eq_some_iff.mp H
 obtain ⟨⟨t585, t588, t589⟩, A30, H⟩ := H
 replace H : (some (t582, t585)) = some (r1, r2) := H
 have A3 := Aside0.mk A30
 clear A30
 simp only [Option.some.injEq, Prod.mk.injEq] at H
 obtain ⟨rfl, rfl⟩ := H
 go_enter Try.func34, Try.ntmps34
 go_wp2_with (first | ((with_reducible refine gate_dst (N := 7) rfl ?_); refine box_event ?hg (N := 7) ?hd (cs := #[.slice A0 l0.length c0, .int .i64 0, .int .u64 0]) (t := 75) ?hr ?_; (case hd => rfl); (case hg => rfl); (case hr => first | (go_simp; done) | (go_simp; rfl)); intro gb581 hg w4 hbox hb; have n0_ := Aside0.mk (below_step (bB_ HB.out) hb); have n1_ := Aside0.mk ((⟨A0, c0, hbox, (by rw [hg]; exact (below_size (bB_ HB.out)) : w.heap.size ≤ gb581), HR0.out⟩ : IsS75 w w4 gb581 l0 0 0)); clear HB; have HB := n0_; have HI581 := n1_; clear n0_ n1_; clear hb hbox hg) | ((with_reducible refine gate_callee (f := 76) rfl ?_); refine goesL_ (some 9) rfl rfl Try.func76 (by kernel_rfl) rfl #[.pointer (some ⟨gb581, 0, none⟩)] rfl (by (try simp only [List.map_toArray, List.map_cons, List.map_nil]); first | done | rfl | (simp only [List.length_drop, List.length_take]; rfl)) ?_; (with_reducible refine (spec_l1Cur_cash.calls gb581 l0 0 0 t582 t583 t584 w _ ?side1 ?side2 A2.out).mono ?_); (case side1 => repeat (first | (with_reducible first | exact HI581.out | apply IsS75.alloc | apply IsS75.drewN | apply IsS75.drew | apply IsS75.set_1 | apply IsS75.set_2) | exact HI581.out)); (case side2 => repeat (first | (with_reducible first | exact HB.out | apply below_alloc | apply pw_below_drewN | apply below_drew1 | refine below_set ?_ (IsS75.ge HI581.out)) | exact HB.out)); rintro e w5 ⟨rfl, hi, hb, hk⟩; refine ⟨_, rfl, ?_⟩; have n0_ := Aside0.mk (hb); have n1_ := Aside0.mk (hi); clear HB; clear HI581; have HB := n0_; have HI581 := n1_; clear n0_ n1_; (try clear hb); (try clear hb2); (try clear hk); (try clear hi)) | ((with_reducible refine gate_callee (f := 69) rfl ?_); refine goesL_ (some 11) rfl rfl Try.func69 (by kernel_rfl) rfl #[.pointer (some ⟨gb581, 0, none⟩), .int .i64 6] rfl (by (try simp only [List.map_toArray, List.map_cons, List.map_nil]); first | done | rfl | (simp only [List.length_drop, List.length_take]; rfl)) ?_; (with_reducible refine (spec_l1Cur_plus.calls k gb581 l0 t583 t584 6 t585 t588 t589 w _ ?side1 ?side2 A3.out).mono ?_); (case side1 => repeat (first | (with_reducible first | exact HI581.out | apply IsS75.alloc | apply IsS75.drewN | apply IsS75.drew | apply IsS75.set_1 | apply IsS75.set_2) | exact HI581.out)); (case side2 => repeat (first | (with_reducible first | exact HB.out | apply below_alloc | apply pw_below_drewN | apply below_drew1 | refine below_set ?_ (IsS75.ge HI581.out)) | exact HB.out)); rintro e w6 ⟨v586, rfl, ho0, hi, hb, hk⟩; refine ⟨_, rfl, ?_⟩; have n0_ := Aside0.mk (Kd.R_lower ho0 (below_size (by repeat (first | (with_reducible first | exact HB.out | apply below_alloc | apply pw_below_drewN | apply below_drew1 | refine below_set ?_ (IsS75.ge HI581.out)) | exact HB.out)))); have n1_ := Aside0.mk (hb); have n2_ := Aside0.mk (hi); clear HB; clear HI581; have HO587 := n0_; have HB := n1_; have HI581 := n2_; clear n0_ n1_ n2_; (try clear hb); (try clear hb2); (try clear hk); (try clear hi); (try clear ho0)))
 go_ret2
 exact ⟨_, by first | rfl | (simp [errW_none, errW_some] <;> rfl) | (simp [*, errW_none, errW_some] <;> rfl), by (with_reducible repeat (first | apply Kd.R_alloc | apply Kd.R_drewN | apply Kd.R_drew)); exact HO587.out, by repeat (first | (with_reducible first | exact HB.out | apply below_alloc | apply pw_below_drewN | apply below_drew1 | refine below_set ?_ (IsS75.ge HI581.out)) | exact HB.out)⟩

end Go.Proofs.Ytlneimpoholkhaa.PFnCloseOut
