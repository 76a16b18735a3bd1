/- Each Go function that the law uses as a plain Lean function, and a proof that its code comes to what this function tells. No condition. -/
import Derived.Test.YtjpceeemmebghaaVPFnTerminationx0
import Derived.Test.YtjpceeemmebghaaVPFnTerminationx4
import Derived.Test.YtjpceeemmebghaaVPFnTerminationx8
namespace Go.Proofs.Ytjpceeemmebghaa.PFnTermination
open Go.RowKit Go.Proofs.YtjpceeemmebghaaW.PrintWords Go.Proofs.YtjpceeemmebghaaW.PrintLast Go.Proofs.YtjpceeemmebghaaW.PrintMore
attribute [local go_sem] max2_int min2_int max_two min_two max_three min_three max_four min_four   -- for this text's walks alone
set_option linter.unusedVariables false
set_option linter.unusedSimpArgs false

/-! ### spec_DrawTerminationDay: function 32 -/
def spec_DrawTerminationDay.f (k : Nat) (l0 : List Int) : Option (List Int × List Int × Int × Int × List Int) := (spec_DrawIsBusinessDay.f k l0).bind fun bt309 => ((some (([] : List Int) : List Int)).bind fun y317 => ((spec_l1Cur_one.f l0 0 0 3).bind fun bt320 => (if bt320.1 = true then ((spec_l1Cur_among.f l0 bt320.2.1 bt320.2.2 (([(-9), (-1), 0, 1, 5, 9, 30, 90] : List Int))).bind fun bt326 => (if y317.length < 17592186044416 then ((some (y317 ++ [wrap64 (bt309.2.2 + bt326.1)] : List Int)).bind fun y329 => ((spec_l1Cur_one.f l0 bt326.2.1 bt326.2.2 2).bind fun bt332 => (if bt332.1 = true then ((spec_l1Cur_pick.f l0 bt332.2.1 bt332.2.2 3).bind fun bt335 => (if y329.length < 17592186044416 then ((some (([0, 1, 3, 5, 20, 60, 61, (-1)] : List Int) : List Int)).bind fun y341 => ((spec_l1Cur_pick.f l0 bt335.2.1 bt335.2.2 40).bind fun bt344 => (if 0 ≤ (wrap64 (6 + (wrap64 (Int.tdiv bt344.1 20)))) then (if (wrap64 (6 + (wrap64 (Int.tdiv bt344.1 20)))) ≤ (y341.length : Int) then ((spec_l1Cur_among.f l0 bt344.2.1 bt344.2.2 (y341.take ((wrap64 (6 + (wrap64 (Int.tdiv bt344.1 20)))) : Int).toNat)).bind fun bt351 => (some (bt309.1, bt309.2.1, bt309.2.2, bt351.1, (y329 ++ [wrap64 ((wrap64 (bt309.2.2 + bt326.1)) + bt335.1)])))) else (none)) else (none)))) else (none))) else ((some (([0, 1, 3, 5, 20, 60, 61, (-1)] : List Int) : List Int)).bind fun y354 => ((spec_l1Cur_pick.f l0 bt332.2.1 bt332.2.2 40).bind fun bt357 => (if 0 ≤ (wrap64 (6 + (wrap64 (Int.tdiv bt357.1 20)))) then (if (wrap64 (6 + (wrap64 (Int.tdiv bt357.1 20)))) ≤ (y354.length : Int) then ((spec_l1Cur_among.f l0 bt357.2.1 bt357.2.2 (y354.take ((wrap64 (6 + (wrap64 (Int.tdiv bt357.1 20)))) : Int).toNat)).bind fun bt364 => (some (bt309.1, bt309.2.1, bt309.2.2, bt364.1, y329))) else (none)) else (none))))))) else (none))) else ((some (([0, 1, 3, 5, 20, 60, 61, (-1)] : List Int) : List Int)).bind fun y367 => ((spec_l1Cur_pick.f l0 bt320.2.1 bt320.2.2 40).bind fun bt370 => (if 0 ≤ (wrap64 (6 + (wrap64 (Int.tdiv bt370.1 20)))) then (if (wrap64 (6 + (wrap64 (Int.tdiv bt370.1 20)))) ≤ (y367.length : Int) then ((spec_l1Cur_among.f l0 bt370.2.1 bt370.2.2 (y367.take ((wrap64 (6 + (wrap64 (Int.tdiv bt370.1 20)))) : Int).toNat)).bind fun bt377 => (some (bt309.1, bt309.2.1, bt309.2.2, bt377.1, y317))) else (none)) else (none)))))))
theorem spec_DrawTerminationDay.mono : ∀ a0 k, LeO (spec_DrawTerminationDay.f k a0) (spec_DrawTerminationDay.f (k + 1) a0) := by
  intro a0 k
  unfold spec_DrawTerminationDay.f
  repeat' first
      | (with_reducible exact spec_DrawIsBusinessDay.mono _ _)
      | (with_reducible exact LeO.refl _)
      | (with_reducible exact LeO.none _)
      | (with_reducible refine LeO.ite ?_ ?_)
      | (with_reducible refine LeO.bind ?_ (fun _ => ?_))
      | exact spec_DrawIsBusinessDay.mono _ _
      | exact LeO.none _
      | refine LeO.ite ?_ ?_
      | refine LeO.bind ?_ (fun _ => ?_)
def spec_DrawTerminationDay.T9 : Bool × List (List Nat × List Nat) := (true, [([], []), ([], []), ([], []), ([], []), ([], []), ([4], [4]), ([5], [5]), ([6], [6]), ([3, 7], [3, 7]), ([2, 8, 5], [2, 8]), ([], []), ([0, 9, 0], [0]), ([1, 11, 0, 1, 11], [1]), ([9, 12, 0, 1, 2, 3, 4, 5, 6, 7, 8, 9, 11, 12], [9]), ([10, 13, 0, 1, 2, 3, 4, 5, 6, 7, 8, 9, 10, 11, 12, 13], [10])])
def spec_DrawTerminationDay.B9 : List Nat := [0, 0, 0, 0, 0, 16, 48, 112, 248, 508, 0, 1021, 3071, 7167, 16383]
theorem spec_DrawTerminationDay.tab9 : rtab .any (opsOf Try.f32 9) = spec_DrawTerminationDay.T9 := by kernel_rfl
theorem spec_DrawTerminationDay.bits9 : waitsOk spec_DrawTerminationDay.T9.2 spec_DrawTerminationDay.B9 = true := by kernel_rfl
set_option maxHeartbeats 8000000 in
set_option maxRecDepth 100000 in
theorem spec_DrawTerminationDay.calls (k : Nat) (A0 : Option Addr) (c0 : Nat) (l0 : List Int) (r1 : List Int) (r2 : List Int) (r3 : Int) (r4 : Int) (r5 : List Int) (w : World) (hr0 : Kd.C (Kd.int .u8) w A0 l0.length l0) (hc0 : l0.length ≤ c0) (h : spec_DrawTerminationDay.f k l0 = some (r1, r2, r3, r4, r5)) :
    Calls Try.prog 32 #[.slice A0 l0.length c0] w fun e w' => ∃ v0_ v1_ v4_ : Value, e = .returned (.tuple #[.agg #[v0_, v1_], .int .i64 r3, .int .i64 r4, v4_]) ∧ Kd.R (Kd.int .i64) 3 w' w.heap.size (fun k_ => some k_ ≠ (v1_ : Value).ownBlock ∧ some k_ ≠ (v4_ : Value).ownBlock) v0_ r1 ∧ Kd.R (Kd.int .i64) 3 w' w.heap.size (fun k_ => some k_ ≠ (v0_ : Value).ownBlock ∧ some k_ ≠ (v4_ : Value).ownBlock) v1_ r2 ∧ Kd.R (Kd.int .i64) 3 w' w.heap.size (fun k_ => some k_ ≠ (v0_ : Value).ownBlock ∧ some k_ ≠ (v1_ : Value).ownBlock) v4_ r5 ∧ Below w.heap.size w w' := by
  have hu47 := Try.underlying47
  have hu94 := Try.underlying94
  have HR0 := Aside0.mk hr0
  have HC0 := Aside0.mk hc0
  clear hr0 hc0
  have HB := Aside0.mk (Below.refl w.heap.size w)
  have H : ((spec_DrawIsBusinessDay.f k l0).bind fun bt309 => ((some (([] : List Int) : List Int)).bind fun y317 => ((spec_l1Cur_one.f l0 0 0 3).bind fun bt320 => (if bt320.1 = true then ((spec_l1Cur_among.f l0 bt320.2.1 bt320.2.2 (([(-9), (-1), 0, 1, 5, 9, 30, 90] : List Int))).bind fun bt326 => (if y317.length < 17592186044416 then ((some (y317 ++ [wrap64 (bt309.2.2 + bt326.1)] : List Int)).bind fun y329 => ((spec_l1Cur_one.f l0 bt326.2.1 bt326.2.2 2).bind fun bt332 => (if bt332.1 = true then ((spec_l1Cur_pick.f l0 bt332.2.1 bt332.2.2 3).bind fun bt335 => (if y329.length < 17592186044416 then ((some (([0, 1, 3, 5, 20, 60, 61, (-1)] : List Int) : List Int)).bind fun y341 => ((spec_l1Cur_pick.f l0 bt335.2.1 bt335.2.2 40).bind fun bt344 => (if 0 ≤ (wrap64 (6 + (wrap64 (Int.tdiv bt344.1 20)))) then (if (wrap64 (6 + (wrap64 (Int.tdiv bt344.1 20)))) ≤ (y341.length : Int) then ((spec_l1Cur_among.f l0 bt344.2.1 bt344.2.2 (y341.take ((wrap64 (6 + (wrap64 (Int.tdiv bt344.1 20)))) : Int).toNat)).bind fun bt351 => (some (bt309.1, bt309.2.1, bt309.2.2, bt351.1, (y329 ++ [wrap64 ((wrap64 (bt309.2.2 + bt326.1)) + bt335.1)])))) else (none)) else (none)))) else (none))) else ((some (([0, 1, 3, 5, 20, 60, 61, (-1)] : List Int) : List Int)).bind fun y354 => ((spec_l1Cur_pick.f l0 bt332.2.1 bt332.2.2 40).bind fun bt357 => (if 0 ≤ (wrap64 (6 + (wrap64 (Int.tdiv bt357.1 20)))) then (if (wrap64 (6 + (wrap64 (Int.tdiv bt357.1 20)))) ≤ (y354.length : Int) then ((spec_l1Cur_among.f l0 bt357.2.1 bt357.2.2 (y354.take ((wrap64 (6 + (wrap64 (Int.tdiv bt357.1 20)))) : Int).toNat)).bind fun bt364 => (some (bt309.1, bt309.2.1, bt309.2.2, bt364.1, y329))) else (none)) else (none))))))) else (none))) else ((some (([0, 1, 3, 5, 20, 60, 61, (-1)] : List Int) : List Int)).bind fun y367 => ((spec_l1Cur_pick.f l0 bt320.2.1 bt320.2.2 40).bind fun bt370 => (if 0 ≤ (wrap64 (6 + (wrap64 (Int.tdiv bt370.1 20)))) then (if (wrap64 (6 + (wrap64 (Int.tdiv bt370.1 20)))) ≤ (y367.length : Int) then ((spec_l1Cur_among.f l0 bt370.2.1 bt370.2.2 (y367.take ((wrap64 (6 + (wrap64 (Int.tdiv bt370.1 20)))) : Int).toNat)).bind fun bt377 => (some (bt309.1, bt309.2.1, bt309.2.2, bt377.1, y317))) else (none)) else (none)))))))) = some (r1, r2, r3, r4, r5) := h
  clear h
  replace H := Option.bind_eq_some_iff.mp H
  obtain ⟨⟨t309, t312, t315⟩, A20, H⟩ := H
  replace H : ((some (([] : List Int) : List Int)).bind fun y317 => ((spec_l1Cur_one.f l0 0 0 3).bind fun bt320 => (if bt320.1 = true then ((spec_l1Cur_among.f l0 bt320.2.1 bt320.2.2 (([(-9), (-1), 0, 1, 5, 9, 30, 90] : List Int))).bind fun bt326 => (if y317.length < 17592186044416 then ((some (y317 ++ [wrap64 (t315 + bt326.1)] : List Int)).bind fun y329 => ((spec_l1Cur_one.f l0 bt326.2.1 bt326.2.2 2).bind fun bt332 => (if bt332.1 = true then ((spec_l1Cur_pick.f l0 bt332.2.1 bt332.2.2 3).bind fun bt335 => (if y329.length < 17592186044416 then ((some (([0, 1, 3, 5, 20, 60, 61, (-1)] : List Int) : List Int)).bind fun y341 => ((spec_l1Cur_pick.f l0 bt335.2.1 bt335.2.2 40).bind fun bt344 => (if 0 ≤ (wrap64 (6 + (wrap64 (Int.tdiv bt344.1 20)))) then (if (wrap64 (6 + (wrap64 (Int.tdiv bt344.1 20)))) ≤ (y341.length : Int) then ((spec_l1Cur_among.f l0 bt344.2.1 bt344.2.2 (y341.take ((wrap64 (6 + (wrap64 (Int.tdiv bt344.1 20)))) : Int).toNat)).bind fun bt351 => (some (t309, t312, t315, bt351.1, (y329 ++ [wrap64 ((wrap64 (t315 + bt326.1)) + bt335.1)])))) else (none)) else (none)))) else (none))) else ((some (([0, 1, 3, 5, 20, 60, 61, (-1)] : List Int) : List Int)).bind fun y354 => ((spec_l1Cur_pick.f l0 bt332.2.1 bt332.2.2 40).bind fun bt357 => (if 0 ≤ (wrap64 (6 + (wrap64 (Int.tdiv bt357.1 20)))) then (if (wrap64 (6 + (wrap64 (Int.tdiv bt357.1 20)))) ≤ (y354.length : Int) then ((spec_l1Cur_among.f l0 bt357.2.1 bt357.2.2 (y354.take ((wrap64 (6 + (wrap64 (Int.tdiv bt357.1 20)))) : Int).toNat)).bind fun bt364 => (some (t309, t312, t315, bt364.1, y329))) else (none)) else (none))))))) else (none))) else ((some (([0, 1, 3, 5, 20, 60, 61, (-1)] : List Int) : List Int)).bind fun y367 => ((spec_l1Cur_pick.f l0 bt320.2.1 bt320.2.2 40).bind fun bt370 => (if 0 ≤ (wrap64 (6 + (wrap64 (Int.tdiv bt370.1 20)))) then (if (wrap64 (6 + (wrap64 (Int.tdiv bt370.1 20)))) ≤ (y367.length : Int) then ((spec_l1Cur_among.f l0 bt370.2.1 bt370.2.2 (y367.take ((wrap64 (6 + (wrap64 (Int.tdiv bt370.1 20)))) : Int).toNat)).bind fun bt377 => (some (t309, t312, t315, bt377.1, y317))) else (none)) else (none))))))) = some (r1, r2, r3, r4, r5) := H
  have A2 := Aside0.mk A20
  clear A20
  obtain ⟨y317, hy317⟩ : ∃ y_ : List Int, y_ = (([] : List Int)) := ⟨_, rfl⟩
  replace H : ((spec_l1Cur_one.f l0 0 0 3).bind fun bt320 => (if bt320.1 = true then ((spec_l1Cur_among.f l0 bt320.2.1 bt320.2.2 (([(-9), (-1), 0, 1, 5, 9, 30, 90] : List Int))).bind fun bt326 => (if y317.length < 17592186044416 then ((some (y317 ++ [wrap64 (t315 + bt326.1)] : List Int)).bind fun y329 => ((spec_l1Cur_one.f l0 bt326.2.1 bt326.2.2 2).bind fun bt332 => (if bt332.1 = true then ((spec_l1Cur_pick.f l0 bt332.2.1 bt332.2.2 3).bind fun bt335 => (if y329.length < 17592186044416 then ((some (([0, 1, 3, 5, 20, 60, 61, (-1)] : List Int) : List Int)).bind fun y341 => ((spec_l1Cur_pick.f l0 bt335.2.1 bt335.2.2 40).bind fun bt344 => (if 0 ≤ (wrap64 (6 + (wrap64 (Int.tdiv bt344.1 20)))) then (if (wrap64 (6 + (wrap64 (Int.tdiv bt344.1 20)))) ≤ (y341.length : Int) then ((spec_l1Cur_among.f l0 bt344.2.1 bt344.2.2 (y341.take ((wrap64 (6 + (wrap64 (Int.tdiv bt344.1 20)))) : Int).toNat)).bind fun bt351 => (some (t309, t312, t315, bt351.1, (y329 ++ [wrap64 ((wrap64 (t315 + bt326.1)) + bt335.1)])))) else (none)) else (none)))) else (none))) else ((some (([0, 1, 3, 5, 20, 60, 61, (-1)] : List Int) : List Int)).bind fun y354 => ((spec_l1Cur_pick.f l0 bt332.2.1 bt332.2.2 40).bind fun bt357 => (if 0 ≤ (wrap64 (6 + (wrap64 (Int.tdiv bt357.1 20)))) then (if (wrap64 (6 + (wrap64 (Int.tdiv bt357.1 20)))) ≤ (y354.length : Int) then ((spec_l1Cur_among.f l0 bt357.2.1 bt357.2.2 (y354.take ((wrap64 (6 + (wrap64 (Int.tdiv bt357.1 20)))) : Int).toNat)).bind fun bt364 => (some (t309, t312, t315, bt364.1, y329))) else (none)) else (none))))))) else (none))) else ((some (([0, 1, 3, 5, 20, 60, 61, (-1)] : List Int) : List Int)).bind fun y367 => ((spec_l1Cur_pick.f l0 bt320.2.1 bt320.2.2 40).bind fun bt370 => (if 0 ≤ (wrap64 (6 + (wrap64 (Int.tdiv bt370.1 20)))) then (if (wrap64 (6 + (wrap64 (Int.tdiv bt370.1 20)))) ≤ (y367.length : Int) then ((spec_l1Cur_among.f l0 bt370.2.1 bt370.2.2 (y367.take ((wrap64 (6 + (wrap64 (Int.tdiv bt370.1 20)))) : Int).toNat)).bind fun bt377 => (some (t309, t312, t315, bt377.1, y317))) else (none)) else (none)))))) = some (r1, r2, r3, r4, r5) := by first | (rw [hy317]; with_reducible exact H) | (have H2_ := (Option.bind_some _ _).symm.trans H; rw [hy317]; with_reducible exact H2_) | (have H2_ := (Option.bind_some _ _).symm.trans H; with_reducible exact H2_) | with_reducible exact H | (rw [hy317]; exact H) | exact H
  have Ny317 := Aside0.mk hy317
  clear hy317
  replace H := Option.bind_eq_some_iff.mp H
  obtain ⟨⟨t320, t321, t322⟩, A30, H⟩ := H
  replace H : (if t320 = true then ((spec_l1Cur_among.f l0 t321 t322 (([(-9), (-1), 0, 1, 5, 9, 30, 90] : List Int))).bind fun bt326 => (if y317.length < 17592186044416 then ((some (y317 ++ [wrap64 (t315 + bt326.1)] : List Int)).bind fun y329 => ((spec_l1Cur_one.f l0 bt326.2.1 bt326.2.2 2).bind fun bt332 => (if bt332.1 = true then ((spec_l1Cur_pick.f l0 bt332.2.1 bt332.2.2 3).bind fun bt335 => (if y329.length < 17592186044416 then ((some (([0, 1, 3, 5, 20, 60, 61, (-1)] : List Int) : List Int)).bind fun y341 => ((spec_l1Cur_pick.f l0 bt335.2.1 bt335.2.2 40).bind fun bt344 => (if 0 ≤ (wrap64 (6 + (wrap64 (Int.tdiv bt344.1 20)))) then (if (wrap64 (6 + (wrap64 (Int.tdiv bt344.1 20)))) ≤ (y341.length : Int) then ((spec_l1Cur_among.f l0 bt344.2.1 bt344.2.2 (y341.take ((wrap64 (6 + (wrap64 (Int.tdiv bt344.1 20)))) : Int).toNat)).bind fun bt351 => (some (t309, t312, t315, bt351.1, (y329 ++ [wrap64 ((wrap64 (t315 + bt326.1)) + bt335.1)])))) else (none)) else (none)))) else (none))) else ((some (([0, 1, 3, 5, 20, 60, 61, (-1)] : List Int) : List Int)).bind fun y354 => ((spec_l1Cur_pick.f l0 bt332.2.1 bt332.2.2 40).bind fun bt357 => (if 0 ≤ (wrap64 (6 + (wrap64 (Int.tdiv bt357.1 20)))) then (if (wrap64 (6 + (wrap64 (Int.tdiv bt357.1 20)))) ≤ (y354.length : Int) then ((spec_l1Cur_among.f l0 bt357.2.1 bt357.2.2 (y354.take ((wrap64 (6 + (wrap64 (Int.tdiv bt357.1 20)))) : Int).toNat)).bind fun bt364 => (some (t309, t312, t315, bt364.1, y329))) else (none)) else (none))))))) else (none))) else ((some (([0, 1, 3, 5, 20, 60, 61, (-1)] : List Int) : List Int)).bind fun y367 => ((spec_l1Cur_pick.f l0 t321 t322 40).bind fun bt370 => (if 0 ≤ (wrap64 (6 + (wrap64 (Int.tdiv bt370.1 20)))) then (if (wrap64 (6 + (wrap64 (Int.tdiv bt370.1 20)))) ≤ (y367.length : Int) then ((spec_l1Cur_among.f l0 bt370.2.1 bt370.2.2 (y367.take ((wrap64 (6 + (wrap64 (Int.tdiv bt370.1 20)))) : Int).toNat)).bind fun bt377 => (some (t309, t312, t315, bt377.1, y317))) else (none)) else (none))))) = some (r1, r2, r3, r4, r5) := H
  have A3 := Aside0.mk A30
  clear A30
  by_cases c4 : t320 = true
  · subst c4
    have H1 : ((spec_l1Cur_among.f l0 t321 t322 (([(-9), (-1), 0, 1, 5, 9, 30, 90] : List Int))).bind fun bt326 => (if y317.length < 17592186044416 then ((some (y317 ++ [wrap64 (t315 + bt326.1)] : List Int)).bind fun y329 => ((spec_l1Cur_one.f l0 bt326.2.1 bt326.2.2 2).bind fun bt332 => (if bt332.1 = true then ((spec_l1Cur_pick.f l0 bt332.2.1 bt332.2.2 3).bind fun bt335 => (if y329.length < 17592186044416 then ((some (([0, 1, 3, 5, 20, 60, 61, (-1)] : List Int) : List Int)).bind fun y341 => ((spec_l1Cur_pick.f l0 bt335.2.1 bt335.2.2 40).bind fun bt344 => (if 0 ≤ (wrap64 (6 + (wrap64 (Int.tdiv bt344.1 20)))) then (if (wrap64 (6 + (wrap64 (Int.tdiv bt344.1 20)))) ≤ (y341.length : Int) then ((spec_l1Cur_among.f l0 bt344.2.1 bt344.2.2 (y341.take ((wrap64 (6 + (wrap64 (Int.tdiv bt344.1 20)))) : Int).toNat)).bind fun bt351 => (some (t309, t312, t315, bt351.1, (y329 ++ [wrap64 ((wrap64 (t315 + bt326.1)) + bt335.1)])))) else (none)) else (none)))) else (none))) else ((some (([0, 1, 3, 5, 20, 60, 61, (-1)] : List Int) : List Int)).bind fun y354 => ((spec_l1Cur_pick.f l0 bt332.2.1 bt332.2.2 40).bind fun bt357 => (if 0 ≤ (wrap64 (6 + (wrap64 (Int.tdiv bt357.1 20)))) then (if (wrap64 (6 + (wrap64 (Int.tdiv bt357.1 20)))) ≤ (y354.length : Int) then ((spec_l1Cur_among.f l0 bt357.2.1 bt357.2.2 (y354.take ((wrap64 (6 + (wrap64 (Int.tdiv bt357.1 20)))) : Int).toNat)).bind fun bt364 => (some (t309, t312, t315, bt364.1, y329))) else (none)) else (none))))))) else (none))) = some (r1, r2, r3, r4, r5) := by rw [if_pos rfl] at H; exact H
    clear H
    have H := H1
    clear H1
    obtain ⟨y323, hy323⟩ : ∃ y_ : List Int, y_ = (([(-9), (-1), 0, 1, 5, 9, 30, 90] : List Int)) := ⟨_, rfl⟩
    replace H : ((spec_l1Cur_among.f l0 t321 t322 y323).bind fun bt326 => (if y317.length < 17592186044416 then ((some (y317 ++ [wrap64 (t315 + bt326.1)] : List Int)).bind fun y329 => ((spec_l1Cur_one.f l0 bt326.2.1 bt326.2.2 2).bind fun bt332 => (if bt332.1 = true then ((spec_l1Cur_pick.f l0 bt332.2.1 bt332.2.2 3).bind fun bt335 => (if y329.length < 17592186044416 then ((some (([0, 1, 3, 5, 20, 60, 61, (-1)] : List Int) : List Int)).bind fun y341 => ((spec_l1Cur_pick.f l0 bt335.2.1 bt335.2.2 40).bind fun bt344 => (if 0 ≤ (wrap64 (6 + (wrap64 (Int.tdiv bt344.1 20)))) then (if (wrap64 (6 + (wrap64 (Int.tdiv bt344.1 20)))) ≤ (y341.length : Int) then ((spec_l1Cur_among.f l0 bt344.2.1 bt344.2.2 (y341.take ((wrap64 (6 + (wrap64 (Int.tdiv bt344.1 20)))) : Int).toNat)).bind fun bt351 => (some (t309, t312, t315, bt351.1, (y329 ++ [wrap64 ((wrap64 (t315 + bt326.1)) + bt335.1)])))) else (none)) else (none)))) else (none))) else ((some (([0, 1, 3, 5, 20, 60, 61, (-1)] : List Int) : List Int)).bind fun y354 => ((spec_l1Cur_pick.f l0 bt332.2.1 bt332.2.2 40).bind fun bt357 => (if 0 ≤ (wrap64 (6 + (wrap64 (Int.tdiv bt357.1 20)))) then (if (wrap64 (6 + (wrap64 (Int.tdiv bt357.1 20)))) ≤ (y354.length : Int) then ((spec_l1Cur_among.f l0 bt357.2.1 bt357.2.2 (y354.take ((wrap64 (6 + (wrap64 (Int.tdiv bt357.1 20)))) : Int).toNat)).bind fun bt364 => (some (t309, t312, t315, bt364.1, y329))) else (none)) else (none))))))) else (none))) = some (r1, r2, r3, r4, r5) := by first | (rw [hy323]; with_reducible exact H) | (have H2_ := (Option.bind_some _ _).symm.trans H; rw [hy323]; with_reducible exact H2_) | (have H2_ := (Option.bind_some _ _).symm.trans H; with_reducible exact H2_) | with_reducible exact H | (rw [hy323]; exact H) | exact H
    have Ny323 := Aside0.mk hy323
    clear hy323
    replace H := Option.bind_eq_some_iff.mp H
    obtain ⟨⟨t326, t327, t328⟩, A50, H⟩ := H
    replace H : (if y317.length < 17592186044416 then ((some (y317 ++ [wrap64 (t315 + t326)] : List Int)).bind fun y329 => ((spec_l1Cur_one.f l0 t327 t328 2).bind fun bt332 => (if bt332.1 = true then ((spec_l1Cur_pick.f l0 bt332.2.1 bt332.2.2 3).bind fun bt335 => (if y329.length < 17592186044416 then ((some (([0, 1, 3, 5, 20, 60, 61, (-1)] : List Int) : List Int)).bind fun y341 => ((spec_l1Cur_pick.f l0 bt335.2.1 bt335.2.2 40).bind fun bt344 => (if 0 ≤ (wrap64 (6 + (wrap64 (Int.tdiv bt344.1 20)))) then (if (wrap64 (6 + (wrap64 (Int.tdiv bt344.1 20)))) ≤ (y341.length : Int) then ((spec_l1Cur_among.f l0 bt344.2.1 bt344.2.2 (y341.take ((wrap64 (6 + (wrap64 (Int.tdiv bt344.1 20)))) : Int).toNat)).bind fun bt351 => (some (t309, t312, t315, bt351.1, (y329 ++ [wrap64 ((wrap64 (t315 + t326)) + bt335.1)])))) else (none)) else (none)))) else (none))) else ((some (([0, 1, 3, 5, 20, 60, 61, (-1)] : List Int) : List Int)).bind fun y354 => ((spec_l1Cur_pick.f l0 bt332.2.1 bt332.2.2 40).bind fun bt357 => (if 0 ≤ (wrap64 (6 + (wrap64 (Int.tdiv bt357.1 20)))) then (if (wrap64 (6 + (wrap64 (Int.tdiv bt357.1 20)))) ≤ (y354.length : Int) then ((spec_l1Cur_among.f l0 bt357.2.1 bt357.2.2 (y354.take ((wrap64 (6 + (wrap64 (Int.tdiv bt357.1 20)))) : Int).toNat)).bind fun bt364 => (some (t309, t312, t315, bt364.1, y329))) else (none)) else (none))))))) else (none)) = some (r1, r2, r3, r4, r5) := H
    have A5 := Aside0.mk A50
    clear A50
    by_cases c6 : y317.length < 17592186044416
    · rw [if_pos c6] at H
      have LMc6 := Aside0.mk c6
      clear c6
      obtain ⟨y329, hy329⟩ : ∃ y_ : List Int, y_ = (y317 ++ [wrap64 (t315 + t326)]) := ⟨_, rfl⟩
      replace H : ((spec_l1Cur_one.f l0 t327 t328 2).bind fun bt332 => (if bt332.1 = true then ((spec_l1Cur_pick.f l0 bt332.2.1 bt332.2.2 3).bind fun bt335 => (if y329.length < 17592186044416 then ((some (([0, 1, 3, 5, 20, 60, 61, (-1)] : List Int) : List Int)).bind fun y341 => ((spec_l1Cur_pick.f l0 bt335.2.1 bt335.2.2 40).bind fun bt344 => (if 0 ≤ (wrap64 (6 + (wrap64 (Int.tdiv bt344.1 20)))) then (if (wrap64 (6 + (wrap64 (Int.tdiv bt344.1 20)))) ≤ (y341.length : Int) then ((spec_l1Cur_among.f l0 bt344.2.1 bt344.2.2 (y341.take ((wrap64 (6 + (wrap64 (Int.tdiv bt344.1 20)))) : Int).toNat)).bind fun bt351 => (some (t309, t312, t315, bt351.1, (y329 ++ [wrap64 ((wrap64 (t315 + t326)) + bt335.1)])))) else (none)) else (none)))) else (none))) else ((some (([0, 1, 3, 5, 20, 60, 61, (-1)] : List Int) : List Int)).bind fun y354 => ((spec_l1Cur_pick.f l0 bt332.2.1 bt332.2.2 40).bind fun bt357 => (if 0 ≤ (wrap64 (6 + (wrap64 (Int.tdiv bt357.1 20)))) then (if (wrap64 (6 + (wrap64 (Int.tdiv bt357.1 20)))) ≤ (y354.length : Int) then ((spec_l1Cur_among.f l0 bt357.2.1 bt357.2.2 (y354.take ((wrap64 (6 + (wrap64 (Int.tdiv bt357.1 20)))) : Int).toNat)).bind fun bt364 => (some (t309, t312, t315, bt364.1, y329))) else (none)) else (none)))))) = some (r1, r2, r3, r4, r5) := by first | (rw [hy329]; with_reducible exact H) | (have H2_ := (Option.bind_some _ _).symm.trans H; rw [hy329]; with_reducible exact H2_) | (have H2_ := (Option.bind_some _ _).symm.trans H; with_reducible exact H2_) | with_reducible exact H | (rw [hy329]; exact H) | exact H
      have Ny329 := Aside0.mk hy329
      clear hy329
      replace H := Option.bind_eq_some_iff.mp H
      obtain ⟨⟨t332, t333, t334⟩, A70, H⟩ := H
      replace H : (if t332 = true then ((spec_l1Cur_pick.f l0 t333 t334 3).bind fun bt335 => (if y329.length < 17592186044416 then ((some (([0, 1, 3, 5, 20, 60, 61, (-1)] : List Int) : List Int)).bind fun y341 => ((spec_l1Cur_pick.f l0 bt335.2.1 bt335.2.2 40).bind fun bt344 => (if 0 ≤ (wrap64 (6 + (wrap64 (Int.tdiv bt344.1 20)))) then (if (wrap64 (6 + (wrap64 (Int.tdiv bt344.1 20)))) ≤ (y341.length : Int) then ((spec_l1Cur_among.f l0 bt344.2.1 bt344.2.2 (y341.take ((wrap64 (6 + (wrap64 (Int.tdiv bt344.1 20)))) : Int).toNat)).bind fun bt351 => (some (t309, t312, t315, bt351.1, (y329 ++ [wrap64 ((wrap64 (t315 + t326)) + bt335.1)])))) else (none)) else (none)))) else (none))) else ((some (([0, 1, 3, 5, 20, 60, 61, (-1)] : List Int) : List Int)).bind fun y354 => ((spec_l1Cur_pick.f l0 t333 t334 40).bind fun bt357 => (if 0 ≤ (wrap64 (6 + (wrap64 (Int.tdiv bt357.1 20)))) then (if (wrap64 (6 + (wrap64 (Int.tdiv bt357.1 20)))) ≤ (y354.length : Int) then ((spec_l1Cur_among.f l0 bt357.2.1 bt357.2.2 (y354.take ((wrap64 (6 + (wrap64 (Int.tdiv bt357.1 20)))) : Int).toNat)).bind fun bt364 => (some (t309, t312, t315, bt364.1, y329))) else (none)) else (none))))) = some (r1, r2, r3, r4, r5) := H
      have A7 := Aside0.mk A70
      clear A70
      by_cases c8 : t332 = true
      · subst c8
        have H1 : ((spec_l1Cur_pick.f l0 t333 t334 3).bind fun bt335 => (if y329.length < 17592186044416 then ((some (([0, 1, 3, 5, 20, 60, 61, (-1)] : List Int) : List Int)).bind fun y341 => ((spec_l1Cur_pick.f l0 bt335.2.1 bt335.2.2 40).bind fun bt344 => (if 0 ≤ (wrap64 (6 + (wrap64 (Int.tdiv bt344.1 20)))) then (if (wrap64 (6 + (wrap64 (Int.tdiv bt344.1 20)))) ≤ (y341.length : Int) then ((spec_l1Cur_among.f l0 bt344.2.1 bt344.2.2 (y341.take ((wrap64 (6 + (wrap64 (Int.tdiv bt344.1 20)))) : Int).toNat)).bind fun bt351 => (some (t309, t312, t315, bt351.1, (y329 ++ [wrap64 ((wrap64 (t315 + t326)) + bt335.1)])))) else (none)) else (none)))) else (none))) = some (r1, r2, r3, r4, r5) := by rw [if_pos rfl] at H; exact H
        clear H
        have H := H1
        clear H1
        replace H := Option.bind_eq_some_iff.mp H
        obtain ⟨⟨t335, t336, t337⟩, A90, H⟩ := H
        replace H : (if y329.length < 17592186044416 then ((some (([0, 1, 3, 5, 20, 60, 61, (-1)] : List Int) : List Int)).bind fun y341 => ((spec_l1Cur_pick.f l0 t336 t337 40).bind fun bt344 => (if 0 ≤ (wrap64 (6 + (wrap64 (Int.tdiv bt344.1 20)))) then (if (wrap64 (6 + (wrap64 (Int.tdiv bt344.1 20)))) ≤ (y341.length : Int) then ((spec_l1Cur_among.f l0 bt344.2.1 bt344.2.2 (y341.take ((wrap64 (6 + (wrap64 (Int.tdiv bt344.1 20)))) : Int).toNat)).bind fun bt351 => (some (t309, t312, t315, bt351.1, (y329 ++ [wrap64 ((wrap64 (t315 + t326)) + t335)])))) else (none)) else (none)))) else (none)) = some (r1, r2, r3, r4, r5) := H
        have A9 := Aside0.mk A90
        clear A90
        by_cases c10 : y329.length < 17592186044416
        · rw [if_pos c10] at H
          have LMc10 := Aside0.mk c10
          clear c10
          obtain ⟨y338, hy338⟩ : ∃ y_ : List Int, y_ = (y329 ++ [wrap64 ((wrap64 (t315 + t326)) + t335)]) := ⟨_, rfl⟩
          replace H : ((some (([0, 1, 3, 5, 20, 60, 61, (-1)] : List Int) : List Int)).bind fun y341 => ((spec_l1Cur_pick.f l0 t336 t337 40).bind fun bt344 => (if 0 ≤ (wrap64 (6 + (wrap64 (Int.tdiv bt344.1 20)))) then (if (wrap64 (6 + (wrap64 (Int.tdiv bt344.1 20)))) ≤ (y341.length : Int) then ((spec_l1Cur_among.f l0 bt344.2.1 bt344.2.2 (y341.take ((wrap64 (6 + (wrap64 (Int.tdiv bt344.1 20)))) : Int).toNat)).bind fun bt351 => (some (t309, t312, t315, bt351.1, y338))) else (none)) else (none)))) = some (r1, r2, r3, r4, r5) := by first | (rw [hy338]; with_reducible exact H) | (have H2_ := (Option.bind_some _ _).symm.trans H; rw [hy338]; with_reducible exact H2_) | (have H2_ := (Option.bind_some _ _).symm.trans H; with_reducible exact H2_) | with_reducible exact H | (rw [hy338]; exact H) | exact H
          have Ny338 := Aside0.mk hy338
          clear hy338
          obtain ⟨y341, hy341⟩ : ∃ y_ : List Int, y_ = (([0, 1, 3, 5, 20, 60, 61, (-1)] : List Int)) := ⟨_, rfl⟩
          replace H : ((spec_l1Cur_pick.f l0 t336 t337 40).bind fun bt344 => (if 0 ≤ (wrap64 (6 + (wrap64 (Int.tdiv bt344.1 20)))) then (if (wrap64 (6 + (wrap64 (Int.tdiv bt344.1 20)))) ≤ (y341.length : Int) then ((spec_l1Cur_among.f l0 bt344.2.1 bt344.2.2 (y341.take ((wrap64 (6 + (wrap64 (Int.tdiv bt344.1 20)))) : Int).toNat)).bind fun bt351 => (some (t309, t312, t315, bt351.1, y338))) else (none)) else (none))) = some (r1, r2, r3, r4, r5) := by first | (rw [hy341]; with_reducible exact H) | (have H2_ := (Option.bind_some _ _).symm.trans H; rw [hy341]; with_reducible exact H2_) | (have H2_ := (Option.bind_some _ _).symm.trans H; with_reducible exact H2_) | with_reducible exact H | (rw [hy341]; exact H) | exact H
          have Ny341 := Aside0.mk hy341
          clear hy341
          replace H := Option.bind_eq_some_iff.mp H
          obtain ⟨⟨t344, t345, t346⟩, A110, H⟩ := H
          replace H : (if 0 ≤ (wrap64 (6 + (wrap64 (Int.tdiv t344 20)))) then (if (wrap64 (6 + (wrap64 (Int.tdiv t344 20)))) ≤ (y341.length : Int) then ((spec_l1Cur_among.f l0 t345 t346 (y341.take ((wrap64 (6 + (wrap64 (Int.tdiv t344 20)))) : Int).toNat)).bind fun bt351 => (some (t309, t312, t315, bt351.1, y338))) else (none)) else (none)) = some (r1, r2, r3, r4, r5) := H
          have A11 := Aside0.mk A110
          clear A110
          obtain ⟨ji12, hji12⟩ : ∃ j_ : Int, (wrap64 (6 + (wrap64 (Int.tdiv t344 20)))) = j_ := ⟨_, rfl⟩
          replace H : (if 0 ≤ (ji12) then (if (ji12) ≤ (y341.length : Int) then ((spec_l1Cur_among.f l0 t345 t346 (y341.take ((ji12) : Int).toNat)).bind fun bt351 => (some (t309, t312, t315, bt351.1, y338))) else (none)) else (none)) = some (r1, r2, r3, r4, r5) := by first | (rw [hji12] at H; exact H) | (simp only [hji12] at H ⊢; exact H)
          (try rw [hji12] at A2)
          (try rw [hji12] at A3)
          (try rw [hji12] at A5)
          (try rw [hji12] at A7)
          (try rw [hji12] at A9)
          (try rw [hji12] at A11)
          have hji12w : (IntKind.i64.wrap (6 + (wrap64 (Int.tdiv t344 20)))) = ji12 := (i64_w _).trans hji12
          by_cases c13 : 0 ≤ (ji12)
          · rw [if_pos c13] at H
            have c13b0 := eq_true c13
            have c13b1 : decide (0 ≤ (ji12)) = true := decide_eq_true c13
            clear c13
            by_cases c14 : (ji12) ≤ (y341.length : Int)
            · rw [if_pos c14] at H
              have c14b0 := eq_true c14
              have c14b1 : decide ((ji12) ≤ (y341.length : Int)) = true := decide_eq_true c14
              clear c14
              obtain ⟨y347, hy347⟩ : ∃ y_ : List Int, y_ = (y341.take ((ji12) : Int).toNat) := ⟨_, rfl⟩
              replace H : ((spec_l1Cur_among.f l0 t345 t346 y347).bind fun bt351 => (some (t309, t312, t315, bt351.1, y338))) = some (r1, r2, r3, r4, r5) := by first | (rw [hy347]; with_reducible exact H) | (have H2_ := (Option.bind_some _ _).symm.trans H; rw [hy347]; with_reducible exact H2_) | (have H2_ := (Option.bind_some _ _).symm.trans H; with_reducible exact H2_) | with_reducible exact H | (rw [hy347]; exact H) | exact H
              have Ny347 := Aside0.mk hy347
              clear hy347
              replace H := Option.bind_eq_some_iff.mp H
              obtain ⟨⟨t351, t352, t353⟩, A150, H⟩ := H
              replace H : (some (t309, t312, t315, t351, y338)) = some (r1, r2, r3, r4, r5) := H
              have A15 := Aside0.mk A150
              clear A150
              simp only [Option.some.injEq, Prod.mk.injEq] at H
              obtain ⟨rfl, rfl, rfl, rfl, rfl⟩ := H
              go_enter Try.func32, Try.ntmps32
              try go_wp2_with (first | ((with_reducible refine gate_dst (N := 2) rfl ?_); refine box_event ?hg (N := 2) ?hd (cs := #[.slice none 0 0, .slice none 0 0]) (t := 47) ?hr ?_; (case hd => rfl); (case hg => rfl); (case hr => first | (go_simp; done) | (go_simp; rfl)); intro gb307 hg w16 hbox hb; have n0_ := Aside0.mk (below_step (by repeat (first | (with_reducible first | exact HB.out | apply below_alloc | apply pw_below_drewN | apply below_drew1) | exact HB.out)) hb); have n1_ := Aside0.mk (hbox); have n2_ := Aside0.mk ((by rw [hg]; exact (below_size (by repeat (first | (with_reducible first | exact HB.out | apply below_alloc | apply pw_below_drewN | apply below_drew1) | exact HB.out))) : w.heap.size ≤ gb307)); have n3_ := Aside0.mk ((by rw [hg]; exact (below_size (by repeat (first | (with_reducible first | exact HB.out | apply below_alloc | apply pw_below_drewN | apply below_drew1) | exact HB.out))) : w.heap.size ≤ gb307)); clear HB; have HB := n0_; have BK307 := n1_; have GW307 := n2_; have GE307 := n3_; clear n0_ n1_ n2_ n3_; clear hb hbox hg) | ((with_reducible refine gate_dst (N := 13) rfl ?_); refine box_event ?hg (N := 13) ?hd (cs := #[.slice A0 l0.length c0, .int .i64 0, .int .u64 0]) (t := 94) ?hr ?_; (case hd => rfl); (case hg => rfl); (case hr => first | (go_simp; done) | (go_simp; rfl)); intro gb308 hg w17 hbox hb; have n0_ := Aside0.mk (blk_below (g := gb307) (o := .cells #[.slice none 0 0, .slice none 0 0] 47 (0, 0)) (by (with_reducible repeat (first | refine blk_drewN ?_ _ | refine blk_drew ?_ | refine blk_alloc ?_ _)); exact BK307.out) hb); have n1_ := Aside0.mk (below_step (by repeat (first | (with_reducible first | exact HB.out | apply below_alloc | apply pw_below_drewN | apply below_drew1 | refine below_set ?_ GE307.out) | exact HB.out)) hb); have n2_ := Aside0.mk ((by rw [hg]; exact Nat.ne_of_lt (blk_lt (g := gb307) (o := .cells #[.slice none 0 0, .slice none 0 0] 47 (0, 0)) (by (with_reducible repeat (first | refine blk_drewN ?_ _ | refine blk_drew ?_ | refine blk_alloc ?_ _)); exact BK307.out)) : gb307 ≠ gb308)); have n3_ := Aside0.mk ((by rw [hg]; exact Nat.ne_of_gt (blk_lt (g := gb307) (o := .cells #[.slice none 0 0, .slice none 0 0] 47 (0, 0)) (by (with_reducible repeat (first | refine blk_drewN ?_ _ | refine blk_drew ?_ | refine blk_alloc ?_ _)); exact BK307.out)) : gb308 ≠ gb307)); have n4_ := Aside0.mk ((⟨A0, c0, hbox, (by rw [hg]; exact (below_size (by repeat (first | (with_reducible first | exact HB.out | apply below_alloc | apply pw_below_drewN | apply below_drew1 | refine below_set ?_ GE307.out) | exact HB.out))) : w.heap.size ≤ gb308), HR0.out⟩ : IsS94 w w17 gb308 l0 0 0)); clear BK307; clear HB; have BK307 := n0_; have HB := n1_; have NB307_308 := n2_; have NB308_307 := n3_; have HI308 := n4_; clear n0_ n1_ n2_ n3_ n4_; clear hb hbox hg) | ((with_reducible refine gate_callee (f := 69) rfl ?_); refine goesL_ (some 16) rfl rfl Try.func69 (by kernel_rfl) rfl #[.slice A0 l0.length c0] rfl (by (try simp only [List.map_toArray, List.map_cons, List.map_nil]); first | done | rfl | (simp only [List.length_drop, List.length_take]; rfl)) ?_; (with_reducible refine (spec_DrawIsBusinessDay.calls k _ _ l0 t309 t312 t315 _ ?side1 ?side2 A2.out).mono ?_); (case side1 => repeat (first | exact (Kd.C_below HR0.out HB.out) | (with_reducible refine Kd.C_alloc ?_ _) | (with_reducible refine Kd.C_drewN ?_ _) | (with_reducible refine Kd.C_drew ?_))); (case side2 => exact HC0.out); rintro e w18 ⟨v310, v313, rfl, ho0, ho1, hb⟩; refine ⟨_, rfl, ?_⟩; have n0_ := Aside0.mk (Kd.R_lower ho0 (below_size (by repeat (first | (with_reducible first | exact HB.out | apply below_alloc | apply pw_below_drewN | apply below_drew1 | refine below_set ?_ (IsS94.ge HI308.out) | refine below_set ?_ GE307.out) | exact HB.out)))); have n1_ := Aside0.mk (Kd.R_lower ho1 (below_size (by repeat (first | (with_reducible first | exact HB.out | apply below_alloc | apply pw_below_drewN | apply below_drew1 | refine below_set ?_ (IsS94.ge HI308.out) | refine below_set ?_ GE307.out) | exact HB.out)))); have n2_ := Aside0.mk (blk_below (g := gb307) (o := .cells #[.slice none 0 0, .slice none 0 0] 47 (0, 0)) (by (with_reducible repeat (first | refine blk_drewN ?_ _ | refine blk_drew ?_ | refine blk_alloc ?_ _)); exact BK307.out) hb); have n3_ := Aside0.mk (IsS94.below (by repeat (first | (with_reducible first | exact HI308.out | apply IsS94.alloc | apply IsS94.drewN | apply IsS94.drew | apply IsS94.set_1 | apply IsS94.set_2 | refine IsS94.far ?_ NB308_307.out _) | exact HI308.out)) hb); have n4_ := Aside0.mk (below_step (by repeat (first | (with_reducible first | exact HB.out | apply below_alloc | apply pw_below_drewN | apply below_drew1 | refine below_set ?_ (IsS94.ge HI308.out) | refine below_set ?_ GE307.out) | exact HB.out)) hb); clear BK307; clear HI308; clear HB; have HO311 := n0_; have HO314 := n1_; have BK307 := n2_; have HI308 := n3_; have HB := n4_; clear n0_ n1_ n2_ n3_ n4_; (try clear hb); (try clear hb2); (try clear hk); (try clear hi); (try clear ho0); (try clear ho1)) | ((with_reducible refine gate_dst (N := 7) rfl ?_); refine box_event ?hg (N := 7) ?hd (cs := #[.slice none 0 0, .slice none 0 0]) (t := 47) ?hr ?_; (case hd => rfl); (case hg => rfl); (case hr => first | (go_simp; done) | (go_simp; rfl)); intro gb316 hg w19 hbox hb; have n0_ := Aside0.mk (Kd.R_below (by (with_reducible repeat (first | apply Kd.R_alloc | apply Kd.R_drewN | apply Kd.R_drew)); exact HO311.out) hb); have n1_ := Aside0.mk (Kd.R_below (by (with_reducible repeat (first | apply Kd.R_alloc | apply Kd.R_drewN | apply Kd.R_drew)); exact HO314.out) hb); have n2_ := Aside0.mk (blk_below (g := gb307) (o := .cells #[.slice none 0 0, .slice none 0 0] 47 (0, 0)) (by (with_reducible repeat (first | refine blk_drewN ?_ _ | refine blk_drew ?_ | refine blk_alloc ?_ _)); exact BK307.out) hb); have n3_ := Aside0.mk (IsS94.below (by repeat (first | (with_reducible first | exact HI308.out | apply IsS94.alloc | apply IsS94.drewN | apply IsS94.drew | apply IsS94.set_1 | apply IsS94.set_2 | refine IsS94.far ?_ NB308_307.out _) | exact HI308.out)) hb); have n4_ := Aside0.mk (below_step (by repeat (first | (with_reducible first | exact HB.out | apply below_alloc | apply pw_below_drewN | apply below_drew1 | refine below_set ?_ (IsS94.ge HI308.out) | refine below_set ?_ GE307.out) | exact HB.out)) hb); have n5_ := Aside0.mk (hbox); have n6_ := Aside0.mk ((by rw [hg]; exact (below_size (by repeat (first | (with_reducible first | exact HB.out | apply below_alloc | apply pw_below_drewN | apply below_drew1 | refine below_set ?_ (IsS94.ge HI308.out) | refine below_set ?_ GE307.out) | exact HB.out))) : w.heap.size ≤ gb316)); have n7_ := Aside0.mk ((by rw [hg]; exact (below_size (by repeat (first | (with_reducible first | exact HB.out | apply below_alloc | apply pw_below_drewN | apply below_drew1 | refine below_set ?_ (IsS94.ge HI308.out) | refine below_set ?_ GE307.out) | exact HB.out))) : w.heap.size ≤ gb316)); have n8_ := Aside0.mk ((by rw [hg]; exact Nat.ne_of_lt (blk_lt (g := gb307) (o := .cells #[.slice none 0 0, .slice none 0 0] 47 (0, 0)) (by (with_reducible repeat (first | refine blk_drewN ?_ _ | refine blk_drew ?_ | refine blk_alloc ?_ _)); exact BK307.out)) : gb307 ≠ gb316)); have n9_ := Aside0.mk ((by rw [hg]; exact Nat.ne_of_gt (blk_lt (g := gb307) (o := .cells #[.slice none 0 0, .slice none 0 0] 47 (0, 0)) (by (with_reducible repeat (first | refine blk_drewN ?_ _ | refine blk_drew ?_ | refine blk_alloc ?_ _)); exact BK307.out)) : gb316 ≠ gb307)); have n10_ := Aside0.mk ((by rw [hg]; exact Nat.ne_of_lt (IsS94.lt (show IsS94 w _ gb308 l0 0 0 from by repeat (first | (with_reducible first | exact HI308.out | apply IsS94.alloc | apply IsS94.drewN | apply IsS94.drew | apply IsS94.set_1 | apply IsS94.set_2 | refine IsS94.far ?_ NB308_307.out _) | exact HI308.out))) : gb308 ≠ gb316)); have n11_ := Aside0.mk ((by rw [hg]; exact Nat.ne_of_gt (IsS94.lt (show IsS94 w _ gb308 l0 0 0 from by repeat (first | (with_reducible first | exact HI308.out | apply IsS94.alloc | apply IsS94.drewN | apply IsS94.drew | apply IsS94.set_1 | apply IsS94.set_2 | refine IsS94.far ?_ NB308_307.out _) | exact HI308.out))) : gb316 ≠ gb308)); clear HO311; clear HO314; clear BK307; clear HI308; clear HB; have HO311 := n0_; have HO314 := n1_; have BK307 := n2_; have HI308 := n3_; have HB := n4_; have BK316 := n5_; have GW316 := n6_; have GE316 := n7_; have NB307_316 := n8_; have NB316_307 := n9_; have NB308_316 := n10_; have NB316_308 := n11_; clear n0_ n1_ n2_ n3_ n4_ n5_ n6_ n7_ n8_ n9_ n10_ n11_; clear hb hbox hg; obtain ⟨Ao20, co20, eo20⟩ := Kd.R_slice HO311.out; subst eo20; have hnb21 := NB316_307.out; have hnc21 := NB307_316.out; have hnb22 := NB316_308.out; have hnc22 := NB308_316.out; have hcz23_0 : w19.cell? ⟨gb316, 0, none⟩ = some (.slice none 0 0) := (blk_cell BK316.out 0).trans rfl; have hcz23_1 : w19.cell? ⟨gb316, 1, none⟩ = some (.slice none 0 0) := (blk_cell BK316.out 1).trans rfl; have hfz23_0 := blk_frozen BK316.out 0; have hfz23_1 := blk_frozen BK316.out 1; obtain ⟨Ao24, co24, eo24⟩ := Kd.R_slice HO314.out; subst eo24) | ((with_reducible refine gate_dst (N := 19) rfl ?_); refine Kd.R_lit (Kd.int .i64) _ 3 ?hg (N := 19) ?hd (xs := ([] : List Int)) (inner := []) (ok := fun _ => True) (okp := fun _ => True) ?hr ?hp (fun _ hk => hk) trivial (Below.refl _ _) (Nat.le_refl _) (by simp) ?_; (case hd => rfl); (case hg => rfl); (case hr => first | (go_simp; done) | (go_simp; rfl)); (case hp => exact (Reps.none _ _)); intro v318 w25 ho26 hb hg_ hnew_; clear hg_ hnew_; (first | rw [← Ny317.out] at ho26 | (simp only [Int.reduceToNat] at ho26; rw [← Ny317.out] at ho26)); have n0_ := Aside0.mk (Kd.R_elder' (by (with_reducible repeat (first | apply Kd.R_alloc | apply Kd.R_drewN | apply Kd.R_drew)); exact (Kd.R_mono (Kd.R_far (p := ⟨gb316, 1, none⟩) (Kd.R_far (p := ⟨gb316, 0, none⟩) (Kd.R_types HO311.out BK316.out (by decide)) (fun _ hk => hk.2) (.slice Ao20 t309.length co20)) (fun _ hk => hk.2) (.slice Ao24 t312.length co24)) (fun _ h_ => h_.1))) (Kd.R_base ho26) hb); have n1_ := Aside0.mk (Kd.R_elder' (by (with_reducible repeat (first | apply Kd.R_alloc | apply Kd.R_drewN | apply Kd.R_drew)); exact (Kd.R_mono (Kd.R_far (p := ⟨gb316, 1, none⟩) (Kd.R_far (p := ⟨gb316, 0, none⟩) (Kd.R_types HO314.out BK316.out (by decide)) (fun _ hk => hk.2) (.slice Ao20 t309.length co20)) (fun _ hk => hk.2) (.slice Ao24 t312.length co24)) (fun _ h_ => h_.1))) (Kd.R_base ho26) hb); have n2_ := Aside0.mk (Kd.R_lower (Kd.R_new' (Kd.R_new' ho26 (Kd.R_lt (by (with_reducible repeat (first | apply Kd.R_alloc | apply Kd.R_drewN | apply Kd.R_drew)); exact (Kd.R_mono (Kd.R_far (p := ⟨gb316, 1, none⟩) (Kd.R_far (p := ⟨gb316, 0, none⟩) (Kd.R_types HO311.out BK316.out (by decide)) (fun _ hk => hk.2) (.slice Ao20 t309.length co20)) (fun _ hk => hk.2) (.slice Ao24 t312.length co24)) (fun _ h_ => h_.1))))) (Kd.R_lt (by (with_reducible repeat (first | apply Kd.R_alloc | apply Kd.R_drewN | apply Kd.R_drew)); exact (Kd.R_mono (Kd.R_far (p := ⟨gb316, 1, none⟩) (Kd.R_far (p := ⟨gb316, 0, none⟩) (Kd.R_types HO314.out BK316.out (by decide)) (fun _ hk => hk.2) (.slice Ao20 t309.length co20)) (fun _ hk => hk.2) (.slice Ao24 t312.length co24)) (fun _ h_ => h_.1))))) (below_size (by repeat (first | (with_reducible first | exact HB.out | apply below_alloc | apply pw_below_drewN | apply below_drew1 | refine below_set ?_ (IsS94.ge HI308.out) | refine below_set ?_ GE307.out | refine below_set ?_ GE316.out) | exact HB.out)))); have n3_ := Aside0.mk (blk_below (g := gb307) (o := .cells #[.slice none 0 0, .slice none 0 0] 47 (0, 0)) (by (with_reducible repeat (first | refine blk_drewN ?_ _ | refine blk_drew ?_ | refine blk_alloc ?_ _)); refine blk_far ?_ NB307_316.out _; (with_reducible repeat (first | refine blk_drewN ?_ _ | refine blk_drew ?_ | refine blk_alloc ?_ _)); refine blk_far ?_ NB307_316.out _; (with_reducible repeat (first | refine blk_drewN ?_ _ | refine blk_drew ?_ | refine blk_alloc ?_ _)); exact BK307.out) hb); have n4_ := Aside0.mk (IsS94.below (show IsS94 w ((w19.setCell ⟨gb316, 0, none⟩ (.slice Ao20 t309.length co20)).setCell ⟨gb316, 1, none⟩ (.slice Ao24 t312.length co24)) gb308 l0 0 0 from by repeat (first | (with_reducible first | exact HI308.out | apply IsS94.alloc | apply IsS94.drewN | apply IsS94.drew | apply IsS94.set_1 | apply IsS94.set_2 | refine IsS94.far ?_ NB308_307.out _ | refine IsS94.far ?_ NB308_316.out _) | exact HI308.out)) hb); have n5_ := Aside0.mk (blk_below (g := gb316) (o := .cells #[.slice Ao20 t309.length co20, .slice Ao24 t312.length co24] 47 (0, 0)) (by (with_reducible repeat (first | refine blk_drewN ?_ _ | refine blk_drew ?_ | refine blk_alloc ?_ _)); refine blk_put (cs := #[.slice Ao20 t309.length co20, .slice none 0 0]) ?_ 1 _ rfl; (with_reducible repeat (first | refine blk_drewN ?_ _ | refine blk_drew ?_ | refine blk_alloc ?_ _)); refine blk_put (cs := #[.slice none 0 0, .slice none 0 0]) ?_ 0 _ rfl; (with_reducible repeat (first | refine blk_drewN ?_ _ | refine blk_drew ?_ | refine blk_alloc ?_ _)); exact BK316.out) hb); have n6_ := Aside0.mk (below_step (by repeat (first | (with_reducible first | exact HB.out | apply below_alloc | apply pw_below_drewN | apply below_drew1 | refine below_set ?_ (IsS94.ge HI308.out) | refine below_set ?_ GE307.out | refine below_set ?_ GE316.out) | exact HB.out)) hb); clear HO311; clear HO314; clear BK307; clear HI308; clear BK316; clear HB; have HO311 := n0_; have HO314 := n1_; have HO319 := n2_; have BK307 := n3_; have HI308 := n4_; have BK316 := n5_; have HB := n6_; clear n0_ n1_ n2_ n3_ n4_ n5_ n6_; clear hb ho26) | ((with_reducible refine gate_callee (f := 70) rfl ?_); refine goesL_ (some 21) rfl rfl Try.func70 (by kernel_rfl) rfl #[.pointer (some ⟨gb308, 0, none⟩), .int .i64 3] rfl (by (try simp only [List.map_toArray, List.map_cons, List.map_nil]); first | done | rfl | (simp only [List.length_drop, List.length_take]; rfl)) ?_; (with_reducible refine (spec_l1Cur_one.calls gb308 l0 0 0 3 true t321 t322 w _ ?side1 ?side2 A3.out).mono ?_); (case side1 => repeat (first | (with_reducible first | exact HI308.out | apply IsS94.alloc | apply IsS94.drewN | apply IsS94.drew | apply IsS94.set_1 | apply IsS94.set_2 | refine IsS94.far ?_ NB308_307.out _ | refine IsS94.far ?_ NB308_316.out _) | exact HI308.out)); (case side2 => repeat (first | (with_reducible first | exact HB.out | apply below_alloc | apply pw_below_drewN | apply below_drew1 | refine below_set ?_ (IsS94.ge HI308.out) | refine below_set ?_ GE307.out | refine below_set ?_ GE316.out) | exact HB.out)); rintro e w27 ⟨rfl, hi, hb, hk⟩; refine ⟨_, rfl, ?_⟩; have n0_ := Aside0.mk (KeepBut.blk hk (g' := gb307) (o := .cells #[.slice none 0 0, .slice none 0 0] 47 (0, 0)) (by (with_reducible repeat (first | refine blk_drewN ?_ _ | refine blk_drew ?_ | refine blk_alloc ?_ _)); exact BK307.out) NB307_308.out (by simp)); have n1_ := Aside0.mk (Kd.R_mono (Kd.R_keep (IsS94.apart (show IsS94 w _ gb308 l0 0 0 from by repeat (first | (with_reducible first | exact HI308.out | apply IsS94.alloc | apply IsS94.drewN | apply IsS94.drew | apply IsS94.set_1 | apply IsS94.set_2 | refine IsS94.far ?_ NB308_307.out _ | refine IsS94.far ?_ NB308_316.out _) | exact HI308.out)) (by (with_reducible repeat (first | apply Kd.R_alloc | apply Kd.R_drewN | apply Kd.R_drew)); exact HO311.out) (by decide)) hk (fun _ h => h.2)) (fun _ h => h.1)); have n2_ := Aside0.mk (Kd.R_mono (Kd.R_keep (IsS94.apart (show IsS94 w _ gb308 l0 0 0 from by repeat (first | (with_reducible first | exact HI308.out | apply IsS94.alloc | apply IsS94.drewN | apply IsS94.drew | apply IsS94.set_1 | apply IsS94.set_2 | refine IsS94.far ?_ NB308_307.out _ | refine IsS94.far ?_ NB308_316.out _) | exact HI308.out)) (by (with_reducible repeat (first | apply Kd.R_alloc | apply Kd.R_drewN | apply Kd.R_drew)); exact HO314.out) (by decide)) hk (fun _ h => h.2)) (fun _ h => h.1)); have n3_ := Aside0.mk (KeepBut.blk hk (g' := gb316) (o := .cells #[.slice Ao20 t309.length co20, .slice Ao24 t312.length co24] 47 (0, 0)) (by (with_reducible repeat (first | refine blk_drewN ?_ _ | refine blk_drew ?_ | refine blk_alloc ?_ _)); exact BK316.out) NB316_308.out (by simp)); have n4_ := Aside0.mk (Kd.R_mono (Kd.R_keep (IsS94.apart (show IsS94 w _ gb308 l0 0 0 from by repeat (first | (with_reducible first | exact HI308.out | apply IsS94.alloc | apply IsS94.drewN | apply IsS94.drew | apply IsS94.set_1 | apply IsS94.set_2 | refine IsS94.far ?_ NB308_307.out _ | refine IsS94.far ?_ NB308_316.out _) | exact HI308.out)) (by (with_reducible repeat (first | apply Kd.R_alloc | apply Kd.R_drewN | apply Kd.R_drew)); exact HO319.out) (by decide)) hk (fun _ h => h.2)) (fun _ h => h.1)); have n5_ := Aside0.mk (hb); have n6_ := Aside0.mk (hi); clear BK307; clear HO311; clear HO314; clear BK316; clear HO319; clear HB; clear HI308; have BK307 := n0_; have HO311 := n1_; have HO314 := n2_; have BK316 := n3_; have HO319 := n4_; have HB := n5_; have HI308 := n6_; clear n0_ n1_ n2_ n3_ n4_ n5_ n6_; (try clear hb); (try clear hb2); (try clear hk); (try clear hi)) | ((with_reducible refine gate_dst (N := 24) rfl ?_); refine Kd.R_lit (Kd.int .i64) _ 3 ?hg (N := 24) ?hd (xs := ([(-9), (-1), 0, 1, 5, 9, 30, 90] : List Int)) (inner := [.int .i64 (-9), .int .i64 (-1), .int .i64 0, .int .i64 1, .int .i64 5, .int .i64 9, .int .i64 30, .int .i64 90]) (ok := fun _ => True) (okp := fun _ => True) ?hr ?hp (fun _ hk => hk) trivial (Below.refl _ _) (Nat.le_refl _) (by simp) ?_; (case hd => rfl); (case hg => rfl); (case hr => first | (go_simp; done) | (go_simp; rfl)); (case hp => exact (Reps.one (show Kd.M (Kd.int .i64) _ _ _ (-9) [.int .i64 (-9)] from rfl) (Reps.one (show Kd.M (Kd.int .i64) _ _ _ (-1) [.int .i64 (-1)] from rfl) (Reps.one (show Kd.M (Kd.int .i64) _ _ _ 0 [.int .i64 0] from rfl) (Reps.one (show Kd.M (Kd.int .i64) _ _ _ 1 [.int .i64 1] from rfl) (Reps.one (show Kd.M (Kd.int .i64) _ _ _ 5 [.int .i64 5] from rfl) (Reps.one (show Kd.M (Kd.int .i64) _ _ _ 9 [.int .i64 9] from rfl) (Reps.one (show Kd.M (Kd.int .i64) _ _ _ 30 [.int .i64 30] from rfl) (Reps.one (show Kd.M (Kd.int .i64) _ _ _ 90 [.int .i64 90] from rfl) (Reps.none _ _)))))))))); intro v324 w28 ho29 hb hg_ hnew_; clear hg_ hnew_; (first | rw [← Ny323.out] at ho29 | (simp only [Int.reduceToNat] at ho29; rw [← Ny323.out] at ho29)); have n0_ := Aside0.mk (Kd.R_elder' (by (with_reducible repeat (first | apply Kd.R_alloc | apply Kd.R_drewN | apply Kd.R_drew)); exact HO311.out) (Kd.R_base ho29) hb); have n1_ := Aside0.mk (Kd.R_elder' (by (with_reducible repeat (first | apply Kd.R_alloc | apply Kd.R_drewN | apply Kd.R_drew)); exact HO314.out) (Kd.R_base ho29) hb); have n2_ := Aside0.mk (Kd.R_elder' (by (with_reducible repeat (first | apply Kd.R_alloc | apply Kd.R_drewN | apply Kd.R_drew)); exact HO319.out) (Kd.R_base ho29) hb); have n3_ := Aside0.mk (Kd.R_lower (Kd.R_new' (Kd.R_new' (Kd.R_new' ho29 (Kd.R_lt (by (with_reducible repeat (first | apply Kd.R_alloc | apply Kd.R_drewN | apply Kd.R_drew)); exact HO311.out))) (Kd.R_lt (by (with_reducible repeat (first | apply Kd.R_alloc | apply Kd.R_drewN | apply Kd.R_drew)); exact HO314.out))) (Kd.R_lt (by (with_reducible repeat (first | apply Kd.R_alloc | apply Kd.R_drewN | apply Kd.R_drew)); exact HO319.out))) (below_size (by repeat (first | (with_reducible first | exact HB.out | apply below_alloc | apply pw_below_drewN | apply below_drew1 | refine below_set ?_ (IsS94.ge HI308.out) | refine below_set ?_ GE307.out | refine below_set ?_ GE316.out) | exact HB.out)))); have n4_ := Aside0.mk (blk_below (g := gb307) (o := .cells #[.slice none 0 0, .slice none 0 0] 47 (0, 0)) (by (with_reducible repeat (first | refine blk_drewN ?_ _ | refine blk_drew ?_ | refine blk_alloc ?_ _)); exact BK307.out) hb); have n5_ := Aside0.mk (IsS94.below (by repeat (first | (with_reducible first | exact HI308.out | apply IsS94.alloc | apply IsS94.drewN | apply IsS94.drew | apply IsS94.set_1 | apply IsS94.set_2 | refine IsS94.far ?_ NB308_307.out _ | refine IsS94.far ?_ NB308_316.out _) | exact HI308.out)) hb); have n6_ := Aside0.mk (blk_below (g := gb316) (o := .cells #[.slice Ao20 t309.length co20, .slice Ao24 t312.length co24] 47 (0, 0)) (by (with_reducible repeat (first | refine blk_drewN ?_ _ | refine blk_drew ?_ | refine blk_alloc ?_ _)); exact BK316.out) hb); have n7_ := Aside0.mk (below_step (by repeat (first | (with_reducible first | exact HB.out | apply below_alloc | apply pw_below_drewN | apply below_drew1 | refine below_set ?_ (IsS94.ge HI308.out) | refine below_set ?_ GE307.out | refine below_set ?_ GE316.out) | exact HB.out)) hb); clear HO311; clear HO314; clear HO319; clear BK307; clear HI308; clear BK316; clear HB; have HO311 := n0_; have HO314 := n1_; have HO319 := n2_; have HO325 := n3_; have BK307 := n4_; have HI308 := n5_; have BK316 := n6_; have HB := n7_; clear n0_ n1_ n2_ n3_ n4_ n5_ n6_ n7_; clear hb ho29; obtain ⟨Ao30, co30, eo30⟩ := Kd.R_slice HO325.out; subst eo30) | ((with_reducible refine gate_callee (f := 71) rfl ?_); refine goesL_ (some 25) rfl rfl Try.func71 (by kernel_rfl) rfl #[.pointer (some ⟨gb308, 0, none⟩), .slice Ao30 y323.length co30] rfl (by (try simp only [List.map_toArray, List.map_cons, List.map_nil]); first | done | rfl | (simp only [List.length_drop, List.length_take]; rfl)) ?_; (with_reducible refine (spec_l1Cur_among.calls gb308 l0 t321 t322 _ _ y323 t326 t327 t328 w _ ?side1 ?side2 ?side3 ?side4 ?side5 A5.out).mono ?_); (case side1 => repeat (first | (with_reducible first | exact HI308.out | apply IsS94.alloc | apply IsS94.drewN | apply IsS94.drew | apply IsS94.set_1 | apply IsS94.set_2 | refine IsS94.far ?_ NB308_307.out _ | refine IsS94.far ?_ NB308_316.out _) | exact HI308.out)); (case side2 => repeat (first | (with_reducible first | exact HB.out | apply below_alloc | apply pw_below_drewN | apply below_drew1 | refine below_set ?_ (IsS94.ge HI308.out) | refine below_set ?_ GE307.out | refine below_set ?_ GE316.out) | exact HB.out)); (case side3 => repeat (first | exact (Kd.R_reads' HO325.out).2.2 | (with_reducible refine Kd.C_alloc ?_ _) | (with_reducible refine Kd.C_drewN ?_ _) | (with_reducible refine Kd.C_drew ?_))); (case side4 => exact (Kd.R_reads' HO325.out).2.1); (case side5 => exact far_slice (IsS94.own_ne HI308.out HO325.out (by decide))); rintro e w31 ⟨rfl, hi, hb, hk⟩; refine ⟨_, rfl, ?_⟩; have n0_ := Aside0.mk (KeepBut.blk hk (g' := gb307) (o := .cells #[.slice none 0 0, .slice none 0 0] 47 (0, 0)) (by (with_reducible repeat (first | refine blk_drewN ?_ _ | refine blk_drew ?_ | refine blk_alloc ?_ _)); exact BK307.out) NB307_308.out (by simp)); have n1_ := Aside0.mk (Kd.R_mono (Kd.R_keep (IsS94.apart (show IsS94 w _ gb308 l0 t321 t322 from by repeat (first | (with_reducible first | exact HI308.out | apply IsS94.alloc | apply IsS94.drewN | apply IsS94.drew | apply IsS94.set_1 | apply IsS94.set_2 | refine IsS94.far ?_ NB308_307.out _ | refine IsS94.far ?_ NB308_316.out _) | exact HI308.out)) (by (with_reducible repeat (first | apply Kd.R_alloc | apply Kd.R_drewN | apply Kd.R_drew)); exact HO311.out) (by decide)) hk (fun _ h => h.2)) (fun _ h => h.1)); have n2_ := Aside0.mk (Kd.R_mono (Kd.R_keep (IsS94.apart (show IsS94 w _ gb308 l0 t321 t322 from by repeat (first | (with_reducible first | exact HI308.out | apply IsS94.alloc | apply IsS94.drewN | apply IsS94.drew | apply IsS94.set_1 | apply IsS94.set_2 | refine IsS94.far ?_ NB308_307.out _ | refine IsS94.far ?_ NB308_316.out _) | exact HI308.out)) (by (with_reducible repeat (first | apply Kd.R_alloc | apply Kd.R_drewN | apply Kd.R_drew)); exact HO314.out) (by decide)) hk (fun _ h => h.2)) (fun _ h => h.1)); have n3_ := Aside0.mk (KeepBut.blk hk (g' := gb316) (o := .cells #[.slice Ao20 t309.length co20, .slice Ao24 t312.length co24] 47 (0, 0)) (by (with_reducible repeat (first | refine blk_drewN ?_ _ | refine blk_drew ?_ | refine blk_alloc ?_ _)); exact BK316.out) NB316_308.out (by simp)); have n4_ := Aside0.mk (Kd.R_mono (Kd.R_keep (IsS94.apart (show IsS94 w _ gb308 l0 t321 t322 from by repeat (first | (with_reducible first | exact HI308.out | apply IsS94.alloc | apply IsS94.drewN | apply IsS94.drew | apply IsS94.set_1 | apply IsS94.set_2 | refine IsS94.far ?_ NB308_307.out _ | refine IsS94.far ?_ NB308_316.out _) | exact HI308.out)) (by (with_reducible repeat (first | apply Kd.R_alloc | apply Kd.R_drewN | apply Kd.R_drew)); exact HO319.out) (by decide)) hk (fun _ h => h.2)) (fun _ h => h.1)); have n5_ := Aside0.mk (Kd.R_mono (Kd.R_keep (IsS94.apart (show IsS94 w _ gb308 l0 t321 t322 from by repeat (first | (with_reducible first | exact HI308.out | apply IsS94.alloc | apply IsS94.drewN | apply IsS94.drew | apply IsS94.set_1 | apply IsS94.set_2 | refine IsS94.far ?_ NB308_307.out _ | refine IsS94.far ?_ NB308_316.out _) | exact HI308.out)) (by (with_reducible repeat (first | apply Kd.R_alloc | apply Kd.R_drewN | apply Kd.R_drew)); exact HO325.out) (by decide)) hk (fun _ h => h.2)) (fun _ h => h.1)); have n6_ := Aside0.mk (hb); have n7_ := Aside0.mk (hi); clear BK307; clear HO311; clear HO314; clear BK316; clear HO319; clear HO325; clear HB; clear HI308; have BK307 := n0_; have HO311 := n1_; have HO314 := n2_; have BK316 := n3_; have HO319 := n4_; have HO325 := n5_; have HB := n6_; have HI308 := n7_; clear n0_ n1_ n2_ n3_ n4_ n5_ n6_ n7_; (try clear hb); (try clear hb2); (try clear hk); (try clear hi)) | ((with_reducible refine gate_builtin (b := .append) (xs := #[.tmp 27, .tmp 29]) rfl ?_); at_builtin; refine Kd.R_append (Kd.int .i64) (w0 := w) w.heap.size rfl (.tmp 27) (.tmp 29) 36 3 (.int .i64 0) 8 rfl Try.underlying36 info3 rfl (by decide) (by omega) v318 y317 (wrap64 (t315 + t326)) [.int .i64 (wrap64 (t315 + t326))] (fun k_ => some k_ ≠ (.slice Ao20 t309.length co20 : Value).ownBlock ∧ some k_ ≠ (.slice Ao24 t312.length co24 : Value).ownBlock ∧ some k_ ≠ (.slice Ao30 y323.length co30 : Value).ownBlock) (fun _ => False) rfl rfl ?aP (fun _ hk => hk.elim) ?aF ?aO ?aB ?aS ?aL ?_; (case aP => exact rfl); (case aB => exact (by repeat (first | (with_reducible first | exact HB.out | apply below_alloc | apply pw_below_drewN | apply below_drew1 | refine below_set ?_ (IsS94.ge HI308.out) | refine below_set ?_ GE307.out | refine below_set ?_ GE316.out) | exact HB.out))); (case aF => exact (fun k_ hk => ⟨Kd.fresh' (Kd.R_lt (by (with_reducible repeat (first | apply Kd.R_alloc | apply Kd.R_drewN | apply Kd.R_drew)); exact HO311.out)) k_ hk, Kd.fresh' (Kd.R_lt (by (with_reducible repeat (first | apply Kd.R_alloc | apply Kd.R_drewN | apply Kd.R_drew)); exact HO314.out)) k_ hk, Kd.fresh' (Kd.R_lt (by (with_reducible repeat (first | apply Kd.R_alloc | apply Kd.R_drewN | apply Kd.R_drew)); exact HO325.out)) k_ hk⟩)); (case aO => exact (by (with_reducible repeat (first | apply Kd.R_alloc | apply Kd.R_drewN | apply Kd.R_drew)); exact Kd.R_mono HO319.out (fun _ hk => ⟨hk.1.1.2, ⟨hk.1.2, hk.2⟩⟩))); (case aS => exact (below_size (by repeat (first | (with_reducible first | exact HB.out | apply below_alloc | apply pw_below_drewN | apply below_drew1 | refine below_set ?_ (IsS94.ge HI308.out) | refine below_set ?_ GE307.out | refine below_set ?_ GE316.out) | exact HB.out)))); (case aL => have := LMc6.out; omega); intro v330 w32 ho hb hg hat; rw [← Ny329.out] at ho; have n0_ := Aside0.mk (blk_grown (g := gb307) (o := .cells #[.slice none 0 0, .slice none 0 0] 47 (0, 0)) (by (with_reducible repeat (first | refine blk_drewN ?_ _ | refine blk_drew ?_ | refine blk_alloc ?_ _)); exact BK307.out) hg (Kd.R_ne HO319.out BK307.out (by decide))); have n1_ := Aside0.mk (IsS94.grown (by repeat (first | (with_reducible first | exact HI308.out | apply IsS94.alloc | apply IsS94.drewN | apply IsS94.drew | apply IsS94.set_1 | apply IsS94.set_2 | refine IsS94.far ?_ NB308_307.out _ | refine IsS94.far ?_ NB308_316.out _) | exact HI308.out)) hg (IsS94.own_ne HI308.out HO319.out (by decide))); have n2_ := Aside0.mk (Kd.R_after (ok := (fun k_ => some k_ ≠ (.slice Ao24 t312.length co24 : Value).ownBlock ∧ some k_ ≠ (.slice Ao30 y323.length co30 : Value).ownBlock)) (by (with_reducible repeat (first | apply Kd.R_alloc | apply Kd.R_drewN | apply Kd.R_drew)); exact Kd.R_mono HO311.out (fun _ hk => ⟨⟨hk.1.1, hk.2⟩, hk.1.2⟩)) hg hat); have n3_ := Aside0.mk (Kd.R_after (ok := (fun k_ => some k_ ≠ (.slice Ao20 t309.length co20 : Value).ownBlock ∧ some k_ ≠ (.slice Ao30 y323.length co30 : Value).ownBlock)) (by (with_reducible repeat (first | apply Kd.R_alloc | apply Kd.R_drewN | apply Kd.R_drew)); exact Kd.R_mono HO314.out (fun _ hk => ⟨⟨hk.1.1, hk.2⟩, hk.1.2⟩)) hg hat); have n4_ := Aside0.mk (blk_grown (g := gb316) (o := .cells #[.slice Ao20 t309.length co20, .slice Ao24 t312.length co24] 47 (0, 0)) (by (with_reducible repeat (first | refine blk_drewN ?_ _ | refine blk_drew ?_ | refine blk_alloc ?_ _)); exact BK316.out) hg (Kd.R_ne HO319.out BK316.out (by decide))); have n5_ := Aside0.mk (Kd.R_after (ok := (fun k_ => some k_ ≠ (.slice Ao20 t309.length co20 : Value).ownBlock ∧ some k_ ≠ (.slice Ao24 t312.length co24 : Value).ownBlock)) (by (with_reducible repeat (first | apply Kd.R_alloc | apply Kd.R_drewN | apply Kd.R_drew)); exact Kd.R_mono HO325.out (fun _ hk => ⟨⟨hk.1.1.2, hk.1.2⟩, hk.2⟩)) hg hat); have n6_ := Aside0.mk (hb); have n7_ := Aside0.mk (ho); clear BK307; clear HI308; clear HO311; clear HO314; clear BK316; clear HO325; clear HB; clear HO319; have BK307 := n0_; have HI308 := n1_; have HO311 := n2_; have HO314 := n3_; have BK316 := n4_; have HO325 := n5_; have HB := n6_; have HO331 := n7_; clear n0_ n1_ n2_ n3_ n4_ n5_ n6_ n7_; clear ho hb hg hat) | ((with_reducible refine gate_callee (f := 70) rfl ?_); refine goesL_ (some 32) rfl rfl Try.func70 (by kernel_rfl) rfl #[.pointer (some ⟨gb308, 0, none⟩), .int .i64 2] rfl (by (try simp only [List.map_toArray, List.map_cons, List.map_nil]); first | done | rfl | (simp only [List.length_drop, List.length_take]; rfl)) ?_; (with_reducible refine (spec_l1Cur_one.calls gb308 l0 t327 t328 2 true t333 t334 w _ ?side1 ?side2 A7.out).mono ?_); (case side1 => repeat (first | (with_reducible first | exact HI308.out | apply IsS94.alloc | apply IsS94.drewN | apply IsS94.drew | apply IsS94.set_1 | apply IsS94.set_2 | refine IsS94.far ?_ NB308_307.out _ | refine IsS94.far ?_ NB308_316.out _) | exact HI308.out)); (case side2 => repeat (first | (with_reducible first | exact HB.out | apply below_alloc | apply pw_below_drewN | apply below_drew1 | refine below_set ?_ (IsS94.ge HI308.out) | refine below_set ?_ GE307.out | refine below_set ?_ GE316.out) | exact HB.out)); rintro e w33 ⟨rfl, hi, hb, hk⟩; refine ⟨_, rfl, ?_⟩; have n0_ := Aside0.mk (KeepBut.blk hk (g' := gb307) (o := .cells #[.slice none 0 0, .slice none 0 0] 47 (0, 0)) (by (with_reducible repeat (first | refine blk_drewN ?_ _ | refine blk_drew ?_ | refine blk_alloc ?_ _)); exact BK307.out) NB307_308.out (by simp)); have n1_ := Aside0.mk (Kd.R_mono (Kd.R_keep (IsS94.apart (show IsS94 w _ gb308 l0 t327 t328 from by repeat (first | (with_reducible first | exact HI308.out | apply IsS94.alloc | apply IsS94.drewN | apply IsS94.drew | apply IsS94.set_1 | apply IsS94.set_2 | refine IsS94.far ?_ NB308_307.out _ | refine IsS94.far ?_ NB308_316.out _) | exact HI308.out)) (by (with_reducible repeat (first | apply Kd.R_alloc | apply Kd.R_drewN | apply Kd.R_drew)); exact HO311.out) (by decide)) hk (fun _ h => h.2)) (fun _ h => h.1)); have n2_ := Aside0.mk (Kd.R_mono (Kd.R_keep (IsS94.apart (show IsS94 w _ gb308 l0 t327 t328 from by repeat (first | (with_reducible first | exact HI308.out | apply IsS94.alloc | apply IsS94.drewN | apply IsS94.drew | apply IsS94.set_1 | apply IsS94.set_2 | refine IsS94.far ?_ NB308_307.out _ | refine IsS94.far ?_ NB308_316.out _) | exact HI308.out)) (by (with_reducible repeat (first | apply Kd.R_alloc | apply Kd.R_drewN | apply Kd.R_drew)); exact HO314.out) (by decide)) hk (fun _ h => h.2)) (fun _ h => h.1)); have n3_ := Aside0.mk (KeepBut.blk hk (g' := gb316) (o := .cells #[.slice Ao20 t309.length co20, .slice Ao24 t312.length co24] 47 (0, 0)) (by (with_reducible repeat (first | refine blk_drewN ?_ _ | refine blk_drew ?_ | refine blk_alloc ?_ _)); exact BK316.out) NB316_308.out (by simp)); have n4_ := Aside0.mk (Kd.R_mono (Kd.R_keep (IsS94.apart (show IsS94 w _ gb308 l0 t327 t328 from by repeat (first | (with_reducible first | exact HI308.out | apply IsS94.alloc | apply IsS94.drewN | apply IsS94.drew | apply IsS94.set_1 | apply IsS94.set_2 | refine IsS94.far ?_ NB308_307.out _ | refine IsS94.far ?_ NB308_316.out _) | exact HI308.out)) (by (with_reducible repeat (first | apply Kd.R_alloc | apply Kd.R_drewN | apply Kd.R_drew)); exact HO325.out) (by decide)) hk (fun _ h => h.2)) (fun _ h => h.1)); have n5_ := Aside0.mk (Kd.R_mono (Kd.R_keep (IsS94.apart (show IsS94 w _ gb308 l0 t327 t328 from by repeat (first | (with_reducible first | exact HI308.out | apply IsS94.alloc | apply IsS94.drewN | apply IsS94.drew | apply IsS94.set_1 | apply IsS94.set_2 | refine IsS94.far ?_ NB308_307.out _ | refine IsS94.far ?_ NB308_316.out _) | exact HI308.out)) (by (with_reducible repeat (first | apply Kd.R_alloc | apply Kd.R_drewN | apply Kd.R_drew)); exact HO331.out) (by decide)) hk (fun _ h => h.2)) (fun _ h => h.1)); have n6_ := Aside0.mk (hb); have n7_ := Aside0.mk (hi); clear BK307; clear HO311; clear HO314; clear BK316; clear HO325; clear HO331; clear HB; clear HI308; have BK307 := n0_; have HO311 := n1_; have HO314 := n2_; have BK316 := n3_; have HO325 := n4_; have HO331 := n5_; have HB := n6_; have HI308 := n7_; clear n0_ n1_ n2_ n3_ n4_ n5_ n6_ n7_; (try clear hb); (try clear hb2); (try clear hk); (try clear hi)) | ((with_reducible refine gate_callee (f := 72) rfl ?_); refine goesL_ (some 36) rfl rfl Try.func72 (by kernel_rfl) rfl #[.pointer (some ⟨gb308, 0, none⟩), .int .i64 3] rfl (by (try simp only [List.map_toArray, List.map_cons, List.map_nil]); first | done | rfl | (simp only [List.length_drop, List.length_take]; rfl)) ?_; (with_reducible refine (spec_l1Cur_pick.calls gb308 l0 t333 t334 3 t335 t336 t337 w _ ?side1 ?side2 A9.out).mono ?_); (case side1 => repeat (first | (with_reducible first | exact HI308.out | apply IsS94.alloc | apply IsS94.drewN | apply IsS94.drew | apply IsS94.set_1 | apply IsS94.set_2 | refine IsS94.far ?_ NB308_307.out _ | refine IsS94.far ?_ NB308_316.out _) | exact HI308.out)); (case side2 => repeat (first | (with_reducible first | exact HB.out | apply below_alloc | apply pw_below_drewN | apply below_drew1 | refine below_set ?_ (IsS94.ge HI308.out) | refine below_set ?_ GE307.out | refine below_set ?_ GE316.out) | exact HB.out)); rintro e w34 ⟨rfl, hi, hb, hk⟩; refine ⟨_, rfl, ?_⟩; have n0_ := Aside0.mk (KeepBut.blk hk (g' := gb307) (o := .cells #[.slice none 0 0, .slice none 0 0] 47 (0, 0)) (by (with_reducible repeat (first | refine blk_drewN ?_ _ | refine blk_drew ?_ | refine blk_alloc ?_ _)); exact BK307.out) NB307_308.out (by simp)); have n1_ := Aside0.mk (Kd.R_mono (Kd.R_keep (IsS94.apart (show IsS94 w _ gb308 l0 t333 t334 from by repeat (first | (with_reducible first | exact HI308.out | apply IsS94.alloc | apply IsS94.drewN | apply IsS94.drew | apply IsS94.set_1 | apply IsS94.set_2 | refine IsS94.far ?_ NB308_307.out _ | refine IsS94.far ?_ NB308_316.out _) | exact HI308.out)) (by (with_reducible repeat (first | apply Kd.R_alloc | apply Kd.R_drewN | apply Kd.R_drew)); exact HO311.out) (by decide)) hk (fun _ h => h.2)) (fun _ h => h.1)); have n2_ := Aside0.mk (Kd.R_mono (Kd.R_keep (IsS94.apart (show IsS94 w _ gb308 l0 t333 t334 from by repeat (first | (with_reducible first | exact HI308.out | apply IsS94.alloc | apply IsS94.drewN | apply IsS94.drew | apply IsS94.set_1 | apply IsS94.set_2 | refine IsS94.far ?_ NB308_307.out _ | refine IsS94.far ?_ NB308_316.out _) | exact HI308.out)) (by (with_reducible repeat (first | apply Kd.R_alloc | apply Kd.R_drewN | apply Kd.R_drew)); exact HO314.out) (by decide)) hk (fun _ h => h.2)) (fun _ h => h.1)); have n3_ := Aside0.mk (KeepBut.blk hk (g' := gb316) (o := .cells #[.slice Ao20 t309.length co20, .slice Ao24 t312.length co24] 47 (0, 0)) (by (with_reducible repeat (first | refine blk_drewN ?_ _ | refine blk_drew ?_ | refine blk_alloc ?_ _)); exact BK316.out) NB316_308.out (by simp)); have n4_ := Aside0.mk (Kd.R_mono (Kd.R_keep (IsS94.apart (show IsS94 w _ gb308 l0 t333 t334 from by repeat (first | (with_reducible first | exact HI308.out | apply IsS94.alloc | apply IsS94.drewN | apply IsS94.drew | apply IsS94.set_1 | apply IsS94.set_2 | refine IsS94.far ?_ NB308_307.out _ | refine IsS94.far ?_ NB308_316.out _) | exact HI308.out)) (by (with_reducible repeat (first | apply Kd.R_alloc | apply Kd.R_drewN | apply Kd.R_drew)); exact HO325.out) (by decide)) hk (fun _ h => h.2)) (fun _ h => h.1)); have n5_ := Aside0.mk (Kd.R_mono (Kd.R_keep (IsS94.apart (show IsS94 w _ gb308 l0 t333 t334 from by repeat (first | (with_reducible first | exact HI308.out | apply IsS94.alloc | apply IsS94.drewN | apply IsS94.drew | apply IsS94.set_1 | apply IsS94.set_2 | refine IsS94.far ?_ NB308_307.out _ | refine IsS94.far ?_ NB308_316.out _) | exact HI308.out)) (by (with_reducible repeat (first | apply Kd.R_alloc | apply Kd.R_drewN | apply Kd.R_drew)); exact HO331.out) (by decide)) hk (fun _ h => h.2)) (fun _ h => h.1)); have n6_ := Aside0.mk (hb); have n7_ := Aside0.mk (hi); clear BK307; clear HO311; clear HO314; clear BK316; clear HO325; clear HO331; clear HB; clear HI308; have BK307 := n0_; have HO311 := n1_; have HO314 := n2_; have BK316 := n3_; have HO325 := n4_; have HO331 := n5_; have HB := n6_; have HI308 := n7_; clear n0_ n1_ n2_ n3_ n4_ n5_ n6_ n7_; (try clear hb); (try clear hb2); (try clear hk); (try clear hi)) | ((with_reducible refine gate_builtin (b := .append) (xs := #[.tmp 33, .tmp 38]) rfl ?_); at_builtin; refine Kd.R_append (Kd.int .i64) (w0 := w) w.heap.size rfl (.tmp 33) (.tmp 38) 36 3 (.int .i64 0) 8 rfl Try.underlying36 info3 rfl (by decide) (by omega) v330 y329 (wrap64 ((wrap64 (t315 + t326)) + t335)) [.int .i64 (wrap64 ((wrap64 (t315 + t326)) + t335))] (fun k_ => some k_ ≠ (.slice Ao20 t309.length co20 : Value).ownBlock ∧ some k_ ≠ (.slice Ao24 t312.length co24 : Value).ownBlock ∧ some k_ ≠ (.slice Ao30 y323.length co30 : Value).ownBlock) (fun _ => False) rfl rfl ?aP (fun _ hk => hk.elim) ?aF ?aO ?aB ?aS ?aL ?_; (case aP => exact rfl); (case aB => exact (by repeat (first | (with_reducible first | exact HB.out | apply below_alloc | apply pw_below_drewN | apply below_drew1 | refine below_set ?_ (IsS94.ge HI308.out) | refine below_set ?_ GE307.out | refine below_set ?_ GE316.out) | exact HB.out))); (case aF => exact (fun k_ hk => ⟨Kd.fresh' (Kd.R_lt (by (with_reducible repeat (first | apply Kd.R_alloc | apply Kd.R_drewN | apply Kd.R_drew)); exact HO311.out)) k_ hk, Kd.fresh' (Kd.R_lt (by (with_reducible repeat (first | apply Kd.R_alloc | apply Kd.R_drewN | apply Kd.R_drew)); exact HO314.out)) k_ hk, Kd.fresh' (Kd.R_lt (by (with_reducible repeat (first | apply Kd.R_alloc | apply Kd.R_drewN | apply Kd.R_drew)); exact HO325.out)) k_ hk⟩)); (case aO => exact (by (with_reducible repeat (first | apply Kd.R_alloc | apply Kd.R_drewN | apply Kd.R_drew)); exact HO331.out)); (case aS => exact (below_size (by repeat (first | (with_reducible first | exact HB.out | apply below_alloc | apply pw_below_drewN | apply below_drew1 | refine below_set ?_ (IsS94.ge HI308.out) | refine below_set ?_ GE307.out | refine below_set ?_ GE316.out) | exact HB.out)))); (case aL => have := LMc10.out; omega); intro v339 w35 ho hb hg hat; rw [← Ny338.out] at ho; have n0_ := Aside0.mk (blk_grown (g := gb307) (o := .cells #[.slice none 0 0, .slice none 0 0] 47 (0, 0)) (by (with_reducible repeat (first | refine blk_drewN ?_ _ | refine blk_drew ?_ | refine blk_alloc ?_ _)); exact BK307.out) hg (Kd.R_ne HO331.out BK307.out (by decide))); have n1_ := Aside0.mk (IsS94.grown (by repeat (first | (with_reducible first | exact HI308.out | apply IsS94.alloc | apply IsS94.drewN | apply IsS94.drew | apply IsS94.set_1 | apply IsS94.set_2 | refine IsS94.far ?_ NB308_307.out _ | refine IsS94.far ?_ NB308_316.out _) | exact HI308.out)) hg (IsS94.own_ne HI308.out HO331.out (by decide))); have n2_ := Aside0.mk (Kd.R_after (ok := (fun k_ => some k_ ≠ (.slice Ao24 t312.length co24 : Value).ownBlock ∧ some k_ ≠ (.slice Ao30 y323.length co30 : Value).ownBlock)) (by (with_reducible repeat (first | apply Kd.R_alloc | apply Kd.R_drewN | apply Kd.R_drew)); exact HO311.out) hg hat); have n3_ := Aside0.mk (Kd.R_after (ok := (fun k_ => some k_ ≠ (.slice Ao20 t309.length co20 : Value).ownBlock ∧ some k_ ≠ (.slice Ao30 y323.length co30 : Value).ownBlock)) (by (with_reducible repeat (first | apply Kd.R_alloc | apply Kd.R_drewN | apply Kd.R_drew)); exact HO314.out) hg hat); have n4_ := Aside0.mk (blk_grown (g := gb316) (o := .cells #[.slice Ao20 t309.length co20, .slice Ao24 t312.length co24] 47 (0, 0)) (by (with_reducible repeat (first | refine blk_drewN ?_ _ | refine blk_drew ?_ | refine blk_alloc ?_ _)); exact BK316.out) hg (Kd.R_ne HO331.out BK316.out (by decide))); have n5_ := Aside0.mk (Kd.R_after (ok := (fun k_ => some k_ ≠ (.slice Ao20 t309.length co20 : Value).ownBlock ∧ some k_ ≠ (.slice Ao24 t312.length co24 : Value).ownBlock)) (by (with_reducible repeat (first | apply Kd.R_alloc | apply Kd.R_drewN | apply Kd.R_drew)); exact HO325.out) hg hat); have n6_ := Aside0.mk (hb); have n7_ := Aside0.mk (ho); clear BK307; clear HI308; clear HO311; clear HO314; clear BK316; clear HO325; clear HB; clear HO331; have BK307 := n0_; have HI308 := n1_; have HO311 := n2_; have HO314 := n3_; have BK316 := n4_; have HO325 := n5_; have HB := n6_; have HO340 := n7_; clear n0_ n1_ n2_ n3_ n4_ n5_ n6_ n7_; clear ho hb hg hat))
              have n0_ := Aside0.mk (Kd.R_drew HO311.out)
              have n1_ := Aside0.mk (Kd.R_drew HO314.out)
              have n2_ := Aside0.mk (Kd.R_drew HO325.out)
              have n3_ := Aside0.mk (Kd.R_drew HO340.out)
              have n4_ := Aside0.mk (blk_drew BK307.out)
              have n5_ := Aside0.mk (blk_drew BK316.out)
              have n6_ := Aside0.mk (IsS94.drew HI308.out)
              have n7_ := Aside0.mk (below_drew1 HB.out)
              clear HO311
              clear HO314
              clear HO325
              clear HO340
              clear BK307
              clear BK316
              clear HI308
              clear HB
              have HO311 := n0_
              have HO314 := n1_
              have HO325 := n2_
              have HO340 := n3_
              have BK307 := n4_
              have BK316 := n5_
              have HI308 := n6_
              have HB := n7_
              clear n0_ n1_ n2_ n3_ n4_ n5_ n6_ n7_
              refine start_ (n := 15) (S := fun w' => w'.cell? ⟨gb316, 0, none⟩ = some (.slice Ao20 t309.length co20) ∧ w'.cell? ⟨gb316, 1, none⟩ = some (.slice Ao24 t312.length co24)) (ds := []) #[false, false, false, false, false, false, false, false, false, false, false, false, false, false, false] (by kernel_rfl) rfl rfl ⟨(blk_cell BK316.out 0).trans rfl, (blk_cell BK316.out 1).trans rfl⟩ (fun hHeld => ?_); refine with_tabW spec_DrawTerminationDay.tab9 spec_DrawTerminationDay.bits9 (fun HT_ HW_ => ?_)
              generalize w35.drew = w36 at HO311 HO314 HO325 HO340 BK307 BK316 HI308 HB hHeld ⊢
              refine pure_ (i := 1) (N := some 41) (v := ?_) (a' := ?_) #[false, true, false, false, false, false, false, false, false, false, false, false, false, false, false] rfl rfl (any_of HT_.out (by kernel_rfl)) (fun _ _ _ h => h) (Or.inl ⟨by rfl, ?_⟩) ?_ ?_
              rotate_left
              · intro w'
                go_simp
                with_reducible rfl
              rotate_left
              · simp only [Act.put, List.setIfInBounds_toArray, List.set_cons_zero, List.set_cons_succ, i64_w, i32_w]
                rfl
              refine pure_ (i := 2) (N := some 42) (v := ?_) (a' := ?_) #[false, true, true, false, false, false, false, false, false, false, false, false, false, false, false] rfl rfl (any_of HT_.out (by kernel_rfl)) (fun _ _ _ h => h) (Or.inl ⟨by rfl, ?_⟩) ?_ ?_
              rotate_left
              · intro w'
                go_simp
                with_reducible rfl
              rotate_left
              · simp only [Act.put, List.setIfInBounds_toArray, List.set_cons_zero, List.set_cons_succ, i64_w, i32_w]
                rfl
              refine pure_ (i := 4) (N := some 44) (v := ?_) (a' := ?_) #[false, true, true, false, true, false, false, false, false, false, false, false, false, false, false] rfl rfl (any_of HT_.out (by kernel_rfl)) (fun _ _ _ h => h) (Or.inl ⟨by rfl, ?_⟩) ?_ ?_
              rotate_left
              · intro w'
                go_simp
                with_reducible rfl
              rotate_left
              · simp only [Act.put, List.setIfInBounds_toArray, List.set_cons_zero, List.set_cons_succ, i64_w, i32_w]
                rfl
              refine pure_ (i := 10) (N := some 50) (v := ?_) (a' := ?_) #[false, true, true, false, true, false, false, false, false, false, true, false, false, false, false] rfl rfl (any_of HT_.out (by kernel_rfl)) (fun _ _ _ h => h) (Or.inl ⟨by rfl, ?_⟩) ?_ ?_
              rotate_left
              · intro w'
                go_simp
                with_reducible rfl
              rotate_left
              · simp only [Act.put, List.setIfInBounds_toArray, List.set_cons_zero, List.set_cons_succ, i64_w, i32_w]
                rfl
              refine take_ (i := 0) (N := some 40) (v := ?_) (a' := ?_) #[true, true, true, false, true, false, false, false, false, false, true, false, false, false, false] rfl rfl (take_ofW HT_.out HW_.out (by kernel_rfl)) (fun _ _ _ h => h) (Or.inl ⟨by rfl, ?_⟩) hHeld ?_ ?_
              rotate_left
              · rintro w' ⟨s0, s1⟩
                go_simp
                with_reducible rfl
              rotate_left
              · simp only [Act.put, List.setIfInBounds_toArray, List.set_cons_zero, List.set_cons_succ, i64_w, i32_w]
                rfl
              refine join_ (σ := Value) 6 #[true, true, true, true, true, true, true, true, false, false, true, false, false, false, false] (fun s_ => [(43, s_), (45, .int .i64 t344), (46, .int .i64 (wrap64 (Int.tdiv t344 20))), (47, .int .i64 ji12)]) (fun s_ w' => (w'.cell? ⟨gb316, 0, none⟩ = some (.slice Ao20 t309.length co20) ∧ w'.cell? ⟨gb316, 1, none⟩ = some (.slice Ao24 t312.length co24)) ∧ (Kd.R (Kd.int .i64) 3 w' w.heap.size (fun k_ => some k_ ≠ (.slice Ao24 t312.length co24 : Value).ownBlock ∧ some k_ ≠ (.slice Ao30 y323.length co30 : Value).ownBlock ∧ some k_ ≠ (v339 : Value).ownBlock ∧ some k_ ≠ (s_ : Value).ownBlock) (.slice Ao20 t309.length co20) t309) ∧ (Kd.R (Kd.int .i64) 3 w' w.heap.size (fun k_ => some k_ ≠ (.slice Ao20 t309.length co20 : Value).ownBlock ∧ some k_ ≠ (.slice Ao30 y323.length co30 : Value).ownBlock ∧ some k_ ≠ (v339 : Value).ownBlock ∧ some k_ ≠ (s_ : Value).ownBlock) (.slice Ao24 t312.length co24) t312) ∧ (Kd.R (Kd.int .i64) 3 w' w.heap.size (fun k_ => some k_ ≠ (.slice Ao20 t309.length co20 : Value).ownBlock ∧ some k_ ≠ (.slice Ao24 t312.length co24 : Value).ownBlock ∧ some k_ ≠ (v339 : Value).ownBlock ∧ some k_ ≠ (s_ : Value).ownBlock) (.slice Ao30 y323.length co30) y323) ∧ (Kd.R (Kd.int .i64) 3 w' w.heap.size (fun k_ => some k_ ≠ (.slice Ao20 t309.length co20 : Value).ownBlock ∧ some k_ ≠ (.slice Ao24 t312.length co24 : Value).ownBlock ∧ some k_ ≠ (.slice Ao30 y323.length co30 : Value).ownBlock ∧ some k_ ≠ (s_ : Value).ownBlock) v339 y338) ∧ (Kd.R (Kd.int .i64) 3 w' w.heap.size (fun k_ => some k_ ≠ (.slice Ao20 t309.length co20 : Value).ownBlock ∧ some k_ ≠ (.slice Ao24 t312.length co24 : Value).ownBlock ∧ some k_ ≠ (.slice Ao30 y323.length co30 : Value).ownBlock ∧ some k_ ≠ (v339 : Value).ownBlock) s_ y341) ∧ (w'.heap[gb307]? = some (.cells #[.slice none 0 0, .slice none 0 0] 47 (0, 0))) ∧ (w'.heap[gb316]? = some (.cells #[.slice Ao20 t309.length co20, .slice Ao24 t312.length co24] 47 (0, 0))) ∧ (IsS94 w w' gb308 l0 t345 t346) ∧ (Below w.heap.size w w')) ?_ ?_
              rotate_left
              · intro hCont
                refine two_ (i := 3) (j := 5) (Ni := some 43) (Nj := some 45) #[true, true, true, true, true, false, false, false, false, false, true, false, false, false, false] #[true, true, true, false, true, true, false, false, false, false, true, false, false, false, false] rfl rfl rfl rfl (two_of HT_.out (by kernel_rfl)) (by decide) (by decide) (fun K hK => ?_) (fun K hK => ?_)
                · skip
                  refine Kd.R_lit_step (Kd.int .i64) _ 3 ?hg (N := 43) ?hd (xs := ([0, 1, 3, 5, 20, 60, 61, (-1)] : List Int)) (inner := [.int .i64 0, .int .i64 1, .int .i64 3, .int .i64 5, .int .i64 20, .int .i64 60, .int .i64 61, .int .i64 (-1)]) (ok := fun _ => True) (okp := fun _ => True) ?hr ?hp (fun _ hk => hk) trivial (Below.refl _ _) (Nat.le_refl _) (by simp) ?_; (case hd => rfl); (case hg => rfl); (case hr => first | (go_simp; done) | (go_simp; rfl)); (case hp => exact (Reps.one (show Kd.M (Kd.int .i64) _ _ _ 0 [.int .i64 0] from rfl) (Reps.one (show Kd.M (Kd.int .i64) _ _ _ 1 [.int .i64 1] from rfl) (Reps.one (show Kd.M (Kd.int .i64) _ _ _ 3 [.int .i64 3] from rfl) (Reps.one (show Kd.M (Kd.int .i64) _ _ _ 5 [.int .i64 5] from rfl) (Reps.one (show Kd.M (Kd.int .i64) _ _ _ 20 [.int .i64 20] from rfl) (Reps.one (show Kd.M (Kd.int .i64) _ _ _ 60 [.int .i64 60] from rfl) (Reps.one (show Kd.M (Kd.int .i64) _ _ _ 61 [.int .i64 61] from rfl) (Reps.one (show Kd.M (Kd.int .i64) _ _ _ (-1) [.int .i64 (-1)] from rfl) (Reps.none _ _))))))))))
                  intro v342 w37 ho38 hb hg_ hnew_
                  clear hg_ hnew_
                  (first | rw [← Ny341.out] at ho38 | (simp only [Int.reduceToNat] at ho38; rw [← Ny341.out] at ho38))
                  have n0_ := Aside0.mk (Kd.R_elder' (by (with_reducible repeat (first | apply Kd.R_alloc | apply Kd.R_drewN | apply Kd.R_drew)); exact HO311.out) (Kd.R_base ho38) hb)
                  have n1_ := Aside0.mk (Kd.R_elder' (by (with_reducible repeat (first | apply Kd.R_alloc | apply Kd.R_drewN | apply Kd.R_drew)); exact HO314.out) (Kd.R_base ho38) hb)
                  have n2_ := Aside0.mk (Kd.R_elder' (by (with_reducible repeat (first | apply Kd.R_alloc | apply Kd.R_drewN | apply Kd.R_drew)); exact HO325.out) (Kd.R_base ho38) hb)
                  have n3_ := Aside0.mk (Kd.R_elder' (by (with_reducible repeat (first | apply Kd.R_alloc | apply Kd.R_drewN | apply Kd.R_drew)); exact HO340.out) (Kd.R_base ho38) hb)
                  have n4_ := Aside0.mk (Kd.R_lower (Kd.R_new' (Kd.R_new' (Kd.R_new' (Kd.R_new' ho38 (Kd.R_lt (by (with_reducible repeat (first | apply Kd.R_alloc | apply Kd.R_drewN | apply Kd.R_drew)); exact HO311.out))) (Kd.R_lt (by (with_reducible repeat (first | apply Kd.R_alloc | apply Kd.R_drewN | apply Kd.R_drew)); exact HO314.out))) (Kd.R_lt (by (with_reducible repeat (first | apply Kd.R_alloc | apply Kd.R_drewN | apply Kd.R_drew)); exact HO325.out))) (Kd.R_lt (by (with_reducible repeat (first | apply Kd.R_alloc | apply Kd.R_drewN | apply Kd.R_drew)); exact HO340.out))) (below_size (by repeat (first | (with_reducible first | exact HB.out | apply below_alloc | apply pw_below_drewN | apply below_drew1 | refine below_set ?_ (IsS94.ge HI308.out) | refine below_set ?_ GE307.out | refine below_set ?_ GE316.out) | exact HB.out))))
                  have n5_ := Aside0.mk (blk_below (g := gb307) (o := .cells #[.slice none 0 0, .slice none 0 0] 47 (0, 0)) (by (with_reducible repeat (first | refine blk_drewN ?_ _ | refine blk_drew ?_ | refine blk_alloc ?_ _)); exact BK307.out) hb)
                  have n6_ := Aside0.mk (IsS94.below (by repeat (first | (with_reducible first | exact HI308.out | apply IsS94.alloc | apply IsS94.drewN | apply IsS94.drew | apply IsS94.set_1 | apply IsS94.set_2 | refine IsS94.far ?_ NB308_307.out _ | refine IsS94.far ?_ NB308_316.out _) | exact HI308.out)) hb)
                  have n7_ := Aside0.mk (blk_below (g := gb316) (o := .cells #[.slice Ao20 t309.length co20, .slice Ao24 t312.length co24] 47 (0, 0)) (by (with_reducible repeat (first | refine blk_drewN ?_ _ | refine blk_drew ?_ | refine blk_alloc ?_ _)); exact BK316.out) hb)
                  have n8_ := Aside0.mk (below_step (by repeat (first | (with_reducible first | exact HB.out | apply below_alloc | apply pw_below_drewN | apply below_drew1 | refine below_set ?_ (IsS94.ge HI308.out) | refine below_set ?_ GE307.out | refine below_set ?_ GE316.out) | exact HB.out)) hb)
                  clear HO311
                  clear HO314
                  clear HO325
                  clear HO340
                  clear BK307
                  clear HI308
                  clear BK316
                  clear HB
                  have HO311 := n0_
                  have HO314 := n1_
                  have HO325 := n2_
                  have HO340 := n3_
                  have HO343 := n4_
                  have BK307 := n5_
                  have HI308 := n6_
                  have BK316 := n7_
                  have HB := n8_
                  clear n0_ n1_ n2_ n3_ n4_ n5_ n6_ n7_ n8_
                  clear hb ho38
                  refine hK.out _ _ ⟨(blk_cell BK316.out 0).trans rfl, (blk_cell BK316.out 1).trans rfl⟩ (fun hHeld => ?_)
                  clear hK K
                  refine norm_ (a' := ?_) ?_ ?_
                  rotate_left
                  · show Act.put _ (some 43) _ = _
                    simp only [Act.put, List.setIfInBounds_toArray, List.set_cons_zero, List.set_cons_succ, i64_w, i32_w]
                    rfl
                  refine one_ (i := 5) (N := some 45) #[true, true, true, true, true, true, false, false, false, false, true, false, false, false, false] rfl rfl (one_of HT_.out (by kernel_rfl)) (by decide) (fun K hK => ?_)
                  refine goes_ Try.func72 (by kernel_rfl) rfl #[.pointer (some ⟨gb308, 0, none⟩), .int .i64 40] (by rfl) rfl rfl (by (try simp only [List.map_toArray, List.map_cons, List.map_nil]); first | done | rfl | (simp only [List.length_drop, List.length_take]; rfl)) ?_
                  with_reducible refine (spec_l1Cur_pick.calls gb308 l0 t336 t337 40 t344 t345 t346 w _ ?side1 ?side2 A11.out).mono ?_
                  (case side1 => repeat (first | (with_reducible first | exact HI308.out | apply IsS94.alloc | apply IsS94.drewN | apply IsS94.drew | apply IsS94.set_1 | apply IsS94.set_2 | refine IsS94.far ?_ NB308_307.out _ | refine IsS94.far ?_ NB308_316.out _) | exact HI308.out))
                  (case side2 => repeat (first | (with_reducible first | exact HB.out | apply below_alloc | apply pw_below_drewN | apply below_drew1 | refine below_set ?_ (IsS94.ge HI308.out) | refine below_set ?_ GE307.out | refine below_set ?_ GE316.out) | exact HB.out))
                  rintro e w39 ⟨rfl, hi, hb, hk⟩
                  refine ⟨_, rfl, ?_⟩
                  have n0_ := Aside0.mk (KeepBut.blk hk (g' := gb307) (o := .cells #[.slice none 0 0, .slice none 0 0] 47 (0, 0)) (by (with_reducible repeat (first | refine blk_drewN ?_ _ | refine blk_drew ?_ | refine blk_alloc ?_ _)); exact BK307.out) NB307_308.out (by simp))
                  have n1_ := Aside0.mk (Kd.R_mono (Kd.R_keep (IsS94.apart (show IsS94 w _ gb308 l0 t336 t337 from by repeat (first | (with_reducible first | exact HI308.out | apply IsS94.alloc | apply IsS94.drewN | apply IsS94.drew | apply IsS94.set_1 | apply IsS94.set_2 | refine IsS94.far ?_ NB308_307.out _ | refine IsS94.far ?_ NB308_316.out _) | exact HI308.out)) (by (with_reducible repeat (first | apply Kd.R_alloc | apply Kd.R_drewN | apply Kd.R_drew)); exact HO311.out) (by decide)) hk (fun _ h => h.2)) (fun _ h => h.1))
                  have n2_ := Aside0.mk (Kd.R_mono (Kd.R_keep (IsS94.apart (show IsS94 w _ gb308 l0 t336 t337 from by repeat (first | (with_reducible first | exact HI308.out | apply IsS94.alloc | apply IsS94.drewN | apply IsS94.drew | apply IsS94.set_1 | apply IsS94.set_2 | refine IsS94.far ?_ NB308_307.out _ | refine IsS94.far ?_ NB308_316.out _) | exact HI308.out)) (by (with_reducible repeat (first | apply Kd.R_alloc | apply Kd.R_drewN | apply Kd.R_drew)); exact HO314.out) (by decide)) hk (fun _ h => h.2)) (fun _ h => h.1))
                  have n3_ := Aside0.mk (KeepBut.blk hk (g' := gb316) (o := .cells #[.slice Ao20 t309.length co20, .slice Ao24 t312.length co24] 47 (0, 0)) (by (with_reducible repeat (first | refine blk_drewN ?_ _ | refine blk_drew ?_ | refine blk_alloc ?_ _)); exact BK316.out) NB316_308.out (by simp))
                  have n4_ := Aside0.mk (Kd.R_mono (Kd.R_keep (IsS94.apart (show IsS94 w _ gb308 l0 t336 t337 from by repeat (first | (with_reducible first | exact HI308.out | apply IsS94.alloc | apply IsS94.drewN | apply IsS94.drew | apply IsS94.set_1 | apply IsS94.set_2 | refine IsS94.far ?_ NB308_307.out _ | refine IsS94.far ?_ NB308_316.out _) | exact HI308.out)) (by (with_reducible repeat (first | apply Kd.R_alloc | apply Kd.R_drewN | apply Kd.R_drew)); exact HO325.out) (by decide)) hk (fun _ h => h.2)) (fun _ h => h.1))
                  have n5_ := Aside0.mk (Kd.R_mono (Kd.R_keep (IsS94.apart (show IsS94 w _ gb308 l0 t336 t337 from by repeat (first | (with_reducible first | exact HI308.out | apply IsS94.alloc | apply IsS94.drewN | apply IsS94.drew | apply IsS94.set_1 | apply IsS94.set_2 | refine IsS94.far ?_ NB308_307.out _ | refine IsS94.far ?_ NB308_316.out _) | exact HI308.out)) (by (with_reducible repeat (first | apply Kd.R_alloc | apply Kd.R_drewN | apply Kd.R_drew)); exact HO340.out) (by decide)) hk (fun _ h => h.2)) (fun _ h => h.1))
                  have n6_ := Aside0.mk (Kd.R_mono (Kd.R_keep (IsS94.apart (show IsS94 w _ gb308 l0 t336 t337 from by repeat (first | (with_reducible first | exact HI308.out | apply IsS94.alloc | apply IsS94.drewN | apply IsS94.drew | apply IsS94.set_1 | apply IsS94.set_2 | refine IsS94.far ?_ NB308_307.out _ | refine IsS94.far ?_ NB308_316.out _) | exact HI308.out)) (by (with_reducible repeat (first | apply Kd.R_alloc | apply Kd.R_drewN | apply Kd.R_drew)); exact HO343.out) (by decide)) hk (fun _ h => h.2)) (fun _ h => h.1))
                  have n7_ := Aside0.mk (hb)
                  have n8_ := Aside0.mk (hi)
                  clear BK307
                  clear HO311
                  clear HO314
                  clear BK316
                  clear HO325
                  clear HO340
                  clear HO343
                  clear HB
                  clear HI308
                  have BK307 := n0_
                  have HO311 := n1_
                  have HO314 := n2_
                  have BK316 := n3_
                  have HO325 := n4_
                  have HO340 := n5_
                  have HO343 := n6_
                  have HB := n7_
                  have HI308 := n8_
                  clear n0_ n1_ n2_ n3_ n4_ n5_ n6_ n7_ n8_
                  (try clear hb)
                  (try clear hb2)
                  (try clear hk)
                  (try clear hi)
                  refine hK.out _ _ ⟨(blk_cell BK316.out 0).trans rfl, (blk_cell BK316.out 1).trans rfl⟩ (fun hHeld => ?_)
                  clear hK K
                  refine norm_ (a' := ?_) ?_ ?_
                  rotate_left
                  · show Act.put _ (some 45) _ = _
                    simp only [Act.put, List.setIfInBounds_toArray, List.set_cons_zero, List.set_cons_succ, i64_w, i32_w]
                    rfl
                  refine pure_ (i := 6) (N := some 46) (v := ?_) (a' := ?_) #[true, true, true, true, true, true, true, false, false, false, true, false, false, false, false] rfl rfl (any_of HT_.out (by kernel_rfl)) (fun _ _ _ h => h) (Or.inl ⟨by rfl, ?_⟩) ?_ ?_
                  rotate_left
                  · intro w'
                    go_simp
                    with_reducible rfl
                  rotate_left
                  · simp only [Act.put, List.setIfInBounds_toArray, List.set_cons_zero, List.set_cons_succ, i64_w, i32_w]
                    rfl
                  refine pure_ (i := 7) (N := some 47) (v := ?_) (a' := ?_) #[true, true, true, true, true, true, true, true, false, false, true, false, false, false, false] rfl rfl (any_of HT_.out (by kernel_rfl)) (fun _ _ _ h => h) (Or.inl ⟨by rfl, ?_⟩) ?_ ?_
                  rotate_left
                  · intro w'
                    go_simp
                    with_reducible rfl
                  rotate_left
                  · simp only [Act.put, List.setIfInBounds_toArray, List.set_cons_zero, List.set_cons_succ, i64_w, i32_w]
                    rfl
                  exact norm_ (by simp only [putAll, Act.put, List.setIfInBounds_toArray, List.set_cons_zero, List.set_cons_succ]) (hCont (v342) _ ⟨hHeld, (by (with_reducible repeat (first | apply Kd.R_alloc | apply Kd.R_drewN | apply Kd.R_drew)); exact Kd.R_mono HO311.out (fun _ hk => ⟨hk.1.1.1, ⟨hk.1.1.2, ⟨hk.1.2, hk.2⟩⟩⟩)), (by (with_reducible repeat (first | apply Kd.R_alloc | apply Kd.R_drewN | apply Kd.R_drew)); exact Kd.R_mono HO314.out (fun _ hk => ⟨hk.1.1.1, ⟨hk.1.1.2, ⟨hk.1.2, hk.2⟩⟩⟩)), (by (with_reducible repeat (first | apply Kd.R_alloc | apply Kd.R_drewN | apply Kd.R_drew)); exact Kd.R_mono HO325.out (fun _ hk => ⟨hk.1.1.1, ⟨hk.1.1.2, ⟨hk.1.2, hk.2⟩⟩⟩)), (by (with_reducible repeat (first | apply Kd.R_alloc | apply Kd.R_drewN | apply Kd.R_drew)); exact Kd.R_mono HO340.out (fun _ hk => ⟨hk.1.1, ⟨hk.1.2.1, ⟨hk.1.2.2, hk.2⟩⟩⟩)), (by (with_reducible repeat (first | apply Kd.R_alloc | apply Kd.R_drewN | apply Kd.R_drew)); exact Kd.R_mono HO343.out (fun _ hk => ⟨hk.1.1.1.2, ⟨hk.1.1.2, ⟨hk.1.2, hk.2⟩⟩⟩)), (by (with_reducible repeat (first | refine blk_drewN ?_ _ | refine blk_drew ?_ | refine blk_alloc ?_ _)); exact BK307.out), (by (with_reducible repeat (first | refine blk_drewN ?_ _ | refine blk_drew ?_ | refine blk_alloc ?_ _)); exact BK316.out), (by repeat (first | (with_reducible first | exact HI308.out | apply IsS94.alloc | apply IsS94.drewN | apply IsS94.drew | apply IsS94.set_1 | apply IsS94.set_2 | refine IsS94.far ?_ NB308_307.out _ | refine IsS94.far ?_ NB308_316.out _) | exact HI308.out)), (by repeat (first | (with_reducible first | exact HB.out | apply below_alloc | apply pw_below_drewN | apply below_drew1 | refine below_set ?_ (IsS94.ge HI308.out) | refine below_set ?_ GE307.out | refine below_set ?_ GE316.out) | exact HB.out))⟩)
                · skip
                  refine goes_ Try.func72 (by kernel_rfl) rfl #[.pointer (some ⟨gb308, 0, none⟩), .int .i64 40] (by rfl) rfl rfl (by (try simp only [List.map_toArray, List.map_cons, List.map_nil]); first | done | rfl | (simp only [List.length_drop, List.length_take]; rfl)) ?_
                  with_reducible refine (spec_l1Cur_pick.calls gb308 l0 t336 t337 40 t344 t345 t346 w _ ?side1 ?side2 A11.out).mono ?_
                  (case side1 => repeat (first | (with_reducible first | exact HI308.out | apply IsS94.alloc | apply IsS94.drewN | apply IsS94.drew | apply IsS94.set_1 | apply IsS94.set_2 | refine IsS94.far ?_ NB308_307.out _ | refine IsS94.far ?_ NB308_316.out _) | exact HI308.out))
                  (case side2 => repeat (first | (with_reducible first | exact HB.out | apply below_alloc | apply pw_below_drewN | apply below_drew1 | refine below_set ?_ (IsS94.ge HI308.out) | refine below_set ?_ GE307.out | refine below_set ?_ GE316.out) | exact HB.out))
                  rintro e w37 ⟨rfl, hi, hb, hk⟩
                  refine ⟨_, rfl, ?_⟩
                  have n0_ := Aside0.mk (KeepBut.blk hk (g' := gb307) (o := .cells #[.slice none 0 0, .slice none 0 0] 47 (0, 0)) (by (with_reducible repeat (first | refine blk_drewN ?_ _ | refine blk_drew ?_ | refine blk_alloc ?_ _)); exact BK307.out) NB307_308.out (by simp))
                  have n1_ := Aside0.mk (Kd.R_mono (Kd.R_keep (IsS94.apart (show IsS94 w _ gb308 l0 t336 t337 from by repeat (first | (with_reducible first | exact HI308.out | apply IsS94.alloc | apply IsS94.drewN | apply IsS94.drew | apply IsS94.set_1 | apply IsS94.set_2 | refine IsS94.far ?_ NB308_307.out _ | refine IsS94.far ?_ NB308_316.out _) | exact HI308.out)) (by (with_reducible repeat (first | apply Kd.R_alloc | apply Kd.R_drewN | apply Kd.R_drew)); exact HO311.out) (by decide)) hk (fun _ h => h.2)) (fun _ h => h.1))
                  have n2_ := Aside0.mk (Kd.R_mono (Kd.R_keep (IsS94.apart (show IsS94 w _ gb308 l0 t336 t337 from by repeat (first | (with_reducible first | exact HI308.out | apply IsS94.alloc | apply IsS94.drewN | apply IsS94.drew | apply IsS94.set_1 | apply IsS94.set_2 | refine IsS94.far ?_ NB308_307.out _ | refine IsS94.far ?_ NB308_316.out _) | exact HI308.out)) (by (with_reducible repeat (first | apply Kd.R_alloc | apply Kd.R_drewN | apply Kd.R_drew)); exact HO314.out) (by decide)) hk (fun _ h => h.2)) (fun _ h => h.1))
                  have n3_ := Aside0.mk (KeepBut.blk hk (g' := gb316) (o := .cells #[.slice Ao20 t309.length co20, .slice Ao24 t312.length co24] 47 (0, 0)) (by (with_reducible repeat (first | refine blk_drewN ?_ _ | refine blk_drew ?_ | refine blk_alloc ?_ _)); exact BK316.out) NB316_308.out (by simp))
                  have n4_ := Aside0.mk (Kd.R_mono (Kd.R_keep (IsS94.apart (show IsS94 w _ gb308 l0 t336 t337 from by repeat (first | (with_reducible first | exact HI308.out | apply IsS94.alloc | apply IsS94.drewN | apply IsS94.drew | apply IsS94.set_1 | apply IsS94.set_2 | refine IsS94.far ?_ NB308_307.out _ | refine IsS94.far ?_ NB308_316.out _) | exact HI308.out)) (by (with_reducible repeat (first | apply Kd.R_alloc | apply Kd.R_drewN | apply Kd.R_drew)); exact HO325.out) (by decide)) hk (fun _ h => h.2)) (fun _ h => h.1))
                  have n5_ := Aside0.mk (Kd.R_mono (Kd.R_keep (IsS94.apart (show IsS94 w _ gb308 l0 t336 t337 from by repeat (first | (with_reducible first | exact HI308.out | apply IsS94.alloc | apply IsS94.drewN | apply IsS94.drew | apply IsS94.set_1 | apply IsS94.set_2 | refine IsS94.far ?_ NB308_307.out _ | refine IsS94.far ?_ NB308_316.out _) | exact HI308.out)) (by (with_reducible repeat (first | apply Kd.R_alloc | apply Kd.R_drewN | apply Kd.R_drew)); exact HO340.out) (by decide)) hk (fun _ h => h.2)) (fun _ h => h.1))
                  have n6_ := Aside0.mk (hb)
                  have n7_ := Aside0.mk (hi)
                  clear BK307
                  clear HO311
                  clear HO314
                  clear BK316
                  clear HO325
                  clear HO340
                  clear HB
                  clear HI308
                  have BK307 := n0_
                  have HO311 := n1_
                  have HO314 := n2_
                  have BK316 := n3_
                  have HO325 := n4_
                  have HO340 := n5_
                  have HB := n6_
                  have HI308 := n7_
                  clear n0_ n1_ n2_ n3_ n4_ n5_ n6_ n7_
                  (try clear hb)
                  (try clear hb2)
                  (try clear hk)
                  (try clear hi)
                  refine hK.out _ _ ⟨(blk_cell BK316.out 0).trans rfl, (blk_cell BK316.out 1).trans rfl⟩ (fun hHeld => ?_)
                  clear hK K
                  refine norm_ (a' := ?_) ?_ ?_
                  rotate_left
                  · show Act.put _ (some 45) _ = _
                    simp only [Act.put, List.setIfInBounds_toArray, List.set_cons_zero, List.set_cons_succ, i64_w, i32_w]
                    rfl
                  refine pure_ (i := 6) (N := some 46) (v := ?_) (a' := ?_) #[true, true, true, false, true, true, true, false, false, false, true, false, false, false, false] rfl rfl (any_of HT_.out (by kernel_rfl)) (fun _ _ _ h => h) (Or.inl ⟨by rfl, ?_⟩) ?_ ?_
                  rotate_left
                  · intro w'
                    go_simp
                    with_reducible rfl
                  rotate_left
                  · simp only [Act.put, List.setIfInBounds_toArray, List.set_cons_zero, List.set_cons_succ, i64_w, i32_w]
                    rfl
                  refine pure_ (i := 7) (N := some 47) (v := ?_) (a' := ?_) #[true, true, true, false, true, true, true, true, false, false, true, false, false, false, false] rfl rfl (any_of HT_.out (by kernel_rfl)) (fun _ _ _ h => h) (Or.inl ⟨by rfl, ?_⟩) ?_ ?_
                  rotate_left
                  · intro w'
                    go_simp
                    with_reducible rfl
                  rotate_left
                  · simp only [Act.put, List.setIfInBounds_toArray, List.set_cons_zero, List.set_cons_succ, i64_w, i32_w]
                    rfl
                  refine one_ (i := 3) (N := some 43) #[true, true, true, true, true, true, true, true, false, false, true, false, false, false, false] rfl rfl (one_of HT_.out (by kernel_rfl)) (by decide) (fun K hK => ?_)
                  refine Kd.R_lit_step (Kd.int .i64) _ 3 ?hg (N := 43) ?hd (xs := ([0, 1, 3, 5, 20, 60, 61, (-1)] : List Int)) (inner := [.int .i64 0, .int .i64 1, .int .i64 3, .int .i64 5, .int .i64 20, .int .i64 60, .int .i64 61, .int .i64 (-1)]) (ok := fun _ => True) (okp := fun _ => True) ?hr ?hp (fun _ hk => hk) trivial (Below.refl _ _) (Nat.le_refl _) (by simp) ?_; (case hd => rfl); (case hg => rfl); (case hr => first | (go_simp; done) | (go_simp; rfl)); (case hp => exact (Reps.one (show Kd.M (Kd.int .i64) _ _ _ 0 [.int .i64 0] from rfl) (Reps.one (show Kd.M (Kd.int .i64) _ _ _ 1 [.int .i64 1] from rfl) (Reps.one (show Kd.M (Kd.int .i64) _ _ _ 3 [.int .i64 3] from rfl) (Reps.one (show Kd.M (Kd.int .i64) _ _ _ 5 [.int .i64 5] from rfl) (Reps.one (show Kd.M (Kd.int .i64) _ _ _ 20 [.int .i64 20] from rfl) (Reps.one (show Kd.M (Kd.int .i64) _ _ _ 60 [.int .i64 60] from rfl) (Reps.one (show Kd.M (Kd.int .i64) _ _ _ 61 [.int .i64 61] from rfl) (Reps.one (show Kd.M (Kd.int .i64) _ _ _ (-1) [.int .i64 (-1)] from rfl) (Reps.none _ _))))))))))
                  intro v342 w38 ho39 hb hg_ hnew_
                  clear hg_ hnew_
                  (first | rw [← Ny341.out] at ho39 | (simp only [Int.reduceToNat] at ho39; rw [← Ny341.out] at ho39))
                  have n0_ := Aside0.mk (Kd.R_elder' (by (with_reducible repeat (first | apply Kd.R_alloc | apply Kd.R_drewN | apply Kd.R_drew)); exact HO311.out) (Kd.R_base ho39) hb)
                  have n1_ := Aside0.mk (Kd.R_elder' (by (with_reducible repeat (first | apply Kd.R_alloc | apply Kd.R_drewN | apply Kd.R_drew)); exact HO314.out) (Kd.R_base ho39) hb)
                  have n2_ := Aside0.mk (Kd.R_elder' (by (with_reducible repeat (first | apply Kd.R_alloc | apply Kd.R_drewN | apply Kd.R_drew)); exact HO325.out) (Kd.R_base ho39) hb)
                  have n3_ := Aside0.mk (Kd.R_elder' (by (with_reducible repeat (first | apply Kd.R_alloc | apply Kd.R_drewN | apply Kd.R_drew)); exact HO340.out) (Kd.R_base ho39) hb)
                  have n4_ := Aside0.mk (Kd.R_lower (Kd.R_new' (Kd.R_new' (Kd.R_new' (Kd.R_new' ho39 (Kd.R_lt (by (with_reducible repeat (first | apply Kd.R_alloc | apply Kd.R_drewN | apply Kd.R_drew)); exact HO311.out))) (Kd.R_lt (by (with_reducible repeat (first | apply Kd.R_alloc | apply Kd.R_drewN | apply Kd.R_drew)); exact HO314.out))) (Kd.R_lt (by (with_reducible repeat (first | apply Kd.R_alloc | apply Kd.R_drewN | apply Kd.R_drew)); exact HO325.out))) (Kd.R_lt (by (with_reducible repeat (first | apply Kd.R_alloc | apply Kd.R_drewN | apply Kd.R_drew)); exact HO340.out))) (below_size (by repeat (first | (with_reducible first | exact HB.out | apply below_alloc | apply pw_below_drewN | apply below_drew1 | refine below_set ?_ (IsS94.ge HI308.out) | refine below_set ?_ GE307.out | refine below_set ?_ GE316.out) | exact HB.out))))
                  have n5_ := Aside0.mk (blk_below (g := gb307) (o := .cells #[.slice none 0 0, .slice none 0 0] 47 (0, 0)) (by (with_reducible repeat (first | refine blk_drewN ?_ _ | refine blk_drew ?_ | refine blk_alloc ?_ _)); exact BK307.out) hb)
                  have n6_ := Aside0.mk (IsS94.below (by repeat (first | (with_reducible first | exact HI308.out | apply IsS94.alloc | apply IsS94.drewN | apply IsS94.drew | apply IsS94.set_1 | apply IsS94.set_2 | refine IsS94.far ?_ NB308_307.out _ | refine IsS94.far ?_ NB308_316.out _) | exact HI308.out)) hb)
                  have n7_ := Aside0.mk (blk_below (g := gb316) (o := .cells #[.slice Ao20 t309.length co20, .slice Ao24 t312.length co24] 47 (0, 0)) (by (with_reducible repeat (first | refine blk_drewN ?_ _ | refine blk_drew ?_ | refine blk_alloc ?_ _)); exact BK316.out) hb)
                  have n8_ := Aside0.mk (below_step (by repeat (first | (with_reducible first | exact HB.out | apply below_alloc | apply pw_below_drewN | apply below_drew1 | refine below_set ?_ (IsS94.ge HI308.out) | refine below_set ?_ GE307.out | refine below_set ?_ GE316.out) | exact HB.out)) hb)
                  clear HO311
                  clear HO314
                  clear HO325
                  clear HO340
                  clear BK307
                  clear HI308
                  clear BK316
                  clear HB
                  have HO311 := n0_
                  have HO314 := n1_
                  have HO325 := n2_
                  have HO340 := n3_
                  have HO343 := n4_
                  have BK307 := n5_
                  have HI308 := n6_
                  have BK316 := n7_
                  have HB := n8_
                  clear n0_ n1_ n2_ n3_ n4_ n5_ n6_ n7_ n8_
                  clear hb ho39
                  refine hK.out _ _ ⟨(blk_cell BK316.out 0).trans rfl, (blk_cell BK316.out 1).trans rfl⟩ (fun hHeld => ?_)
                  clear hK K
                  refine norm_ (a' := ?_) ?_ ?_
                  rotate_left
                  · show Act.put _ (some 43) _ = _
                    simp only [Act.put, List.setIfInBounds_toArray, List.set_cons_zero, List.set_cons_succ, i64_w, i32_w]
                    rfl
                  exact norm_ (by simp only [putAll, Act.put, List.setIfInBounds_toArray, List.set_cons_zero, List.set_cons_succ]) (hCont (v342) _ ⟨hHeld, (by (with_reducible repeat (first | apply Kd.R_alloc | apply Kd.R_drewN | apply Kd.R_drew)); exact Kd.R_mono HO311.out (fun _ hk => ⟨hk.1.1.1, ⟨hk.1.1.2, ⟨hk.1.2, hk.2⟩⟩⟩)), (by (with_reducible repeat (first | apply Kd.R_alloc | apply Kd.R_drewN | apply Kd.R_drew)); exact Kd.R_mono HO314.out (fun _ hk => ⟨hk.1.1.1, ⟨hk.1.1.2, ⟨hk.1.2, hk.2⟩⟩⟩)), (by (with_reducible repeat (first | apply Kd.R_alloc | apply Kd.R_drewN | apply Kd.R_drew)); exact Kd.R_mono HO325.out (fun _ hk => ⟨hk.1.1.1, ⟨hk.1.1.2, ⟨hk.1.2, hk.2⟩⟩⟩)), (by (with_reducible repeat (first | apply Kd.R_alloc | apply Kd.R_drewN | apply Kd.R_drew)); exact Kd.R_mono HO340.out (fun _ hk => ⟨hk.1.1, ⟨hk.1.2.1, ⟨hk.1.2.2, hk.2⟩⟩⟩)), (by (with_reducible repeat (first | apply Kd.R_alloc | apply Kd.R_drewN | apply Kd.R_drew)); exact Kd.R_mono HO343.out (fun _ hk => ⟨hk.1.1.1.2, ⟨hk.1.1.2, ⟨hk.1.2, hk.2⟩⟩⟩)), (by (with_reducible repeat (first | refine blk_drewN ?_ _ | refine blk_drew ?_ | refine blk_alloc ?_ _)); exact BK307.out), (by (with_reducible repeat (first | refine blk_drewN ?_ _ | refine blk_drew ?_ | refine blk_alloc ?_ _)); exact BK316.out), (by repeat (first | (with_reducible first | exact HI308.out | apply IsS94.alloc | apply IsS94.drewN | apply IsS94.drew | apply IsS94.set_1 | apply IsS94.set_2 | refine IsS94.far ?_ NB308_307.out _ | refine IsS94.far ?_ NB308_316.out _) | exact HI308.out)), (by repeat (first | (with_reducible first | exact HB.out | apply below_alloc | apply pw_below_drewN | apply below_drew1 | refine below_set ?_ (IsS94.ge HI308.out) | refine below_set ?_ GE307.out | refine below_set ?_ GE316.out) | exact HB.out))⟩)
              rintro v342 w40 ⟨hS_, h0_, h1_, h2_, h3_, h4_, h5_, h6_, h7_, h8_⟩
              have n0_ : Aside0 (Kd.R (Kd.int .i64) 3 w40 w.heap.size (fun k_ => some k_ ≠ (.slice Ao24 t312.length co24 : Value).ownBlock ∧ some k_ ≠ (.slice Ao30 y323.length co30 : Value).ownBlock ∧ some k_ ≠ (v339 : Value).ownBlock ∧ some k_ ≠ (v342 : Value).ownBlock) (.slice Ao20 t309.length co20) t309) := ⟨h0_⟩
              have n1_ : Aside0 (Kd.R (Kd.int .i64) 3 w40 w.heap.size (fun k_ => some k_ ≠ (.slice Ao20 t309.length co20 : Value).ownBlock ∧ some k_ ≠ (.slice Ao30 y323.length co30 : Value).ownBlock ∧ some k_ ≠ (v339 : Value).ownBlock ∧ some k_ ≠ (v342 : Value).ownBlock) (.slice Ao24 t312.length co24) t312) := ⟨h1_⟩
              have n2_ : Aside0 (Kd.R (Kd.int .i64) 3 w40 w.heap.size (fun k_ => some k_ ≠ (.slice Ao20 t309.length co20 : Value).ownBlock ∧ some k_ ≠ (.slice Ao24 t312.length co24 : Value).ownBlock ∧ some k_ ≠ (v339 : Value).ownBlock ∧ some k_ ≠ (v342 : Value).ownBlock) (.slice Ao30 y323.length co30) y323) := ⟨h2_⟩
              have n3_ : Aside0 (Kd.R (Kd.int .i64) 3 w40 w.heap.size (fun k_ => some k_ ≠ (.slice Ao20 t309.length co20 : Value).ownBlock ∧ some k_ ≠ (.slice Ao24 t312.length co24 : Value).ownBlock ∧ some k_ ≠ (.slice Ao30 y323.length co30 : Value).ownBlock ∧ some k_ ≠ (v342 : Value).ownBlock) v339 y338) := ⟨h3_⟩
              have n4_ : Aside0 (Kd.R (Kd.int .i64) 3 w40 w.heap.size (fun k_ => some k_ ≠ (.slice Ao20 t309.length co20 : Value).ownBlock ∧ some k_ ≠ (.slice Ao24 t312.length co24 : Value).ownBlock ∧ some k_ ≠ (.slice Ao30 y323.length co30 : Value).ownBlock ∧ some k_ ≠ (v339 : Value).ownBlock) v342 y341) := ⟨h4_⟩
              have n5_ : Aside0 (w40.heap[gb307]? = some (.cells #[.slice none 0 0, .slice none 0 0] 47 (0, 0))) := ⟨h5_⟩
              have n6_ : Aside0 (w40.heap[gb316]? = some (.cells #[.slice Ao20 t309.length co20, .slice Ao24 t312.length co24] 47 (0, 0))) := ⟨h6_⟩
              have n7_ : Aside0 (IsS94 w w40 gb308 l0 t345 t346) := ⟨h7_⟩
              have n8_ : Aside0 (Below w.heap.size w w40) := ⟨h8_⟩
              clear HO311
              clear HO314
              clear HO325
              clear HO340
              clear BK307
              clear BK316
              clear HI308
              clear HB
              clear h0_ h1_ h2_ h3_ h4_ h5_ h6_ h7_ h8_
              have HO311 := n0_
              have HO314 := n1_
              have HO325 := n2_
              have HO340 := n3_
              have HO343 := n4_
              have BK307 := n5_
              have BK316 := n6_
              have HI308 := n7_
              have HB := n8_
              clear n0_ n1_ n2_ n3_ n4_ n5_ n6_ n7_ n8_
              have hHeld : w40.cell? ⟨gb316, 0, none⟩ = some (.slice Ao20 t309.length co20) ∧ w40.cell? ⟨gb316, 1, none⟩ = some (.slice Ao24 t312.length co24) := hS_
              obtain ⟨Ao42, co42, eo42⟩ := Kd.R_slice HO343.out
              (first | subst eo42 | (injection eo42 with f1_ f2_ f3_; have f4_ := f1_.symm; have f5_ := f3_.symm; clear f1_ f2_ f3_; subst f4_; subst f5_))
              have q41 : ((ji12) : Int) ≤ ((y341.length : Int) : Int) := of_decide_eq_true (by first | (with_reducible assumption) | assumption)
              obtain ⟨i041, hi041, _, hsz41, _⟩ := info_parts info3
              have hroom41 : y341.length ≤ co42 := (Kd.R_reads' HO343.out).2.1
              have hC41 : Kd.C (Kd.int .i64) _ Ao42 y341.length y341 := (Kd.R_reads' HO343.out).2.2
              have hcut41 := cut_to (P := Try.prog) 36 3 .i64 Try.underlying36 hi041 Ao42 y341.length co42 (ji12) (of_decide_eq_true (by first | (with_reducible assumption) | assumption)) q41 hroom41
              have hr41 := Kd.C_take (m := ((ji12) : Int).toNat) hC41 (by omega)
              have hy41 : y347.length = ((ji12) : Int).toNat := (by rw [Ny347.out, List.length_take]; omega)
              rw [← Ny347.out] at hr41
              rw [← hy41] at hcut41
              have HR350 := Aside0.mk hr41
              have HC350 := Aside0.mk (show y347.length ≤ co42 from by omega)
              clear hr41 hC41 hroom41 hi041 hsz41
              have KY41 := Aside0.mk hy41
              clear hy41
              have KL41 := Aside0.mk (show ((ji12) : Int).toNat ≤ y341.length from by omega)
              replace q41 := eq_true q41
              refine norm_ (a' := ?_) ?_ ?_
              rotate_left
              · simp only [putAll, Act.put, List.setIfInBounds_toArray, List.set_cons_zero, List.set_cons_succ]
                rfl
              refine pure_ (i := 8) (N := some 48) (v := ?_) (a' := ?_) #[true, true, true, true, true, true, true, true, true, false, true, false, false, false, false] rfl rfl (any_of HT_.out (by kernel_rfl)) (fun _ _ _ h => h) (Or.inl ⟨by rfl, ?_⟩) ?_ ?_
              rotate_left
              · intro w'
                go_simp
                with_reducible rfl
              rotate_left
              · simp only [Act.put, List.setIfInBounds_toArray, List.set_cons_zero, List.set_cons_succ, i64_w, i32_w]
                rfl
              refine one_ (i := 9) (N := some 49) #[true, true, true, true, true, true, true, true, true, true, true, false, false, false, false] rfl rfl (one_of HT_.out (by kernel_rfl)) (by decide) (fun K hK => ?_)
              refine goes_ Try.func71 (by kernel_rfl) rfl #[.pointer (some ⟨gb308, 0, none⟩), .slice Ao42 y347.length co42] (by rfl) rfl rfl (by (try simp only [List.map_toArray, List.map_cons, List.map_nil]); first | done | rfl | (simp only [List.length_drop, List.length_take]; rfl)) ?_
              with_reducible refine (spec_l1Cur_among.calls gb308 l0 t345 t346 _ _ y347 t351 t352 t353 w _ ?side1 ?side2 ?side3 ?side4 ?side5 A15.out).mono ?_
              (case side1 => repeat (first | (with_reducible first | exact HI308.out | apply IsS94.alloc | apply IsS94.drewN | apply IsS94.drew | apply IsS94.set_1 | apply IsS94.set_2 | refine IsS94.far ?_ NB308_307.out _ | refine IsS94.far ?_ NB308_316.out _) | exact HI308.out))
              (case side2 => repeat (first | (with_reducible first | exact HB.out | apply below_alloc | apply pw_below_drewN | apply below_drew1 | refine below_set ?_ (IsS94.ge HI308.out) | refine below_set ?_ GE307.out | refine below_set ?_ GE316.out) | exact HB.out))
              (case side3 => repeat (first | exact (by repeat (first | (with_reducible exact HR350.out) | (with_reducible refine Kd.C_alloc ?_ _) | (with_reducible refine Kd.C_drewN ?_ _) | (with_reducible refine Kd.C_drew ?_) | exact HR350.out)) | (with_reducible refine Kd.C_alloc ?_ _) | (with_reducible refine Kd.C_drewN ?_ _) | (with_reducible refine Kd.C_drew ?_)))
              (case side4 => exact HC350.out)
              (case side5 => exact fun ad_ e_ _ hq_ => (IsS94.own_ne HI308.out HO343.out (by decide)) (by rw [e_, ← hq_]; rfl))
              rintro e w43 ⟨rfl, hi, hb, hk⟩
              refine ⟨_, rfl, ?_⟩
              have n0_ := Aside0.mk (KeepBut.blk hk (g' := gb307) (o := .cells #[.slice none 0 0, .slice none 0 0] 47 (0, 0)) (by (with_reducible repeat (first | refine blk_drewN ?_ _ | refine blk_drew ?_ | refine blk_alloc ?_ _)); exact BK307.out) NB307_308.out (by simp))
              have n1_ := Aside0.mk (Kd.R_mono (Kd.R_keep (IsS94.apart (show IsS94 w _ gb308 l0 t345 t346 from by repeat (first | (with_reducible first | exact HI308.out | apply IsS94.alloc | apply IsS94.drewN | apply IsS94.drew | apply IsS94.set_1 | apply IsS94.set_2 | refine IsS94.far ?_ NB308_307.out _ | refine IsS94.far ?_ NB308_316.out _) | exact HI308.out)) (by (with_reducible repeat (first | apply Kd.R_alloc | apply Kd.R_drewN | apply Kd.R_drew)); exact HO311.out) (by decide)) hk (fun _ h => h.2)) (fun _ h => h.1))
              have n2_ := Aside0.mk (Kd.R_mono (Kd.R_keep (IsS94.apart (show IsS94 w _ gb308 l0 t345 t346 from by repeat (first | (with_reducible first | exact HI308.out | apply IsS94.alloc | apply IsS94.drewN | apply IsS94.drew | apply IsS94.set_1 | apply IsS94.set_2 | refine IsS94.far ?_ NB308_307.out _ | refine IsS94.far ?_ NB308_316.out _) | exact HI308.out)) (by (with_reducible repeat (first | apply Kd.R_alloc | apply Kd.R_drewN | apply Kd.R_drew)); exact HO314.out) (by decide)) hk (fun _ h => h.2)) (fun _ h => h.1))
              have n3_ := Aside0.mk (KeepBut.blk hk (g' := gb316) (o := .cells #[.slice Ao20 t309.length co20, .slice Ao24 t312.length co24] 47 (0, 0)) (by (with_reducible repeat (first | refine blk_drewN ?_ _ | refine blk_drew ?_ | refine blk_alloc ?_ _)); exact BK316.out) NB316_308.out (by simp))
              have n4_ := Aside0.mk (Kd.R_mono (Kd.R_keep (IsS94.apart (show IsS94 w _ gb308 l0 t345 t346 from by repeat (first | (with_reducible first | exact HI308.out | apply IsS94.alloc | apply IsS94.drewN | apply IsS94.drew | apply IsS94.set_1 | apply IsS94.set_2 | refine IsS94.far ?_ NB308_307.out _ | refine IsS94.far ?_ NB308_316.out _) | exact HI308.out)) (by (with_reducible repeat (first | apply Kd.R_alloc | apply Kd.R_drewN | apply Kd.R_drew)); exact HO325.out) (by decide)) hk (fun _ h => h.2)) (fun _ h => h.1))
              have n5_ := Aside0.mk (Kd.R_mono (Kd.R_keep (IsS94.apart (show IsS94 w _ gb308 l0 t345 t346 from by repeat (first | (with_reducible first | exact HI308.out | apply IsS94.alloc | apply IsS94.drewN | apply IsS94.drew | apply IsS94.set_1 | apply IsS94.set_2 | refine IsS94.far ?_ NB308_307.out _ | refine IsS94.far ?_ NB308_316.out _) | exact HI308.out)) (by (with_reducible repeat (first | apply Kd.R_alloc | apply Kd.R_drewN | apply Kd.R_drew)); exact HO340.out) (by decide)) hk (fun _ h => h.2)) (fun _ h => h.1))
              have n6_ := Aside0.mk (Kd.R_mono (Kd.R_keep (IsS94.apart (show IsS94 w _ gb308 l0 t345 t346 from by repeat (first | (with_reducible first | exact HI308.out | apply IsS94.alloc | apply IsS94.drewN | apply IsS94.drew | apply IsS94.set_1 | apply IsS94.set_2 | refine IsS94.far ?_ NB308_307.out _ | refine IsS94.far ?_ NB308_316.out _) | exact HI308.out)) (by (with_reducible repeat (first | apply Kd.R_alloc | apply Kd.R_drewN | apply Kd.R_drew)); exact HO343.out) (by decide)) hk (fun _ h => h.2)) (fun _ h => h.1))
              have n7_ := Aside0.mk (hb)
              have n8_ := Aside0.mk (hi)
              clear BK307
              clear HO311
              clear HO314
              clear BK316
              clear HO325
              clear HO340
              clear HO343
              clear HB
              clear HI308
              have BK307 := n0_
              have HO311 := n1_
              have HO314 := n2_
              have BK316 := n3_
              have HO325 := n4_
              have HO340 := n5_
              have HO343 := n6_
              have HB := n7_
              have HI308 := n8_
              clear n0_ n1_ n2_ n3_ n4_ n5_ n6_ n7_ n8_
              (try clear hb)
              (try clear hb2)
              (try clear hk)
              (try clear hi)
              refine hK.out _ _ ⟨(blk_cell BK316.out 0).trans rfl, (blk_cell BK316.out 1).trans rfl⟩ (fun hHeld => ?_)
              clear hK K
              refine norm_ (a' := ?_) ?_ ?_
              rotate_left
              · show Act.put _ (some 49) _ = _
                simp only [Act.put, List.setIfInBounds_toArray, List.set_cons_zero, List.set_cons_succ, i64_w, i32_w]
                rfl
              refine one_ (i := 11) (N := none) #[true, true, true, true, true, true, true, true, true, true, true, true, false, false, false] rfl rfl (one_of HT_.out (by kernel_rfl)) (by decide) (fun K hK => ?_)
              have hs44 : w43.cell? ⟨gb307, 0, none⟩ = some (.slice none 0 0) := (blk_cell BK307.out 0).trans rfl
              have hfs44 := blk_frozen BK307.out 0
              have hns44_1 := NB316_307.out
              have hms44_1 := NB307_316.out
              have hs45 : w43.cell? ⟨gb307, 1, none⟩ = some (.slice none 0 0) := (blk_cell BK307.out 1).trans rfl
              have hfs45 := blk_frozen BK307.out 1
              have hns45_1 := NB316_307.out
              have hms45_1 := NB307_316.out
              refine skip_ (w1 := ?_) (by rfl) rfl ?_ ?_
              rotate_left
              · go_simp
                rfl
              refine hK.out _ _ ⟨((cell_far (p := ⟨gb307, _, none⟩) NB316_307.out _).trans (((cell_far (p := ⟨gb307, _, none⟩) NB316_307.out _).trans (hHeld.1)))), ((cell_far (p := ⟨gb307, _, none⟩) NB316_307.out _).trans (((cell_far (p := ⟨gb307, _, none⟩) NB316_307.out _).trans (hHeld.2))))⟩ (fun hHeld => ?_)
              clear hK K
              refine pure_ (i := 12) (N := some 3) (v := ?_) (a' := ?_) #[true, true, true, true, true, true, true, true, true, true, true, true, true, false, false] rfl rfl (any_of HT_.out (by kernel_rfl)) (fun _ _ _ h => h) (Or.inl ⟨by rfl, ?_⟩) ?_ ?_
              rotate_left
              · intro w'
                go_simp
                with_reducible rfl
              rotate_left
              · simp only [Act.put, List.setIfInBounds_toArray, List.set_cons_zero, List.set_cons_succ, i64_w, i32_w]
                rfl
              refine pure_ (i := 13) (N := some 4) (v := ?_) (a' := ?_) #[true, true, true, true, true, true, true, true, true, true, true, true, true, true, false] rfl rfl (any_of HT_.out (by kernel_rfl)) (fun _ _ _ h => h) (Or.inl ⟨by rfl, ?_⟩) ?_ ?_
              rotate_left
              · intro w'
                go_simp
                with_reducible rfl
              rotate_left
              · simp only [Act.put, List.setIfInBounds_toArray, List.set_cons_zero, List.set_cons_succ, i64_w, i32_w]
                rfl
              refine pure_ (i := 14) (N := some 5) (v := ?_) (a' := ?_) #[true, true, true, true, true, true, true, true, true, true, true, true, true, true, true] rfl rfl (any_of HT_.out (by kernel_rfl)) (fun _ _ _ h => h) (Or.inl ⟨by rfl, ?_⟩) ?_ ?_
              rotate_left
              · intro w'
                go_simp
                with_reducible rfl
              rotate_left
              · simp only [Act.put, List.setIfInBounds_toArray, List.set_cons_zero, List.set_cons_succ, i64_w, i32_w]
                rfl
              refine done_ (done_of HT_.out (by kernel_rfl)) ?_
              try go_wp2
              refine bodyPost_ret (results_list (rs := [.cell 2 47, .tmp 3, .tmp 4, .tmp 5]) rfl (by simp) (.cell gb307 47 #[.slice Ao20 t309.length co20, .slice Ao24 t312.length co24] (0, 0) _ rfl (by (with_reducible repeat (first | refine blk_drewN ?_ _ | refine blk_drew ?_ | refine blk_alloc ?_ _)); refine blk_put (cs := #[.slice Ao20 t309.length co20, .slice none 0 0]) ?_ 1 _ rfl; (with_reducible repeat (first | refine blk_drewN ?_ _ | refine blk_drew ?_ | refine blk_alloc ?_ _)); refine blk_put (cs := #[.slice none 0 0, .slice none 0 0]) ?_ 0 _ rfl; (with_reducible repeat (first | refine blk_drewN ?_ _ | refine blk_drew ?_ | refine blk_alloc ?_ _)); exact BK307.out) Try.underlying47 rfl (by kernel_rfl) (.tmp (.tmp (.tmp .nil))))) rfl ?_
              exact ⟨_, _, _, by first | rfl | (simp [errW_none, errW_some] <;> rfl) | (simp only [← hji12]; first | rfl | (simp [errW_none, errW_some] <;> rfl)) | (simp [*, errW_none, errW_some] <;> rfl), by (with_reducible repeat (first | apply Kd.R_alloc | apply Kd.R_drewN | apply Kd.R_drew)); exact Kd.R_mono (Kd.R_far (p := ⟨gb307, 1, none⟩) (Kd.R_far (p := ⟨gb307, 0, none⟩) (Kd.R_types HO311.out BK307.out (by decide)) (fun _ hk => hk.2) (.slice Ao20 t309.length co20)) (fun _ hk => hk.2) (.slice Ao24 t312.length co24)) (fun _ hk => ⟨hk.1.1, hk.1.2.2.1⟩), by (with_reducible repeat (first | apply Kd.R_alloc | apply Kd.R_drewN | apply Kd.R_drew)); exact Kd.R_mono (Kd.R_far (p := ⟨gb307, 1, none⟩) (Kd.R_far (p := ⟨gb307, 0, none⟩) (Kd.R_types HO314.out BK307.out (by decide)) (fun _ hk => hk.2) (.slice Ao20 t309.length co20)) (fun _ hk => hk.2) (.slice Ao24 t312.length co24)) (fun _ hk => ⟨hk.1.1, hk.1.2.2.1⟩), by (with_reducible repeat (first | apply Kd.R_alloc | apply Kd.R_drewN | apply Kd.R_drew)); exact Kd.R_mono (Kd.R_far (p := ⟨gb307, 1, none⟩) (Kd.R_far (p := ⟨gb307, 0, none⟩) (Kd.R_types HO340.out BK307.out (by decide)) (fun _ hk => hk.2) (.slice Ao20 t309.length co20)) (fun _ hk => hk.2) (.slice Ao24 t312.length co24)) (fun _ hk => ⟨hk.1.1, hk.1.2.1⟩), by repeat (first | (with_reducible first | exact HB.out | apply below_alloc | apply pw_below_drewN | apply below_drew1 | refine below_set ?_ (IsS94.ge HI308.out) | refine below_set ?_ GE307.out | refine below_set ?_ GE316.out) | exact HB.out)⟩
            · rw [if_neg c14] at H
              exact absurd H (by simp)
          · rw [if_neg c13] at H
            exact absurd H (by simp)
        · rw [if_neg c10] at H
          exact absurd H (by simp)
      · replace c8 := Bool.eq_false_iff.mpr c8
        subst c8
        have H1 : ((some (([0, 1, 3, 5, 20, 60, 61, (-1)] : List Int) : List Int)).bind fun y354 => ((spec_l1Cur_pick.f l0 t333 t334 40).bind fun bt357 => (if 0 ≤ (wrap64 (6 + (wrap64 (Int.tdiv bt357.1 20)))) then (if (wrap64 (6 + (wrap64 (Int.tdiv bt357.1 20)))) ≤ (y354.length : Int) then ((spec_l1Cur_among.f l0 bt357.2.1 bt357.2.2 (y354.take ((wrap64 (6 + (wrap64 (Int.tdiv bt357.1 20)))) : Int).toNat)).bind fun bt364 => (some (t309, t312, t315, bt364.1, y329))) else (none)) else (none)))) = some (r1, r2, r3, r4, r5) := by rw [if_neg (show ¬ (false = true) by decide)] at H; exact H
        clear H
        have H := H1
        clear H1
        obtain ⟨y354, hy354⟩ : ∃ y_ : List Int, y_ = (([0, 1, 3, 5, 20, 60, 61, (-1)] : List Int)) := ⟨_, rfl⟩
        replace H : ((spec_l1Cur_pick.f l0 t333 t334 40).bind fun bt357 => (if 0 ≤ (wrap64 (6 + (wrap64 (Int.tdiv bt357.1 20)))) then (if (wrap64 (6 + (wrap64 (Int.tdiv bt357.1 20)))) ≤ (y354.length : Int) then ((spec_l1Cur_among.f l0 bt357.2.1 bt357.2.2 (y354.take ((wrap64 (6 + (wrap64 (Int.tdiv bt357.1 20)))) : Int).toNat)).bind fun bt364 => (some (t309, t312, t315, bt364.1, y329))) else (none)) else (none))) = some (r1, r2, r3, r4, r5) := by first | (rw [hy354]; with_reducible exact H) | (have H2_ := (Option.bind_some _ _).symm.trans H; rw [hy354]; with_reducible exact H2_) | (have H2_ := (Option.bind_some _ _).symm.trans H; with_reducible exact H2_) | with_reducible exact H | (rw [hy354]; exact H) | exact H
        have Ny354 := Aside0.mk hy354
        clear hy354
        replace H := Option.bind_eq_some_iff.mp H
        obtain ⟨⟨t357, t358, t359⟩, A460, H⟩ := H
        replace H : (if 0 ≤ (wrap64 (6 + (wrap64 (Int.tdiv t357 20)))) then (if (wrap64 (6 + (wrap64 (Int.tdiv t357 20)))) ≤ (y354.length : Int) then ((spec_l1Cur_among.f l0 t358 t359 (y354.take ((wrap64 (6 + (wrap64 (Int.tdiv t357 20)))) : Int).toNat)).bind fun bt364 => (some (t309, t312, t315, bt364.1, y329))) else (none)) else (none)) = some (r1, r2, r3, r4, r5) := H
        have A46 := Aside0.mk A460
        clear A460
        obtain ⟨ji47, hji47⟩ : ∃ j_ : Int, (wrap64 (6 + (wrap64 (Int.tdiv t357 20)))) = j_ := ⟨_, rfl⟩
        replace H : (if 0 ≤ (ji47) then (if (ji47) ≤ (y354.length : Int) then ((spec_l1Cur_among.f l0 t358 t359 (y354.take ((ji47) : Int).toNat)).bind fun bt364 => (some (t309, t312, t315, bt364.1, y329))) else (none)) else (none)) = some (r1, r2, r3, r4, r5) := by first | (rw [hji47] at H; exact H) | (simp only [hji47] at H ⊢; exact H)
        (try rw [hji47] at A2)
        (try rw [hji47] at A3)
        (try rw [hji47] at A5)
        (try rw [hji47] at A7)
        (try rw [hji47] at A46)
        have hji47w : (IntKind.i64.wrap (6 + (wrap64 (Int.tdiv t357 20)))) = ji47 := (i64_w _).trans hji47
        by_cases c48 : 0 ≤ (ji47)
        · rw [if_pos c48] at H
          have c48b0 := eq_true c48
          have c48b1 : decide (0 ≤ (ji47)) = true := decide_eq_true c48
          clear c48
          by_cases c49 : (ji47) ≤ (y354.length : Int)
          · rw [if_pos c49] at H
            have c49b0 := eq_true c49
            have c49b1 : decide ((ji47) ≤ (y354.length : Int)) = true := decide_eq_true c49
            clear c49
            obtain ⟨y360, hy360⟩ : ∃ y_ : List Int, y_ = (y354.take ((ji47) : Int).toNat) := ⟨_, rfl⟩
            replace H : ((spec_l1Cur_among.f l0 t358 t359 y360).bind fun bt364 => (some (t309, t312, t315, bt364.1, y329))) = some (r1, r2, r3, r4, r5) := by first | (rw [hy360]; with_reducible exact H) | (have H2_ := (Option.bind_some _ _).symm.trans H; rw [hy360]; with_reducible exact H2_) | (have H2_ := (Option.bind_some _ _).symm.trans H; with_reducible exact H2_) | with_reducible exact H | (rw [hy360]; exact H) | exact H
            have Ny360 := Aside0.mk hy360
            clear hy360
            replace H := Option.bind_eq_some_iff.mp H
            obtain ⟨⟨t364, t365, t366⟩, A500, H⟩ := H
            replace H : (some (t309, t312, t315, t364, y329)) = some (r1, r2, r3, r4, r5) := H
            have A50 := Aside0.mk A500
            clear A500
            simp only [Option.some.injEq, Prod.mk.injEq] at H
            obtain ⟨rfl, rfl, rfl, rfl, rfl⟩ := H
            go_enter Try.func32, Try.ntmps32
            try go_wp2_with (first | ((with_reducible refine gate_dst (N := 2) rfl ?_); refine box_event ?hg (N := 2) ?hd (cs := #[.slice none 0 0, .slice none 0 0]) (t := 47) ?hr ?_; (case hd => rfl); (case hg => rfl); (case hr => first | (go_simp; done) | (go_simp; rfl)); intro gb307 hg w51 hbox hb; have n0_ := Aside0.mk (below_step (by repeat (first | (with_reducible first | exact HB.out | apply below_alloc | apply pw_below_drewN | apply below_drew1) | exact HB.out)) hb); have n1_ := Aside0.mk (hbox); have n2_ := Aside0.mk ((by rw [hg]; exact (below_size (by repeat (first | (with_reducible first | exact HB.out | apply below_alloc | apply pw_below_drewN | apply below_drew1) | exact HB.out))) : w.heap.size ≤ gb307)); have n3_ := Aside0.mk ((by rw [hg]; exact (below_size (by repeat (first | (with_reducible first | exact HB.out | apply below_alloc | apply pw_below_drewN | apply below_drew1) | exact HB.out))) : w.heap.size ≤ gb307)); clear HB; have HB := n0_; have BK307 := n1_; have GW307 := n2_; have GE307 := n3_; clear n0_ n1_ n2_ n3_; clear hb hbox hg) | ((with_reducible refine gate_dst (N := 13) rfl ?_); refine box_event ?hg (N := 13) ?hd (cs := #[.slice A0 l0.length c0, .int .i64 0, .int .u64 0]) (t := 94) ?hr ?_; (case hd => rfl); (case hg => rfl); (case hr => first | (go_simp; done) | (go_simp; rfl)); intro gb308 hg w52 hbox hb; have n0_ := Aside0.mk (blk_below (g := gb307) (o := .cells #[.slice none 0 0, .slice none 0 0] 47 (0, 0)) (by (with_reducible repeat (first | refine blk_drewN ?_ _ | refine blk_drew ?_ | refine blk_alloc ?_ _)); exact BK307.out) hb); have n1_ := Aside0.mk (below_step (by repeat (first | (with_reducible first | exact HB.out | apply below_alloc | apply pw_below_drewN | apply below_drew1 | refine below_set ?_ GE307.out) | exact HB.out)) hb); have n2_ := Aside0.mk ((by rw [hg]; exact Nat.ne_of_lt (blk_lt (g := gb307) (o := .cells #[.slice none 0 0, .slice none 0 0] 47 (0, 0)) (by (with_reducible repeat (first | refine blk_drewN ?_ _ | refine blk_drew ?_ | refine blk_alloc ?_ _)); exact BK307.out)) : gb307 ≠ gb308)); have n3_ := Aside0.mk ((by rw [hg]; exact Nat.ne_of_gt (blk_lt (g := gb307) (o := .cells #[.slice none 0 0, .slice none 0 0] 47 (0, 0)) (by (with_reducible repeat (first | refine blk_drewN ?_ _ | refine blk_drew ?_ | refine blk_alloc ?_ _)); exact BK307.out)) : gb308 ≠ gb307)); have n4_ := Aside0.mk ((⟨A0, c0, hbox, (by rw [hg]; exact (below_size (by repeat (first | (with_reducible first | exact HB.out | apply below_alloc | apply pw_below_drewN | apply below_drew1 | refine below_set ?_ GE307.out) | exact HB.out))) : w.heap.size ≤ gb308), HR0.out⟩ : IsS94 w w52 gb308 l0 0 0)); clear BK307; clear HB; have BK307 := n0_; have HB := n1_; have NB307_308 := n2_; have NB308_307 := n3_; have HI308 := n4_; clear n0_ n1_ n2_ n3_ n4_; clear hb hbox hg) | ((with_reducible refine gate_callee (f := 69) rfl ?_); refine goesL_ (some 16) rfl rfl Try.func69 (by kernel_rfl) rfl #[.slice A0 l0.length c0] rfl (by (try simp only [List.map_toArray, List.map_cons, List.map_nil]); first | done | rfl | (simp only [List.length_drop, List.length_take]; rfl)) ?_; (with_reducible refine (spec_DrawIsBusinessDay.calls k _ _ l0 t309 t312 t315 _ ?side1 ?side2 A2.out).mono ?_); (case side1 => repeat (first | exact (Kd.C_below HR0.out HB.out) | (with_reducible refine Kd.C_alloc ?_ _) | (with_reducible refine Kd.C_drewN ?_ _) | (with_reducible refine Kd.C_drew ?_))); (case side2 => exact HC0.out); rintro e w53 ⟨v310, v313, rfl, ho0, ho1, hb⟩; refine ⟨_, rfl, ?_⟩; have n0_ := Aside0.mk (Kd.R_lower ho0 (below_size (by repeat (first | (with_reducible first | exact HB.out | apply below_alloc | apply pw_below_drewN | apply below_drew1 | refine below_set ?_ (IsS94.ge HI308.out) | refine below_set ?_ GE307.out) | exact HB.out)))); have n1_ := Aside0.mk (Kd.R_lower ho1 (below_size (by repeat (first | (with_reducible first | exact HB.out | apply below_alloc | apply pw_below_drewN | apply below_drew1 | refine below_set ?_ (IsS94.ge HI308.out) | refine below_set ?_ GE307.out) | exact HB.out)))); have n2_ := Aside0.mk (blk_below (g := gb307) (o := .cells #[.slice none 0 0, .slice none 0 0] 47 (0, 0)) (by (with_reducible repeat (first | refine blk_drewN ?_ _ | refine blk_drew ?_ | refine blk_alloc ?_ _)); exact BK307.out) hb); have n3_ := Aside0.mk (IsS94.below (by repeat (first | (with_reducible first | exact HI308.out | apply IsS94.alloc | apply IsS94.drewN | apply IsS94.drew | apply IsS94.set_1 | apply IsS94.set_2 | refine IsS94.far ?_ NB308_307.out _) | exact HI308.out)) hb); have n4_ := Aside0.mk (below_step (by repeat (first | (with_reducible first | exact HB.out | apply below_alloc | apply pw_below_drewN | apply below_drew1 | refine below_set ?_ (IsS94.ge HI308.out) | refine below_set ?_ GE307.out) | exact HB.out)) hb); clear BK307; clear HI308; clear HB; have HO311 := n0_; have HO314 := n1_; have BK307 := n2_; have HI308 := n3_; have HB := n4_; clear n0_ n1_ n2_ n3_ n4_; (try clear hb); (try clear hb2); (try clear hk); (try clear hi); (try clear ho0); (try clear ho1)) | ((with_reducible refine gate_dst (N := 7) rfl ?_); refine box_event ?hg (N := 7) ?hd (cs := #[.slice none 0 0, .slice none 0 0]) (t := 47) ?hr ?_; (case hd => rfl); (case hg => rfl); (case hr => first | (go_simp; done) | (go_simp; rfl)); intro gb316 hg w54 hbox hb; have n0_ := Aside0.mk (Kd.R_below (by (with_reducible repeat (first | apply Kd.R_alloc | apply Kd.R_drewN | apply Kd.R_drew)); exact HO311.out) hb); have n1_ := Aside0.mk (Kd.R_below (by (with_reducible repeat (first | apply Kd.R_alloc | apply Kd.R_drewN | apply Kd.R_drew)); exact HO314.out) hb); have n2_ := Aside0.mk (blk_below (g := gb307) (o := .cells #[.slice none 0 0, .slice none 0 0] 47 (0, 0)) (by (with_reducible repeat (first | refine blk_drewN ?_ _ | refine blk_drew ?_ | refine blk_alloc ?_ _)); exact BK307.out) hb); have n3_ := Aside0.mk (IsS94.below (by repeat (first | (with_reducible first | exact HI308.out | apply IsS94.alloc | apply IsS94.drewN | apply IsS94.drew | apply IsS94.set_1 | apply IsS94.set_2 | refine IsS94.far ?_ NB308_307.out _) | exact HI308.out)) hb); have n4_ := Aside0.mk (below_step (by repeat (first | (with_reducible first | exact HB.out | apply below_alloc | apply pw_below_drewN | apply below_drew1 | refine below_set ?_ (IsS94.ge HI308.out) | refine below_set ?_ GE307.out) | exact HB.out)) hb); have n5_ := Aside0.mk (hbox); have n6_ := Aside0.mk ((by rw [hg]; exact (below_size (by repeat (first | (with_reducible first | exact HB.out | apply below_alloc | apply pw_below_drewN | apply below_drew1 | refine below_set ?_ (IsS94.ge HI308.out) | refine below_set ?_ GE307.out) | exact HB.out))) : w.heap.size ≤ gb316)); have n7_ := Aside0.mk ((by rw [hg]; exact (below_size (by repeat (first | (with_reducible first | exact HB.out | apply below_alloc | apply pw_below_drewN | apply below_drew1 | refine below_set ?_ (IsS94.ge HI308.out) | refine below_set ?_ GE307.out) | exact HB.out))) : w.heap.size ≤ gb316)); have n8_ := Aside0.mk ((by rw [hg]; exact Nat.ne_of_lt (blk_lt (g := gb307) (o := .cells #[.slice none 0 0, .slice none 0 0] 47 (0, 0)) (by (with_reducible repeat (first | refine blk_drewN ?_ _ | refine blk_drew ?_ | refine blk_alloc ?_ _)); exact BK307.out)) : gb307 ≠ gb316)); have n9_ := Aside0.mk ((by rw [hg]; exact Nat.ne_of_gt (blk_lt (g := gb307) (o := .cells #[.slice none 0 0, .slice none 0 0] 47 (0, 0)) (by (with_reducible repeat (first | refine blk_drewN ?_ _ | refine blk_drew ?_ | refine blk_alloc ?_ _)); exact BK307.out)) : gb316 ≠ gb307)); have n10_ := Aside0.mk ((by rw [hg]; exact Nat.ne_of_lt (IsS94.lt (show IsS94 w _ gb308 l0 0 0 from by repeat (first | (with_reducible first | exact HI308.out | apply IsS94.alloc | apply IsS94.drewN | apply IsS94.drew | apply IsS94.set_1 | apply IsS94.set_2 | refine IsS94.far ?_ NB308_307.out _) | exact HI308.out))) : gb308 ≠ gb316)); have n11_ := Aside0.mk ((by rw [hg]; exact Nat.ne_of_gt (IsS94.lt (show IsS94 w _ gb308 l0 0 0 from by repeat (first | (with_reducible first | exact HI308.out | apply IsS94.alloc | apply IsS94.drewN | apply IsS94.drew | apply IsS94.set_1 | apply IsS94.set_2 | refine IsS94.far ?_ NB308_307.out _) | exact HI308.out))) : gb316 ≠ gb308)); clear HO311; clear HO314; clear BK307; clear HI308; clear HB; have HO311 := n0_; have HO314 := n1_; have BK307 := n2_; have HI308 := n3_; have HB := n4_; have BK316 := n5_; have GW316 := n6_; have GE316 := n7_; have NB307_316 := n8_; have NB316_307 := n9_; have NB308_316 := n10_; have NB316_308 := n11_; clear n0_ n1_ n2_ n3_ n4_ n5_ n6_ n7_ n8_ n9_ n10_ n11_; clear hb hbox hg; obtain ⟨Ao55, co55, eo55⟩ := Kd.R_slice HO311.out; subst eo55; have hnb56 := NB316_307.out; have hnc56 := NB307_316.out; have hnb57 := NB316_308.out; have hnc57 := NB308_316.out; have hcz58_0 : w54.cell? ⟨gb316, 0, none⟩ = some (.slice none 0 0) := (blk_cell BK316.out 0).trans rfl; have hcz58_1 : w54.cell? ⟨gb316, 1, none⟩ = some (.slice none 0 0) := (blk_cell BK316.out 1).trans rfl; have hfz58_0 := blk_frozen BK316.out 0; have hfz58_1 := blk_frozen BK316.out 1; obtain ⟨Ao59, co59, eo59⟩ := Kd.R_slice HO314.out; subst eo59) | ((with_reducible refine gate_dst (N := 19) rfl ?_); refine Kd.R_lit (Kd.int .i64) _ 3 ?hg (N := 19) ?hd (xs := ([] : List Int)) (inner := []) (ok := fun _ => True) (okp := fun _ => True) ?hr ?hp (fun _ hk => hk) trivial (Below.refl _ _) (Nat.le_refl _) (by simp) ?_; (case hd => rfl); (case hg => rfl); (case hr => first | (go_simp; done) | (go_simp; rfl)); (case hp => exact (Reps.none _ _)); intro v318 w60 ho61 hb hg_ hnew_; clear hg_ hnew_; (first | rw [← Ny317.out] at ho61 | (simp only [Int.reduceToNat] at ho61; rw [← Ny317.out] at ho61)); have n0_ := Aside0.mk (Kd.R_elder' (by (with_reducible repeat (first | apply Kd.R_alloc | apply Kd.R_drewN | apply Kd.R_drew)); exact (Kd.R_mono (Kd.R_far (p := ⟨gb316, 1, none⟩) (Kd.R_far (p := ⟨gb316, 0, none⟩) (Kd.R_types HO311.out BK316.out (by decide)) (fun _ hk => hk.2) (.slice Ao55 t309.length co55)) (fun _ hk => hk.2) (.slice Ao59 t312.length co59)) (fun _ h_ => h_.1))) (Kd.R_base ho61) hb); have n1_ := Aside0.mk (Kd.R_elder' (by (with_reducible repeat (first | apply Kd.R_alloc | apply Kd.R_drewN | apply Kd.R_drew)); exact (Kd.R_mono (Kd.R_far (p := ⟨gb316, 1, none⟩) (Kd.R_far (p := ⟨gb316, 0, none⟩) (Kd.R_types HO314.out BK316.out (by decide)) (fun _ hk => hk.2) (.slice Ao55 t309.length co55)) (fun _ hk => hk.2) (.slice Ao59 t312.length co59)) (fun _ h_ => h_.1))) (Kd.R_base ho61) hb); have n2_ := Aside0.mk (Kd.R_lower (Kd.R_new' (Kd.R_new' ho61 (Kd.R_lt (by (with_reducible repeat (first | apply Kd.R_alloc | apply Kd.R_drewN | apply Kd.R_drew)); exact (Kd.R_mono (Kd.R_far (p := ⟨gb316, 1, none⟩) (Kd.R_far (p := ⟨gb316, 0, none⟩) (Kd.R_types HO311.out BK316.out (by decide)) (fun _ hk => hk.2) (.slice Ao55 t309.length co55)) (fun _ hk => hk.2) (.slice Ao59 t312.length co59)) (fun _ h_ => h_.1))))) (Kd.R_lt (by (with_reducible repeat (first | apply Kd.R_alloc | apply Kd.R_drewN | apply Kd.R_drew)); exact (Kd.R_mono (Kd.R_far (p := ⟨gb316, 1, none⟩) (Kd.R_far (p := ⟨gb316, 0, none⟩) (Kd.R_types HO314.out BK316.out (by decide)) (fun _ hk => hk.2) (.slice Ao55 t309.length co55)) (fun _ hk => hk.2) (.slice Ao59 t312.length co59)) (fun _ h_ => h_.1))))) (below_size (by repeat (first | (with_reducible first | exact HB.out | apply below_alloc | apply pw_below_drewN | apply below_drew1 | refine below_set ?_ (IsS94.ge HI308.out) | refine below_set ?_ GE307.out | refine below_set ?_ GE316.out) | exact HB.out)))); have n3_ := Aside0.mk (blk_below (g := gb307) (o := .cells #[.slice none 0 0, .slice none 0 0] 47 (0, 0)) (by (with_reducible repeat (first | refine blk_drewN ?_ _ | refine blk_drew ?_ | refine blk_alloc ?_ _)); refine blk_far ?_ NB307_316.out _; (with_reducible repeat (first | refine blk_drewN ?_ _ | refine blk_drew ?_ | refine blk_alloc ?_ _)); refine blk_far ?_ NB307_316.out _; (with_reducible repeat (first | refine blk_drewN ?_ _ | refine blk_drew ?_ | refine blk_alloc ?_ _)); exact BK307.out) hb); have n4_ := Aside0.mk (IsS94.below (show IsS94 w ((w54.setCell ⟨gb316, 0, none⟩ (.slice Ao55 t309.length co55)).setCell ⟨gb316, 1, none⟩ (.slice Ao59 t312.length co59)) gb308 l0 0 0 from by repeat (first | (with_reducible first | exact HI308.out | apply IsS94.alloc | apply IsS94.drewN | apply IsS94.drew | apply IsS94.set_1 | apply IsS94.set_2 | refine IsS94.far ?_ NB308_307.out _ | refine IsS94.far ?_ NB308_316.out _) | exact HI308.out)) hb); have n5_ := Aside0.mk (blk_below (g := gb316) (o := .cells #[.slice Ao55 t309.length co55, .slice Ao59 t312.length co59] 47 (0, 0)) (by (with_reducible repeat (first | refine blk_drewN ?_ _ | refine blk_drew ?_ | refine blk_alloc ?_ _)); refine blk_put (cs := #[.slice Ao55 t309.length co55, .slice none 0 0]) ?_ 1 _ rfl; (with_reducible repeat (first | refine blk_drewN ?_ _ | refine blk_drew ?_ | refine blk_alloc ?_ _)); refine blk_put (cs := #[.slice none 0 0, .slice none 0 0]) ?_ 0 _ rfl; (with_reducible repeat (first | refine blk_drewN ?_ _ | refine blk_drew ?_ | refine blk_alloc ?_ _)); exact BK316.out) hb); have n6_ := Aside0.mk (below_step (by repeat (first | (with_reducible first | exact HB.out | apply below_alloc | apply pw_below_drewN | apply below_drew1 | refine below_set ?_ (IsS94.ge HI308.out) | refine below_set ?_ GE307.out | refine below_set ?_ GE316.out) | exact HB.out)) hb); clear HO311; clear HO314; clear BK307; clear HI308; clear BK316; clear HB; have HO311 := n0_; have HO314 := n1_; have HO319 := n2_; have BK307 := n3_; have HI308 := n4_; have BK316 := n5_; have HB := n6_; clear n0_ n1_ n2_ n3_ n4_ n5_ n6_; clear hb ho61) | ((with_reducible refine gate_callee (f := 70) rfl ?_); refine goesL_ (some 21) rfl rfl Try.func70 (by kernel_rfl) rfl #[.pointer (some ⟨gb308, 0, none⟩), .int .i64 3] rfl (by (try simp only [List.map_toArray, List.map_cons, List.map_nil]); first | done | rfl | (simp only [List.length_drop, List.length_take]; rfl)) ?_; (with_reducible refine (spec_l1Cur_one.calls gb308 l0 0 0 3 true t321 t322 w _ ?side1 ?side2 A3.out).mono ?_); (case side1 => repeat (first | (with_reducible first | exact HI308.out | apply IsS94.alloc | apply IsS94.drewN | apply IsS94.drew | apply IsS94.set_1 | apply IsS94.set_2 | refine IsS94.far ?_ NB308_307.out _ | refine IsS94.far ?_ NB308_316.out _) | exact HI308.out)); (case side2 => repeat (first | (with_reducible first | exact HB.out | apply below_alloc | apply pw_below_drewN | apply below_drew1 | refine below_set ?_ (IsS94.ge HI308.out) | refine below_set ?_ GE307.out | refine below_set ?_ GE316.out) | exact HB.out)); rintro e w62 ⟨rfl, hi, hb, hk⟩; refine ⟨_, rfl, ?_⟩; have n0_ := Aside0.mk (KeepBut.blk hk (g' := gb307) (o := .cells #[.slice none 0 0, .slice none 0 0] 47 (0, 0)) (by (with_reducible repeat (first | refine blk_drewN ?_ _ | refine blk_drew ?_ | refine blk_alloc ?_ _)); exact BK307.out) NB307_308.out (by simp)); have n1_ := Aside0.mk (Kd.R_mono (Kd.R_keep (IsS94.apart (show IsS94 w _ gb308 l0 0 0 from by repeat (first | (with_reducible first | exact HI308.out | apply IsS94.alloc | apply IsS94.drewN | apply IsS94.drew | apply IsS94.set_1 | apply IsS94.set_2 | refine IsS94.far ?_ NB308_307.out _ | refine IsS94.far ?_ NB308_316.out _) | exact HI308.out)) (by (with_reducible repeat (first | apply Kd.R_alloc | apply Kd.R_drewN | apply Kd.R_drew)); exact HO311.out) (by decide)) hk (fun _ h => h.2)) (fun _ h => h.1)); have n2_ := Aside0.mk (Kd.R_mono (Kd.R_keep (IsS94.apart (show IsS94 w _ gb308 l0 0 0 from by repeat (first | (with_reducible first | exact HI308.out | apply IsS94.alloc | apply IsS94.drewN | apply IsS94.drew | apply IsS94.set_1 | apply IsS94.set_2 | refine IsS94.far ?_ NB308_307.out _ | refine IsS94.far ?_ NB308_316.out _) | exact HI308.out)) (by (with_reducible repeat (first | apply Kd.R_alloc | apply Kd.R_drewN | apply Kd.R_drew)); exact HO314.out) (by decide)) hk (fun _ h => h.2)) (fun _ h => h.1)); have n3_ := Aside0.mk (KeepBut.blk hk (g' := gb316) (o := .cells #[.slice Ao55 t309.length co55, .slice Ao59 t312.length co59] 47 (0, 0)) (by (with_reducible repeat (first | refine blk_drewN ?_ _ | refine blk_drew ?_ | refine blk_alloc ?_ _)); exact BK316.out) NB316_308.out (by simp)); have n4_ := Aside0.mk (Kd.R_mono (Kd.R_keep (IsS94.apart (show IsS94 w _ gb308 l0 0 0 from by repeat (first | (with_reducible first | exact HI308.out | apply IsS94.alloc | apply IsS94.drewN | apply IsS94.drew | apply IsS94.set_1 | apply IsS94.set_2 | refine IsS94.far ?_ NB308_307.out _ | refine IsS94.far ?_ NB308_316.out _) | exact HI308.out)) (by (with_reducible repeat (first | apply Kd.R_alloc | apply Kd.R_drewN | apply Kd.R_drew)); exact HO319.out) (by decide)) hk (fun _ h => h.2)) (fun _ h => h.1)); have n5_ := Aside0.mk (hb); have n6_ := Aside0.mk (hi); clear BK307; clear HO311; clear HO314; clear BK316; clear HO319; clear HB; clear HI308; have BK307 := n0_; have HO311 := n1_; have HO314 := n2_; have BK316 := n3_; have HO319 := n4_; have HB := n5_; have HI308 := n6_; clear n0_ n1_ n2_ n3_ n4_ n5_ n6_; (try clear hb); (try clear hb2); (try clear hk); (try clear hi)) | ((with_reducible refine gate_dst (N := 24) rfl ?_); refine Kd.R_lit (Kd.int .i64) _ 3 ?hg (N := 24) ?hd (xs := ([(-9), (-1), 0, 1, 5, 9, 30, 90] : List Int)) (inner := [.int .i64 (-9), .int .i64 (-1), .int .i64 0, .int .i64 1, .int .i64 5, .int .i64 9, .int .i64 30, .int .i64 90]) (ok := fun _ => True) (okp := fun _ => True) ?hr ?hp (fun _ hk => hk) trivial (Below.refl _ _) (Nat.le_refl _) (by simp) ?_; (case hd => rfl); (case hg => rfl); (case hr => first | (go_simp; done) | (go_simp; rfl)); (case hp => exact (Reps.one (show Kd.M (Kd.int .i64) _ _ _ (-9) [.int .i64 (-9)] from rfl) (Reps.one (show Kd.M (Kd.int .i64) _ _ _ (-1) [.int .i64 (-1)] from rfl) (Reps.one (show Kd.M (Kd.int .i64) _ _ _ 0 [.int .i64 0] from rfl) (Reps.one (show Kd.M (Kd.int .i64) _ _ _ 1 [.int .i64 1] from rfl) (Reps.one (show Kd.M (Kd.int .i64) _ _ _ 5 [.int .i64 5] from rfl) (Reps.one (show Kd.M (Kd.int .i64) _ _ _ 9 [.int .i64 9] from rfl) (Reps.one (show Kd.M (Kd.int .i64) _ _ _ 30 [.int .i64 30] from rfl) (Reps.one (show Kd.M (Kd.int .i64) _ _ _ 90 [.int .i64 90] from rfl) (Reps.none _ _)))))))))); intro v324 w63 ho64 hb hg_ hnew_; clear hg_ hnew_; (first | rw [← Ny323.out] at ho64 | (simp only [Int.reduceToNat] at ho64; rw [← Ny323.out] at ho64)); have n0_ := Aside0.mk (Kd.R_elder' (by (with_reducible repeat (first | apply Kd.R_alloc | apply Kd.R_drewN | apply Kd.R_drew)); exact HO311.out) (Kd.R_base ho64) hb); have n1_ := Aside0.mk (Kd.R_elder' (by (with_reducible repeat (first | apply Kd.R_alloc | apply Kd.R_drewN | apply Kd.R_drew)); exact HO314.out) (Kd.R_base ho64) hb); have n2_ := Aside0.mk (Kd.R_elder' (by (with_reducible repeat (first | apply Kd.R_alloc | apply Kd.R_drewN | apply Kd.R_drew)); exact HO319.out) (Kd.R_base ho64) hb); have n3_ := Aside0.mk (Kd.R_lower (Kd.R_new' (Kd.R_new' (Kd.R_new' ho64 (Kd.R_lt (by (with_reducible repeat (first | apply Kd.R_alloc | apply Kd.R_drewN | apply Kd.R_drew)); exact HO311.out))) (Kd.R_lt (by (with_reducible repeat (first | apply Kd.R_alloc | apply Kd.R_drewN | apply Kd.R_drew)); exact HO314.out))) (Kd.R_lt (by (with_reducible repeat (first | apply Kd.R_alloc | apply Kd.R_drewN | apply Kd.R_drew)); exact HO319.out))) (below_size (by repeat (first | (with_reducible first | exact HB.out | apply below_alloc | apply pw_below_drewN | apply below_drew1 | refine below_set ?_ (IsS94.ge HI308.out) | refine below_set ?_ GE307.out | refine below_set ?_ GE316.out) | exact HB.out)))); have n4_ := Aside0.mk (blk_below (g := gb307) (o := .cells #[.slice none 0 0, .slice none 0 0] 47 (0, 0)) (by (with_reducible repeat (first | refine blk_drewN ?_ _ | refine blk_drew ?_ | refine blk_alloc ?_ _)); exact BK307.out) hb); have n5_ := Aside0.mk (IsS94.below (by repeat (first | (with_reducible first | exact HI308.out | apply IsS94.alloc | apply IsS94.drewN | apply IsS94.drew | apply IsS94.set_1 | apply IsS94.set_2 | refine IsS94.far ?_ NB308_307.out _ | refine IsS94.far ?_ NB308_316.out _) | exact HI308.out)) hb); have n6_ := Aside0.mk (blk_below (g := gb316) (o := .cells #[.slice Ao55 t309.length co55, .slice Ao59 t312.length co59] 47 (0, 0)) (by (with_reducible repeat (first | refine blk_drewN ?_ _ | refine blk_drew ?_ | refine blk_alloc ?_ _)); exact BK316.out) hb); have n7_ := Aside0.mk (below_step (by repeat (first | (with_reducible first | exact HB.out | apply below_alloc | apply pw_below_drewN | apply below_drew1 | refine below_set ?_ (IsS94.ge HI308.out) | refine below_set ?_ GE307.out | refine below_set ?_ GE316.out) | exact HB.out)) hb); clear HO311; clear HO314; clear HO319; clear BK307; clear HI308; clear BK316; clear HB; have HO311 := n0_; have HO314 := n1_; have HO319 := n2_; have HO325 := n3_; have BK307 := n4_; have HI308 := n5_; have BK316 := n6_; have HB := n7_; clear n0_ n1_ n2_ n3_ n4_ n5_ n6_ n7_; clear hb ho64; obtain ⟨Ao65, co65, eo65⟩ := Kd.R_slice HO325.out; subst eo65) | ((with_reducible refine gate_callee (f := 71) rfl ?_); refine goesL_ (some 25) rfl rfl Try.func71 (by kernel_rfl) rfl #[.pointer (some ⟨gb308, 0, none⟩), .slice Ao65 y323.length co65] rfl (by (try simp only [List.map_toArray, List.map_cons, List.map_nil]); first | done | rfl | (simp only [List.length_drop, List.length_take]; rfl)) ?_; (with_reducible refine (spec_l1Cur_among.calls gb308 l0 t321 t322 _ _ y323 t326 t327 t328 w _ ?side1 ?side2 ?side3 ?side4 ?side5 A5.out).mono ?_); (case side1 => repeat (first | (with_reducible first | exact HI308.out | apply IsS94.alloc | apply IsS94.drewN | apply IsS94.drew | apply IsS94.set_1 | apply IsS94.set_2 | refine IsS94.far ?_ NB308_307.out _ | refine IsS94.far ?_ NB308_316.out _) | exact HI308.out)); (case side2 => repeat (first | (with_reducible first | exact HB.out | apply below_alloc | apply pw_below_drewN | apply below_drew1 | refine below_set ?_ (IsS94.ge HI308.out) | refine below_set ?_ GE307.out | refine below_set ?_ GE316.out) | exact HB.out)); (case side3 => repeat (first | exact (Kd.R_reads' HO325.out).2.2 | (with_reducible refine Kd.C_alloc ?_ _) | (with_reducible refine Kd.C_drewN ?_ _) | (with_reducible refine Kd.C_drew ?_))); (case side4 => exact (Kd.R_reads' HO325.out).2.1); (case side5 => exact far_slice (IsS94.own_ne HI308.out HO325.out (by decide))); rintro e w66 ⟨rfl, hi, hb, hk⟩; refine ⟨_, rfl, ?_⟩; have n0_ := Aside0.mk (KeepBut.blk hk (g' := gb307) (o := .cells #[.slice none 0 0, .slice none 0 0] 47 (0, 0)) (by (with_reducible repeat (first | refine blk_drewN ?_ _ | refine blk_drew ?_ | refine blk_alloc ?_ _)); exact BK307.out) NB307_308.out (by simp)); have n1_ := Aside0.mk (Kd.R_mono (Kd.R_keep (IsS94.apart (show IsS94 w _ gb308 l0 t321 t322 from by repeat (first | (with_reducible first | exact HI308.out | apply IsS94.alloc | apply IsS94.drewN | apply IsS94.drew | apply IsS94.set_1 | apply IsS94.set_2 | refine IsS94.far ?_ NB308_307.out _ | refine IsS94.far ?_ NB308_316.out _) | exact HI308.out)) (by (with_reducible repeat (first | apply Kd.R_alloc | apply Kd.R_drewN | apply Kd.R_drew)); exact HO311.out) (by decide)) hk (fun _ h => h.2)) (fun _ h => h.1)); have n2_ := Aside0.mk (Kd.R_mono (Kd.R_keep (IsS94.apart (show IsS94 w _ gb308 l0 t321 t322 from by repeat (first | (with_reducible first | exact HI308.out | apply IsS94.alloc | apply IsS94.drewN | apply IsS94.drew | apply IsS94.set_1 | apply IsS94.set_2 | refine IsS94.far ?_ NB308_307.out _ | refine IsS94.far ?_ NB308_316.out _) | exact HI308.out)) (by (with_reducible repeat (first | apply Kd.R_alloc | apply Kd.R_drewN | apply Kd.R_drew)); exact HO314.out) (by decide)) hk (fun _ h => h.2)) (fun _ h => h.1)); have n3_ := Aside0.mk (KeepBut.blk hk (g' := gb316) (o := .cells #[.slice Ao55 t309.length co55, .slice Ao59 t312.length co59] 47 (0, 0)) (by (with_reducible repeat (first | refine blk_drewN ?_ _ | refine blk_drew ?_ | refine blk_alloc ?_ _)); exact BK316.out) NB316_308.out (by simp)); have n4_ := Aside0.mk (Kd.R_mono (Kd.R_keep (IsS94.apart (show IsS94 w _ gb308 l0 t321 t322 from by repeat (first | (with_reducible first | exact HI308.out | apply IsS94.alloc | apply IsS94.drewN | apply IsS94.drew | apply IsS94.set_1 | apply IsS94.set_2 | refine IsS94.far ?_ NB308_307.out _ | refine IsS94.far ?_ NB308_316.out _) | exact HI308.out)) (by (with_reducible repeat (first | apply Kd.R_alloc | apply Kd.R_drewN | apply Kd.R_drew)); exact HO319.out) (by decide)) hk (fun _ h => h.2)) (fun _ h => h.1)); have n5_ := Aside0.mk (Kd.R_mono (Kd.R_keep (IsS94.apart (show IsS94 w _ gb308 l0 t321 t322 from by repeat (first | (with_reducible first | exact HI308.out | apply IsS94.alloc | apply IsS94.drewN | apply IsS94.drew | apply IsS94.set_1 | apply IsS94.set_2 | refine IsS94.far ?_ NB308_307.out _ | refine IsS94.far ?_ NB308_316.out _) | exact HI308.out)) (by (with_reducible repeat (first | apply Kd.R_alloc | apply Kd.R_drewN | apply Kd.R_drew)); exact HO325.out) (by decide)) hk (fun _ h => h.2)) (fun _ h => h.1)); have n6_ := Aside0.mk (hb); have n7_ := Aside0.mk (hi); clear BK307; clear HO311; clear HO314; clear BK316; clear HO319; clear HO325; clear HB; clear HI308; have BK307 := n0_; have HO311 := n1_; have HO314 := n2_; have BK316 := n3_; have HO319 := n4_; have HO325 := n5_; have HB := n6_; have HI308 := n7_; clear n0_ n1_ n2_ n3_ n4_ n5_ n6_ n7_; (try clear hb); (try clear hb2); (try clear hk); (try clear hi)) | ((with_reducible refine gate_builtin (b := .append) (xs := #[.tmp 27, .tmp 29]) rfl ?_); at_builtin; refine Kd.R_append (Kd.int .i64) (w0 := w) w.heap.size rfl (.tmp 27) (.tmp 29) 36 3 (.int .i64 0) 8 rfl Try.underlying36 info3 rfl (by decide) (by omega) v318 y317 (wrap64 (t315 + t326)) [.int .i64 (wrap64 (t315 + t326))] (fun k_ => some k_ ≠ (.slice Ao55 t309.length co55 : Value).ownBlock ∧ some k_ ≠ (.slice Ao59 t312.length co59 : Value).ownBlock ∧ some k_ ≠ (.slice Ao65 y323.length co65 : Value).ownBlock) (fun _ => False) rfl rfl ?aP (fun _ hk => hk.elim) ?aF ?aO ?aB ?aS ?aL ?_; (case aP => exact rfl); (case aB => exact (by repeat (first | (with_reducible first | exact HB.out | apply below_alloc | apply pw_below_drewN | apply below_drew1 | refine below_set ?_ (IsS94.ge HI308.out) | refine below_set ?_ GE307.out | refine below_set ?_ GE316.out) | exact HB.out))); (case aF => exact (fun k_ hk => ⟨Kd.fresh' (Kd.R_lt (by (with_reducible repeat (first | apply Kd.R_alloc | apply Kd.R_drewN | apply Kd.R_drew)); exact HO311.out)) k_ hk, Kd.fresh' (Kd.R_lt (by (with_reducible repeat (first | apply Kd.R_alloc | apply Kd.R_drewN | apply Kd.R_drew)); exact HO314.out)) k_ hk, Kd.fresh' (Kd.R_lt (by (with_reducible repeat (first | apply Kd.R_alloc | apply Kd.R_drewN | apply Kd.R_drew)); exact HO325.out)) k_ hk⟩)); (case aO => exact (by (with_reducible repeat (first | apply Kd.R_alloc | apply Kd.R_drewN | apply Kd.R_drew)); exact Kd.R_mono HO319.out (fun _ hk => ⟨hk.1.1.2, ⟨hk.1.2, hk.2⟩⟩))); (case aS => exact (below_size (by repeat (first | (with_reducible first | exact HB.out | apply below_alloc | apply pw_below_drewN | apply below_drew1 | refine below_set ?_ (IsS94.ge HI308.out) | refine below_set ?_ GE307.out | refine below_set ?_ GE316.out) | exact HB.out)))); (case aL => have := LMc6.out; omega); intro v330 w67 ho hb hg hat; rw [← Ny329.out] at ho; have n0_ := Aside0.mk (blk_grown (g := gb307) (o := .cells #[.slice none 0 0, .slice none 0 0] 47 (0, 0)) (by (with_reducible repeat (first | refine blk_drewN ?_ _ | refine blk_drew ?_ | refine blk_alloc ?_ _)); exact BK307.out) hg (Kd.R_ne HO319.out BK307.out (by decide))); have n1_ := Aside0.mk (IsS94.grown (by repeat (first | (with_reducible first | exact HI308.out | apply IsS94.alloc | apply IsS94.drewN | apply IsS94.drew | apply IsS94.set_1 | apply IsS94.set_2 | refine IsS94.far ?_ NB308_307.out _ | refine IsS94.far ?_ NB308_316.out _) | exact HI308.out)) hg (IsS94.own_ne HI308.out HO319.out (by decide))); have n2_ := Aside0.mk (Kd.R_after (ok := (fun k_ => some k_ ≠ (.slice Ao59 t312.length co59 : Value).ownBlock ∧ some k_ ≠ (.slice Ao65 y323.length co65 : Value).ownBlock)) (by (with_reducible repeat (first | apply Kd.R_alloc | apply Kd.R_drewN | apply Kd.R_drew)); exact Kd.R_mono HO311.out (fun _ hk => ⟨⟨hk.1.1, hk.2⟩, hk.1.2⟩)) hg hat); have n3_ := Aside0.mk (Kd.R_after (ok := (fun k_ => some k_ ≠ (.slice Ao55 t309.length co55 : Value).ownBlock ∧ some k_ ≠ (.slice Ao65 y323.length co65 : Value).ownBlock)) (by (with_reducible repeat (first | apply Kd.R_alloc | apply Kd.R_drewN | apply Kd.R_drew)); exact Kd.R_mono HO314.out (fun _ hk => ⟨⟨hk.1.1, hk.2⟩, hk.1.2⟩)) hg hat); have n4_ := Aside0.mk (blk_grown (g := gb316) (o := .cells #[.slice Ao55 t309.length co55, .slice Ao59 t312.length co59] 47 (0, 0)) (by (with_reducible repeat (first | refine blk_drewN ?_ _ | refine blk_drew ?_ | refine blk_alloc ?_ _)); exact BK316.out) hg (Kd.R_ne HO319.out BK316.out (by decide))); have n5_ := Aside0.mk (Kd.R_after (ok := (fun k_ => some k_ ≠ (.slice Ao55 t309.length co55 : Value).ownBlock ∧ some k_ ≠ (.slice Ao59 t312.length co59 : Value).ownBlock)) (by (with_reducible repeat (first | apply Kd.R_alloc | apply Kd.R_drewN | apply Kd.R_drew)); exact Kd.R_mono HO325.out (fun _ hk => ⟨⟨hk.1.1.2, hk.1.2⟩, hk.2⟩)) hg hat); have n6_ := Aside0.mk (hb); have n7_ := Aside0.mk (ho); clear BK307; clear HI308; clear HO311; clear HO314; clear BK316; clear HO325; clear HB; clear HO319; have BK307 := n0_; have HI308 := n1_; have HO311 := n2_; have HO314 := n3_; have BK316 := n4_; have HO325 := n5_; have HB := n6_; have HO331 := n7_; clear n0_ n1_ n2_ n3_ n4_ n5_ n6_ n7_; clear ho hb hg hat) | ((with_reducible refine gate_callee (f := 70) rfl ?_); refine goesL_ (some 32) rfl rfl Try.func70 (by kernel_rfl) rfl #[.pointer (some ⟨gb308, 0, none⟩), .int .i64 2] rfl (by (try simp only [List.map_toArray, List.map_cons, List.map_nil]); first | done | rfl | (simp only [List.length_drop, List.length_take]; rfl)) ?_; (with_reducible refine (spec_l1Cur_one.calls gb308 l0 t327 t328 2 false t333 t334 w _ ?side1 ?side2 A7.out).mono ?_); (case side1 => repeat (first | (with_reducible first | exact HI308.out | apply IsS94.alloc | apply IsS94.drewN | apply IsS94.drew | apply IsS94.set_1 | apply IsS94.set_2 | refine IsS94.far ?_ NB308_307.out _ | refine IsS94.far ?_ NB308_316.out _) | exact HI308.out)); (case side2 => repeat (first | (with_reducible first | exact HB.out | apply below_alloc | apply pw_below_drewN | apply below_drew1 | refine below_set ?_ (IsS94.ge HI308.out) | refine below_set ?_ GE307.out | refine below_set ?_ GE316.out) | exact HB.out)); rintro e w68 ⟨rfl, hi, hb, hk⟩; refine ⟨_, rfl, ?_⟩; have n0_ := Aside0.mk (KeepBut.blk hk (g' := gb307) (o := .cells #[.slice none 0 0, .slice none 0 0] 47 (0, 0)) (by (with_reducible repeat (first | refine blk_drewN ?_ _ | refine blk_drew ?_ | refine blk_alloc ?_ _)); exact BK307.out) NB307_308.out (by simp)); have n1_ := Aside0.mk (Kd.R_mono (Kd.R_keep (IsS94.apart (show IsS94 w _ gb308 l0 t327 t328 from by repeat (first | (with_reducible first | exact HI308.out | apply IsS94.alloc | apply IsS94.drewN | apply IsS94.drew | apply IsS94.set_1 | apply IsS94.set_2 | refine IsS94.far ?_ NB308_307.out _ | refine IsS94.far ?_ NB308_316.out _) | exact HI308.out)) (by (with_reducible repeat (first | apply Kd.R_alloc | apply Kd.R_drewN | apply Kd.R_drew)); exact HO311.out) (by decide)) hk (fun _ h => h.2)) (fun _ h => h.1)); have n2_ := Aside0.mk (Kd.R_mono (Kd.R_keep (IsS94.apart (show IsS94 w _ gb308 l0 t327 t328 from by repeat (first | (with_reducible first | exact HI308.out | apply IsS94.alloc | apply IsS94.drewN | apply IsS94.drew | apply IsS94.set_1 | apply IsS94.set_2 | refine IsS94.far ?_ NB308_307.out _ | refine IsS94.far ?_ NB308_316.out _) | exact HI308.out)) (by (with_reducible repeat (first | apply Kd.R_alloc | apply Kd.R_drewN | apply Kd.R_drew)); exact HO314.out) (by decide)) hk (fun _ h => h.2)) (fun _ h => h.1)); have n3_ := Aside0.mk (KeepBut.blk hk (g' := gb316) (o := .cells #[.slice Ao55 t309.length co55, .slice Ao59 t312.length co59] 47 (0, 0)) (by (with_reducible repeat (first | refine blk_drewN ?_ _ | refine blk_drew ?_ | refine blk_alloc ?_ _)); exact BK316.out) NB316_308.out (by simp)); have n4_ := Aside0.mk (Kd.R_mono (Kd.R_keep (IsS94.apart (show IsS94 w _ gb308 l0 t327 t328 from by repeat (first | (with_reducible first | exact HI308.out | apply IsS94.alloc | apply IsS94.drewN | apply IsS94.drew | apply IsS94.set_1 | apply IsS94.set_2 | refine IsS94.far ?_ NB308_307.out _ | refine IsS94.far ?_ NB308_316.out _) | exact HI308.out)) (by (with_reducible repeat (first | apply Kd.R_alloc | apply Kd.R_drewN | apply Kd.R_drew)); exact HO325.out) (by decide)) hk (fun _ h => h.2)) (fun _ h => h.1)); have n5_ := Aside0.mk (Kd.R_mono (Kd.R_keep (IsS94.apart (show IsS94 w _ gb308 l0 t327 t328 from by repeat (first | (with_reducible first | exact HI308.out | apply IsS94.alloc | apply IsS94.drewN | apply IsS94.drew | apply IsS94.set_1 | apply IsS94.set_2 | refine IsS94.far ?_ NB308_307.out _ | refine IsS94.far ?_ NB308_316.out _) | exact HI308.out)) (by (with_reducible repeat (first | apply Kd.R_alloc | apply Kd.R_drewN | apply Kd.R_drew)); exact HO331.out) (by decide)) hk (fun _ h => h.2)) (fun _ h => h.1)); have n6_ := Aside0.mk (hb); have n7_ := Aside0.mk (hi); clear BK307; clear HO311; clear HO314; clear BK316; clear HO325; clear HO331; clear HB; clear HI308; have BK307 := n0_; have HO311 := n1_; have HO314 := n2_; have BK316 := n3_; have HO325 := n4_; have HO331 := n5_; have HB := n6_; have HI308 := n7_; clear n0_ n1_ n2_ n3_ n4_ n5_ n6_ n7_; (try clear hb); (try clear hb2); (try clear hk); (try clear hi)))
            have n0_ := Aside0.mk (Kd.R_drew HO311.out)
            have n1_ := Aside0.mk (Kd.R_drew HO314.out)
            have n2_ := Aside0.mk (Kd.R_drew HO325.out)
            have n3_ := Aside0.mk (Kd.R_drew HO331.out)
            have n4_ := Aside0.mk (blk_drew BK307.out)
            have n5_ := Aside0.mk (blk_drew BK316.out)
            have n6_ := Aside0.mk (IsS94.drew HI308.out)
            have n7_ := Aside0.mk (below_drew1 HB.out)
            clear HO311
            clear HO314
            clear HO325
            clear HO331
            clear BK307
            clear BK316
            clear HI308
            clear HB
            have HO311 := n0_
            have HO314 := n1_
            have HO325 := n2_
            have HO331 := n3_
            have BK307 := n4_
            have BK316 := n5_
            have HI308 := n6_
            have HB := n7_
            clear n0_ n1_ n2_ n3_ n4_ n5_ n6_ n7_
            refine start_ (n := 15) (S := fun w' => w'.cell? ⟨gb316, 0, none⟩ = some (.slice Ao55 t309.length co55) ∧ w'.cell? ⟨gb316, 1, none⟩ = some (.slice Ao59 t312.length co59)) (ds := []) #[false, false, false, false, false, false, false, false, false, false, false, false, false, false, false] (by kernel_rfl) rfl rfl ⟨(blk_cell BK316.out 0).trans rfl, (blk_cell BK316.out 1).trans rfl⟩ (fun hHeld => ?_); refine with_tabW spec_DrawTerminationDay.tab9 spec_DrawTerminationDay.bits9 (fun HT_ HW_ => ?_)
            generalize w68.drew = w69 at HO311 HO314 HO325 HO331 BK307 BK316 HI308 HB hHeld ⊢
            refine pure_ (i := 1) (N := some 41) (v := ?_) (a' := ?_) #[false, true, false, false, false, false, false, false, false, false, false, false, false, false, false] rfl rfl (any_of HT_.out (by kernel_rfl)) (fun _ _ _ h => h) (Or.inl ⟨by rfl, ?_⟩) ?_ ?_
            rotate_left
            · intro w'
              go_simp
              with_reducible rfl
            rotate_left
            · simp only [Act.put, List.setIfInBounds_toArray, List.set_cons_zero, List.set_cons_succ, i64_w, i32_w]
              rfl
            refine pure_ (i := 2) (N := some 42) (v := ?_) (a' := ?_) #[false, true, true, false, false, false, false, false, false, false, false, false, false, false, false] rfl rfl (any_of HT_.out (by kernel_rfl)) (fun _ _ _ h => h) (Or.inl ⟨by rfl, ?_⟩) ?_ ?_
            rotate_left
            · intro w'
              go_simp
              with_reducible rfl
            rotate_left
            · simp only [Act.put, List.setIfInBounds_toArray, List.set_cons_zero, List.set_cons_succ, i64_w, i32_w]
              rfl
            refine pure_ (i := 4) (N := some 44) (v := ?_) (a' := ?_) #[false, true, true, false, true, false, false, false, false, false, false, false, false, false, false] rfl rfl (any_of HT_.out (by kernel_rfl)) (fun _ _ _ h => h) (Or.inl ⟨by rfl, ?_⟩) ?_ ?_
            rotate_left
            · intro w'
              go_simp
              with_reducible rfl
            rotate_left
            · simp only [Act.put, List.setIfInBounds_toArray, List.set_cons_zero, List.set_cons_succ, i64_w, i32_w]
              rfl
            refine pure_ (i := 10) (N := some 50) (v := ?_) (a' := ?_) #[false, true, true, false, true, false, false, false, false, false, true, false, false, false, false] rfl rfl (any_of HT_.out (by kernel_rfl)) (fun _ _ _ h => h) (Or.inl ⟨by rfl, ?_⟩) ?_ ?_
            rotate_left
            · intro w'
              go_simp
              with_reducible rfl
            rotate_left
            · simp only [Act.put, List.setIfInBounds_toArray, List.set_cons_zero, List.set_cons_succ, i64_w, i32_w]
              rfl
            refine take_ (i := 0) (N := some 40) (v := ?_) (a' := ?_) #[true, true, true, false, true, false, false, false, false, false, true, false, false, false, false] rfl rfl (take_ofW HT_.out HW_.out (by kernel_rfl)) (fun _ _ _ h => h) (Or.inl ⟨by rfl, ?_⟩) hHeld ?_ ?_
            rotate_left
            · rintro w' ⟨s0, s1⟩
              go_simp
              with_reducible rfl
            rotate_left
            · simp only [Act.put, List.setIfInBounds_toArray, List.set_cons_zero, List.set_cons_succ, i64_w, i32_w]
              rfl
            refine join_ (σ := Value) 6 #[true, true, true, true, true, true, true, true, false, false, true, false, false, false, false] (fun s_ => [(43, s_), (45, .int .i64 t357), (46, .int .i64 (wrap64 (Int.tdiv t357 20))), (47, .int .i64 ji47)]) (fun s_ w' => (w'.cell? ⟨gb316, 0, none⟩ = some (.slice Ao55 t309.length co55) ∧ w'.cell? ⟨gb316, 1, none⟩ = some (.slice Ao59 t312.length co59)) ∧ (Kd.R (Kd.int .i64) 3 w' w.heap.size (fun k_ => some k_ ≠ (.slice Ao59 t312.length co59 : Value).ownBlock ∧ some k_ ≠ (.slice Ao65 y323.length co65 : Value).ownBlock ∧ some k_ ≠ (v330 : Value).ownBlock ∧ some k_ ≠ (s_ : Value).ownBlock) (.slice Ao55 t309.length co55) t309) ∧ (Kd.R (Kd.int .i64) 3 w' w.heap.size (fun k_ => some k_ ≠ (.slice Ao55 t309.length co55 : Value).ownBlock ∧ some k_ ≠ (.slice Ao65 y323.length co65 : Value).ownBlock ∧ some k_ ≠ (v330 : Value).ownBlock ∧ some k_ ≠ (s_ : Value).ownBlock) (.slice Ao59 t312.length co59) t312) ∧ (Kd.R (Kd.int .i64) 3 w' w.heap.size (fun k_ => some k_ ≠ (.slice Ao55 t309.length co55 : Value).ownBlock ∧ some k_ ≠ (.slice Ao59 t312.length co59 : Value).ownBlock ∧ some k_ ≠ (v330 : Value).ownBlock ∧ some k_ ≠ (s_ : Value).ownBlock) (.slice Ao65 y323.length co65) y323) ∧ (Kd.R (Kd.int .i64) 3 w' w.heap.size (fun k_ => some k_ ≠ (.slice Ao55 t309.length co55 : Value).ownBlock ∧ some k_ ≠ (.slice Ao59 t312.length co59 : Value).ownBlock ∧ some k_ ≠ (.slice Ao65 y323.length co65 : Value).ownBlock ∧ some k_ ≠ (s_ : Value).ownBlock) v330 y329) ∧ (Kd.R (Kd.int .i64) 3 w' w.heap.size (fun k_ => some k_ ≠ (.slice Ao55 t309.length co55 : Value).ownBlock ∧ some k_ ≠ (.slice Ao59 t312.length co59 : Value).ownBlock ∧ some k_ ≠ (.slice Ao65 y323.length co65 : Value).ownBlock ∧ some k_ ≠ (v330 : Value).ownBlock) s_ y354) ∧ (w'.heap[gb307]? = some (.cells #[.slice none 0 0, .slice none 0 0] 47 (0, 0))) ∧ (w'.heap[gb316]? = some (.cells #[.slice Ao55 t309.length co55, .slice Ao59 t312.length co59] 47 (0, 0))) ∧ (IsS94 w w' gb308 l0 t358 t359) ∧ (Below w.heap.size w w')) ?_ ?_
            rotate_left
            · intro hCont
              refine two_ (i := 3) (j := 5) (Ni := some 43) (Nj := some 45) #[true, true, true, true, true, false, false, false, false, false, true, false, false, false, false] #[true, true, true, false, true, true, false, false, false, false, true, false, false, false, false] rfl rfl rfl rfl (two_of HT_.out (by kernel_rfl)) (by decide) (by decide) (fun K hK => ?_) (fun K hK => ?_)
              · skip
                refine Kd.R_lit_step (Kd.int .i64) _ 3 ?hg (N := 43) ?hd (xs := ([0, 1, 3, 5, 20, 60, 61, (-1)] : List Int)) (inner := [.int .i64 0, .int .i64 1, .int .i64 3, .int .i64 5, .int .i64 20, .int .i64 60, .int .i64 61, .int .i64 (-1)]) (ok := fun _ => True) (okp := fun _ => True) ?hr ?hp (fun _ hk => hk) trivial (Below.refl _ _) (Nat.le_refl _) (by simp) ?_; (case hd => rfl); (case hg => rfl); (case hr => first | (go_simp; done) | (go_simp; rfl)); (case hp => exact (Reps.one (show Kd.M (Kd.int .i64) _ _ _ 0 [.int .i64 0] from rfl) (Reps.one (show Kd.M (Kd.int .i64) _ _ _ 1 [.int .i64 1] from rfl) (Reps.one (show Kd.M (Kd.int .i64) _ _ _ 3 [.int .i64 3] from rfl) (Reps.one (show Kd.M (Kd.int .i64) _ _ _ 5 [.int .i64 5] from rfl) (Reps.one (show Kd.M (Kd.int .i64) _ _ _ 20 [.int .i64 20] from rfl) (Reps.one (show Kd.M (Kd.int .i64) _ _ _ 60 [.int .i64 60] from rfl) (Reps.one (show Kd.M (Kd.int .i64) _ _ _ 61 [.int .i64 61] from rfl) (Reps.one (show Kd.M (Kd.int .i64) _ _ _ (-1) [.int .i64 (-1)] from rfl) (Reps.none _ _))))))))))
                intro v355 w70 ho71 hb hg_ hnew_
                clear hg_ hnew_
                (first | rw [← Ny354.out] at ho71 | (simp only [Int.reduceToNat] at ho71; rw [← Ny354.out] at ho71))
                have n0_ := Aside0.mk (Kd.R_elder' (by (with_reducible repeat (first | apply Kd.R_alloc | apply Kd.R_drewN | apply Kd.R_drew)); exact HO311.out) (Kd.R_base ho71) hb)
                have n1_ := Aside0.mk (Kd.R_elder' (by (with_reducible repeat (first | apply Kd.R_alloc | apply Kd.R_drewN | apply Kd.R_drew)); exact HO314.out) (Kd.R_base ho71) hb)
                have n2_ := Aside0.mk (Kd.R_elder' (by (with_reducible repeat (first | apply Kd.R_alloc | apply Kd.R_drewN | apply Kd.R_drew)); exact HO325.out) (Kd.R_base ho71) hb)
                have n3_ := Aside0.mk (Kd.R_elder' (by (with_reducible repeat (first | apply Kd.R_alloc | apply Kd.R_drewN | apply Kd.R_drew)); exact HO331.out) (Kd.R_base ho71) hb)
                have n4_ := Aside0.mk (Kd.R_lower (Kd.R_new' (Kd.R_new' (Kd.R_new' (Kd.R_new' ho71 (Kd.R_lt (by (with_reducible repeat (first | apply Kd.R_alloc | apply Kd.R_drewN | apply Kd.R_drew)); exact HO311.out))) (Kd.R_lt (by (with_reducible repeat (first | apply Kd.R_alloc | apply Kd.R_drewN | apply Kd.R_drew)); exact HO314.out))) (Kd.R_lt (by (with_reducible repeat (first | apply Kd.R_alloc | apply Kd.R_drewN | apply Kd.R_drew)); exact HO325.out))) (Kd.R_lt (by (with_reducible repeat (first | apply Kd.R_alloc | apply Kd.R_drewN | apply Kd.R_drew)); exact HO331.out))) (below_size (by repeat (first | (with_reducible first | exact HB.out | apply below_alloc | apply pw_below_drewN | apply below_drew1 | refine below_set ?_ (IsS94.ge HI308.out) | refine below_set ?_ GE307.out | refine below_set ?_ GE316.out) | exact HB.out))))
                have n5_ := Aside0.mk (blk_below (g := gb307) (o := .cells #[.slice none 0 0, .slice none 0 0] 47 (0, 0)) (by (with_reducible repeat (first | refine blk_drewN ?_ _ | refine blk_drew ?_ | refine blk_alloc ?_ _)); exact BK307.out) hb)
                have n6_ := Aside0.mk (IsS94.below (by repeat (first | (with_reducible first | exact HI308.out | apply IsS94.alloc | apply IsS94.drewN | apply IsS94.drew | apply IsS94.set_1 | apply IsS94.set_2 | refine IsS94.far ?_ NB308_307.out _ | refine IsS94.far ?_ NB308_316.out _) | exact HI308.out)) hb)
                have n7_ := Aside0.mk (blk_below (g := gb316) (o := .cells #[.slice Ao55 t309.length co55, .slice Ao59 t312.length co59] 47 (0, 0)) (by (with_reducible repeat (first | refine blk_drewN ?_ _ | refine blk_drew ?_ | refine blk_alloc ?_ _)); exact BK316.out) hb)
                have n8_ := Aside0.mk (below_step (by repeat (first | (with_reducible first | exact HB.out | apply below_alloc | apply pw_below_drewN | apply below_drew1 | refine below_set ?_ (IsS94.ge HI308.out) | refine below_set ?_ GE307.out | refine below_set ?_ GE316.out) | exact HB.out)) hb)
                clear HO311
                clear HO314
                clear HO325
                clear HO331
                clear BK307
                clear HI308
                clear BK316
                clear HB
                have HO311 := n0_
                have HO314 := n1_
                have HO325 := n2_
                have HO331 := n3_
                have HO356 := n4_
                have BK307 := n5_
                have HI308 := n6_
                have BK316 := n7_
                have HB := n8_
                clear n0_ n1_ n2_ n3_ n4_ n5_ n6_ n7_ n8_
                clear hb ho71
                refine hK.out _ _ ⟨(blk_cell BK316.out 0).trans rfl, (blk_cell BK316.out 1).trans rfl⟩ (fun hHeld => ?_)
                clear hK K
                refine norm_ (a' := ?_) ?_ ?_
                rotate_left
                · show Act.put _ (some 43) _ = _
                  simp only [Act.put, List.setIfInBounds_toArray, List.set_cons_zero, List.set_cons_succ, i64_w, i32_w]
                  rfl
                refine one_ (i := 5) (N := some 45) #[true, true, true, true, true, true, false, false, false, false, true, false, false, false, false] rfl rfl (one_of HT_.out (by kernel_rfl)) (by decide) (fun K hK => ?_)
                refine goes_ Try.func72 (by kernel_rfl) rfl #[.pointer (some ⟨gb308, 0, none⟩), .int .i64 40] (by rfl) rfl rfl (by (try simp only [List.map_toArray, List.map_cons, List.map_nil]); first | done | rfl | (simp only [List.length_drop, List.length_take]; rfl)) ?_
                with_reducible refine (spec_l1Cur_pick.calls gb308 l0 t333 t334 40 t357 t358 t359 w _ ?side1 ?side2 A46.out).mono ?_
                (case side1 => repeat (first | (with_reducible first | exact HI308.out | apply IsS94.alloc | apply IsS94.drewN | apply IsS94.drew | apply IsS94.set_1 | apply IsS94.set_2 | refine IsS94.far ?_ NB308_307.out _ | refine IsS94.far ?_ NB308_316.out _) | exact HI308.out))
                (case side2 => repeat (first | (with_reducible first | exact HB.out | apply below_alloc | apply pw_below_drewN | apply below_drew1 | refine below_set ?_ (IsS94.ge HI308.out) | refine below_set ?_ GE307.out | refine below_set ?_ GE316.out) | exact HB.out))
                rintro e w72 ⟨rfl, hi, hb, hk⟩
                refine ⟨_, rfl, ?_⟩
                have n0_ := Aside0.mk (KeepBut.blk hk (g' := gb307) (o := .cells #[.slice none 0 0, .slice none 0 0] 47 (0, 0)) (by (with_reducible repeat (first | refine blk_drewN ?_ _ | refine blk_drew ?_ | refine blk_alloc ?_ _)); exact BK307.out) NB307_308.out (by simp))
                have n1_ := Aside0.mk (Kd.R_mono (Kd.R_keep (IsS94.apart (show IsS94 w _ gb308 l0 t333 t334 from by repeat (first | (with_reducible first | exact HI308.out | apply IsS94.alloc | apply IsS94.drewN | apply IsS94.drew | apply IsS94.set_1 | apply IsS94.set_2 | refine IsS94.far ?_ NB308_307.out _ | refine IsS94.far ?_ NB308_316.out _) | exact HI308.out)) (by (with_reducible repeat (first | apply Kd.R_alloc | apply Kd.R_drewN | apply Kd.R_drew)); exact HO311.out) (by decide)) hk (fun _ h => h.2)) (fun _ h => h.1))
                have n2_ := Aside0.mk (Kd.R_mono (Kd.R_keep (IsS94.apart (show IsS94 w _ gb308 l0 t333 t334 from by repeat (first | (with_reducible first | exact HI308.out | apply IsS94.alloc | apply IsS94.drewN | apply IsS94.drew | apply IsS94.set_1 | apply IsS94.set_2 | refine IsS94.far ?_ NB308_307.out _ | refine IsS94.far ?_ NB308_316.out _) | exact HI308.out)) (by (with_reducible repeat (first | apply Kd.R_alloc | apply Kd.R_drewN | apply Kd.R_drew)); exact HO314.out) (by decide)) hk (fun _ h => h.2)) (fun _ h => h.1))
                have n3_ := Aside0.mk (KeepBut.blk hk (g' := gb316) (o := .cells #[.slice Ao55 t309.length co55, .slice Ao59 t312.length co59] 47 (0, 0)) (by (with_reducible repeat (first | refine blk_drewN ?_ _ | refine blk_drew ?_ | refine blk_alloc ?_ _)); exact BK316.out) NB316_308.out (by simp))
                have n4_ := Aside0.mk (Kd.R_mono (Kd.R_keep (IsS94.apart (show IsS94 w _ gb308 l0 t333 t334 from by repeat (first | (with_reducible first | exact HI308.out | apply IsS94.alloc | apply IsS94.drewN | apply IsS94.drew | apply IsS94.set_1 | apply IsS94.set_2 | refine IsS94.far ?_ NB308_307.out _ | refine IsS94.far ?_ NB308_316.out _) | exact HI308.out)) (by (with_reducible repeat (first | apply Kd.R_alloc | apply Kd.R_drewN | apply Kd.R_drew)); exact HO325.out) (by decide)) hk (fun _ h => h.2)) (fun _ h => h.1))
                have n5_ := Aside0.mk (Kd.R_mono (Kd.R_keep (IsS94.apart (show IsS94 w _ gb308 l0 t333 t334 from by repeat (first | (with_reducible first | exact HI308.out | apply IsS94.alloc | apply IsS94.drewN | apply IsS94.drew | apply IsS94.set_1 | apply IsS94.set_2 | refine IsS94.far ?_ NB308_307.out _ | refine IsS94.far ?_ NB308_316.out _) | exact HI308.out)) (by (with_reducible repeat (first | apply Kd.R_alloc | apply Kd.R_drewN | apply Kd.R_drew)); exact HO331.out) (by decide)) hk (fun _ h => h.2)) (fun _ h => h.1))
                have n6_ := Aside0.mk (Kd.R_mono (Kd.R_keep (IsS94.apart (show IsS94 w _ gb308 l0 t333 t334 from by repeat (first | (with_reducible first | exact HI308.out | apply IsS94.alloc | apply IsS94.drewN | apply IsS94.drew | apply IsS94.set_1 | apply IsS94.set_2 | refine IsS94.far ?_ NB308_307.out _ | refine IsS94.far ?_ NB308_316.out _) | exact HI308.out)) (by (with_reducible repeat (first | apply Kd.R_alloc | apply Kd.R_drewN | apply Kd.R_drew)); exact HO356.out) (by decide)) hk (fun _ h => h.2)) (fun _ h => h.1))
                have n7_ := Aside0.mk (hb)
                have n8_ := Aside0.mk (hi)
                clear BK307
                clear HO311
                clear HO314
                clear BK316
                clear HO325
                clear HO331
                clear HO356
                clear HB
                clear HI308
                have BK307 := n0_
                have HO311 := n1_
                have HO314 := n2_
                have BK316 := n3_
                have HO325 := n4_
                have HO331 := n5_
                have HO356 := n6_
                have HB := n7_
                have HI308 := n8_
                clear n0_ n1_ n2_ n3_ n4_ n5_ n6_ n7_ n8_
                (try clear hb)
                (try clear hb2)
                (try clear hk)
                (try clear hi)
                refine hK.out _ _ ⟨(blk_cell BK316.out 0).trans rfl, (blk_cell BK316.out 1).trans rfl⟩ (fun hHeld => ?_)
                clear hK K
                refine norm_ (a' := ?_) ?_ ?_
                rotate_left
                · show Act.put _ (some 45) _ = _
                  simp only [Act.put, List.setIfInBounds_toArray, List.set_cons_zero, List.set_cons_succ, i64_w, i32_w]
                  rfl
                refine pure_ (i := 6) (N := some 46) (v := ?_) (a' := ?_) #[true, true, true, true, true, true, true, false, false, false, true, false, false, false, false] rfl rfl (any_of HT_.out (by kernel_rfl)) (fun _ _ _ h => h) (Or.inl ⟨by rfl, ?_⟩) ?_ ?_
                rotate_left
                · intro w'
                  go_simp
                  with_reducible rfl
                rotate_left
                · simp only [Act.put, List.setIfInBounds_toArray, List.set_cons_zero, List.set_cons_succ, i64_w, i32_w]
                  rfl
                refine pure_ (i := 7) (N := some 47) (v := ?_) (a' := ?_) #[true, true, true, true, true, true, true, true, false, false, true, false, false, false, false] rfl rfl (any_of HT_.out (by kernel_rfl)) (fun _ _ _ h => h) (Or.inl ⟨by rfl, ?_⟩) ?_ ?_
                rotate_left
                · intro w'
                  go_simp
                  with_reducible rfl
                rotate_left
                · simp only [Act.put, List.setIfInBounds_toArray, List.set_cons_zero, List.set_cons_succ, i64_w, i32_w]
                  rfl
                exact norm_ (by simp only [putAll, Act.put, List.setIfInBounds_toArray, List.set_cons_zero, List.set_cons_succ]) (hCont (v355) _ ⟨hHeld, (by (with_reducible repeat (first | apply Kd.R_alloc | apply Kd.R_drewN | apply Kd.R_drew)); exact Kd.R_mono HO311.out (fun _ hk => ⟨hk.1.1.1, ⟨hk.1.1.2, ⟨hk.1.2, hk.2⟩⟩⟩)), (by (with_reducible repeat (first | apply Kd.R_alloc | apply Kd.R_drewN | apply Kd.R_drew)); exact Kd.R_mono HO314.out (fun _ hk => ⟨hk.1.1.1, ⟨hk.1.1.2, ⟨hk.1.2, hk.2⟩⟩⟩)), (by (with_reducible repeat (first | apply Kd.R_alloc | apply Kd.R_drewN | apply Kd.R_drew)); exact Kd.R_mono HO325.out (fun _ hk => ⟨hk.1.1.1, ⟨hk.1.1.2, ⟨hk.1.2, hk.2⟩⟩⟩)), (by (with_reducible repeat (first | apply Kd.R_alloc | apply Kd.R_drewN | apply Kd.R_drew)); exact Kd.R_mono HO331.out (fun _ hk => ⟨hk.1.1, ⟨hk.1.2.1, ⟨hk.1.2.2, hk.2⟩⟩⟩)), (by (with_reducible repeat (first | apply Kd.R_alloc | apply Kd.R_drewN | apply Kd.R_drew)); exact Kd.R_mono HO356.out (fun _ hk => ⟨hk.1.1.1.2, ⟨hk.1.1.2, ⟨hk.1.2, hk.2⟩⟩⟩)), (by (with_reducible repeat (first | refine blk_drewN ?_ _ | refine blk_drew ?_ | refine blk_alloc ?_ _)); exact BK307.out), (by (with_reducible repeat (first | refine blk_drewN ?_ _ | refine blk_drew ?_ | refine blk_alloc ?_ _)); exact BK316.out), (by repeat (first | (with_reducible first | exact HI308.out | apply IsS94.alloc | apply IsS94.drewN | apply IsS94.drew | apply IsS94.set_1 | apply IsS94.set_2 | refine IsS94.far ?_ NB308_307.out _ | refine IsS94.far ?_ NB308_316.out _) | exact HI308.out)), (by repeat (first | (with_reducible first | exact HB.out | apply below_alloc | apply pw_below_drewN | apply below_drew1 | refine below_set ?_ (IsS94.ge HI308.out) | refine below_set ?_ GE307.out | refine below_set ?_ GE316.out) | exact HB.out))⟩)
              · skip
                refine goes_ Try.func72 (by kernel_rfl) rfl #[.pointer (some ⟨gb308, 0, none⟩), .int .i64 40] (by rfl) rfl rfl (by (try simp only [List.map_toArray, List.map_cons, List.map_nil]); first | done | rfl | (simp only [List.length_drop, List.length_take]; rfl)) ?_
                with_reducible refine (spec_l1Cur_pick.calls gb308 l0 t333 t334 40 t357 t358 t359 w _ ?side1 ?side2 A46.out).mono ?_
                (case side1 => repeat (first | (with_reducible first | exact HI308.out | apply IsS94.alloc | apply IsS94.drewN | apply IsS94.drew | apply IsS94.set_1 | apply IsS94.set_2 | refine IsS94.far ?_ NB308_307.out _ | refine IsS94.far ?_ NB308_316.out _) | exact HI308.out))
                (case side2 => repeat (first | (with_reducible first | exact HB.out | apply below_alloc | apply pw_below_drewN | apply below_drew1 | refine below_set ?_ (IsS94.ge HI308.out) | refine below_set ?_ GE307.out | refine below_set ?_ GE316.out) | exact HB.out))
                rintro e w70 ⟨rfl, hi, hb, hk⟩
                refine ⟨_, rfl, ?_⟩
                have n0_ := Aside0.mk (KeepBut.blk hk (g' := gb307) (o := .cells #[.slice none 0 0, .slice none 0 0] 47 (0, 0)) (by (with_reducible repeat (first | refine blk_drewN ?_ _ | refine blk_drew ?_ | refine blk_alloc ?_ _)); exact BK307.out) NB307_308.out (by simp))
                have n1_ := Aside0.mk (Kd.R_mono (Kd.R_keep (IsS94.apart (show IsS94 w _ gb308 l0 t333 t334 from by repeat (first | (with_reducible first | exact HI308.out | apply IsS94.alloc | apply IsS94.drewN | apply IsS94.drew | apply IsS94.set_1 | apply IsS94.set_2 | refine IsS94.far ?_ NB308_307.out _ | refine IsS94.far ?_ NB308_316.out _) | exact HI308.out)) (by (with_reducible repeat (first | apply Kd.R_alloc | apply Kd.R_drewN | apply Kd.R_drew)); exact HO311.out) (by decide)) hk (fun _ h => h.2)) (fun _ h => h.1))
                have n2_ := Aside0.mk (Kd.R_mono (Kd.R_keep (IsS94.apart (show IsS94 w _ gb308 l0 t333 t334 from by repeat (first | (with_reducible first | exact HI308.out | apply IsS94.alloc | apply IsS94.drewN | apply IsS94.drew | apply IsS94.set_1 | apply IsS94.set_2 | refine IsS94.far ?_ NB308_307.out _ | refine IsS94.far ?_ NB308_316.out _) | exact HI308.out)) (by (with_reducible repeat (first | apply Kd.R_alloc | apply Kd.R_drewN | apply Kd.R_drew)); exact HO314.out) (by decide)) hk (fun _ h => h.2)) (fun _ h => h.1))
                have n3_ := Aside0.mk (KeepBut.blk hk (g' := gb316) (o := .cells #[.slice Ao55 t309.length co55, .slice Ao59 t312.length co59] 47 (0, 0)) (by (with_reducible repeat (first | refine blk_drewN ?_ _ | refine blk_drew ?_ | refine blk_alloc ?_ _)); exact BK316.out) NB316_308.out (by simp))
                have n4_ := Aside0.mk (Kd.R_mono (Kd.R_keep (IsS94.apart (show IsS94 w _ gb308 l0 t333 t334 from by repeat (first | (with_reducible first | exact HI308.out | apply IsS94.alloc | apply IsS94.drewN | apply IsS94.drew | apply IsS94.set_1 | apply IsS94.set_2 | refine IsS94.far ?_ NB308_307.out _ | refine IsS94.far ?_ NB308_316.out _) | exact HI308.out)) (by (with_reducible repeat (first | apply Kd.R_alloc | apply Kd.R_drewN | apply Kd.R_drew)); exact HO325.out) (by decide)) hk (fun _ h => h.2)) (fun _ h => h.1))
                have n5_ := Aside0.mk (Kd.R_mono (Kd.R_keep (IsS94.apart (show IsS94 w _ gb308 l0 t333 t334 from by repeat (first | (with_reducible first | exact HI308.out | apply IsS94.alloc | apply IsS94.drewN | apply IsS94.drew | apply IsS94.set_1 | apply IsS94.set_2 | refine IsS94.far ?_ NB308_307.out _ | refine IsS94.far ?_ NB308_316.out _) | exact HI308.out)) (by (with_reducible repeat (first | apply Kd.R_alloc | apply Kd.R_drewN | apply Kd.R_drew)); exact HO331.out) (by decide)) hk (fun _ h => h.2)) (fun _ h => h.1))
                have n6_ := Aside0.mk (hb)
                have n7_ := Aside0.mk (hi)
                clear BK307
                clear HO311
                clear HO314
                clear BK316
                clear HO325
                clear HO331
                clear HB
                clear HI308
                have BK307 := n0_
                have HO311 := n1_
                have HO314 := n2_
                have BK316 := n3_
                have HO325 := n4_
                have HO331 := n5_
                have HB := n6_
                have HI308 := n7_
                clear n0_ n1_ n2_ n3_ n4_ n5_ n6_ n7_
                (try clear hb)
                (try clear hb2)
                (try clear hk)
                (try clear hi)
                refine hK.out _ _ ⟨(blk_cell BK316.out 0).trans rfl, (blk_cell BK316.out 1).trans rfl⟩ (fun hHeld => ?_)
                clear hK K
                refine norm_ (a' := ?_) ?_ ?_
                rotate_left
                · show Act.put _ (some 45) _ = _
                  simp only [Act.put, List.setIfInBounds_toArray, List.set_cons_zero, List.set_cons_succ, i64_w, i32_w]
                  rfl
                refine pure_ (i := 6) (N := some 46) (v := ?_) (a' := ?_) #[true, true, true, false, true, true, true, false, false, false, true, false, false, false, false] rfl rfl (any_of HT_.out (by kernel_rfl)) (fun _ _ _ h => h) (Or.inl ⟨by rfl, ?_⟩) ?_ ?_
                rotate_left
                · intro w'
                  go_simp
                  with_reducible rfl
                rotate_left
                · simp only [Act.put, List.setIfInBounds_toArray, List.set_cons_zero, List.set_cons_succ, i64_w, i32_w]
                  rfl
                refine pure_ (i := 7) (N := some 47) (v := ?_) (a' := ?_) #[true, true, true, false, true, true, true, true, false, false, true, false, false, false, false] rfl rfl (any_of HT_.out (by kernel_rfl)) (fun _ _ _ h => h) (Or.inl ⟨by rfl, ?_⟩) ?_ ?_
                rotate_left
                · intro w'
                  go_simp
                  with_reducible rfl
                rotate_left
                · simp only [Act.put, List.setIfInBounds_toArray, List.set_cons_zero, List.set_cons_succ, i64_w, i32_w]
                  rfl
                refine one_ (i := 3) (N := some 43) #[true, true, true, true, true, true, true, true, false, false, true, false, false, false, false] rfl rfl (one_of HT_.out (by kernel_rfl)) (by decide) (fun K hK => ?_)
                refine Kd.R_lit_step (Kd.int .i64) _ 3 ?hg (N := 43) ?hd (xs := ([0, 1, 3, 5, 20, 60, 61, (-1)] : List Int)) (inner := [.int .i64 0, .int .i64 1, .int .i64 3, .int .i64 5, .int .i64 20, .int .i64 60, .int .i64 61, .int .i64 (-1)]) (ok := fun _ => True) (okp := fun _ => True) ?hr ?hp (fun _ hk => hk) trivial (Below.refl _ _) (Nat.le_refl _) (by simp) ?_; (case hd => rfl); (case hg => rfl); (case hr => first | (go_simp; done) | (go_simp; rfl)); (case hp => exact (Reps.one (show Kd.M (Kd.int .i64) _ _ _ 0 [.int .i64 0] from rfl) (Reps.one (show Kd.M (Kd.int .i64) _ _ _ 1 [.int .i64 1] from rfl) (Reps.one (show Kd.M (Kd.int .i64) _ _ _ 3 [.int .i64 3] from rfl) (Reps.one (show Kd.M (Kd.int .i64) _ _ _ 5 [.int .i64 5] from rfl) (Reps.one (show Kd.M (Kd.int .i64) _ _ _ 20 [.int .i64 20] from rfl) (Reps.one (show Kd.M (Kd.int .i64) _ _ _ 60 [.int .i64 60] from rfl) (Reps.one (show Kd.M (Kd.int .i64) _ _ _ 61 [.int .i64 61] from rfl) (Reps.one (show Kd.M (Kd.int .i64) _ _ _ (-1) [.int .i64 (-1)] from rfl) (Reps.none _ _))))))))))
                intro v355 w71 ho72 hb hg_ hnew_
                clear hg_ hnew_
                (first | rw [← Ny354.out] at ho72 | (simp only [Int.reduceToNat] at ho72; rw [← Ny354.out] at ho72))
                have n0_ := Aside0.mk (Kd.R_elder' (by (with_reducible repeat (first | apply Kd.R_alloc | apply Kd.R_drewN | apply Kd.R_drew)); exact HO311.out) (Kd.R_base ho72) hb)
                have n1_ := Aside0.mk (Kd.R_elder' (by (with_reducible repeat (first | apply Kd.R_alloc | apply Kd.R_drewN | apply Kd.R_drew)); exact HO314.out) (Kd.R_base ho72) hb)
                have n2_ := Aside0.mk (Kd.R_elder' (by (with_reducible repeat (first | apply Kd.R_alloc | apply Kd.R_drewN | apply Kd.R_drew)); exact HO325.out) (Kd.R_base ho72) hb)
                have n3_ := Aside0.mk (Kd.R_elder' (by (with_reducible repeat (first | apply Kd.R_alloc | apply Kd.R_drewN | apply Kd.R_drew)); exact HO331.out) (Kd.R_base ho72) hb)
                have n4_ := Aside0.mk (Kd.R_lower (Kd.R_new' (Kd.R_new' (Kd.R_new' (Kd.R_new' ho72 (Kd.R_lt (by (with_reducible repeat (first | apply Kd.R_alloc | apply Kd.R_drewN | apply Kd.R_drew)); exact HO311.out))) (Kd.R_lt (by (with_reducible repeat (first | apply Kd.R_alloc | apply Kd.R_drewN | apply Kd.R_drew)); exact HO314.out))) (Kd.R_lt (by (with_reducible repeat (first | apply Kd.R_alloc | apply Kd.R_drewN | apply Kd.R_drew)); exact HO325.out))) (Kd.R_lt (by (with_reducible repeat (first | apply Kd.R_alloc | apply Kd.R_drewN | apply Kd.R_drew)); exact HO331.out))) (below_size (by repeat (first | (with_reducible first | exact HB.out | apply below_alloc | apply pw_below_drewN | apply below_drew1 | refine below_set ?_ (IsS94.ge HI308.out) | refine below_set ?_ GE307.out | refine below_set ?_ GE316.out) | exact HB.out))))
                have n5_ := Aside0.mk (blk_below (g := gb307) (o := .cells #[.slice none 0 0, .slice none 0 0] 47 (0, 0)) (by (with_reducible repeat (first | refine blk_drewN ?_ _ | refine blk_drew ?_ | refine blk_alloc ?_ _)); exact BK307.out) hb)
                have n6_ := Aside0.mk (IsS94.below (by repeat (first | (with_reducible first | exact HI308.out | apply IsS94.alloc | apply IsS94.drewN | apply IsS94.drew | apply IsS94.set_1 | apply IsS94.set_2 | refine IsS94.far ?_ NB308_307.out _ | refine IsS94.far ?_ NB308_316.out _) | exact HI308.out)) hb)
                have n7_ := Aside0.mk (blk_below (g := gb316) (o := .cells #[.slice Ao55 t309.length co55, .slice Ao59 t312.length co59] 47 (0, 0)) (by (with_reducible repeat (first | refine blk_drewN ?_ _ | refine blk_drew ?_ | refine blk_alloc ?_ _)); exact BK316.out) hb)
                have n8_ := Aside0.mk (below_step (by repeat (first | (with_reducible first | exact HB.out | apply below_alloc | apply pw_below_drewN | apply below_drew1 | refine below_set ?_ (IsS94.ge HI308.out) | refine below_set ?_ GE307.out | refine below_set ?_ GE316.out) | exact HB.out)) hb)
                clear HO311
                clear HO314
                clear HO325
                clear HO331
                clear BK307
                clear HI308
                clear BK316
                clear HB
                have HO311 := n0_
                have HO314 := n1_
                have HO325 := n2_
                have HO331 := n3_
                have HO356 := n4_
                have BK307 := n5_
                have HI308 := n6_
                have BK316 := n7_
                have HB := n8_
                clear n0_ n1_ n2_ n3_ n4_ n5_ n6_ n7_ n8_
                clear hb ho72
                refine hK.out _ _ ⟨(blk_cell BK316.out 0).trans rfl, (blk_cell BK316.out 1).trans rfl⟩ (fun hHeld => ?_)
                clear hK K
                refine norm_ (a' := ?_) ?_ ?_
                rotate_left
                · show Act.put _ (some 43) _ = _
                  simp only [Act.put, List.setIfInBounds_toArray, List.set_cons_zero, List.set_cons_succ, i64_w, i32_w]
                  rfl
                exact norm_ (by simp only [putAll, Act.put, List.setIfInBounds_toArray, List.set_cons_zero, List.set_cons_succ]) (hCont (v355) _ ⟨hHeld, (by (with_reducible repeat (first | apply Kd.R_alloc | apply Kd.R_drewN | apply Kd.R_drew)); exact Kd.R_mono HO311.out (fun _ hk => ⟨hk.1.1.1, ⟨hk.1.1.2, ⟨hk.1.2, hk.2⟩⟩⟩)), (by (with_reducible repeat (first | apply Kd.R_alloc | apply Kd.R_drewN | apply Kd.R_drew)); exact Kd.R_mono HO314.out (fun _ hk => ⟨hk.1.1.1, ⟨hk.1.1.2, ⟨hk.1.2, hk.2⟩⟩⟩)), (by (with_reducible repeat (first | apply Kd.R_alloc | apply Kd.R_drewN | apply Kd.R_drew)); exact Kd.R_mono HO325.out (fun _ hk => ⟨hk.1.1.1, ⟨hk.1.1.2, ⟨hk.1.2, hk.2⟩⟩⟩)), (by (with_reducible repeat (first | apply Kd.R_alloc | apply Kd.R_drewN | apply Kd.R_drew)); exact Kd.R_mono HO331.out (fun _ hk => ⟨hk.1.1, ⟨hk.1.2.1, ⟨hk.1.2.2, hk.2⟩⟩⟩)), (by (with_reducible repeat (first | apply Kd.R_alloc | apply Kd.R_drewN | apply Kd.R_drew)); exact Kd.R_mono HO356.out (fun _ hk => ⟨hk.1.1.1.2, ⟨hk.1.1.2, ⟨hk.1.2, hk.2⟩⟩⟩)), (by (with_reducible repeat (first | refine blk_drewN ?_ _ | refine blk_drew ?_ | refine blk_alloc ?_ _)); exact BK307.out), (by (with_reducible repeat (first | refine blk_drewN ?_ _ | refine blk_drew ?_ | refine blk_alloc ?_ _)); exact BK316.out), (by repeat (first | (with_reducible first | exact HI308.out | apply IsS94.alloc | apply IsS94.drewN | apply IsS94.drew | apply IsS94.set_1 | apply IsS94.set_2 | refine IsS94.far ?_ NB308_307.out _ | refine IsS94.far ?_ NB308_316.out _) | exact HI308.out)), (by repeat (first | (with_reducible first | exact HB.out | apply below_alloc | apply pw_below_drewN | apply below_drew1 | refine below_set ?_ (IsS94.ge HI308.out) | refine below_set ?_ GE307.out | refine below_set ?_ GE316.out) | exact HB.out))⟩)
            rintro v355 w73 ⟨hS_, h0_, h1_, h2_, h3_, h4_, h5_, h6_, h7_, h8_⟩
            have n0_ : Aside0 (Kd.R (Kd.int .i64) 3 w73 w.heap.size (fun k_ => some k_ ≠ (.slice Ao59 t312.length co59 : Value).ownBlock ∧ some k_ ≠ (.slice Ao65 y323.length co65 : Value).ownBlock ∧ some k_ ≠ (v330 : Value).ownBlock ∧ some k_ ≠ (v355 : Value).ownBlock) (.slice Ao55 t309.length co55) t309) := ⟨h0_⟩
            have n1_ : Aside0 (Kd.R (Kd.int .i64) 3 w73 w.heap.size (fun k_ => some k_ ≠ (.slice Ao55 t309.length co55 : Value).ownBlock ∧ some k_ ≠ (.slice Ao65 y323.length co65 : Value).ownBlock ∧ some k_ ≠ (v330 : Value).ownBlock ∧ some k_ ≠ (v355 : Value).ownBlock) (.slice Ao59 t312.length co59) t312) := ⟨h1_⟩
            have n2_ : Aside0 (Kd.R (Kd.int .i64) 3 w73 w.heap.size (fun k_ => some k_ ≠ (.slice Ao55 t309.length co55 : Value).ownBlock ∧ some k_ ≠ (.slice Ao59 t312.length co59 : Value).ownBlock ∧ some k_ ≠ (v330 : Value).ownBlock ∧ some k_ ≠ (v355 : Value).ownBlock) (.slice Ao65 y323.length co65) y323) := ⟨h2_⟩
            have n3_ : Aside0 (Kd.R (Kd.int .i64) 3 w73 w.heap.size (fun k_ => some k_ ≠ (.slice Ao55 t309.length co55 : Value).ownBlock ∧ some k_ ≠ (.slice Ao59 t312.length co59 : Value).ownBlock ∧ some k_ ≠ (.slice Ao65 y323.length co65 : Value).ownBlock ∧ some k_ ≠ (v355 : Value).ownBlock) v330 y329) := ⟨h3_⟩
            have n4_ : Aside0 (Kd.R (Kd.int .i64) 3 w73 w.heap.size (fun k_ => some k_ ≠ (.slice Ao55 t309.length co55 : Value).ownBlock ∧ some k_ ≠ (.slice Ao59 t312.length co59 : Value).ownBlock ∧ some k_ ≠ (.slice Ao65 y323.length co65 : Value).ownBlock ∧ some k_ ≠ (v330 : Value).ownBlock) v355 y354) := ⟨h4_⟩
            have n5_ : Aside0 (w73.heap[gb307]? = some (.cells #[.slice none 0 0, .slice none 0 0] 47 (0, 0))) := ⟨h5_⟩
            have n6_ : Aside0 (w73.heap[gb316]? = some (.cells #[.slice Ao55 t309.length co55, .slice Ao59 t312.length co59] 47 (0, 0))) := ⟨h6_⟩
            have n7_ : Aside0 (IsS94 w w73 gb308 l0 t358 t359) := ⟨h7_⟩
            have n8_ : Aside0 (Below w.heap.size w w73) := ⟨h8_⟩
            clear HO311
            clear HO314
            clear HO325
            clear HO331
            clear BK307
            clear BK316
            clear HI308
            clear HB
            clear h0_ h1_ h2_ h3_ h4_ h5_ h6_ h7_ h8_
            have HO311 := n0_
            have HO314 := n1_
            have HO325 := n2_
            have HO331 := n3_
            have HO356 := n4_
            have BK307 := n5_
            have BK316 := n6_
            have HI308 := n7_
            have HB := n8_
            clear n0_ n1_ n2_ n3_ n4_ n5_ n6_ n7_ n8_
            have hHeld : w73.cell? ⟨gb316, 0, none⟩ = some (.slice Ao55 t309.length co55) ∧ w73.cell? ⟨gb316, 1, none⟩ = some (.slice Ao59 t312.length co59) := hS_
            obtain ⟨Ao75, co75, eo75⟩ := Kd.R_slice HO356.out
            (first | subst eo75 | (injection eo75 with f1_ f2_ f3_; have f4_ := f1_.symm; have f5_ := f3_.symm; clear f1_ f2_ f3_; subst f4_; subst f5_))
            have q74 : ((ji47) : Int) ≤ ((y354.length : Int) : Int) := of_decide_eq_true (by first | (with_reducible assumption) | assumption)
            obtain ⟨i074, hi074, _, hsz74, _⟩ := info_parts info3
            have hroom74 : y354.length ≤ co75 := (Kd.R_reads' HO356.out).2.1
            have hC74 : Kd.C (Kd.int .i64) _ Ao75 y354.length y354 := (Kd.R_reads' HO356.out).2.2
            have hcut74 := cut_to (P := Try.prog) 36 3 .i64 Try.underlying36 hi074 Ao75 y354.length co75 (ji47) (of_decide_eq_true (by first | (with_reducible assumption) | assumption)) q74 hroom74
            have hr74 := Kd.C_take (m := ((ji47) : Int).toNat) hC74 (by omega)
            have hy74 : y360.length = ((ji47) : Int).toNat := (by rw [Ny360.out, List.length_take]; omega)
            rw [← Ny360.out] at hr74
            rw [← hy74] at hcut74
            have HR363 := Aside0.mk hr74
            have HC363 := Aside0.mk (show y360.length ≤ co75 from by omega)
            clear hr74 hC74 hroom74 hi074 hsz74
            have KY74 := Aside0.mk hy74
            clear hy74
            have KL74 := Aside0.mk (show ((ji47) : Int).toNat ≤ y354.length from by omega)
            replace q74 := eq_true q74
            refine norm_ (a' := ?_) ?_ ?_
            rotate_left
            · simp only [putAll, Act.put, List.setIfInBounds_toArray, List.set_cons_zero, List.set_cons_succ]
              rfl
            refine pure_ (i := 8) (N := some 48) (v := ?_) (a' := ?_) #[true, true, true, true, true, true, true, true, true, false, true, false, false, false, false] rfl rfl (any_of HT_.out (by kernel_rfl)) (fun _ _ _ h => h) (Or.inl ⟨by rfl, ?_⟩) ?_ ?_
            rotate_left
            · intro w'
              go_simp
              with_reducible rfl
            rotate_left
            · simp only [Act.put, List.setIfInBounds_toArray, List.set_cons_zero, List.set_cons_succ, i64_w, i32_w]
              rfl
            refine one_ (i := 9) (N := some 49) #[true, true, true, true, true, true, true, true, true, true, true, false, false, false, false] rfl rfl (one_of HT_.out (by kernel_rfl)) (by decide) (fun K hK => ?_)
            refine goes_ Try.func71 (by kernel_rfl) rfl #[.pointer (some ⟨gb308, 0, none⟩), .slice Ao75 y360.length co75] (by rfl) rfl rfl (by (try simp only [List.map_toArray, List.map_cons, List.map_nil]); first | done | rfl | (simp only [List.length_drop, List.length_take]; rfl)) ?_
            with_reducible refine (spec_l1Cur_among.calls gb308 l0 t358 t359 _ _ y360 t364 t365 t366 w _ ?side1 ?side2 ?side3 ?side4 ?side5 A50.out).mono ?_
            (case side1 => repeat (first | (with_reducible first | exact HI308.out | apply IsS94.alloc | apply IsS94.drewN | apply IsS94.drew | apply IsS94.set_1 | apply IsS94.set_2 | refine IsS94.far ?_ NB308_307.out _ | refine IsS94.far ?_ NB308_316.out _) | exact HI308.out))
            (case side2 => repeat (first | (with_reducible first | exact HB.out | apply below_alloc | apply pw_below_drewN | apply below_drew1 | refine below_set ?_ (IsS94.ge HI308.out) | refine below_set ?_ GE307.out | refine below_set ?_ GE316.out) | exact HB.out))
            (case side3 => repeat (first | exact (by repeat (first | (with_reducible exact HR363.out) | (with_reducible refine Kd.C_alloc ?_ _) | (with_reducible refine Kd.C_drewN ?_ _) | (with_reducible refine Kd.C_drew ?_) | exact HR363.out)) | (with_reducible refine Kd.C_alloc ?_ _) | (with_reducible refine Kd.C_drewN ?_ _) | (with_reducible refine Kd.C_drew ?_)))
            (case side4 => exact HC363.out)
            (case side5 => exact fun ad_ e_ _ hq_ => (IsS94.own_ne HI308.out HO356.out (by decide)) (by rw [e_, ← hq_]; rfl))
            rintro e w76 ⟨rfl, hi, hb, hk⟩
            refine ⟨_, rfl, ?_⟩
            have n0_ := Aside0.mk (KeepBut.blk hk (g' := gb307) (o := .cells #[.slice none 0 0, .slice none 0 0] 47 (0, 0)) (by (with_reducible repeat (first | refine blk_drewN ?_ _ | refine blk_drew ?_ | refine blk_alloc ?_ _)); exact BK307.out) NB307_308.out (by simp))
            have n1_ := Aside0.mk (Kd.R_mono (Kd.R_keep (IsS94.apart (show IsS94 w _ gb308 l0 t358 t359 from by repeat (first | (with_reducible first | exact HI308.out | apply IsS94.alloc | apply IsS94.drewN | apply IsS94.drew | apply IsS94.set_1 | apply IsS94.set_2 | refine IsS94.far ?_ NB308_307.out _ | refine IsS94.far ?_ NB308_316.out _) | exact HI308.out)) (by (with_reducible repeat (first | apply Kd.R_alloc | apply Kd.R_drewN | apply Kd.R_drew)); exact HO311.out) (by decide)) hk (fun _ h => h.2)) (fun _ h => h.1))
            have n2_ := Aside0.mk (Kd.R_mono (Kd.R_keep (IsS94.apart (show IsS94 w _ gb308 l0 t358 t359 from by repeat (first | (with_reducible first | exact HI308.out | apply IsS94.alloc | apply IsS94.drewN | apply IsS94.drew | apply IsS94.set_1 | apply IsS94.set_2 | refine IsS94.far ?_ NB308_307.out _ | refine IsS94.far ?_ NB308_316.out _) | exact HI308.out)) (by (with_reducible repeat (first | apply Kd.R_alloc | apply Kd.R_drewN | apply Kd.R_drew)); exact HO314.out) (by decide)) hk (fun _ h => h.2)) (fun _ h => h.1))
            have n3_ := Aside0.mk (KeepBut.blk hk (g' := gb316) (o := .cells #[.slice Ao55 t309.length co55, .slice Ao59 t312.length co59] 47 (0, 0)) (by (with_reducible repeat (first | refine blk_drewN ?_ _ | refine blk_drew ?_ | refine blk_alloc ?_ _)); exact BK316.out) NB316_308.out (by simp))
            have n4_ := Aside0.mk (Kd.R_mono (Kd.R_keep (IsS94.apart (show IsS94 w _ gb308 l0 t358 t359 from by repeat (first | (with_reducible first | exact HI308.out | apply IsS94.alloc | apply IsS94.drewN | apply IsS94.drew | apply IsS94.set_1 | apply IsS94.set_2 | refine IsS94.far ?_ NB308_307.out _ | refine IsS94.far ?_ NB308_316.out _) | exact HI308.out)) (by (with_reducible repeat (first | apply Kd.R_alloc | apply Kd.R_drewN | apply Kd.R_drew)); exact HO325.out) (by decide)) hk (fun _ h => h.2)) (fun _ h => h.1))
            have n5_ := Aside0.mk (Kd.R_mono (Kd.R_keep (IsS94.apart (show IsS94 w _ gb308 l0 t358 t359 from by repeat (first | (with_reducible first | exact HI308.out | apply IsS94.alloc | apply IsS94.drewN | apply IsS94.drew | apply IsS94.set_1 | apply IsS94.set_2 | refine IsS94.far ?_ NB308_307.out _ | refine IsS94.far ?_ NB308_316.out _) | exact HI308.out)) (by (with_reducible repeat (first | apply Kd.R_alloc | apply Kd.R_drewN | apply Kd.R_drew)); exact HO331.out) (by decide)) hk (fun _ h => h.2)) (fun _ h => h.1))
            have n6_ := Aside0.mk (Kd.R_mono (Kd.R_keep (IsS94.apart (show IsS94 w _ gb308 l0 t358 t359 from by repeat (first | (with_reducible first | exact HI308.out | apply IsS94.alloc | apply IsS94.drewN | apply IsS94.drew | apply IsS94.set_1 | apply IsS94.set_2 | refine IsS94.far ?_ NB308_307.out _ | refine IsS94.far ?_ NB308_316.out _) | exact HI308.out)) (by (with_reducible repeat (first | apply Kd.R_alloc | apply Kd.R_drewN | apply Kd.R_drew)); exact HO356.out) (by decide)) hk (fun _ h => h.2)) (fun _ h => h.1))
            have n7_ := Aside0.mk (hb)
            have n8_ := Aside0.mk (hi)
            clear BK307
            clear HO311
            clear HO314
            clear BK316
            clear HO325
            clear HO331
            clear HO356
            clear HB
            clear HI308
            have BK307 := n0_
            have HO311 := n1_
            have HO314 := n2_
            have BK316 := n3_
            have HO325 := n4_
            have HO331 := n5_
            have HO356 := n6_
            have HB := n7_
            have HI308 := n8_
            clear n0_ n1_ n2_ n3_ n4_ n5_ n6_ n7_ n8_
            (try clear hb)
            (try clear hb2)
            (try clear hk)
            (try clear hi)
            refine hK.out _ _ ⟨(blk_cell BK316.out 0).trans rfl, (blk_cell BK316.out 1).trans rfl⟩ (fun hHeld => ?_)
            clear hK K
            refine norm_ (a' := ?_) ?_ ?_
            rotate_left
            · show Act.put _ (some 49) _ = _
              simp only [Act.put, List.setIfInBounds_toArray, List.set_cons_zero, List.set_cons_succ, i64_w, i32_w]
              rfl
            refine one_ (i := 11) (N := none) #[true, true, true, true, true, true, true, true, true, true, true, true, false, false, false] rfl rfl (one_of HT_.out (by kernel_rfl)) (by decide) (fun K hK => ?_)
            have hs77 : w76.cell? ⟨gb307, 0, none⟩ = some (.slice none 0 0) := (blk_cell BK307.out 0).trans rfl
            have hfs77 := blk_frozen BK307.out 0
            have hns77_1 := NB316_307.out
            have hms77_1 := NB307_316.out
            have hs78 : w76.cell? ⟨gb307, 1, none⟩ = some (.slice none 0 0) := (blk_cell BK307.out 1).trans rfl
            have hfs78 := blk_frozen BK307.out 1
            have hns78_1 := NB316_307.out
            have hms78_1 := NB307_316.out
            refine skip_ (w1 := ?_) (by rfl) rfl ?_ ?_
            rotate_left
            · go_simp
              rfl
            refine hK.out _ _ ⟨((cell_far (p := ⟨gb307, _, none⟩) NB316_307.out _).trans (((cell_far (p := ⟨gb307, _, none⟩) NB316_307.out _).trans (hHeld.1)))), ((cell_far (p := ⟨gb307, _, none⟩) NB316_307.out _).trans (((cell_far (p := ⟨gb307, _, none⟩) NB316_307.out _).trans (hHeld.2))))⟩ (fun hHeld => ?_)
            clear hK K
            refine pure_ (i := 12) (N := some 3) (v := ?_) (a' := ?_) #[true, true, true, true, true, true, true, true, true, true, true, true, true, false, false] rfl rfl (any_of HT_.out (by kernel_rfl)) (fun _ _ _ h => h) (Or.inl ⟨by rfl, ?_⟩) ?_ ?_
            rotate_left
            · intro w'
              go_simp
              with_reducible rfl
            rotate_left
            · simp only [Act.put, List.setIfInBounds_toArray, List.set_cons_zero, List.set_cons_succ, i64_w, i32_w]
              rfl
            refine pure_ (i := 13) (N := some 4) (v := ?_) (a' := ?_) #[true, true, true, true, true, true, true, true, true, true, true, true, true, true, false] rfl rfl (any_of HT_.out (by kernel_rfl)) (fun _ _ _ h => h) (Or.inl ⟨by rfl, ?_⟩) ?_ ?_
            rotate_left
            · intro w'
              go_simp
              with_reducible rfl
            rotate_left
            · simp only [Act.put, List.setIfInBounds_toArray, List.set_cons_zero, List.set_cons_succ, i64_w, i32_w]
              rfl
            refine pure_ (i := 14) (N := some 5) (v := ?_) (a' := ?_) #[true, true, true, true, true, true, true, true, true, true, true, true, true, true, true] rfl rfl (any_of HT_.out (by kernel_rfl)) (fun _ _ _ h => h) (Or.inl ⟨by rfl, ?_⟩) ?_ ?_
            rotate_left
            · intro w'
              go_simp
              with_reducible rfl
            rotate_left
            · simp only [Act.put, List.setIfInBounds_toArray, List.set_cons_zero, List.set_cons_succ, i64_w, i32_w]
              rfl
            refine done_ (done_of HT_.out (by kernel_rfl)) ?_
            try go_wp2
            refine bodyPost_ret (results_list (rs := [.cell 2 47, .tmp 3, .tmp 4, .tmp 5]) rfl (by simp) (.cell gb307 47 #[.slice Ao55 t309.length co55, .slice Ao59 t312.length co59] (0, 0) _ rfl (by (with_reducible repeat (first | refine blk_drewN ?_ _ | refine blk_drew ?_ | refine blk_alloc ?_ _)); refine blk_put (cs := #[.slice Ao55 t309.length co55, .slice none 0 0]) ?_ 1 _ rfl; (with_reducible repeat (first | refine blk_drewN ?_ _ | refine blk_drew ?_ | refine blk_alloc ?_ _)); refine blk_put (cs := #[.slice none 0 0, .slice none 0 0]) ?_ 0 _ rfl; (with_reducible repeat (first | refine blk_drewN ?_ _ | refine blk_drew ?_ | refine blk_alloc ?_ _)); exact BK307.out) Try.underlying47 rfl (by kernel_rfl) (.tmp (.tmp (.tmp .nil))))) rfl ?_
            exact ⟨_, _, _, by first | rfl | (simp [errW_none, errW_some] <;> rfl) | (simp only [← hji47]; first | rfl | (simp [errW_none, errW_some] <;> rfl)) | (simp [*, errW_none, errW_some] <;> rfl), by (with_reducible repeat (first | apply Kd.R_alloc | apply Kd.R_drewN | apply Kd.R_drew)); exact Kd.R_mono (Kd.R_far (p := ⟨gb307, 1, none⟩) (Kd.R_far (p := ⟨gb307, 0, none⟩) (Kd.R_types HO311.out BK307.out (by decide)) (fun _ hk => hk.2) (.slice Ao55 t309.length co55)) (fun _ hk => hk.2) (.slice Ao59 t312.length co59)) (fun _ hk => ⟨hk.1.1, hk.1.2.2.1⟩), by (with_reducible repeat (first | apply Kd.R_alloc | apply Kd.R_drewN | apply Kd.R_drew)); exact Kd.R_mono (Kd.R_far (p := ⟨gb307, 1, none⟩) (Kd.R_far (p := ⟨gb307, 0, none⟩) (Kd.R_types HO314.out BK307.out (by decide)) (fun _ hk => hk.2) (.slice Ao55 t309.length co55)) (fun _ hk => hk.2) (.slice Ao59 t312.length co59)) (fun _ hk => ⟨hk.1.1, hk.1.2.2.1⟩), by (with_reducible repeat (first | apply Kd.R_alloc | apply Kd.R_drewN | apply Kd.R_drew)); exact Kd.R_mono (Kd.R_far (p := ⟨gb307, 1, none⟩) (Kd.R_far (p := ⟨gb307, 0, none⟩) (Kd.R_types HO331.out BK307.out (by decide)) (fun _ hk => hk.2) (.slice Ao55 t309.length co55)) (fun _ hk => hk.2) (.slice Ao59 t312.length co59)) (fun _ hk => ⟨hk.1.1, hk.1.2.1⟩), by repeat (first | (with_reducible first | exact HB.out | apply below_alloc | apply pw_below_drewN | apply below_drew1 | refine below_set ?_ (IsS94.ge HI308.out) | refine below_set ?_ GE307.out | refine below_set ?_ GE316.out) | exact HB.out)⟩
          · rw [if_neg c49] at H
            exact absurd H (by simp)
        · rw [if_neg c48] at H
          exact absurd H (by simp)
    · rw [if_neg c6] at H
      exact absurd H (by simp)
  · replace c4 := Bool.eq_false_iff.mpr c4
    subst c4
    have H1 : ((some (([0, 1, 3, 5, 20, 60, 61, (-1)] : List Int) : List Int)).bind fun y367 => ((spec_l1Cur_pick.f l0 t321 t322 40).bind fun bt370 => (if 0 ≤ (wrap64 (6 + (wrap64 (Int.tdiv bt370.1 20)))) then (if (wrap64 (6 + (wrap64 (Int.tdiv bt370.1 20)))) ≤ (y367.length : Int) then ((spec_l1Cur_among.f l0 bt370.2.1 bt370.2.2 (y367.take ((wrap64 (6 + (wrap64 (Int.tdiv bt370.1 20)))) : Int).toNat)).bind fun bt377 => (some (t309, t312, t315, bt377.1, y317))) else (none)) else (none)))) = some (r1, r2, r3, r4, r5) := by rw [if_neg (show ¬ (false = true) by decide)] at H; exact H
    clear H
    have H := H1
    clear H1
    obtain ⟨y367, hy367⟩ : ∃ y_ : List Int, y_ = (([0, 1, 3, 5, 20, 60, 61, (-1)] : List Int)) := ⟨_, rfl⟩
    replace H : ((spec_l1Cur_pick.f l0 t321 t322 40).bind fun bt370 => (if 0 ≤ (wrap64 (6 + (wrap64 (Int.tdiv bt370.1 20)))) then (if (wrap64 (6 + (wrap64 (Int.tdiv bt370.1 20)))) ≤ (y367.length : Int) then ((spec_l1Cur_among.f l0 bt370.2.1 bt370.2.2 (y367.take ((wrap64 (6 + (wrap64 (Int.tdiv bt370.1 20)))) : Int).toNat)).bind fun bt377 => (some (t309, t312, t315, bt377.1, y317))) else (none)) else (none))) = some (r1, r2, r3, r4, r5) := by first | (rw [hy367]; with_reducible exact H) | (have H2_ := (Option.bind_some _ _).symm.trans H; rw [hy367]; with_reducible exact H2_) | (have H2_ := (Option.bind_some _ _).symm.trans H; with_reducible exact H2_) | with_reducible exact H | (rw [hy367]; exact H) | exact H
    have Ny367 := Aside0.mk hy367
    clear hy367
    replace H := Option.bind_eq_some_iff.mp H
    obtain ⟨⟨t370, t371, t372⟩, A790, H⟩ := H
    replace H : (if 0 ≤ (wrap64 (6 + (wrap64 (Int.tdiv t370 20)))) then (if (wrap64 (6 + (wrap64 (Int.tdiv t370 20)))) ≤ (y367.length : Int) then ((spec_l1Cur_among.f l0 t371 t372 (y367.take ((wrap64 (6 + (wrap64 (Int.tdiv t370 20)))) : Int).toNat)).bind fun bt377 => (some (t309, t312, t315, bt377.1, y317))) else (none)) else (none)) = some (r1, r2, r3, r4, r5) := H
    have A79 := Aside0.mk A790
    clear A790
    obtain ⟨ji80, hji80⟩ : ∃ j_ : Int, (wrap64 (6 + (wrap64 (Int.tdiv t370 20)))) = j_ := ⟨_, rfl⟩
    replace H : (if 0 ≤ (ji80) then (if (ji80) ≤ (y367.length : Int) then ((spec_l1Cur_among.f l0 t371 t372 (y367.take ((ji80) : Int).toNat)).bind fun bt377 => (some (t309, t312, t315, bt377.1, y317))) else (none)) else (none)) = some (r1, r2, r3, r4, r5) := by first | (rw [hji80] at H; exact H) | (simp only [hji80] at H ⊢; exact H)
    (try rw [hji80] at A2)
    (try rw [hji80] at A3)
    (try rw [hji80] at A79)
    have hji80w : (IntKind.i64.wrap (6 + (wrap64 (Int.tdiv t370 20)))) = ji80 := (i64_w _).trans hji80
    by_cases c81 : 0 ≤ (ji80)
    · rw [if_pos c81] at H
      have c81b0 := eq_true c81
      have c81b1 : decide (0 ≤ (ji80)) = true := decide_eq_true c81
      clear c81
      by_cases c82 : (ji80) ≤ (y367.length : Int)
      · rw [if_pos c82] at H
        have c82b0 := eq_true c82
        have c82b1 : decide ((ji80) ≤ (y367.length : Int)) = true := decide_eq_true c82
        clear c82
        obtain ⟨y373, hy373⟩ : ∃ y_ : List Int, y_ = (y367.take ((ji80) : Int).toNat) := ⟨_, rfl⟩
        replace H : ((spec_l1Cur_among.f l0 t371 t372 y373).bind fun bt377 => (some (t309, t312, t315, bt377.1, y317))) = some (r1, r2, r3, r4, r5) := by first | (rw [hy373]; with_reducible exact H) | (have H2_ := (Option.bind_some _ _).symm.trans H; rw [hy373]; with_reducible exact H2_) | (have H2_ := (Option.bind_some _ _).symm.trans H; with_reducible exact H2_) | with_reducible exact H | (rw [hy373]; exact H) | exact H
        have Ny373 := Aside0.mk hy373
        clear hy373
        replace H := Option.bind_eq_some_iff.mp H
        obtain ⟨⟨t377, t378, t379⟩, A830, H⟩ := H
        replace H : (some (t309, t312, t315, t377, y317)) = some (r1, r2, r3, r4, r5) := H
        have A83 := Aside0.mk A830
        clear A830
        simp only [Option.some.injEq, Prod.mk.injEq] at H
        obtain ⟨rfl, rfl, rfl, rfl, rfl⟩ := H
        go_enter Try.func32, Try.ntmps32
        try go_wp2_with (first | ((with_reducible refine gate_dst (N := 2) rfl ?_); refine box_event ?hg (N := 2) ?hd (cs := #[.slice none 0 0, .slice none 0 0]) (t := 47) ?hr ?_; (case hd => rfl); (case hg => rfl); (case hr => first | (go_simp; done) | (go_simp; rfl)); intro gb307 hg w84 hbox hb; have n0_ := Aside0.mk (below_step (by repeat (first | (with_reducible first | exact HB.out | apply below_alloc | apply pw_below_drewN | apply below_drew1) | exact HB.out)) hb); have n1_ := Aside0.mk (hbox); have n2_ := Aside0.mk ((by rw [hg]; exact (below_size (by repeat (first | (with_reducible first | exact HB.out | apply below_alloc | apply pw_below_drewN | apply below_drew1) | exact HB.out))) : w.heap.size ≤ gb307)); have n3_ := Aside0.mk ((by rw [hg]; exact (below_size (by repeat (first | (with_reducible first | exact HB.out | apply below_alloc | apply pw_below_drewN | apply below_drew1) | exact HB.out))) : w.heap.size ≤ gb307)); clear HB; have HB := n0_; have BK307 := n1_; have GW307 := n2_; have GE307 := n3_; clear n0_ n1_ n2_ n3_; clear hb hbox hg) | ((with_reducible refine gate_dst (N := 13) rfl ?_); refine box_event ?hg (N := 13) ?hd (cs := #[.slice A0 l0.length c0, .int .i64 0, .int .u64 0]) (t := 94) ?hr ?_; (case hd => rfl); (case hg => rfl); (case hr => first | (go_simp; done) | (go_simp; rfl)); intro gb308 hg w85 hbox hb; have n0_ := Aside0.mk (blk_below (g := gb307) (o := .cells #[.slice none 0 0, .slice none 0 0] 47 (0, 0)) (by (with_reducible repeat (first | refine blk_drewN ?_ _ | refine blk_drew ?_ | refine blk_alloc ?_ _)); exact BK307.out) hb); have n1_ := Aside0.mk (below_step (by repeat (first | (with_reducible first | exact HB.out | apply below_alloc | apply pw_below_drewN | apply below_drew1 | refine below_set ?_ GE307.out) | exact HB.out)) hb); have n2_ := Aside0.mk ((by rw [hg]; exact Nat.ne_of_lt (blk_lt (g := gb307) (o := .cells #[.slice none 0 0, .slice none 0 0] 47 (0, 0)) (by (with_reducible repeat (first | refine blk_drewN ?_ _ | refine blk_drew ?_ | refine blk_alloc ?_ _)); exact BK307.out)) : gb307 ≠ gb308)); have n3_ := Aside0.mk ((by rw [hg]; exact Nat.ne_of_gt (blk_lt (g := gb307) (o := .cells #[.slice none 0 0, .slice none 0 0] 47 (0, 0)) (by (with_reducible repeat (first | refine blk_drewN ?_ _ | refine blk_drew ?_ | refine blk_alloc ?_ _)); exact BK307.out)) : gb308 ≠ gb307)); have n4_ := Aside0.mk ((⟨A0, c0, hbox, (by rw [hg]; exact (below_size (by repeat (first | (with_reducible first | exact HB.out | apply below_alloc | apply pw_below_drewN | apply below_drew1 | refine below_set ?_ GE307.out) | exact HB.out))) : w.heap.size ≤ gb308), HR0.out⟩ : IsS94 w w85 gb308 l0 0 0)); clear BK307; clear HB; have BK307 := n0_; have HB := n1_; have NB307_308 := n2_; have NB308_307 := n3_; have HI308 := n4_; clear n0_ n1_ n2_ n3_ n4_; clear hb hbox hg) | ((with_reducible refine gate_callee (f := 69) rfl ?_); refine goesL_ (some 16) rfl rfl Try.func69 (by kernel_rfl) rfl #[.slice A0 l0.length c0] rfl (by (try simp only [List.map_toArray, List.map_cons, List.map_nil]); first | done | rfl | (simp only [List.length_drop, List.length_take]; rfl)) ?_; (with_reducible refine (spec_DrawIsBusinessDay.calls k _ _ l0 t309 t312 t315 _ ?side1 ?side2 A2.out).mono ?_); (case side1 => repeat (first | exact (Kd.C_below HR0.out HB.out) | (with_reducible refine Kd.C_alloc ?_ _) | (with_reducible refine Kd.C_drewN ?_ _) | (with_reducible refine Kd.C_drew ?_))); (case side2 => exact HC0.out); rintro e w86 ⟨v310, v313, rfl, ho0, ho1, hb⟩; refine ⟨_, rfl, ?_⟩; have n0_ := Aside0.mk (Kd.R_lower ho0 (below_size (by repeat (first | (with_reducible first | exact HB.out | apply below_alloc | apply pw_below_drewN | apply below_drew1 | refine below_set ?_ (IsS94.ge HI308.out) | refine below_set ?_ GE307.out) | exact HB.out)))); have n1_ := Aside0.mk (Kd.R_lower ho1 (below_size (by repeat (first | (with_reducible first | exact HB.out | apply below_alloc | apply pw_below_drewN | apply below_drew1 | refine below_set ?_ (IsS94.ge HI308.out) | refine below_set ?_ GE307.out) | exact HB.out)))); have n2_ := Aside0.mk (blk_below (g := gb307) (o := .cells #[.slice none 0 0, .slice none 0 0] 47 (0, 0)) (by (with_reducible repeat (first | refine blk_drewN ?_ _ | refine blk_drew ?_ | refine blk_alloc ?_ _)); exact BK307.out) hb); have n3_ := Aside0.mk (IsS94.below (by repeat (first | (with_reducible first | exact HI308.out | apply IsS94.alloc | apply IsS94.drewN | apply IsS94.drew | apply IsS94.set_1 | apply IsS94.set_2 | refine IsS94.far ?_ NB308_307.out _) | exact HI308.out)) hb); have n4_ := Aside0.mk (below_step (by repeat (first | (with_reducible first | exact HB.out | apply below_alloc | apply pw_below_drewN | apply below_drew1 | refine below_set ?_ (IsS94.ge HI308.out) | refine below_set ?_ GE307.out) | exact HB.out)) hb); clear BK307; clear HI308; clear HB; have HO311 := n0_; have HO314 := n1_; have BK307 := n2_; have HI308 := n3_; have HB := n4_; clear n0_ n1_ n2_ n3_ n4_; (try clear hb); (try clear hb2); (try clear hk); (try clear hi); (try clear ho0); (try clear ho1)) | ((with_reducible refine gate_dst (N := 7) rfl ?_); refine box_event ?hg (N := 7) ?hd (cs := #[.slice none 0 0, .slice none 0 0]) (t := 47) ?hr ?_; (case hd => rfl); (case hg => rfl); (case hr => first | (go_simp; done) | (go_simp; rfl)); intro gb316 hg w87 hbox hb; have n0_ := Aside0.mk (Kd.R_below (by (with_reducible repeat (first | apply Kd.R_alloc | apply Kd.R_drewN | apply Kd.R_drew)); exact HO311.out) hb); have n1_ := Aside0.mk (Kd.R_below (by (with_reducible repeat (first | apply Kd.R_alloc | apply Kd.R_drewN | apply Kd.R_drew)); exact HO314.out) hb); have n2_ := Aside0.mk (blk_below (g := gb307) (o := .cells #[.slice none 0 0, .slice none 0 0] 47 (0, 0)) (by (with_reducible repeat (first | refine blk_drewN ?_ _ | refine blk_drew ?_ | refine blk_alloc ?_ _)); exact BK307.out) hb); have n3_ := Aside0.mk (IsS94.below (by repeat (first | (with_reducible first | exact HI308.out | apply IsS94.alloc | apply IsS94.drewN | apply IsS94.drew | apply IsS94.set_1 | apply IsS94.set_2 | refine IsS94.far ?_ NB308_307.out _) | exact HI308.out)) hb); have n4_ := Aside0.mk (below_step (by repeat (first | (with_reducible first | exact HB.out | apply below_alloc | apply pw_below_drewN | apply below_drew1 | refine below_set ?_ (IsS94.ge HI308.out) | refine below_set ?_ GE307.out) | exact HB.out)) hb); have n5_ := Aside0.mk (hbox); have n6_ := Aside0.mk ((by rw [hg]; exact (below_size (by repeat (first | (with_reducible first | exact HB.out | apply below_alloc | apply pw_below_drewN | apply below_drew1 | refine below_set ?_ (IsS94.ge HI308.out) | refine below_set ?_ GE307.out) | exact HB.out))) : w.heap.size ≤ gb316)); have n7_ := Aside0.mk ((by rw [hg]; exact (below_size (by repeat (first | (with_reducible first | exact HB.out | apply below_alloc | apply pw_below_drewN | apply below_drew1 | refine below_set ?_ (IsS94.ge HI308.out) | refine below_set ?_ GE307.out) | exact HB.out))) : w.heap.size ≤ gb316)); have n8_ := Aside0.mk ((by rw [hg]; exact Nat.ne_of_lt (blk_lt (g := gb307) (o := .cells #[.slice none 0 0, .slice none 0 0] 47 (0, 0)) (by (with_reducible repeat (first | refine blk_drewN ?_ _ | refine blk_drew ?_ | refine blk_alloc ?_ _)); exact BK307.out)) : gb307 ≠ gb316)); have n9_ := Aside0.mk ((by rw [hg]; exact Nat.ne_of_gt (blk_lt (g := gb307) (o := .cells #[.slice none 0 0, .slice none 0 0] 47 (0, 0)) (by (with_reducible repeat (first | refine blk_drewN ?_ _ | refine blk_drew ?_ | refine blk_alloc ?_ _)); exact BK307.out)) : gb316 ≠ gb307)); have n10_ := Aside0.mk ((by rw [hg]; exact Nat.ne_of_lt (IsS94.lt (show IsS94 w _ gb308 l0 0 0 from by repeat (first | (with_reducible first | exact HI308.out | apply IsS94.alloc | apply IsS94.drewN | apply IsS94.drew | apply IsS94.set_1 | apply IsS94.set_2 | refine IsS94.far ?_ NB308_307.out _) | exact HI308.out))) : gb308 ≠ gb316)); have n11_ := Aside0.mk ((by rw [hg]; exact Nat.ne_of_gt (IsS94.lt (show IsS94 w _ gb308 l0 0 0 from by repeat (first | (with_reducible first | exact HI308.out | apply IsS94.alloc | apply IsS94.drewN | apply IsS94.drew | apply IsS94.set_1 | apply IsS94.set_2 | refine IsS94.far ?_ NB308_307.out _) | exact HI308.out))) : gb316 ≠ gb308)); clear HO311; clear HO314; clear BK307; clear HI308; clear HB; have HO311 := n0_; have HO314 := n1_; have BK307 := n2_; have HI308 := n3_; have HB := n4_; have BK316 := n5_; have GW316 := n6_; have GE316 := n7_; have NB307_316 := n8_; have NB316_307 := n9_; have NB308_316 := n10_; have NB316_308 := n11_; clear n0_ n1_ n2_ n3_ n4_ n5_ n6_ n7_ n8_ n9_ n10_ n11_; clear hb hbox hg; obtain ⟨Ao88, co88, eo88⟩ := Kd.R_slice HO311.out; subst eo88; have hnb89 := NB316_307.out; have hnc89 := NB307_316.out; have hnb90 := NB316_308.out; have hnc90 := NB308_316.out; have hcz91_0 : w87.cell? ⟨gb316, 0, none⟩ = some (.slice none 0 0) := (blk_cell BK316.out 0).trans rfl; have hcz91_1 : w87.cell? ⟨gb316, 1, none⟩ = some (.slice none 0 0) := (blk_cell BK316.out 1).trans rfl; have hfz91_0 := blk_frozen BK316.out 0; have hfz91_1 := blk_frozen BK316.out 1; obtain ⟨Ao92, co92, eo92⟩ := Kd.R_slice HO314.out; subst eo92) | ((with_reducible refine gate_dst (N := 19) rfl ?_); refine Kd.R_lit (Kd.int .i64) _ 3 ?hg (N := 19) ?hd (xs := ([] : List Int)) (inner := []) (ok := fun _ => True) (okp := fun _ => True) ?hr ?hp (fun _ hk => hk) trivial (Below.refl _ _) (Nat.le_refl _) (by simp) ?_; (case hd => rfl); (case hg => rfl); (case hr => first | (go_simp; done) | (go_simp; rfl)); (case hp => exact (Reps.none _ _)); intro v318 w93 ho94 hb hg_ hnew_; clear hg_ hnew_; (first | rw [← Ny317.out] at ho94 | (simp only [Int.reduceToNat] at ho94; rw [← Ny317.out] at ho94)); have n0_ := Aside0.mk (Kd.R_elder' (by (with_reducible repeat (first | apply Kd.R_alloc | apply Kd.R_drewN | apply Kd.R_drew)); exact (Kd.R_mono (Kd.R_far (p := ⟨gb316, 1, none⟩) (Kd.R_far (p := ⟨gb316, 0, none⟩) (Kd.R_types HO311.out BK316.out (by decide)) (fun _ hk => hk.2) (.slice Ao88 t309.length co88)) (fun _ hk => hk.2) (.slice Ao92 t312.length co92)) (fun _ h_ => h_.1))) (Kd.R_base ho94) hb); have n1_ := Aside0.mk (Kd.R_elder' (by (with_reducible repeat (first | apply Kd.R_alloc | apply Kd.R_drewN | apply Kd.R_drew)); exact (Kd.R_mono (Kd.R_far (p := ⟨gb316, 1, none⟩) (Kd.R_far (p := ⟨gb316, 0, none⟩) (Kd.R_types HO314.out BK316.out (by decide)) (fun _ hk => hk.2) (.slice Ao88 t309.length co88)) (fun _ hk => hk.2) (.slice Ao92 t312.length co92)) (fun _ h_ => h_.1))) (Kd.R_base ho94) hb); have n2_ := Aside0.mk (Kd.R_lower (Kd.R_new' (Kd.R_new' ho94 (Kd.R_lt (by (with_reducible repeat (first | apply Kd.R_alloc | apply Kd.R_drewN | apply Kd.R_drew)); exact (Kd.R_mono (Kd.R_far (p := ⟨gb316, 1, none⟩) (Kd.R_far (p := ⟨gb316, 0, none⟩) (Kd.R_types HO311.out BK316.out (by decide)) (fun _ hk => hk.2) (.slice Ao88 t309.length co88)) (fun _ hk => hk.2) (.slice Ao92 t312.length co92)) (fun _ h_ => h_.1))))) (Kd.R_lt (by (with_reducible repeat (first | apply Kd.R_alloc | apply Kd.R_drewN | apply Kd.R_drew)); exact (Kd.R_mono (Kd.R_far (p := ⟨gb316, 1, none⟩) (Kd.R_far (p := ⟨gb316, 0, none⟩) (Kd.R_types HO314.out BK316.out (by decide)) (fun _ hk => hk.2) (.slice Ao88 t309.length co88)) (fun _ hk => hk.2) (.slice Ao92 t312.length co92)) (fun _ h_ => h_.1))))) (below_size (by repeat (first | (with_reducible first | exact HB.out | apply below_alloc | apply pw_below_drewN | apply below_drew1 | refine below_set ?_ (IsS94.ge HI308.out) | refine below_set ?_ GE307.out | refine below_set ?_ GE316.out) | exact HB.out)))); have n3_ := Aside0.mk (blk_below (g := gb307) (o := .cells #[.slice none 0 0, .slice none 0 0] 47 (0, 0)) (by (with_reducible repeat (first | refine blk_drewN ?_ _ | refine blk_drew ?_ | refine blk_alloc ?_ _)); refine blk_far ?_ NB307_316.out _; (with_reducible repeat (first | refine blk_drewN ?_ _ | refine blk_drew ?_ | refine blk_alloc ?_ _)); refine blk_far ?_ NB307_316.out _; (with_reducible repeat (first | refine blk_drewN ?_ _ | refine blk_drew ?_ | refine blk_alloc ?_ _)); exact BK307.out) hb); have n4_ := Aside0.mk (IsS94.below (show IsS94 w ((w87.setCell ⟨gb316, 0, none⟩ (.slice Ao88 t309.length co88)).setCell ⟨gb316, 1, none⟩ (.slice Ao92 t312.length co92)) gb308 l0 0 0 from by repeat (first | (with_reducible first | exact HI308.out | apply IsS94.alloc | apply IsS94.drewN | apply IsS94.drew | apply IsS94.set_1 | apply IsS94.set_2 | refine IsS94.far ?_ NB308_307.out _ | refine IsS94.far ?_ NB308_316.out _) | exact HI308.out)) hb); have n5_ := Aside0.mk (blk_below (g := gb316) (o := .cells #[.slice Ao88 t309.length co88, .slice Ao92 t312.length co92] 47 (0, 0)) (by (with_reducible repeat (first | refine blk_drewN ?_ _ | refine blk_drew ?_ | refine blk_alloc ?_ _)); refine blk_put (cs := #[.slice Ao88 t309.length co88, .slice none 0 0]) ?_ 1 _ rfl; (with_reducible repeat (first | refine blk_drewN ?_ _ | refine blk_drew ?_ | refine blk_alloc ?_ _)); refine blk_put (cs := #[.slice none 0 0, .slice none 0 0]) ?_ 0 _ rfl; (with_reducible repeat (first | refine blk_drewN ?_ _ | refine blk_drew ?_ | refine blk_alloc ?_ _)); exact BK316.out) hb); have n6_ := Aside0.mk (below_step (by repeat (first | (with_reducible first | exact HB.out | apply below_alloc | apply pw_below_drewN | apply below_drew1 | refine below_set ?_ (IsS94.ge HI308.out) | refine below_set ?_ GE307.out | refine below_set ?_ GE316.out) | exact HB.out)) hb); clear HO311; clear HO314; clear BK307; clear HI308; clear BK316; clear HB; have HO311 := n0_; have HO314 := n1_; have HO319 := n2_; have BK307 := n3_; have HI308 := n4_; have BK316 := n5_; have HB := n6_; clear n0_ n1_ n2_ n3_ n4_ n5_ n6_; clear hb ho94) | ((with_reducible refine gate_callee (f := 70) rfl ?_); refine goesL_ (some 21) rfl rfl Try.func70 (by kernel_rfl) rfl #[.pointer (some ⟨gb308, 0, none⟩), .int .i64 3] rfl (by (try simp only [List.map_toArray, List.map_cons, List.map_nil]); first | done | rfl | (simp only [List.length_drop, List.length_take]; rfl)) ?_; (with_reducible refine (spec_l1Cur_one.calls gb308 l0 0 0 3 false t321 t322 w _ ?side1 ?side2 A3.out).mono ?_); (case side1 => repeat (first | (with_reducible first | exact HI308.out | apply IsS94.alloc | apply IsS94.drewN | apply IsS94.drew | apply IsS94.set_1 | apply IsS94.set_2 | refine IsS94.far ?_ NB308_307.out _ | refine IsS94.far ?_ NB308_316.out _) | exact HI308.out)); (case side2 => repeat (first | (with_reducible first | exact HB.out | apply below_alloc | apply pw_below_drewN | apply below_drew1 | refine below_set ?_ (IsS94.ge HI308.out) | refine below_set ?_ GE307.out | refine below_set ?_ GE316.out) | exact HB.out)); rintro e w95 ⟨rfl, hi, hb, hk⟩; refine ⟨_, rfl, ?_⟩; have n0_ := Aside0.mk (KeepBut.blk hk (g' := gb307) (o := .cells #[.slice none 0 0, .slice none 0 0] 47 (0, 0)) (by (with_reducible repeat (first | refine blk_drewN ?_ _ | refine blk_drew ?_ | refine blk_alloc ?_ _)); exact BK307.out) NB307_308.out (by simp)); have n1_ := Aside0.mk (Kd.R_mono (Kd.R_keep (IsS94.apart (show IsS94 w _ gb308 l0 0 0 from by repeat (first | (with_reducible first | exact HI308.out | apply IsS94.alloc | apply IsS94.drewN | apply IsS94.drew | apply IsS94.set_1 | apply IsS94.set_2 | refine IsS94.far ?_ NB308_307.out _ | refine IsS94.far ?_ NB308_316.out _) | exact HI308.out)) (by (with_reducible repeat (first | apply Kd.R_alloc | apply Kd.R_drewN | apply Kd.R_drew)); exact HO311.out) (by decide)) hk (fun _ h => h.2)) (fun _ h => h.1)); have n2_ := Aside0.mk (Kd.R_mono (Kd.R_keep (IsS94.apart (show IsS94 w _ gb308 l0 0 0 from by repeat (first | (with_reducible first | exact HI308.out | apply IsS94.alloc | apply IsS94.drewN | apply IsS94.drew | apply IsS94.set_1 | apply IsS94.set_2 | refine IsS94.far ?_ NB308_307.out _ | refine IsS94.far ?_ NB308_316.out _) | exact HI308.out)) (by (with_reducible repeat (first | apply Kd.R_alloc | apply Kd.R_drewN | apply Kd.R_drew)); exact HO314.out) (by decide)) hk (fun _ h => h.2)) (fun _ h => h.1)); have n3_ := Aside0.mk (KeepBut.blk hk (g' := gb316) (o := .cells #[.slice Ao88 t309.length co88, .slice Ao92 t312.length co92] 47 (0, 0)) (by (with_reducible repeat (first | refine blk_drewN ?_ _ | refine blk_drew ?_ | refine blk_alloc ?_ _)); exact BK316.out) NB316_308.out (by simp)); have n4_ := Aside0.mk (Kd.R_mono (Kd.R_keep (IsS94.apart (show IsS94 w _ gb308 l0 0 0 from by repeat (first | (with_reducible first | exact HI308.out | apply IsS94.alloc | apply IsS94.drewN | apply IsS94.drew | apply IsS94.set_1 | apply IsS94.set_2 | refine IsS94.far ?_ NB308_307.out _ | refine IsS94.far ?_ NB308_316.out _) | exact HI308.out)) (by (with_reducible repeat (first | apply Kd.R_alloc | apply Kd.R_drewN | apply Kd.R_drew)); exact HO319.out) (by decide)) hk (fun _ h => h.2)) (fun _ h => h.1)); have n5_ := Aside0.mk (hb); have n6_ := Aside0.mk (hi); clear BK307; clear HO311; clear HO314; clear BK316; clear HO319; clear HB; clear HI308; have BK307 := n0_; have HO311 := n1_; have HO314 := n2_; have BK316 := n3_; have HO319 := n4_; have HB := n5_; have HI308 := n6_; clear n0_ n1_ n2_ n3_ n4_ n5_ n6_; (try clear hb); (try clear hb2); (try clear hk); (try clear hi)))
        have n0_ := Aside0.mk (Kd.R_drew HO311.out)
        have n1_ := Aside0.mk (Kd.R_drew HO314.out)
        have n2_ := Aside0.mk (Kd.R_drew HO319.out)
        have n3_ := Aside0.mk (blk_drew BK307.out)
        have n4_ := Aside0.mk (blk_drew BK316.out)
        have n5_ := Aside0.mk (IsS94.drew HI308.out)
        have n6_ := Aside0.mk (below_drew1 HB.out)
        clear HO311
        clear HO314
        clear HO319
        clear BK307
        clear BK316
        clear HI308
        clear HB
        have HO311 := n0_
        have HO314 := n1_
        have HO319 := n2_
        have BK307 := n3_
        have BK316 := n4_
        have HI308 := n5_
        have HB := n6_
        clear n0_ n1_ n2_ n3_ n4_ n5_ n6_
        refine start_ (n := 15) (S := fun w' => w'.cell? ⟨gb316, 0, none⟩ = some (.slice Ao88 t309.length co88) ∧ w'.cell? ⟨gb316, 1, none⟩ = some (.slice Ao92 t312.length co92)) (ds := []) #[false, false, false, false, false, false, false, false, false, false, false, false, false, false, false] (by kernel_rfl) rfl rfl ⟨(blk_cell BK316.out 0).trans rfl, (blk_cell BK316.out 1).trans rfl⟩ (fun hHeld => ?_); refine with_tabW spec_DrawTerminationDay.tab9 spec_DrawTerminationDay.bits9 (fun HT_ HW_ => ?_)
        generalize w95.drew = w96 at HO311 HO314 HO319 BK307 BK316 HI308 HB hHeld ⊢
        refine pure_ (i := 1) (N := some 41) (v := ?_) (a' := ?_) #[false, true, false, false, false, false, false, false, false, false, false, false, false, false, false] rfl rfl (any_of HT_.out (by kernel_rfl)) (fun _ _ _ h => h) (Or.inl ⟨by rfl, ?_⟩) ?_ ?_
        rotate_left
        · intro w'
          go_simp
          with_reducible rfl
        rotate_left
        · simp only [Act.put, List.setIfInBounds_toArray, List.set_cons_zero, List.set_cons_succ, i64_w, i32_w]
          rfl
        refine pure_ (i := 2) (N := some 42) (v := ?_) (a' := ?_) #[false, true, true, false, false, false, false, false, false, false, false, false, false, false, false] rfl rfl (any_of HT_.out (by kernel_rfl)) (fun _ _ _ h => h) (Or.inl ⟨by rfl, ?_⟩) ?_ ?_
        rotate_left
        · intro w'
          go_simp
          with_reducible rfl
        rotate_left
        · simp only [Act.put, List.setIfInBounds_toArray, List.set_cons_zero, List.set_cons_succ, i64_w, i32_w]
          rfl
        refine pure_ (i := 4) (N := some 44) (v := ?_) (a' := ?_) #[false, true, true, false, true, false, false, false, false, false, false, false, false, false, false] rfl rfl (any_of HT_.out (by kernel_rfl)) (fun _ _ _ h => h) (Or.inl ⟨by rfl, ?_⟩) ?_ ?_
        rotate_left
        · intro w'
          go_simp
          with_reducible rfl
        rotate_left
        · simp only [Act.put, List.setIfInBounds_toArray, List.set_cons_zero, List.set_cons_succ, i64_w, i32_w]
          rfl
        refine pure_ (i := 10) (N := some 50) (v := ?_) (a' := ?_) #[false, true, true, false, true, false, false, false, false, false, true, false, false, false, false] rfl rfl (any_of HT_.out (by kernel_rfl)) (fun _ _ _ h => h) (Or.inl ⟨by rfl, ?_⟩) ?_ ?_
        rotate_left
        · intro w'
          go_simp
          with_reducible rfl
        rotate_left
        · simp only [Act.put, List.setIfInBounds_toArray, List.set_cons_zero, List.set_cons_succ, i64_w, i32_w]
          rfl
        refine take_ (i := 0) (N := some 40) (v := ?_) (a' := ?_) #[true, true, true, false, true, false, false, false, false, false, true, false, false, false, false] rfl rfl (take_ofW HT_.out HW_.out (by kernel_rfl)) (fun _ _ _ h => h) (Or.inl ⟨by rfl, ?_⟩) hHeld ?_ ?_
        rotate_left
        · rintro w' ⟨s0, s1⟩
          go_simp
          with_reducible rfl
        rotate_left
        · simp only [Act.put, List.setIfInBounds_toArray, List.set_cons_zero, List.set_cons_succ, i64_w, i32_w]
          rfl
        refine join_ (σ := Value) 6 #[true, true, true, true, true, true, true, true, false, false, true, false, false, false, false] (fun s_ => [(43, s_), (45, .int .i64 t370), (46, .int .i64 (wrap64 (Int.tdiv t370 20))), (47, .int .i64 ji80)]) (fun s_ w' => (w'.cell? ⟨gb316, 0, none⟩ = some (.slice Ao88 t309.length co88) ∧ w'.cell? ⟨gb316, 1, none⟩ = some (.slice Ao92 t312.length co92)) ∧ (Kd.R (Kd.int .i64) 3 w' w.heap.size (fun k_ => some k_ ≠ (.slice Ao92 t312.length co92 : Value).ownBlock ∧ some k_ ≠ (v318 : Value).ownBlock ∧ some k_ ≠ (s_ : Value).ownBlock) (.slice Ao88 t309.length co88) t309) ∧ (Kd.R (Kd.int .i64) 3 w' w.heap.size (fun k_ => some k_ ≠ (.slice Ao88 t309.length co88 : Value).ownBlock ∧ some k_ ≠ (v318 : Value).ownBlock ∧ some k_ ≠ (s_ : Value).ownBlock) (.slice Ao92 t312.length co92) t312) ∧ (Kd.R (Kd.int .i64) 3 w' w.heap.size (fun k_ => some k_ ≠ (.slice Ao88 t309.length co88 : Value).ownBlock ∧ some k_ ≠ (.slice Ao92 t312.length co92 : Value).ownBlock ∧ some k_ ≠ (s_ : Value).ownBlock) v318 y317) ∧ (Kd.R (Kd.int .i64) 3 w' w.heap.size (fun k_ => some k_ ≠ (.slice Ao88 t309.length co88 : Value).ownBlock ∧ some k_ ≠ (.slice Ao92 t312.length co92 : Value).ownBlock ∧ some k_ ≠ (v318 : Value).ownBlock) s_ y367) ∧ (w'.heap[gb307]? = some (.cells #[.slice none 0 0, .slice none 0 0] 47 (0, 0))) ∧ (w'.heap[gb316]? = some (.cells #[.slice Ao88 t309.length co88, .slice Ao92 t312.length co92] 47 (0, 0))) ∧ (IsS94 w w' gb308 l0 t371 t372) ∧ (Below w.heap.size w w')) ?_ ?_
        rotate_left
        · intro hCont
          refine two_ (i := 3) (j := 5) (Ni := some 43) (Nj := some 45) #[true, true, true, true, true, false, false, false, false, false, true, false, false, false, false] #[true, true, true, false, true, true, false, false, false, false, true, false, false, false, false] rfl rfl rfl rfl (two_of HT_.out (by kernel_rfl)) (by decide) (by decide) (fun K hK => ?_) (fun K hK => ?_)
          · skip
            refine Kd.R_lit_step (Kd.int .i64) _ 3 ?hg (N := 43) ?hd (xs := ([0, 1, 3, 5, 20, 60, 61, (-1)] : List Int)) (inner := [.int .i64 0, .int .i64 1, .int .i64 3, .int .i64 5, .int .i64 20, .int .i64 60, .int .i64 61, .int .i64 (-1)]) (ok := fun _ => True) (okp := fun _ => True) ?hr ?hp (fun _ hk => hk) trivial (Below.refl _ _) (Nat.le_refl _) (by simp) ?_; (case hd => rfl); (case hg => rfl); (case hr => first | (go_simp; done) | (go_simp; rfl)); (case hp => exact (Reps.one (show Kd.M (Kd.int .i64) _ _ _ 0 [.int .i64 0] from rfl) (Reps.one (show Kd.M (Kd.int .i64) _ _ _ 1 [.int .i64 1] from rfl) (Reps.one (show Kd.M (Kd.int .i64) _ _ _ 3 [.int .i64 3] from rfl) (Reps.one (show Kd.M (Kd.int .i64) _ _ _ 5 [.int .i64 5] from rfl) (Reps.one (show Kd.M (Kd.int .i64) _ _ _ 20 [.int .i64 20] from rfl) (Reps.one (show Kd.M (Kd.int .i64) _ _ _ 60 [.int .i64 60] from rfl) (Reps.one (show Kd.M (Kd.int .i64) _ _ _ 61 [.int .i64 61] from rfl) (Reps.one (show Kd.M (Kd.int .i64) _ _ _ (-1) [.int .i64 (-1)] from rfl) (Reps.none _ _))))))))))
            intro v368 w97 ho98 hb hg_ hnew_
            clear hg_ hnew_
            (first | rw [← Ny367.out] at ho98 | (simp only [Int.reduceToNat] at ho98; rw [← Ny367.out] at ho98))
            have n0_ := Aside0.mk (Kd.R_elder' (by (with_reducible repeat (first | apply Kd.R_alloc | apply Kd.R_drewN | apply Kd.R_drew)); exact HO311.out) (Kd.R_base ho98) hb)
            have n1_ := Aside0.mk (Kd.R_elder' (by (with_reducible repeat (first | apply Kd.R_alloc | apply Kd.R_drewN | apply Kd.R_drew)); exact HO314.out) (Kd.R_base ho98) hb)
            have n2_ := Aside0.mk (Kd.R_elder' (by (with_reducible repeat (first | apply Kd.R_alloc | apply Kd.R_drewN | apply Kd.R_drew)); exact HO319.out) (Kd.R_base ho98) hb)
            have n3_ := Aside0.mk (Kd.R_lower (Kd.R_new' (Kd.R_new' (Kd.R_new' ho98 (Kd.R_lt (by (with_reducible repeat (first | apply Kd.R_alloc | apply Kd.R_drewN | apply Kd.R_drew)); exact HO311.out))) (Kd.R_lt (by (with_reducible repeat (first | apply Kd.R_alloc | apply Kd.R_drewN | apply Kd.R_drew)); exact HO314.out))) (Kd.R_lt (by (with_reducible repeat (first | apply Kd.R_alloc | apply Kd.R_drewN | apply Kd.R_drew)); exact HO319.out))) (below_size (by repeat (first | (with_reducible first | exact HB.out | apply below_alloc | apply pw_below_drewN | apply below_drew1 | refine below_set ?_ (IsS94.ge HI308.out) | refine below_set ?_ GE307.out | refine below_set ?_ GE316.out) | exact HB.out))))
            have n4_ := Aside0.mk (blk_below (g := gb307) (o := .cells #[.slice none 0 0, .slice none 0 0] 47 (0, 0)) (by (with_reducible repeat (first | refine blk_drewN ?_ _ | refine blk_drew ?_ | refine blk_alloc ?_ _)); exact BK307.out) hb)
            have n5_ := Aside0.mk (IsS94.below (by repeat (first | (with_reducible first | exact HI308.out | apply IsS94.alloc | apply IsS94.drewN | apply IsS94.drew | apply IsS94.set_1 | apply IsS94.set_2 | refine IsS94.far ?_ NB308_307.out _ | refine IsS94.far ?_ NB308_316.out _) | exact HI308.out)) hb)
            have n6_ := Aside0.mk (blk_below (g := gb316) (o := .cells #[.slice Ao88 t309.length co88, .slice Ao92 t312.length co92] 47 (0, 0)) (by (with_reducible repeat (first | refine blk_drewN ?_ _ | refine blk_drew ?_ | refine blk_alloc ?_ _)); exact BK316.out) hb)
            have n7_ := Aside0.mk (below_step (by repeat (first | (with_reducible first | exact HB.out | apply below_alloc | apply pw_below_drewN | apply below_drew1 | refine below_set ?_ (IsS94.ge HI308.out) | refine below_set ?_ GE307.out | refine below_set ?_ GE316.out) | exact HB.out)) hb)
            clear HO311
            clear HO314
            clear HO319
            clear BK307
            clear HI308
            clear BK316
            clear HB
            have HO311 := n0_
            have HO314 := n1_
            have HO319 := n2_
            have HO369 := n3_
            have BK307 := n4_
            have HI308 := n5_
            have BK316 := n6_
            have HB := n7_
            clear n0_ n1_ n2_ n3_ n4_ n5_ n6_ n7_
            clear hb ho98
            refine hK.out _ _ ⟨(blk_cell BK316.out 0).trans rfl, (blk_cell BK316.out 1).trans rfl⟩ (fun hHeld => ?_)
            clear hK K
            refine norm_ (a' := ?_) ?_ ?_
            rotate_left
            · show Act.put _ (some 43) _ = _
              simp only [Act.put, List.setIfInBounds_toArray, List.set_cons_zero, List.set_cons_succ, i64_w, i32_w]
              rfl
            refine one_ (i := 5) (N := some 45) #[true, true, true, true, true, true, false, false, false, false, true, false, false, false, false] rfl rfl (one_of HT_.out (by kernel_rfl)) (by decide) (fun K hK => ?_)
            refine goes_ Try.func72 (by kernel_rfl) rfl #[.pointer (some ⟨gb308, 0, none⟩), .int .i64 40] (by rfl) rfl rfl (by (try simp only [List.map_toArray, List.map_cons, List.map_nil]); first | done | rfl | (simp only [List.length_drop, List.length_take]; rfl)) ?_
            with_reducible refine (spec_l1Cur_pick.calls gb308 l0 t321 t322 40 t370 t371 t372 w _ ?side1 ?side2 A79.out).mono ?_
            (case side1 => repeat (first | (with_reducible first | exact HI308.out | apply IsS94.alloc | apply IsS94.drewN | apply IsS94.drew | apply IsS94.set_1 | apply IsS94.set_2 | refine IsS94.far ?_ NB308_307.out _ | refine IsS94.far ?_ NB308_316.out _) | exact HI308.out))
            (case side2 => repeat (first | (with_reducible first | exact HB.out | apply below_alloc | apply pw_below_drewN | apply below_drew1 | refine below_set ?_ (IsS94.ge HI308.out) | refine below_set ?_ GE307.out | refine below_set ?_ GE316.out) | exact HB.out))
            rintro e w99 ⟨rfl, hi, hb, hk⟩
            refine ⟨_, rfl, ?_⟩
            have n0_ := Aside0.mk (KeepBut.blk hk (g' := gb307) (o := .cells #[.slice none 0 0, .slice none 0 0] 47 (0, 0)) (by (with_reducible repeat (first | refine blk_drewN ?_ _ | refine blk_drew ?_ | refine blk_alloc ?_ _)); exact BK307.out) NB307_308.out (by simp))
            have n1_ := Aside0.mk (Kd.R_mono (Kd.R_keep (IsS94.apart (show IsS94 w _ gb308 l0 t321 t322 from by repeat (first | (with_reducible first | exact HI308.out | apply IsS94.alloc | apply IsS94.drewN | apply IsS94.drew | apply IsS94.set_1 | apply IsS94.set_2 | refine IsS94.far ?_ NB308_307.out _ | refine IsS94.far ?_ NB308_316.out _) | exact HI308.out)) (by (with_reducible repeat (first | apply Kd.R_alloc | apply Kd.R_drewN | apply Kd.R_drew)); exact HO311.out) (by decide)) hk (fun _ h => h.2)) (fun _ h => h.1))
            have n2_ := Aside0.mk (Kd.R_mono (Kd.R_keep (IsS94.apart (show IsS94 w _ gb308 l0 t321 t322 from by repeat (first | (with_reducible first | exact HI308.out | apply IsS94.alloc | apply IsS94.drewN | apply IsS94.drew | apply IsS94.set_1 | apply IsS94.set_2 | refine IsS94.far ?_ NB308_307.out _ | refine IsS94.far ?_ NB308_316.out _) | exact HI308.out)) (by (with_reducible repeat (first | apply Kd.R_alloc | apply Kd.R_drewN | apply Kd.R_drew)); exact HO314.out) (by decide)) hk (fun _ h => h.2)) (fun _ h => h.1))
            have n3_ := Aside0.mk (KeepBut.blk hk (g' := gb316) (o := .cells #[.slice Ao88 t309.length co88, .slice Ao92 t312.length co92] 47 (0, 0)) (by (with_reducible repeat (first | refine blk_drewN ?_ _ | refine blk_drew ?_ | refine blk_alloc ?_ _)); exact BK316.out) NB316_308.out (by simp))
            have n4_ := Aside0.mk (Kd.R_mono (Kd.R_keep (IsS94.apart (show IsS94 w _ gb308 l0 t321 t322 from by repeat (first | (with_reducible first | exact HI308.out | apply IsS94.alloc | apply IsS94.drewN | apply IsS94.drew | apply IsS94.set_1 | apply IsS94.set_2 | refine IsS94.far ?_ NB308_307.out _ | refine IsS94.far ?_ NB308_316.out _) | exact HI308.out)) (by (with_reducible repeat (first | apply Kd.R_alloc | apply Kd.R_drewN | apply Kd.R_drew)); exact HO319.out) (by decide)) hk (fun _ h => h.2)) (fun _ h => h.1))
            have n5_ := Aside0.mk (Kd.R_mono (Kd.R_keep (IsS94.apart (show IsS94 w _ gb308 l0 t321 t322 from by repeat (first | (with_reducible first | exact HI308.out | apply IsS94.alloc | apply IsS94.drewN | apply IsS94.drew | apply IsS94.set_1 | apply IsS94.set_2 | refine IsS94.far ?_ NB308_307.out _ | refine IsS94.far ?_ NB308_316.out _) | exact HI308.out)) (by (with_reducible repeat (first | apply Kd.R_alloc | apply Kd.R_drewN | apply Kd.R_drew)); exact HO369.out) (by decide)) hk (fun _ h => h.2)) (fun _ h => h.1))
            have n6_ := Aside0.mk (hb)
            have n7_ := Aside0.mk (hi)
            clear BK307
            clear HO311
            clear HO314
            clear BK316
            clear HO319
            clear HO369
            clear HB
            clear HI308
            have BK307 := n0_
            have HO311 := n1_
            have HO314 := n2_
            have BK316 := n3_
            have HO319 := n4_
            have HO369 := n5_
            have HB := n6_
            have HI308 := n7_
            clear n0_ n1_ n2_ n3_ n4_ n5_ n6_ n7_
            (try clear hb)
            (try clear hb2)
            (try clear hk)
            (try clear hi)
            refine hK.out _ _ ⟨(blk_cell BK316.out 0).trans rfl, (blk_cell BK316.out 1).trans rfl⟩ (fun hHeld => ?_)
            clear hK K
            refine norm_ (a' := ?_) ?_ ?_
            rotate_left
            · show Act.put _ (some 45) _ = _
              simp only [Act.put, List.setIfInBounds_toArray, List.set_cons_zero, List.set_cons_succ, i64_w, i32_w]
              rfl
            refine pure_ (i := 6) (N := some 46) (v := ?_) (a' := ?_) #[true, true, true, true, true, true, true, false, false, false, true, false, false, false, false] rfl rfl (any_of HT_.out (by kernel_rfl)) (fun _ _ _ h => h) (Or.inl ⟨by rfl, ?_⟩) ?_ ?_
            rotate_left
            · intro w'
              go_simp
              with_reducible rfl
            rotate_left
            · simp only [Act.put, List.setIfInBounds_toArray, List.set_cons_zero, List.set_cons_succ, i64_w, i32_w]
              rfl
            refine pure_ (i := 7) (N := some 47) (v := ?_) (a' := ?_) #[true, true, true, true, true, true, true, true, false, false, true, false, false, false, false] rfl rfl (any_of HT_.out (by kernel_rfl)) (fun _ _ _ h => h) (Or.inl ⟨by rfl, ?_⟩) ?_ ?_
            rotate_left
            · intro w'
              go_simp
              with_reducible rfl
            rotate_left
            · simp only [Act.put, List.setIfInBounds_toArray, List.set_cons_zero, List.set_cons_succ, i64_w, i32_w]
              rfl
            exact norm_ (by simp only [putAll, Act.put, List.setIfInBounds_toArray, List.set_cons_zero, List.set_cons_succ]) (hCont (v368) _ ⟨hHeld, (by (with_reducible repeat (first | apply Kd.R_alloc | apply Kd.R_drewN | apply Kd.R_drew)); exact Kd.R_mono HO311.out (fun _ hk => ⟨hk.1.1, ⟨hk.1.2, hk.2⟩⟩)), (by (with_reducible repeat (first | apply Kd.R_alloc | apply Kd.R_drewN | apply Kd.R_drew)); exact Kd.R_mono HO314.out (fun _ hk => ⟨hk.1.1, ⟨hk.1.2, hk.2⟩⟩)), (by (with_reducible repeat (first | apply Kd.R_alloc | apply Kd.R_drewN | apply Kd.R_drew)); exact Kd.R_mono HO319.out (fun _ hk => ⟨hk.1.1.2, ⟨hk.1.2, hk.2⟩⟩)), (by (with_reducible repeat (first | apply Kd.R_alloc | apply Kd.R_drewN | apply Kd.R_drew)); exact Kd.R_mono HO369.out (fun _ hk => ⟨hk.1.1.2, ⟨hk.1.2, hk.2⟩⟩)), (by (with_reducible repeat (first | refine blk_drewN ?_ _ | refine blk_drew ?_ | refine blk_alloc ?_ _)); exact BK307.out), (by (with_reducible repeat (first | refine blk_drewN ?_ _ | refine blk_drew ?_ | refine blk_alloc ?_ _)); exact BK316.out), (by repeat (first | (with_reducible first | exact HI308.out | apply IsS94.alloc | apply IsS94.drewN | apply IsS94.drew | apply IsS94.set_1 | apply IsS94.set_2 | refine IsS94.far ?_ NB308_307.out _ | refine IsS94.far ?_ NB308_316.out _) | exact HI308.out)), (by repeat (first | (with_reducible first | exact HB.out | apply below_alloc | apply pw_below_drewN | apply below_drew1 | refine below_set ?_ (IsS94.ge HI308.out) | refine below_set ?_ GE307.out | refine below_set ?_ GE316.out) | exact HB.out))⟩)
          · skip
            refine goes_ Try.func72 (by kernel_rfl) rfl #[.pointer (some ⟨gb308, 0, none⟩), .int .i64 40] (by rfl) rfl rfl (by (try simp only [List.map_toArray, List.map_cons, List.map_nil]); first | done | rfl | (simp only [List.length_drop, List.length_take]; rfl)) ?_
            with_reducible refine (spec_l1Cur_pick.calls gb308 l0 t321 t322 40 t370 t371 t372 w _ ?side1 ?side2 A79.out).mono ?_
            (case side1 => repeat (first | (with_reducible first | exact HI308.out | apply IsS94.alloc | apply IsS94.drewN | apply IsS94.drew | apply IsS94.set_1 | apply IsS94.set_2 | refine IsS94.far ?_ NB308_307.out _ | refine IsS94.far ?_ NB308_316.out _) | exact HI308.out))
            (case side2 => repeat (first | (with_reducible first | exact HB.out | apply below_alloc | apply pw_below_drewN | apply below_drew1 | refine below_set ?_ (IsS94.ge HI308.out) | refine below_set ?_ GE307.out | refine below_set ?_ GE316.out) | exact HB.out))
            rintro e w97 ⟨rfl, hi, hb, hk⟩
            refine ⟨_, rfl, ?_⟩
            have n0_ := Aside0.mk (KeepBut.blk hk (g' := gb307) (o := .cells #[.slice none 0 0, .slice none 0 0] 47 (0, 0)) (by (with_reducible repeat (first | refine blk_drewN ?_ _ | refine blk_drew ?_ | refine blk_alloc ?_ _)); exact BK307.out) NB307_308.out (by simp))
            have n1_ := Aside0.mk (Kd.R_mono (Kd.R_keep (IsS94.apart (show IsS94 w _ gb308 l0 t321 t322 from by repeat (first | (with_reducible first | exact HI308.out | apply IsS94.alloc | apply IsS94.drewN | apply IsS94.drew | apply IsS94.set_1 | apply IsS94.set_2 | refine IsS94.far ?_ NB308_307.out _ | refine IsS94.far ?_ NB308_316.out _) | exact HI308.out)) (by (with_reducible repeat (first | apply Kd.R_alloc | apply Kd.R_drewN | apply Kd.R_drew)); exact HO311.out) (by decide)) hk (fun _ h => h.2)) (fun _ h => h.1))
            have n2_ := Aside0.mk (Kd.R_mono (Kd.R_keep (IsS94.apart (show IsS94 w _ gb308 l0 t321 t322 from by repeat (first | (with_reducible first | exact HI308.out | apply IsS94.alloc | apply IsS94.drewN | apply IsS94.drew | apply IsS94.set_1 | apply IsS94.set_2 | refine IsS94.far ?_ NB308_307.out _ | refine IsS94.far ?_ NB308_316.out _) | exact HI308.out)) (by (with_reducible repeat (first | apply Kd.R_alloc | apply Kd.R_drewN | apply Kd.R_drew)); exact HO314.out) (by decide)) hk (fun _ h => h.2)) (fun _ h => h.1))
            have n3_ := Aside0.mk (KeepBut.blk hk (g' := gb316) (o := .cells #[.slice Ao88 t309.length co88, .slice Ao92 t312.length co92] 47 (0, 0)) (by (with_reducible repeat (first | refine blk_drewN ?_ _ | refine blk_drew ?_ | refine blk_alloc ?_ _)); exact BK316.out) NB316_308.out (by simp))
            have n4_ := Aside0.mk (Kd.R_mono (Kd.R_keep (IsS94.apart (show IsS94 w _ gb308 l0 t321 t322 from by repeat (first | (with_reducible first | exact HI308.out | apply IsS94.alloc | apply IsS94.drewN | apply IsS94.drew | apply IsS94.set_1 | apply IsS94.set_2 | refine IsS94.far ?_ NB308_307.out _ | refine IsS94.far ?_ NB308_316.out _) | exact HI308.out)) (by (with_reducible repeat (first | apply Kd.R_alloc | apply Kd.R_drewN | apply Kd.R_drew)); exact HO319.out) (by decide)) hk (fun _ h => h.2)) (fun _ h => h.1))
            have n5_ := Aside0.mk (hb)
            have n6_ := Aside0.mk (hi)
            clear BK307
            clear HO311
            clear HO314
            clear BK316
            clear HO319
            clear HB
            clear HI308
            have BK307 := n0_
            have HO311 := n1_
            have HO314 := n2_
            have BK316 := n3_
            have HO319 := n4_
            have HB := n5_
            have HI308 := n6_
            clear n0_ n1_ n2_ n3_ n4_ n5_ n6_
            (try clear hb)
            (try clear hb2)
            (try clear hk)
            (try clear hi)
            refine hK.out _ _ ⟨(blk_cell BK316.out 0).trans rfl, (blk_cell BK316.out 1).trans rfl⟩ (fun hHeld => ?_)
            clear hK K
            refine norm_ (a' := ?_) ?_ ?_
            rotate_left
            · show Act.put _ (some 45) _ = _
              simp only [Act.put, List.setIfInBounds_toArray, List.set_cons_zero, List.set_cons_succ, i64_w, i32_w]
              rfl
            refine pure_ (i := 6) (N := some 46) (v := ?_) (a' := ?_) #[true, true, true, false, true, true, true, false, false, false, true, false, false, false, false] rfl rfl (any_of HT_.out (by kernel_rfl)) (fun _ _ _ h => h) (Or.inl ⟨by rfl, ?_⟩) ?_ ?_
            rotate_left
            · intro w'
              go_simp
              with_reducible rfl
            rotate_left
            · simp only [Act.put, List.setIfInBounds_toArray, List.set_cons_zero, List.set_cons_succ, i64_w, i32_w]
              rfl
            refine pure_ (i := 7) (N := some 47) (v := ?_) (a' := ?_) #[true, true, true, false, true, true, true, true, false, false, true, false, false, false, false] rfl rfl (any_of HT_.out (by kernel_rfl)) (fun _ _ _ h => h) (Or.inl ⟨by rfl, ?_⟩) ?_ ?_
            rotate_left
            · intro w'
              go_simp
              with_reducible rfl
            rotate_left
            · simp only [Act.put, List.setIfInBounds_toArray, List.set_cons_zero, List.set_cons_succ, i64_w, i32_w]
              rfl
            refine one_ (i := 3) (N := some 43) #[true, true, true, true, true, true, true, true, false, false, true, false, false, false, false] rfl rfl (one_of HT_.out (by kernel_rfl)) (by decide) (fun K hK => ?_)
            refine Kd.R_lit_step (Kd.int .i64) _ 3 ?hg (N := 43) ?hd (xs := ([0, 1, 3, 5, 20, 60, 61, (-1)] : List Int)) (inner := [.int .i64 0, .int .i64 1, .int .i64 3, .int .i64 5, .int .i64 20, .int .i64 60, .int .i64 61, .int .i64 (-1)]) (ok := fun _ => True) (okp := fun _ => True) ?hr ?hp (fun _ hk => hk) trivial (Below.refl _ _) (Nat.le_refl _) (by simp) ?_; (case hd => rfl); (case hg => rfl); (case hr => first | (go_simp; done) | (go_simp; rfl)); (case hp => exact (Reps.one (show Kd.M (Kd.int .i64) _ _ _ 0 [.int .i64 0] from rfl) (Reps.one (show Kd.M (Kd.int .i64) _ _ _ 1 [.int .i64 1] from rfl) (Reps.one (show Kd.M (Kd.int .i64) _ _ _ 3 [.int .i64 3] from rfl) (Reps.one (show Kd.M (Kd.int .i64) _ _ _ 5 [.int .i64 5] from rfl) (Reps.one (show Kd.M (Kd.int .i64) _ _ _ 20 [.int .i64 20] from rfl) (Reps.one (show Kd.M (Kd.int .i64) _ _ _ 60 [.int .i64 60] from rfl) (Reps.one (show Kd.M (Kd.int .i64) _ _ _ 61 [.int .i64 61] from rfl) (Reps.one (show Kd.M (Kd.int .i64) _ _ _ (-1) [.int .i64 (-1)] from rfl) (Reps.none _ _))))))))))
            intro v368 w98 ho99 hb hg_ hnew_
            clear hg_ hnew_
            (first | rw [← Ny367.out] at ho99 | (simp only [Int.reduceToNat] at ho99; rw [← Ny367.out] at ho99))
            have n0_ := Aside0.mk (Kd.R_elder' (by (with_reducible repeat (first | apply Kd.R_alloc | apply Kd.R_drewN | apply Kd.R_drew)); exact HO311.out) (Kd.R_base ho99) hb)
            have n1_ := Aside0.mk (Kd.R_elder' (by (with_reducible repeat (first | apply Kd.R_alloc | apply Kd.R_drewN | apply Kd.R_drew)); exact HO314.out) (Kd.R_base ho99) hb)
            have n2_ := Aside0.mk (Kd.R_elder' (by (with_reducible repeat (first | apply Kd.R_alloc | apply Kd.R_drewN | apply Kd.R_drew)); exact HO319.out) (Kd.R_base ho99) hb)
            have n3_ := Aside0.mk (Kd.R_lower (Kd.R_new' (Kd.R_new' (Kd.R_new' ho99 (Kd.R_lt (by (with_reducible repeat (first | apply Kd.R_alloc | apply Kd.R_drewN | apply Kd.R_drew)); exact HO311.out))) (Kd.R_lt (by (with_reducible repeat (first | apply Kd.R_alloc | apply Kd.R_drewN | apply Kd.R_drew)); exact HO314.out))) (Kd.R_lt (by (with_reducible repeat (first | apply Kd.R_alloc | apply Kd.R_drewN | apply Kd.R_drew)); exact HO319.out))) (below_size (by repeat (first | (with_reducible first | exact HB.out | apply below_alloc | apply pw_below_drewN | apply below_drew1 | refine below_set ?_ (IsS94.ge HI308.out) | refine below_set ?_ GE307.out | refine below_set ?_ GE316.out) | exact HB.out))))
            have n4_ := Aside0.mk (blk_below (g := gb307) (o := .cells #[.slice none 0 0, .slice none 0 0] 47 (0, 0)) (by (with_reducible repeat (first | refine blk_drewN ?_ _ | refine blk_drew ?_ | refine blk_alloc ?_ _)); exact BK307.out) hb)
            have n5_ := Aside0.mk (IsS94.below (by repeat (first | (with_reducible first | exact HI308.out | apply IsS94.alloc | apply IsS94.drewN | apply IsS94.drew | apply IsS94.set_1 | apply IsS94.set_2 | refine IsS94.far ?_ NB308_307.out _ | refine IsS94.far ?_ NB308_316.out _) | exact HI308.out)) hb)
            have n6_ := Aside0.mk (blk_below (g := gb316) (o := .cells #[.slice Ao88 t309.length co88, .slice Ao92 t312.length co92] 47 (0, 0)) (by (with_reducible repeat (first | refine blk_drewN ?_ _ | refine blk_drew ?_ | refine blk_alloc ?_ _)); exact BK316.out) hb)
            have n7_ := Aside0.mk (below_step (by repeat (first | (with_reducible first | exact HB.out | apply below_alloc | apply pw_below_drewN | apply below_drew1 | refine below_set ?_ (IsS94.ge HI308.out) | refine below_set ?_ GE307.out | refine below_set ?_ GE316.out) | exact HB.out)) hb)
            clear HO311
            clear HO314
            clear HO319
            clear BK307
            clear HI308
            clear BK316
            clear HB
            have HO311 := n0_
            have HO314 := n1_
            have HO319 := n2_
            have HO369 := n3_
            have BK307 := n4_
            have HI308 := n5_
            have BK316 := n6_
            have HB := n7_
            clear n0_ n1_ n2_ n3_ n4_ n5_ n6_ n7_
            clear hb ho99
            refine hK.out _ _ ⟨(blk_cell BK316.out 0).trans rfl, (blk_cell BK316.out 1).trans rfl⟩ (fun hHeld => ?_)
            clear hK K
            refine norm_ (a' := ?_) ?_ ?_
            rotate_left
            · show Act.put _ (some 43) _ = _
              simp only [Act.put, List.setIfInBounds_toArray, List.set_cons_zero, List.set_cons_succ, i64_w, i32_w]
              rfl
            exact norm_ (by simp only [putAll, Act.put, List.setIfInBounds_toArray, List.set_cons_zero, List.set_cons_succ]) (hCont (v368) _ ⟨hHeld, (by (with_reducible repeat (first | apply Kd.R_alloc | apply Kd.R_drewN | apply Kd.R_drew)); exact Kd.R_mono HO311.out (fun _ hk => ⟨hk.1.1, ⟨hk.1.2, hk.2⟩⟩)), (by (with_reducible repeat (first | apply Kd.R_alloc | apply Kd.R_drewN | apply Kd.R_drew)); exact Kd.R_mono HO314.out (fun _ hk => ⟨hk.1.1, ⟨hk.1.2, hk.2⟩⟩)), (by (with_reducible repeat (first | apply Kd.R_alloc | apply Kd.R_drewN | apply Kd.R_drew)); exact Kd.R_mono HO319.out (fun _ hk => ⟨hk.1.1.2, ⟨hk.1.2, hk.2⟩⟩)), (by (with_reducible repeat (first | apply Kd.R_alloc | apply Kd.R_drewN | apply Kd.R_drew)); exact Kd.R_mono HO369.out (fun _ hk => ⟨hk.1.1.2, ⟨hk.1.2, hk.2⟩⟩)), (by (with_reducible repeat (first | refine blk_drewN ?_ _ | refine blk_drew ?_ | refine blk_alloc ?_ _)); exact BK307.out), (by (with_reducible repeat (first | refine blk_drewN ?_ _ | refine blk_drew ?_ | refine blk_alloc ?_ _)); exact BK316.out), (by repeat (first | (with_reducible first | exact HI308.out | apply IsS94.alloc | apply IsS94.drewN | apply IsS94.drew | apply IsS94.set_1 | apply IsS94.set_2 | refine IsS94.far ?_ NB308_307.out _ | refine IsS94.far ?_ NB308_316.out _) | exact HI308.out)), (by repeat (first | (with_reducible first | exact HB.out | apply below_alloc | apply pw_below_drewN | apply below_drew1 | refine below_set ?_ (IsS94.ge HI308.out) | refine below_set ?_ GE307.out | refine below_set ?_ GE316.out) | exact HB.out))⟩)
        rintro v368 w100 ⟨hS_, h0_, h1_, h2_, h3_, h4_, h5_, h6_, h7_⟩
        have n0_ : Aside0 (Kd.R (Kd.int .i64) 3 w100 w.heap.size (fun k_ => some k_ ≠ (.slice Ao92 t312.length co92 : Value).ownBlock ∧ some k_ ≠ (v318 : Value).ownBlock ∧ some k_ ≠ (v368 : Value).ownBlock) (.slice Ao88 t309.length co88) t309) := ⟨h0_⟩
        have n1_ : Aside0 (Kd.R (Kd.int .i64) 3 w100 w.heap.size (fun k_ => some k_ ≠ (.slice Ao88 t309.length co88 : Value).ownBlock ∧ some k_ ≠ (v318 : Value).ownBlock ∧ some k_ ≠ (v368 : Value).ownBlock) (.slice Ao92 t312.length co92) t312) := ⟨h1_⟩
        have n2_ : Aside0 (Kd.R (Kd.int .i64) 3 w100 w.heap.size (fun k_ => some k_ ≠ (.slice Ao88 t309.length co88 : Value).ownBlock ∧ some k_ ≠ (.slice Ao92 t312.length co92 : Value).ownBlock ∧ some k_ ≠ (v368 : Value).ownBlock) v318 y317) := ⟨h2_⟩
        have n3_ : Aside0 (Kd.R (Kd.int .i64) 3 w100 w.heap.size (fun k_ => some k_ ≠ (.slice Ao88 t309.length co88 : Value).ownBlock ∧ some k_ ≠ (.slice Ao92 t312.length co92 : Value).ownBlock ∧ some k_ ≠ (v318 : Value).ownBlock) v368 y367) := ⟨h3_⟩
        have n4_ : Aside0 (w100.heap[gb307]? = some (.cells #[.slice none 0 0, .slice none 0 0] 47 (0, 0))) := ⟨h4_⟩
        have n5_ : Aside0 (w100.heap[gb316]? = some (.cells #[.slice Ao88 t309.length co88, .slice Ao92 t312.length co92] 47 (0, 0))) := ⟨h5_⟩
        have n6_ : Aside0 (IsS94 w w100 gb308 l0 t371 t372) := ⟨h6_⟩
        have n7_ : Aside0 (Below w.heap.size w w100) := ⟨h7_⟩
        clear HO311
        clear HO314
        clear HO319
        clear BK307
        clear BK316
        clear HI308
        clear HB
        clear h0_ h1_ h2_ h3_ h4_ h5_ h6_ h7_
        have HO311 := n0_
        have HO314 := n1_
        have HO319 := n2_
        have HO369 := n3_
        have BK307 := n4_
        have BK316 := n5_
        have HI308 := n6_
        have HB := n7_
        clear n0_ n1_ n2_ n3_ n4_ n5_ n6_ n7_
        have hHeld : w100.cell? ⟨gb316, 0, none⟩ = some (.slice Ao88 t309.length co88) ∧ w100.cell? ⟨gb316, 1, none⟩ = some (.slice Ao92 t312.length co92) := hS_
        obtain ⟨Ao102, co102, eo102⟩ := Kd.R_slice HO369.out
        (first | subst eo102 | (injection eo102 with f1_ f2_ f3_; have f4_ := f1_.symm; have f5_ := f3_.symm; clear f1_ f2_ f3_; subst f4_; subst f5_))
        have q101 : ((ji80) : Int) ≤ ((y367.length : Int) : Int) := of_decide_eq_true (by first | (with_reducible assumption) | assumption)
        obtain ⟨i0101, hi0101, _, hsz101, _⟩ := info_parts info3
        have hroom101 : y367.length ≤ co102 := (Kd.R_reads' HO369.out).2.1
        have hC101 : Kd.C (Kd.int .i64) _ Ao102 y367.length y367 := (Kd.R_reads' HO369.out).2.2
        have hcut101 := cut_to (P := Try.prog) 36 3 .i64 Try.underlying36 hi0101 Ao102 y367.length co102 (ji80) (of_decide_eq_true (by first | (with_reducible assumption) | assumption)) q101 hroom101
        have hr101 := Kd.C_take (m := ((ji80) : Int).toNat) hC101 (by omega)
        have hy101 : y373.length = ((ji80) : Int).toNat := (by rw [Ny373.out, List.length_take]; omega)
        rw [← Ny373.out] at hr101
        rw [← hy101] at hcut101
        have HR376 := Aside0.mk hr101
        have HC376 := Aside0.mk (show y373.length ≤ co102 from by omega)
        clear hr101 hC101 hroom101 hi0101 hsz101
        have KY101 := Aside0.mk hy101
        clear hy101
        have KL101 := Aside0.mk (show ((ji80) : Int).toNat ≤ y367.length from by omega)
        replace q101 := eq_true q101
        refine norm_ (a' := ?_) ?_ ?_
        rotate_left
        · simp only [putAll, Act.put, List.setIfInBounds_toArray, List.set_cons_zero, List.set_cons_succ]
          rfl
        refine pure_ (i := 8) (N := some 48) (v := ?_) (a' := ?_) #[true, true, true, true, true, true, true, true, true, false, true, false, false, false, false] rfl rfl (any_of HT_.out (by kernel_rfl)) (fun _ _ _ h => h) (Or.inl ⟨by rfl, ?_⟩) ?_ ?_
        rotate_left
        · intro w'
          go_simp
          with_reducible rfl
        rotate_left
        · simp only [Act.put, List.setIfInBounds_toArray, List.set_cons_zero, List.set_cons_succ, i64_w, i32_w]
          rfl
        refine one_ (i := 9) (N := some 49) #[true, true, true, true, true, true, true, true, true, true, true, false, false, false, false] rfl rfl (one_of HT_.out (by kernel_rfl)) (by decide) (fun K hK => ?_)
        refine goes_ Try.func71 (by kernel_rfl) rfl #[.pointer (some ⟨gb308, 0, none⟩), .slice Ao102 y373.length co102] (by rfl) rfl rfl (by (try simp only [List.map_toArray, List.map_cons, List.map_nil]); first | done | rfl | (simp only [List.length_drop, List.length_take]; rfl)) ?_
        with_reducible refine (spec_l1Cur_among.calls gb308 l0 t371 t372 _ _ y373 t377 t378 t379 w _ ?side1 ?side2 ?side3 ?side4 ?side5 A83.out).mono ?_
        (case side1 => repeat (first | (with_reducible first | exact HI308.out | apply IsS94.alloc | apply IsS94.drewN | apply IsS94.drew | apply IsS94.set_1 | apply IsS94.set_2 | refine IsS94.far ?_ NB308_307.out _ | refine IsS94.far ?_ NB308_316.out _) | exact HI308.out))
        (case side2 => repeat (first | (with_reducible first | exact HB.out | apply below_alloc | apply pw_below_drewN | apply below_drew1 | refine below_set ?_ (IsS94.ge HI308.out) | refine below_set ?_ GE307.out | refine below_set ?_ GE316.out) | exact HB.out))
        (case side3 => repeat (first | exact (by repeat (first | (with_reducible exact HR376.out) | (with_reducible refine Kd.C_alloc ?_ _) | (with_reducible refine Kd.C_drewN ?_ _) | (with_reducible refine Kd.C_drew ?_) | exact HR376.out)) | (with_reducible refine Kd.C_alloc ?_ _) | (with_reducible refine Kd.C_drewN ?_ _) | (with_reducible refine Kd.C_drew ?_)))
        (case side4 => exact HC376.out)
        (case side5 => exact fun ad_ e_ _ hq_ => (IsS94.own_ne HI308.out HO369.out (by decide)) (by rw [e_, ← hq_]; rfl))
        rintro e w103 ⟨rfl, hi, hb, hk⟩
        refine ⟨_, rfl, ?_⟩
        have n0_ := Aside0.mk (KeepBut.blk hk (g' := gb307) (o := .cells #[.slice none 0 0, .slice none 0 0] 47 (0, 0)) (by (with_reducible repeat (first | refine blk_drewN ?_ _ | refine blk_drew ?_ | refine blk_alloc ?_ _)); exact BK307.out) NB307_308.out (by simp))
        have n1_ := Aside0.mk (Kd.R_mono (Kd.R_keep (IsS94.apart (show IsS94 w _ gb308 l0 t371 t372 from by repeat (first | (with_reducible first | exact HI308.out | apply IsS94.alloc | apply IsS94.drewN | apply IsS94.drew | apply IsS94.set_1 | apply IsS94.set_2 | refine IsS94.far ?_ NB308_307.out _ | refine IsS94.far ?_ NB308_316.out _) | exact HI308.out)) (by (with_reducible repeat (first | apply Kd.R_alloc | apply Kd.R_drewN | apply Kd.R_drew)); exact HO311.out) (by decide)) hk (fun _ h => h.2)) (fun _ h => h.1))
        have n2_ := Aside0.mk (Kd.R_mono (Kd.R_keep (IsS94.apart (show IsS94 w _ gb308 l0 t371 t372 from by repeat (first | (with_reducible first | exact HI308.out | apply IsS94.alloc | apply IsS94.drewN | apply IsS94.drew | apply IsS94.set_1 | apply IsS94.set_2 | refine IsS94.far ?_ NB308_307.out _ | refine IsS94.far ?_ NB308_316.out _) | exact HI308.out)) (by (with_reducible repeat (first | apply Kd.R_alloc | apply Kd.R_drewN | apply Kd.R_drew)); exact HO314.out) (by decide)) hk (fun _ h => h.2)) (fun _ h => h.1))
        have n3_ := Aside0.mk (KeepBut.blk hk (g' := gb316) (o := .cells #[.slice Ao88 t309.length co88, .slice Ao92 t312.length co92] 47 (0, 0)) (by (with_reducible repeat (first | refine blk_drewN ?_ _ | refine blk_drew ?_ | refine blk_alloc ?_ _)); exact BK316.out) NB316_308.out (by simp))
        have n4_ := Aside0.mk (Kd.R_mono (Kd.R_keep (IsS94.apart (show IsS94 w _ gb308 l0 t371 t372 from by repeat (first | (with_reducible first | exact HI308.out | apply IsS94.alloc | apply IsS94.drewN | apply IsS94.drew | apply IsS94.set_1 | apply IsS94.set_2 | refine IsS94.far ?_ NB308_307.out _ | refine IsS94.far ?_ NB308_316.out _) | exact HI308.out)) (by (with_reducible repeat (first | apply Kd.R_alloc | apply Kd.R_drewN | apply Kd.R_drew)); exact HO319.out) (by decide)) hk (fun _ h => h.2)) (fun _ h => h.1))
        have n5_ := Aside0.mk (Kd.R_mono (Kd.R_keep (IsS94.apart (show IsS94 w _ gb308 l0 t371 t372 from by repeat (first | (with_reducible first | exact HI308.out | apply IsS94.alloc | apply IsS94.drewN | apply IsS94.drew | apply IsS94.set_1 | apply IsS94.set_2 | refine IsS94.far ?_ NB308_307.out _ | refine IsS94.far ?_ NB308_316.out _) | exact HI308.out)) (by (with_reducible repeat (first | apply Kd.R_alloc | apply Kd.R_drewN | apply Kd.R_drew)); exact HO369.out) (by decide)) hk (fun _ h => h.2)) (fun _ h => h.1))
        have n6_ := Aside0.mk (hb)
        have n7_ := Aside0.mk (hi)
        clear BK307
        clear HO311
        clear HO314
        clear BK316
        clear HO319
        clear HO369
        clear HB
        clear HI308
        have BK307 := n0_
        have HO311 := n1_
        have HO314 := n2_
        have BK316 := n3_
        have HO319 := n4_
        have HO369 := n5_
        have HB := n6_
        have HI308 := n7_
        clear n0_ n1_ n2_ n3_ n4_ n5_ n6_ n7_
        (try clear hb)
        (try clear hb2)
        (try clear hk)
        (try clear hi)
        refine hK.out _ _ ⟨(blk_cell BK316.out 0).trans rfl, (blk_cell BK316.out 1).trans rfl⟩ (fun hHeld => ?_)
        clear hK K
        refine norm_ (a' := ?_) ?_ ?_
        rotate_left
        · show Act.put _ (some 49) _ = _
          simp only [Act.put, List.setIfInBounds_toArray, List.set_cons_zero, List.set_cons_succ, i64_w, i32_w]
          rfl
        refine one_ (i := 11) (N := none) #[true, true, true, true, true, true, true, true, true, true, true, true, false, false, false] rfl rfl (one_of HT_.out (by kernel_rfl)) (by decide) (fun K hK => ?_)
        have hs104 : w103.cell? ⟨gb307, 0, none⟩ = some (.slice none 0 0) := (blk_cell BK307.out 0).trans rfl
        have hfs104 := blk_frozen BK307.out 0
        have hns104_1 := NB316_307.out
        have hms104_1 := NB307_316.out
        have hs105 : w103.cell? ⟨gb307, 1, none⟩ = some (.slice none 0 0) := (blk_cell BK307.out 1).trans rfl
        have hfs105 := blk_frozen BK307.out 1
        have hns105_1 := NB316_307.out
        have hms105_1 := NB307_316.out
        refine skip_ (w1 := ?_) (by rfl) rfl ?_ ?_
        rotate_left
        · go_simp
          rfl
        refine hK.out _ _ ⟨((cell_far (p := ⟨gb307, _, none⟩) NB316_307.out _).trans (((cell_far (p := ⟨gb307, _, none⟩) NB316_307.out _).trans (hHeld.1)))), ((cell_far (p := ⟨gb307, _, none⟩) NB316_307.out _).trans (((cell_far (p := ⟨gb307, _, none⟩) NB316_307.out _).trans (hHeld.2))))⟩ (fun hHeld => ?_)
        clear hK K
        refine pure_ (i := 12) (N := some 3) (v := ?_) (a' := ?_) #[true, true, true, true, true, true, true, true, true, true, true, true, true, false, false] rfl rfl (any_of HT_.out (by kernel_rfl)) (fun _ _ _ h => h) (Or.inl ⟨by rfl, ?_⟩) ?_ ?_
        rotate_left
        · intro w'
          go_simp
          with_reducible rfl
        rotate_left
        · simp only [Act.put, List.setIfInBounds_toArray, List.set_cons_zero, List.set_cons_succ, i64_w, i32_w]
          rfl
        refine pure_ (i := 13) (N := some 4) (v := ?_) (a' := ?_) #[true, true, true, true, true, true, true, true, true, true, true, true, true, true, false] rfl rfl (any_of HT_.out (by kernel_rfl)) (fun _ _ _ h => h) (Or.inl ⟨by rfl, ?_⟩) ?_ ?_
        rotate_left
        · intro w'
          go_simp
          with_reducible rfl
        rotate_left
        · simp only [Act.put, List.setIfInBounds_toArray, List.set_cons_zero, List.set_cons_succ, i64_w, i32_w]
          rfl
        refine pure_ (i := 14) (N := some 5) (v := ?_) (a' := ?_) #[true, true, true, true, true, true, true, true, true, true, true, true, true, true, true] rfl rfl (any_of HT_.out (by kernel_rfl)) (fun _ _ _ h => h) (Or.inl ⟨by rfl, ?_⟩) ?_ ?_
        rotate_left
        · intro w'
          go_simp
          with_reducible rfl
        rotate_left
        · simp only [Act.put, List.setIfInBounds_toArray, List.set_cons_zero, List.set_cons_succ, i64_w, i32_w]
          rfl
        refine done_ (done_of HT_.out (by kernel_rfl)) ?_
        try go_wp2
        refine bodyPost_ret (results_list (rs := [.cell 2 47, .tmp 3, .tmp 4, .tmp 5]) rfl (by simp) (.cell gb307 47 #[.slice Ao88 t309.length co88, .slice Ao92 t312.length co92] (0, 0) _ rfl (by (with_reducible repeat (first | refine blk_drewN ?_ _ | refine blk_drew ?_ | refine blk_alloc ?_ _)); refine blk_put (cs := #[.slice Ao88 t309.length co88, .slice none 0 0]) ?_ 1 _ rfl; (with_reducible repeat (first | refine blk_drewN ?_ _ | refine blk_drew ?_ | refine blk_alloc ?_ _)); refine blk_put (cs := #[.slice none 0 0, .slice none 0 0]) ?_ 0 _ rfl; (with_reducible repeat (first | refine blk_drewN ?_ _ | refine blk_drew ?_ | refine blk_alloc ?_ _)); exact BK307.out) Try.underlying47 rfl (by kernel_rfl) (.tmp (.tmp (.tmp .nil))))) rfl ?_
        exact ⟨_, _, _, by first | rfl | (simp [errW_none, errW_some] <;> rfl) | (simp only [← hji80]; first | rfl | (simp [errW_none, errW_some] <;> rfl)) | (simp [*, errW_none, errW_some] <;> rfl), by (with_reducible repeat (first | apply Kd.R_alloc | apply Kd.R_drewN | apply Kd.R_drew)); exact Kd.R_mono (Kd.R_far (p := ⟨gb307, 1, none⟩) (Kd.R_far (p := ⟨gb307, 0, none⟩) (Kd.R_types HO311.out BK307.out (by decide)) (fun _ hk => hk.2) (.slice Ao88 t309.length co88)) (fun _ hk => hk.2) (.slice Ao92 t312.length co92)) (fun _ hk => ⟨hk.1.1, hk.1.2.1⟩), by (with_reducible repeat (first | apply Kd.R_alloc | apply Kd.R_drewN | apply Kd.R_drew)); exact Kd.R_mono (Kd.R_far (p := ⟨gb307, 1, none⟩) (Kd.R_far (p := ⟨gb307, 0, none⟩) (Kd.R_types HO314.out BK307.out (by decide)) (fun _ hk => hk.2) (.slice Ao88 t309.length co88)) (fun _ hk => hk.2) (.slice Ao92 t312.length co92)) (fun _ hk => ⟨hk.1.1, hk.1.2.1⟩), by (with_reducible repeat (first | apply Kd.R_alloc | apply Kd.R_drewN | apply Kd.R_drew)); exact Kd.R_mono (Kd.R_far (p := ⟨gb307, 1, none⟩) (Kd.R_far (p := ⟨gb307, 0, none⟩) (Kd.R_types HO319.out BK307.out (by decide)) (fun _ hk => hk.2) (.slice Ao88 t309.length co88)) (fun _ hk => hk.2) (.slice Ao92 t312.length co92)) (fun _ hk => ⟨hk.1.1, hk.1.2.1⟩), by repeat (first | (with_reducible first | exact HB.out | apply below_alloc | apply pw_below_drewN | apply below_drew1 | refine below_set ?_ (IsS94.ge HI308.out) | refine below_set ?_ GE307.out | refine below_set ?_ GE316.out) | exact HB.out)⟩
      · rw [if_neg c82] at H
        exact absurd H (by simp)
    · rw [if_neg c81] at H
      exact absurd H (by simp)

end Go.Proofs.Ytjpceeemmebghaa.PFnTermination
