/- Each Go function that the law uses as a plain Lean function, and a proof that its code comes to what this function tells. No condition. -/
import Derived.Test.YtfhbnmlmobpjgaaPFnExtensionsx0
import Derived.Test.YtfhbnmlmobpjgaaPFnExtensionsx2
import Derived.Test.YtfhbnmlmobpjgaaPFnExtensionsx4
import Derived.Test.YtfhbnmlmobpjgaaPFnExtensionsx5
import Derived.Test.YtfhbnmlmobpjgaaPFnExtensionsx6
import Derived.Test.YtfhbnmlmobpjgaaPFnExtensionsx7
namespace Go.Proofs.Ytfhbnmlmobpjgaa.PFnExtensions
open Go.RowKit Go.Proofs.YtfhbnmlmobpjgaaW.PrintWords Go.Proofs.YtfhbnmlmobpjgaaW.PrintLast Go.Proofs.YtfhbnmlmobpjgaaW.PrintMore
attribute [local go_sem] max2_int min2_int max_two min_two max_three min_three max_four min_four   -- for this text's walks alone
set_option linter.unusedVariables false
set_option linter.unusedSimpArgs false

/-! ### laws_FnExtensions: function 12 -/
mutual
def laws_FnExtensions.j0 : Nat → List Int → List Int → Bool → List (List Int) → Bool → List (List Int) → Bool → List (List Int) → Bool → Bool → Bool → Option (Bool)
  | 0, _, _, _, _, _, _, _, _, _, _, _ => none
  | k + 1, x4, x5, x6, x7, x8, x9, x10, x11, x12, x15, x83 => if x83 = true then (if (x6 == x15) = true then (if (x8 == x15) = true then (if (x10 == x15) = true then (some (x12 == x15)) else (some false)) else (some false)) else (some false)) else (if (x7.length : Int) = 0 then (laws_FnExtensions.j1 k x4 x7 x9 x11 true) else (if (x9.length : Int) = 0 then (laws_FnExtensions.j1 k x4 x7 x9 x11 true) else (laws_FnExtensions.j1 k x4 x7 x9 x11 ((x5.length : Int) != (x4.length : Int)))))
def laws_FnExtensions.j1 : Nat → List Int → List (List Int) → List (List Int) → List (List Int) → Bool → Option (Bool)
  | 0, _, _, _, _, _ => none
  | k + 1, x4, x7, x9, x11, x116 => if x116 = true then (some false) else (laws_FnExtensions.l0 k x4 x7 x9 x11 0)
def laws_FnExtensions.l0 : Nat → List Int → List (List Int) → List (List Int) → List (List Int) → Int → Option (Bool)
  | 0, _, _, _, _, _ => none
  | k + 1, x4, x7, x9, x11, x16 => if x16 < (x7.length : Int) then (if 0 ≤ x16 then ((laws_rAll.f k (rd_L2 x7 x16) x4).bind fun t329 => (if t329 = true then (laws_FnExtensions.l0 k x4 x7 x9 x11 (wrap64 (x16 + 1))) else (some false))) else (none)) else (laws_FnExtensions.l1 k x4 x7 x9 x11 0)
def laws_FnExtensions.l1 : Nat → List Int → List (List Int) → List (List Int) → List (List Int) → Int → Option (Bool)
  | 0, _, _, _, _, _ => none
  | k + 1, x4, x7, x9, x11, x17 => if x17 < (x9.length : Int) then (if 0 ≤ x17 then ((laws_rMember.f k x7 (rd_L2 x9 x17)).bind fun t331 => (if t331 = true then (laws_FnExtensions.l1 k x4 x7 x9 x11 (wrap64 (x17 + 1))) else (some false))) else (none)) else (laws_FnExtensions.l2 k x4 x7 x9 x11 0)
def laws_FnExtensions.l2 : Nat → List Int → List (List Int) → List (List Int) → List (List Int) → Int → Option (Bool)
  | 0, _, _, _, _, _ => none
  | k + 1, x4, x7, x9, x11, x18 => if x18 < (x11.length : Int) then (if 0 ≤ x18 then ((laws_rMember.f k x9 (rd_L2 x11 x18)).bind fun t333 => (if t333 = true then (laws_FnExtensions.l2 k x4 x7 x9 x11 (wrap64 (x18 + 1))) else (some false))) else (none)) else ((laws_rMember.f k x7 x4).bind fun t334 => (some t334))
end
def laws_FnExtensions.f (k : Nat) (l0 : List Int) : Option (Bool) := (laws_vBig.f l0).bind fun t294 => (if t294 = true then (some true) else ((spec_DrawCompleteSets.f k l0).bind fun bt295 => ((impl_GroundedSet.f k bt295.1 bt295.2).bind fun bt300 => ((impl_CompleteSets.f k bt295.1 bt295.2).bind fun bt307 => ((impl_PreferredSets.f k bt295.1 bt295.2).bind fun bt311 => ((impl_StableSets.f k bt295.1 bt295.2).bind fun bt315 => ((spec_GroundedSet.f k bt295.1 bt295.2).bind fun bt319 => (if (bt300.2.2 != bt319.2.2) = true then (laws_FnExtensions.j0 k bt300.1 bt300.2.1 bt300.2.2 bt307.1 bt307.2 bt311.1 bt311.2 bt315.1 bt315.2 bt319.2.2 true) else (if (bt307.2 != bt319.2.2) = true then (laws_FnExtensions.j0 k bt300.1 bt300.2.1 bt300.2.2 bt307.1 bt307.2 bt311.1 bt311.2 bt315.1 bt315.2 bt319.2.2 true) else (if (bt311.2 != bt319.2.2) = true then (laws_FnExtensions.j0 k bt300.1 bt300.2.1 bt300.2.2 bt307.1 bt307.2 bt311.1 bt311.2 bt315.1 bt315.2 bt319.2.2 true) else (if (bt315.2 != bt319.2.2) = true then (laws_FnExtensions.j0 k bt300.1 bt300.2.1 bt300.2.2 bt307.1 bt307.2 bt311.1 bt311.2 bt315.1 bt315.2 bt319.2.2 true) else ((laws_vInts.f k bt300.1 bt319.1).bind fun t326 => (if t326 = true then ((laws_vInts.f k bt300.2.1 bt319.2.1).bind fun t327 => (if t327 = true then (laws_FnExtensions.j0 k bt300.1 bt300.2.1 bt300.2.2 bt307.1 bt307.2 bt311.1 bt311.2 bt315.1 bt315.2 bt319.2.2 (!bt300.2.2)) else (laws_FnExtensions.j0 k bt300.1 bt300.2.1 bt300.2.2 bt307.1 bt307.2 bt311.1 bt311.2 bt315.1 bt315.2 bt319.2.2 true))) else (laws_FnExtensions.j0 k bt300.1 bt300.2.1 bt300.2.2 bt307.1 bt307.2 bt311.1 bt311.2 bt315.1 bt315.2 bt319.2.2 true))))))))))))))
theorem laws_FnExtensions.mono_l : ∀ k, (∀ y0 y1 y2 y3 y4 y5 y6 y7 y8 y9 y10, LeO (laws_FnExtensions.j0 k y0 y1 y2 y3 y4 y5 y6 y7 y8 y9 y10) (laws_FnExtensions.j0 (k + 1) y0 y1 y2 y3 y4 y5 y6 y7 y8 y9 y10)) ∧ (∀ y0 y1 y2 y3 y4, LeO (laws_FnExtensions.j1 k y0 y1 y2 y3 y4) (laws_FnExtensions.j1 (k + 1) y0 y1 y2 y3 y4)) ∧ (∀ y0 y1 y2 y3 y4, LeO (laws_FnExtensions.l0 k y0 y1 y2 y3 y4) (laws_FnExtensions.l0 (k + 1) y0 y1 y2 y3 y4)) ∧ (∀ y0 y1 y2 y3 y4, LeO (laws_FnExtensions.l1 k y0 y1 y2 y3 y4) (laws_FnExtensions.l1 (k + 1) y0 y1 y2 y3 y4)) ∧ (∀ y0 y1 y2 y3 y4, LeO (laws_FnExtensions.l2 k y0 y1 y2 y3 y4) (laws_FnExtensions.l2 (k + 1) y0 y1 y2 y3 y4))
  | 0 => ⟨fun _ _ _ _ _ _ _ _ _ _ _ r h => by simp [laws_FnExtensions.j0] at h, fun _ _ _ _ _ r h => by simp [laws_FnExtensions.j1] at h, fun _ _ _ _ _ r h => by simp [laws_FnExtensions.l0] at h, fun _ _ _ _ _ r h => by simp [laws_FnExtensions.l1] at h, fun _ _ _ _ _ r h => by simp [laws_FnExtensions.l2] at h⟩
  | k + 1 => by
    obtain ⟨ih0, ih1, ih2, ih3, ih4⟩ := laws_FnExtensions.mono_l k
    refine ⟨?_, ?_, ?_, ?_, ?_⟩
    · intro y0 y1 y2 y3 y4 y5 y6 y7 y8 y9 y10
      unfold laws_FnExtensions.j0
      repeat' first
      | (with_reducible exact ih0 _ _ _ _ _ _ _ _ _ _ _)
      | (with_reducible exact ih1 _ _ _ _ _)
      | (with_reducible exact ih2 _ _ _ _ _)
      | (with_reducible exact ih3 _ _ _ _ _)
      | (with_reducible exact ih4 _ _ _ _ _)
      | (with_reducible exact impl_CompleteSets.mono _ _ _)
      | (with_reducible exact impl_GroundedSet.mono _ _ _)
      | (with_reducible exact impl_PreferredSets.mono _ _ _)
      | (with_reducible exact impl_StableSets.mono _ _ _)
      | (with_reducible exact laws_rAll.mono _ _ _)
      | (with_reducible exact laws_rMember.mono _ _ _)
      | (with_reducible exact laws_vInts.mono _ _ _)
      | (with_reducible exact spec_DrawCompleteSets.mono _ _)
      | (with_reducible exact spec_GroundedSet.mono _ _ _)
      | (with_reducible exact LeO.refl _)
      | (with_reducible exact LeO.none _)
      | (with_reducible refine LeO.ite ?_ ?_)
      | (with_reducible refine LeO.bind ?_ (fun _ => ?_))
      | exact ih0 _ _ _ _ _ _ _ _ _ _ _
      | exact ih1 _ _ _ _ _
      | exact ih2 _ _ _ _ _
      | exact ih3 _ _ _ _ _
      | exact ih4 _ _ _ _ _
      | exact impl_CompleteSets.mono _ _ _
      | exact impl_GroundedSet.mono _ _ _
      | exact impl_PreferredSets.mono _ _ _
      | exact impl_StableSets.mono _ _ _
      | exact laws_rAll.mono _ _ _
      | exact laws_rMember.mono _ _ _
      | exact laws_vInts.mono _ _ _
      | exact spec_DrawCompleteSets.mono _ _
      | exact spec_GroundedSet.mono _ _ _
      | exact LeO.none _
      | refine LeO.ite ?_ ?_
      | refine LeO.bind ?_ (fun _ => ?_)
    · intro y0 y1 y2 y3 y4
      unfold laws_FnExtensions.j1
      repeat' first
      | (with_reducible exact ih0 _ _ _ _ _ _ _ _ _ _ _)
      | (with_reducible exact ih1 _ _ _ _ _)
      | (with_reducible exact ih2 _ _ _ _ _)
      | (with_reducible exact ih3 _ _ _ _ _)
      | (with_reducible exact ih4 _ _ _ _ _)
      | (with_reducible exact impl_CompleteSets.mono _ _ _)
      | (with_reducible exact impl_GroundedSet.mono _ _ _)
      | (with_reducible exact impl_PreferredSets.mono _ _ _)
      | (with_reducible exact impl_StableSets.mono _ _ _)
      | (with_reducible exact laws_rAll.mono _ _ _)
      | (with_reducible exact laws_rMember.mono _ _ _)
      | (with_reducible exact laws_vInts.mono _ _ _)
      | (with_reducible exact spec_DrawCompleteSets.mono _ _)
      | (with_reducible exact spec_GroundedSet.mono _ _ _)
      | (with_reducible exact LeO.refl _)
      | (with_reducible exact LeO.none _)
      | (with_reducible refine LeO.ite ?_ ?_)
      | (with_reducible refine LeO.bind ?_ (fun _ => ?_))
      | exact ih0 _ _ _ _ _ _ _ _ _ _ _
      | exact ih1 _ _ _ _ _
      | exact ih2 _ _ _ _ _
      | exact ih3 _ _ _ _ _
      | exact ih4 _ _ _ _ _
      | exact impl_CompleteSets.mono _ _ _
      | exact impl_GroundedSet.mono _ _ _
      | exact impl_PreferredSets.mono _ _ _
      | exact impl_StableSets.mono _ _ _
      | exact laws_rAll.mono _ _ _
      | exact laws_rMember.mono _ _ _
      | exact laws_vInts.mono _ _ _
      | exact spec_DrawCompleteSets.mono _ _
      | exact spec_GroundedSet.mono _ _ _
      | exact LeO.none _
      | refine LeO.ite ?_ ?_
      | refine LeO.bind ?_ (fun _ => ?_)
    · intro y0 y1 y2 y3 y4
      unfold laws_FnExtensions.l0
      repeat' first
      | (with_reducible exact ih0 _ _ _ _ _ _ _ _ _ _ _)
      | (with_reducible exact ih1 _ _ _ _ _)
      | (with_reducible exact ih2 _ _ _ _ _)
      | (with_reducible exact ih3 _ _ _ _ _)
      | (with_reducible exact ih4 _ _ _ _ _)
      | (with_reducible exact impl_CompleteSets.mono _ _ _)
      | (with_reducible exact impl_GroundedSet.mono _ _ _)
      | (with_reducible exact impl_PreferredSets.mono _ _ _)
      | (with_reducible exact impl_StableSets.mono _ _ _)
      | (with_reducible exact laws_rAll.mono _ _ _)
      | (with_reducible exact laws_rMember.mono _ _ _)
      | (with_reducible exact laws_vInts.mono _ _ _)
      | (with_reducible exact spec_DrawCompleteSets.mono _ _)
      | (with_reducible exact spec_GroundedSet.mono _ _ _)
      | (with_reducible exact LeO.refl _)
      | (with_reducible exact LeO.none _)
      | (with_reducible refine LeO.ite ?_ ?_)
      | (with_reducible refine LeO.bind ?_ (fun _ => ?_))
      | exact ih0 _ _ _ _ _ _ _ _ _ _ _
      | exact ih1 _ _ _ _ _
      | exact ih2 _ _ _ _ _
      | exact ih3 _ _ _ _ _
      | exact ih4 _ _ _ _ _
      | exact impl_CompleteSets.mono _ _ _
      | exact impl_GroundedSet.mono _ _ _
      | exact impl_PreferredSets.mono _ _ _
      | exact impl_StableSets.mono _ _ _
      | exact laws_rAll.mono _ _ _
      | exact laws_rMember.mono _ _ _
      | exact laws_vInts.mono _ _ _
      | exact spec_DrawCompleteSets.mono _ _
      | exact spec_GroundedSet.mono _ _ _
      | exact LeO.none _
      | refine LeO.ite ?_ ?_
      | refine LeO.bind ?_ (fun _ => ?_)
    · intro y0 y1 y2 y3 y4
      unfold laws_FnExtensions.l1
      repeat' first
      | (with_reducible exact ih0 _ _ _ _ _ _ _ _ _ _ _)
      | (with_reducible exact ih1 _ _ _ _ _)
      | (with_reducible exact ih2 _ _ _ _ _)
      | (with_reducible exact ih3 _ _ _ _ _)
      | (with_reducible exact ih4 _ _ _ _ _)
      | (with_reducible exact impl_CompleteSets.mono _ _ _)
      | (with_reducible exact impl_GroundedSet.mono _ _ _)
      | (with_reducible exact impl_PreferredSets.mono _ _ _)
      | (with_reducible exact impl_StableSets.mono _ _ _)
      | (with_reducible exact laws_rAll.mono _ _ _)
      | (with_reducible exact laws_rMember.mono _ _ _)
      | (with_reducible exact laws_vInts.mono _ _ _)
      | (with_reducible exact spec_DrawCompleteSets.mono _ _)
      | (with_reducible exact spec_GroundedSet.mono _ _ _)
      | (with_reducible exact LeO.refl _)
      | (with_reducible exact LeO.none _)
      | (with_reducible refine LeO.ite ?_ ?_)
      | (with_reducible refine LeO.bind ?_ (fun _ => ?_))
      | exact ih0 _ _ _ _ _ _ _ _ _ _ _
      | exact ih1 _ _ _ _ _
      | exact ih2 _ _ _ _ _
      | exact ih3 _ _ _ _ _
      | exact ih4 _ _ _ _ _
      | exact impl_CompleteSets.mono _ _ _
      | exact impl_GroundedSet.mono _ _ _
      | exact impl_PreferredSets.mono _ _ _
      | exact impl_StableSets.mono _ _ _
      | exact laws_rAll.mono _ _ _
      | exact laws_rMember.mono _ _ _
      | exact laws_vInts.mono _ _ _
      | exact spec_DrawCompleteSets.mono _ _
      | exact spec_GroundedSet.mono _ _ _
      | exact LeO.none _
      | refine LeO.ite ?_ ?_
      | refine LeO.bind ?_ (fun _ => ?_)
    · intro y0 y1 y2 y3 y4
      unfold laws_FnExtensions.l2
      repeat' first
      | (with_reducible exact ih0 _ _ _ _ _ _ _ _ _ _ _)
      | (with_reducible exact ih1 _ _ _ _ _)
      | (with_reducible exact ih2 _ _ _ _ _)
      | (with_reducible exact ih3 _ _ _ _ _)
      | (with_reducible exact ih4 _ _ _ _ _)
      | (with_reducible exact impl_CompleteSets.mono _ _ _)
      | (with_reducible exact impl_GroundedSet.mono _ _ _)
      | (with_reducible exact impl_PreferredSets.mono _ _ _)
      | (with_reducible exact impl_StableSets.mono _ _ _)
      | (with_reducible exact laws_rAll.mono _ _ _)
      | (with_reducible exact laws_rMember.mono _ _ _)
      | (with_reducible exact laws_vInts.mono _ _ _)
      | (with_reducible exact spec_DrawCompleteSets.mono _ _)
      | (with_reducible exact spec_GroundedSet.mono _ _ _)
      | (with_reducible exact LeO.refl _)
      | (with_reducible exact LeO.none _)
      | (with_reducible refine LeO.ite ?_ ?_)
      | (with_reducible refine LeO.bind ?_ (fun _ => ?_))
      | exact ih0 _ _ _ _ _ _ _ _ _ _ _
      | exact ih1 _ _ _ _ _
      | exact ih2 _ _ _ _ _
      | exact ih3 _ _ _ _ _
      | exact ih4 _ _ _ _ _
      | exact impl_CompleteSets.mono _ _ _
      | exact impl_GroundedSet.mono _ _ _
      | exact impl_PreferredSets.mono _ _ _
      | exact impl_StableSets.mono _ _ _
      | exact laws_rAll.mono _ _ _
      | exact laws_rMember.mono _ _ _
      | exact laws_vInts.mono _ _ _
      | exact spec_DrawCompleteSets.mono _ _
      | exact spec_GroundedSet.mono _ _ _
      | exact LeO.none _
      | refine LeO.ite ?_ ?_
      | refine LeO.bind ?_ (fun _ => ?_)
theorem laws_FnExtensions.mono : ∀ a0 k, LeO (laws_FnExtensions.f k a0) (laws_FnExtensions.f (k + 1) a0) := by
  intro a0 k
  obtain ⟨ih0, ih1, ih2, ih3, ih4⟩ := laws_FnExtensions.mono_l k
  unfold laws_FnExtensions.f
  repeat' first
      | (with_reducible exact ih0 _ _ _ _ _ _ _ _ _ _ _)
      | (with_reducible exact ih1 _ _ _ _ _)
      | (with_reducible exact ih2 _ _ _ _ _)
      | (with_reducible exact ih3 _ _ _ _ _)
      | (with_reducible exact ih4 _ _ _ _ _)
      | (with_reducible exact impl_CompleteSets.mono _ _ _)
      | (with_reducible exact impl_GroundedSet.mono _ _ _)
      | (with_reducible exact impl_PreferredSets.mono _ _ _)
      | (with_reducible exact impl_StableSets.mono _ _ _)
      | (with_reducible exact laws_rAll.mono _ _ _)
      | (with_reducible exact laws_rMember.mono _ _ _)
      | (with_reducible exact laws_vInts.mono _ _ _)
      | (with_reducible exact spec_DrawCompleteSets.mono _ _)
      | (with_reducible exact spec_GroundedSet.mono _ _ _)
      | (with_reducible exact LeO.refl _)
      | (with_reducible exact LeO.none _)
      | (with_reducible refine LeO.ite ?_ ?_)
      | (with_reducible refine LeO.bind ?_ (fun _ => ?_))
      | exact ih0 _ _ _ _ _ _ _ _ _ _ _
      | exact ih1 _ _ _ _ _
      | exact ih2 _ _ _ _ _
      | exact ih3 _ _ _ _ _
      | exact ih4 _ _ _ _ _
      | exact impl_CompleteSets.mono _ _ _
      | exact impl_GroundedSet.mono _ _ _
      | exact impl_PreferredSets.mono _ _ _
      | exact impl_StableSets.mono _ _ _
      | exact laws_rAll.mono _ _ _
      | exact laws_rMember.mono _ _ _
      | exact laws_vInts.mono _ _ _
      | exact spec_DrawCompleteSets.mono _ _
      | exact spec_GroundedSet.mono _ _ _
      | exact LeO.none _
      | refine LeO.ite ?_ ?_
      | refine LeO.bind ?_ (fun _ => ?_)
set_option maxHeartbeats 8000000 in
set_option maxRecDepth 100000 in
theorem laws_FnExtensions.calls (k : Nat) (A0 : Option Addr) (c0 : Nat) (l0 : List Int) (r : Bool) (w : World) (hr0 : Kd.C (Kd.int .u8) w A0 l0.length l0) (hc0 : l0.length ≤ c0) (h : laws_FnExtensions.f k l0 = some r) :
    Calls Try.prog 12 #[.slice A0 l0.length c0] w fun e w' => e = .returned (.bool r) ∧ Below w.heap.size w w' := by
  have hu29 := Try.underlying29
  have HR0 := Aside0.mk hr0
  have HC0 := Aside0.mk hc0
  clear hr0 hc0
  have HB := Aside0.mk (Below.refl w.heap.size w)
  have H : ((laws_vBig.f l0).bind fun t294 => (if t294 = true then (some true) else ((spec_DrawCompleteSets.f k l0).bind fun bt295 => ((impl_GroundedSet.f k bt295.1 bt295.2).bind fun bt300 => ((impl_CompleteSets.f k bt295.1 bt295.2).bind fun bt307 => ((impl_PreferredSets.f k bt295.1 bt295.2).bind fun bt311 => ((impl_StableSets.f k bt295.1 bt295.2).bind fun bt315 => ((spec_GroundedSet.f k bt295.1 bt295.2).bind fun bt319 => (if (bt300.2.2 != bt319.2.2) = true then (laws_FnExtensions.j0 k bt300.1 bt300.2.1 bt300.2.2 bt307.1 bt307.2 bt311.1 bt311.2 bt315.1 bt315.2 bt319.2.2 true) else (if (bt307.2 != bt319.2.2) = true then (laws_FnExtensions.j0 k bt300.1 bt300.2.1 bt300.2.2 bt307.1 bt307.2 bt311.1 bt311.2 bt315.1 bt315.2 bt319.2.2 true) else (if (bt311.2 != bt319.2.2) = true then (laws_FnExtensions.j0 k bt300.1 bt300.2.1 bt300.2.2 bt307.1 bt307.2 bt311.1 bt311.2 bt315.1 bt315.2 bt319.2.2 true) else (if (bt315.2 != bt319.2.2) = true then (laws_FnExtensions.j0 k bt300.1 bt300.2.1 bt300.2.2 bt307.1 bt307.2 bt311.1 bt311.2 bt315.1 bt315.2 bt319.2.2 true) else ((laws_vInts.f k bt300.1 bt319.1).bind fun t326 => (if t326 = true then ((laws_vInts.f k bt300.2.1 bt319.2.1).bind fun t327 => (if t327 = true then (laws_FnExtensions.j0 k bt300.1 bt300.2.1 bt300.2.2 bt307.1 bt307.2 bt311.1 bt311.2 bt315.1 bt315.2 bt319.2.2 (!bt300.2.2)) else (laws_FnExtensions.j0 k bt300.1 bt300.2.1 bt300.2.2 bt307.1 bt307.2 bt311.1 bt311.2 bt315.1 bt315.2 bt319.2.2 true))) else (laws_FnExtensions.j0 k bt300.1 bt300.2.1 bt300.2.2 bt307.1 bt307.2 bt311.1 bt311.2 bt315.1 bt315.2 bt319.2.2 true))))))))))))))) = some r := h
  clear h
  replace H := Option.bind_eq_some_iff.mp H
  obtain ⟨t294, A20, H⟩ := H
  replace H : (if t294 = true then (some true) else ((spec_DrawCompleteSets.f k l0).bind fun bt295 => ((impl_GroundedSet.f k bt295.1 bt295.2).bind fun bt300 => ((impl_CompleteSets.f k bt295.1 bt295.2).bind fun bt307 => ((impl_PreferredSets.f k bt295.1 bt295.2).bind fun bt311 => ((impl_StableSets.f k bt295.1 bt295.2).bind fun bt315 => ((spec_GroundedSet.f k bt295.1 bt295.2).bind fun bt319 => (if (bt300.2.2 != bt319.2.2) = true then (laws_FnExtensions.j0 k bt300.1 bt300.2.1 bt300.2.2 bt307.1 bt307.2 bt311.1 bt311.2 bt315.1 bt315.2 bt319.2.2 true) else (if (bt307.2 != bt319.2.2) = true then (laws_FnExtensions.j0 k bt300.1 bt300.2.1 bt300.2.2 bt307.1 bt307.2 bt311.1 bt311.2 bt315.1 bt315.2 bt319.2.2 true) else (if (bt311.2 != bt319.2.2) = true then (laws_FnExtensions.j0 k bt300.1 bt300.2.1 bt300.2.2 bt307.1 bt307.2 bt311.1 bt311.2 bt315.1 bt315.2 bt319.2.2 true) else (if (bt315.2 != bt319.2.2) = true then (laws_FnExtensions.j0 k bt300.1 bt300.2.1 bt300.2.2 bt307.1 bt307.2 bt311.1 bt311.2 bt315.1 bt315.2 bt319.2.2 true) else ((laws_vInts.f k bt300.1 bt319.1).bind fun t326 => (if t326 = true then ((laws_vInts.f k bt300.2.1 bt319.2.1).bind fun t327 => (if t327 = true then (laws_FnExtensions.j0 k bt300.1 bt300.2.1 bt300.2.2 bt307.1 bt307.2 bt311.1 bt311.2 bt315.1 bt315.2 bt319.2.2 (!bt300.2.2)) else (laws_FnExtensions.j0 k bt300.1 bt300.2.1 bt300.2.2 bt307.1 bt307.2 bt311.1 bt311.2 bt315.1 bt315.2 bt319.2.2 true))) else (laws_FnExtensions.j0 k bt300.1 bt300.2.1 bt300.2.2 bt307.1 bt307.2 bt311.1 bt311.2 bt315.1 bt315.2 bt319.2.2 true)))))))))))))) = some r := H
  have A2 := Aside0.mk A20
  clear A20
  by_cases c3 : t294 = true
  · subst c3
    have H1 : (some true) = some r := by rw [if_pos rfl] at H; exact H
    clear H
    have H := H1
    clear H1
    obtain rfl := Option.some.inj H
    go_enter Try.func12, Try.ntmps12
    go_wp2_with (first | ((with_reducible refine gate_callee (f := 46) rfl ?_); refine goesL_ (some 20) rfl rfl Try.func46 (by kernel_rfl) rfl #[.slice A0 l0.length c0] rfl (by (try simp only [List.map_toArray, List.map_cons, List.map_nil]); first | done | rfl | (simp only [List.length_drop, List.length_take]; rfl)) ?_; (with_reducible refine (laws_vBig.calls _ _ l0 true _ ?side1 ?side2 A2.out).mono ?_); (case side1 => repeat (first | exact HR0.out | (with_reducible refine Kd.C_alloc ?_ _) | (with_reducible refine Kd.C_drewN ?_ _) | (with_reducible refine Kd.C_drew ?_))); (case side2 => exact HC0.out); rintro e w' ⟨rfl, ⟨nd, rfl⟩⟩; refine ⟨_, rfl, ?_⟩))
    go_ret
    exact ⟨by first | rfl | (simp [errW_none, errW_some] <;> rfl) | (simp [*, errW_none, errW_some] <;> rfl), by repeat (first | (with_reducible first | exact HB.out | apply below_alloc | apply pw_below_drewN | apply below_drew1) | exact HB.out)⟩
  · replace c3 := Bool.eq_false_iff.mpr c3
    subst c3
    have H1 : ((spec_DrawCompleteSets.f k l0).bind fun bt295 => ((impl_GroundedSet.f k bt295.1 bt295.2).bind fun bt300 => ((impl_CompleteSets.f k bt295.1 bt295.2).bind fun bt307 => ((impl_PreferredSets.f k bt295.1 bt295.2).bind fun bt311 => ((impl_StableSets.f k bt295.1 bt295.2).bind fun bt315 => ((spec_GroundedSet.f k bt295.1 bt295.2).bind fun bt319 => (if (bt300.2.2 != bt319.2.2) = true then (laws_FnExtensions.j0 k bt300.1 bt300.2.1 bt300.2.2 bt307.1 bt307.2 bt311.1 bt311.2 bt315.1 bt315.2 bt319.2.2 true) else (if (bt307.2 != bt319.2.2) = true then (laws_FnExtensions.j0 k bt300.1 bt300.2.1 bt300.2.2 bt307.1 bt307.2 bt311.1 bt311.2 bt315.1 bt315.2 bt319.2.2 true) else (if (bt311.2 != bt319.2.2) = true then (laws_FnExtensions.j0 k bt300.1 bt300.2.1 bt300.2.2 bt307.1 bt307.2 bt311.1 bt311.2 bt315.1 bt315.2 bt319.2.2 true) else (if (bt315.2 != bt319.2.2) = true then (laws_FnExtensions.j0 k bt300.1 bt300.2.1 bt300.2.2 bt307.1 bt307.2 bt311.1 bt311.2 bt315.1 bt315.2 bt319.2.2 true) else ((laws_vInts.f k bt300.1 bt319.1).bind fun t326 => (if t326 = true then ((laws_vInts.f k bt300.2.1 bt319.2.1).bind fun t327 => (if t327 = true then (laws_FnExtensions.j0 k bt300.1 bt300.2.1 bt300.2.2 bt307.1 bt307.2 bt311.1 bt311.2 bt315.1 bt315.2 bt319.2.2 (!bt300.2.2)) else (laws_FnExtensions.j0 k bt300.1 bt300.2.1 bt300.2.2 bt307.1 bt307.2 bt311.1 bt311.2 bt315.1 bt315.2 bt319.2.2 true))) else (laws_FnExtensions.j0 k bt300.1 bt300.2.1 bt300.2.2 bt307.1 bt307.2 bt311.1 bt311.2 bt315.1 bt315.2 bt319.2.2 true))))))))))))) = some r := by rw [if_neg (show ¬ (false = true) by decide)] at H; exact H
    clear H
    have H := H1
    clear H1
    replace H := Option.bind_eq_some_iff.mp H
    obtain ⟨⟨t295, t296⟩, A40, H⟩ := H
    replace H : ((impl_GroundedSet.f k t295 t296).bind fun bt300 => ((impl_CompleteSets.f k t295 t296).bind fun bt307 => ((impl_PreferredSets.f k t295 t296).bind fun bt311 => ((impl_StableSets.f k t295 t296).bind fun bt315 => ((spec_GroundedSet.f k t295 t296).bind fun bt319 => (if (bt300.2.2 != bt319.2.2) = true then (laws_FnExtensions.j0 k bt300.1 bt300.2.1 bt300.2.2 bt307.1 bt307.2 bt311.1 bt311.2 bt315.1 bt315.2 bt319.2.2 true) else (if (bt307.2 != bt319.2.2) = true then (laws_FnExtensions.j0 k bt300.1 bt300.2.1 bt300.2.2 bt307.1 bt307.2 bt311.1 bt311.2 bt315.1 bt315.2 bt319.2.2 true) else (if (bt311.2 != bt319.2.2) = true then (laws_FnExtensions.j0 k bt300.1 bt300.2.1 bt300.2.2 bt307.1 bt307.2 bt311.1 bt311.2 bt315.1 bt315.2 bt319.2.2 true) else (if (bt315.2 != bt319.2.2) = true then (laws_FnExtensions.j0 k bt300.1 bt300.2.1 bt300.2.2 bt307.1 bt307.2 bt311.1 bt311.2 bt315.1 bt315.2 bt319.2.2 true) else ((laws_vInts.f k bt300.1 bt319.1).bind fun t326 => (if t326 = true then ((laws_vInts.f k bt300.2.1 bt319.2.1).bind fun t327 => (if t327 = true then (laws_FnExtensions.j0 k bt300.1 bt300.2.1 bt300.2.2 bt307.1 bt307.2 bt311.1 bt311.2 bt315.1 bt315.2 bt319.2.2 (!bt300.2.2)) else (laws_FnExtensions.j0 k bt300.1 bt300.2.1 bt300.2.2 bt307.1 bt307.2 bt311.1 bt311.2 bt315.1 bt315.2 bt319.2.2 true))) else (laws_FnExtensions.j0 k bt300.1 bt300.2.1 bt300.2.2 bt307.1 bt307.2 bt311.1 bt311.2 bt315.1 bt315.2 bt319.2.2 true)))))))))))) = some r := H
    have A4 := Aside0.mk A40
    clear A40
    replace H := Option.bind_eq_some_iff.mp H
    obtain ⟨⟨t300, t303, t306⟩, A50, H⟩ := H
    replace H : ((impl_CompleteSets.f k t295 t296).bind fun bt307 => ((impl_PreferredSets.f k t295 t296).bind fun bt311 => ((impl_StableSets.f k t295 t296).bind fun bt315 => ((spec_GroundedSet.f k t295 t296).bind fun bt319 => (if (t306 != bt319.2.2) = true then (laws_FnExtensions.j0 k t300 t303 t306 bt307.1 bt307.2 bt311.1 bt311.2 bt315.1 bt315.2 bt319.2.2 true) else (if (bt307.2 != bt319.2.2) = true then (laws_FnExtensions.j0 k t300 t303 t306 bt307.1 bt307.2 bt311.1 bt311.2 bt315.1 bt315.2 bt319.2.2 true) else (if (bt311.2 != bt319.2.2) = true then (laws_FnExtensions.j0 k t300 t303 t306 bt307.1 bt307.2 bt311.1 bt311.2 bt315.1 bt315.2 bt319.2.2 true) else (if (bt315.2 != bt319.2.2) = true then (laws_FnExtensions.j0 k t300 t303 t306 bt307.1 bt307.2 bt311.1 bt311.2 bt315.1 bt315.2 bt319.2.2 true) else ((laws_vInts.f k t300 bt319.1).bind fun t326 => (if t326 = true then ((laws_vInts.f k t303 bt319.2.1).bind fun t327 => (if t327 = true then (laws_FnExtensions.j0 k t300 t303 t306 bt307.1 bt307.2 bt311.1 bt311.2 bt315.1 bt315.2 bt319.2.2 (!t306)) else (laws_FnExtensions.j0 k t300 t303 t306 bt307.1 bt307.2 bt311.1 bt311.2 bt315.1 bt315.2 bt319.2.2 true))) else (laws_FnExtensions.j0 k t300 t303 t306 bt307.1 bt307.2 bt311.1 bt311.2 bt315.1 bt315.2 bt319.2.2 true))))))))))) = some r := H
    have A5 := Aside0.mk A50
    clear A50
    replace H := Option.bind_eq_some_iff.mp H
    obtain ⟨⟨t307, t310⟩, A60, H⟩ := H
    replace H : ((impl_PreferredSets.f k t295 t296).bind fun bt311 => ((impl_StableSets.f k t295 t296).bind fun bt315 => ((spec_GroundedSet.f k t295 t296).bind fun bt319 => (if (t306 != bt319.2.2) = true then (laws_FnExtensions.j0 k t300 t303 t306 t307 t310 bt311.1 bt311.2 bt315.1 bt315.2 bt319.2.2 true) else (if (t310 != bt319.2.2) = true then (laws_FnExtensions.j0 k t300 t303 t306 t307 t310 bt311.1 bt311.2 bt315.1 bt315.2 bt319.2.2 true) else (if (bt311.2 != bt319.2.2) = true then (laws_FnExtensions.j0 k t300 t303 t306 t307 t310 bt311.1 bt311.2 bt315.1 bt315.2 bt319.2.2 true) else (if (bt315.2 != bt319.2.2) = true then (laws_FnExtensions.j0 k t300 t303 t306 t307 t310 bt311.1 bt311.2 bt315.1 bt315.2 bt319.2.2 true) else ((laws_vInts.f k t300 bt319.1).bind fun t326 => (if t326 = true then ((laws_vInts.f k t303 bt319.2.1).bind fun t327 => (if t327 = true then (laws_FnExtensions.j0 k t300 t303 t306 t307 t310 bt311.1 bt311.2 bt315.1 bt315.2 bt319.2.2 (!t306)) else (laws_FnExtensions.j0 k t300 t303 t306 t307 t310 bt311.1 bt311.2 bt315.1 bt315.2 bt319.2.2 true))) else (laws_FnExtensions.j0 k t300 t303 t306 t307 t310 bt311.1 bt311.2 bt315.1 bt315.2 bt319.2.2 true)))))))))) = some r := H
    have A6 := Aside0.mk A60
    clear A60
    replace H := Option.bind_eq_some_iff.mp H
    obtain ⟨⟨t311, t314⟩, A70, H⟩ := H
    replace H : ((impl_StableSets.f k t295 t296).bind fun bt315 => ((spec_GroundedSet.f k t295 t296).bind fun bt319 => (if (t306 != bt319.2.2) = true then (laws_FnExtensions.j0 k t300 t303 t306 t307 t310 t311 t314 bt315.1 bt315.2 bt319.2.2 true) else (if (t310 != bt319.2.2) = true then (laws_FnExtensions.j0 k t300 t303 t306 t307 t310 t311 t314 bt315.1 bt315.2 bt319.2.2 true) else (if (t314 != bt319.2.2) = true then (laws_FnExtensions.j0 k t300 t303 t306 t307 t310 t311 t314 bt315.1 bt315.2 bt319.2.2 true) else (if (bt315.2 != bt319.2.2) = true then (laws_FnExtensions.j0 k t300 t303 t306 t307 t310 t311 t314 bt315.1 bt315.2 bt319.2.2 true) else ((laws_vInts.f k t300 bt319.1).bind fun t326 => (if t326 = true then ((laws_vInts.f k t303 bt319.2.1).bind fun t327 => (if t327 = true then (laws_FnExtensions.j0 k t300 t303 t306 t307 t310 t311 t314 bt315.1 bt315.2 bt319.2.2 (!t306)) else (laws_FnExtensions.j0 k t300 t303 t306 t307 t310 t311 t314 bt315.1 bt315.2 bt319.2.2 true))) else (laws_FnExtensions.j0 k t300 t303 t306 t307 t310 t311 t314 bt315.1 bt315.2 bt319.2.2 true))))))))) = some r := H
    have A7 := Aside0.mk A70
    clear A70
    replace H := Option.bind_eq_some_iff.mp H
    obtain ⟨⟨t315, t318⟩, A80, H⟩ := H
    replace H : ((spec_GroundedSet.f k t295 t296).bind fun bt319 => (if (t306 != bt319.2.2) = true then (laws_FnExtensions.j0 k t300 t303 t306 t307 t310 t311 t314 t315 t318 bt319.2.2 true) else (if (t310 != bt319.2.2) = true then (laws_FnExtensions.j0 k t300 t303 t306 t307 t310 t311 t314 t315 t318 bt319.2.2 true) else (if (t314 != bt319.2.2) = true then (laws_FnExtensions.j0 k t300 t303 t306 t307 t310 t311 t314 t315 t318 bt319.2.2 true) else (if (t318 != bt319.2.2) = true then (laws_FnExtensions.j0 k t300 t303 t306 t307 t310 t311 t314 t315 t318 bt319.2.2 true) else ((laws_vInts.f k t300 bt319.1).bind fun t326 => (if t326 = true then ((laws_vInts.f k t303 bt319.2.1).bind fun t327 => (if t327 = true then (laws_FnExtensions.j0 k t300 t303 t306 t307 t310 t311 t314 t315 t318 bt319.2.2 (!t306)) else (laws_FnExtensions.j0 k t300 t303 t306 t307 t310 t311 t314 t315 t318 bt319.2.2 true))) else (laws_FnExtensions.j0 k t300 t303 t306 t307 t310 t311 t314 t315 t318 bt319.2.2 true)))))))) = some r := H
    have A8 := Aside0.mk A80
    clear A80
    replace H := Option.bind_eq_some_iff.mp H
    obtain ⟨⟨t319, t322, t325⟩, A90, H⟩ := H
    replace H : (if (t306 != t325) = true then (laws_FnExtensions.j0 k t300 t303 t306 t307 t310 t311 t314 t315 t318 t325 true) else (if (t310 != t325) = true then (laws_FnExtensions.j0 k t300 t303 t306 t307 t310 t311 t314 t315 t318 t325 true) else (if (t314 != t325) = true then (laws_FnExtensions.j0 k t300 t303 t306 t307 t310 t311 t314 t315 t318 t325 true) else (if (t318 != t325) = true then (laws_FnExtensions.j0 k t300 t303 t306 t307 t310 t311 t314 t315 t318 t325 true) else ((laws_vInts.f k t300 t319).bind fun t326 => (if t326 = true then ((laws_vInts.f k t303 t322).bind fun t327 => (if t327 = true then (laws_FnExtensions.j0 k t300 t303 t306 t307 t310 t311 t314 t315 t318 t325 (!t306)) else (laws_FnExtensions.j0 k t300 t303 t306 t307 t310 t311 t314 t315 t318 t325 true))) else (laws_FnExtensions.j0 k t300 t303 t306 t307 t310 t311 t314 t315 t318 t325 true))))))) = some r := H
    have A9 := Aside0.mk A90
    clear A90
    have HC10 := Aside0.mk H
    clear H
    go_enter Try.func12, Try.ntmps12
    go_upto_region 9 with (first | ((with_reducible refine gate_callee (f := 46) rfl ?_); refine goesL_ (some 20) rfl rfl Try.func46 (by kernel_rfl) rfl #[.slice A0 l0.length c0] rfl (by (try simp only [List.map_toArray, List.map_cons, List.map_nil]); first | done | rfl | (simp only [List.length_drop, List.length_take]; rfl)) ?_; (with_reducible refine (laws_vBig.calls _ _ l0 false _ ?side1 ?side2 A2.out).mono ?_); (case side1 => repeat (first | exact HR0.out | (with_reducible refine Kd.C_alloc ?_ _) | (with_reducible refine Kd.C_drewN ?_ _) | (with_reducible refine Kd.C_drew ?_))); (case side2 => exact HC0.out); rintro e w' ⟨rfl, ⟨nd, rfl⟩⟩; refine ⟨_, rfl, ?_⟩) | ((with_reducible refine gate_callee (f := 47) rfl ?_); refine goesL_ (some 22) rfl rfl Try.func47 (by kernel_rfl) rfl #[.slice A0 l0.length c0] rfl (by (try simp only [List.map_toArray, List.map_cons, List.map_nil]); first | done | rfl | (simp only [List.length_drop, List.length_take]; rfl)) ?_; (with_reducible refine (spec_DrawCompleteSets.calls k _ _ l0 t295 t296 _ ?side1 ?side2 A4.out).mono ?_); (case side1 => repeat (first | exact HR0.out | (with_reducible refine Kd.C_alloc ?_ _) | (with_reducible refine Kd.C_drewN ?_ _) | (with_reducible refine Kd.C_drew ?_))); (case side2 => exact HC0.out); rintro e w11 ⟨v297, rfl, ho0, hb⟩; refine ⟨_, rfl, ?_⟩; have n0_ := Aside0.mk (Kd.R_lower ho0 (below_size (by repeat (first | (with_reducible first | exact HB.out | apply below_alloc | apply pw_below_drewN | apply below_drew1) | exact HB.out)))); have n1_ := Aside0.mk (below_step (by repeat (first | (with_reducible first | exact HB.out | apply below_alloc | apply pw_below_drewN | apply below_drew1) | exact HB.out)) hb); clear HB; have HO298 := n0_; have HB := n1_; clear n0_ n1_; (try clear hb); (try clear hb2); (try clear hk); (try clear hi); (try clear ho0)) | ((with_reducible refine gate_dst (N := 3) rfl ?_); (try (refine gate_guard (by rfl) ?_; dsimp only)); refine box_event ?hg (N := 3) ?hd (cs := #[.int .i64 0, .slice none 0 0]) (t := 29) ?hr ?_; (case hd => rfl); (case hg => rfl); (case hr => first | (go_simp; done) | (go_simp; rfl)); intro gb299 hg w12 hbox hb; have n0_ := Aside0.mk (Kd.R_below (by (with_reducible repeat (first | apply Kd.R_alloc | apply Kd.R_drewN | apply Kd.R_drew)); exact HO298.out) hb); have n1_ := Aside0.mk (below_step (by repeat (first | (with_reducible first | exact HB.out | apply below_alloc | apply pw_below_drewN | apply below_drew1) | exact HB.out)) hb); have n2_ := Aside0.mk (hbox); have n3_ := Aside0.mk ((by rw [hg]; exact (below_size (by repeat (first | (with_reducible first | exact HB.out | apply below_alloc | apply pw_below_drewN | apply below_drew1) | exact HB.out))) : w.heap.size ≤ gb299)); have n4_ := Aside0.mk ((by rw [hg]; exact (below_size (by repeat (first | (with_reducible first | exact HB.out | apply below_alloc | apply pw_below_drewN | apply below_drew1) | exact HB.out))) : w.heap.size ≤ gb299)); clear HO298; clear HB; have HO298 := n0_; have HB := n1_; have BK299 := n2_; have GW299 := n3_; have GE299 := n4_; clear n0_ n1_ n2_ n3_ n4_; clear hb hbox hg; have hcz13_0 : w12.cell? ⟨gb299, 0, none⟩ = some (.int .i64 0) := (blk_cell BK299.out 0).trans rfl; have hcz13_1 : w12.cell? ⟨gb299, 1, none⟩ = some (.slice none 0 0) := (blk_cell BK299.out 1).trans rfl; have hfz13_0 := blk_frozen BK299.out 0; have hfz13_1 := blk_frozen BK299.out 1; obtain ⟨Ao14, co14, eo14⟩ := Kd.R_slice HO298.out; subst eo14) | ((with_reducible refine gate_callee (f := 41) rfl ?_); refine goesL_ (some 25) rfl rfl Try.func41 (by kernel_rfl) rfl #[.agg #[.int .i64 t295, .slice Ao14 t296.length co14]] rfl (by (try simp only [List.map_toArray, List.map_cons, List.map_nil]); first | done | rfl | (simp only [List.length_drop, List.length_take]; rfl)) ?_; (with_reducible refine (impl_GroundedSet.calls k t295 _ _ t296 t300 t303 t306 _ ?side1 ?side2 A5.out).mono ?_); (case side1 => refine (Kd.R_reads' (e := 65) (base := w.heap.size) (ok := fun k_ => True) (n := t296.length) (c := co14) ?_).2.2; exact (by (with_reducible repeat (first | apply Kd.R_alloc | apply Kd.R_drewN | apply Kd.R_drew)); exact (Kd.R_mono (Kd.R_far (p := ⟨gb299, 1, none⟩) (Kd.R_far (p := ⟨gb299, 0, none⟩) (Kd.R_types HO298.out BK299.out (by decide)) (fun _ hk => hk.2) (.int .i64 t295)) (fun _ hk => hk.2) (.slice Ao14 t296.length co14)) (fun _ h_ => h_.1)))); (case side2 => exact (Kd.R_reads' HO298.out).2.1); rintro e w15 ⟨v301, v304, rfl, ho0, ho1, hb⟩; refine ⟨_, rfl, ?_⟩; have n0_ := Aside0.mk (Kd.R_below (by (with_reducible repeat (first | apply Kd.R_alloc | apply Kd.R_drewN | apply Kd.R_drew)); exact (Kd.R_mono (Kd.R_far (p := ⟨gb299, 1, none⟩) (Kd.R_far (p := ⟨gb299, 0, none⟩) (Kd.R_types HO298.out BK299.out (by decide)) (fun _ hk => hk.2) (.int .i64 t295)) (fun _ hk => hk.2) (.slice Ao14 t296.length co14)) (fun _ h_ => h_.1))) hb); have n1_ := Aside0.mk (Kd.R_lower ho0 (below_size (by repeat (first | (with_reducible first | exact HB.out | apply below_alloc | apply pw_below_drewN | apply below_drew1 | refine below_set ?_ GE299.out) | exact HB.out)))); have n2_ := Aside0.mk (Kd.R_lower ho1 (below_size (by repeat (first | (with_reducible first | exact HB.out | apply below_alloc | apply pw_below_drewN | apply below_drew1 | refine below_set ?_ GE299.out) | exact HB.out)))); have n3_ := Aside0.mk (blk_below (g := gb299) (o := .cells #[.int .i64 t295, .slice Ao14 t296.length co14] 29 (0, 0)) (by (with_reducible repeat (first | refine blk_drewN ?_ _ | refine blk_drew ?_ | refine blk_alloc ?_ _)); refine blk_put (cs := #[.int .i64 t295, .slice none 0 0]) ?_ 1 _ rfl; (with_reducible repeat (first | refine blk_drewN ?_ _ | refine blk_drew ?_ | refine blk_alloc ?_ _)); refine blk_put (cs := #[.int .i64 0, .slice none 0 0]) ?_ 0 _ rfl; (with_reducible repeat (first | refine blk_drewN ?_ _ | refine blk_drew ?_ | refine blk_alloc ?_ _)); exact BK299.out) hb); have n4_ := Aside0.mk (below_step (by repeat (first | (with_reducible first | exact HB.out | apply below_alloc | apply pw_below_drewN | apply below_drew1 | refine below_set ?_ GE299.out) | exact HB.out)) hb); clear HO298; clear BK299; clear HB; have HO298 := n0_; have HO302 := n1_; have HO305 := n2_; have BK299 := n3_; have HB := n4_; clear n0_ n1_ n2_ n3_ n4_; (try clear hb); (try clear hb2); (try clear hk); (try clear hi); (try clear ho0); (try clear ho1); have hcz16_0 : w15.cell? ⟨gb299, 0, none⟩ = some (.int .i64 t295) := (blk_cell BK299.out 0).trans rfl; have hcz16_1 : w15.cell? ⟨gb299, 1, none⟩ = some (.slice Ao14 t296.length co14) := (blk_cell BK299.out 1).trans rfl; have hfz16_0 := blk_frozen BK299.out 0; have hfz16_1 := blk_frozen BK299.out 1) | ((with_reducible refine gate_callee (f := 45) rfl ?_); refine goesL_ (some 31) rfl rfl Try.func45 (by kernel_rfl) rfl #[.agg #[.int .i64 t295, .slice Ao14 t296.length co14]] rfl (by (try simp only [List.map_toArray, List.map_cons, List.map_nil]); first | done | rfl | (simp only [List.length_drop, List.length_take]; rfl)) ?_; (with_reducible refine (impl_CompleteSets.calls k t295 _ _ t296 t307 t310 _ ?side1 ?side2 A6.out).mono ?_); (case side1 => repeat (first | exact (Kd.R_reads' HO298.out).2.2 | (with_reducible refine Kd.C_alloc ?_ _) | (with_reducible refine Kd.C_drewN ?_ _) | (with_reducible refine Kd.C_drew ?_))); (case side2 => exact (Kd.R_reads' HO298.out).2.1); rintro e w17 ⟨v308, rfl, ho0, hb⟩; refine ⟨_, rfl, ?_⟩; have n0_ := Aside0.mk (Kd.R_below (by (with_reducible repeat (first | apply Kd.R_alloc | apply Kd.R_drewN | apply Kd.R_drew)); exact HO298.out) hb); have n1_ := Aside0.mk (Kd.R_below (by (with_reducible repeat (first | apply Kd.R_alloc | apply Kd.R_drewN | apply Kd.R_drew)); exact HO302.out) hb); have n2_ := Aside0.mk (Kd.R_below (by (with_reducible repeat (first | apply Kd.R_alloc | apply Kd.R_drewN | apply Kd.R_drew)); exact HO305.out) hb); have n3_ := Aside0.mk (Kd.S_lower (Kd.S_new' (Kd.S_new' ho0 (Kd.R_lt (by (with_reducible repeat (first | apply Kd.R_alloc | apply Kd.R_drewN | apply Kd.R_drew)); exact HO302.out))) (Kd.R_lt (by (with_reducible repeat (first | apply Kd.R_alloc | apply Kd.R_drewN | apply Kd.R_drew)); exact HO305.out))) (below_size (by repeat (first | (with_reducible first | exact HB.out | apply below_alloc | apply pw_below_drewN | apply below_drew1 | refine below_set ?_ GE299.out) | exact HB.out)))); have n4_ := Aside0.mk (blk_below (g := gb299) (o := .cells #[.int .i64 t295, .slice Ao14 t296.length co14] 29 (0, 0)) (by (with_reducible repeat (first | refine blk_drewN ?_ _ | refine blk_drew ?_ | refine blk_alloc ?_ _)); exact BK299.out) hb); have n5_ := Aside0.mk (below_step (by repeat (first | (with_reducible first | exact HB.out | apply below_alloc | apply pw_below_drewN | apply below_drew1 | refine below_set ?_ GE299.out) | exact HB.out)) hb); clear HO298; clear HO302; clear HO305; clear BK299; clear HB; have HO298 := n0_; have HO302 := n1_; have HO305 := n2_; have HO309 := n3_; have BK299 := n4_; have HB := n5_; clear n0_ n1_ n2_ n3_ n4_ n5_; (try clear hb); (try clear hb2); (try clear hk); (try clear hi); (try clear ho0); have hcz18_0 : w17.cell? ⟨gb299, 0, none⟩ = some (.int .i64 t295) := (blk_cell BK299.out 0).trans rfl; have hcz18_1 : w17.cell? ⟨gb299, 1, none⟩ = some (.slice Ao14 t296.length co14) := (blk_cell BK299.out 1).trans rfl; have hfz18_0 := blk_frozen BK299.out 0; have hfz18_1 := blk_frozen BK299.out 1) | ((with_reducible refine gate_callee (f := 48) rfl ?_); refine goesL_ (some 36) rfl rfl Try.func48 (by kernel_rfl) rfl #[.agg #[.int .i64 t295, .slice Ao14 t296.length co14]] rfl (by (try simp only [List.map_toArray, List.map_cons, List.map_nil]); first | done | rfl | (simp only [List.length_drop, List.length_take]; rfl)) ?_; (with_reducible refine (impl_PreferredSets.calls k t295 _ _ t296 t311 t314 _ ?side1 ?side2 A7.out).mono ?_); (case side1 => repeat (first | exact (Kd.R_reads' HO298.out).2.2 | (with_reducible refine Kd.C_alloc ?_ _) | (with_reducible refine Kd.C_drewN ?_ _) | (with_reducible refine Kd.C_drew ?_))); (case side2 => exact (Kd.R_reads' HO298.out).2.1); rintro e w19 ⟨v312, rfl, ho0, hb⟩; refine ⟨_, rfl, ?_⟩; have n0_ := Aside0.mk (Kd.R_below (by (with_reducible repeat (first | apply Kd.R_alloc | apply Kd.R_drewN | apply Kd.R_drew)); exact HO298.out) hb); have n1_ := Aside0.mk (Kd.R_below (by (with_reducible repeat (first | apply Kd.R_alloc | apply Kd.R_drewN | apply Kd.R_drew)); exact HO302.out) hb); have n2_ := Aside0.mk (Kd.R_below (by (with_reducible repeat (first | apply Kd.R_alloc | apply Kd.R_drewN | apply Kd.R_drew)); exact HO305.out) hb); have n3_ := Aside0.mk (Kd.S_elder' (by (with_reducible repeat (first | apply Kd.S_alloc | apply Kd.S_drewN | apply Kd.S_drew)); exact HO309.out) (Kd.S_base ho0) hb); have n4_ := Aside0.mk (Kd.S_lower (Kd.S_new' (Kd.S_new' (Kd.S_new' ho0 (Kd.R_lt (by (with_reducible repeat (first | apply Kd.R_alloc | apply Kd.R_drewN | apply Kd.R_drew)); exact HO302.out))) (Kd.R_lt (by (with_reducible repeat (first | apply Kd.R_alloc | apply Kd.R_drewN | apply Kd.R_drew)); exact HO305.out))) (Kd.S_lt (by (with_reducible repeat (first | apply Kd.S_alloc | apply Kd.S_drewN | apply Kd.S_drew)); exact HO309.out))) (below_size (by repeat (first | (with_reducible first | exact HB.out | apply below_alloc | apply pw_below_drewN | apply below_drew1 | refine below_set ?_ GE299.out) | exact HB.out)))); have n5_ := Aside0.mk (blk_below (g := gb299) (o := .cells #[.int .i64 t295, .slice Ao14 t296.length co14] 29 (0, 0)) (by (with_reducible repeat (first | refine blk_drewN ?_ _ | refine blk_drew ?_ | refine blk_alloc ?_ _)); exact BK299.out) hb); have n6_ := Aside0.mk (below_step (by repeat (first | (with_reducible first | exact HB.out | apply below_alloc | apply pw_below_drewN | apply below_drew1 | refine below_set ?_ GE299.out) | exact HB.out)) hb); clear HO298; clear HO302; clear HO305; clear HO309; clear BK299; clear HB; have HO298 := n0_; have HO302 := n1_; have HO305 := n2_; have HO309 := n3_; have HO313 := n4_; have BK299 := n5_; have HB := n6_; clear n0_ n1_ n2_ n3_ n4_ n5_ n6_; (try clear hb); (try clear hb2); (try clear hk); (try clear hi); (try clear ho0); have hcz20_0 : w19.cell? ⟨gb299, 0, none⟩ = some (.int .i64 t295) := (blk_cell BK299.out 0).trans rfl; have hcz20_1 : w19.cell? ⟨gb299, 1, none⟩ = some (.slice Ao14 t296.length co14) := (blk_cell BK299.out 1).trans rfl; have hfz20_0 := blk_frozen BK299.out 0; have hfz20_1 := blk_frozen BK299.out 1) | ((with_reducible refine gate_callee (f := 31) rfl ?_); refine goesL_ (some 41) rfl rfl Try.func31 (by kernel_rfl) rfl #[.agg #[.int .i64 t295, .slice Ao14 t296.length co14]] rfl (by (try simp only [List.map_toArray, List.map_cons, List.map_nil]); first | done | rfl | (simp only [List.length_drop, List.length_take]; rfl)) ?_; (with_reducible refine (impl_StableSets.calls k t295 _ _ t296 t315 t318 _ ?side1 ?side2 A8.out).mono ?_); (case side1 => repeat (first | exact (Kd.R_reads' HO298.out).2.2 | (with_reducible refine Kd.C_alloc ?_ _) | (with_reducible refine Kd.C_drewN ?_ _) | (with_reducible refine Kd.C_drew ?_))); (case side2 => exact (Kd.R_reads' HO298.out).2.1); rintro e w21 ⟨v316, rfl, ho0, hb⟩; refine ⟨_, rfl, ?_⟩; have n0_ := Aside0.mk (Kd.R_below (by (with_reducible repeat (first | apply Kd.R_alloc | apply Kd.R_drewN | apply Kd.R_drew)); exact HO298.out) hb); have n1_ := Aside0.mk (Kd.R_below (by (with_reducible repeat (first | apply Kd.R_alloc | apply Kd.R_drewN | apply Kd.R_drew)); exact HO302.out) hb); have n2_ := Aside0.mk (Kd.R_below (by (with_reducible repeat (first | apply Kd.R_alloc | apply Kd.R_drewN | apply Kd.R_drew)); exact HO305.out) hb); have n3_ := Aside0.mk (Kd.S_elder' (by (with_reducible repeat (first | apply Kd.S_alloc | apply Kd.S_drewN | apply Kd.S_drew)); exact HO309.out) (Kd.S_base ho0) hb); have n4_ := Aside0.mk (Kd.S_elder' (by (with_reducible repeat (first | apply Kd.S_alloc | apply Kd.S_drewN | apply Kd.S_drew)); exact HO313.out) (Kd.S_base ho0) hb); have n5_ := Aside0.mk (Kd.S_lower (Kd.S_new' (Kd.S_new' (Kd.S_new' (Kd.S_new' ho0 (Kd.R_lt (by (with_reducible repeat (first | apply Kd.R_alloc | apply Kd.R_drewN | apply Kd.R_drew)); exact HO302.out))) (Kd.R_lt (by (with_reducible repeat (first | apply Kd.R_alloc | apply Kd.R_drewN | apply Kd.R_drew)); exact HO305.out))) (Kd.S_lt (by (with_reducible repeat (first | apply Kd.S_alloc | apply Kd.S_drewN | apply Kd.S_drew)); exact HO309.out))) (Kd.S_lt (by (with_reducible repeat (first | apply Kd.S_alloc | apply Kd.S_drewN | apply Kd.S_drew)); exact HO313.out))) (below_size (by repeat (first | (with_reducible first | exact HB.out | apply below_alloc | apply pw_below_drewN | apply below_drew1 | refine below_set ?_ GE299.out) | exact HB.out)))); have n6_ := Aside0.mk (blk_below (g := gb299) (o := .cells #[.int .i64 t295, .slice Ao14 t296.length co14] 29 (0, 0)) (by (with_reducible repeat (first | refine blk_drewN ?_ _ | refine blk_drew ?_ | refine blk_alloc ?_ _)); exact BK299.out) hb); have n7_ := Aside0.mk (below_step (by repeat (first | (with_reducible first | exact HB.out | apply below_alloc | apply pw_below_drewN | apply below_drew1 | refine below_set ?_ GE299.out) | exact HB.out)) hb); clear HO298; clear HO302; clear HO305; clear HO309; clear HO313; clear BK299; clear HB; have HO298 := n0_; have HO302 := n1_; have HO305 := n2_; have HO309 := n3_; have HO313 := n4_; have HO317 := n5_; have BK299 := n6_; have HB := n7_; clear n0_ n1_ n2_ n3_ n4_ n5_ n6_ n7_; (try clear hb); (try clear hb2); (try clear hk); (try clear hi); (try clear ho0); have hcz22_0 : w21.cell? ⟨gb299, 0, none⟩ = some (.int .i64 t295) := (blk_cell BK299.out 0).trans rfl; have hcz22_1 : w21.cell? ⟨gb299, 1, none⟩ = some (.slice Ao14 t296.length co14) := (blk_cell BK299.out 1).trans rfl; have hfz22_0 := blk_frozen BK299.out 0; have hfz22_1 := blk_frozen BK299.out 1) | ((with_reducible refine gate_callee (f := 40) rfl ?_); refine goesL_ (some 46) rfl rfl Try.func40 (by kernel_rfl) rfl #[.agg #[.int .i64 t295, .slice Ao14 t296.length co14]] rfl (by (try simp only [List.map_toArray, List.map_cons, List.map_nil]); first | done | rfl | (simp only [List.length_drop, List.length_take]; rfl)) ?_; (with_reducible refine (spec_GroundedSet.calls k t295 _ _ t296 t319 t322 t325 _ ?side1 ?side2 A9.out).mono ?_); (case side1 => repeat (first | exact (Kd.R_reads' HO298.out).2.2 | (with_reducible refine Kd.C_alloc ?_ _) | (with_reducible refine Kd.C_drewN ?_ _) | (with_reducible refine Kd.C_drew ?_))); (case side2 => exact (Kd.R_reads' HO298.out).2.1); rintro e w23 ⟨v320, v323, rfl, ho0, ho1, hb⟩; refine ⟨_, rfl, ?_⟩; have n0_ := Aside0.mk (Kd.R_below (by (with_reducible repeat (first | apply Kd.R_alloc | apply Kd.R_drewN | apply Kd.R_drew)); exact HO298.out) hb); have n1_ := Aside0.mk (Kd.R_mono (Kd.R_told (Kd.R_told (Kd.R_old (by (with_reducible repeat (first | apply Kd.R_alloc | apply Kd.R_drewN | apply Kd.R_drew)); exact HO302.out) hb) (Kd.R_base ho0)) (Kd.R_base ho1)) (fun _ h_ => h_.1)); have n2_ := Aside0.mk (Kd.R_mono (Kd.R_told (Kd.R_told (Kd.R_old (by (with_reducible repeat (first | apply Kd.R_alloc | apply Kd.R_drewN | apply Kd.R_drew)); exact HO305.out) hb) (Kd.R_base ho0)) (Kd.R_base ho1)) (fun _ h_ => h_.1)); have n3_ := Aside0.mk (Kd.S_mono (Kd.S_told (Kd.S_told (Kd.S_old (by (with_reducible repeat (first | apply Kd.S_alloc | apply Kd.S_drewN | apply Kd.S_drew)); exact HO309.out) hb) (Kd.R_base ho0)) (Kd.R_base ho1)) (fun _ h_ => h_.1)); have n4_ := Aside0.mk (Kd.S_mono (Kd.S_told (Kd.S_told (Kd.S_old (by (with_reducible repeat (first | apply Kd.S_alloc | apply Kd.S_drewN | apply Kd.S_drew)); exact HO313.out) hb) (Kd.R_base ho0)) (Kd.R_base ho1)) (fun _ h_ => h_.1)); have n5_ := Aside0.mk (Kd.S_mono (Kd.S_told (Kd.S_told (Kd.S_old (by (with_reducible repeat (first | apply Kd.S_alloc | apply Kd.S_drewN | apply Kd.S_drew)); exact HO317.out) hb) (Kd.R_base ho0)) (Kd.R_base ho1)) (fun _ h_ => h_.1)); have n6_ := Aside0.mk (Kd.R_lower (Kd.R_new' (Kd.R_new' ho0 (Kd.R_lt (by (with_reducible repeat (first | apply Kd.R_alloc | apply Kd.R_drewN | apply Kd.R_drew)); exact HO302.out))) (Kd.R_lt (by (with_reducible repeat (first | apply Kd.R_alloc | apply Kd.R_drewN | apply Kd.R_drew)); exact HO305.out))) (below_size (by repeat (first | (with_reducible first | exact HB.out | apply below_alloc | apply pw_below_drewN | apply below_drew1 | refine below_set ?_ GE299.out) | exact HB.out)))); have n7_ := Aside0.mk (Kd.R_lower (Kd.R_new' (Kd.R_new' ho1 (Kd.R_lt (by (with_reducible repeat (first | apply Kd.R_alloc | apply Kd.R_drewN | apply Kd.R_drew)); exact HO302.out))) (Kd.R_lt (by (with_reducible repeat (first | apply Kd.R_alloc | apply Kd.R_drewN | apply Kd.R_drew)); exact HO305.out))) (below_size (by repeat (first | (with_reducible first | exact HB.out | apply below_alloc | apply pw_below_drewN | apply below_drew1 | refine below_set ?_ GE299.out) | exact HB.out)))); have n8_ := Aside0.mk (blk_below (g := gb299) (o := .cells #[.int .i64 t295, .slice Ao14 t296.length co14] 29 (0, 0)) (by (with_reducible repeat (first | refine blk_drewN ?_ _ | refine blk_drew ?_ | refine blk_alloc ?_ _)); exact BK299.out) hb); have n9_ := Aside0.mk (below_step (by repeat (first | (with_reducible first | exact HB.out | apply below_alloc | apply pw_below_drewN | apply below_drew1 | refine below_set ?_ GE299.out) | exact HB.out)) hb); clear HO298; clear HO302; clear HO305; clear HO309; clear HO313; clear HO317; clear BK299; clear HB; have HO298 := n0_; have HO302 := n1_; have HO305 := n2_; have HO309 := n3_; have HO313 := n4_; have HO317 := n5_; have HO321 := n6_; have HO324 := n7_; have BK299 := n8_; have HB := n9_; clear n0_ n1_ n2_ n3_ n4_ n5_ n6_ n7_ n8_ n9_; (try clear hb); (try clear hb2); (try clear hk); (try clear hi); (try clear ho0); (try clear ho1)))
    (try simp only [Act.put, List.setIfInBounds_toArray, List.set_cons_zero, List.set_cons_succ])
    go_cut [83] (fun v83 wc => ∃ (kq : Nat) (x83_9 : Bool), v83 = .bool x83_9 ∧ Aside0 (laws_FnExtensions.j0 kq t300 t303 t306 t307 t310 t311 t314 t315 t318 t325 x83_9 = some r) ∧ Aside0 (kq ≤ k) ∧ Aside0 (Kd.R (Kd.int .i64) 3 wc w.heap.size (fun k_ => some k_ ≠ (v304 : Value).ownBlock) v301 t300) ∧ Aside0 (Kd.R (Kd.int .i64) 3 wc w.heap.size (fun k_ => some k_ ≠ (v301 : Value).ownBlock) v304 t303) ∧ Aside0 (Kd.S (Kd.slice 3 (Kd.int .i64)) 33 wc w.heap.size (fun k_ => some k_ ≠ (v301 : Value).ownBlock ∧ some k_ ≠ (v304 : Value).ownBlock ∧ some k_ ≠ (v312 : Value).ownBlock ∧ some k_ ≠ (v316 : Value).ownBlock) v308 t307) ∧ Aside0 (Kd.S (Kd.slice 3 (Kd.int .i64)) 33 wc w.heap.size (fun k_ => some k_ ≠ (v301 : Value).ownBlock ∧ some k_ ≠ (v304 : Value).ownBlock ∧ some k_ ≠ (v308 : Value).ownBlock ∧ some k_ ≠ (v316 : Value).ownBlock) v312 t311) ∧ Aside0 (Kd.S (Kd.slice 3 (Kd.int .i64)) 33 wc w.heap.size (fun k_ => some k_ ≠ (v301 : Value).ownBlock ∧ some k_ ≠ (v304 : Value).ownBlock ∧ some k_ ≠ (v308 : Value).ownBlock ∧ some k_ ≠ (v312 : Value).ownBlock) v316 t315) ∧ Aside0 (Kd.R k65 65 wc w.heap.size (fun _ => True) (.slice Ao14 t296.length co14) t296) ∧ Aside0 (wc.heap[gb299]? = some (.cells #[.int .i64 t295, (.slice Ao14 t296.length co14)] 29 (0, 0))) ∧ Aside0 (Below w.heap.size w wc))
    case first =>
      have H := HC10.out
      clear HC10
      by_cases c24 : (t306 != t325) = true
      · rw [if_pos c24] at H
        have c24b0 : (t306 != t325) = true := c24
        (try (have c24b1 : decide (t306 = t325) = false := by simpa using c24))
        (try (have c24b2 : (t306 == t325) = false := by simpa using c24))
        (try (have c24b3 : ¬ (t306 = t325) := by simpa using c24))
        clear c24
        (first | rw [c24b0] | (simp only [i64_w, i32_w]; rw [c24b0]) | skip)
        have H' := Aside0.mk H
        clear H
        go_wp2
        go_meet
        case rel => exact ⟨_, (true), (by first | rfl | (simp; done) | (simp [*]; done)), H', ⟨by first | omega | exact Nat.le_refl _⟩, ⟨by (with_reducible repeat (first | apply Kd.R_alloc | apply Kd.R_drewN | apply Kd.R_drew)); exact Kd.R_mono HO302.out (fun _ hk => hk.1.1)⟩, ⟨by (with_reducible repeat (first | apply Kd.R_alloc | apply Kd.R_drewN | apply Kd.R_drew)); exact Kd.R_mono HO305.out (fun _ hk => hk.1.1)⟩, ⟨by (with_reducible repeat (first | apply Kd.S_alloc | apply Kd.S_drewN | apply Kd.S_drew)); exact Kd.S_mono HO309.out (fun _ hk => ⟨hk.1.1.1.1.1.2, ⟨hk.1.1.1.1.2, ⟨hk.1.1.1.2, hk.1.1.2⟩⟩⟩)⟩, ⟨by (with_reducible repeat (first | apply Kd.S_alloc | apply Kd.S_drewN | apply Kd.S_drew)); exact Kd.S_mono HO313.out (fun _ hk => ⟨hk.1.1.1.1.1.2, ⟨hk.1.1.1.1.2, ⟨hk.1.1.1.2, hk.1.1.2⟩⟩⟩)⟩, ⟨by (with_reducible repeat (first | apply Kd.S_alloc | apply Kd.S_drewN | apply Kd.S_drew)); exact Kd.S_mono HO317.out (fun _ hk => ⟨hk.1.1.1.1.1.2, ⟨hk.1.1.1.1.2, ⟨hk.1.1.1.2, hk.1.1.2⟩⟩⟩)⟩, ⟨by (with_reducible repeat (first | apply Kd.R_alloc | apply Kd.R_drewN | apply Kd.R_drew)); exact HO298.out⟩, ⟨by (with_reducible repeat (first | refine blk_drewN ?_ _ | refine blk_drew ?_ | refine blk_alloc ?_ _)); exact BK299.out⟩, ⟨by repeat (first | (with_reducible first | exact HB.out | apply below_alloc | apply pw_below_drewN | apply below_drew1 | refine below_set ?_ GE299.out) | exact HB.out)⟩⟩
      · rw [if_neg c24] at H
        have c24b0 : (t306 != t325) = false := by simpa using c24
        (try (have c24b1 : decide (t306 = t325) = true := by simpa using c24))
        (try (have c24b2 : (t306 == t325) = true := by simpa using c24))
        clear c24
        (first | rw [c24b0] | (simp only [i64_w, i32_w]; rw [c24b0]) | skip)
        by_cases c25 : (t310 != t325) = true
        · rw [if_pos c25] at H
          have c25b0 : (t310 != t325) = true := c25
          (try (have c25b1 : decide (t310 = t325) = false := by simpa using c25))
          (try (have c25b2 : (t310 == t325) = false := by simpa using c25))
          (try (have c25b3 : ¬ (t310 = t325) := by simpa using c25))
          clear c25
          have H' := Aside0.mk H
          clear H
          go_wp2
          go_meet
          case rel => exact ⟨_, (true), (by first | rfl | (simp; done) | (simp [*]; done)), H', ⟨by first | omega | exact Nat.le_refl _⟩, ⟨by (with_reducible repeat (first | apply Kd.R_alloc | apply Kd.R_drewN | apply Kd.R_drew)); exact Kd.R_mono HO302.out (fun _ hk => hk.1.1)⟩, ⟨by (with_reducible repeat (first | apply Kd.R_alloc | apply Kd.R_drewN | apply Kd.R_drew)); exact Kd.R_mono HO305.out (fun _ hk => hk.1.1)⟩, ⟨by (with_reducible repeat (first | apply Kd.S_alloc | apply Kd.S_drewN | apply Kd.S_drew)); exact Kd.S_mono HO309.out (fun _ hk => ⟨hk.1.1.1.1.1.2, ⟨hk.1.1.1.1.2, ⟨hk.1.1.1.2, hk.1.1.2⟩⟩⟩)⟩, ⟨by (with_reducible repeat (first | apply Kd.S_alloc | apply Kd.S_drewN | apply Kd.S_drew)); exact Kd.S_mono HO313.out (fun _ hk => ⟨hk.1.1.1.1.1.2, ⟨hk.1.1.1.1.2, ⟨hk.1.1.1.2, hk.1.1.2⟩⟩⟩)⟩, ⟨by (with_reducible repeat (first | apply Kd.S_alloc | apply Kd.S_drewN | apply Kd.S_drew)); exact Kd.S_mono HO317.out (fun _ hk => ⟨hk.1.1.1.1.1.2, ⟨hk.1.1.1.1.2, ⟨hk.1.1.1.2, hk.1.1.2⟩⟩⟩)⟩, ⟨by (with_reducible repeat (first | apply Kd.R_alloc | apply Kd.R_drewN | apply Kd.R_drew)); exact HO298.out⟩, ⟨by (with_reducible repeat (first | refine blk_drewN ?_ _ | refine blk_drew ?_ | refine blk_alloc ?_ _)); exact BK299.out⟩, ⟨by repeat (first | (with_reducible first | exact HB.out | apply below_alloc | apply pw_below_drewN | apply below_drew1 | refine below_set ?_ GE299.out) | exact HB.out)⟩⟩
        · rw [if_neg c25] at H
          have c25b0 : (t310 != t325) = false := by simpa using c25
          (try (have c25b1 : decide (t310 = t325) = true := by simpa using c25))
          (try (have c25b2 : (t310 == t325) = true := by simpa using c25))
          clear c25
          by_cases c26 : (t314 != t325) = true
          · rw [if_pos c26] at H
            have c26b0 : (t314 != t325) = true := c26
            (try (have c26b1 : decide (t314 = t325) = false := by simpa using c26))
            (try (have c26b2 : (t314 == t325) = false := by simpa using c26))
            (try (have c26b3 : ¬ (t314 = t325) := by simpa using c26))
            clear c26
            have H' := Aside0.mk H
            clear H
            go_wp2
            go_meet
            case rel => exact ⟨_, (true), (by first | rfl | (simp; done) | (simp [*]; done)), H', ⟨by first | omega | exact Nat.le_refl _⟩, ⟨by (with_reducible repeat (first | apply Kd.R_alloc | apply Kd.R_drewN | apply Kd.R_drew)); exact Kd.R_mono HO302.out (fun _ hk => hk.1.1)⟩, ⟨by (with_reducible repeat (first | apply Kd.R_alloc | apply Kd.R_drewN | apply Kd.R_drew)); exact Kd.R_mono HO305.out (fun _ hk => hk.1.1)⟩, ⟨by (with_reducible repeat (first | apply Kd.S_alloc | apply Kd.S_drewN | apply Kd.S_drew)); exact Kd.S_mono HO309.out (fun _ hk => ⟨hk.1.1.1.1.1.2, ⟨hk.1.1.1.1.2, ⟨hk.1.1.1.2, hk.1.1.2⟩⟩⟩)⟩, ⟨by (with_reducible repeat (first | apply Kd.S_alloc | apply Kd.S_drewN | apply Kd.S_drew)); exact Kd.S_mono HO313.out (fun _ hk => ⟨hk.1.1.1.1.1.2, ⟨hk.1.1.1.1.2, ⟨hk.1.1.1.2, hk.1.1.2⟩⟩⟩)⟩, ⟨by (with_reducible repeat (first | apply Kd.S_alloc | apply Kd.S_drewN | apply Kd.S_drew)); exact Kd.S_mono HO317.out (fun _ hk => ⟨hk.1.1.1.1.1.2, ⟨hk.1.1.1.1.2, ⟨hk.1.1.1.2, hk.1.1.2⟩⟩⟩)⟩, ⟨by (with_reducible repeat (first | apply Kd.R_alloc | apply Kd.R_drewN | apply Kd.R_drew)); exact HO298.out⟩, ⟨by (with_reducible repeat (first | refine blk_drewN ?_ _ | refine blk_drew ?_ | refine blk_alloc ?_ _)); exact BK299.out⟩, ⟨by repeat (first | (with_reducible first | exact HB.out | apply below_alloc | apply pw_below_drewN | apply below_drew1 | refine below_set ?_ GE299.out) | exact HB.out)⟩⟩
          · rw [if_neg c26] at H
            have c26b0 : (t314 != t325) = false := by simpa using c26
            (try (have c26b1 : decide (t314 = t325) = true := by simpa using c26))
            (try (have c26b2 : (t314 == t325) = true := by simpa using c26))
            clear c26
            by_cases c27 : (t318 != t325) = true
            · rw [if_pos c27] at H
              have c27b0 : (t318 != t325) = true := c27
              (try (have c27b1 : decide (t318 = t325) = false := by simpa using c27))
              (try (have c27b2 : (t318 == t325) = false := by simpa using c27))
              (try (have c27b3 : ¬ (t318 = t325) := by simpa using c27))
              clear c27
              have H' := Aside0.mk H
              clear H
              go_wp2
              go_meet
              case rel => exact ⟨_, (true), (by first | rfl | (simp; done) | (simp [*]; done)), H', ⟨by first | omega | exact Nat.le_refl _⟩, ⟨by (with_reducible repeat (first | apply Kd.R_alloc | apply Kd.R_drewN | apply Kd.R_drew)); exact Kd.R_mono HO302.out (fun _ hk => hk.1.1)⟩, ⟨by (with_reducible repeat (first | apply Kd.R_alloc | apply Kd.R_drewN | apply Kd.R_drew)); exact Kd.R_mono HO305.out (fun _ hk => hk.1.1)⟩, ⟨by (with_reducible repeat (first | apply Kd.S_alloc | apply Kd.S_drewN | apply Kd.S_drew)); exact Kd.S_mono HO309.out (fun _ hk => ⟨hk.1.1.1.1.1.2, ⟨hk.1.1.1.1.2, ⟨hk.1.1.1.2, hk.1.1.2⟩⟩⟩)⟩, ⟨by (with_reducible repeat (first | apply Kd.S_alloc | apply Kd.S_drewN | apply Kd.S_drew)); exact Kd.S_mono HO313.out (fun _ hk => ⟨hk.1.1.1.1.1.2, ⟨hk.1.1.1.1.2, ⟨hk.1.1.1.2, hk.1.1.2⟩⟩⟩)⟩, ⟨by (with_reducible repeat (first | apply Kd.S_alloc | apply Kd.S_drewN | apply Kd.S_drew)); exact Kd.S_mono HO317.out (fun _ hk => ⟨hk.1.1.1.1.1.2, ⟨hk.1.1.1.1.2, ⟨hk.1.1.1.2, hk.1.1.2⟩⟩⟩)⟩, ⟨by (with_reducible repeat (first | apply Kd.R_alloc | apply Kd.R_drewN | apply Kd.R_drew)); exact HO298.out⟩, ⟨by (with_reducible repeat (first | refine blk_drewN ?_ _ | refine blk_drew ?_ | refine blk_alloc ?_ _)); exact BK299.out⟩, ⟨by repeat (first | (with_reducible first | exact HB.out | apply below_alloc | apply pw_below_drewN | apply below_drew1 | refine below_set ?_ GE299.out) | exact HB.out)⟩⟩
            · rw [if_neg c27] at H
              have c27b0 : (t318 != t325) = false := by simpa using c27
              (try (have c27b1 : decide (t318 = t325) = true := by simpa using c27))
              (try (have c27b2 : (t318 == t325) = true := by simpa using c27))
              clear c27
              replace H := Option.bind_eq_some_iff.mp H
              obtain ⟨t326, A280, H⟩ := H
              replace H : (if t326 = true then ((laws_vInts.f k t303 t322).bind fun t327 => (if t327 = true then (laws_FnExtensions.j0 k t300 t303 t306 t307 t310 t311 t314 t315 t318 t325 (!t306)) else (laws_FnExtensions.j0 k t300 t303 t306 t307 t310 t311 t314 t315 t318 t325 true))) else (laws_FnExtensions.j0 k t300 t303 t306 t307 t310 t311 t314 t315 t318 t325 true)) = some r := H
              have A28 := Aside0.mk A280
              clear A280
              by_cases c29 : t326 = true
              · subst c29
                have H1 : ((laws_vInts.f k t303 t322).bind fun t327 => (if t327 = true then (laws_FnExtensions.j0 k t300 t303 t306 t307 t310 t311 t314 t315 t318 t325 (!t306)) else (laws_FnExtensions.j0 k t300 t303 t306 t307 t310 t311 t314 t315 t318 t325 true))) = some r := by rw [if_pos rfl] at H; exact H
                clear H
                have H := H1
                clear H1
                replace H := Option.bind_eq_some_iff.mp H
                obtain ⟨t327, A300, H⟩ := H
                replace H : (if t327 = true then (laws_FnExtensions.j0 k t300 t303 t306 t307 t310 t311 t314 t315 t318 t325 (!t306)) else (laws_FnExtensions.j0 k t300 t303 t306 t307 t310 t311 t314 t315 t318 t325 true)) = some r := H
                have A30 := Aside0.mk A300
                clear A300
                by_cases c31 : t327 = true
                · subst c31
                  have H1 : (laws_FnExtensions.j0 k t300 t303 t306 t307 t310 t311 t314 t315 t318 t325 (!t306)) = some r := by rw [if_pos rfl] at H; exact H
                  clear H
                  have H := H1
                  clear H1
                  have H' := Aside0.mk H
                  clear H
                  obtain ⟨Ao32, co32, eo32⟩ := Kd.R_slice HO302.out
                  subst eo32
                  obtain ⟨Ao33, co33, eo33⟩ := Kd.R_slice HO321.out
                  subst eo33
                  go_wp2_with (first | (go_at_call 49; (with_reducible refine (laws_vInts.calls k _ _ t300 _ _ t319 true _ ?side1 ?side2 ?side3 ?side4 A28.out).mono ?_); (case side1 => repeat (first | exact (Kd.R_reads' HO302.out).2.2 | (with_reducible refine Kd.C_alloc ?_ _) | (with_reducible refine Kd.C_drewN ?_ _) | (with_reducible refine Kd.C_drew ?_))); (case side2 => exact (Kd.R_reads' HO302.out).2.1); (case side3 => repeat (first | exact (Kd.R_reads' HO321.out).2.2 | (with_reducible refine Kd.C_alloc ?_ _) | (with_reducible refine Kd.C_drewN ?_ _) | (with_reducible refine Kd.C_drew ?_))); (case side4 => exact (Kd.R_reads' HO321.out).2.1); rintro e w' ⟨rfl, ⟨nd, rfl⟩⟩; obtain ⟨Ao34, co34, eo34⟩ := Kd.R_slice HO305.out; subst eo34; obtain ⟨Ao35, co35, eo35⟩ := Kd.R_slice HO324.out; subst eo35) | (go_at_call 49; (with_reducible refine (laws_vInts.calls k _ _ t303 _ _ t322 true _ ?side1 ?side2 ?side3 ?side4 A30.out).mono ?_); (case side1 => repeat (first | exact (Kd.R_reads' HO305.out).2.2 | (with_reducible refine Kd.C_alloc ?_ _) | (with_reducible refine Kd.C_drewN ?_ _) | (with_reducible refine Kd.C_drew ?_))); (case side2 => exact (Kd.R_reads' HO305.out).2.1); (case side3 => repeat (first | exact (Kd.R_reads' HO324.out).2.2 | (with_reducible refine Kd.C_alloc ?_ _) | (with_reducible refine Kd.C_drewN ?_ _) | (with_reducible refine Kd.C_drew ?_))); (case side4 => exact (Kd.R_reads' HO324.out).2.1); rintro e w' ⟨rfl, ⟨nd, rfl⟩⟩))
                  go_meet
                  case rel => exact ⟨_, (!t306), (by first | rfl | (simp; done) | (simp [*]; done)), H', ⟨by first | omega | exact Nat.le_refl _⟩, ⟨by (with_reducible repeat (first | apply Kd.R_alloc | apply Kd.R_drewN | apply Kd.R_drew)); exact Kd.R_mono HO302.out (fun _ hk => hk.1.1)⟩, ⟨by (with_reducible repeat (first | apply Kd.R_alloc | apply Kd.R_drewN | apply Kd.R_drew)); exact Kd.R_mono HO305.out (fun _ hk => hk.1.1)⟩, ⟨by (with_reducible repeat (first | apply Kd.S_alloc | apply Kd.S_drewN | apply Kd.S_drew)); exact Kd.S_mono HO309.out (fun _ hk => ⟨hk.1.1.1.1.1.2, ⟨hk.1.1.1.1.2, ⟨hk.1.1.1.2, hk.1.1.2⟩⟩⟩)⟩, ⟨by (with_reducible repeat (first | apply Kd.S_alloc | apply Kd.S_drewN | apply Kd.S_drew)); exact Kd.S_mono HO313.out (fun _ hk => ⟨hk.1.1.1.1.1.2, ⟨hk.1.1.1.1.2, ⟨hk.1.1.1.2, hk.1.1.2⟩⟩⟩)⟩, ⟨by (with_reducible repeat (first | apply Kd.S_alloc | apply Kd.S_drewN | apply Kd.S_drew)); exact Kd.S_mono HO317.out (fun _ hk => ⟨hk.1.1.1.1.1.2, ⟨hk.1.1.1.1.2, ⟨hk.1.1.1.2, hk.1.1.2⟩⟩⟩)⟩, ⟨by (with_reducible repeat (first | apply Kd.R_alloc | apply Kd.R_drewN | apply Kd.R_drew)); exact HO298.out⟩, ⟨by (with_reducible repeat (first | refine blk_drewN ?_ _ | refine blk_drew ?_ | refine blk_alloc ?_ _)); exact BK299.out⟩, ⟨by repeat (first | (with_reducible first | exact HB.out | apply below_alloc | apply pw_below_drewN | apply below_drew1 | refine below_set ?_ GE299.out) | exact HB.out)⟩⟩
                · replace c31 := Bool.eq_false_iff.mpr c31
                  subst c31
                  have H1 : (laws_FnExtensions.j0 k t300 t303 t306 t307 t310 t311 t314 t315 t318 t325 true) = some r := by rw [if_neg (show ¬ (false = true) by decide)] at H; exact H
                  clear H
                  have H := H1
                  clear H1
                  have H' := Aside0.mk H
                  clear H
                  obtain ⟨Ao36, co36, eo36⟩ := Kd.R_slice HO302.out
                  subst eo36
                  obtain ⟨Ao37, co37, eo37⟩ := Kd.R_slice HO321.out
                  subst eo37
                  go_wp2_with (first | (go_at_call 49; (with_reducible refine (laws_vInts.calls k _ _ t300 _ _ t319 true _ ?side1 ?side2 ?side3 ?side4 A28.out).mono ?_); (case side1 => repeat (first | exact (Kd.R_reads' HO302.out).2.2 | (with_reducible refine Kd.C_alloc ?_ _) | (with_reducible refine Kd.C_drewN ?_ _) | (with_reducible refine Kd.C_drew ?_))); (case side2 => exact (Kd.R_reads' HO302.out).2.1); (case side3 => repeat (first | exact (Kd.R_reads' HO321.out).2.2 | (with_reducible refine Kd.C_alloc ?_ _) | (with_reducible refine Kd.C_drewN ?_ _) | (with_reducible refine Kd.C_drew ?_))); (case side4 => exact (Kd.R_reads' HO321.out).2.1); rintro e w' ⟨rfl, ⟨nd, rfl⟩⟩; obtain ⟨Ao38, co38, eo38⟩ := Kd.R_slice HO305.out; subst eo38; obtain ⟨Ao39, co39, eo39⟩ := Kd.R_slice HO324.out; subst eo39) | (go_at_call 49; (with_reducible refine (laws_vInts.calls k _ _ t303 _ _ t322 false _ ?side1 ?side2 ?side3 ?side4 A30.out).mono ?_); (case side1 => repeat (first | exact (Kd.R_reads' HO305.out).2.2 | (with_reducible refine Kd.C_alloc ?_ _) | (with_reducible refine Kd.C_drewN ?_ _) | (with_reducible refine Kd.C_drew ?_))); (case side2 => exact (Kd.R_reads' HO305.out).2.1); (case side3 => repeat (first | exact (Kd.R_reads' HO324.out).2.2 | (with_reducible refine Kd.C_alloc ?_ _) | (with_reducible refine Kd.C_drewN ?_ _) | (with_reducible refine Kd.C_drew ?_))); (case side4 => exact (Kd.R_reads' HO324.out).2.1); rintro e w' ⟨rfl, ⟨nd, rfl⟩⟩))
                  go_meet
                  case rel => exact ⟨_, (true), (by first | rfl | (simp; done) | (simp [*]; done)), H', ⟨by first | omega | exact Nat.le_refl _⟩, ⟨by (with_reducible repeat (first | apply Kd.R_alloc | apply Kd.R_drewN | apply Kd.R_drew)); exact Kd.R_mono HO302.out (fun _ hk => hk.1.1)⟩, ⟨by (with_reducible repeat (first | apply Kd.R_alloc | apply Kd.R_drewN | apply Kd.R_drew)); exact Kd.R_mono HO305.out (fun _ hk => hk.1.1)⟩, ⟨by (with_reducible repeat (first | apply Kd.S_alloc | apply Kd.S_drewN | apply Kd.S_drew)); exact Kd.S_mono HO309.out (fun _ hk => ⟨hk.1.1.1.1.1.2, ⟨hk.1.1.1.1.2, ⟨hk.1.1.1.2, hk.1.1.2⟩⟩⟩)⟩, ⟨by (with_reducible repeat (first | apply Kd.S_alloc | apply Kd.S_drewN | apply Kd.S_drew)); exact Kd.S_mono HO313.out (fun _ hk => ⟨hk.1.1.1.1.1.2, ⟨hk.1.1.1.1.2, ⟨hk.1.1.1.2, hk.1.1.2⟩⟩⟩)⟩, ⟨by (with_reducible repeat (first | apply Kd.S_alloc | apply Kd.S_drewN | apply Kd.S_drew)); exact Kd.S_mono HO317.out (fun _ hk => ⟨hk.1.1.1.1.1.2, ⟨hk.1.1.1.1.2, ⟨hk.1.1.1.2, hk.1.1.2⟩⟩⟩)⟩, ⟨by (with_reducible repeat (first | apply Kd.R_alloc | apply Kd.R_drewN | apply Kd.R_drew)); exact HO298.out⟩, ⟨by (with_reducible repeat (first | refine blk_drewN ?_ _ | refine blk_drew ?_ | refine blk_alloc ?_ _)); exact BK299.out⟩, ⟨by repeat (first | (with_reducible first | exact HB.out | apply below_alloc | apply pw_below_drewN | apply below_drew1 | refine below_set ?_ GE299.out) | exact HB.out)⟩⟩
              · replace c29 := Bool.eq_false_iff.mpr c29
                subst c29
                have H1 : (laws_FnExtensions.j0 k t300 t303 t306 t307 t310 t311 t314 t315 t318 t325 true) = some r := by rw [if_neg (show ¬ (false = true) by decide)] at H; exact H
                clear H
                have H := H1
                clear H1
                have H' := Aside0.mk H
                clear H
                obtain ⟨Ao40, co40, eo40⟩ := Kd.R_slice HO302.out
                subst eo40
                obtain ⟨Ao41, co41, eo41⟩ := Kd.R_slice HO321.out
                subst eo41
                go_wp2_with (first | (go_at_call 49; (with_reducible refine (laws_vInts.calls k _ _ t300 _ _ t319 false _ ?side1 ?side2 ?side3 ?side4 A28.out).mono ?_); (case side1 => repeat (first | exact (Kd.R_reads' HO302.out).2.2 | (with_reducible refine Kd.C_alloc ?_ _) | (with_reducible refine Kd.C_drewN ?_ _) | (with_reducible refine Kd.C_drew ?_))); (case side2 => exact (Kd.R_reads' HO302.out).2.1); (case side3 => repeat (first | exact (Kd.R_reads' HO321.out).2.2 | (with_reducible refine Kd.C_alloc ?_ _) | (with_reducible refine Kd.C_drewN ?_ _) | (with_reducible refine Kd.C_drew ?_))); (case side4 => exact (Kd.R_reads' HO321.out).2.1); rintro e w' ⟨rfl, ⟨nd, rfl⟩⟩))
                go_meet
                case rel => exact ⟨_, (true), (by first | rfl | (simp; done) | (simp [*]; done)), H', ⟨by first | omega | exact Nat.le_refl _⟩, ⟨by (with_reducible repeat (first | apply Kd.R_alloc | apply Kd.R_drewN | apply Kd.R_drew)); exact Kd.R_mono HO302.out (fun _ hk => hk.1.1)⟩, ⟨by (with_reducible repeat (first | apply Kd.R_alloc | apply Kd.R_drewN | apply Kd.R_drew)); exact Kd.R_mono HO305.out (fun _ hk => hk.1.1)⟩, ⟨by (with_reducible repeat (first | apply Kd.S_alloc | apply Kd.S_drewN | apply Kd.S_drew)); exact Kd.S_mono HO309.out (fun _ hk => ⟨hk.1.1.1.1.1.2, ⟨hk.1.1.1.1.2, ⟨hk.1.1.1.2, hk.1.1.2⟩⟩⟩)⟩, ⟨by (with_reducible repeat (first | apply Kd.S_alloc | apply Kd.S_drewN | apply Kd.S_drew)); exact Kd.S_mono HO313.out (fun _ hk => ⟨hk.1.1.1.1.1.2, ⟨hk.1.1.1.1.2, ⟨hk.1.1.1.2, hk.1.1.2⟩⟩⟩)⟩, ⟨by (with_reducible repeat (first | apply Kd.S_alloc | apply Kd.S_drewN | apply Kd.S_drew)); exact Kd.S_mono HO317.out (fun _ hk => ⟨hk.1.1.1.1.1.2, ⟨hk.1.1.1.1.2, ⟨hk.1.1.1.2, hk.1.1.2⟩⟩⟩)⟩, ⟨by (with_reducible repeat (first | apply Kd.R_alloc | apply Kd.R_drewN | apply Kd.R_drew)); exact HO298.out⟩, ⟨by (with_reducible repeat (first | refine blk_drewN ?_ _ | refine blk_drew ?_ | refine blk_alloc ?_ _)); exact BK299.out⟩, ⟨by repeat (first | (with_reducible first | exact HB.out | apply below_alloc | apply pw_below_drewN | apply below_drew1 | refine below_set ?_ GE299.out) | exact HB.out)⟩⟩
    case rest =>
      clear HC10
      try clear c1
      try clear c2
      try clear p2
      try clear c3
      try clear c4
      try clear c12
      try clear c24
      try clear c24b0
      try clear c24b1
      try clear c24b2
      try clear c25
      try clear c25b0
      try clear c25b1
      try clear c25b2
      try clear c26
      try clear c26b0
      try clear c26b1
      try clear c26b2
      try clear c27
      try clear c27b0
      try clear c27b1
      try clear c27b2
      try clear c29
      try clear c31
      try clear c40
      try clear c41
      try clear hcz13_0
      try clear hcz13_1
      try clear hcz16_0
      try clear hcz16_1
      try clear hcz18_0
      try clear hcz18_1
      try clear hcz20_0
      try clear hcz20_1
      try clear hcz22_0
      try clear hcz22_1
      try clear hfz13_0
      try clear hfz13_1
      try clear hfz16_0
      try clear hfz16_1
      try clear hfz18_0
      try clear hfz18_1
      try clear hfz20_0
      try clear hfz20_1
      try clear hfz22_0
      try clear hfz22_1
      obtain ⟨kq, x83_9, rfl, HA, HJ9, HO_4, HO_5, HO_7, HO_9, HO_11, HO_300001, BK299, HB⟩ := hcut
      cases kq with
      | zero => exact absurd HA.out (by simp [laws_FnExtensions.j0])
      | succ kj9 =>
        have H := HA.out
        clear HA
        simp only [laws_FnExtensions.j0] at H
        by_cases c42 : x83_9 = true
        · subst c42
          have H1 : (if (t306 == t325) = true then (if (t310 == t325) = true then (if (t314 == t325) = true then (some (t318 == t325)) else (some false)) else (some false)) else (some false)) = some r := by rw [if_pos rfl] at H; exact H
          clear H
          have H := H1
          clear H1
          by_cases c43 : (t306 == t325) = true
          · rw [if_pos c43] at H
            have c43b0 : (t306 == t325) = true := c43
            (try (have c43b1 : decide (t306 = t325) = true := by simpa using c43))
            (try (have c43b2 : (t306 == t325) = true := by simpa using c43))
            clear c43
            by_cases c44 : (t310 == t325) = true
            · rw [if_pos c44] at H
              have c44b0 : (t310 == t325) = true := c44
              (try (have c44b1 : decide (t310 = t325) = true := by simpa using c44))
              (try (have c44b2 : (t310 == t325) = true := by simpa using c44))
              clear c44
              by_cases c45 : (t314 == t325) = true
              · rw [if_pos c45] at H
                have c45b0 : (t314 == t325) = true := c45
                (try (have c45b1 : decide (t314 = t325) = true := by simpa using c45))
                (try (have c45b2 : (t314 == t325) = true := by simpa using c45))
                clear c45
                obtain rfl := Option.some.inj H
                go_wp2
                go_ret
                exact ⟨by first | rfl | (simp [errW_none, errW_some] <;> rfl) | (simp [*, errW_none, errW_some] <;> rfl), by repeat (first | (with_reducible first | exact HB.out | apply below_alloc | apply pw_below_drewN | apply below_drew1 | refine below_set ?_ GE299.out) | exact HB.out)⟩
              · rw [if_neg c45] at H
                have c45b0 : (t314 == t325) = false := by simpa using c45
                (try (have c45b1 : decide (t314 = t325) = false := by simpa using c45))
                (try (have c45b2 : (t314 == t325) = false := by simpa using c45))
                (try (have c45b3 : ¬ (t314 = t325) := by simpa using c45))
                clear c45
                obtain rfl := Option.some.inj H
                go_wp2
                go_ret
                exact ⟨by first | rfl | (simp [errW_none, errW_some] <;> rfl) | (simp [*, errW_none, errW_some] <;> rfl), by repeat (first | (with_reducible first | exact HB.out | apply below_alloc | apply pw_below_drewN | apply below_drew1 | refine below_set ?_ GE299.out) | exact HB.out)⟩
            · rw [if_neg c44] at H
              have c44b0 : (t310 == t325) = false := by simpa using c44
              (try (have c44b1 : decide (t310 = t325) = false := by simpa using c44))
              (try (have c44b2 : (t310 == t325) = false := by simpa using c44))
              (try (have c44b3 : ¬ (t310 = t325) := by simpa using c44))
              clear c44
              obtain rfl := Option.some.inj H
              go_wp2
              go_ret
              exact ⟨by first | rfl | (simp [errW_none, errW_some] <;> rfl) | (simp [*, errW_none, errW_some] <;> rfl), by repeat (first | (with_reducible first | exact HB.out | apply below_alloc | apply pw_below_drewN | apply below_drew1 | refine below_set ?_ GE299.out) | exact HB.out)⟩
          · rw [if_neg c43] at H
            have c43b0 : (t306 == t325) = false := by simpa using c43
            (try (have c43b1 : decide (t306 = t325) = false := by simpa using c43))
            (try (have c43b2 : (t306 == t325) = false := by simpa using c43))
            (try (have c43b3 : ¬ (t306 = t325) := by simpa using c43))
            clear c43
            obtain rfl := Option.some.inj H
            go_wp2
            go_ret
            exact ⟨by first | rfl | (simp [errW_none, errW_some] <;> rfl) | (simp [*, errW_none, errW_some] <;> rfl), by repeat (first | (with_reducible first | exact HB.out | apply below_alloc | apply pw_below_drewN | apply below_drew1 | refine below_set ?_ GE299.out) | exact HB.out)⟩
        · replace c42 := Bool.eq_false_iff.mpr c42
          subst c42
          have H1 : (if (t307.length : Int) = 0 then (laws_FnExtensions.j1 kj9 t300 t307 t311 t315 true) else (if (t311.length : Int) = 0 then (laws_FnExtensions.j1 kj9 t300 t307 t311 t315 true) else (laws_FnExtensions.j1 kj9 t300 t307 t311 t315 ((t303.length : Int) != (t300.length : Int))))) = some r := by rw [if_neg (show ¬ (false = true) by decide)] at H; exact H
          clear H
          have H := H1
          clear H1
          have HC46 := Aside0.mk H
          clear H
          go_upto_region 11 with (fail)
          go_cut [116] (fun v116 wc => ∃ (kq : Nat) (x116_45 : Bool), v116 = .bool x116_45 ∧ Aside0 (laws_FnExtensions.j1 kq t300 t307 t311 t315 x116_45 = some r) ∧ Aside0 (kq ≤ kj9) ∧ Aside0 (Kd.R (Kd.int .i64) 3 wc w.heap.size (fun _ => True) v301 t300) ∧ Aside0 (Kd.S (Kd.slice 3 (Kd.int .i64)) 33 wc w.heap.size (fun k_ => some k_ ≠ (v301 : Value).ownBlock ∧ some k_ ≠ (v312 : Value).ownBlock ∧ some k_ ≠ (v316 : Value).ownBlock) v308 t307) ∧ Aside0 (Kd.S (Kd.slice 3 (Kd.int .i64)) 33 wc w.heap.size (fun k_ => some k_ ≠ (v301 : Value).ownBlock ∧ some k_ ≠ (v308 : Value).ownBlock ∧ some k_ ≠ (v316 : Value).ownBlock) v312 t311) ∧ Aside0 (Kd.S (Kd.slice 3 (Kd.int .i64)) 33 wc w.heap.size (fun k_ => some k_ ≠ (v301 : Value).ownBlock ∧ some k_ ≠ (v308 : Value).ownBlock ∧ some k_ ≠ (v312 : Value).ownBlock) v316 t315) ∧ Aside0 (Kd.R k65 65 wc w.heap.size (fun _ => True) (.slice Ao14 t296.length co14) t296) ∧ Aside0 (wc.heap[gb299]? = some (.cells #[.int .i64 t295, (.slice Ao14 t296.length co14)] 29 (0, 0))) ∧ Aside0 (Below w.heap.size w wc))
          case first =>
            have H := HC46.out
            clear HC46
            by_cases c47 : (t307.length : Int) = 0
            · rw [if_pos c47] at H
              have c47b0 : ((t307.length : Int) == 0) = true := beq_iff_eq.mpr c47
              have c47b1 : ((t307.length : Int) != 0) = false := bne_eq_false_iff_eq.mpr c47
              clear c47
              (first | rw [c47b0] | (simp only [i64_w, i32_w]; rw [c47b0]) | skip)
              have H' := Aside0.mk H
              clear H
              obtain ⟨Ao48, co48, eo48⟩ := Kd.S_slice HO_7.out
              subst eo48
              go_wp2
              go_meet
              case rel => exact ⟨_, (true), (by first | rfl | (simp; done) | (simp [*]; done)), H', ⟨by have := HJ9.out; first | omega | exact Nat.le_refl _⟩, ⟨by (with_reducible repeat (first | apply Kd.R_alloc | apply Kd.R_drewN | apply Kd.R_drew)); exact Kd.R_mono HO_4.out (fun _ hk => trivial)⟩, ⟨by (with_reducible repeat (first | apply Kd.S_alloc | apply Kd.S_drewN | apply Kd.S_drew)); exact Kd.S_mono HO_7.out (fun _ hk => ⟨hk.1, ⟨hk.2.2.1, hk.2.2.2⟩⟩)⟩, ⟨by (with_reducible repeat (first | apply Kd.S_alloc | apply Kd.S_drewN | apply Kd.S_drew)); exact Kd.S_mono HO_9.out (fun _ hk => ⟨hk.1, ⟨hk.2.2.1, hk.2.2.2⟩⟩)⟩, ⟨by (with_reducible repeat (first | apply Kd.S_alloc | apply Kd.S_drewN | apply Kd.S_drew)); exact Kd.S_mono HO_11.out (fun _ hk => ⟨hk.1, ⟨hk.2.2.1, hk.2.2.2⟩⟩)⟩, ⟨by (with_reducible repeat (first | apply Kd.R_alloc | apply Kd.R_drewN | apply Kd.R_drew)); exact HO_300001.out⟩, ⟨by (with_reducible repeat (first | refine blk_drewN ?_ _ | refine blk_drew ?_ | refine blk_alloc ?_ _)); exact BK299.out⟩, ⟨by repeat (first | (with_reducible first | exact HB.out | apply below_alloc | apply pw_below_drewN | apply below_drew1 | refine below_set ?_ GE299.out) | exact HB.out)⟩⟩
            · rw [if_neg c47] at H
              have c47b0 : ((t307.length : Int) == 0) = false := beq_eq_false_iff_ne.mpr c47
              have c47b1 : ((t307.length : Int) != 0) = true := bne_iff_ne.mpr c47
              have c47b2 : ¬ (t307 = []) := fun h_ => c47 (by rw [h_]; rfl)
              (first | rw [c47b0] | (simp only [i64_w, i32_w]; rw [c47b0]) | skip)
              by_cases c49 : (t311.length : Int) = 0
              · rw [if_pos c49] at H
                have c49b0 : ((t311.length : Int) == 0) = true := beq_iff_eq.mpr c49
                have c49b1 : ((t311.length : Int) != 0) = false := bne_eq_false_iff_eq.mpr c49
                clear c49
                have H' := Aside0.mk H
                clear H
                obtain ⟨Ao50, co50, eo50⟩ := Kd.S_slice HO_7.out
                subst eo50
                obtain ⟨Ao51, co51, eo51⟩ := Kd.S_slice HO_9.out
                subst eo51
                go_wp2
                go_meet
                case rel => exact ⟨_, (true), (by first | rfl | (simp; done) | (simp [*]; done)), H', ⟨by have := HJ9.out; first | omega | exact Nat.le_refl _⟩, ⟨by (with_reducible repeat (first | apply Kd.R_alloc | apply Kd.R_drewN | apply Kd.R_drew)); exact Kd.R_mono HO_4.out (fun _ hk => trivial)⟩, ⟨by (with_reducible repeat (first | apply Kd.S_alloc | apply Kd.S_drewN | apply Kd.S_drew)); exact Kd.S_mono HO_7.out (fun _ hk => ⟨hk.1, ⟨hk.2.2.1, hk.2.2.2⟩⟩)⟩, ⟨by (with_reducible repeat (first | apply Kd.S_alloc | apply Kd.S_drewN | apply Kd.S_drew)); exact Kd.S_mono HO_9.out (fun _ hk => ⟨hk.1, ⟨hk.2.2.1, hk.2.2.2⟩⟩)⟩, ⟨by (with_reducible repeat (first | apply Kd.S_alloc | apply Kd.S_drewN | apply Kd.S_drew)); exact Kd.S_mono HO_11.out (fun _ hk => ⟨hk.1, ⟨hk.2.2.1, hk.2.2.2⟩⟩)⟩, ⟨by (with_reducible repeat (first | apply Kd.R_alloc | apply Kd.R_drewN | apply Kd.R_drew)); exact HO_300001.out⟩, ⟨by (with_reducible repeat (first | refine blk_drewN ?_ _ | refine blk_drew ?_ | refine blk_alloc ?_ _)); exact BK299.out⟩, ⟨by repeat (first | (with_reducible first | exact HB.out | apply below_alloc | apply pw_below_drewN | apply below_drew1 | refine below_set ?_ GE299.out) | exact HB.out)⟩⟩
              · rw [if_neg c49] at H
                have c49b0 : ((t311.length : Int) == 0) = false := beq_eq_false_iff_ne.mpr c49
                have c49b1 : ((t311.length : Int) != 0) = true := bne_iff_ne.mpr c49
                have c49b2 : ¬ (t311 = []) := fun h_ => c49 (by rw [h_]; rfl)
                have H' := Aside0.mk H
                clear H
                obtain ⟨Ao52, co52, eo52⟩ := Kd.S_slice HO_7.out
                subst eo52
                obtain ⟨Ao53, co53, eo53⟩ := Kd.S_slice HO_9.out
                subst eo53
                obtain ⟨Ao54, co54, eo54⟩ := Kd.R_slice HO_5.out
                subst eo54
                obtain ⟨Ao55, co55, eo55⟩ := Kd.R_slice HO_4.out
                subst eo55
                go_wp2
                go_meet
                case rel => exact ⟨_, (((t303.length : Int) != (t300.length : Int))), (by first | rfl | (simp; done) | (simp [*]; done)), H', ⟨by have := HJ9.out; first | omega | exact Nat.le_refl _⟩, ⟨by (with_reducible repeat (first | apply Kd.R_alloc | apply Kd.R_drewN | apply Kd.R_drew)); exact Kd.R_mono HO_4.out (fun _ hk => trivial)⟩, ⟨by (with_reducible repeat (first | apply Kd.S_alloc | apply Kd.S_drewN | apply Kd.S_drew)); exact Kd.S_mono HO_7.out (fun _ hk => ⟨hk.1, ⟨hk.2.2.1, hk.2.2.2⟩⟩)⟩, ⟨by (with_reducible repeat (first | apply Kd.S_alloc | apply Kd.S_drewN | apply Kd.S_drew)); exact Kd.S_mono HO_9.out (fun _ hk => ⟨hk.1, ⟨hk.2.2.1, hk.2.2.2⟩⟩)⟩, ⟨by (with_reducible repeat (first | apply Kd.S_alloc | apply Kd.S_drewN | apply Kd.S_drew)); exact Kd.S_mono HO_11.out (fun _ hk => ⟨hk.1, ⟨hk.2.2.1, hk.2.2.2⟩⟩)⟩, ⟨by (with_reducible repeat (first | apply Kd.R_alloc | apply Kd.R_drewN | apply Kd.R_drew)); exact HO_300001.out⟩, ⟨by (with_reducible repeat (first | refine blk_drewN ?_ _ | refine blk_drew ?_ | refine blk_alloc ?_ _)); exact BK299.out⟩, ⟨by repeat (first | (with_reducible first | exact HB.out | apply below_alloc | apply pw_below_drewN | apply below_drew1 | refine below_set ?_ GE299.out) | exact HB.out)⟩⟩
          case rest =>
            clear HC46
            try clear c1
            try clear c2
            try clear p2
            try clear c3
            try clear c4
            try clear c12
            try clear c24
            try clear c24b0
            try clear c24b1
            try clear c24b2
            try clear c25
            try clear c25b0
            try clear c25b1
            try clear c25b2
            try clear c26
            try clear c26b0
            try clear c26b1
            try clear c26b2
            try clear c27
            try clear c27b0
            try clear c27b1
            try clear c27b2
            try clear c29
            try clear c31
            try clear c40
            try clear c41
            try clear c42
            try clear c43
            try clear c43b0
            try clear c43b1
            try clear c43b2
            try clear c44
            try clear c44b0
            try clear c44b1
            try clear c44b2
            try clear c45
            try clear c45b0
            try clear c45b1
            try clear c45b2
            try clear c46
            try clear c47
            try clear c47b0
            try clear c47b1
            try clear c47b2
            try clear c48
            try clear c49
            try clear c49b0
            try clear c49b1
            try clear c49b2
            try clear hcz13_0
            try clear hcz13_1
            try clear hcz16_0
            try clear hcz16_1
            try clear hcz18_0
            try clear hcz18_1
            try clear hcz20_0
            try clear hcz20_1
            try clear hcz22_0
            try clear hcz22_1
            try clear hfz13_0
            try clear hfz13_1
            try clear hfz16_0
            try clear hfz16_1
            try clear hfz18_0
            try clear hfz18_1
            try clear hfz20_0
            try clear hfz20_1
            try clear hfz22_0
            try clear hfz22_1
            try clear p2
            obtain ⟨kq, x116_45, rfl, HA, HJ45, HO_4, HO_7, HO_9, HO_11, HO_300001, BK299, HB⟩ := hcut
            cases kq with
            | zero => exact absurd HA.out (by simp [laws_FnExtensions.j1])
            | succ kj45 =>
              have H := HA.out
              clear HA
              simp only [laws_FnExtensions.j1] at H
              by_cases c56 : x116_45 = true
              · subst c56
                have H1 : (some false) = some r := by rw [if_pos rfl] at H; exact H
                clear H
                have H := H1
                clear H1
                obtain rfl := Option.some.inj H
                go_wp2
                go_ret
                exact ⟨by first | rfl | (simp [errW_none, errW_some] <;> rfl) | (simp [*, errW_none, errW_some] <;> rfl), by repeat (first | (with_reducible first | exact HB.out | apply below_alloc | apply pw_below_drewN | apply below_drew1 | refine below_set ?_ GE299.out) | exact HB.out)⟩
              · replace c56 := Bool.eq_false_iff.mpr c56
                subst c56
                have H1 : (laws_FnExtensions.l0 kj45 t300 t307 t311 t315 0) = some r := by rw [if_neg (show ¬ (false = true) by decide)] at H; exact H
                clear H
                have H := H1
                clear H1
                have H' := Aside0.mk H
                clear H
                go_wp2
                go_loopg [16] kj45 (fun kq v16 w' => ∃ (x16_3 : Int), v16 = .int .i64 x16_3 ∧ Aside0 (laws_FnExtensions.l0 kq t300 t307 t311 t315 x16_3 = some r) ∧ Aside0 (kq ≤ kj45) ∧ Aside0 (Kd.R (Kd.int .i64) 3 w' w.heap.size (fun _ => True) v301 t300) ∧ Aside0 (Kd.S (Kd.slice 3 (Kd.int .i64)) 33 w' w.heap.size (fun k_ => some k_ ≠ (v301 : Value).ownBlock ∧ some k_ ≠ (v312 : Value).ownBlock ∧ some k_ ≠ (v316 : Value).ownBlock) v308 t307) ∧ Aside0 (Kd.S (Kd.slice 3 (Kd.int .i64)) 33 w' w.heap.size (fun k_ => some k_ ≠ (v301 : Value).ownBlock ∧ some k_ ≠ (v308 : Value).ownBlock ∧ some k_ ≠ (v316 : Value).ownBlock) v312 t311) ∧ Aside0 (Kd.S (Kd.slice 3 (Kd.int .i64)) 33 w' w.heap.size (fun k_ => some k_ ≠ (v301 : Value).ownBlock ∧ some k_ ≠ (v308 : Value).ownBlock ∧ some k_ ≠ (v312 : Value).ownBlock) v316 t315) ∧ Aside0 (Kd.R k65 65 w' w.heap.size (fun _ => True) (.slice Ao14 t296.length co14) t296) ∧ Aside0 (w'.heap[gb299]? = some (.cells #[.int .i64 t295, (.slice Ao14 t296.length co14)] 29 (0, 0))) ∧ Aside0 (Below w.heap.size w w'))
                case atStart => exact ⟨(0), (by first | rfl | (simp; done) | (simp [*]; done)), H', ⟨Nat.le_refl _⟩, ⟨by (with_reducible repeat (first | apply Kd.R_alloc | apply Kd.R_drewN | apply Kd.R_drew)); exact HO_4.out⟩, ⟨by (with_reducible repeat (first | apply Kd.S_alloc | apply Kd.S_drewN | apply Kd.S_drew)); exact HO_7.out⟩, ⟨by (with_reducible repeat (first | apply Kd.S_alloc | apply Kd.S_drewN | apply Kd.S_drew)); exact HO_9.out⟩, ⟨by (with_reducible repeat (first | apply Kd.S_alloc | apply Kd.S_drewN | apply Kd.S_drew)); exact HO_11.out⟩, ⟨by (with_reducible repeat (first | apply Kd.R_alloc | apply Kd.R_drewN | apply Kd.R_drew)); exact HO_300001.out⟩, ⟨by (with_reducible repeat (first | refine blk_drewN ?_ _ | refine blk_drew ?_ | refine blk_alloc ?_ _)); exact BK299.out⟩, ⟨by repeat (first | (with_reducible first | exact HB.out | apply below_alloc | apply pw_below_drewN | apply below_drew1 | refine below_set ?_ GE299.out) | exact HB.out)⟩⟩
                case round =>
                  clear H'
                  try clear c1
                  try clear c2
                  try clear p2
                  try clear c3
                  try clear c4
                  try clear c5
                  try clear c12
                  try clear c24
                  try clear c24b0
                  try clear c24b1
                  try clear c24b2
                  try clear c25
                  try clear c25b0
                  try clear c25b1
                  try clear c25b2
                  try clear c26
                  try clear c26b0
                  try clear c26b1
                  try clear c26b2
                  try clear c27
                  try clear c27b0
                  try clear c27b1
                  try clear c27b2
                  try clear c29
                  try clear c31
                  try clear c40
                  try clear c41
                  try clear c42
                  try clear c43
                  try clear c43b0
                  try clear c43b1
                  try clear c43b2
                  try clear c44
                  try clear c44b0
                  try clear c44b1
                  try clear c44b2
                  try clear c45
                  try clear c45b0
                  try clear c45b1
                  try clear c45b2
                  try clear c46
                  try clear c47
                  try clear c47b0
                  try clear c47b1
                  try clear c47b2
                  try clear c48
                  try clear c49
                  try clear c49b0
                  try clear c49b1
                  try clear c49b2
                  try clear c56
                  try clear hcz13_0
                  try clear hcz13_1
                  try clear hcz16_0
                  try clear hcz16_1
                  try clear hcz18_0
                  try clear hcz18_1
                  try clear hcz20_0
                  try clear hcz20_1
                  try clear hcz22_0
                  try clear hcz22_1
                  try clear hfz13_0
                  try clear hfz13_1
                  try clear hfz16_0
                  try clear hfz16_1
                  try clear hfz18_0
                  try clear hfz18_1
                  try clear hfz20_0
                  try clear hfz20_1
                  try clear hfz22_0
                  try clear hfz22_1
                  try clear p2
                  obtain ⟨x16_3, rfl, HA, HK3, HO_4, HO_7, HO_9, HO_11, HO_300001, BK299, HB⟩ := hrel
                  cases gk with
                  | zero => exact absurd HA.out (by simp [laws_FnExtensions.l0])
                  | succ k3 =>
                    have H := HA.out
                    clear HA
                    simp only [laws_FnExtensions.l0] at H
                    by_cases c57 : x16_3 < (t307.length : Int)
                    · rw [if_pos c57] at H
                      have c57b0 : decide (x16_3 < (t307.length : Int)) = true := decide_eq_true c57
                      clear c57
                      by_cases c58 : 0 ≤ x16_3
                      · rw [if_pos c58] at H
                        have c58b0 : decide (0 ≤ x16_3) = true := decide_eq_true c58
                        clear c58
                        replace H := Option.bind_eq_some_iff.mp H
                        obtain ⟨t329, A590, H⟩ := H
                        replace H : (if t329 = true then (laws_FnExtensions.l0 k3 t300 t307 t311 t315 (wrap64 (x16_3 + 1))) else (some false)) = some r := H
                        have A59 := Aside0.mk A590
                        clear A590
                        by_cases c60 : t329 = true
                        · subst c60
                          have H1 : (laws_FnExtensions.l0 k3 t300 t307 t311 t315 (wrap64 (x16_3 + 1))) = some r := by rw [if_pos rfl] at H; exact H
                          clear H
                          have H := H1
                          clear H1
                          have H' := Aside0.mk H
                          clear H
                          obtain ⟨Ao61, co61, eo61⟩ := Kd.S_slice HO_7.out
                          subst eo61
                          have p328 : 0 ≤ (x16_3 : Int) := of_decide_eq_true (by first | (with_reducible assumption) | assumption)
                          have q328 : x16_3 < (t307.length : Int) := of_decide_eq_true (by first | (with_reducible assumption) | assumption)
                          obtain ⟨ad328, A328_0, c328_0, e328, hx328_0, hl328_0, hi328_0⟩ := at_L2 (Kd.S_reads' HO_7.out).2.2 x16_3 p328 q328
                          cases e328
                          obtain ⟨ce328, hce328, hMe328, hcc328⟩ := Kd.S_get HO_7.out [] x16_3 p328 (by first | exact q328 | exact of_decide_eq_true (by first | (with_reducible assumption) | assumption) | (have e_ := (Kd.S_reads' HO_7.out).1; omega))
                          obtain ⟨ve328_0, rfl, ge328_0⟩ := hMe328
                          have hv328_0 := hcc328 0 _ rfl
                          rw [Nat.add_zero, show ((Kd.slice 3 (Kd.int .i64))).sz = 1 from rfl, Nat.mul_one] at hv328_0
                          replace hv328_0 := Option.some.inj (hv328_0.symm.trans hx328_0)
                          rw [hv328_0] at ge328_0
                          have HL328_0 := Aside0.mk (show Kd.R (Kd.int .i64) 3 _ _ _ _ (rd_L2 t307 x16_3) from ge328_0)
                          clear hv328_0 ge328_0
                          clear hcc328 hce328
                          have HR328_0 := Aside0.mk hi328_0
                          have HC328_0 := Aside0.mk hl328_0
                          clear hi328_0 hl328_0
                          replace p328 := eq_true p328
                          replace q328 := eq_true q328
                          obtain ⟨Ao62, co62, eo62⟩ := Kd.R_slice HO_4.out
                          subst eo62
                          go_wp2_with (first | ((with_reducible refine gate_callee (f := 50) rfl ?_); refine goesL_ (some 128) rfl rfl Try.func50 (by kernel_rfl) rfl #[.slice A328_0 (rd_L2 t307 x16_3).length c328_0, .slice Ao62 t300.length co62] rfl (by (try simp only [List.map_toArray, List.map_cons, List.map_nil]); first | done | rfl | (simp only [List.length_drop, List.length_take]; rfl)) ?_; (with_reducible refine (laws_rAll.calls k3 _ _ (rd_L2 t307 x16_3) _ _ t300 true _ ?side1 ?side2 ?side3 ?side4 A59.out).mono ?_); (case side1 => repeat (first | exact (by repeat (first | (with_reducible exact HR328_0.out) | (with_reducible refine Kd.C_alloc ?_ _) | (with_reducible refine Kd.C_drewN ?_ _) | (with_reducible refine Kd.C_drew ?_) | exact HR328_0.out)) | (with_reducible refine Kd.C_alloc ?_ _) | (with_reducible refine Kd.C_drewN ?_ _) | (with_reducible refine Kd.C_drew ?_))); (case side2 => exact HC328_0.out); (case side3 => repeat (first | exact (Kd.R_reads' HO_4.out).2.2 | (with_reducible refine Kd.C_alloc ?_ _) | (with_reducible refine Kd.C_drewN ?_ _) | (with_reducible refine Kd.C_drew ?_))); (case side4 => exact (Kd.R_reads' HO_4.out).2.1); rintro e w' ⟨rfl, ⟨nd, rfl⟩⟩; refine ⟨_, rfl, ?_⟩))
                          go_roundg k3
                          case measure => have := HJ9.out; have := HJ45.out; have := HK3.out; omega
                          case rel => exact ⟨(wrap64 (x16_3 + 1)), (by first | rfl | (simp; done) | (simp [*]; done)), H', ⟨by have := HJ9.out; have := HJ45.out; have := HK3.out; omega⟩, ⟨by (with_reducible repeat (first | apply Kd.R_alloc | apply Kd.R_drewN | apply Kd.R_drew)); exact HO_4.out⟩, ⟨by (with_reducible repeat (first | apply Kd.S_alloc | apply Kd.S_drewN | apply Kd.S_drew)); exact HO_7.out⟩, ⟨by (with_reducible repeat (first | apply Kd.S_alloc | apply Kd.S_drewN | apply Kd.S_drew)); exact HO_9.out⟩, ⟨by (with_reducible repeat (first | apply Kd.S_alloc | apply Kd.S_drewN | apply Kd.S_drew)); exact HO_11.out⟩, ⟨by (with_reducible repeat (first | apply Kd.R_alloc | apply Kd.R_drewN | apply Kd.R_drew)); exact HO_300001.out⟩, ⟨by (with_reducible repeat (first | refine blk_drewN ?_ _ | refine blk_drew ?_ | refine blk_alloc ?_ _)); exact BK299.out⟩, ⟨by repeat (first | (with_reducible first | exact HB.out | apply below_alloc | apply pw_below_drewN | apply below_drew1 | refine below_set ?_ GE299.out) | exact HB.out)⟩⟩
                        · replace c60 := Bool.eq_false_iff.mpr c60
                          subst c60
                          have H1 : (some false) = some r := by rw [if_neg (show ¬ (false = true) by decide)] at H; exact H
                          clear H
                          have H := H1
                          clear H1
                          obtain rfl := Option.some.inj H
                          obtain ⟨Ao63, co63, eo63⟩ := Kd.S_slice HO_7.out
                          subst eo63
                          have p328 : 0 ≤ (x16_3 : Int) := of_decide_eq_true (by first | (with_reducible assumption) | assumption)
                          have q328 : x16_3 < (t307.length : Int) := of_decide_eq_true (by first | (with_reducible assumption) | assumption)
                          obtain ⟨ad328, A328_0, c328_0, e328, hx328_0, hl328_0, hi328_0⟩ := at_L2 (Kd.S_reads' HO_7.out).2.2 x16_3 p328 q328
                          cases e328
                          obtain ⟨ce328, hce328, hMe328, hcc328⟩ := Kd.S_get HO_7.out [] x16_3 p328 (by first | exact q328 | exact of_decide_eq_true (by first | (with_reducible assumption) | assumption) | (have e_ := (Kd.S_reads' HO_7.out).1; omega))
                          obtain ⟨ve328_0, rfl, ge328_0⟩ := hMe328
                          have hv328_0 := hcc328 0 _ rfl
                          rw [Nat.add_zero, show ((Kd.slice 3 (Kd.int .i64))).sz = 1 from rfl, Nat.mul_one] at hv328_0
                          replace hv328_0 := Option.some.inj (hv328_0.symm.trans hx328_0)
                          rw [hv328_0] at ge328_0
                          have HL328_0 := Aside0.mk (show Kd.R (Kd.int .i64) 3 _ _ _ _ (rd_L2 t307 x16_3) from ge328_0)
                          clear hv328_0 ge328_0
                          clear hcc328 hce328
                          have HR328_0 := Aside0.mk hi328_0
                          have HC328_0 := Aside0.mk hl328_0
                          clear hi328_0 hl328_0
                          replace p328 := eq_true p328
                          replace q328 := eq_true q328
                          obtain ⟨Ao64, co64, eo64⟩ := Kd.R_slice HO_4.out
                          subst eo64
                          go_wp2_with (first | ((with_reducible refine gate_callee (f := 50) rfl ?_); refine goesL_ (some 128) rfl rfl Try.func50 (by kernel_rfl) rfl #[.slice A328_0 (rd_L2 t307 x16_3).length c328_0, .slice Ao64 t300.length co64] rfl (by (try simp only [List.map_toArray, List.map_cons, List.map_nil]); first | done | rfl | (simp only [List.length_drop, List.length_take]; rfl)) ?_; (with_reducible refine (laws_rAll.calls k3 _ _ (rd_L2 t307 x16_3) _ _ t300 false _ ?side1 ?side2 ?side3 ?side4 A59.out).mono ?_); (case side1 => repeat (first | exact (by repeat (first | (with_reducible exact HR328_0.out) | (with_reducible refine Kd.C_alloc ?_ _) | (with_reducible refine Kd.C_drewN ?_ _) | (with_reducible refine Kd.C_drew ?_) | exact HR328_0.out)) | (with_reducible refine Kd.C_alloc ?_ _) | (with_reducible refine Kd.C_drewN ?_ _) | (with_reducible refine Kd.C_drew ?_))); (case side2 => exact HC328_0.out); (case side3 => repeat (first | exact (Kd.R_reads' HO_4.out).2.2 | (with_reducible refine Kd.C_alloc ?_ _) | (with_reducible refine Kd.C_drewN ?_ _) | (with_reducible refine Kd.C_drew ?_))); (case side4 => exact (Kd.R_reads' HO_4.out).2.1); rintro e w' ⟨rfl, ⟨nd, rfl⟩⟩; refine ⟨_, rfl, ?_⟩))
                          go_ret
                          exact ⟨by first | rfl | (simp [errW_none, errW_some] <;> rfl) | (simp [*, errW_none, errW_some] <;> rfl), by repeat (first | (with_reducible first | exact HB.out | apply below_alloc | apply pw_below_drewN | apply below_drew1 | refine below_set ?_ GE299.out) | exact HB.out)⟩
                      · rw [if_neg c58] at H
                        exact absurd H (by simp)
                    · rw [if_neg c57] at H
                      have c57b0 : decide (x16_3 < (t307.length : Int)) = false := decide_eq_false c57
                      clear c57
                      have H' := Aside0.mk H
                      clear H
                      obtain ⟨Ao65, co65, eo65⟩ := Kd.S_slice HO_7.out
                      subst eo65
                      go_wp2
                      go_loopg [17] k3 (fun kq v17 w' => ∃ (x17_4 : Int), v17 = .int .i64 x17_4 ∧ Aside0 (laws_FnExtensions.l1 kq t300 t307 t311 t315 x17_4 = some r) ∧ Aside0 (kq ≤ k3) ∧ Aside0 (Kd.R (Kd.int .i64) 3 w' w.heap.size (fun _ => True) v301 t300) ∧ Aside0 (Kd.S (Kd.slice 3 (Kd.int .i64)) 33 w' w.heap.size (fun k_ => some k_ ≠ (v301 : Value).ownBlock ∧ some k_ ≠ (v312 : Value).ownBlock ∧ some k_ ≠ (v316 : Value).ownBlock) (.slice Ao65 t307.length co65) t307) ∧ Aside0 (Kd.S (Kd.slice 3 (Kd.int .i64)) 33 w' w.heap.size (fun k_ => some k_ ≠ (v301 : Value).ownBlock ∧ some k_ ≠ ((.slice Ao65 t307.length co65) : Value).ownBlock ∧ some k_ ≠ (v316 : Value).ownBlock) v312 t311) ∧ Aside0 (Kd.S (Kd.slice 3 (Kd.int .i64)) 33 w' w.heap.size (fun k_ => some k_ ≠ (v301 : Value).ownBlock ∧ some k_ ≠ ((.slice Ao65 t307.length co65) : Value).ownBlock ∧ some k_ ≠ (v312 : Value).ownBlock) v316 t315) ∧ Aside0 (Kd.R k65 65 w' w.heap.size (fun _ => True) (.slice Ao14 t296.length co14) t296) ∧ Aside0 (w'.heap[gb299]? = some (.cells #[.int .i64 t295, (.slice Ao14 t296.length co14)] 29 (0, 0))) ∧ Aside0 (Below w.heap.size w w'))
                      case atStart => exact ⟨(0), (by first | rfl | (simp; done) | (simp [*]; done)), H', ⟨Nat.le_refl _⟩, ⟨by (with_reducible repeat (first | apply Kd.R_alloc | apply Kd.R_drewN | apply Kd.R_drew)); exact HO_4.out⟩, ⟨by (with_reducible repeat (first | apply Kd.S_alloc | apply Kd.S_drewN | apply Kd.S_drew)); exact HO_7.out⟩, ⟨by (with_reducible repeat (first | apply Kd.S_alloc | apply Kd.S_drewN | apply Kd.S_drew)); exact HO_9.out⟩, ⟨by (with_reducible repeat (first | apply Kd.S_alloc | apply Kd.S_drewN | apply Kd.S_drew)); exact HO_11.out⟩, ⟨by (with_reducible repeat (first | apply Kd.R_alloc | apply Kd.R_drewN | apply Kd.R_drew)); exact HO_300001.out⟩, ⟨by (with_reducible repeat (first | refine blk_drewN ?_ _ | refine blk_drew ?_ | refine blk_alloc ?_ _)); exact BK299.out⟩, ⟨by repeat (first | (with_reducible first | exact HB.out | apply below_alloc | apply pw_below_drewN | apply below_drew1 | refine below_set ?_ GE299.out) | exact HB.out)⟩⟩
                      case round =>
                        clear H'
                        try clear c1
                        try clear c2
                        try clear p2
                        try clear c3
                        try clear p3
                        try clear q3
                        try clear hx3
                        try clear c4
                        try clear c5
                        try clear c6
                        try clear p6
                        try clear c12
                        try clear c24
                        try clear c24b0
                        try clear c24b1
                        try clear c24b2
                        try clear c25
                        try clear c25b0
                        try clear c25b1
                        try clear c25b2
                        try clear c26
                        try clear c26b0
                        try clear c26b1
                        try clear c26b2
                        try clear c27
                        try clear c27b0
                        try clear c27b1
                        try clear c27b2
                        try clear c29
                        try clear c31
                        try clear c32
                        try clear p32
                        try clear q32
                        try clear hx32
                        try clear c40
                        try clear c41
                        try clear c42
                        try clear c43
                        try clear c43b0
                        try clear c43b1
                        try clear c43b2
                        try clear c44
                        try clear c44b0
                        try clear c44b1
                        try clear c44b2
                        try clear c45
                        try clear c45b0
                        try clear c45b1
                        try clear c45b2
                        try clear c46
                        try clear c47
                        try clear c47b0
                        try clear c47b1
                        try clear c47b2
                        try clear c48
                        try clear c49
                        try clear c49b0
                        try clear c49b1
                        try clear c49b2
                        try clear c50
                        try clear c56
                        try clear c57
                        try clear c57b0
                        try clear c58
                        try clear c58b0
                        try clear c60
                        try clear p64
                        try clear hcz13_0
                        try clear hcz13_1
                        try clear hcz16_0
                        try clear hcz16_1
                        try clear hcz18_0
                        try clear hcz18_1
                        try clear hcz20_0
                        try clear hcz20_1
                        try clear hcz22_0
                        try clear hcz22_1
                        try clear hfz13_0
                        try clear hfz13_1
                        try clear hfz16_0
                        try clear hfz16_1
                        try clear hfz18_0
                        try clear hfz18_1
                        try clear hfz20_0
                        try clear hfz20_1
                        try clear hfz22_0
                        try clear hfz22_1
                        try clear hx328_0
                        try clear p2
                        try clear p328
                        try clear q328
                        obtain ⟨x17_4, rfl, HA, HK4, HO_4, HO_7, HO_9, HO_11, HO_300001, BK299, HB⟩ := hrel
                        cases gk with
                        | zero => exact absurd HA.out (by simp [laws_FnExtensions.l1])
                        | succ k4 =>
                          have H := HA.out
                          clear HA
                          simp only [laws_FnExtensions.l1] at H
                          by_cases c66 : x17_4 < (t311.length : Int)
                          · rw [if_pos c66] at H
                            have c66b0 : decide (x17_4 < (t311.length : Int)) = true := decide_eq_true c66
                            clear c66
                            by_cases c67 : 0 ≤ x17_4
                            · rw [if_pos c67] at H
                              have c67b0 : decide (0 ≤ x17_4) = true := decide_eq_true c67
                              clear c67
                              replace H := Option.bind_eq_some_iff.mp H
                              obtain ⟨t331, A680, H⟩ := H
                              replace H : (if t331 = true then (laws_FnExtensions.l1 k4 t300 t307 t311 t315 (wrap64 (x17_4 + 1))) else (some false)) = some r := H
                              have A68 := Aside0.mk A680
                              clear A680
                              by_cases c69 : t331 = true
                              · subst c69
                                have H1 : (laws_FnExtensions.l1 k4 t300 t307 t311 t315 (wrap64 (x17_4 + 1))) = some r := by rw [if_pos rfl] at H; exact H
                                clear H
                                have H := H1
                                clear H1
                                have H' := Aside0.mk H
                                clear H
                                obtain ⟨Ao70, co70, eo70⟩ := Kd.S_slice HO_9.out
                                subst eo70
                                have p330 : 0 ≤ (x17_4 : Int) := of_decide_eq_true (by first | (with_reducible assumption) | assumption)
                                have q330 : x17_4 < (t311.length : Int) := of_decide_eq_true (by first | (with_reducible assumption) | assumption)
                                obtain ⟨ad330, A330_0, c330_0, e330, hx330_0, hl330_0, hi330_0⟩ := at_L2 (Kd.S_reads' HO_9.out).2.2 x17_4 p330 q330
                                cases e330
                                obtain ⟨ce330, hce330, hMe330, hcc330⟩ := Kd.S_get HO_9.out [] x17_4 p330 (by first | exact q330 | exact of_decide_eq_true (by first | (with_reducible assumption) | assumption) | (have e_ := (Kd.S_reads' HO_9.out).1; omega))
                                obtain ⟨ve330_0, rfl, ge330_0⟩ := hMe330
                                have hv330_0 := hcc330 0 _ rfl
                                rw [Nat.add_zero, show ((Kd.slice 3 (Kd.int .i64))).sz = 1 from rfl, Nat.mul_one] at hv330_0
                                replace hv330_0 := Option.some.inj (hv330_0.symm.trans hx330_0)
                                rw [hv330_0] at ge330_0
                                have HL330_0 := Aside0.mk (show Kd.R (Kd.int .i64) 3 _ _ _ _ (rd_L2 t311 x17_4) from ge330_0)
                                clear hv330_0 ge330_0
                                clear hcc330 hce330
                                have HR330_0 := Aside0.mk hi330_0
                                have HC330_0 := Aside0.mk hl330_0
                                clear hi330_0 hl330_0
                                replace p330 := eq_true p330
                                replace q330 := eq_true q330
                                go_wp2_with (first | ((with_reducible refine gate_callee (f := 51) rfl ?_); refine goesL_ (some 141) rfl rfl Try.func51 (by kernel_rfl) rfl #[.slice Ao65 t307.length co65, .slice A330_0 (rd_L2 t311 x17_4).length c330_0] rfl (by (try simp only [List.map_toArray, List.map_cons, List.map_nil]); first | done | rfl | (simp only [List.length_drop, List.length_take]; rfl)) ?_; (with_reducible refine (laws_rMember.calls k4 _ _ t307 _ _ (rd_L2 t311 x17_4) true _ ?side1 ?side2 ?side3 ?side4 A68.out).mono ?_); (case side1 => repeat (first | exact (Kd.S_reads' HO_7.out).2.2 | (with_reducible refine Kd.C_alloc ?_ _) | (with_reducible refine Kd.C_drewN ?_ _) | (with_reducible refine Kd.C_drew ?_))); (case side2 => exact (Kd.S_reads' HO_7.out).2.1); (case side3 => repeat (first | exact (by repeat (first | (with_reducible exact HR330_0.out) | (with_reducible refine Kd.C_alloc ?_ _) | (with_reducible refine Kd.C_drewN ?_ _) | (with_reducible refine Kd.C_drew ?_) | exact HR330_0.out)) | (with_reducible refine Kd.C_alloc ?_ _) | (with_reducible refine Kd.C_drewN ?_ _) | (with_reducible refine Kd.C_drew ?_))); (case side4 => exact HC330_0.out); rintro e w' ⟨rfl, ⟨nd, rfl⟩⟩; refine ⟨_, rfl, ?_⟩))
                                go_roundg k4
                                case measure => have := HJ9.out; have := HJ45.out; have := HK3.out; have := HK4.out; omega
                                case rel => exact ⟨(wrap64 (x17_4 + 1)), (by first | rfl | (simp; done) | (simp [*]; done)), H', ⟨by have := HJ9.out; have := HJ45.out; have := HK3.out; have := HK4.out; omega⟩, ⟨by (with_reducible repeat (first | apply Kd.R_alloc | apply Kd.R_drewN | apply Kd.R_drew)); exact HO_4.out⟩, ⟨by (with_reducible repeat (first | apply Kd.S_alloc | apply Kd.S_drewN | apply Kd.S_drew)); exact HO_7.out⟩, ⟨by (with_reducible repeat (first | apply Kd.S_alloc | apply Kd.S_drewN | apply Kd.S_drew)); exact HO_9.out⟩, ⟨by (with_reducible repeat (first | apply Kd.S_alloc | apply Kd.S_drewN | apply Kd.S_drew)); exact HO_11.out⟩, ⟨by (with_reducible repeat (first | apply Kd.R_alloc | apply Kd.R_drewN | apply Kd.R_drew)); exact HO_300001.out⟩, ⟨by (with_reducible repeat (first | refine blk_drewN ?_ _ | refine blk_drew ?_ | refine blk_alloc ?_ _)); exact BK299.out⟩, ⟨by repeat (first | (with_reducible first | exact HB.out | apply below_alloc | apply pw_below_drewN | apply below_drew1 | refine below_set ?_ GE299.out) | exact HB.out)⟩⟩
                              · replace c69 := Bool.eq_false_iff.mpr c69
                                subst c69
                                have H1 : (some false) = some r := by rw [if_neg (show ¬ (false = true) by decide)] at H; exact H
                                clear H
                                have H := H1
                                clear H1
                                obtain rfl := Option.some.inj H
                                obtain ⟨Ao71, co71, eo71⟩ := Kd.S_slice HO_9.out
                                subst eo71
                                have p330 : 0 ≤ (x17_4 : Int) := of_decide_eq_true (by first | (with_reducible assumption) | assumption)
                                have q330 : x17_4 < (t311.length : Int) := of_decide_eq_true (by first | (with_reducible assumption) | assumption)
                                obtain ⟨ad330, A330_0, c330_0, e330, hx330_0, hl330_0, hi330_0⟩ := at_L2 (Kd.S_reads' HO_9.out).2.2 x17_4 p330 q330
                                cases e330
                                obtain ⟨ce330, hce330, hMe330, hcc330⟩ := Kd.S_get HO_9.out [] x17_4 p330 (by first | exact q330 | exact of_decide_eq_true (by first | (with_reducible assumption) | assumption) | (have e_ := (Kd.S_reads' HO_9.out).1; omega))
                                obtain ⟨ve330_0, rfl, ge330_0⟩ := hMe330
                                have hv330_0 := hcc330 0 _ rfl
                                rw [Nat.add_zero, show ((Kd.slice 3 (Kd.int .i64))).sz = 1 from rfl, Nat.mul_one] at hv330_0
                                replace hv330_0 := Option.some.inj (hv330_0.symm.trans hx330_0)
                                rw [hv330_0] at ge330_0
                                have HL330_0 := Aside0.mk (show Kd.R (Kd.int .i64) 3 _ _ _ _ (rd_L2 t311 x17_4) from ge330_0)
                                clear hv330_0 ge330_0
                                clear hcc330 hce330
                                have HR330_0 := Aside0.mk hi330_0
                                have HC330_0 := Aside0.mk hl330_0
                                clear hi330_0 hl330_0
                                replace p330 := eq_true p330
                                replace q330 := eq_true q330
                                go_wp2_with (first | ((with_reducible refine gate_callee (f := 51) rfl ?_); refine goesL_ (some 141) rfl rfl Try.func51 (by kernel_rfl) rfl #[.slice Ao65 t307.length co65, .slice A330_0 (rd_L2 t311 x17_4).length c330_0] rfl (by (try simp only [List.map_toArray, List.map_cons, List.map_nil]); first | done | rfl | (simp only [List.length_drop, List.length_take]; rfl)) ?_; (with_reducible refine (laws_rMember.calls k4 _ _ t307 _ _ (rd_L2 t311 x17_4) false _ ?side1 ?side2 ?side3 ?side4 A68.out).mono ?_); (case side1 => repeat (first | exact (Kd.S_reads' HO_7.out).2.2 | (with_reducible refine Kd.C_alloc ?_ _) | (with_reducible refine Kd.C_drewN ?_ _) | (with_reducible refine Kd.C_drew ?_))); (case side2 => exact (Kd.S_reads' HO_7.out).2.1); (case side3 => repeat (first | exact (by repeat (first | (with_reducible exact HR330_0.out) | (with_reducible refine Kd.C_alloc ?_ _) | (with_reducible refine Kd.C_drewN ?_ _) | (with_reducible refine Kd.C_drew ?_) | exact HR330_0.out)) | (with_reducible refine Kd.C_alloc ?_ _) | (with_reducible refine Kd.C_drewN ?_ _) | (with_reducible refine Kd.C_drew ?_))); (case side4 => exact HC330_0.out); rintro e w' ⟨rfl, ⟨nd, rfl⟩⟩; refine ⟨_, rfl, ?_⟩))
                                go_ret
                                exact ⟨by first | rfl | (simp [errW_none, errW_some] <;> rfl) | (simp [*, errW_none, errW_some] <;> rfl), by repeat (first | (with_reducible first | exact HB.out | apply below_alloc | apply pw_below_drewN | apply below_drew1 | refine below_set ?_ GE299.out) | exact HB.out)⟩
                            · rw [if_neg c67] at H
                              exact absurd H (by simp)
                          · rw [if_neg c66] at H
                            have c66b0 : decide (x17_4 < (t311.length : Int)) = false := decide_eq_false c66
                            clear c66
                            have H' := Aside0.mk H
                            clear H
                            obtain ⟨Ao72, co72, eo72⟩ := Kd.S_slice HO_9.out
                            subst eo72
                            go_wp2
                            go_loopg [18] k4 (fun kq v18 w' => ∃ (x18_5 : Int), v18 = .int .i64 x18_5 ∧ Aside0 (laws_FnExtensions.l2 kq t300 t307 t311 t315 x18_5 = some r) ∧ Aside0 (kq ≤ k4) ∧ Aside0 (Kd.R (Kd.int .i64) 3 w' w.heap.size (fun _ => True) v301 t300) ∧ Aside0 (Kd.S (Kd.slice 3 (Kd.int .i64)) 33 w' w.heap.size (fun k_ => some k_ ≠ (v301 : Value).ownBlock ∧ some k_ ≠ ((.slice Ao72 t311.length co72) : Value).ownBlock ∧ some k_ ≠ (v316 : Value).ownBlock) (.slice Ao65 t307.length co65) t307) ∧ Aside0 (Kd.S (Kd.slice 3 (Kd.int .i64)) 33 w' w.heap.size (fun k_ => some k_ ≠ (v301 : Value).ownBlock ∧ some k_ ≠ ((.slice Ao65 t307.length co65) : Value).ownBlock ∧ some k_ ≠ (v316 : Value).ownBlock) (.slice Ao72 t311.length co72) t311) ∧ Aside0 (Kd.S (Kd.slice 3 (Kd.int .i64)) 33 w' w.heap.size (fun k_ => some k_ ≠ (v301 : Value).ownBlock ∧ some k_ ≠ ((.slice Ao65 t307.length co65) : Value).ownBlock ∧ some k_ ≠ ((.slice Ao72 t311.length co72) : Value).ownBlock) v316 t315) ∧ Aside0 (Kd.R k65 65 w' w.heap.size (fun _ => True) (.slice Ao14 t296.length co14) t296) ∧ Aside0 (w'.heap[gb299]? = some (.cells #[.int .i64 t295, (.slice Ao14 t296.length co14)] 29 (0, 0))) ∧ Aside0 (Below w.heap.size w w'))
                            case atStart => exact ⟨(0), (by first | rfl | (simp; done) | (simp [*]; done)), H', ⟨Nat.le_refl _⟩, ⟨by (with_reducible repeat (first | apply Kd.R_alloc | apply Kd.R_drewN | apply Kd.R_drew)); exact HO_4.out⟩, ⟨by (with_reducible repeat (first | apply Kd.S_alloc | apply Kd.S_drewN | apply Kd.S_drew)); exact HO_7.out⟩, ⟨by (with_reducible repeat (first | apply Kd.S_alloc | apply Kd.S_drewN | apply Kd.S_drew)); exact HO_9.out⟩, ⟨by (with_reducible repeat (first | apply Kd.S_alloc | apply Kd.S_drewN | apply Kd.S_drew)); exact HO_11.out⟩, ⟨by (with_reducible repeat (first | apply Kd.R_alloc | apply Kd.R_drewN | apply Kd.R_drew)); exact HO_300001.out⟩, ⟨by (with_reducible repeat (first | refine blk_drewN ?_ _ | refine blk_drew ?_ | refine blk_alloc ?_ _)); exact BK299.out⟩, ⟨by repeat (first | (with_reducible first | exact HB.out | apply below_alloc | apply pw_below_drewN | apply below_drew1 | refine below_set ?_ GE299.out) | exact HB.out)⟩⟩
                            case round =>
                              clear H'
                              try clear c1
                              try clear c2
                              try clear p2
                              try clear c3
                              try clear p3
                              try clear q3
                              try clear hx3
                              try clear c4
                              try clear c5
                              try clear c6
                              try clear p6
                              try clear c12
                              try clear c24
                              try clear c24b0
                              try clear c24b1
                              try clear c24b2
                              try clear c25
                              try clear c25b0
                              try clear c25b1
                              try clear c25b2
                              try clear c26
                              try clear c26b0
                              try clear c26b1
                              try clear c26b2
                              try clear c27
                              try clear c27b0
                              try clear c27b1
                              try clear c27b2
                              try clear c29
                              try clear c31
                              try clear c32
                              try clear p32
                              try clear q32
                              try clear hx32
                              try clear c33
                              try clear p33
                              try clear q33
                              try clear hx33
                              try clear c40
                              try clear c41
                              try clear c42
                              try clear c43
                              try clear c43b0
                              try clear c43b1
                              try clear c43b2
                              try clear c44
                              try clear c44b0
                              try clear c44b1
                              try clear c44b2
                              try clear c45
                              try clear c45b0
                              try clear c45b1
                              try clear c45b2
                              try clear c46
                              try clear c47
                              try clear c47b0
                              try clear c47b1
                              try clear c47b2
                              try clear c48
                              try clear c49
                              try clear c49b0
                              try clear c49b1
                              try clear c49b2
                              try clear c50
                              try clear c51
                              try clear c56
                              try clear c57
                              try clear c57b0
                              try clear c58
                              try clear c58b0
                              try clear c60
                              try clear p64
                              try clear c66
                              try clear c66b0
                              try clear c67
                              try clear c67b0
                              try clear c69
                              try clear hcz13_0
                              try clear hcz13_1
                              try clear hcz16_0
                              try clear hcz16_1
                              try clear hcz18_0
                              try clear hcz18_1
                              try clear hcz20_0
                              try clear hcz20_1
                              try clear hcz22_0
                              try clear hcz22_1
                              try clear hfz13_0
                              try clear hfz13_1
                              try clear hfz16_0
                              try clear hfz16_1
                              try clear hfz18_0
                              try clear hfz18_1
                              try clear hfz20_0
                              try clear hfz20_1
                              try clear hfz22_0
                              try clear hfz22_1
                              try clear hx328_0
                              try clear hx330_0
                              try clear p2
                              try clear p3
                              try clear p32
                              try clear p328
                              try clear p330
                              try clear p6
                              try clear p64
                              try clear q3
                              try clear q32
                              try clear q328
                              try clear q330
                              obtain ⟨x18_5, rfl, HA, HK5, HO_4, HO_7, HO_9, HO_11, HO_300001, BK299, HB⟩ := hrel
                              cases gk with
                              | zero => exact absurd HA.out (by simp [laws_FnExtensions.l2])
                              | succ k5 =>
                                have H := HA.out
                                clear HA
                                simp only [laws_FnExtensions.l2] at H
                                by_cases c73 : x18_5 < (t315.length : Int)
                                · rw [if_pos c73] at H
                                  have c73b0 : decide (x18_5 < (t315.length : Int)) = true := decide_eq_true c73
                                  clear c73
                                  by_cases c74 : 0 ≤ x18_5
                                  · rw [if_pos c74] at H
                                    have c74b0 : decide (0 ≤ x18_5) = true := decide_eq_true c74
                                    clear c74
                                    replace H := Option.bind_eq_some_iff.mp H
                                    obtain ⟨t333, A750, H⟩ := H
                                    replace H : (if t333 = true then (laws_FnExtensions.l2 k5 t300 t307 t311 t315 (wrap64 (x18_5 + 1))) else (some false)) = some r := H
                                    have A75 := Aside0.mk A750
                                    clear A750
                                    by_cases c76 : t333 = true
                                    · subst c76
                                      have H1 : (laws_FnExtensions.l2 k5 t300 t307 t311 t315 (wrap64 (x18_5 + 1))) = some r := by rw [if_pos rfl] at H; exact H
                                      clear H
                                      have H := H1
                                      clear H1
                                      have H' := Aside0.mk H
                                      clear H
                                      obtain ⟨Ao77, co77, eo77⟩ := Kd.S_slice HO_11.out
                                      subst eo77
                                      have p332 : 0 ≤ (x18_5 : Int) := of_decide_eq_true (by first | (with_reducible assumption) | assumption)
                                      have q332 : x18_5 < (t315.length : Int) := of_decide_eq_true (by first | (with_reducible assumption) | assumption)
                                      obtain ⟨ad332, A332_0, c332_0, e332, hx332_0, hl332_0, hi332_0⟩ := at_L2 (Kd.S_reads' HO_11.out).2.2 x18_5 p332 q332
                                      cases e332
                                      obtain ⟨ce332, hce332, hMe332, hcc332⟩ := Kd.S_get HO_11.out [] x18_5 p332 (by first | exact q332 | exact of_decide_eq_true (by first | (with_reducible assumption) | assumption) | (have e_ := (Kd.S_reads' HO_11.out).1; omega))
                                      obtain ⟨ve332_0, rfl, ge332_0⟩ := hMe332
                                      have hv332_0 := hcc332 0 _ rfl
                                      rw [Nat.add_zero, show ((Kd.slice 3 (Kd.int .i64))).sz = 1 from rfl, Nat.mul_one] at hv332_0
                                      replace hv332_0 := Option.some.inj (hv332_0.symm.trans hx332_0)
                                      rw [hv332_0] at ge332_0
                                      have HL332_0 := Aside0.mk (show Kd.R (Kd.int .i64) 3 _ _ _ _ (rd_L2 t315 x18_5) from ge332_0)
                                      clear hv332_0 ge332_0
                                      clear hcc332 hce332
                                      have HR332_0 := Aside0.mk hi332_0
                                      have HC332_0 := Aside0.mk hl332_0
                                      clear hi332_0 hl332_0
                                      replace p332 := eq_true p332
                                      replace q332 := eq_true q332
                                      go_wp2_with (first | ((with_reducible refine gate_callee (f := 51) rfl ?_); refine goesL_ (some 154) rfl rfl Try.func51 (by kernel_rfl) rfl #[.slice Ao72 t311.length co72, .slice A332_0 (rd_L2 t315 x18_5).length c332_0] rfl (by (try simp only [List.map_toArray, List.map_cons, List.map_nil]); first | done | rfl | (simp only [List.length_drop, List.length_take]; rfl)) ?_; (with_reducible refine (laws_rMember.calls k5 _ _ t311 _ _ (rd_L2 t315 x18_5) true _ ?side1 ?side2 ?side3 ?side4 A75.out).mono ?_); (case side1 => repeat (first | exact (Kd.S_reads' HO_9.out).2.2 | (with_reducible refine Kd.C_alloc ?_ _) | (with_reducible refine Kd.C_drewN ?_ _) | (with_reducible refine Kd.C_drew ?_))); (case side2 => exact (Kd.S_reads' HO_9.out).2.1); (case side3 => repeat (first | exact (by repeat (first | (with_reducible exact HR332_0.out) | (with_reducible refine Kd.C_alloc ?_ _) | (with_reducible refine Kd.C_drewN ?_ _) | (with_reducible refine Kd.C_drew ?_) | exact HR332_0.out)) | (with_reducible refine Kd.C_alloc ?_ _) | (with_reducible refine Kd.C_drewN ?_ _) | (with_reducible refine Kd.C_drew ?_))); (case side4 => exact HC332_0.out); rintro e w' ⟨rfl, ⟨nd, rfl⟩⟩; refine ⟨_, rfl, ?_⟩))
                                      go_roundg k5
                                      case measure => have := HJ9.out; have := HJ45.out; have := HK3.out; have := HK4.out; have := HK5.out; omega
                                      case rel => exact ⟨(wrap64 (x18_5 + 1)), (by first | rfl | (simp; done) | (simp [*]; done)), H', ⟨by have := HJ9.out; have := HJ45.out; have := HK3.out; have := HK4.out; have := HK5.out; omega⟩, ⟨by (with_reducible repeat (first | apply Kd.R_alloc | apply Kd.R_drewN | apply Kd.R_drew)); exact HO_4.out⟩, ⟨by (with_reducible repeat (first | apply Kd.S_alloc | apply Kd.S_drewN | apply Kd.S_drew)); exact HO_7.out⟩, ⟨by (with_reducible repeat (first | apply Kd.S_alloc | apply Kd.S_drewN | apply Kd.S_drew)); exact HO_9.out⟩, ⟨by (with_reducible repeat (first | apply Kd.S_alloc | apply Kd.S_drewN | apply Kd.S_drew)); exact HO_11.out⟩, ⟨by (with_reducible repeat (first | apply Kd.R_alloc | apply Kd.R_drewN | apply Kd.R_drew)); exact HO_300001.out⟩, ⟨by (with_reducible repeat (first | refine blk_drewN ?_ _ | refine blk_drew ?_ | refine blk_alloc ?_ _)); exact BK299.out⟩, ⟨by repeat (first | (with_reducible first | exact HB.out | apply below_alloc | apply pw_below_drewN | apply below_drew1 | refine below_set ?_ GE299.out) | exact HB.out)⟩⟩
                                    · replace c76 := Bool.eq_false_iff.mpr c76
                                      subst c76
                                      have H1 : (some false) = some r := by rw [if_neg (show ¬ (false = true) by decide)] at H; exact H
                                      clear H
                                      have H := H1
                                      clear H1
                                      obtain rfl := Option.some.inj H
                                      obtain ⟨Ao78, co78, eo78⟩ := Kd.S_slice HO_11.out
                                      subst eo78
                                      have p332 : 0 ≤ (x18_5 : Int) := of_decide_eq_true (by first | (with_reducible assumption) | assumption)
                                      have q332 : x18_5 < (t315.length : Int) := of_decide_eq_true (by first | (with_reducible assumption) | assumption)
                                      obtain ⟨ad332, A332_0, c332_0, e332, hx332_0, hl332_0, hi332_0⟩ := at_L2 (Kd.S_reads' HO_11.out).2.2 x18_5 p332 q332
                                      cases e332
                                      obtain ⟨ce332, hce332, hMe332, hcc332⟩ := Kd.S_get HO_11.out [] x18_5 p332 (by first | exact q332 | exact of_decide_eq_true (by first | (with_reducible assumption) | assumption) | (have e_ := (Kd.S_reads' HO_11.out).1; omega))
                                      obtain ⟨ve332_0, rfl, ge332_0⟩ := hMe332
                                      have hv332_0 := hcc332 0 _ rfl
                                      rw [Nat.add_zero, show ((Kd.slice 3 (Kd.int .i64))).sz = 1 from rfl, Nat.mul_one] at hv332_0
                                      replace hv332_0 := Option.some.inj (hv332_0.symm.trans hx332_0)
                                      rw [hv332_0] at ge332_0
                                      have HL332_0 := Aside0.mk (show Kd.R (Kd.int .i64) 3 _ _ _ _ (rd_L2 t315 x18_5) from ge332_0)
                                      clear hv332_0 ge332_0
                                      clear hcc332 hce332
                                      have HR332_0 := Aside0.mk hi332_0
                                      have HC332_0 := Aside0.mk hl332_0
                                      clear hi332_0 hl332_0
                                      replace p332 := eq_true p332
                                      replace q332 := eq_true q332
                                      go_wp2_with (first | ((with_reducible refine gate_callee (f := 51) rfl ?_); refine goesL_ (some 154) rfl rfl Try.func51 (by kernel_rfl) rfl #[.slice Ao72 t311.length co72, .slice A332_0 (rd_L2 t315 x18_5).length c332_0] rfl (by (try simp only [List.map_toArray, List.map_cons, List.map_nil]); first | done | rfl | (simp only [List.length_drop, List.length_take]; rfl)) ?_; (with_reducible refine (laws_rMember.calls k5 _ _ t311 _ _ (rd_L2 t315 x18_5) false _ ?side1 ?side2 ?side3 ?side4 A75.out).mono ?_); (case side1 => repeat (first | exact (Kd.S_reads' HO_9.out).2.2 | (with_reducible refine Kd.C_alloc ?_ _) | (with_reducible refine Kd.C_drewN ?_ _) | (with_reducible refine Kd.C_drew ?_))); (case side2 => exact (Kd.S_reads' HO_9.out).2.1); (case side3 => repeat (first | exact (by repeat (first | (with_reducible exact HR332_0.out) | (with_reducible refine Kd.C_alloc ?_ _) | (with_reducible refine Kd.C_drewN ?_ _) | (with_reducible refine Kd.C_drew ?_) | exact HR332_0.out)) | (with_reducible refine Kd.C_alloc ?_ _) | (with_reducible refine Kd.C_drewN ?_ _) | (with_reducible refine Kd.C_drew ?_))); (case side4 => exact HC332_0.out); rintro e w' ⟨rfl, ⟨nd, rfl⟩⟩; refine ⟨_, rfl, ?_⟩))
                                      go_ret
                                      exact ⟨by first | rfl | (simp [errW_none, errW_some] <;> rfl) | (simp [*, errW_none, errW_some] <;> rfl), by repeat (first | (with_reducible first | exact HB.out | apply below_alloc | apply pw_below_drewN | apply below_drew1 | refine below_set ?_ GE299.out) | exact HB.out)⟩
                                  · rw [if_neg c74] at H
                                    exact absurd H (by simp)
                                · rw [if_neg c73] at H
                                  have c73b0 : decide (x18_5 < (t315.length : Int)) = false := decide_eq_false c73
                                  clear c73
                                  replace H := Option.bind_eq_some_iff.mp H
                                  obtain ⟨t334, A790, H⟩ := H
                                  replace H : (some t334) = some r := H
                                  have A79 := Aside0.mk A790
                                  clear A790
                                  obtain rfl := Option.some.inj H
                                  obtain ⟨Ao80, co80, eo80⟩ := Kd.S_slice HO_11.out
                                  subst eo80
                                  obtain ⟨Ao81, co81, eo81⟩ := Kd.R_slice HO_4.out
                                  subst eo81
                                  go_wp2_with (first | ((with_reducible refine gate_callee (f := 51) rfl ?_); refine goesL_ (some 158) rfl rfl Try.func51 (by kernel_rfl) rfl #[.slice Ao65 t307.length co65, .slice Ao81 t300.length co81] rfl (by (try simp only [List.map_toArray, List.map_cons, List.map_nil]); first | done | rfl | (simp only [List.length_drop, List.length_take]; rfl)) ?_; (with_reducible refine (laws_rMember.calls k5 _ _ t307 _ _ t300 t334 _ ?side1 ?side2 ?side3 ?side4 A79.out).mono ?_); (case side1 => repeat (first | exact (Kd.S_reads' HO_7.out).2.2 | (with_reducible refine Kd.C_alloc ?_ _) | (with_reducible refine Kd.C_drewN ?_ _) | (with_reducible refine Kd.C_drew ?_))); (case side2 => exact (Kd.S_reads' HO_7.out).2.1); (case side3 => repeat (first | exact (Kd.R_reads' HO_4.out).2.2 | (with_reducible refine Kd.C_alloc ?_ _) | (with_reducible refine Kd.C_drewN ?_ _) | (with_reducible refine Kd.C_drew ?_))); (case side4 => exact (Kd.R_reads' HO_4.out).2.1); rintro e w' ⟨rfl, ⟨nd, rfl⟩⟩; refine ⟨_, rfl, ?_⟩))
                                  go_ret
                                  exact ⟨by first | rfl | (simp [errW_none, errW_some] <;> rfl) | (simp [*, errW_none, errW_some] <;> rfl), by repeat (first | (with_reducible first | exact HB.out | apply below_alloc | apply pw_below_drewN | apply below_drew1 | refine below_set ?_ GE299.out) | exact HB.out)⟩

/-- THE ONE PURE STATEMENT of laws_FnExtensions: yours. -/
def laws_FnExtensions.Pure : Prop := ∀ (l0 : List Int), l0.length ≤ maxLen → l0.length * 1 ≤ 140737488351232 → (∀ x ∈ l0, (Lit.int .u8 x).wf = true) → ∃ k, laws_FnExtensions.f k l0 = some true
theorem laws_FnExtensions.walk (P : laws_FnExtensions.Pure) (a0 : Option Addr) (len0 cap0 : Nat) (z0 : List Int) (w : World) (w0 : (a0 = none ∧ len0 = 0 ∧ cap0 = 0 ∧ z0 = []) ∨ ∃ x, a0 = some x ∧ len0 ≤ cap0 ∧ cap0 ≤ maxLen ∧ z0.length = cap0 ∧ (∀ i, i < z0.length → w.cell? (x.add i) = some (.int .u8 (z0.getD i 0))) ∧ ∀ n ∈ z0, (Lit.int .u8 n).wf = true) (y0 : len0 * 1 ≤ 140737488351232) :
    Calls Try.prog 12 #[.slice a0 len0 cap0] w fun e w' => e = .returned (.bool true) ∧ Below w.heap.size w w' := by
  obtain ⟨l0, rfl, hr0, hm0, hw0, hc0⟩ := ReadsInt.ofRowC w0
  obtain ⟨k, h⟩ := P l0 hm0 y0 hw0
  refine (laws_FnExtensions.calls k _ _ l0 true w (Kd.C_of_reads (d := (0 : Int)) (h1 := fun _ => rfl) hr0) hc0 h).mono ?_
  rintro e w' ⟨rfl, hd⟩
  exact ⟨rfl, hd⟩

end Go.Proofs.Ytfhbnmlmobpjgaa.PFnExtensions
