/- Each Go function that the law uses as a plain Lean function, and a proof that its code comes to what this function tells. No condition. -/
import Derived.Test.YtlneimpoholkhaaVPFnCloseOutx0
import Derived.Test.YtlneimpoholkhaaVPFnCloseOutx1
import Derived.Test.YtlneimpoholkhaaVPFnCloseOutx3
import Derived.Test.YtlneimpoholkhaaVPFnCloseOutx8
import Derived.Test.YtlneimpoholkhaaVPFnCloseOutx9
import Derived.Test.YtlneimpoholkhaaVPFnCloseOutx10
import Derived.Test.YtlneimpoholkhaaVPFnCloseOutx11
import Derived.Test.YtlneimpoholkhaaVPFnCloseOutx12
import Derived.Test.YtlneimpoholkhaaVPFnCloseOutx13
namespace Go.Proofs.Ytlneimpoholkhaa.PFnCloseOut
open Go.RowKit Go.Proofs.YtlneimpoholkhaaW.PrintWords Go.Proofs.YtlneimpoholkhaaW.PrintLast Go.Proofs.YtlneimpoholkhaaW.PrintMore
attribute [local go_sem] max2_int min2_int max_two min_two max_three min_three max_four min_four   -- for this text's walks alone
set_option linter.unusedVariables false
set_option linter.unusedSimpArgs false

/-! ### laws_FnCloseOut: function 7 -/
mutual
def laws_FnCloseOut.j0 : Nat → List Int → List Int → Int → Bool → Bool → Option (Bool)
 | 0, _, _, _, _, _ => none
 | k + 1, x0, x3, x5, x6, x56 => if x56 = true then (some false) else (if x6 = true then (laws_FnCloseOut.l0 k x0 x3 x5 0 0 0) else (laws_FnCloseOut.j2 k x0))
def laws_FnCloseOut.j2 : Nat → List Int → Option (Bool)
 | 0, _ => none
 | k + 1, x0 => (spec_DrawSetOff.f k x0).bind fun bt602 => ((impl_SetOff.f k bt602.1 bt602.2.1 bt602.2.2).bind fun bt609 => ((spec_SetOff.f k bt602.1 bt602.2.1 bt602.2.2).bind fun bt617 => (if (bt609.2.2.2 != bt617.2.2.2) = true then (laws_FnCloseOut.j3 k x0 bt602.1 bt602.2.1 bt602.2.2 bt609.1 bt609.2.1 bt609.2.2.1 bt609.2.2.2 true) else ((laws_vInts.f k bt609.2.1 bt617.2.1).bind fun t625 => (if t625 = true then ((laws_vInts.f k bt609.2.2.1 bt617.2.2.1).bind fun t626 => (laws_FnCloseOut.j3 k x0 bt602.1 bt602.2.1 bt602.2.2 bt609.1 bt609.2.1 bt609.2.2.1 bt609.2.2.2 (!t626))) else (laws_FnCloseOut.j3 k x0 bt602.1 bt602.2.1 bt602.2.2 bt609.1 bt609.2.1 bt609.2.2.1 bt609.2.2.2 true))))))
def laws_FnCloseOut.j3 : Nat → List Int → Int → List Int → List Int → Int → List Int → List Int → Bool → Bool → Option (Bool)
 | 0, _, _, _, _, _, _, _, _, _ => none
 | k + 1, x0, x12, x13, x14, x15, x16, x17, x18, x128 => if x128 = true then (some false) else (if x18 = true then ((laws_rSum.f k x14).bind fun t627 => ((laws_rSum.f k x17).bind fun t628 => ((laws_rSum.f k x13).bind fun t629 => ((laws_rSum.f k x16).bind fun t630 => (if (wrap64 (x12 - x15)) = (wrap64 ((wrap64 ((wrap64 (t627 - t628)) - t629)) + t630)) then (if x12 ≥ 0 then (if x15 < 0 then (laws_FnCloseOut.j4 k x0 true) else (if x12 < 0 then (laws_FnCloseOut.j4 k x0 (decide (x15 > 0))) else (laws_FnCloseOut.j4 k x0 false))) else (if x12 < 0 then (laws_FnCloseOut.j4 k x0 (decide (x15 > 0))) else (laws_FnCloseOut.j4 k x0 false))) else (laws_FnCloseOut.j4 k x0 true)))))) else (laws_FnCloseOut.j4 k x0 false))
def laws_FnCloseOut.j4 : Nat → List Int → Bool → Option (Bool)
 | 0, _, _ => none
 | k + 1, x0, x162 => if x162 = true then (some false) else ((spec_DrawEstateDividend.f k x0).bind fun bt631 => ((impl_EstateDividend.f k bt631.1 bt631.2).bind fun bt635 => ((spec_EstateDividend.f k bt631.1 bt631.2).bind fun bt639 => (if (bt635.2 != bt639.2) = true then (laws_FnCloseOut.j5 k bt631.1 bt631.2 bt635.1 bt635.2 bt639.1 bt639.2 true) else ((laws_vInts.f k bt635.1 bt639.1).bind fun t643 => (if t643 = true then (laws_FnCloseOut.j5 k bt631.1 bt631.2 bt635.1 bt635.2 bt639.1 bt639.2 (!bt635.2)) else (laws_FnCloseOut.j5 k bt631.1 bt631.2 bt635.1 bt635.2 bt639.1 bt639.2 true)))))))
def laws_FnCloseOut.j5 : Nat → Int → List Int → List Int → Bool → List Int → Bool → Bool → Option (Bool)
 | 0, _, _, _, _, _, _, _ => none
 | k + 1, x23, x24, x25, x26, x27, x28, x192 => if x192 = true then (if (x26 == x28) = true then ((laws_vInts.f k x25 x27).bind fun t644 => (some t644)) else (some false)) else ((laws_rSum.f k x24).bind fun t645 => (if x23 < t645 then ((laws_rSum.f k x25).bind fun t646 => (some (t646 == x23))) else ((laws_rSum.f k x25).bind fun t647 => (some (t647 == t645)))))
def laws_FnCloseOut.l0 : Nat → List Int → List Int → Int → Int → Int → Int → Option (Bool)
 | 0, _, _, _, _, _, _ => none
 | k + 1, x0, x3, x5, x9, x10, x11 => if x11 < (x3.length : Int) then (if 0 ≤ x11 then (if (rd x3 x11) < x5 then (if (rd x3 x11) > x5 then (laws_FnCloseOut.l0 k x0 x3 x5 (wrap64 (x9 + 1)) (wrap64 (x10 + 1)) (wrap64 (x11 + 1))) else (laws_FnCloseOut.l0 k x0 x3 x5 (wrap64 (x9 + 1)) x10 (wrap64 (x11 + 1)))) else (if (rd x3 x11) > x5 then (laws_FnCloseOut.l0 k x0 x3 x5 x9 (wrap64 (x10 + 1)) (wrap64 (x11 + 1))) else (laws_FnCloseOut.l0 k x0 x3 x5 x9 x10 (wrap64 (x11 + 1))))) else (none)) else (if x9 = (x3.length : Int) then (some false) else (if x10 = (x3.length : Int) then (some false) else (laws_FnCloseOut.j2 k x0)))
end
def laws_FnCloseOut.f (k : Nat) (l0 : List Int) : Option (Bool) := (laws_vBig.f l0).bind fun t590 => (if t590 = true then (some true) else ((spec_DrawQuoteValue.f k l0).bind fun bt591 => ((impl_QuoteValue.f k bt591.1 bt591.2).bind fun bt595 => ((spec_QuoteValue.f k bt591.1 bt591.2).bind fun bt597 => (if bt595.1 = bt597.1 then (laws_FnCloseOut.j0 k l0 bt591.1 bt595.1 bt595.2 (bt595.2 != bt597.2)) else (laws_FnCloseOut.j0 k l0 bt591.1 bt595.1 bt595.2 true))))))
theorem laws_FnCloseOut.mono_l : ∀ k, (∀ y0 y1 y2 y3 y4, LeO (laws_FnCloseOut.j0 k y0 y1 y2 y3 y4) (laws_FnCloseOut.j0 (k + 1) y0 y1 y2 y3 y4)) ∧ (∀ y0, LeO (laws_FnCloseOut.j2 k y0) (laws_FnCloseOut.j2 (k + 1) y0)) ∧ (∀ y0 y1 y2 y3 y4 y5 y6 y7 y8, LeO (laws_FnCloseOut.j3 k y0 y1 y2 y3 y4 y5 y6 y7 y8) (laws_FnCloseOut.j3 (k + 1) y0 y1 y2 y3 y4 y5 y6 y7 y8)) ∧ (∀ y0 y1, LeO (laws_FnCloseOut.j4 k y0 y1) (laws_FnCloseOut.j4 (k + 1) y0 y1)) ∧ (∀ y0 y1 y2 y3 y4 y5 y6, LeO (laws_FnCloseOut.j5 k y0 y1 y2 y3 y4 y5 y6) (laws_FnCloseOut.j5 (k + 1) y0 y1 y2 y3 y4 y5 y6)) ∧ (∀ y0 y1 y2 y3 y4 y5, LeO (laws_FnCloseOut.l0 k y0 y1 y2 y3 y4 y5) (laws_FnCloseOut.l0 (k + 1) y0 y1 y2 y3 y4 y5))
 | 0 => ⟨fun _ _ _ _ _ r h => by simp [laws_FnCloseOut.j0] at h, fun _ r h => by simp [laws_FnCloseOut.j2] at h, fun _ _ _ _ _ _ _ _ _ r h => by simp [laws_FnCloseOut.j3] at h, fun _ _ r h => by simp [laws_FnCloseOut.j4] at h, fun _ _ _ _ _ _ _ r h => by simp [laws_FnCloseOut.j5] at h, fun _ _ _ _ _ _ r h => by simp [laws_FnCloseOut.l0] at h⟩
 | k + 1 => by
  obtain ⟨ih0, ih1, ih2, ih3, ih4, ih5⟩ := laws_FnCloseOut.mono_l k
  refine ⟨?_, ?_, ?_, ?_, ?_, ?_⟩
  ·
   intro y0 y1 y2 y3 y4
   unfold laws_FnCloseOut.j0
   repeat' first
   | (with_reducible exact ih0 _ _ _ _ _)
   | (with_reducible exact ih1 _)
   | (with_reducible exact ih2 _ _ _ _ _ _ _ _ _)
   | (with_reducible exact ih3 _ _)
   | (with_reducible exact ih4 _ _ _ _ _ _ _)
   | (with_reducible exact ih5 _ _ _ _ _ _)
   | (with_reducible exact impl_EstateDividend.mono _ _ _)
   | (with_reducible exact impl_QuoteValue.mono _ _ _)
   | (with_reducible exact impl_SetOff.mono _ _ _ _)
   | (with_reducible exact laws_rSum.mono _ _)
   | (with_reducible exact laws_vInts.mono _ _ _)
   | (with_reducible exact spec_DrawEstateDividend.mono _ _)
   | (with_reducible exact spec_DrawQuoteValue.mono _ _)
   | (with_reducible exact spec_DrawSetOff.mono _ _)
   | (with_reducible exact spec_EstateDividend.mono _ _ _)
   | (with_reducible exact spec_QuoteValue.mono _ _ _)
   | (with_reducible exact spec_SetOff.mono _ _ _ _)
   | (with_reducible exact LeO.refl _)
   | (with_reducible exact LeO.none _)
   | (with_reducible refine LeO.ite ?_ ?_)
   | (with_reducible refine LeO.bind ?_ (fun _ => ?_))
   | exact ih0 _ _ _ _ _
   | exact ih1 _
   | exact ih2 _ _ _ _ _ _ _ _ _
   | exact ih3 _ _
   | exact ih4 _ _ _ _ _ _ _
   | exact ih5 _ _ _ _ _ _
   | exact impl_EstateDividend.mono _ _ _
   | exact impl_QuoteValue.mono _ _ _
   | exact impl_SetOff.mono _ _ _ _
   | exact laws_rSum.mono _ _
   | exact laws_vInts.mono _ _ _
   | exact spec_DrawEstateDividend.mono _ _
   | exact spec_DrawQuoteValue.mono _ _
   | exact spec_DrawSetOff.mono _ _
   | exact spec_EstateDividend.mono _ _ _
   | exact spec_QuoteValue.mono _ _ _
   | exact spec_SetOff.mono _ _ _ _
   | exact LeO.none _
   | refine LeO.ite ?_ ?_
   | refine LeO.bind ?_ (fun _ => ?_)
  ·
   intro y0
   unfold laws_FnCloseOut.j2
   repeat' first
   | (with_reducible exact ih0 _ _ _ _ _)
   | (with_reducible exact ih1 _)
   | (with_reducible exact ih2 _ _ _ _ _ _ _ _ _)
   | (with_reducible exact ih3 _ _)
   | (with_reducible exact ih4 _ _ _ _ _ _ _)
   | (with_reducible exact ih5 _ _ _ _ _ _)
   | (with_reducible exact impl_EstateDividend.mono _ _ _)
   | (with_reducible exact impl_QuoteValue.mono _ _ _)
   | (with_reducible exact impl_SetOff.mono _ _ _ _)
   | (with_reducible exact laws_rSum.mono _ _)
   | (with_reducible exact laws_vInts.mono _ _ _)
   | (with_reducible exact spec_DrawEstateDividend.mono _ _)
   | (with_reducible exact spec_DrawQuoteValue.mono _ _)
   | (with_reducible exact spec_DrawSetOff.mono _ _)
   | (with_reducible exact spec_EstateDividend.mono _ _ _)
   | (with_reducible exact spec_QuoteValue.mono _ _ _)
   | (with_reducible exact spec_SetOff.mono _ _ _ _)
   | (with_reducible exact LeO.refl _)
   | (with_reducible exact LeO.none _)
   | (with_reducible refine LeO.ite ?_ ?_)
   | (with_reducible refine LeO.bind ?_ (fun _ => ?_))
   | exact ih0 _ _ _ _ _
   | exact ih1 _
   | exact ih2 _ _ _ _ _ _ _ _ _
   | exact ih3 _ _
   | exact ih4 _ _ _ _ _ _ _
   | exact ih5 _ _ _ _ _ _
   | exact impl_EstateDividend.mono _ _ _
   | exact impl_QuoteValue.mono _ _ _
   | exact impl_SetOff.mono _ _ _ _
   | exact laws_rSum.mono _ _
   | exact laws_vInts.mono _ _ _
   | exact spec_DrawEstateDividend.mono _ _
   | exact spec_DrawQuoteValue.mono _ _
   | exact spec_DrawSetOff.mono _ _
   | exact spec_EstateDividend.mono _ _ _
   | exact spec_QuoteValue.mono _ _ _
   | exact spec_SetOff.mono _ _ _ _
   | exact LeO.none _
   | refine LeO.ite ?_ ?_
   | refine LeO.bind ?_ (fun _ => ?_)
  ·
   intro y0 y1 y2 y3 y4 y5 y6 y7 y8
   unfold laws_FnCloseOut.j3
   repeat' first
   | (with_reducible exact ih0 _ _ _ _ _)
   | (with_reducible exact ih1 _)
   | (with_reducible exact ih2 _ _ _ _ _ _ _ _ _)
   | (with_reducible exact ih3 _ _)
   | (with_reducible exact ih4 _ _ _ _ _ _ _)
   | (with_reducible exact ih5 _ _ _ _ _ _)
   | (with_reducible exact impl_EstateDividend.mono _ _ _)
   | (with_reducible exact impl_QuoteValue.mono _ _ _)
   | (with_reducible exact impl_SetOff.mono _ _ _ _)
   | (with_reducible exact laws_rSum.mono _ _)
   | (with_reducible exact laws_vInts.mono _ _ _)
   | (with_reducible exact spec_DrawEstateDividend.mono _ _)
   | (with_reducible exact spec_DrawQuoteValue.mono _ _)
   | (with_reducible exact spec_DrawSetOff.mono _ _)
   | (with_reducible exact spec_EstateDividend.mono _ _ _)
   | (with_reducible exact spec_QuoteValue.mono _ _ _)
   | (with_reducible exact spec_SetOff.mono _ _ _ _)
   | (with_reducible exact LeO.refl _)
   | (with_reducible exact LeO.none _)
   | (with_reducible refine LeO.ite ?_ ?_)
   | (with_reducible refine LeO.bind ?_ (fun _ => ?_))
   | exact ih0 _ _ _ _ _
   | exact ih1 _
   | exact ih2 _ _ _ _ _ _ _ _ _
   | exact ih3 _ _
   | exact ih4 _ _ _ _ _ _ _
   | exact ih5 _ _ _ _ _ _
   | exact impl_EstateDividend.mono _ _ _
   | exact impl_QuoteValue.mono _ _ _
   | exact impl_SetOff.mono _ _ _ _
   | exact laws_rSum.mono _ _
   | exact laws_vInts.mono _ _ _
   | exact spec_DrawEstateDividend.mono _ _
   | exact spec_DrawQuoteValue.mono _ _
   | exact spec_DrawSetOff.mono _ _
   | exact spec_EstateDividend.mono _ _ _
   | exact spec_QuoteValue.mono _ _ _
   | exact spec_SetOff.mono _ _ _ _
   | exact LeO.none _
   | refine LeO.ite ?_ ?_
   | refine LeO.bind ?_ (fun _ => ?_)
  ·
   intro y0 y1
   unfold laws_FnCloseOut.j4
   repeat' first
   | (with_reducible exact ih0 _ _ _ _ _)
   | (with_reducible exact ih1 _)
   | (with_reducible exact ih2 _ _ _ _ _ _ _ _ _)
   | (with_reducible exact ih3 _ _)
   | (with_reducible exact ih4 _ _ _ _ _ _ _)
   | (with_reducible exact ih5 _ _ _ _ _ _)
   | (with_reducible exact impl_EstateDividend.mono _ _ _)
   | (with_reducible exact impl_QuoteValue.mono _ _ _)
   | (with_reducible exact impl_SetOff.mono _ _ _ _)
   | (with_reducible exact laws_rSum.mono _ _)
   | (with_reducible exact laws_vInts.mono _ _ _)
   | (with_reducible exact spec_DrawEstateDividend.mono _ _)
   | (with_reducible exact spec_DrawQuoteValue.mono _ _)
   | (with_reducible exact spec_DrawSetOff.mono _ _)
   | (with_reducible exact spec_EstateDividend.mono _ _ _)
   | (with_reducible exact spec_QuoteValue.mono _ _ _)
   | (with_reducible exact spec_SetOff.mono _ _ _ _)
   | (with_reducible exact LeO.refl _)
   | (with_reducible exact LeO.none _)
   | (with_reducible refine LeO.ite ?_ ?_)
   | (with_reducible refine LeO.bind ?_ (fun _ => ?_))
   | exact ih0 _ _ _ _ _
   | exact ih1 _
   | exact ih2 _ _ _ _ _ _ _ _ _
   | exact ih3 _ _
   | exact ih4 _ _ _ _ _ _ _
   | exact ih5 _ _ _ _ _ _
   | exact impl_EstateDividend.mono _ _ _
   | exact impl_QuoteValue.mono _ _ _
   | exact impl_SetOff.mono _ _ _ _
   | exact laws_rSum.mono _ _
   | exact laws_vInts.mono _ _ _
   | exact spec_DrawEstateDividend.mono _ _
   | exact spec_DrawQuoteValue.mono _ _
   | exact spec_DrawSetOff.mono _ _
   | exact spec_EstateDividend.mono _ _ _
   | exact spec_QuoteValue.mono _ _ _
   | exact spec_SetOff.mono _ _ _ _
   | exact LeO.none _
   | refine LeO.ite ?_ ?_
   | refine LeO.bind ?_ (fun _ => ?_)
  ·
   intro y0 y1 y2 y3 y4 y5 y6
   unfold laws_FnCloseOut.j5
   repeat' first
   | (with_reducible exact ih0 _ _ _ _ _)
   | (with_reducible exact ih1 _)
   | (with_reducible exact ih2 _ _ _ _ _ _ _ _ _)
   | (with_reducible exact ih3 _ _)
   | (with_reducible exact ih4 _ _ _ _ _ _ _)
   | (with_reducible exact ih5 _ _ _ _ _ _)
   | (with_reducible exact impl_EstateDividend.mono _ _ _)
   | (with_reducible exact impl_QuoteValue.mono _ _ _)
   | (with_reducible exact impl_SetOff.mono _ _ _ _)
   | (with_reducible exact laws_rSum.mono _ _)
   | (with_reducible exact laws_vInts.mono _ _ _)
   | (with_reducible exact spec_DrawEstateDividend.mono _ _)
   | (with_reducible exact spec_DrawQuoteValue.mono _ _)
   | (with_reducible exact spec_DrawSetOff.mono _ _)
   | (with_reducible exact spec_EstateDividend.mono _ _ _)
   | (with_reducible exact spec_QuoteValue.mono _ _ _)
   | (with_reducible exact spec_SetOff.mono _ _ _ _)
   | (with_reducible exact LeO.refl _)
   | (with_reducible exact LeO.none _)
   | (with_reducible refine LeO.ite ?_ ?_)
   | (with_reducible refine LeO.bind ?_ (fun _ => ?_))
   | exact ih0 _ _ _ _ _
   | exact ih1 _
   | exact ih2 _ _ _ _ _ _ _ _ _
   | exact ih3 _ _
   | exact ih4 _ _ _ _ _ _ _
   | exact ih5 _ _ _ _ _ _
   | exact impl_EstateDividend.mono _ _ _
   | exact impl_QuoteValue.mono _ _ _
   | exact impl_SetOff.mono _ _ _ _
   | exact laws_rSum.mono _ _
   | exact laws_vInts.mono _ _ _
   | exact spec_DrawEstateDividend.mono _ _
   | exact spec_DrawQuoteValue.mono _ _
   | exact spec_DrawSetOff.mono _ _
   | exact spec_EstateDividend.mono _ _ _
   | exact spec_QuoteValue.mono _ _ _
   | exact spec_SetOff.mono _ _ _ _
   | exact LeO.none _
   | refine LeO.ite ?_ ?_
   | refine LeO.bind ?_ (fun _ => ?_)
  ·
   intro y0 y1 y2 y3 y4 y5
   unfold laws_FnCloseOut.l0
   repeat' first
   | (with_reducible exact ih0 _ _ _ _ _)
   | (with_reducible exact ih1 _)
   | (with_reducible exact ih2 _ _ _ _ _ _ _ _ _)
   | (with_reducible exact ih3 _ _)
   | (with_reducible exact ih4 _ _ _ _ _ _ _)
   | (with_reducible exact ih5 _ _ _ _ _ _)
   | (with_reducible exact impl_EstateDividend.mono _ _ _)
   | (with_reducible exact impl_QuoteValue.mono _ _ _)
   | (with_reducible exact impl_SetOff.mono _ _ _ _)
   | (with_reducible exact laws_rSum.mono _ _)
   | (with_reducible exact laws_vInts.mono _ _ _)
   | (with_reducible exact spec_DrawEstateDividend.mono _ _)
   | (with_reducible exact spec_DrawQuoteValue.mono _ _)
   | (with_reducible exact spec_DrawSetOff.mono _ _)
   | (with_reducible exact spec_EstateDividend.mono _ _ _)
   | (with_reducible exact spec_QuoteValue.mono _ _ _)
   | (with_reducible exact spec_SetOff.mono _ _ _ _)
   | (with_reducible exact LeO.refl _)
   | (with_reducible exact LeO.none _)
   | (with_reducible refine LeO.ite ?_ ?_)
   | (with_reducible refine LeO.bind ?_ (fun _ => ?_))
   | exact ih0 _ _ _ _ _
   | exact ih1 _
   | exact ih2 _ _ _ _ _ _ _ _ _
   | exact ih3 _ _
   | exact ih4 _ _ _ _ _ _ _
   | exact ih5 _ _ _ _ _ _
   | exact impl_EstateDividend.mono _ _ _
   | exact impl_QuoteValue.mono _ _ _
   | exact impl_SetOff.mono _ _ _ _
   | exact laws_rSum.mono _ _
   | exact laws_vInts.mono _ _ _
   | exact spec_DrawEstateDividend.mono _ _
   | exact spec_DrawQuoteValue.mono _ _
   | exact spec_DrawSetOff.mono _ _
   | exact spec_EstateDividend.mono _ _ _
   | exact spec_QuoteValue.mono _ _ _
   | exact spec_SetOff.mono _ _ _ _
   | exact LeO.none _
   | refine LeO.ite ?_ ?_
   | refine LeO.bind ?_ (fun _ => ?_)
theorem laws_FnCloseOut.mono : ∀ a0 k, LeO (laws_FnCloseOut.f k a0) (laws_FnCloseOut.f (k + 1) a0) := by
 intro a0 k
 obtain ⟨ih0, ih1, ih2, ih3, ih4, ih5⟩ := laws_FnCloseOut.mono_l k
 unfold laws_FnCloseOut.f
 repeat' first
  | (with_reducible exact ih0 _ _ _ _ _)
  | (with_reducible exact ih1 _)
  | (with_reducible exact ih2 _ _ _ _ _ _ _ _ _)
  | (with_reducible exact ih3 _ _)
  | (with_reducible exact ih4 _ _ _ _ _ _ _)
  | (with_reducible exact ih5 _ _ _ _ _ _)
  | (with_reducible exact impl_EstateDividend.mono _ _ _)
  | (with_reducible exact impl_QuoteValue.mono _ _ _)
  | (with_reducible exact impl_SetOff.mono _ _ _ _)
  | (with_reducible exact laws_rSum.mono _ _)
  | (with_reducible exact laws_vInts.mono _ _ _)
  | (with_reducible exact spec_DrawEstateDividend.mono _ _)
  | (with_reducible exact spec_DrawQuoteValue.mono _ _)
  | (with_reducible exact spec_DrawSetOff.mono _ _)
  | (with_reducible exact spec_EstateDividend.mono _ _ _)
  | (with_reducible exact spec_QuoteValue.mono _ _ _)
  | (with_reducible exact spec_SetOff.mono _ _ _ _)
  | (with_reducible exact LeO.refl _)
  | (with_reducible exact LeO.none _)
  | (with_reducible refine LeO.ite ?_ ?_)
  | (with_reducible refine LeO.bind ?_ (fun _ => ?_))
  | exact ih0 _ _ _ _ _
  | exact ih1 _
  | exact ih2 _ _ _ _ _ _ _ _ _
  | exact ih3 _ _
  | exact ih4 _ _ _ _ _ _ _
  | exact ih5 _ _ _ _ _ _
  | exact impl_EstateDividend.mono _ _ _
  | exact impl_QuoteValue.mono _ _ _
  | exact impl_SetOff.mono _ _ _ _
  | exact laws_rSum.mono _ _
  | exact laws_vInts.mono _ _ _
  | exact spec_DrawEstateDividend.mono _ _
  | exact spec_DrawQuoteValue.mono _ _
  | exact spec_DrawSetOff.mono _ _
  | exact spec_EstateDividend.mono _ _ _
  | exact spec_QuoteValue.mono _ _ _
  | exact spec_SetOff.mono _ _ _ _
  | exact LeO.none _
  | refine LeO.ite ?_ ?_
  | refine LeO.bind ?_ (fun _ => ?_)
set_option maxHeartbeats 8000000 in
set_option maxRecDepth 100000 in
theorem laws_FnCloseOut.calls (k : Nat) (A0 : Option Addr) (c0 : Nat) (l0 : List Int) (r : Bool) (w : World) (hr0 : Kd.C (Kd.int .u8) w A0 l0.length l0) (hc0 : l0.length ≤ c0) (h : laws_FnCloseOut.f k l0 = some r) :
 Calls Try.prog 7 #[.slice A0 l0.length c0] w fun e w' => e = .returned (.bool r) ∧ Below w.heap.size w w' := by
 have HR0 := Aside0.mk hr0
 have HC0 := Aside0.mk hc0
 clear hr0 hc0
 have HB := Aside0.mk (Below.refl w.heap.size w)
 have H : ((laws_vBig.f l0).bind fun t590 => (if t590 = true then (some true) else ((spec_DrawQuoteValue.f k l0).bind fun bt591 => ((impl_QuoteValue.f k bt591.1 bt591.2).bind fun bt595 => ((spec_QuoteValue.f k bt591.1 bt591.2).bind fun bt597 => (if bt595.1 = bt597.1 then (laws_FnCloseOut.j0 k l0 bt591.1 bt595.1 bt595.2 (bt595.2 != bt597.2)) else (laws_FnCloseOut.j0 k l0 bt591.1 bt595.1 bt595.2 true))))))) = some r := h
 clear h
 replace H := Option.bind_eq_some_iff.mp H
 obtain ⟨t590, A20, H⟩ := H
 replace H : (if t590 = true then (some true) else ((spec_DrawQuoteValue.f k l0).bind fun bt591 => ((impl_QuoteValue.f k bt591.1 bt591.2).bind fun bt595 => ((spec_QuoteValue.f k bt591.1 bt591.2).bind fun bt597 => (if bt595.1 = bt597.1 then (laws_FnCloseOut.j0 k l0 bt591.1 bt595.1 bt595.2 (bt595.2 != bt597.2)) else (laws_FnCloseOut.j0 k l0 bt591.1 bt595.1 bt595.2 true)))))) = some r := H
 have A2 := Aside0.mk A20
 clear A20
 by_cases c3 : t590 = true
 ·
  subst c3
  have H1 : (some true) = some r := by rw [if_pos rfl] at H; exact H
  clear H
  have H := H1
  clear H1
  obtain rfl := Option.some.inj H
  go_enter Try.func7, Try.ntmps7
  go_wp2_with (first | ((with_reducible refine gate_callee (f := 15) rfl ?_); refine goesL_ (some 31) rfl rfl Try.func15 (by kernel_rfl) rfl #[.slice A0 l0.length c0] rfl (by (try simp only [List.map_toArray, List.map_cons, List.map_nil]); first | done | rfl | (simp only [List.length_drop, List.length_take]; rfl)) ?_; (with_reducible refine (laws_vBig.calls _ _ l0 true _ ?side1 ?side2 A2.out).mono ?_); (case side1 => repeat (first | exact HR0.out | (with_reducible refine Kd.C_alloc ?_ _) | (with_reducible refine Kd.C_drewN ?_ _) | (with_reducible refine Kd.C_drew ?_))); (case side2 => exact HC0.out); rintro e w' ⟨rfl, ⟨nd, rfl⟩⟩; refine ⟨_, rfl, ?_⟩))
  go_ret
  exact ⟨by first | rfl | (simp [errW_none, errW_some] <;> rfl) | (simp [*, errW_none, errW_some] <;> rfl), bB_ HB.out⟩
 ·
  replace c3 := Bool.eq_false_iff.mpr c3
  subst c3
  have H1 : ((spec_DrawQuoteValue.f k l0).bind fun bt591 => ((impl_QuoteValue.f k bt591.1 bt591.2).bind fun bt595 => ((spec_QuoteValue.f k bt591.1 bt591.2).bind fun bt597 => (if bt595.1 = bt597.1 then (laws_FnCloseOut.j0 k l0 bt591.1 bt595.1 bt595.2 (bt595.2 != bt597.2)) else (laws_FnCloseOut.j0 k l0 bt591.1 bt595.1 bt595.2 true))))) = some r := by rw [if_neg (show ¬ (false = true) by decide)] at H; exact H
  clear H
  have H := H1
  clear H1
  replace H := Option.bind_eq_some_iff.mp H
  obtain ⟨⟨t591, t592⟩, A40, H⟩ := H
  replace H : ((impl_QuoteValue.f k t591 t592).bind fun bt595 => ((spec_QuoteValue.f k t591 t592).bind fun bt597 => (if bt595.1 = bt597.1 then (laws_FnCloseOut.j0 k l0 t591 bt595.1 bt595.2 (bt595.2 != bt597.2)) else (laws_FnCloseOut.j0 k l0 t591 bt595.1 bt595.2 true)))) = some r := H
  have A4 := Aside0.mk A40
  clear A40
  replace H := Option.bind_eq_some_iff.mp H
  obtain ⟨⟨t595, t596⟩, A50, H⟩ := H
  replace H : ((spec_QuoteValue.f k t591 t592).bind fun bt597 => (if t595 = bt597.1 then (laws_FnCloseOut.j0 k l0 t591 t595 t596 (t596 != bt597.2)) else (laws_FnCloseOut.j0 k l0 t591 t595 t596 true))) = some r := H
  have A5 := Aside0.mk A50
  clear A50
  replace H := Option.bind_eq_some_iff.mp H
  obtain ⟨⟨t597, t598⟩, A60, H⟩ := H
  replace H : (if t595 = t597 then (laws_FnCloseOut.j0 k l0 t591 t595 t596 (t596 != t598)) else (laws_FnCloseOut.j0 k l0 t591 t595 t596 true)) = some r := H
  have A6 := Aside0.mk A60
  clear A60
  have HC7 := Aside0.mk H
  clear H
  go_enter Try.func7, Try.ntmps7
  go_upto_region 6 with (first | ((with_reducible refine gate_callee (f := 15) rfl ?_); refine goesL_ (some 31) rfl rfl Try.func15 (by kernel_rfl) rfl #[.slice A0 l0.length c0] rfl (by (try simp only [List.map_toArray, List.map_cons, List.map_nil]); first | done | rfl | (simp only [List.length_drop, List.length_take]; rfl)) ?_; (with_reducible refine (laws_vBig.calls _ _ l0 false _ ?side1 ?side2 A2.out).mono ?_); (case side1 => repeat (first | exact HR0.out | (with_reducible refine Kd.C_alloc ?_ _) | (with_reducible refine Kd.C_drewN ?_ _) | (with_reducible refine Kd.C_drew ?_))); (case side2 => exact HC0.out); rintro e w' ⟨rfl, ⟨nd, rfl⟩⟩; refine ⟨_, rfl, ?_⟩) | ((with_reducible refine gate_callee (f := 28) rfl ?_); refine goesL_ (some 34) rfl rfl Try.func28 (by kernel_rfl) rfl #[.slice A0 l0.length c0] rfl (by (try simp only [List.map_toArray, List.map_cons, List.map_nil]); first | done | rfl | (simp only [List.length_drop, List.length_take]; rfl)) ?_; (with_reducible refine (spec_DrawQuoteValue.calls k _ _ l0 t591 t592 _ ?side1 ?side2 A4.out).mono ?_); (case side1 => repeat (first | exact HR0.out | (with_reducible refine Kd.C_alloc ?_ _) | (with_reducible refine Kd.C_drewN ?_ _) | (with_reducible refine Kd.C_drew ?_))); (case side2 => exact HC0.out); rintro e w8 ⟨v593, rfl, ho0, hb⟩; refine ⟨_, rfl, ?_⟩; have n0_ := Aside0.mk (Kd.R_lower ho0 (below_size (bB_ HB.out))); have n1_ := Aside0.mk (below_step (bB_ HB.out) hb); clear HB; have HO594 := n0_; have HB := n1_; clear n0_ n1_; (try clear hb); (try clear hb2); (try clear hk); (try clear hi); (try clear ho0); obtain ⟨Ao9, co9, eo9⟩ := Kd.R_slice HO594.out; subst eo9) | ((with_reducible refine gate_callee (f := 27) rfl ?_); refine goesL_ (some 40) rfl rfl Try.func27 (by kernel_rfl) rfl #[.slice Ao9 t591.length co9, .int .i64 t592] rfl (by (try simp only [List.map_toArray, List.map_cons, List.map_nil]); first | done | rfl | (simp only [List.length_drop, List.length_take]; rfl)) ?_; (with_reducible refine (impl_QuoteValue.calls k _ _ t591 t592 t595 t596 _ ?side1 ?side2 A5.out).mono ?_); (case side1 => repeat (first | exact (Kd.R_reads' HO594.out).2.2 | (with_reducible refine Kd.C_alloc ?_ _) | (with_reducible refine Kd.C_drewN ?_ _) | (with_reducible refine Kd.C_drew ?_))); (case side2 => exact (Kd.R_reads' HO594.out).2.1); rintro e w10 ⟨rfl, hb⟩; refine ⟨_, rfl, ?_⟩; have n0_ := Aside0.mk (Kd.R_below (bR_ HO594.out) hb); have n1_ := Aside0.mk (below_step (bB_ HB.out) hb); clear HO594; clear HB; have HO594 := n0_; have HB := n1_; clear n0_ n1_; (try clear hb); (try clear hb2); (try clear hk); (try clear hi)) | ((with_reducible refine gate_callee (f := 26) rfl ?_); refine goesL_ (some 46) rfl rfl Try.func26 (by kernel_rfl) rfl #[.slice Ao9 t591.length co9, .int .i64 t592] rfl (by (try simp only [List.map_toArray, List.map_cons, List.map_nil]); first | done | rfl | (simp only [List.length_drop, List.length_take]; rfl)) ?_; (with_reducible refine (spec_QuoteValue.calls k _ _ t591 t592 t597 t598 _ ?side1 ?side2 A6.out).mono ?_); (case side1 => repeat (first | exact (Kd.R_reads' HO594.out).2.2 | (with_reducible refine Kd.C_alloc ?_ _) | (with_reducible refine Kd.C_drewN ?_ _) | (with_reducible refine Kd.C_drew ?_))); (case side2 => exact (Kd.R_reads' HO594.out).2.1); rintro e w11 ⟨rfl, hb⟩; refine ⟨_, rfl, ?_⟩; have n0_ := Aside0.mk (Kd.R_below (bR_ HO594.out) hb); have n1_ := Aside0.mk (below_step (bB_ HB.out) hb); clear HO594; clear HB; have HO594 := n0_; have HB := n1_; clear n0_ n1_; (try clear hb); (try clear hb2); (try clear hk); (try clear hi)))
  (try simp only [Act.put, List.setIfInBounds_toArray, List.set_cons_zero, List.set_cons_succ])
  go_cut [56] (fun v56 wc => ∃ (kq : Nat) (x56_6 : Bool), v56 = .bool x56_6 ∧ Aside0 (laws_FnCloseOut.j0 kq l0 t591 t595 t596 x56_6 = some r) ∧ Aside0 (kq ≤ k) ∧ Aside0 (Kd.R (Kd.int .i64) 3 wc w.heap.size (fun _ => True) (.slice Ao9 t591.length co9) t591) ∧ Aside0 (Below w.heap.size w wc))
  case first => as_aux_lemma =>
   have H := HC7.out
   clear HC7
   by_cases c12 : t595 = t597
   ·
    rw [if_pos c12] at H
    have c12b0 : (t595 == t597) = true := beq_iff_eq.mpr c12
    have c12b1 : (t595 != t597) = false := bne_eq_false_iff_eq.mpr c12
    clear c12
    (first | rw [c12b0] | (simp only [i64_w, i32_w]; rw [c12b0]) | skip)
    have H' := Aside0.mk H
    clear H
    go_wp2
    go_meet
    case rel => exact ⟨_, ((t596 != t598)), (by first | rfl | (simp; done) | (simp [*]; done)), H', ⟨by first | omega | exact Nat.le_refl _⟩, ⟨bR_ HO594.out⟩, ⟨bB_ HB.out⟩⟩
   ·
    rw [if_neg c12] at H
    have c12b0 : (t595 == t597) = false := beq_eq_false_iff_ne.mpr c12
    have c12b1 : (t595 != t597) = true := bne_iff_ne.mpr c12
    (first | rw [c12b0] | (simp only [i64_w, i32_w]; rw [c12b0]) | skip)
    have H' := Aside0.mk H
    clear H
    go_wp2
    go_meet
    case rel => exact ⟨_, (true), (by first | rfl | (simp; done) | (simp [*]; done)), H', ⟨by first | omega | exact Nat.le_refl _⟩, ⟨bR_ HO594.out⟩, ⟨bB_ HB.out⟩⟩
  case rest => as_aux_lemma =>
   clear HC7
   try clear c1
   try clear c2
   try clear p2
   try clear c3
   try clear c7
   try clear c12
   try clear c12b0
   try clear c12b1
   obtain ⟨kq, x56_6, rfl, HA, HJ6, HO_3, HB⟩ := hcut
   cases kq with
   | zero => exact absurd HA.out (by simp [laws_FnCloseOut.j0])
   | succ kj6 =>
    have H := HA.out
    clear HA
    simp only [laws_FnCloseOut.j0] at H
    by_cases c13 : x56_6 = true
    ·
     subst c13
     have H1 : (some false) = some r := by rw [if_pos rfl] at H; exact H
     clear H
     have H := H1
     clear H1
     obtain rfl := Option.some.inj H
     go_wp2
     go_ret
     exact ⟨by first | rfl | (simp [errW_none, errW_some] <;> rfl) | (simp [*, errW_none, errW_some] <;> rfl), bB_ HB.out⟩
    ·
     replace c13 := Bool.eq_false_iff.mpr c13
     subst c13
     have H1 : (if t596 = true then (laws_FnCloseOut.l0 kj6 l0 t591 t595 0 0 0) else (laws_FnCloseOut.j2 kj6 l0)) = some r := by rw [if_neg (show ¬ (false = true) by decide)] at H; exact H
     clear H
     have H := H1
     clear H1
     have HC14 := Aside0.mk H
     clear H
     go_upto_if 57 with (fail)
     go_cut [] (fun wc => ∃ (kq : Nat), Aside0 (laws_FnCloseOut.j2 kq l0 = some r) ∧ Aside0 (kq ≤ kj6) ∧ Aside0 (Below w.heap.size w wc))
     case first => as_aux_lemma =>
      have H := HC14.out
      clear HC14
      by_cases c15 : t596 = true
      ·
       subst c15
       have H1 : (laws_FnCloseOut.l0 kj6 l0 t591 t595 0 0 0) = some r := by rw [if_pos rfl] at H; exact H
       clear H
       have H := H1
       clear H1
       have H' := Aside0.mk H
       clear H
       go_wp2
       go_loopg [9, 10, 11] kj6 (fun kq v9 v10 v11 w' => ∃ (x9_2 : Int) (x10_2 : Int) (x11_2 : Int), v9 = .int .i64 x9_2 ∧ v10 = .int .i64 x10_2 ∧ v11 = .int .i64 x11_2 ∧ Aside0 (laws_FnCloseOut.l0 kq l0 t591 t595 x9_2 x10_2 x11_2 = some r) ∧ Aside0 (kq ≤ kj6) ∧ Aside0 (Kd.R (Kd.int .i64) 3 w' w.heap.size (fun _ => True) (.slice Ao9 t591.length co9) t591) ∧ Aside0 (Below w.heap.size w w'))
       case atStart => exact ⟨(0), (0), (0), (by first | rfl | (simp; done) | (simp [*]; done)), (by first | rfl | (simp; done) | (simp [*]; done)), (by first | rfl | (simp; done) | (simp [*]; done)), H', ⟨Nat.le_refl _⟩, ⟨bR_ HO_3.out⟩, ⟨bB_ HB.out⟩⟩
       case round => as_aux_lemma =>
        clear H'
        try clear c1
        try clear c2
        try clear p2
        try clear c3
        try clear c7
        try clear c12
        try clear c12b0
        try clear c12b1
        try clear c13
        try clear c15
        try clear p2
        obtain ⟨x9_2, x10_2, x11_2, rfl, rfl, rfl, HA, HK2, HO_3, HB⟩ := hrel
        cases gk with
        | zero => exact absurd HA.out (by simp [laws_FnCloseOut.l0])
        | succ k2 =>
         have H := HA.out
         clear HA
         simp only [laws_FnCloseOut.l0] at H
         by_cases c16 : x11_2 < (t591.length : Int)
         ·
          rw [if_pos c16] at H
          have c16b0 : decide (x11_2 < (t591.length : Int)) = true := decide_eq_true c16
          clear c16
          (first | rw [c16b0] | (simp only [i64_w, i32_w]; rw [c16b0]) | skip)
          by_cases c17 : 0 ≤ x11_2
          ·
           rw [if_pos c17] at H
           have c17b0 : decide (0 ≤ x11_2) = true := decide_eq_true c17
           clear c17
           by_cases c18 : (rd t591 x11_2) < t595
           ·
            rw [if_pos c18] at H
            have c18b0 : decide ((rd t591 x11_2) < t595) = true := decide_eq_true c18
            clear c18
            by_cases c19 : (rd t591 x11_2) > t595
            ·
             rw [if_pos c19] at H
             have c19b0 : decide (t595 < (rd t591 x11_2)) = true := decide_eq_true c19
             clear c19
             have H' := Aside0.mk H
             clear H
             have p599 : 0 ≤ (x11_2 : Int) := of_decide_eq_true (by first | (with_reducible assumption) | assumption)
             have q599 : x11_2 < (t591.length : Int) := of_decide_eq_true (by first | (with_reducible assumption) | assumption)
             obtain ⟨ad599, e599, hx599_0⟩ := Kd.at_int (Kd.R_reads' HO_3.out).2.2 x11_2 p599 q599
             cases e599
             replace p599 := eq_true p599
             replace q599 := eq_true q599
             have p600 : 0 ≤ (x11_2 : Int) := of_decide_eq_true (by first | (with_reducible assumption) | assumption)
             have q600 : x11_2 < (t591.length : Int) := of_decide_eq_true (by first | (with_reducible assumption) | assumption)
             obtain ⟨ad600, e600, hx600_0⟩ := Kd.at_int (Kd.R_reads' HO_3.out).2.2 x11_2 p600 q600
             obtain rfl : ad599 = ad600 := (by injection e600)
             replace p600 := eq_true p600
             replace q600 := eq_true q600
             go_wp2
             go_roundg k2
             case measure => have := HJ6.out; have := HK2.out; omega
             case rel => exact ⟨(wrap64 (x9_2 + 1)), (wrap64 (x10_2 + 1)), (wrap64 (x11_2 + 1)), (by first | rfl | (simp; done) | (simp [*]; done)), (by first | rfl | (simp; done) | (simp [*]; done)), (by first | rfl | (simp; done) | (simp [*]; done)), H', ⟨by have := HJ6.out; have := HK2.out; omega⟩, ⟨bR_ HO_3.out⟩, ⟨bB_ HB.out⟩⟩
            ·
             rw [if_neg c19] at H
             have c19b0 : decide (t595 < (rd t591 x11_2)) = false := decide_eq_false c19
             clear c19
             have H' := Aside0.mk H
             clear H
             have p599 : 0 ≤ (x11_2 : Int) := of_decide_eq_true (by first | (with_reducible assumption) | assumption)
             have q599 : x11_2 < (t591.length : Int) := of_decide_eq_true (by first | (with_reducible assumption) | assumption)
             obtain ⟨ad599, e599, hx599_0⟩ := Kd.at_int (Kd.R_reads' HO_3.out).2.2 x11_2 p599 q599
             cases e599
             replace p599 := eq_true p599
             replace q599 := eq_true q599
             have p600 : 0 ≤ (x11_2 : Int) := of_decide_eq_true (by first | (with_reducible assumption) | assumption)
             have q600 : x11_2 < (t591.length : Int) := of_decide_eq_true (by first | (with_reducible assumption) | assumption)
             obtain ⟨ad600, e600, hx600_0⟩ := Kd.at_int (Kd.R_reads' HO_3.out).2.2 x11_2 p600 q600
             obtain rfl : ad599 = ad600 := (by injection e600)
             replace p600 := eq_true p600
             replace q600 := eq_true q600
             go_wp2
             go_roundg k2
             case measure => have := HJ6.out; have := HK2.out; omega
             case rel => exact ⟨(wrap64 (x9_2 + 1)), (x10_2), (wrap64 (x11_2 + 1)), (by first | rfl | (simp; done) | (simp [*]; done)), (by first | rfl | (simp; done) | (simp [*]; done)), (by first | rfl | (simp; done) | (simp [*]; done)), H', ⟨by have := HJ6.out; have := HK2.out; omega⟩, ⟨bR_ HO_3.out⟩, ⟨bB_ HB.out⟩⟩
           ·
            rw [if_neg c18] at H
            have c18b0 : decide ((rd t591 x11_2) < t595) = false := decide_eq_false c18
            clear c18
            by_cases c20 : (rd t591 x11_2) > t595
            ·
             rw [if_pos c20] at H
             have c20b0 : decide (t595 < (rd t591 x11_2)) = true := decide_eq_true c20
             clear c20
             have H' := Aside0.mk H
             clear H
             have p599 : 0 ≤ (x11_2 : Int) := of_decide_eq_true (by first | (with_reducible assumption) | assumption)
             have q599 : x11_2 < (t591.length : Int) := of_decide_eq_true (by first | (with_reducible assumption) | assumption)
             obtain ⟨ad599, e599, hx599_0⟩ := Kd.at_int (Kd.R_reads' HO_3.out).2.2 x11_2 p599 q599
             cases e599
             replace p599 := eq_true p599
             replace q599 := eq_true q599
             have p601 : 0 ≤ (x11_2 : Int) := of_decide_eq_true (by first | (with_reducible assumption) | assumption)
             have q601 : x11_2 < (t591.length : Int) := of_decide_eq_true (by first | (with_reducible assumption) | assumption)
             obtain ⟨ad601, e601, hx601_0⟩ := Kd.at_int (Kd.R_reads' HO_3.out).2.2 x11_2 p601 q601
             obtain rfl : ad599 = ad601 := (by injection e601)
             replace p601 := eq_true p601
             replace q601 := eq_true q601
             go_wp2
             go_roundg k2
             case measure => have := HJ6.out; have := HK2.out; omega
             case rel => exact ⟨(x9_2), (wrap64 (x10_2 + 1)), (wrap64 (x11_2 + 1)), (by first | rfl | (simp; done) | (simp [*]; done)), (by first | rfl | (simp; done) | (simp [*]; done)), (by first | rfl | (simp; done) | (simp [*]; done)), H', ⟨by have := HJ6.out; have := HK2.out; omega⟩, ⟨bR_ HO_3.out⟩, ⟨bB_ HB.out⟩⟩
            ·
             rw [if_neg c20] at H
             have c20b0 : decide (t595 < (rd t591 x11_2)) = false := decide_eq_false c20
             clear c20
             have H' := Aside0.mk H
             clear H
             have p599 : 0 ≤ (x11_2 : Int) := of_decide_eq_true (by first | (with_reducible assumption) | assumption)
             have q599 : x11_2 < (t591.length : Int) := of_decide_eq_true (by first | (with_reducible assumption) | assumption)
             obtain ⟨ad599, e599, hx599_0⟩ := Kd.at_int (Kd.R_reads' HO_3.out).2.2 x11_2 p599 q599
             cases e599
             replace p599 := eq_true p599
             replace q599 := eq_true q599
             have p601 : 0 ≤ (x11_2 : Int) := of_decide_eq_true (by first | (with_reducible assumption) | assumption)
             have q601 : x11_2 < (t591.length : Int) := of_decide_eq_true (by first | (with_reducible assumption) | assumption)
             obtain ⟨ad601, e601, hx601_0⟩ := Kd.at_int (Kd.R_reads' HO_3.out).2.2 x11_2 p601 q601
             obtain rfl : ad599 = ad601 := (by injection e601)
             replace p601 := eq_true p601
             replace q601 := eq_true q601
             go_wp2
             go_roundg k2
             case measure => have := HJ6.out; have := HK2.out; omega
             case rel => exact ⟨(x9_2), (x10_2), (wrap64 (x11_2 + 1)), (by first | rfl | (simp; done) | (simp [*]; done)), (by first | rfl | (simp; done) | (simp [*]; done)), (by first | rfl | (simp; done) | (simp [*]; done)), H', ⟨by have := HJ6.out; have := HK2.out; omega⟩, ⟨bR_ HO_3.out⟩, ⟨bB_ HB.out⟩⟩
          ·
           rw [if_neg c17] at H
           exact absurd H (by simp)
         ·
          rw [if_neg c16] at H
          have c16b0 : decide (x11_2 < (t591.length : Int)) = false := decide_eq_false c16
          clear c16
          (first | rw [c16b0] | (simp only [i64_w, i32_w]; rw [c16b0]) | skip)
          by_cases c21 : x9_2 = (t591.length : Int)
          ·
           rw [if_pos c21] at H
           have c21b0 : (x9_2 == (t591.length : Int)) = true := beq_iff_eq.mpr c21
           have c21b1 : (x9_2 != (t591.length : Int)) = false := bne_eq_false_iff_eq.mpr c21
           clear c21
           obtain rfl := Option.some.inj H
           go_wp2
           go_ret
           exact ⟨by first | rfl | (simp [errW_none, errW_some] <;> rfl) | (simp [*, errW_none, errW_some] <;> rfl), bB_ HB.out⟩
          ·
           rw [if_neg c21] at H
           have c21b0 : (x9_2 == (t591.length : Int)) = false := beq_eq_false_iff_ne.mpr c21
           have c21b1 : (x9_2 != (t591.length : Int)) = true := bne_iff_ne.mpr c21
           by_cases c22 : x10_2 = (t591.length : Int)
           ·
            rw [if_pos c22] at H
            have c22b0 : (x10_2 == (t591.length : Int)) = true := beq_iff_eq.mpr c22
            have c22b1 : (x10_2 != (t591.length : Int)) = false := bne_eq_false_iff_eq.mpr c22
            clear c22
            obtain rfl := Option.some.inj H
            go_wp2
            go_ret
            exact ⟨by first | rfl | (simp [errW_none, errW_some] <;> rfl) | (simp [*, errW_none, errW_some] <;> rfl), bB_ HB.out⟩
           ·
            rw [if_neg c22] at H
            have c22b0 : (x10_2 == (t591.length : Int)) = false := beq_eq_false_iff_ne.mpr c22
            have c22b1 : (x10_2 != (t591.length : Int)) = true := bne_iff_ne.mpr c22
            have H' := Aside0.mk H
            clear H
            go_wp2
            go_meet
            case rel => exact ⟨_, H', ⟨by have := HJ6.out; have := HK2.out; first | omega | exact Nat.le_refl _⟩, ⟨bB_ HB.out⟩⟩
      ·
       replace c15 := Bool.eq_false_iff.mpr c15
       subst c15
       have H1 : (laws_FnCloseOut.j2 kj6 l0) = some r := by rw [if_neg (show ¬ (false = true) by decide)] at H; exact H
       clear H
       have H := H1
       clear H1
       have H' := Aside0.mk H
       clear H
       go_wp2
       go_meet
       case rel => exact ⟨_, H', ⟨by have := HJ6.out; first | omega | exact Nat.le_refl _⟩, ⟨bB_ HB.out⟩⟩
     case rest => as_aux_lemma =>
      clear HC14
      try clear c1
      try clear c2
      try clear p2
      try clear c3
      try clear p5
      try clear q5
      try clear hx5
      try clear p6
      try clear q6
      try clear hx6
      try clear c7
      try clear c12
      try clear c12b0
      try clear c12b1
      try clear c13
      try clear c15
      try clear c16
      try clear c16b0
      try clear c17
      try clear c17b0
      try clear c18
      try clear c18b0
      try clear c19
      try clear c19b0
      try clear c20
      try clear c20b0
      try clear c21
      try clear c21b0
      try clear c21b1
      try clear c22
      try clear c22b0
      try clear c22b1
      try clear hx599_0
      try clear hx600_0
      try clear hx601_0
      try clear p2
      try clear p599
      try clear p600
      try clear p601
      try clear q599
      try clear q600
      try clear q601
      obtain ⟨kq, HA, HJ13, HB⟩ := hcut
      cases kq with
      | zero => exact absurd HA.out (by simp [laws_FnCloseOut.j2])
      | succ kj13 =>
       have H := HA.out
       clear HA
       simp only [laws_FnCloseOut.j2] at H
       replace H := Option.bind_eq_some_iff.mp H
       obtain ⟨⟨t602, t603, t604⟩, A230, H⟩ := H
       replace H : ((impl_SetOff.f kj13 t602 t603 t604).bind fun bt609 => ((spec_SetOff.f kj13 t602 t603 t604).bind fun bt617 => (if (bt609.2.2.2 != bt617.2.2.2) = true then (laws_FnCloseOut.j3 kj13 l0 t602 t603 t604 bt609.1 bt609.2.1 bt609.2.2.1 bt609.2.2.2 true) else ((laws_vInts.f kj13 bt609.2.1 bt617.2.1).bind fun t625 => (if t625 = true then ((laws_vInts.f kj13 bt609.2.2.1 bt617.2.2.1).bind fun t626 => (laws_FnCloseOut.j3 kj13 l0 t602 t603 t604 bt609.1 bt609.2.1 bt609.2.2.1 bt609.2.2.2 (!t626))) else (laws_FnCloseOut.j3 kj13 l0 t602 t603 t604 bt609.1 bt609.2.1 bt609.2.2.1 bt609.2.2.2 true)))))) = some r := H
       have A23 := Aside0.mk A230
       clear A230
       replace H := Option.bind_eq_some_iff.mp H
       obtain ⟨⟨t609, t610, t611, t612⟩, A240, H⟩ := H
       replace H : ((spec_SetOff.f kj13 t602 t603 t604).bind fun bt617 => (if (t612 != bt617.2.2.2) = true then (laws_FnCloseOut.j3 kj13 l0 t602 t603 t604 t609 t610 t611 t612 true) else ((laws_vInts.f kj13 t610 bt617.2.1).bind fun t625 => (if t625 = true then ((laws_vInts.f kj13 t611 bt617.2.2.1).bind fun t626 => (laws_FnCloseOut.j3 kj13 l0 t602 t603 t604 t609 t610 t611 t612 (!t626))) else (laws_FnCloseOut.j3 kj13 l0 t602 t603 t604 t609 t610 t611 t612 true))))) = some r := H
       have A24 := Aside0.mk A240
       clear A240
       replace H := Option.bind_eq_some_iff.mp H
       obtain ⟨⟨t617, t618, t619, t620⟩, A250, H⟩ := H
       replace H : (if (t612 != t620) = true then (laws_FnCloseOut.j3 kj13 l0 t602 t603 t604 t609 t610 t611 t612 true) else ((laws_vInts.f kj13 t610 t618).bind fun t625 => (if t625 = true then ((laws_vInts.f kj13 t611 t619).bind fun t626 => (laws_FnCloseOut.j3 kj13 l0 t602 t603 t604 t609 t610 t611 t612 (!t626))) else (laws_FnCloseOut.j3 kj13 l0 t602 t603 t604 t609 t610 t611 t612 true)))) = some r := H
       have A25 := Aside0.mk A250
       clear A250
       have HC26 := Aside0.mk H
       clear H
       go_upto_region 22 with (first | ((with_reducible refine gate_callee (f := 29) rfl ?_); refine goesL_ (some 92) rfl rfl Try.func29 (by kernel_rfl) rfl #[.slice A0 l0.length c0] rfl (by (try simp only [List.map_toArray, List.map_cons, List.map_nil]); first | done | rfl | (simp only [List.length_drop, List.length_take]; rfl)) ?_; (with_reducible refine (spec_DrawSetOff.calls kj13 _ _ l0 t602 t603 t604 _ ?side1 ?side2 A23.out).mono ?_); (case side1 => repeat (first | exact (Kd.C_below HR0.out HB.out) | (with_reducible refine Kd.C_alloc ?_ _) | (with_reducible refine Kd.C_drewN ?_ _) | (with_reducible refine Kd.C_drew ?_))); (case side2 => exact HC0.out); rintro e w27 ⟨v605, v607, rfl, ho0, ho1, hb⟩; refine ⟨_, rfl, ?_⟩; have n0_ := Aside0.mk (Kd.R_lower ho0 (below_size (bB_ HB.out))); have n1_ := Aside0.mk (Kd.R_lower ho1 (below_size (bB_ HB.out))); have n2_ := Aside0.mk (below_step (bB_ HB.out) hb); clear HB; have HO606 := n0_; have HO608 := n1_; have HB := n2_; clear n0_ n1_ n2_; (try clear hb); (try clear hb2); (try clear hk); (try clear hi); (try clear ho0); (try clear ho1); obtain ⟨Ao28, co28, eo28⟩ := Kd.R_slice HO606.out; subst eo28; obtain ⟨Ao29, co29, eo29⟩ := Kd.R_slice HO608.out; subst eo29) | ((with_reducible refine gate_callee (f := 30) rfl ?_); refine goesL_ (some 100) rfl rfl Try.func30 (by kernel_rfl) rfl #[.int .i64 t602, .slice Ao28 t603.length co28, .slice Ao29 t604.length co29] rfl (by (try simp only [List.map_toArray, List.map_cons, List.map_nil]); first | done | rfl | (simp only [List.length_drop, List.length_take]; rfl)) ?_; (with_reducible refine (impl_SetOff.calls kj13 t602 _ _ t603 _ _ t604 t609 t610 t611 t612 _ ?side1 ?side2 ?side3 ?side4 A24.out).mono ?_); (case side1 => repeat (first | exact (Kd.R_reads' HO606.out).2.2 | (with_reducible refine Kd.C_alloc ?_ _) | (with_reducible refine Kd.C_drewN ?_ _) | (with_reducible refine Kd.C_drew ?_))); (case side2 => exact (Kd.R_reads' HO606.out).2.1); (case side3 => repeat (first | exact (Kd.R_reads' HO608.out).2.2 | (with_reducible refine Kd.C_alloc ?_ _) | (with_reducible refine Kd.C_drewN ?_ _) | (with_reducible refine Kd.C_drew ?_))); (case side4 => exact (Kd.R_reads' HO608.out).2.1); rintro e w30 ⟨v613, v615, rfl, ho0, ho1, hb⟩; refine ⟨_, rfl, ?_⟩; have n0_ := Aside0.mk (Kd.R_mono (Kd.R_told (Kd.R_told (Kd.R_old (bR_ HO606.out) hb) (Kd.R_base ho0)) (Kd.R_base ho1)) (fun _ h_ => h_.1)); have n1_ := Aside0.mk (Kd.R_mono (Kd.R_told (Kd.R_told (Kd.R_old (bR_ HO608.out) hb) (Kd.R_base ho0)) (Kd.R_base ho1)) (fun _ h_ => h_.1)); have n2_ := Aside0.mk (Kd.R_lower (Kd.R_new' (Kd.R_new' ho0 (Kd.R_lt (bR_ HO606.out))) (Kd.R_lt (bR_ HO608.out))) (below_size (bB_ HB.out))); have n3_ := Aside0.mk (Kd.R_lower (Kd.R_new' (Kd.R_new' ho1 (Kd.R_lt (bR_ HO606.out))) (Kd.R_lt (bR_ HO608.out))) (below_size (bB_ HB.out))); have n4_ := Aside0.mk (below_step (bB_ HB.out) hb); clear HO606; clear HO608; clear HB; have HO606 := n0_; have HO608 := n1_; have HO614 := n2_; have HO616 := n3_; have HB := n4_; clear n0_ n1_ n2_ n3_ n4_; (try clear hb); (try clear hb2); (try clear hk); (try clear hi); (try clear ho0); (try clear ho1)) | ((with_reducible refine gate_callee (f := 31) rfl ?_); refine goesL_ (some 109) rfl rfl Try.func31 (by kernel_rfl) rfl #[.int .i64 t602, .slice Ao28 t603.length co28, .slice Ao29 t604.length co29] rfl (by (try simp only [List.map_toArray, List.map_cons, List.map_nil]); first | done | rfl | (simp only [List.length_drop, List.length_take]; rfl)) ?_; (with_reducible refine (spec_SetOff.calls kj13 t602 _ _ t603 _ _ t604 t617 t618 t619 t620 _ ?side1 ?side2 ?side3 ?side4 A25.out).mono ?_); (case side1 => repeat (first | exact (Kd.R_reads' HO606.out).2.2 | (with_reducible refine Kd.C_alloc ?_ _) | (with_reducible refine Kd.C_drewN ?_ _) | (with_reducible refine Kd.C_drew ?_))); (case side2 => exact (Kd.R_reads' HO606.out).2.1); (case side3 => repeat (first | exact (Kd.R_reads' HO608.out).2.2 | (with_reducible refine Kd.C_alloc ?_ _) | (with_reducible refine Kd.C_drewN ?_ _) | (with_reducible refine Kd.C_drew ?_))); (case side4 => exact (Kd.R_reads' HO608.out).2.1); rintro e w31 ⟨v621, v623, rfl, ho0, ho1, hb⟩; refine ⟨_, rfl, ?_⟩; have n0_ := Aside0.mk (Kd.R_mono (Kd.R_told (Kd.R_told (Kd.R_old (bR_ HO606.out) hb) (Kd.R_base ho0)) (Kd.R_base ho1)) (fun _ h_ => h_.1)); have n1_ := Aside0.mk (Kd.R_mono (Kd.R_told (Kd.R_told (Kd.R_old (bR_ HO608.out) hb) (Kd.R_base ho0)) (Kd.R_base ho1)) (fun _ h_ => h_.1)); have n2_ := Aside0.mk (Kd.R_mono (Kd.R_told (Kd.R_told (Kd.R_old (bR_ HO614.out) hb) (Kd.R_base ho0)) (Kd.R_base ho1)) (fun _ h_ => h_.1)); have n3_ := Aside0.mk (Kd.R_mono (Kd.R_told (Kd.R_told (Kd.R_old (bR_ HO616.out) hb) (Kd.R_base ho0)) (Kd.R_base ho1)) (fun _ h_ => h_.1)); have n4_ := Aside0.mk (Kd.R_lower (Kd.R_new' (Kd.R_new' (Kd.R_new' (Kd.R_new' ho0 (Kd.R_lt (bR_ HO606.out))) (Kd.R_lt (bR_ HO608.out))) (Kd.R_lt (bR_ HO614.out))) (Kd.R_lt (bR_ HO616.out))) (below_size (bB_ HB.out))); have n5_ := Aside0.mk (Kd.R_lower (Kd.R_new' (Kd.R_new' (Kd.R_new' (Kd.R_new' ho1 (Kd.R_lt (bR_ HO606.out))) (Kd.R_lt (bR_ HO608.out))) (Kd.R_lt (bR_ HO614.out))) (Kd.R_lt (bR_ HO616.out))) (below_size (bB_ HB.out))); have n6_ := Aside0.mk (below_step (bB_ HB.out) hb); clear HO606; clear HO608; clear HO614; clear HO616; clear HB; have HO606 := n0_; have HO608 := n1_; have HO614 := n2_; have HO616 := n3_; have HO622 := n4_; have HO624 := n5_; have HB := n6_; clear n0_ n1_ n2_ n3_ n4_ n5_ n6_; (try clear hb); (try clear hb2); (try clear hk); (try clear hi); (try clear ho0); (try clear ho1)))
       (try simp only [Act.put, List.setIfInBounds_toArray, List.set_cons_zero, List.set_cons_succ])
       go_cut [128] (fun v128 wc => ∃ (kq : Nat) (x128_25 : Bool), v128 = .bool x128_25 ∧ Aside0 (laws_FnCloseOut.j3 kq l0 t602 t603 t604 t609 t610 t611 t612 x128_25 = some r) ∧ Aside0 (kq ≤ kj13) ∧ Aside0 (Kd.R (Kd.int .i64) 3 wc w.heap.size (fun k_ => some k_ ≠ ((.slice Ao29 t604.length co29) : Value).ownBlock ∧ some k_ ≠ (v613 : Value).ownBlock ∧ some k_ ≠ (v615 : Value).ownBlock) (.slice Ao28 t603.length co28) t603) ∧ Aside0 (Kd.R (Kd.int .i64) 3 wc w.heap.size (fun k_ => some k_ ≠ ((.slice Ao28 t603.length co28) : Value).ownBlock ∧ some k_ ≠ (v613 : Value).ownBlock ∧ some k_ ≠ (v615 : Value).ownBlock) (.slice Ao29 t604.length co29) t604) ∧ Aside0 (Kd.R (Kd.int .i64) 3 wc w.heap.size (fun k_ => some k_ ≠ ((.slice Ao28 t603.length co28) : Value).ownBlock ∧ some k_ ≠ ((.slice Ao29 t604.length co29) : Value).ownBlock ∧ some k_ ≠ (v615 : Value).ownBlock) v613 t610) ∧ Aside0 (Kd.R (Kd.int .i64) 3 wc w.heap.size (fun k_ => some k_ ≠ ((.slice Ao28 t603.length co28) : Value).ownBlock ∧ some k_ ≠ ((.slice Ao29 t604.length co29) : Value).ownBlock ∧ some k_ ≠ (v613 : Value).ownBlock) v615 t611) ∧ Aside0 (Below w.heap.size w wc))
       case first => as_aux_lemma =>
        have H := HC26.out
        clear HC26
        by_cases c32 : (t612 != t620) = true
        ·
         rw [if_pos c32] at H
         have c32b0 : (t612 != t620) = true := c32
         (try (have c32b1 : decide (t612 = t620) = false := by simpa using c32))
         (try (have c32b2 : (t612 == t620) = false := by simpa using c32))
         (try (have c32b3 : ¬ (t612 = t620) := by simpa using c32))
         clear c32
         (first | rw [c32b0] | (simp only [i64_w, i32_w]; rw [c32b0]) | skip)
         have H' := Aside0.mk H
         clear H
         go_wp2
         go_meet
         case rel => exact ⟨_, (true), (by first | rfl | (simp; done) | (simp [*]; done)), H', ⟨by have := HJ6.out; have := HJ13.out; first | omega | exact Nat.le_refl _⟩, ⟨by (with_reducible repeat (first | apply Kd.R_alloc | apply Kd.R_drewN | apply Kd.R_drew)); exact Kd.R_mono HO606.out (fun _ hk => ⟨hk.1.1.1.1, ⟨hk.1.1.1.2, hk.1.1.2⟩⟩)⟩, ⟨by (with_reducible repeat (first | apply Kd.R_alloc | apply Kd.R_drewN | apply Kd.R_drew)); exact Kd.R_mono HO608.out (fun _ hk => ⟨hk.1.1.1.1, ⟨hk.1.1.1.2, hk.1.1.2⟩⟩)⟩, ⟨by (with_reducible repeat (first | apply Kd.R_alloc | apply Kd.R_drewN | apply Kd.R_drew)); exact Kd.R_mono HO614.out (fun _ hk => ⟨hk.1.1.1.2, ⟨hk.1.1.2, hk.1.1.1.1⟩⟩)⟩, ⟨by (with_reducible repeat (first | apply Kd.R_alloc | apply Kd.R_drewN | apply Kd.R_drew)); exact Kd.R_mono HO616.out (fun _ hk => ⟨hk.1.1.1.2, ⟨hk.1.1.2, hk.1.1.1.1⟩⟩)⟩, ⟨bB_ HB.out⟩⟩
        ·
         rw [if_neg c32] at H
         have c32b0 : (t612 != t620) = false := by simpa using c32
         (try (have c32b1 : decide (t612 = t620) = true := by simpa using c32))
         (try (have c32b2 : (t612 == t620) = true := by simpa using c32))
         clear c32
         (first | rw [c32b0] | (simp only [i64_w, i32_w]; rw [c32b0]) | skip)
         replace H := Option.bind_eq_some_iff.mp H
         obtain ⟨t625, A330, H⟩ := H
         replace H : (if t625 = true then ((laws_vInts.f kj13 t611 t619).bind fun t626 => (laws_FnCloseOut.j3 kj13 l0 t602 t603 t604 t609 t610 t611 t612 (!t626))) else (laws_FnCloseOut.j3 kj13 l0 t602 t603 t604 t609 t610 t611 t612 true)) = some r := H
         have A33 := Aside0.mk A330
         clear A330
         by_cases c34 : t625 = true
         ·
          subst c34
          have H1 : ((laws_vInts.f kj13 t611 t619).bind fun t626 => (laws_FnCloseOut.j3 kj13 l0 t602 t603 t604 t609 t610 t611 t612 (!t626))) = some r := by rw [if_pos rfl] at H; exact H
          clear H
          have H := H1
          clear H1
          replace H := Option.bind_eq_some_iff.mp H
          obtain ⟨t626, A350, H⟩ := H
          replace H : (laws_FnCloseOut.j3 kj13 l0 t602 t603 t604 t609 t610 t611 t612 (!t626)) = some r := H
          have A35 := Aside0.mk A350
          clear A350
          have H' := Aside0.mk H
          clear H
          obtain ⟨Ao36, co36, eo36⟩ := Kd.R_slice HO614.out
          subst eo36
          obtain ⟨Ao37, co37, eo37⟩ := Kd.R_slice HO622.out
          subst eo37
          go_wp2_with (first | (go_at_call 32; (with_reducible refine (laws_vInts.calls kj13 _ _ t610 _ _ t618 true _ ?side1 ?side2 ?side3 ?side4 A33.out).mono ?_); (case side1 => repeat (first | exact (Kd.R_reads' HO614.out).2.2 | (with_reducible refine Kd.C_alloc ?_ _) | (with_reducible refine Kd.C_drewN ?_ _) | (with_reducible refine Kd.C_drew ?_))); (case side2 => exact (Kd.R_reads' HO614.out).2.1); (case side3 => repeat (first | exact (Kd.R_reads' HO622.out).2.2 | (with_reducible refine Kd.C_alloc ?_ _) | (with_reducible refine Kd.C_drewN ?_ _) | (with_reducible refine Kd.C_drew ?_))); (case side4 => exact (Kd.R_reads' HO622.out).2.1); rintro e w' ⟨rfl, ⟨nd, rfl⟩⟩; obtain ⟨Ao38, co38, eo38⟩ := Kd.R_slice HO616.out; subst eo38; obtain ⟨Ao39, co39, eo39⟩ := Kd.R_slice HO624.out; subst eo39) | (go_at_call 32; (with_reducible refine (laws_vInts.calls kj13 _ _ t611 _ _ t619 t626 _ ?side1 ?side2 ?side3 ?side4 A35.out).mono ?_); (case side1 => repeat (first | exact (Kd.R_reads' HO616.out).2.2 | (with_reducible refine Kd.C_alloc ?_ _) | (with_reducible refine Kd.C_drewN ?_ _) | (with_reducible refine Kd.C_drew ?_))); (case side2 => exact (Kd.R_reads' HO616.out).2.1); (case side3 => repeat (first | exact (Kd.R_reads' HO624.out).2.2 | (with_reducible refine Kd.C_alloc ?_ _) | (with_reducible refine Kd.C_drewN ?_ _) | (with_reducible refine Kd.C_drew ?_))); (case side4 => exact (Kd.R_reads' HO624.out).2.1); rintro e w' ⟨rfl, ⟨nd, rfl⟩⟩))
          go_meet
          case rel => exact ⟨_, (!t626), (by first | rfl | (simp; done) | (simp [*]; done)), H', ⟨by have := HJ6.out; have := HJ13.out; first | omega | exact Nat.le_refl _⟩, ⟨by (with_reducible repeat (first | apply Kd.R_alloc | apply Kd.R_drewN | apply Kd.R_drew)); exact Kd.R_mono HO606.out (fun _ hk => ⟨hk.1.1.1.1, ⟨hk.1.1.1.2, hk.1.1.2⟩⟩)⟩, ⟨by (with_reducible repeat (first | apply Kd.R_alloc | apply Kd.R_drewN | apply Kd.R_drew)); exact Kd.R_mono HO608.out (fun _ hk => ⟨hk.1.1.1.1, ⟨hk.1.1.1.2, hk.1.1.2⟩⟩)⟩, ⟨by (with_reducible repeat (first | apply Kd.R_alloc | apply Kd.R_drewN | apply Kd.R_drew)); exact Kd.R_mono HO614.out (fun _ hk => ⟨hk.1.1.1.2, ⟨hk.1.1.2, hk.1.1.1.1⟩⟩)⟩, ⟨by (with_reducible repeat (first | apply Kd.R_alloc | apply Kd.R_drewN | apply Kd.R_drew)); exact Kd.R_mono HO616.out (fun _ hk => ⟨hk.1.1.1.2, ⟨hk.1.1.2, hk.1.1.1.1⟩⟩)⟩, ⟨bB_ HB.out⟩⟩
         ·
          replace c34 := Bool.eq_false_iff.mpr c34
          subst c34
          have H1 : (laws_FnCloseOut.j3 kj13 l0 t602 t603 t604 t609 t610 t611 t612 true) = some r := by rw [if_neg (show ¬ (false = true) by decide)] at H; exact H
          clear H
          have H := H1
          clear H1
          have H' := Aside0.mk H
          clear H
          obtain ⟨Ao40, co40, eo40⟩ := Kd.R_slice HO614.out
          subst eo40
          obtain ⟨Ao41, co41, eo41⟩ := Kd.R_slice HO622.out
          subst eo41
          go_wp2_with (first | (go_at_call 32; (with_reducible refine (laws_vInts.calls kj13 _ _ t610 _ _ t618 false _ ?side1 ?side2 ?side3 ?side4 A33.out).mono ?_); (case side1 => repeat (first | exact (Kd.R_reads' HO614.out).2.2 | (with_reducible refine Kd.C_alloc ?_ _) | (with_reducible refine Kd.C_drewN ?_ _) | (with_reducible refine Kd.C_drew ?_))); (case side2 => exact (Kd.R_reads' HO614.out).2.1); (case side3 => repeat (first | exact (Kd.R_reads' HO622.out).2.2 | (with_reducible refine Kd.C_alloc ?_ _) | (with_reducible refine Kd.C_drewN ?_ _) | (with_reducible refine Kd.C_drew ?_))); (case side4 => exact (Kd.R_reads' HO622.out).2.1); rintro e w' ⟨rfl, ⟨nd, rfl⟩⟩))
          go_meet
          case rel => exact ⟨_, (true), (by first | rfl | (simp; done) | (simp [*]; done)), H', ⟨by have := HJ6.out; have := HJ13.out; first | omega | exact Nat.le_refl _⟩, ⟨by (with_reducible repeat (first | apply Kd.R_alloc | apply Kd.R_drewN | apply Kd.R_drew)); exact Kd.R_mono HO606.out (fun _ hk => ⟨hk.1.1.1.1, ⟨hk.1.1.1.2, hk.1.1.2⟩⟩)⟩, ⟨by (with_reducible repeat (first | apply Kd.R_alloc | apply Kd.R_drewN | apply Kd.R_drew)); exact Kd.R_mono HO608.out (fun _ hk => ⟨hk.1.1.1.1, ⟨hk.1.1.1.2, hk.1.1.2⟩⟩)⟩, ⟨by (with_reducible repeat (first | apply Kd.R_alloc | apply Kd.R_drewN | apply Kd.R_drew)); exact Kd.R_mono HO614.out (fun _ hk => ⟨hk.1.1.1.2, ⟨hk.1.1.2, hk.1.1.1.1⟩⟩)⟩, ⟨by (with_reducible repeat (first | apply Kd.R_alloc | apply Kd.R_drewN | apply Kd.R_drew)); exact Kd.R_mono HO616.out (fun _ hk => ⟨hk.1.1.1.2, ⟨hk.1.1.2, hk.1.1.1.1⟩⟩)⟩, ⟨bB_ HB.out⟩⟩
       case rest => as_aux_lemma =>
        clear HC26
        try clear c1
        try clear c2
        try clear p2
        try clear c3
        try clear p5
        try clear q5
        try clear hx5
        try clear p6
        try clear q6
        try clear hx6
        try clear c7
        try clear c12
        try clear c12b0
        try clear c12b1
        try clear c13
        try clear c15
        try clear c16
        try clear c16b0
        try clear c17
        try clear c17b0
        try clear c18
        try clear c18b0
        try clear c19
        try clear c19b0
        try clear c20
        try clear c20b0
        try clear c21
        try clear c21b0
        try clear c21b1
        try clear c22
        try clear c22b0
        try clear c22b1
        try clear c26
        try clear c27
        try clear c28
        try clear c29
        try clear c30
        try clear c31
        try clear c32
        try clear c32b0
        try clear c32b1
        try clear c32b2
        try clear c34
        try clear hx599_0
        try clear hx600_0
        try clear hx601_0
        try clear p2
        try clear p5
        try clear p599
        try clear p6
        try clear p600
        try clear p601
        try clear q5
        try clear q599
        try clear q6
        try clear q600
        try clear q601
        obtain ⟨kq, x128_25, rfl, HA, HJ25, HO_13, HO_14, HO_16, HO_17, HB⟩ := hcut
        cases kq with
        | zero => exact absurd HA.out (by simp [laws_FnCloseOut.j3])
        | succ kj25 =>
         have H := HA.out
         clear HA
         simp only [laws_FnCloseOut.j3] at H
         by_cases c42 : x128_25 = true
         ·
          subst c42
          have H1 : (some false) = some r := by rw [if_pos rfl] at H; exact H
          clear H
          have H := H1
          clear H1
          obtain rfl := Option.some.inj H
          go_wp2
          go_ret
          exact ⟨by first | rfl | (simp [errW_none, errW_some] <;> rfl) | (simp [*, errW_none, errW_some] <;> rfl), bB_ HB.out⟩
         ·
          replace c42 := Bool.eq_false_iff.mpr c42
          subst c42
          have H1 : (if t612 = true then ((laws_rSum.f kj25 t604).bind fun t627 => ((laws_rSum.f kj25 t611).bind fun t628 => ((laws_rSum.f kj25 t603).bind fun t629 => ((laws_rSum.f kj25 t610).bind fun t630 => (if (wrap64 (t602 - t609)) = (wrap64 ((wrap64 ((wrap64 (t627 - t628)) - t629)) + t630)) then (if t602 ≥ 0 then (if t609 < 0 then (laws_FnCloseOut.j4 kj25 l0 true) else (if t602 < 0 then (laws_FnCloseOut.j4 kj25 l0 (decide (t609 > 0))) else (laws_FnCloseOut.j4 kj25 l0 false))) else (if t602 < 0 then (laws_FnCloseOut.j4 kj25 l0 (decide (t609 > 0))) else (laws_FnCloseOut.j4 kj25 l0 false))) else (laws_FnCloseOut.j4 kj25 l0 true)))))) else (laws_FnCloseOut.j4 kj25 l0 false)) = some r := by rw [if_neg (show ¬ (false = true) by decide)] at H; exact H
          clear H
          have H := H1
          clear H1
          have HC43 := Aside0.mk H
          clear H
          go_upto_region 24 with (fail)
          go_cut [162] (fun v162 wc => ∃ (kq : Nat) (x162_42 : Bool), v162 = .bool x162_42 ∧ Aside0 (laws_FnCloseOut.j4 kq l0 x162_42 = some r) ∧ Aside0 (kq ≤ kj25) ∧ Aside0 (Below w.heap.size w wc))
          case first => as_aux_lemma =>
           have H := HC43.out
           clear HC43
           by_cases c44 : t612 = true
           ·
            subst c44
            have H1 : ((laws_rSum.f kj25 t604).bind fun t627 => ((laws_rSum.f kj25 t611).bind fun t628 => ((laws_rSum.f kj25 t603).bind fun t629 => ((laws_rSum.f kj25 t610).bind fun t630 => (if (wrap64 (t602 - t609)) = (wrap64 ((wrap64 ((wrap64 (t627 - t628)) - t629)) + t630)) then (if t602 ≥ 0 then (if t609 < 0 then (laws_FnCloseOut.j4 kj25 l0 true) else (if t602 < 0 then (laws_FnCloseOut.j4 kj25 l0 (decide (t609 > 0))) else (laws_FnCloseOut.j4 kj25 l0 false))) else (if t602 < 0 then (laws_FnCloseOut.j4 kj25 l0 (decide (t609 > 0))) else (laws_FnCloseOut.j4 kj25 l0 false))) else (laws_FnCloseOut.j4 kj25 l0 true)))))) = some r := by rw [if_pos rfl] at H; exact H
            clear H
            have H := H1
            clear H1
            replace H := Option.bind_eq_some_iff.mp H
            obtain ⟨t627, A450, H⟩ := H
            replace H : ((laws_rSum.f kj25 t611).bind fun t628 => ((laws_rSum.f kj25 t603).bind fun t629 => ((laws_rSum.f kj25 t610).bind fun t630 => (if (wrap64 (t602 - t609)) = (wrap64 ((wrap64 ((wrap64 (t627 - t628)) - t629)) + t630)) then (if t602 ≥ 0 then (if t609 < 0 then (laws_FnCloseOut.j4 kj25 l0 true) else (if t602 < 0 then (laws_FnCloseOut.j4 kj25 l0 (decide (t609 > 0))) else (laws_FnCloseOut.j4 kj25 l0 false))) else (if t602 < 0 then (laws_FnCloseOut.j4 kj25 l0 (decide (t609 > 0))) else (laws_FnCloseOut.j4 kj25 l0 false))) else (laws_FnCloseOut.j4 kj25 l0 true))))) = some r := H
            have A45 := Aside0.mk A450
            clear A450
            replace H := Option.bind_eq_some_iff.mp H
            obtain ⟨t628, A460, H⟩ := H
            replace H : ((laws_rSum.f kj25 t603).bind fun t629 => ((laws_rSum.f kj25 t610).bind fun t630 => (if (wrap64 (t602 - t609)) = (wrap64 ((wrap64 ((wrap64 (t627 - t628)) - t629)) + t630)) then (if t602 ≥ 0 then (if t609 < 0 then (laws_FnCloseOut.j4 kj25 l0 true) else (if t602 < 0 then (laws_FnCloseOut.j4 kj25 l0 (decide (t609 > 0))) else (laws_FnCloseOut.j4 kj25 l0 false))) else (if t602 < 0 then (laws_FnCloseOut.j4 kj25 l0 (decide (t609 > 0))) else (laws_FnCloseOut.j4 kj25 l0 false))) else (laws_FnCloseOut.j4 kj25 l0 true)))) = some r := H
            have A46 := Aside0.mk A460
            clear A460
            replace H := Option.bind_eq_some_iff.mp H
            obtain ⟨t629, A470, H⟩ := H
            replace H : ((laws_rSum.f kj25 t610).bind fun t630 => (if (wrap64 (t602 - t609)) = (wrap64 ((wrap64 ((wrap64 (t627 - t628)) - t629)) + t630)) then (if t602 ≥ 0 then (if t609 < 0 then (laws_FnCloseOut.j4 kj25 l0 true) else (if t602 < 0 then (laws_FnCloseOut.j4 kj25 l0 (decide (t609 > 0))) else (laws_FnCloseOut.j4 kj25 l0 false))) else (if t602 < 0 then (laws_FnCloseOut.j4 kj25 l0 (decide (t609 > 0))) else (laws_FnCloseOut.j4 kj25 l0 false))) else (laws_FnCloseOut.j4 kj25 l0 true))) = some r := H
            have A47 := Aside0.mk A470
            clear A470
            replace H := Option.bind_eq_some_iff.mp H
            obtain ⟨t630, A480, H⟩ := H
            replace H : (if (wrap64 (t602 - t609)) = (wrap64 ((wrap64 ((wrap64 (t627 - t628)) - t629)) + t630)) then (if t602 ≥ 0 then (if t609 < 0 then (laws_FnCloseOut.j4 kj25 l0 true) else (if t602 < 0 then (laws_FnCloseOut.j4 kj25 l0 (decide (t609 > 0))) else (laws_FnCloseOut.j4 kj25 l0 false))) else (if t602 < 0 then (laws_FnCloseOut.j4 kj25 l0 (decide (t609 > 0))) else (laws_FnCloseOut.j4 kj25 l0 false))) else (laws_FnCloseOut.j4 kj25 l0 true)) = some r := H
            have A48 := Aside0.mk A480
            clear A480
            by_cases c49 : (wrap64 (t602 - t609)) = (wrap64 ((wrap64 ((wrap64 (t627 - t628)) - t629)) + t630))
            ·
             rw [if_pos c49] at H
             have c49b0 : ((wrap64 (t602 - t609)) == (wrap64 ((wrap64 ((wrap64 (t627 - t628)) - t629)) + t630))) = true := beq_iff_eq.mpr c49
             have c49b1 : ((wrap64 (t602 - t609)) != (wrap64 ((wrap64 ((wrap64 (t627 - t628)) - t629)) + t630))) = false := bne_eq_false_iff_eq.mpr c49
             clear c49
             (first | rw [c49b0] | (simp only [i64_w, i32_w]; rw [c49b0]) | skip)
             by_cases c50 : t602 ≥ 0
             ·
              rw [if_pos c50] at H
              have c50b0 : decide (0 ≤ t602) = true := decide_eq_true c50
              clear c50
              by_cases c51 : t609 < 0
              ·
               rw [if_pos c51] at H
               have c51b0 : decide (t609 < 0) = true := decide_eq_true c51
               clear c51
               have H' := Aside0.mk H
               clear H
               go_wp2_with (first | (go_at_call 33; (with_reducible refine (laws_rSum.calls kj25 _ _ t604 t627 _ ?side1 ?side2 A45.out).mono ?_); (case side1 => repeat (first | exact (Kd.R_reads' HO_14.out).2.2 | (with_reducible refine Kd.C_alloc ?_ _) | (with_reducible refine Kd.C_drewN ?_ _) | (with_reducible refine Kd.C_drew ?_))); (case side2 => exact (Kd.R_reads' HO_14.out).2.1); rintro e w' ⟨rfl, ⟨nd, rfl⟩⟩; obtain ⟨Ao52, co52, eo52⟩ := Kd.R_slice HO_17.out; subst eo52) | (go_at_call 33; (with_reducible refine (laws_rSum.calls kj25 _ _ t611 t628 _ ?side1 ?side2 A46.out).mono ?_); (case side1 => repeat (first | exact (Kd.R_reads' HO_17.out).2.2 | (with_reducible refine Kd.C_alloc ?_ _) | (with_reducible refine Kd.C_drewN ?_ _) | (with_reducible refine Kd.C_drew ?_))); (case side2 => exact (Kd.R_reads' HO_17.out).2.1); rintro e w' ⟨rfl, ⟨nd, rfl⟩⟩) | (go_at_call 33; (with_reducible refine (laws_rSum.calls kj25 _ _ t603 t629 _ ?side1 ?side2 A47.out).mono ?_); (case side1 => repeat (first | exact (Kd.R_reads' HO_13.out).2.2 | (with_reducible refine Kd.C_alloc ?_ _) | (with_reducible refine Kd.C_drewN ?_ _) | (with_reducible refine Kd.C_drew ?_))); (case side2 => exact (Kd.R_reads' HO_13.out).2.1); rintro e w' ⟨rfl, ⟨nd, rfl⟩⟩; obtain ⟨Ao53, co53, eo53⟩ := Kd.R_slice HO_16.out; subst eo53) | (go_at_call 33; (with_reducible refine (laws_rSum.calls kj25 _ _ t610 t630 _ ?side1 ?side2 A48.out).mono ?_); (case side1 => repeat (first | exact (Kd.R_reads' HO_16.out).2.2 | (with_reducible refine Kd.C_alloc ?_ _) | (with_reducible refine Kd.C_drewN ?_ _) | (with_reducible refine Kd.C_drew ?_))); (case side2 => exact (Kd.R_reads' HO_16.out).2.1); rintro e w' ⟨rfl, ⟨nd, rfl⟩⟩))
               go_meet
               case rel => exact ⟨_, (true), (by first | rfl | (simp; done) | (simp [*]; done)), H', ⟨by have := HJ6.out; have := HJ13.out; have := HJ25.out; first | omega | exact Nat.le_refl _⟩, ⟨bB_ HB.out⟩⟩
              ·
               rw [if_neg c51] at H
               have c51b0 : decide (t609 < 0) = false := decide_eq_false c51
               clear c51
               by_cases c54 : t602 < 0
               ·
                rw [if_pos c54] at H
                have c54b0 : decide (t602 < 0) = true := decide_eq_true c54
                clear c54
                have H' := Aside0.mk H
                clear H
                go_wp2_with (first | (go_at_call 33; (with_reducible refine (laws_rSum.calls kj25 _ _ t604 t627 _ ?side1 ?side2 A45.out).mono ?_); (case side1 => repeat (first | exact (Kd.R_reads' HO_14.out).2.2 | (with_reducible refine Kd.C_alloc ?_ _) | (with_reducible refine Kd.C_drewN ?_ _) | (with_reducible refine Kd.C_drew ?_))); (case side2 => exact (Kd.R_reads' HO_14.out).2.1); rintro e w' ⟨rfl, ⟨nd, rfl⟩⟩; obtain ⟨Ao55, co55, eo55⟩ := Kd.R_slice HO_17.out; subst eo55) | (go_at_call 33; (with_reducible refine (laws_rSum.calls kj25 _ _ t611 t628 _ ?side1 ?side2 A46.out).mono ?_); (case side1 => repeat (first | exact (Kd.R_reads' HO_17.out).2.2 | (with_reducible refine Kd.C_alloc ?_ _) | (with_reducible refine Kd.C_drewN ?_ _) | (with_reducible refine Kd.C_drew ?_))); (case side2 => exact (Kd.R_reads' HO_17.out).2.1); rintro e w' ⟨rfl, ⟨nd, rfl⟩⟩) | (go_at_call 33; (with_reducible refine (laws_rSum.calls kj25 _ _ t603 t629 _ ?side1 ?side2 A47.out).mono ?_); (case side1 => repeat (first | exact (Kd.R_reads' HO_13.out).2.2 | (with_reducible refine Kd.C_alloc ?_ _) | (with_reducible refine Kd.C_drewN ?_ _) | (with_reducible refine Kd.C_drew ?_))); (case side2 => exact (Kd.R_reads' HO_13.out).2.1); rintro e w' ⟨rfl, ⟨nd, rfl⟩⟩; obtain ⟨Ao56, co56, eo56⟩ := Kd.R_slice HO_16.out; subst eo56) | (go_at_call 33; (with_reducible refine (laws_rSum.calls kj25 _ _ t610 t630 _ ?side1 ?side2 A48.out).mono ?_); (case side1 => repeat (first | exact (Kd.R_reads' HO_16.out).2.2 | (with_reducible refine Kd.C_alloc ?_ _) | (with_reducible refine Kd.C_drewN ?_ _) | (with_reducible refine Kd.C_drew ?_))); (case side2 => exact (Kd.R_reads' HO_16.out).2.1); rintro e w' ⟨rfl, ⟨nd, rfl⟩⟩))
                go_meet
                case rel => exact ⟨_, (decide (t609 > 0)), (by first | rfl | (simp; done) | (simp [*]; done)), H', ⟨by have := HJ6.out; have := HJ13.out; have := HJ25.out; first | omega | exact Nat.le_refl _⟩, ⟨bB_ HB.out⟩⟩
               ·
                rw [if_neg c54] at H
                have c54b0 : decide (t602 < 0) = false := decide_eq_false c54
                clear c54
                have H' := Aside0.mk H
                clear H
                go_wp2_with (first | (go_at_call 33; (with_reducible refine (laws_rSum.calls kj25 _ _ t604 t627 _ ?side1 ?side2 A45.out).mono ?_); (case side1 => repeat (first | exact (Kd.R_reads' HO_14.out).2.2 | (with_reducible refine Kd.C_alloc ?_ _) | (with_reducible refine Kd.C_drewN ?_ _) | (with_reducible refine Kd.C_drew ?_))); (case side2 => exact (Kd.R_reads' HO_14.out).2.1); rintro e w' ⟨rfl, ⟨nd, rfl⟩⟩; obtain ⟨Ao57, co57, eo57⟩ := Kd.R_slice HO_17.out; subst eo57) | (go_at_call 33; (with_reducible refine (laws_rSum.calls kj25 _ _ t611 t628 _ ?side1 ?side2 A46.out).mono ?_); (case side1 => repeat (first | exact (Kd.R_reads' HO_17.out).2.2 | (with_reducible refine Kd.C_alloc ?_ _) | (with_reducible refine Kd.C_drewN ?_ _) | (with_reducible refine Kd.C_drew ?_))); (case side2 => exact (Kd.R_reads' HO_17.out).2.1); rintro e w' ⟨rfl, ⟨nd, rfl⟩⟩) | (go_at_call 33; (with_reducible refine (laws_rSum.calls kj25 _ _ t603 t629 _ ?side1 ?side2 A47.out).mono ?_); (case side1 => repeat (first | exact (Kd.R_reads' HO_13.out).2.2 | (with_reducible refine Kd.C_alloc ?_ _) | (with_reducible refine Kd.C_drewN ?_ _) | (with_reducible refine Kd.C_drew ?_))); (case side2 => exact (Kd.R_reads' HO_13.out).2.1); rintro e w' ⟨rfl, ⟨nd, rfl⟩⟩; obtain ⟨Ao58, co58, eo58⟩ := Kd.R_slice HO_16.out; subst eo58) | (go_at_call 33; (with_reducible refine (laws_rSum.calls kj25 _ _ t610 t630 _ ?side1 ?side2 A48.out).mono ?_); (case side1 => repeat (first | exact (Kd.R_reads' HO_16.out).2.2 | (with_reducible refine Kd.C_alloc ?_ _) | (with_reducible refine Kd.C_drewN ?_ _) | (with_reducible refine Kd.C_drew ?_))); (case side2 => exact (Kd.R_reads' HO_16.out).2.1); rintro e w' ⟨rfl, ⟨nd, rfl⟩⟩))
                go_meet
                case rel => exact ⟨_, (false), (by first | rfl | (simp; done) | (simp [*]; done)), H', ⟨by have := HJ6.out; have := HJ13.out; have := HJ25.out; first | omega | exact Nat.le_refl _⟩, ⟨bB_ HB.out⟩⟩
             ·
              rw [if_neg c50] at H
              have c50b0 : decide (0 ≤ t602) = false := decide_eq_false c50
              clear c50
              by_cases c59 : t602 < 0
              ·
               rw [if_pos c59] at H
               have c59b0 : decide (t602 < 0) = true := decide_eq_true c59
               clear c59
               have H' := Aside0.mk H
               clear H
               go_wp2_with (first | (go_at_call 33; (with_reducible refine (laws_rSum.calls kj25 _ _ t604 t627 _ ?side1 ?side2 A45.out).mono ?_); (case side1 => repeat (first | exact (Kd.R_reads' HO_14.out).2.2 | (with_reducible refine Kd.C_alloc ?_ _) | (with_reducible refine Kd.C_drewN ?_ _) | (with_reducible refine Kd.C_drew ?_))); (case side2 => exact (Kd.R_reads' HO_14.out).2.1); rintro e w' ⟨rfl, ⟨nd, rfl⟩⟩; obtain ⟨Ao60, co60, eo60⟩ := Kd.R_slice HO_17.out; subst eo60) | (go_at_call 33; (with_reducible refine (laws_rSum.calls kj25 _ _ t611 t628 _ ?side1 ?side2 A46.out).mono ?_); (case side1 => repeat (first | exact (Kd.R_reads' HO_17.out).2.2 | (with_reducible refine Kd.C_alloc ?_ _) | (with_reducible refine Kd.C_drewN ?_ _) | (with_reducible refine Kd.C_drew ?_))); (case side2 => exact (Kd.R_reads' HO_17.out).2.1); rintro e w' ⟨rfl, ⟨nd, rfl⟩⟩) | (go_at_call 33; (with_reducible refine (laws_rSum.calls kj25 _ _ t603 t629 _ ?side1 ?side2 A47.out).mono ?_); (case side1 => repeat (first | exact (Kd.R_reads' HO_13.out).2.2 | (with_reducible refine Kd.C_alloc ?_ _) | (with_reducible refine Kd.C_drewN ?_ _) | (with_reducible refine Kd.C_drew ?_))); (case side2 => exact (Kd.R_reads' HO_13.out).2.1); rintro e w' ⟨rfl, ⟨nd, rfl⟩⟩; obtain ⟨Ao61, co61, eo61⟩ := Kd.R_slice HO_16.out; subst eo61) | (go_at_call 33; (with_reducible refine (laws_rSum.calls kj25 _ _ t610 t630 _ ?side1 ?side2 A48.out).mono ?_); (case side1 => repeat (first | exact (Kd.R_reads' HO_16.out).2.2 | (with_reducible refine Kd.C_alloc ?_ _) | (with_reducible refine Kd.C_drewN ?_ _) | (with_reducible refine Kd.C_drew ?_))); (case side2 => exact (Kd.R_reads' HO_16.out).2.1); rintro e w' ⟨rfl, ⟨nd, rfl⟩⟩))
               go_meet
               case rel => exact ⟨_, (decide (t609 > 0)), (by first | rfl | (simp; done) | (simp [*]; done)), H', ⟨by have := HJ6.out; have := HJ13.out; have := HJ25.out; first | omega | exact Nat.le_refl _⟩, ⟨bB_ HB.out⟩⟩
              ·
               rw [if_neg c59] at H
               have c59b0 : decide (t602 < 0) = false := decide_eq_false c59
               clear c59
               have H' := Aside0.mk H
               clear H
               go_wp2_with (first | (go_at_call 33; (with_reducible refine (laws_rSum.calls kj25 _ _ t604 t627 _ ?side1 ?side2 A45.out).mono ?_); (case side1 => repeat (first | exact (Kd.R_reads' HO_14.out).2.2 | (with_reducible refine Kd.C_alloc ?_ _) | (with_reducible refine Kd.C_drewN ?_ _) | (with_reducible refine Kd.C_drew ?_))); (case side2 => exact (Kd.R_reads' HO_14.out).2.1); rintro e w' ⟨rfl, ⟨nd, rfl⟩⟩; obtain ⟨Ao62, co62, eo62⟩ := Kd.R_slice HO_17.out; subst eo62) | (go_at_call 33; (with_reducible refine (laws_rSum.calls kj25 _ _ t611 t628 _ ?side1 ?side2 A46.out).mono ?_); (case side1 => repeat (first | exact (Kd.R_reads' HO_17.out).2.2 | (with_reducible refine Kd.C_alloc ?_ _) | (with_reducible refine Kd.C_drewN ?_ _) | (with_reducible refine Kd.C_drew ?_))); (case side2 => exact (Kd.R_reads' HO_17.out).2.1); rintro e w' ⟨rfl, ⟨nd, rfl⟩⟩) | (go_at_call 33; (with_reducible refine (laws_rSum.calls kj25 _ _ t603 t629 _ ?side1 ?side2 A47.out).mono ?_); (case side1 => repeat (first | exact (Kd.R_reads' HO_13.out).2.2 | (with_reducible refine Kd.C_alloc ?_ _) | (with_reducible refine Kd.C_drewN ?_ _) | (with_reducible refine Kd.C_drew ?_))); (case side2 => exact (Kd.R_reads' HO_13.out).2.1); rintro e w' ⟨rfl, ⟨nd, rfl⟩⟩; obtain ⟨Ao63, co63, eo63⟩ := Kd.R_slice HO_16.out; subst eo63) | (go_at_call 33; (with_reducible refine (laws_rSum.calls kj25 _ _ t610 t630 _ ?side1 ?side2 A48.out).mono ?_); (case side1 => repeat (first | exact (Kd.R_reads' HO_16.out).2.2 | (with_reducible refine Kd.C_alloc ?_ _) | (with_reducible refine Kd.C_drewN ?_ _) | (with_reducible refine Kd.C_drew ?_))); (case side2 => exact (Kd.R_reads' HO_16.out).2.1); rintro e w' ⟨rfl, ⟨nd, rfl⟩⟩))
               go_meet
               case rel => exact ⟨_, (false), (by first | rfl | (simp; done) | (simp [*]; done)), H', ⟨by have := HJ6.out; have := HJ13.out; have := HJ25.out; first | omega | exact Nat.le_refl _⟩, ⟨bB_ HB.out⟩⟩
            ·
             rw [if_neg c49] at H
             have c49b0 : ((wrap64 (t602 - t609)) == (wrap64 ((wrap64 ((wrap64 (t627 - t628)) - t629)) + t630))) = false := beq_eq_false_iff_ne.mpr c49
             have c49b1 : ((wrap64 (t602 - t609)) != (wrap64 ((wrap64 ((wrap64 (t627 - t628)) - t629)) + t630))) = true := bne_iff_ne.mpr c49
             (first | rw [c49b0] | (simp only [i64_w, i32_w]; rw [c49b0]) | skip)
             have H' := Aside0.mk H
             clear H
             go_wp2_with (first | (go_at_call 33; (with_reducible refine (laws_rSum.calls kj25 _ _ t604 t627 _ ?side1 ?side2 A45.out).mono ?_); (case side1 => repeat (first | exact (Kd.R_reads' HO_14.out).2.2 | (with_reducible refine Kd.C_alloc ?_ _) | (with_reducible refine Kd.C_drewN ?_ _) | (with_reducible refine Kd.C_drew ?_))); (case side2 => exact (Kd.R_reads' HO_14.out).2.1); rintro e w' ⟨rfl, ⟨nd, rfl⟩⟩; obtain ⟨Ao64, co64, eo64⟩ := Kd.R_slice HO_17.out; subst eo64) | (go_at_call 33; (with_reducible refine (laws_rSum.calls kj25 _ _ t611 t628 _ ?side1 ?side2 A46.out).mono ?_); (case side1 => repeat (first | exact (Kd.R_reads' HO_17.out).2.2 | (with_reducible refine Kd.C_alloc ?_ _) | (with_reducible refine Kd.C_drewN ?_ _) | (with_reducible refine Kd.C_drew ?_))); (case side2 => exact (Kd.R_reads' HO_17.out).2.1); rintro e w' ⟨rfl, ⟨nd, rfl⟩⟩) | (go_at_call 33; (with_reducible refine (laws_rSum.calls kj25 _ _ t603 t629 _ ?side1 ?side2 A47.out).mono ?_); (case side1 => repeat (first | exact (Kd.R_reads' HO_13.out).2.2 | (with_reducible refine Kd.C_alloc ?_ _) | (with_reducible refine Kd.C_drewN ?_ _) | (with_reducible refine Kd.C_drew ?_))); (case side2 => exact (Kd.R_reads' HO_13.out).2.1); rintro e w' ⟨rfl, ⟨nd, rfl⟩⟩; obtain ⟨Ao65, co65, eo65⟩ := Kd.R_slice HO_16.out; subst eo65) | (go_at_call 33; (with_reducible refine (laws_rSum.calls kj25 _ _ t610 t630 _ ?side1 ?side2 A48.out).mono ?_); (case side1 => repeat (first | exact (Kd.R_reads' HO_16.out).2.2 | (with_reducible refine Kd.C_alloc ?_ _) | (with_reducible refine Kd.C_drewN ?_ _) | (with_reducible refine Kd.C_drew ?_))); (case side2 => exact (Kd.R_reads' HO_16.out).2.1); rintro e w' ⟨rfl, ⟨nd, rfl⟩⟩))
             go_meet
             case rel => exact ⟨_, (true), (by first | rfl | (simp; done) | (simp [*]; done)), H', ⟨by have := HJ6.out; have := HJ13.out; have := HJ25.out; first | omega | exact Nat.le_refl _⟩, ⟨bB_ HB.out⟩⟩
           ·
            replace c44 := Bool.eq_false_iff.mpr c44
            subst c44
            have H1 : (laws_FnCloseOut.j4 kj25 l0 false) = some r := by rw [if_neg (show ¬ (false = true) by decide)] at H; exact H
            clear H
            have H := H1
            clear H1
            have H' := Aside0.mk H
            clear H
            go_wp2
            go_meet
            case rel => exact ⟨_, (false), (by first | rfl | (simp; done) | (simp [*]; done)), H', ⟨by have := HJ6.out; have := HJ13.out; have := HJ25.out; first | omega | exact Nat.le_refl _⟩, ⟨bB_ HB.out⟩⟩
          case rest => as_aux_lemma =>
           clear HC43
           try clear c1
           try clear c2
           try clear p2
           try clear c3
           try clear c4
           try clear c5
           try clear p5
           try clear q5
           try clear hx5
           try clear p6
           try clear q6
           try clear hx6
           try clear c7
           try clear c12
           try clear c12b0
           try clear c12b1
           try clear c13
           try clear c15
           try clear c16
           try clear c16b0
           try clear c17
           try clear c17b0
           try clear c18
           try clear c18b0
           try clear c19
           try clear c19b0
           try clear c20
           try clear c20b0
           try clear c21
           try clear c21b0
           try clear c21b1
           try clear c22
           try clear c22b0
           try clear c22b1
           try clear c26
           try clear c27
           try clear c28
           try clear c29
           try clear c30
           try clear c31
           try clear c32
           try clear c32b0
           try clear c32b1
           try clear c32b2
           try clear c34
           try clear c42
           try clear c44
           try clear c49
           try clear c49b0
           try clear c49b1
           try clear c50
           try clear c50b0
           try clear c51
           try clear c51b0
           try clear c54
           try clear c54b0
           try clear c59
           try clear c59b0
           try clear p59
           try clear q59
           try clear hx59
           try clear p60
           try clear q60
           try clear hx60
           try clear p64
           try clear hx599_0
           try clear hx600_0
           try clear hx601_0
           try clear p2
           try clear p5
           try clear p599
           try clear p6
           try clear p600
           try clear p601
           try clear q5
           try clear q599
           try clear q6
           try clear q600
           try clear q601
           obtain ⟨kq, x162_42, rfl, HA, HJ42, HB⟩ := hcut
           cases kq with
           | zero => exact absurd HA.out (by simp [laws_FnCloseOut.j4])
           | succ kj42 =>
            have H := HA.out
            clear HA
            simp only [laws_FnCloseOut.j4] at H
            by_cases c66 : x162_42 = true
            ·
             subst c66
             have H1 : (some false) = some r := by rw [if_pos rfl] at H; exact H
             clear H
             have H := H1
             clear H1
             obtain rfl := Option.some.inj H
             go_wp2
             go_ret
             exact ⟨by first | rfl | (simp [errW_none, errW_some] <;> rfl) | (simp [*, errW_none, errW_some] <;> rfl), bB_ HB.out⟩
            ·
             replace c66 := Bool.eq_false_iff.mpr c66
             subst c66
             have H1 : ((spec_DrawEstateDividend.f kj42 l0).bind fun bt631 => ((impl_EstateDividend.f kj42 bt631.1 bt631.2).bind fun bt635 => ((spec_EstateDividend.f kj42 bt631.1 bt631.2).bind fun bt639 => (if (bt635.2 != bt639.2) = true then (laws_FnCloseOut.j5 kj42 bt631.1 bt631.2 bt635.1 bt635.2 bt639.1 bt639.2 true) else ((laws_vInts.f kj42 bt635.1 bt639.1).bind fun t643 => (if t643 = true then (laws_FnCloseOut.j5 kj42 bt631.1 bt631.2 bt635.1 bt635.2 bt639.1 bt639.2 (!bt635.2)) else (laws_FnCloseOut.j5 kj42 bt631.1 bt631.2 bt635.1 bt635.2 bt639.1 bt639.2 true))))))) = some r := by rw [if_neg (show ¬ (false = true) by decide)] at H; exact H
             clear H
             have H := H1
             clear H1
             replace H := Option.bind_eq_some_iff.mp H
             obtain ⟨⟨t631, t632⟩, A670, H⟩ := H
             replace H : ((impl_EstateDividend.f kj42 t631 t632).bind fun bt635 => ((spec_EstateDividend.f kj42 t631 t632).bind fun bt639 => (if (bt635.2 != bt639.2) = true then (laws_FnCloseOut.j5 kj42 t631 t632 bt635.1 bt635.2 bt639.1 bt639.2 true) else ((laws_vInts.f kj42 bt635.1 bt639.1).bind fun t643 => (if t643 = true then (laws_FnCloseOut.j5 kj42 t631 t632 bt635.1 bt635.2 bt639.1 bt639.2 (!bt635.2)) else (laws_FnCloseOut.j5 kj42 t631 t632 bt635.1 bt635.2 bt639.1 bt639.2 true)))))) = some r := H
             have A67 := Aside0.mk A670
             clear A670
             replace H := Option.bind_eq_some_iff.mp H
             obtain ⟨⟨t635, t636⟩, A680, H⟩ := H
             replace H : ((spec_EstateDividend.f kj42 t631 t632).bind fun bt639 => (if (t636 != bt639.2) = true then (laws_FnCloseOut.j5 kj42 t631 t632 t635 t636 bt639.1 bt639.2 true) else ((laws_vInts.f kj42 t635 bt639.1).bind fun t643 => (if t643 = true then (laws_FnCloseOut.j5 kj42 t631 t632 t635 t636 bt639.1 bt639.2 (!t636)) else (laws_FnCloseOut.j5 kj42 t631 t632 t635 t636 bt639.1 bt639.2 true))))) = some r := H
             have A68 := Aside0.mk A680
             clear A680
             replace H := Option.bind_eq_some_iff.mp H
             obtain ⟨⟨t639, t640⟩, A690, H⟩ := H
             replace H : (if (t636 != t640) = true then (laws_FnCloseOut.j5 kj42 t631 t632 t635 t636 t639 t640 true) else ((laws_vInts.f kj42 t635 t639).bind fun t643 => (if t643 = true then (laws_FnCloseOut.j5 kj42 t631 t632 t635 t636 t639 t640 (!t636)) else (laws_FnCloseOut.j5 kj42 t631 t632 t635 t636 t639 t640 true)))) = some r := H
             have A69 := Aside0.mk A690
             clear A690
             have HC70 := Aside0.mk H
             clear H
             go_upto_region 29 with (first | ((with_reducible refine gate_callee (f := 34) rfl ?_); refine goesL_ (some 165) rfl rfl Try.func34 (by kernel_rfl) rfl #[.slice A0 l0.length c0] rfl (by (try simp only [List.map_toArray, List.map_cons, List.map_nil]); first | done | rfl | (simp only [List.length_drop, List.length_take]; rfl)) ?_; (with_reducible refine (spec_DrawEstateDividend.calls kj42 _ _ l0 t631 t632 _ ?side1 ?side2 A67.out).mono ?_); (case side1 => repeat (first | exact (Kd.C_below HR0.out HB.out) | (with_reducible refine Kd.C_alloc ?_ _) | (with_reducible refine Kd.C_drewN ?_ _) | (with_reducible refine Kd.C_drew ?_))); (case side2 => exact HC0.out); rintro e w71 ⟨v633, rfl, ho0, hb⟩; refine ⟨_, rfl, ?_⟩; have n0_ := Aside0.mk (Kd.R_lower ho0 (below_size (bB_ HB.out))); have n1_ := Aside0.mk (below_step (bB_ HB.out) hb); clear HB; have HO634 := n0_; have HB := n1_; clear n0_ n1_; (try clear hb); (try clear hb2); (try clear hk); (try clear hi); (try clear ho0); obtain ⟨Ao72, co72, eo72⟩ := Kd.R_slice HO634.out; subst eo72) | ((with_reducible refine gate_callee (f := 22) rfl ?_); refine goesL_ (some 171) rfl rfl Try.func22 (by kernel_rfl) rfl #[.int .i64 t631, .slice Ao72 t632.length co72] rfl (by (try simp only [List.map_toArray, List.map_cons, List.map_nil]); first | done | rfl | (simp only [List.length_drop, List.length_take]; rfl)) ?_; (with_reducible refine (impl_EstateDividend.calls kj42 t631 _ _ t632 t635 t636 _ ?side1 ?side2 A68.out).mono ?_); (case side1 => repeat (first | exact (Kd.R_reads' HO634.out).2.2 | (with_reducible refine Kd.C_alloc ?_ _) | (with_reducible refine Kd.C_drewN ?_ _) | (with_reducible refine Kd.C_drew ?_))); (case side2 => exact (Kd.R_reads' HO634.out).2.1); rintro e w73 ⟨v637, rfl, ho0, hb⟩; refine ⟨_, rfl, ?_⟩; have n0_ := Aside0.mk (Kd.R_elder' (bR_ HO634.out) (Kd.R_base ho0) hb); have n1_ := Aside0.mk (Kd.R_lower (Kd.R_new' ho0 (Kd.R_lt (bR_ HO634.out))) (below_size (bB_ HB.out))); have n2_ := Aside0.mk (below_step (bB_ HB.out) hb); clear HO634; clear HB; have HO634 := n0_; have HO638 := n1_; have HB := n2_; clear n0_ n1_ n2_; (try clear hb); (try clear hb2); (try clear hk); (try clear hi); (try clear ho0)) | ((with_reducible refine gate_callee (f := 20) rfl ?_); refine goesL_ (some 177) rfl rfl Try.func20 (by kernel_rfl) rfl #[.int .i64 t631, .slice Ao72 t632.length co72] rfl (by (try simp only [List.map_toArray, List.map_cons, List.map_nil]); first | done | rfl | (simp only [List.length_drop, List.length_take]; rfl)) ?_; (with_reducible refine (spec_EstateDividend.calls kj42 t631 _ _ t632 t639 t640 _ ?side1 ?side2 A69.out).mono ?_); (case side1 => repeat (first | exact (Kd.R_reads' HO634.out).2.2 | (with_reducible refine Kd.C_alloc ?_ _) | (with_reducible refine Kd.C_drewN ?_ _) | (with_reducible refine Kd.C_drew ?_))); (case side2 => exact (Kd.R_reads' HO634.out).2.1); rintro e w74 ⟨v641, rfl, ho0, hb⟩; refine ⟨_, rfl, ?_⟩; have n0_ := Aside0.mk (Kd.R_elder' (bR_ HO634.out) (Kd.R_base ho0) hb); have n1_ := Aside0.mk (Kd.R_elder' (bR_ HO638.out) (Kd.R_base ho0) hb); have n2_ := Aside0.mk (Kd.R_lower (Kd.R_new' (Kd.R_new' ho0 (Kd.R_lt (bR_ HO634.out))) (Kd.R_lt (bR_ HO638.out))) (below_size (bB_ HB.out))); have n3_ := Aside0.mk (below_step (bB_ HB.out) hb); clear HO634; clear HO638; clear HB; have HO634 := n0_; have HO638 := n1_; have HO642 := n2_; have HB := n3_; clear n0_ n1_ n2_ n3_; (try clear hb); (try clear hb2); (try clear hk); (try clear hi); (try clear ho0)))
             (try simp only [Act.put, List.setIfInBounds_toArray, List.set_cons_zero, List.set_cons_succ])
             go_cut [192] (fun v192 wc => ∃ (kq : Nat) (x192_69 : Bool), v192 = .bool x192_69 ∧ Aside0 (laws_FnCloseOut.j5 kq t631 t632 t635 t636 t639 t640 x192_69 = some r) ∧ Aside0 (kq ≤ kj42) ∧ Aside0 (Kd.R (Kd.int .i64) 3 wc w.heap.size (fun k_ => some k_ ≠ (v637 : Value).ownBlock ∧ some k_ ≠ (v641 : Value).ownBlock) (.slice Ao72 t632.length co72) t632) ∧ Aside0 (Kd.R (Kd.int .i64) 3 wc w.heap.size (fun k_ => some k_ ≠ ((.slice Ao72 t632.length co72) : Value).ownBlock ∧ some k_ ≠ (v641 : Value).ownBlock) v637 t635) ∧ Aside0 (Kd.R (Kd.int .i64) 3 wc w.heap.size (fun k_ => some k_ ≠ ((.slice Ao72 t632.length co72) : Value).ownBlock ∧ some k_ ≠ (v637 : Value).ownBlock) v641 t639) ∧ Aside0 (Below w.heap.size w wc))
             case first => as_aux_lemma =>
              have H := HC70.out
              clear HC70
              by_cases c75 : (t636 != t640) = true
              ·
               rw [if_pos c75] at H
               have c75b0 : (t636 != t640) = true := c75
               (try (have c75b1 : decide (t636 = t640) = false := by simpa using c75))
               (try (have c75b2 : (t636 == t640) = false := by simpa using c75))
               (try (have c75b3 : ¬ (t636 = t640) := by simpa using c75))
               clear c75
               (first | rw [c75b0] | (simp only [i64_w, i32_w]; rw [c75b0]) | skip)
               have H' := Aside0.mk H
               clear H
               go_wp2
               go_meet
               case rel => exact ⟨_, (true), (by first | rfl | (simp; done) | (simp [*]; done)), H', ⟨by have := HJ6.out; have := HJ13.out; have := HJ25.out; have := HJ42.out; first | omega | exact Nat.le_refl _⟩, ⟨by (with_reducible repeat (first | apply Kd.R_alloc | apply Kd.R_drewN | apply Kd.R_drew)); exact Kd.R_mono HO634.out (fun _ hk => ⟨hk.1.2, hk.2⟩)⟩, ⟨by (with_reducible repeat (first | apply Kd.R_alloc | apply Kd.R_drewN | apply Kd.R_drew)); exact Kd.R_mono HO638.out (fun _ hk => ⟨hk.1.2, hk.2⟩)⟩, ⟨by (with_reducible repeat (first | apply Kd.R_alloc | apply Kd.R_drewN | apply Kd.R_drew)); exact Kd.R_mono HO642.out (fun _ hk => ⟨hk.1.2, hk.2⟩)⟩, ⟨bB_ HB.out⟩⟩
              ·
               rw [if_neg c75] at H
               have c75b0 : (t636 != t640) = false := by simpa using c75
               (try (have c75b1 : decide (t636 = t640) = true := by simpa using c75))
               (try (have c75b2 : (t636 == t640) = true := by simpa using c75))
               clear c75
               (first | rw [c75b0] | (simp only [i64_w, i32_w]; rw [c75b0]) | skip)
               replace H := Option.bind_eq_some_iff.mp H
               obtain ⟨t643, A760, H⟩ := H
               replace H : (if t643 = true then (laws_FnCloseOut.j5 kj42 t631 t632 t635 t636 t639 t640 (!t636)) else (laws_FnCloseOut.j5 kj42 t631 t632 t635 t636 t639 t640 true)) = some r := H
               have A76 := Aside0.mk A760
               clear A760
               by_cases c77 : t643 = true
               ·
                subst c77
                have H1 : (laws_FnCloseOut.j5 kj42 t631 t632 t635 t636 t639 t640 (!t636)) = some r := by rw [if_pos rfl] at H; exact H
                clear H
                have H := H1
                clear H1
                have H' := Aside0.mk H
                clear H
                obtain ⟨Ao78, co78, eo78⟩ := Kd.R_slice HO638.out
                subst eo78
                obtain ⟨Ao79, co79, eo79⟩ := Kd.R_slice HO642.out
                subst eo79
                go_wp2_with (first | (go_at_call 32; (with_reducible refine (laws_vInts.calls kj42 _ _ t635 _ _ t639 true _ ?side1 ?side2 ?side3 ?side4 A76.out).mono ?_); (case side1 => repeat (first | exact (Kd.R_reads' HO638.out).2.2 | (with_reducible refine Kd.C_alloc ?_ _) | (with_reducible refine Kd.C_drewN ?_ _) | (with_reducible refine Kd.C_drew ?_))); (case side2 => exact (Kd.R_reads' HO638.out).2.1); (case side3 => repeat (first | exact (Kd.R_reads' HO642.out).2.2 | (with_reducible refine Kd.C_alloc ?_ _) | (with_reducible refine Kd.C_drewN ?_ _) | (with_reducible refine Kd.C_drew ?_))); (case side4 => exact (Kd.R_reads' HO642.out).2.1); rintro e w' ⟨rfl, ⟨nd, rfl⟩⟩))
                go_meet
                case rel => exact ⟨_, (!t636), (by first | rfl | (simp; done) | (simp [*]; done)), H', ⟨by have := HJ6.out; have := HJ13.out; have := HJ25.out; have := HJ42.out; first | omega | exact Nat.le_refl _⟩, ⟨by (with_reducible repeat (first | apply Kd.R_alloc | apply Kd.R_drewN | apply Kd.R_drew)); exact Kd.R_mono HO634.out (fun _ hk => ⟨hk.1.2, hk.2⟩)⟩, ⟨by (with_reducible repeat (first | apply Kd.R_alloc | apply Kd.R_drewN | apply Kd.R_drew)); exact Kd.R_mono HO638.out (fun _ hk => ⟨hk.1.2, hk.2⟩)⟩, ⟨by (with_reducible repeat (first | apply Kd.R_alloc | apply Kd.R_drewN | apply Kd.R_drew)); exact Kd.R_mono HO642.out (fun _ hk => ⟨hk.1.2, hk.2⟩)⟩, ⟨bB_ HB.out⟩⟩
               ·
                replace c77 := Bool.eq_false_iff.mpr c77
                subst c77
                have H1 : (laws_FnCloseOut.j5 kj42 t631 t632 t635 t636 t639 t640 true) = some r := by rw [if_neg (show ¬ (false = true) by decide)] at H; exact H
                clear H
                have H := H1
                clear H1
                have H' := Aside0.mk H
                clear H
                obtain ⟨Ao80, co80, eo80⟩ := Kd.R_slice HO638.out
                subst eo80
                obtain ⟨Ao81, co81, eo81⟩ := Kd.R_slice HO642.out
                subst eo81
                go_wp2_with (first | (go_at_call 32; (with_reducible refine (laws_vInts.calls kj42 _ _ t635 _ _ t639 false _ ?side1 ?side2 ?side3 ?side4 A76.out).mono ?_); (case side1 => repeat (first | exact (Kd.R_reads' HO638.out).2.2 | (with_reducible refine Kd.C_alloc ?_ _) | (with_reducible refine Kd.C_drewN ?_ _) | (with_reducible refine Kd.C_drew ?_))); (case side2 => exact (Kd.R_reads' HO638.out).2.1); (case side3 => repeat (first | exact (Kd.R_reads' HO642.out).2.2 | (with_reducible refine Kd.C_alloc ?_ _) | (with_reducible refine Kd.C_drewN ?_ _) | (with_reducible refine Kd.C_drew ?_))); (case side4 => exact (Kd.R_reads' HO642.out).2.1); rintro e w' ⟨rfl, ⟨nd, rfl⟩⟩))
                go_meet
                case rel => exact ⟨_, (true), (by first | rfl | (simp; done) | (simp [*]; done)), H', ⟨by have := HJ6.out; have := HJ13.out; have := HJ25.out; have := HJ42.out; first | omega | exact Nat.le_refl _⟩, ⟨by (with_reducible repeat (first | apply Kd.R_alloc | apply Kd.R_drewN | apply Kd.R_drew)); exact Kd.R_mono HO634.out (fun _ hk => ⟨hk.1.2, hk.2⟩)⟩, ⟨by (with_reducible repeat (first | apply Kd.R_alloc | apply Kd.R_drewN | apply Kd.R_drew)); exact Kd.R_mono HO638.out (fun _ hk => ⟨hk.1.2, hk.2⟩)⟩, ⟨by (with_reducible repeat (first | apply Kd.R_alloc | apply Kd.R_drewN | apply Kd.R_drew)); exact Kd.R_mono HO642.out (fun _ hk => ⟨hk.1.2, hk.2⟩)⟩, ⟨bB_ HB.out⟩⟩
             case rest => as_aux_lemma =>
              clear HC70
              try clear c1
              try clear c2
              try clear p2
              try clear c3
              try clear c4
              try clear c5
              try clear p5
              try clear q5
              try clear hx5
              try clear c6
              try clear p6
              try clear q6
              try clear hx6
              try clear c7
              try clear c12
              try clear c12b0
              try clear c12b1
              try clear c13
              try clear c15
              try clear c16
              try clear c16b0
              try clear c17
              try clear c17b0
              try clear c18
              try clear c18b0
              try clear c19
              try clear c19b0
              try clear c20
              try clear c20b0
              try clear c21
              try clear c21b0
              try clear c21b1
              try clear c22
              try clear c22b0
              try clear c22b1
              try clear c26
              try clear c27
              try clear c28
              try clear c29
              try clear c30
              try clear c31
              try clear c32
              try clear c32b0
              try clear c32b1
              try clear c32b2
              try clear c34
              try clear c42
              try clear c44
              try clear c49
              try clear c49b0
              try clear c49b1
              try clear c50
              try clear c50b0
              try clear c51
              try clear c51b0
              try clear c54
              try clear c54b0
              try clear c59
              try clear c59b0
              try clear p59
              try clear q59
              try clear hx59
              try clear p60
              try clear q60
              try clear hx60
              try clear p64
              try clear c66
              try clear c75
              try clear c75b0
              try clear c75b1
              try clear c75b2
              try clear c77
              try clear hx599_0
              try clear hx600_0
              try clear hx601_0
              try clear p2
              try clear p5
              try clear p59
              try clear p599
              try clear p6
              try clear p60
              try clear p600
              try clear p601
              try clear p64
              try clear q5
              try clear q59
              try clear q599
              try clear q6
              try clear q60
              try clear q600
              try clear q601
              obtain ⟨kq, x192_69, rfl, HA, HJ69, HO_24, HO_25, HO_27, HB⟩ := hcut
              cases kq with
              | zero => exact absurd HA.out (by simp [laws_FnCloseOut.j5])
              | succ kj69 =>
               have H := HA.out
               clear HA
               simp only [laws_FnCloseOut.j5] at H
               by_cases c82 : x192_69 = true
               ·
                subst c82
                have H1 : (if (t636 == t640) = true then ((laws_vInts.f kj69 t635 t639).bind fun t644 => (some t644)) else (some false)) = some r := by rw [if_pos rfl] at H; exact H
                clear H
                have H := H1
                clear H1
                by_cases c83 : (t636 == t640) = true
                ·
                 rw [if_pos c83] at H
                 have c83b0 : (t636 == t640) = true := c83
                 (try (have c83b1 : decide (t636 = t640) = true := by simpa using c83))
                 (try (have c83b2 : (t636 == t640) = true := by simpa using c83))
                 clear c83
                 replace H := Option.bind_eq_some_iff.mp H
                 obtain ⟨t644, A840, H⟩ := H
                 replace H : (some t644) = some r := H
                 have A84 := Aside0.mk A840
                 clear A840
                 obtain rfl := Option.some.inj H
                 obtain ⟨Ao85, co85, eo85⟩ := Kd.R_slice HO_25.out
                 subst eo85
                 obtain ⟨Ao86, co86, eo86⟩ := Kd.R_slice HO_27.out
                 subst eo86
                 go_wp2_with (first | (go_at_call 32; (with_reducible refine (laws_vInts.calls kj69 _ _ t635 _ _ t639 t644 _ ?side1 ?side2 ?side3 ?side4 A84.out).mono ?_); (case side1 => repeat (first | exact (Kd.R_reads' HO_25.out).2.2 | (with_reducible refine Kd.C_alloc ?_ _) | (with_reducible refine Kd.C_drewN ?_ _) | (with_reducible refine Kd.C_drew ?_))); (case side2 => exact (Kd.R_reads' HO_25.out).2.1); (case side3 => repeat (first | exact (Kd.R_reads' HO_27.out).2.2 | (with_reducible refine Kd.C_alloc ?_ _) | (with_reducible refine Kd.C_drewN ?_ _) | (with_reducible refine Kd.C_drew ?_))); (case side4 => exact (Kd.R_reads' HO_27.out).2.1); rintro e w' ⟨rfl, ⟨nd, rfl⟩⟩))
                 go_ret
                 exact ⟨by first | rfl | (simp [errW_none, errW_some] <;> rfl) | (simp [*, errW_none, errW_some] <;> rfl), bB_ HB.out⟩
                ·
                 rw [if_neg c83] at H
                 have c83b0 : (t636 == t640) = false := by simpa using c83
                 (try (have c83b1 : decide (t636 = t640) = false := by simpa using c83))
                 (try (have c83b2 : (t636 == t640) = false := by simpa using c83))
                 (try (have c83b3 : ¬ (t636 = t640) := by simpa using c83))
                 clear c83
                 obtain rfl := Option.some.inj H
                 go_wp2
                 go_ret
                 exact ⟨by first | rfl | (simp [errW_none, errW_some] <;> rfl) | (simp [*, errW_none, errW_some] <;> rfl), bB_ HB.out⟩
               ·
                replace c82 := Bool.eq_false_iff.mpr c82
                subst c82
                have H1 : ((laws_rSum.f kj69 t632).bind fun t645 => (if t631 < t645 then ((laws_rSum.f kj69 t635).bind fun t646 => (some (t646 == t631))) else ((laws_rSum.f kj69 t635).bind fun t647 => (some (t647 == t645))))) = some r := by rw [if_neg (show ¬ (false = true) by decide)] at H; exact H
                clear H
                have H := H1
                clear H1
                replace H := Option.bind_eq_some_iff.mp H
                obtain ⟨t645, A870, H⟩ := H
                replace H : (if t631 < t645 then ((laws_rSum.f kj69 t635).bind fun t646 => (some (t646 == t631))) else ((laws_rSum.f kj69 t635).bind fun t647 => (some (t647 == t645)))) = some r := H
                have A87 := Aside0.mk A870
                clear A870
                by_cases c88 : t631 < t645
                ·
                 rw [if_pos c88] at H
                 have c88b0 : decide (t631 < t645) = true := decide_eq_true c88
                 clear c88
                 replace H := Option.bind_eq_some_iff.mp H
                 obtain ⟨t646, A890, H⟩ := H
                 replace H : (some (t646 == t631)) = some r := H
                 have A89 := Aside0.mk A890
                 clear A890
                 obtain rfl := Option.some.inj H
                 go_wp2_with (first | ((with_reducible refine gate_callee (f := 33) rfl ?_); refine goesL_ (some 202) rfl rfl Try.func33 (by kernel_rfl) rfl #[.slice Ao72 t632.length co72] rfl (by (try simp only [List.map_toArray, List.map_cons, List.map_nil]); first | done | rfl | (simp only [List.length_drop, List.length_take]; rfl)) ?_; (with_reducible refine (laws_rSum.calls kj69 _ _ t632 t645 _ ?side1 ?side2 A87.out).mono ?_); (case side1 => repeat (first | exact (Kd.R_reads' HO_24.out).2.2 | (with_reducible refine Kd.C_alloc ?_ _) | (with_reducible refine Kd.C_drewN ?_ _) | (with_reducible refine Kd.C_drew ?_))); (case side2 => exact (Kd.R_reads' HO_24.out).2.1); rintro e w' ⟨rfl, ⟨nd, rfl⟩⟩; refine ⟨_, rfl, ?_⟩; obtain ⟨Ao90, co90, eo90⟩ := Kd.R_slice HO_25.out; subst eo90) | ((with_reducible refine gate_callee (f := 33) rfl ?_); refine goesL_ (some 208) rfl rfl Try.func33 (by kernel_rfl) rfl #[.slice Ao90 t635.length co90] rfl (by (try simp only [List.map_toArray, List.map_cons, List.map_nil]); first | done | rfl | (simp only [List.length_drop, List.length_take]; rfl)) ?_; (with_reducible refine (laws_rSum.calls kj69 _ _ t635 t646 _ ?side1 ?side2 A89.out).mono ?_); (case side1 => repeat (first | exact (Kd.R_reads' HO_25.out).2.2 | (with_reducible refine Kd.C_alloc ?_ _) | (with_reducible refine Kd.C_drewN ?_ _) | (with_reducible refine Kd.C_drew ?_))); (case side2 => exact (Kd.R_reads' HO_25.out).2.1); rintro e w' ⟨rfl, ⟨nd, rfl⟩⟩; refine ⟨_, rfl, ?_⟩))
                 go_ret
                 exact ⟨by first | rfl | (simp [errW_none, errW_some] <;> rfl) | (simp [*, errW_none, errW_some] <;> rfl), bB_ HB.out⟩
                ·
                 rw [if_neg c88] at H
                 have c88b0 : decide (t631 < t645) = false := decide_eq_false c88
                 clear c88
                 replace H := Option.bind_eq_some_iff.mp H
                 obtain ⟨t647, A910, H⟩ := H
                 replace H : (some (t647 == t645)) = some r := H
                 have A91 := Aside0.mk A910
                 clear A910
                 obtain rfl := Option.some.inj H
                 go_wp2_with (first | ((with_reducible refine gate_callee (f := 33) rfl ?_); refine goesL_ (some 202) rfl rfl Try.func33 (by kernel_rfl) rfl #[.slice Ao72 t632.length co72] rfl (by (try simp only [List.map_toArray, List.map_cons, List.map_nil]); first | done | rfl | (simp only [List.length_drop, List.length_take]; rfl)) ?_; (with_reducible refine (laws_rSum.calls kj69 _ _ t632 t645 _ ?side1 ?side2 A87.out).mono ?_); (case side1 => repeat (first | exact (Kd.R_reads' HO_24.out).2.2 | (with_reducible refine Kd.C_alloc ?_ _) | (with_reducible refine Kd.C_drewN ?_ _) | (with_reducible refine Kd.C_drew ?_))); (case side2 => exact (Kd.R_reads' HO_24.out).2.1); rintro e w' ⟨rfl, ⟨nd, rfl⟩⟩; refine ⟨_, rfl, ?_⟩; obtain ⟨Ao92, co92, eo92⟩ := Kd.R_slice HO_25.out; subst eo92) | ((with_reducible refine gate_callee (f := 33) rfl ?_); refine goesL_ (some 208) rfl rfl Try.func33 (by kernel_rfl) rfl #[.slice Ao92 t635.length co92] rfl (by (try simp only [List.map_toArray, List.map_cons, List.map_nil]); first | done | rfl | (simp only [List.length_drop, List.length_take]; rfl)) ?_; (with_reducible refine (laws_rSum.calls kj69 _ _ t635 t647 _ ?side1 ?side2 A91.out).mono ?_); (case side1 => repeat (first | exact (Kd.R_reads' HO_25.out).2.2 | (with_reducible refine Kd.C_alloc ?_ _) | (with_reducible refine Kd.C_drewN ?_ _) | (with_reducible refine Kd.C_drew ?_))); (case side2 => exact (Kd.R_reads' HO_25.out).2.1); rintro e w' ⟨rfl, ⟨nd, rfl⟩⟩; refine ⟨_, rfl, ?_⟩))
                 go_ret
                 exact ⟨by first | rfl | (simp [errW_none, errW_some] <;> rfl) | (simp [*, errW_none, errW_some] <;> rfl), bB_ HB.out⟩

/-- THE ONE PURE STATEMENT of laws_FnCloseOut: yours. -/
def laws_FnCloseOut.Pure : Prop := ∀ (l0 : List Int), l0.length ≤ maxLen → l0.length * 1 ≤ 140737488351232 → (∀ x ∈ l0, (Lit.int .u8 x).wf = true) → ∃ k, laws_FnCloseOut.f k l0 = some true
theorem laws_FnCloseOut.walk (P : laws_FnCloseOut.Pure) (a0 : Option Addr) (len0 cap0 : Nat) (z0 : List Int) (w : World) (w0 : (a0 = none ∧ len0 = 0 ∧ cap0 = 0 ∧ z0 = []) ∨ ∃ x, a0 = some x ∧ len0 ≤ cap0 ∧ cap0 ≤ maxLen ∧ z0.length = cap0 ∧ (∀ i, i < z0.length → w.cell? (x.add i) = some (.int .u8 (z0.getD i 0))) ∧ ∀ n ∈ z0, (Lit.int .u8 n).wf = true) (y0 : len0 * 1 ≤ 140737488351232) :
 Calls Try.prog 7 #[.slice a0 len0 cap0] w fun e w' => e = .returned (.bool true) ∧ Below w.heap.size w w' := by
 obtain ⟨l0, rfl, hr0, hm0, hw0, hc0⟩ := ReadsInt.ofRowC w0
 obtain ⟨k, h⟩ := P l0 hm0 y0 hw0
 refine (laws_FnCloseOut.calls k _ _ l0 true w (Kd.C_of_reads (d := (0 : Int)) (h1 := fun _ => rfl) hr0) hc0 h).mono ?_
 rintro e w' ⟨rfl, hd⟩
 exact ⟨rfl, hd⟩

end Go.Proofs.Ytlneimpoholkhaa.PFnCloseOut
