/-
The plain law behind FnExactCloseOutAmount: the printed functions of the program and of the reference give the same values, so the law answers true. No condition.
-/
import Derived.Test.YtjpceeemmebghaaAskFnExactCloseOutAmount
import Derived.Test.YtjpceeemmebghaaBase
namespace Go.Proofs.Ytjpceeemmebghaa.PureFnExactCloseOutAmount
open Go.RowKit Go.Proofs.Ytjpceeemmebghaa.PFnExactCloseOutAmount Go.Proofs.YtjpceeemmebghaaOpen Go.Proofs.YtjpceeemmebghaaBase Go.Proofs.YtjpceeemmebghaaW.PrintWords Go.Proofs.YtjpceeemmebghaaW.PrintLast Go.Proofs.YtjpceeemmebghaaW.PrintMore

abbrev LT := S80
abbrev IT := S78
def conv (l : List LT) : List IT := l.map fun x => ⟨x.f0, x.f1⟩
theorem conv_length (l : List LT) : (conv l).length = l.length := by simp [conv]
theorem sz_ev (l : List LT) (hl : l.length ≤ maxLen) : laws_szTradeS.f l 1048576 = if l.length ≤ 1048576 then some (1048576 - (l.length : Int)) else some (-1) := by
  unfold maxLen at hl
  unfold laws_szTradeS.f
  rw [w64 (by omega) (by omega)]
  by_cases h : l.length ≤ 1048576
  · rw [if_neg (by omega), if_pos h]
  · rw [if_pos (by omega), if_neg h]
theorem toS_ev (l : List LT) (hl : l.length ≤ 1048576) : Ev (fun k => laws_toTradeS.f k l) (conv l) := by
  unfold laws_toTradeS.f
  refine Ev.congr (f := fun k => laws_toTradeS.l0 k l (List.replicate l.length z78) 0) (fun k => by rw [if_pos (by omega), if_pos (by omega)]; rfl) ?_
  refine copy_loop (fun x : LT => (⟨x.f0, x.f1⟩ : IT)) _ z80 l (fun k y i => laws_toTradeS.l0 k l y i) ?_ ?_
  · intro k i y hi hy
    simp only [laws_toTradeS.l0]
    rw [if_pos (by omega), if_pos (by omega)]
    unfold laws_toTrade.f
    rw [Option.bind_some, if_pos (by omega), w64s (by omega)]
    rfl
  · intro k y hy
    simp only [laws_toTradeS.l0]
    rw [if_neg (by omega)]
theorem eqS_ev (l : List IT) (hl : l.length ≤ 1048576) : Ev (fun k => laws_eqTradeS.f k l l) true := by
  unfold laws_eqTradeS.f
  refine Ev.congr (f := fun k => laws_eqTradeS.l0 k l l 0) (fun k => by rw [if_pos rfl]) ?_
  refine same_loop l (fun k i => laws_eqTradeS.l0 k l l i) (fun i hi ih => ?_) (fun k => by simp only [laws_eqTradeS.l0]; rw [if_neg (by omega)])
  refine Ev.step (f := fun k => laws_eqTradeS.l0 k l l ((i + 1 : Nat) : Int)) (fun k => ?_) ih
  simp only [laws_eqTradeS.l0]
  rw [if_pos (by omega), if_pos (by omega), if_pos (by omega)]
  unfold laws_eqTrade.f
  rw [if_pos rfl, if_pos rfl, Option.bind_some, if_pos rfl, w64s (by omega)]

def am (x : Int) : Bool := decide (-1000000000 ≤ x) && decide (x ≤ 1000000000)
theorem am_iff {x : Int} : am x = true ↔ -1000000000 ≤ x ∧ x ≤ 1000000000 := by simp [am]
theorem within_eq (x a b : Int) : impl_within.f x a b = some (decide (a ≤ x) && decide (x ≤ b)) := by
  unfold impl_within.f
  by_cases h : x ≥ a
  · rw [if_pos h]; simp [h]
  · rw [if_neg h]; simp [h]
theorem l1In_eq (x a b : Int) : spec_l1In.f x a b = some (decide (a ≤ x) && decide (x ≤ b)) := by
  unfold spec_l1In.f
  by_cases h : x ≥ a
  · rw [if_pos h]; simp [h]
  · rw [if_neg h]; simp [h]
theorem isAmount_eq (x : Int) : impl_isAmount.f x = some (am x) := by unfold impl_isAmount.f; rw [within_eq]; rfl
theorem l2Amount_eq (x : Int) : spec_l2Amount.f x = some (am x) := by unfold spec_l2Amount.f; rw [l1In_eq]; rfl
def fin (s : Int) : Int × Bool := if am s = true then (s, true) else (0, false)
/-- The sum of what is left of the list, behind s. -/
def sumUp : Int → List IT → Int × Bool
  | s, [] => fin s
  | s, x :: xs => if am x.f0 = true then (if am x.f1 = true then sumUp (s + x.f0 + x.f1) xs else (0, false)) else (0, false)

theorem spec_loop (l : List IT) (hl : l.length ≤ 20) : ∀ i, i ≤ l.length → ∀ s : Int, -(2000000000 * (i : Int)) ≤ s → s ≤ 2000000000 * (i : Int) → Ev (fun k => spec_CloseOutAmount.l0 k l s (i : Int)) (sumUp s (l.drop i)) := by
  refine down l.length ?_ (fun i hi ih => ?_)
  · intro s _ _
    refine Ev.step (f := fun _ => some (fin s)) (fun k => ?_) (by rw [List.drop_length]; exact Ev.now _)
    simp only [spec_CloseOutAmount.l0]
    rw [if_neg (by omega), l2Amount_eq, Option.bind_some]
    unfold fin
    split <;> rfl
  · intro s h0 h1
    rw [drop_getD l i hi z78, sumUp]
    have hx : rd_T78 l (i : Int) = l.getD i z78 := rfl
    generalize l.getD i z78 = x at hx ⊢
    by_cases c0 : am x.f0 = true
    · by_cases c1 : am x.f1 = true
      · rw [if_pos c0, if_pos c1]
        have a0 := am_iff.1 c0
        have a1 := am_iff.1 c1
        refine Ev.step (f := fun k => spec_CloseOutAmount.l0 k l (s + x.f0 + x.f1) ((i + 1 : Nat) : Int)) (fun k => ?_) (ih _ (by omega) (by omega))
        simp only [spec_CloseOutAmount.l0]
        rw [if_pos (by omega), if_pos (by omega), hx, l2Amount_eq, l2Amount_eq, Option.bind_some, if_pos c0, Option.bind_some, if_pos c1, w64s (by omega), w64 (x := s + x.f0) (by omega) (by omega), w64 (by omega) (by omega)]
      · rw [if_pos c0, if_neg c1]
        refine Ev.step (f := fun _ => some (0, false)) (fun k => ?_) (Ev.now _)
        simp only [spec_CloseOutAmount.l0]
        rw [if_pos (by omega), if_pos (by omega), hx, l2Amount_eq, l2Amount_eq, Option.bind_some, if_pos c0, Option.bind_some, if_neg c1]
    · rw [if_neg c0]
      refine Ev.step (f := fun _ => some (0, false)) (fun k => ?_) (Ev.now _)
      simp only [spec_CloseOutAmount.l0]
      rw [if_pos (by omega), if_pos (by omega), hx, l2Amount_eq, Option.bind_some, if_neg c0]
theorem impl_loop (l : List IT) (hl : l.length ≤ 20) : ∀ i, i ≤ l.length → ∀ s : Int, -(2000000000 * (i : Int)) ≤ s → s ≤ 2000000000 * (i : Int) → Ev (fun k => impl_CloseOutAmount.l0 k s l (l.length : Int) (i : Int)) (sumUp s (l.drop i)) := by
  refine down l.length ?_ (fun i hi ih => ?_)
  · intro s _ _
    refine Ev.step (f := fun _ => some (fin s)) (fun k => ?_) (by rw [List.drop_length]; exact Ev.now _)
    simp only [impl_CloseOutAmount.l0]
    rw [if_neg (by omega)]
    unfold impl_amountOr.f
    rw [isAmount_eq, Option.bind_some]
    unfold fin
    split <;> rfl
  · intro s h0 h1
    rw [drop_getD l i hi z78, sumUp]
    have hx : rd_T78 l (i : Int) = l.getD i z78 := rfl
    generalize l.getD i z78 = x at hx ⊢
    by_cases c0 : am x.f0 = true
    · by_cases c1 : am x.f1 = true
      · rw [if_pos c0, if_pos c1]
        have a0 := am_iff.1 c0
        have a1 := am_iff.1 c1
        refine Ev.step (f := fun k => impl_CloseOutAmount.l0 k (s + x.f0 + x.f1) l (l.length : Int) ((i + 1 : Nat) : Int)) (fun k => ?_) (ih _ (by omega) (by omega))
        simp only [impl_CloseOutAmount.l0]
        rw [if_pos (by omega), if_pos (by omega), if_pos (by omega), hx, isAmount_eq, isAmount_eq, Option.bind_some, if_pos c0, Option.bind_some, if_pos c1, w64s (by omega), w64 (x := x.f0 + x.f1) (by omega) (by omega), w64 (by omega) (by omega), Int.add_assoc]
      · rw [if_pos c0, if_neg c1]
        refine Ev.step (f := fun _ => some (0, false)) (fun k => ?_) (Ev.now _)
        simp only [impl_CloseOutAmount.l0]
        rw [if_pos (by omega), if_pos (by omega), if_pos (by omega), hx, isAmount_eq, isAmount_eq, Option.bind_some, if_pos c0, Option.bind_some, if_neg c1]
    · rw [if_neg c0]
      refine Ev.step (f := fun _ => some (0, false)) (fun k => ?_) (Ev.now _)
      simp only [impl_CloseOutAmount.l0]
      rw [if_pos (by omega), if_pos (by omega), if_pos (by omega), hx, isAmount_eq, Option.bind_some, if_neg c0]
def total (l : List IT) : Int × Bool := if l.length > 20 then (0, false) else sumUp 0 l
theorem spec_ev (l : List IT) : Ev (fun k => spec_CloseOutAmount.f k l) (total l) := by
  unfold spec_CloseOutAmount.f total
  by_cases h : l.length > 20
  · rw [if_pos h]
    exact Ev.congr (fun k => by rw [if_pos (by omega)]) (Ev.now _)
  · rw [if_neg h]
    refine Ev.congr (f := fun k => spec_CloseOutAmount.l0 k l 0 0) (fun k => by rw [if_neg (by omega)]) ?_
    exact spec_loop l (by omega) 0 (Nat.zero_le _) 0 (by omega) (by omega)
theorem impl_ev (l : List IT) : Ev (fun k => impl_CloseOutAmount.f k l) (total l) := by
  unfold impl_CloseOutAmount.f total
  by_cases h : l.length > 20
  · rw [if_pos h]
    exact Ev.congr (fun k => by rw [if_pos (by omega)]) (Ev.now _)
  · rw [if_neg h]
    refine Ev.congr (f := fun k => impl_CloseOutAmount.l0 k 0 l (l.length : Int) 0) (fun k => by rw [if_neg (by omega)]) ?_
    exact impl_loop l (by omega) 0 (Nat.zero_le _) 0 (by omega) (by omega)
theorem whole (l : List LT) (hl : l.length ≤ maxLen) : Ev (fun k => laws_FnExactCloseOutAmount.f k l) true := by
  unfold laws_FnExactCloseOutAmount.f
  rw [sz_ev l hl]
  by_cases h : l.length ≤ 1048576
  · simp only [if_pos h, Option.bind_some, if_neg (show ¬ (1048576 - (l.length : Int) < 0) by omega)]
    have hc := conv_length l
    refine Ev.bind (toS_ev l h) (Ev.bind (spec_ev (conv l)) (Ev.bind (toS_ev l h) (Ev.bind (impl_ev (conv l)) ?_)))
    simp only [if_true, bne_self_eq_false]
    refine Ev.step (f := fun k => (laws_toTradeS.f k l).bind fun t => (laws_eqTradeS.f k (conv l) t).bind fun u => if u = true then some true else some false) (fun k => by simp only [laws_FnExactCloseOutAmount.j0]; rw [if_neg (by simp)]) ?_
    refine Ev.bind (toS_ev l h) (Ev.bind (eqS_ev (conv l) (by omega)) ?_)
    simp only [if_true]
    exact Ev.now _
  · simp only [if_neg h, Option.bind_some]
    exact Ev.now _
end Go.Proofs.Ytjpceeemmebghaa.PureFnExactCloseOutAmount
namespace Go.Proofs.Ytjpceeemmebghaa.Pure
theorem FnExactCloseOutAmount : PFnExactCloseOutAmount.laws_FnExactCloseOutAmount.Ask := fun x hx => (PureFnExactCloseOutAmount.whole x hx.1).rounds
end Go.Proofs.Ytjpceeemmebghaa.Pure
