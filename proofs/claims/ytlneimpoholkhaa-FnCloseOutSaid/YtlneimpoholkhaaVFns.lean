/-
Contracts of the library's functions that are handed function values, and of closures, over the translation. No condition.
-/
import Derived.Test.YtlneimpoholkhaaProg
import Derived.WalkKit
import Derived.Deep.LoopGhost
import Derived.Deep.QuietTactic
import Derived.BigQuiet
import Derived.KernelRfl
import Derived.Shelf.Abstract
import Derived.Test.YtlneimpoholkhaaVMore
namespace Go.Proofs.YtlneimpoholkhaaFns
open Go.RowKit Go.Proofs.YtlneimpoholkhaaW.PrintWords Go.Proofs.YtlneimpoholkhaaW.PrintLast Go.Proofs.YtlneimpoholkhaaW.PrintMore
set_option linter.unusedVariables false

/-! slices.IndexFunc and slices.ContainsFunc at []int, whatever the function value -/
/-- What is asked of a function value: it tells p, and leaves all that lay in w as it was. -/
def Tells (g : Nat) (lb : Array Value) (p : Int → Bool) (w : World) : Prop :=
  ∀ (W : World) (x : Int), Below w.heap.size w W → Calls Try.prog g (#[.int .i64 x] ++ lb) W fun e w' => e = .returned (.bool (p x)) ∧ Below w.heap.size w w'
def idxF {α : Type} (p : α → Bool) : List α → Int → Int
  | [], _ => -1
  | x :: xs, i => if p x = true then i else idxF p xs (i + 1)
theorem idxF_hit {α : Type} (p : α → Bool) (z : α) : ∀ (l : List α) (n : Nat) (i : Int), n < l.length → p (l.getD n z) = true → (∀ j, j < n → p (l.getD j z) = false) → idxF p l i = i + n
  | [], n, i, h, _, _ => absurd h (Nat.not_lt_zero _)
  | x :: xs, 0, i, _, h, _ => by
    have : p x = true := h
    rw [idxF, if_pos this]; omega
  | x :: xs, n + 1, i, hl, h, ha => by
    have h0 : p x = false := ha 0 (by omega)
    rw [idxF, if_neg (by rw [h0]; simp), idxF_hit p z xs n (i + 1) (by simpa using hl) h (fun j hj => ha (j + 1) (by omega))]
    omega
theorem idxF_miss {α : Type} (p : α → Bool) (z : α) : ∀ (l : List α) (i : Int), (∀ j, j < l.length → p (l.getD j z) = false) → idxF p l i = -1
  | [], i, _ => rfl
  | x :: xs, i, h => by
    have h0 : p x = false := h 0 (by simp)
    rw [idxF, if_neg (by rw [h0]; simp), idxF_miss p z xs (i + 1) (fun j hj => h (j + 1) (by simpa using hj))]
theorem idxF_any {α : Type} (p : α → Bool) : ∀ (l : List α) (i : Int), 0 ≤ i → decide (0 ≤ idxF p l i) = l.any p
  | [], i, _ => rfl
  | x :: xs, i, hi => by
    rw [idxF, List.any_cons]
    cases h : p x with
    | true => rw [if_pos rfl]; simpa using hi
    | false => rw [if_neg (by simp), Bool.false_or]; exact idxF_any p xs (i + 1) (by omega)
set_option maxHeartbeats 2000000 in
theorem indexFuncI (p : Int → Bool) (g : Nat) (lb : Array Value) (eg : ∀ args w, (callFunc g args).run Try.prog w = .ok (.enter g args) w) (A : Option Addr) (c : Nat) (l : List Int) (w : World) (hr : Kd.C (Kd.int .i64) w A l.length l) (hp : Tells g lb p w) :
    Calls Try.prog 105 #[.slice A l.length c, .func (.func g) #[] lb] w fun e w' => e = .returned (.int .i64 (idxF p l 0)) ∧ Below w.heap.size w w' := by
  have hbig := Kd.C_max hr
  have hcell : ∀ (W : World), Below w.heap.size w W → ∀ j : Nat, j < l.length → ∃ ad, A = some ad ∧ W.cell? (ad.add j) = some (.int .i64 (l.getD j 0)) := fun W hW j hj => by
    obtain ⟨ad, h1, h2⟩ := Kd.at_int (Kd.C_below hr hW) (j : Int) (by omega) (by omega)
    exact ⟨ad, h1, h2⟩
  clear hr
  go_enter Try.func105, Try.ntmps105
  go_wp2
  go_loopg [5, 8] l.length (fun gg _ s8 wr => ∃ kk : Nat, kk ≤ l.length ∧ l.length - kk ≤ gg ∧ s8 = .int .i64 kk ∧ Aside0 (Below w.heap.size w wr) ∧ Aside0 (∀ j, j < kk → p (l.getD j 0) = false))
  case atStart => exact ⟨0, Nat.zero_le _, by omega, rfl, ⟨Below.refl _ w⟩, ⟨fun j hj => absurd hj (Nat.not_lt_zero _)⟩⟩
  case round =>
    obtain ⟨kk, hkk, hg, rfl, BW, HA⟩ := hrel
    by_cases hlt : kk < l.length
    · have hltz : (kk : Int) < (l.length : Int) := by omega
      obtain ⟨ad, rfl, hc⟩ := hcell wr BW.out kk hlt
      have hcall := hp wr (l.getD kk 0) BW.out
      clear hcell hp
      generalize hy : l.getD kk 0 = y at hc hcall
      have B : Aside0 (l.getD kk 0 = y) := ⟨hy⟩
      clear hy
      cases hq : p y with
      | true =>
        rw [hq] at hcall
        go_wp2_with (go_at_fn g; refine hcall.mono ?_; rintro e w' ⟨rfl, hb'⟩)
        go_ret
        refine ⟨?_, hb'⟩
        rw [idxF_hit p 0 l kk 0 hlt (by rw [B.out]; exact hq) HA.out]
        simp
      | false =>
        rw [hq] at hcall
        go_wp2_with (go_at_fn g; refine hcall.mono ?_; rintro e w' ⟨rfl, hb'⟩)
        go_roundg (l.length - (kk + 1))
        case measure => omega
        case rel =>
          refine ⟨kk + 1, by omega, by omega, by go_num, ⟨hb'⟩, ⟨fun j hj => ?_⟩⟩
          by_cases e : j = kk
          · subst e
            rw [B.out]; exact hq
          · exact HA.out j (by omega)
    · have hltz : ¬ (kk : Int) < (l.length : Int) := by omega
      clear hcell hp
      go_wp2
      go_ret
      refine ⟨?_, BW.out⟩
      rw [idxF_miss p 0 l 0 (fun j hj => HA.out j (by omega))]
      rfl
theorem containsFuncI (p : Int → Bool) (g : Nat) (lb : Array Value) (eg : ∀ args w, (callFunc g args).run Try.prog w = .ok (.enter g args) w) (A : Option Addr) (c : Nat) (l : List Int) (w : World) (hr : Kd.C (Kd.int .i64) w A l.length l) (hp : Tells g lb p w) :
    Calls Try.prog 92 #[.slice A l.length c, .func (.func g) #[] lb] w fun e w' => e = .returned (.bool (l.any p)) ∧ Below w.heap.size w w' := by
  have hcall := indexFuncI p g lb eg A c l w hr hp
  rw [← idxF_any p l 0 (by omega)]
  generalize idxF p l 0 = r at hcall ⊢
  clear hr hp
  go_enter Try.func92, Try.ntmps92
  go_wp2_with (go_at_call 105; refine hcall.mono ?_; rintro e w' ⟨rfl, hb'⟩)
  go_ret
  exact ⟨rfl, hb'⟩

end Go.Proofs.YtlneimpoholkhaaFns
