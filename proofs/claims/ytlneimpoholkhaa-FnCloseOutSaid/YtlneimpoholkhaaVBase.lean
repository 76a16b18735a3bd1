/-
Plain lemmas for printed functions: rounds, whole numbers that fit, lists by index, loops that copy, compare, mark and look at marks.
-/
import Derived.Test.YtlneimpoholkhaaVMore
namespace Go.Proofs.YtlneimpoholkhaaBase
open Go.RowKit Go.Proofs.YtlneimpoholkhaaW.PrintWords Go.Proofs.YtlneimpoholkhaaW.PrintLast Go.Proofs.YtlneimpoholkhaaW.PrintMore

theorem w64 {x : Int} (h0 : -9223372036854775808 ≤ x) (h1 : x ≤ 9223372036854775807) : wrap64 x = x := by unfold wrap64; omega
theorem w64s {i : Nat} (h : i < 4611686018427387904) : wrap64 ((i : Int) + 1) = ((i + 1 : Nat) : Int) := by rw [w64 (by omega) (by omega)]; omega
theorem w64p {i : Nat} (h : i < 4611686018427387904) (h0 : 0 < i) : wrap64 ((i : Int) - 1) = ((i - 1 : Nat) : Int) := by rw [w64 (by omega) (by omega)]; omega

theorem down {P : Nat → Prop} (n : Nat) (hn : P n) (hs : ∀ i, i < n → P (i + 1) → P i) : ∀ i, i ≤ n → P i := by
  intro i hi
  obtain ⟨d, rfl⟩ : ∃ d, n = i + d := ⟨n - i, by omega⟩
  induction d generalizing i with
  | zero => exact hn
  | succ d ih => exact hs i (by omega) (ih (i + 1) (by rwa [show i + 1 + d = i + (d + 1) by omega]) (fun j hj => hs j (by omega)) (by omega))

theorem drop_getD {α : Type} (l : List α) (i : Nat) (h : i < l.length) (z : α) : l.drop i = l.getD i z :: l.drop (i + 1) := by
  rw [List.drop_eq_getElem_cons h, List.getD_eq_getElem?_getD, List.getElem?_eq_getElem h]
  rfl
theorem take_getD {α : Type} (l : List α) (i : Nat) (h : i < l.length) (z : α) : l.take (i + 1) = l.take i ++ [l.getD i z] := by
  rw [List.take_succ_eq_append_getElem h, List.getD_eq_getElem?_getD, List.getElem?_eq_getElem h]
  rfl
theorem getD_mem {α : Type} (l : List α) (i : Nat) (h : i < l.length) (z : α) : l.getD i z ∈ l := by
  rw [List.getD_eq_getElem?_getD, List.getElem?_eq_getElem h]
  exact List.getElem_mem _
theorem rd_nat (l : List Int) (i : Nat) : rd l (i : Int) = l.getD i 0 := rfl

theorem Ev.same {α : Type} {g : Nat → Option α} {r r' : α} (h : Ev g r) (h' : Ev g r') : r = r' := by
  obtain ⟨K, hK⟩ := h
  obtain ⟨K', hK'⟩ := h'
  exact Option.some.inj ((hK (max K K') (Nat.le_max_left _ _)).symm.trans (hK' _ (Nat.le_max_right _ _)))
theorem Ev.none_ {α : Type} {r : α} {p : Prop} (h : Ev (fun _ => (none : Option α)) r) : p := by
  obtain ⟨K, hK⟩ := h
  cases hK K (Nat.le_refl _)
theorem Ev.const {α : Type} {g : Option α} {r : α} (h : g = some r) : Ev (fun _ => g) r := ⟨0, fun _ _ => h⟩

/-- A loop that fills a list of zeros with what it makes of another one's elements. -/
theorem copy_loop {α β : Type} (c : α → β) (z : β) (za : α) (l : List α) (G : Nat → List β → Int → Option (List β)) 
    (hs : ∀ k (i : Nat) (y : List β), i < l.length → y.length = l.length → G (k + 1) y (i : Int) = G k (y.set i (c (l.getD i za))) ((i + 1 : Nat) : Int))
    (he : ∀ k (y : List β), y.length = l.length → G (k + 1) y (l.length : Int) = some y) :
    Ev (fun k => G k (List.replicate l.length z) 0) (l.map c) := by
  have key : ∀ i, i ≤ l.length → Ev (fun k => G k ((l.take i).map c ++ List.replicate (l.length - i) z) (i : Int)) (l.map c) := by
    refine down l.length ?_ (fun i hi ih => ?_)
    · refine Ev.step (fun k => he k _ (by simp)) ?_
      rw [Nat.sub_self, List.take_length, List.replicate_zero, List.append_nil]
      exact Ev.now _
    · refine Ev.step (fun k => hs k i _ hi (by simp; omega)) ?_
      have e : ((l.take i).map c ++ List.replicate (l.length - i) z).set i (c (l.getD i za)) = (l.take (i + 1)).map c ++ List.replicate (l.length - (i + 1)) z := by
        rw [List.set_append_right _ _ (by simp; omega), take_getD l i hi za, List.map_append]
        have : ((l.take i).map c).length = i := by simp; omega
        rw [this, Nat.sub_self, show l.length - i = (l.length - (i + 1)) + 1 by omega, List.replicate_succ, List.set_cons_zero]
        simp
      simp only [e]
      exact ih
  have := key 0 (Nat.zero_le _)
  simpa using this

/-- A loop that holds two equal lists against each other. -/
theorem same_loop {α : Type} (l : List α) (G : Nat → Int → Option Bool) (hs : ∀ (i : Nat), i < l.length → Ev (fun k => G k ((i + 1 : Nat) : Int)) true → Ev (fun k => G k (i : Int)) true) (he : ∀ k, G (k + 1) (l.length : Int) = some true) : Ev (fun k => G k 0) true := by
  have := down (P := fun i => Ev (fun k => G k (i : Int)) true) l.length (Ev.step he (Ev.now _)) hs 0 (Nat.zero_le _)
  exact this
end Go.Proofs.YtlneimpoholkhaaBase
