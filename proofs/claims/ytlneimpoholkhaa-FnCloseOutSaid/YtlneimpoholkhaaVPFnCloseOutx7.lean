/- Each Go function that the law uses as a plain Lean function, and a proof that its code comes to what this function tells. No condition. -/
import Derived.Test.YtlneimpoholkhaaVPFnCloseOutx0
import Derived.Test.YtlneimpoholkhaaVPFnCloseOutx4
import Derived.Test.YtlneimpoholkhaaVPFnCloseOutx6
namespace Go.Proofs.Ytlneimpoholkhaa.PFnCloseOut
open Go.RowKit Go.Proofs.YtlneimpoholkhaaW.PrintWords Go.Proofs.YtlneimpoholkhaaW.PrintLast Go.Proofs.YtlneimpoholkhaaW.PrintMore
attribute [local go_sem] max2_int min2_int max_two min_two max_three min_three max_four min_four   -- for this text's walks alone
set_option linter.unusedVariables false
set_option linter.unusedSimpArgs false

/-! ### impl_servedBy: function 95 -/
mutual
def impl_servedBy.l0 : Nat → List (S85) → Int → List Int → List Int → Int → Int → Option (List Int × Int)
 | 0, _, _, _, _, _, _ => none
 | k + 1, x0, x1, x8, x21, x22, x23 => if x23 < x22 then (if 0 ≤ x23 then (if x23 < (x21.length : Int) then (impl_servedBy.l1 k x0 x1 x8 (rd x21 x23) (([] : List Int)) (([] : List Int)) x21 x22 x23 x0 (x0.length : Int) 0) else (none)) else (none)) else (some (x8, x1))
def impl_servedBy.l1 : Nat → List (S85) → Int → List Int → Int → List Int → List Int → List Int → Int → Int → List (S85) → Int → Int → Option (List Int × Int)
 | 0, _, _, _, _, _, _, _, _, _, _, _, _ => none
 | k + 1, x0, x1, x8, x10, x11, x12, x21, x22, x23, x29, x30, x31 => if x31 < x30 then (if 0 ≤ x31 then (if x31 < (x29.length : Int) then (if ((rd_T85 x29 x31).f0) = x10 then (if x11.length < 17592186044416 then (if x12.length < 17592186044416 then (impl_servedBy.l1 k x0 x1 x8 x10 (x11 ++ [x31]) (x12 ++ [(rd_T85 x29 x31).f1]) x21 x22 x23 x29 x30 (wrap64 (x31 + 1))) else (none)) else (none)) else (impl_servedBy.l1 k x0 x1 x8 x10 x11 x12 x21 x22 x23 x29 x30 (wrap64 (x31 + 1)))) else (none)) else (none)) else (if (x11.length : Int) = 0 then (impl_servedBy.j2 k x0 x1 x8 x11 x12 x21 x22 x23 true) else (impl_servedBy.j2 k x0 x1 x8 x11 x12 x21 x22 x23 (x1 == 0)))
def impl_servedBy.j2 : Nat → List (S85) → Int → List Int → List Int → List Int → List Int → Int → Int → Bool → Option (List Int × Int)
 | 0, _, _, _, _, _, _, _, _, _ => none
 | k + 1, x0, x1, x8, x11, x12, x21, x22, x23, x56 => if x56 = true then (impl_servedBy.l0 k x0 x1 x8 x21 x22 (wrap64 (x23 + 1))) else ((impl_sumOf.f k x12).bind fun t264 => (if x1 < t264 then ((impl_divided.f k x1 x12).bind fun t265 => (impl_servedBy.j3 k x0 x1 x8 x11 t265 x21 x22 x23)) else (impl_servedBy.j3 k x0 x1 x8 x11 x12 x21 x22 x23)))
def impl_servedBy.j3 : Nat → List (S85) → Int → List Int → List Int → List Int → List Int → Int → Int → Option (List Int × Int)
 | 0, _, _, _, _, _, _, _, _ => none
 | k + 1, x0, x1, x8, x11, x15, x21, x22, x23 => impl_servedBy.l2 k x0 x1 x8 x15 x21 x22 x23 x11 (x11.length : Int) 0
def impl_servedBy.l2 : Nat → List (S85) → Int → List Int → List Int → List Int → Int → Int → List Int → Int → Int → Option (List Int × Int)
 | 0, _, _, _, _, _, _, _, _, _, _ => none
 | k + 1, x0, x1, x8, x15, x21, x22, x23, x65, x66, x67 => if x67 < x66 then (if 0 ≤ x67 then (if x67 < (x65.length : Int) then (if x67 < (x15.length : Int) then (if 0 ≤ (rd x65 x67) then (if (rd x65 x67) < (x8.length : Int) then (impl_servedBy.l2 k x0 x1 (x8.set ((rd x65 x67) : Int).toNat (rd x15 x67)) x15 x21 x22 x23 x65 x66 (wrap64 (x67 + 1))) else (none)) else (none)) else (none)) else (none)) else (none)) else ((impl_sumOf.f k x15).bind fun t271 => (impl_servedBy.l0 k x0 (wrap64 (x1 - t271)) x8 x21 x22 (wrap64 (x23 + 1))))
end
def impl_servedBy.f (k : Nat) (l0 : List (S85)) (a1 : Int) (l2 : List Int) : Option (List Int × Int) := if 0 ≤ (l0.length : Int) then (if ((l0.length : Int) : Int).toNat ≤ 35184372088832 then (impl_servedBy.l0 k l0 a1 (List.replicate ((l0.length : Int) : Int).toNat 0) l2 (l2.length : Int) 0) else (none)) else (none)
theorem impl_servedBy.mono_l : ∀ k, (∀ y0 y1 y2 y3 y4 y5, LeO (impl_servedBy.l0 k y0 y1 y2 y3 y4 y5) (impl_servedBy.l0 (k + 1) y0 y1 y2 y3 y4 y5)) ∧ (∀ y0 y1 y2 y3 y4 y5 y6 y7 y8 y9 y10 y11, LeO (impl_servedBy.l1 k y0 y1 y2 y3 y4 y5 y6 y7 y8 y9 y10 y11) (impl_servedBy.l1 (k + 1) y0 y1 y2 y3 y4 y5 y6 y7 y8 y9 y10 y11)) ∧ (∀ y0 y1 y2 y3 y4 y5 y6 y7 y8, LeO (impl_servedBy.j2 k y0 y1 y2 y3 y4 y5 y6 y7 y8) (impl_servedBy.j2 (k + 1) y0 y1 y2 y3 y4 y5 y6 y7 y8)) ∧ (∀ y0 y1 y2 y3 y4 y5 y6 y7, LeO (impl_servedBy.j3 k y0 y1 y2 y3 y4 y5 y6 y7) (impl_servedBy.j3 (k + 1) y0 y1 y2 y3 y4 y5 y6 y7)) ∧ (∀ y0 y1 y2 y3 y4 y5 y6 y7 y8 y9, LeO (impl_servedBy.l2 k y0 y1 y2 y3 y4 y5 y6 y7 y8 y9) (impl_servedBy.l2 (k + 1) y0 y1 y2 y3 y4 y5 y6 y7 y8 y9))
 | 0 => ⟨fun _ _ _ _ _ _ r h => by simp [impl_servedBy.l0] at h, fun _ _ _ _ _ _ _ _ _ _ _ _ r h => by simp [impl_servedBy.l1] at h, fun _ _ _ _ _ _ _ _ _ r h => by simp [impl_servedBy.j2] at h, fun _ _ _ _ _ _ _ _ r h => by simp [impl_servedBy.j3] at h, fun _ _ _ _ _ _ _ _ _ _ r h => by simp [impl_servedBy.l2] at h⟩
 | k + 1 => by
  obtain ⟨ih0, ih1, ih2, ih3, ih4⟩ := impl_servedBy.mono_l k
  refine ⟨?_, ?_, ?_, ?_, ?_⟩
  ·
   intro y0 y1 y2 y3 y4 y5
   unfold impl_servedBy.l0
   repeat' first
   | (with_reducible exact ih0 _ _ _ _ _ _)
   | (with_reducible exact ih1 _ _ _ _ _ _ _ _ _ _ _ _)
   | (with_reducible exact ih2 _ _ _ _ _ _ _ _ _)
   | (with_reducible exact ih3 _ _ _ _ _ _ _ _)
   | (with_reducible exact ih4 _ _ _ _ _ _ _ _ _ _)
   | (with_reducible exact impl_divided.mono _ _ _)
   | (with_reducible exact impl_sumOf.mono _ _)
   | (with_reducible exact LeO.refl _)
   | (with_reducible exact LeO.none _)
   | (with_reducible refine LeO.ite ?_ ?_)
   | (with_reducible refine LeO.bind ?_ (fun _ => ?_))
   | exact ih0 _ _ _ _ _ _
   | exact ih1 _ _ _ _ _ _ _ _ _ _ _ _
   | exact ih2 _ _ _ _ _ _ _ _ _
   | exact ih3 _ _ _ _ _ _ _ _
   | exact ih4 _ _ _ _ _ _ _ _ _ _
   | exact impl_divided.mono _ _ _
   | exact impl_sumOf.mono _ _
   | exact LeO.none _
   | refine LeO.ite ?_ ?_
   | refine LeO.bind ?_ (fun _ => ?_)
  ·
   intro y0 y1 y2 y3 y4 y5 y6 y7 y8 y9 y10 y11
   unfold impl_servedBy.l1
   repeat' first
   | (with_reducible exact ih0 _ _ _ _ _ _)
   | (with_reducible exact ih1 _ _ _ _ _ _ _ _ _ _ _ _)
   | (with_reducible exact ih2 _ _ _ _ _ _ _ _ _)
   | (with_reducible exact ih3 _ _ _ _ _ _ _ _)
   | (with_reducible exact ih4 _ _ _ _ _ _ _ _ _ _)
   | (with_reducible exact impl_divided.mono _ _ _)
   | (with_reducible exact impl_sumOf.mono _ _)
   | (with_reducible exact LeO.refl _)
   | (with_reducible exact LeO.none _)
   | (with_reducible refine LeO.ite ?_ ?_)
   | (with_reducible refine LeO.bind ?_ (fun _ => ?_))
   | exact ih0 _ _ _ _ _ _
   | exact ih1 _ _ _ _ _ _ _ _ _ _ _ _
   | exact ih2 _ _ _ _ _ _ _ _ _
   | exact ih3 _ _ _ _ _ _ _ _
   | exact ih4 _ _ _ _ _ _ _ _ _ _
   | exact impl_divided.mono _ _ _
   | exact impl_sumOf.mono _ _
   | exact LeO.none _
   | refine LeO.ite ?_ ?_
   | refine LeO.bind ?_ (fun _ => ?_)
  ·
   intro y0 y1 y2 y3 y4 y5 y6 y7 y8
   unfold impl_servedBy.j2
   repeat' first
   | (with_reducible exact ih0 _ _ _ _ _ _)
   | (with_reducible exact ih1 _ _ _ _ _ _ _ _ _ _ _ _)
   | (with_reducible exact ih2 _ _ _ _ _ _ _ _ _)
   | (with_reducible exact ih3 _ _ _ _ _ _ _ _)
   | (with_reducible exact ih4 _ _ _ _ _ _ _ _ _ _)
   | (with_reducible exact impl_divided.mono _ _ _)
   | (with_reducible exact impl_sumOf.mono _ _)
   | (with_reducible exact LeO.refl _)
   | (with_reducible exact LeO.none _)
   | (with_reducible refine LeO.ite ?_ ?_)
   | (with_reducible refine LeO.bind ?_ (fun _ => ?_))
   | exact ih0 _ _ _ _ _ _
   | exact ih1 _ _ _ _ _ _ _ _ _ _ _ _
   | exact ih2 _ _ _ _ _ _ _ _ _
   | exact ih3 _ _ _ _ _ _ _ _
   | exact ih4 _ _ _ _ _ _ _ _ _ _
   | exact impl_divided.mono _ _ _
   | exact impl_sumOf.mono _ _
   | exact LeO.none _
   | refine LeO.ite ?_ ?_
   | refine LeO.bind ?_ (fun _ => ?_)
  ·
   intro y0 y1 y2 y3 y4 y5 y6 y7
   unfold impl_servedBy.j3
   repeat' first
   | (with_reducible exact ih0 _ _ _ _ _ _)
   | (with_reducible exact ih1 _ _ _ _ _ _ _ _ _ _ _ _)
   | (with_reducible exact ih2 _ _ _ _ _ _ _ _ _)
   | (with_reducible exact ih3 _ _ _ _ _ _ _ _)
   | (with_reducible exact ih4 _ _ _ _ _ _ _ _ _ _)
   | (with_reducible exact impl_divided.mono _ _ _)
   | (with_reducible exact impl_sumOf.mono _ _)
   | (with_reducible exact LeO.refl _)
   | (with_reducible exact LeO.none _)
   | (with_reducible refine LeO.ite ?_ ?_)
   | (with_reducible refine LeO.bind ?_ (fun _ => ?_))
   | exact ih0 _ _ _ _ _ _
   | exact ih1 _ _ _ _ _ _ _ _ _ _ _ _
   | exact ih2 _ _ _ _ _ _ _ _ _
   | exact ih3 _ _ _ _ _ _ _ _
   | exact ih4 _ _ _ _ _ _ _ _ _ _
   | exact impl_divided.mono _ _ _
   | exact impl_sumOf.mono _ _
   | exact LeO.none _
   | refine LeO.ite ?_ ?_
   | refine LeO.bind ?_ (fun _ => ?_)
  ·
   intro y0 y1 y2 y3 y4 y5 y6 y7 y8 y9
   unfold impl_servedBy.l2
   repeat' first
   | (with_reducible exact ih0 _ _ _ _ _ _)
   | (with_reducible exact ih1 _ _ _ _ _ _ _ _ _ _ _ _)
   | (with_reducible exact ih2 _ _ _ _ _ _ _ _ _)
   | (with_reducible exact ih3 _ _ _ _ _ _ _ _)
   | (with_reducible exact ih4 _ _ _ _ _ _ _ _ _ _)
   | (with_reducible exact impl_divided.mono _ _ _)
   | (with_reducible exact impl_sumOf.mono _ _)
   | (with_reducible exact LeO.refl _)
   | (with_reducible exact LeO.none _)
   | (with_reducible refine LeO.ite ?_ ?_)
   | (with_reducible refine LeO.bind ?_ (fun _ => ?_))
   | exact ih0 _ _ _ _ _ _
   | exact ih1 _ _ _ _ _ _ _ _ _ _ _ _
   | exact ih2 _ _ _ _ _ _ _ _ _
   | exact ih3 _ _ _ _ _ _ _ _
   | exact ih4 _ _ _ _ _ _ _ _ _ _
   | exact impl_divided.mono _ _ _
   | exact impl_sumOf.mono _ _
   | exact LeO.none _
   | refine LeO.ite ?_ ?_
   | refine LeO.bind ?_ (fun _ => ?_)
theorem impl_servedBy.mono : ∀ a0 a1 a2 k, LeO (impl_servedBy.f k a0 a1 a2) (impl_servedBy.f (k + 1) a0 a1 a2) := by
 intro a0 a1 a2 k
 obtain ⟨ih0, ih1, ih2, ih3, ih4⟩ := impl_servedBy.mono_l k
 unfold impl_servedBy.f
 repeat' first
  | (with_reducible exact ih0 _ _ _ _ _ _)
  | (with_reducible exact ih1 _ _ _ _ _ _ _ _ _ _ _ _)
  | (with_reducible exact ih2 _ _ _ _ _ _ _ _ _)
  | (with_reducible exact ih3 _ _ _ _ _ _ _ _)
  | (with_reducible exact ih4 _ _ _ _ _ _ _ _ _ _)
  | (with_reducible exact impl_divided.mono _ _ _)
  | (with_reducible exact impl_sumOf.mono _ _)
  | (with_reducible exact LeO.refl _)
  | (with_reducible exact LeO.none _)
  | (with_reducible refine LeO.ite ?_ ?_)
  | (with_reducible refine LeO.bind ?_ (fun _ => ?_))
  | exact ih0 _ _ _ _ _ _
  | exact ih1 _ _ _ _ _ _ _ _ _ _ _ _
  | exact ih2 _ _ _ _ _ _ _ _ _
  | exact ih3 _ _ _ _ _ _ _ _
  | exact ih4 _ _ _ _ _ _ _ _ _ _
  | exact impl_divided.mono _ _ _
  | exact impl_sumOf.mono _ _
  | exact LeO.none _
  | refine LeO.ite ?_ ?_
  | refine LeO.bind ?_ (fun _ => ?_)
set_option maxHeartbeats 8000000 in
set_option maxRecDepth 100000 in
theorem impl_servedBy.calls (k : Nat) (A0 : Option Addr) (c0 : Nat) (l0 : List (S85)) (a1 : Int) (A2 : Option Addr) (c2 : Nat) (l2 : List Int) (r1 : List Int) (r2 : Int) (w : World) (hr0 : Kd.C k85 w A0 l0.length l0) (hc0 : l0.length ≤ c0) (hr2 : Kd.C (Kd.int .i64) w A2 l2.length l2) (hc2 : l2.length ≤ c2) (h : impl_servedBy.f k l0 a1 l2 = some (r1, r2)) :
 Calls Try.prog 95 #[.slice A0 l0.length c0, .int .i64 a1, .slice A2 l2.length c2] w fun e w' => ∃ v0_ : Value, e = .returned (.tuple #[v0_, .int .i64 r2]) ∧ Kd.R (Kd.int .i64) 3 w' w.heap.size (fun _ => True) v0_ r1 ∧ Below w.heap.size w w' := by
 have hu85 := Try.underlying85
 have HR0 := Aside0.mk hr0
 have HC0 := Aside0.mk hc0
 clear hr0 hc0
 have HR2 := Aside0.mk hr2
 have HC2 := Aside0.mk hc2
 clear hr2 hc2
 have HB := Aside0.mk (Below.refl w.heap.size w)
 have H : (if 0 ≤ (l0.length : Int) then (if ((l0.length : Int) : Int).toNat ≤ 35184372088832 then (impl_servedBy.l0 k l0 a1 (List.replicate ((l0.length : Int) : Int).toNat 0) l2 (l2.length : Int) 0) else (none)) else (none)) = some (r1, r2) := h
 clear h
 by_cases c4 : 0 ≤ (l0.length : Int)
 ·
  rw [if_pos c4] at H
  have c4b0 := eq_true c4
  have c4b1 : decide (0 ≤ (l0.length : Int)) = true := decide_eq_true c4
  clear c4
  by_cases c5 : ((l0.length : Int) : Int).toNat ≤ 35184372088832
  ·
   rw [if_pos c5] at H
   have c5b0 := eq_true c5
   have c5b1 : decide (((l0.length : Int) : Int).toNat ≤ 35184372088832) = true := decide_eq_true c5
   clear c5
   obtain ⟨y246, hy246⟩ : ∃ y_ : List Int, y_ = (List.replicate ((l0.length : Int) : Int).toNat 0) := ⟨_, rfl⟩
   replace H : (impl_servedBy.l0 k l0 a1 y246 l2 (l2.length : Int) 0) = some (r1, r2) := by first | (rw [hy246]; with_reducible exact H) | (have H2_ := (Option.bind_some _ _).symm.trans H; rw [hy246]; with_reducible exact H2_) | (have H2_ := (Option.bind_some _ _).symm.trans H; with_reducible exact H2_) | with_reducible exact H | (rw [hy246]; exact H) | exact H
   have Ny246 := Aside0.mk hy246
   clear hy246
   have H' := Aside0.mk H
   clear H
   go_enter Try.func95, Try.ntmps95
   go_wp2_with (first | ((with_reducible refine gate_dst (N := 20) rfl ?_); refine Kd.R_make (Kd.int .i64) _ 3 rfl (N := 20) rfl 40 _ _ rfl (l0.length : Int) rfl rfl Try.underlying40 (.int .i64 0) 8 info3 rfl (by decide) (by omega) 0 (ok := fun _ => True) (okp := fun _ => True) rfl (fun _ hk => hk) trivial (of_decide_eq_true (by first | (with_reducible assumption) | assumption)) (Nat.le_trans (Nat.mul_le_mul_right _ (of_decide_eq_true (by first | (with_reducible assumption) | assumption) : (l0.length : Int).toNat ≤ 35184372088832)) (by omega)) (Below.refl _ _) (Nat.le_refl _) ?_; intro v247 w6 ho7 hb hg_ hnew_; clear hg_ hnew_; (first | rw [← Ny246.out] at ho7 | (simp only [Int.reduceToNat] at ho7; rw [← Ny246.out] at ho7)); have n0_ := Aside0.mk (Kd.R_lower ho7 (below_size (bB_ HB.out))); have n1_ := Aside0.mk (below_step (bB_ HB.out) hb); clear HB; have HO248 := n0_; have HB := n1_; clear n0_ n1_; clear hb ho7))
   go_loopg [1, 23] k (fun kq v1 v23 w' => ∃ (x1_1 : Int) (x8_1 : List Int) (x23_1 : Int), v1 = .int .i64 x1_1 ∧ v23 = .int .i64 x23_1 ∧ Aside0 (impl_servedBy.l0 kq l0 x1_1 x8_1 l2 (l2.length : Int) x23_1 = some (r1, r2)) ∧ Aside0 (kq ≤ k) ∧ Aside0 (Kd.R (Kd.int .i64) 3 w' w.heap.size (fun _ => True) v247 x8_1) ∧ Aside0 (Below w.heap.size w w'))
   case atStart => exact ⟨(a1), (y246), (0), (by first | rfl | (simp; done) | (simp [*]; done)), (by first | rfl | (simp; done) | (simp [*]; done)), H', ⟨Nat.le_refl _⟩, ⟨bR_ HO248.out⟩, ⟨bB_ HB.out⟩⟩
   case round =>
    clear H'
    try clear c2
    try clear p2
    try clear c4
    try clear c4b0
    try clear c4b1
    try clear c5
    try clear c5b0
    try clear c5b1
    obtain ⟨x1_1, x8_1, x23_1, rfl, rfl, HA, HK1, HO_8, HB⟩ := hrel
    cases gk with
    | zero => exact absurd HA.out (by simp [impl_servedBy.l0])
    | succ k1 =>
     have H := HA.out
     clear HA
     simp only [impl_servedBy.l0] at H
     by_cases c8 : x23_1 < (l2.length : Int)
     ·
      rw [if_pos c8] at H
      have c8b0 : decide (x23_1 < (l2.length : Int)) = true := decide_eq_true c8
      clear c8
      by_cases c9 : 0 ≤ x23_1
      ·
       rw [if_pos c9] at H
       have c9b0 : decide (0 ≤ x23_1) = true := decide_eq_true c9
       clear c9
       by_cases c10 : x23_1 < (l2.length : Int)
       ·
        rw [if_pos c10] at H
        have c10b0 : decide (x23_1 < (l2.length : Int)) = true := decide_eq_true c10
        clear c10
        obtain ⟨y250, hy250⟩ : ∃ y_ : List Int, y_ = (([] : List Int)) := ⟨_, rfl⟩
        replace H : (impl_servedBy.l1 k1 l0 x1_1 x8_1 (rd l2 x23_1) y250 (([] : List Int)) l2 (l2.length : Int) x23_1 l0 (l0.length : Int) 0) = some (r1, r2) := by first | (rw [hy250]; with_reducible exact H) | (have H2_ := (Option.bind_some _ _).symm.trans H; rw [hy250]; with_reducible exact H2_) | (have H2_ := (Option.bind_some _ _).symm.trans H; with_reducible exact H2_) | with_reducible exact H | (rw [hy250]; exact H) | exact H
        have Ny250 := Aside0.mk hy250
        clear hy250
        obtain ⟨y253, hy253⟩ : ∃ y_ : List Int, y_ = (([] : List Int)) := ⟨_, rfl⟩
        replace H : (impl_servedBy.l1 k1 l0 x1_1 x8_1 (rd l2 x23_1) y250 y253 l2 (l2.length : Int) x23_1 l0 (l0.length : Int) 0) = some (r1, r2) := by first | (rw [hy253]; with_reducible exact H) | (have H2_ := (Option.bind_some _ _).symm.trans H; rw [hy253]; with_reducible exact H2_) | (have H2_ := (Option.bind_some _ _).symm.trans H; with_reducible exact H2_) | with_reducible exact H | (rw [hy253]; exact H) | exact H
        have Ny253 := Aside0.mk hy253
        clear hy253
        have H' := Aside0.mk H
        clear H
        have p249 : 0 ≤ (x23_1 : Int) := of_decide_eq_true (by first | (with_reducible assumption) | assumption)
        have q249 : x23_1 < (l2.length : Int) := of_decide_eq_true (by first | (with_reducible assumption) | assumption)
        obtain ⟨ad249, e249, hx249_0⟩ := Kd.at_int HR2.out x23_1 p249 q249
        cases e249
        replace hx249_0 := (HB.out.cell (World.block_lt_of_cell? w _ hx249_0)).trans hx249_0
        replace p249 := eq_true p249
        replace q249 := eq_true q249
        go_wp2_with (first | ((with_reducible refine gate_dst (N := 27) rfl ?_); refine Kd.R_lit (Kd.int .i64) _ 3 ?hg (N := 27) ?hd (xs := ([] : List Int)) (inner := []) (ok := fun _ => True) (okp := fun _ => True) ?hr ?hp (fun _ hk => hk) trivial (Below.refl _ _) (Nat.le_refl _) (by simp) ?_; (case hd => rfl); (case hg => rfl); (case hr => first | (go_simp; done) | (go_simp; rfl)); (case hp => exact (Reps.none _ _)); intro v251 w11 ho12 hb hg_ hnew_; clear hg_ hnew_; (first | rw [← Ny250.out] at ho12 | (simp only [Int.reduceToNat] at ho12; rw [← Ny250.out] at ho12)); have n0_ := Aside0.mk (Kd.R_elder' (bR_ HO_8.out) (Kd.R_base ho12) hb); have n1_ := Aside0.mk (Kd.R_lower (Kd.R_new' ho12 (Kd.R_lt (bR_ HO_8.out))) (below_size (bB_ HB.out))); have n2_ := Aside0.mk (below_step (bB_ HB.out) hb); clear HO_8; clear HB; have HO_8 := n0_; have HO252 := n1_; have HB := n2_; clear n0_ n1_ n2_; clear hb ho12) | ((with_reducible refine gate_dst (N := 28) rfl ?_); refine Kd.R_lit (Kd.int .i64) _ 3 ?hg (N := 28) ?hd (xs := ([] : List Int)) (inner := []) (ok := fun _ => True) (okp := fun _ => True) ?hr ?hp (fun _ hk => hk) trivial (Below.refl _ _) (Nat.le_refl _) (by simp) ?_; (case hd => rfl); (case hg => rfl); (case hr => first | (go_simp; done) | (go_simp; rfl)); (case hp => exact (Reps.none _ _)); intro v254 w13 ho14 hb hg_ hnew_; clear hg_ hnew_; (first | rw [← Ny253.out] at ho14 | (simp only [Int.reduceToNat] at ho14; rw [← Ny253.out] at ho14)); have n0_ := Aside0.mk (Kd.R_elder' (bR_ HO_8.out) (Kd.R_base ho14) hb); have n1_ := Aside0.mk (Kd.R_elder' (bR_ HO252.out) (Kd.R_base ho14) hb); have n2_ := Aside0.mk (Kd.R_lower (Kd.R_new' (Kd.R_new' ho14 (Kd.R_lt (bR_ HO_8.out))) (Kd.R_lt (bR_ HO252.out))) (below_size (bB_ HB.out))); have n3_ := Aside0.mk (below_step (bB_ HB.out) hb); clear HO_8; clear HO252; clear HB; have HO_8 := n0_; have HO252 := n1_; have HO255 := n2_; have HB := n3_; clear n0_ n1_ n2_ n3_; clear hb ho14))
        go_loopg [11, 12, 31] k1 (fun kq v11 v12 v31 w' => ∃ (x11_2 : List Int) (x12_2 : List Int) (x31_2 : Int), v31 = .int .i64 x31_2 ∧ Aside0 (impl_servedBy.l1 kq l0 x1_1 x8_1 (rd l2 x23_1) x11_2 x12_2 l2 (l2.length : Int) x23_1 l0 (l0.length : Int) x31_2 = some (r1, r2)) ∧ Aside0 (kq ≤ k1) ∧ Aside0 (Kd.R (Kd.int .i64) 3 w' w.heap.size (fun k_ => some k_ ≠ (v11 : Value).ownBlock ∧ some k_ ≠ (v12 : Value).ownBlock) v247 x8_1) ∧ Aside0 (Kd.R (Kd.int .i64) 3 w' w.heap.size (fun k_ => some k_ ≠ (v247 : Value).ownBlock ∧ some k_ ≠ (v12 : Value).ownBlock) v11 x11_2) ∧ Aside0 (Kd.R (Kd.int .i64) 3 w' w.heap.size (fun k_ => some k_ ≠ (v247 : Value).ownBlock ∧ some k_ ≠ (v11 : Value).ownBlock) v12 x12_2) ∧ Aside0 (Below w.heap.size w w'))
        case atStart => exact ⟨(y250), (y253), (0), (by first | rfl | (simp; done) | (simp [*]; done)), H', ⟨Nat.le_refl _⟩, ⟨by (with_reducible repeat (first | apply Kd.R_alloc | apply Kd.R_drewN | apply Kd.R_drew)); exact Kd.R_mono HO_8.out (fun _ hk => ⟨hk.1.2, hk.2⟩)⟩, ⟨by (with_reducible repeat (first | apply Kd.R_alloc | apply Kd.R_drewN | apply Kd.R_drew)); exact Kd.R_mono HO252.out (fun _ hk => ⟨hk.1.2, hk.2⟩)⟩, ⟨by (with_reducible repeat (first | apply Kd.R_alloc | apply Kd.R_drewN | apply Kd.R_drew)); exact Kd.R_mono HO255.out (fun _ hk => ⟨hk.1.2, hk.2⟩)⟩, ⟨bB_ HB.out⟩⟩
        case round =>
         clear H'
         try clear c1
         try clear c2
         try clear p2
         try clear q2
         try clear hx2
         try clear c4
         try clear c4b0
         try clear c4b1
         try clear c5
         try clear c5b0
         try clear c5b1
         try clear c8
         try clear c8b0
         try clear c9
         try clear c9b0
         try clear c10
         try clear c10b0
         try clear hx249_0
         try clear p2
         try clear p249
         try clear q249
         obtain ⟨x11_2, x12_2, x31_2, rfl, HA, HK2, HO_8, HO_11, HO_12, HB⟩ := hrel
         cases gk with
         | zero => exact absurd HA.out (by simp [impl_servedBy.l1])
         | succ k2 =>
          have H := HA.out
          clear HA
          simp only [impl_servedBy.l1] at H
          by_cases c15 : x31_2 < (l0.length : Int)
          ·
           rw [if_pos c15] at H
           have c15b0 : decide (x31_2 < (l0.length : Int)) = true := decide_eq_true c15
           clear c15
           by_cases c16 : 0 ≤ x31_2
           ·
            rw [if_pos c16] at H
            have c16b0 : decide (0 ≤ x31_2) = true := decide_eq_true c16
            clear c16
            by_cases c17 : x31_2 < (l0.length : Int)
            ·
             rw [if_pos c17] at H
             have c17b0 : decide (x31_2 < (l0.length : Int)) = true := decide_eq_true c17
             clear c17
             by_cases c18 : ((rd_T85 l0 x31_2).f0) = (rd l2 x23_1)
             ·
              rw [if_pos c18] at H
              have c18b0 : (((rd_T85 l0 x31_2).f0) == (rd l2 x23_1)) = true := beq_iff_eq.mpr c18
              have c18b1 : (((rd_T85 l0 x31_2).f0) != (rd l2 x23_1)) = false := bne_eq_false_iff_eq.mpr c18
              clear c18
              by_cases c19 : x11_2.length < 17592186044416
              ·
               rw [if_pos c19] at H
               have LMc19 := Aside0.mk c19
               clear c19
               obtain ⟨y258, hy258⟩ : ∃ y_ : List Int, y_ = (x11_2 ++ [x31_2]) := ⟨_, rfl⟩
               replace H : (if x12_2.length < 17592186044416 then (impl_servedBy.l1 k2 l0 x1_1 x8_1 (rd l2 x23_1) y258 (x12_2 ++ [(rd_T85 l0 x31_2).f1]) l2 (l2.length : Int) x23_1 l0 (l0.length : Int) (wrap64 (x31_2 + 1))) else (none)) = some (r1, r2) := by first | (rw [hy258]; with_reducible exact H) | (have H2_ := (Option.bind_some _ _).symm.trans H; rw [hy258]; with_reducible exact H2_) | (have H2_ := (Option.bind_some _ _).symm.trans H; with_reducible exact H2_) | with_reducible exact H | (rw [hy258]; exact H) | exact H
               have Ny258 := Aside0.mk hy258
               clear hy258
               by_cases c20 : x12_2.length < 17592186044416
               ·
                rw [if_pos c20] at H
                have LMc20 := Aside0.mk c20
                clear c20
                obtain ⟨y261, hy261⟩ : ∃ y_ : List Int, y_ = (x12_2 ++ [(rd_T85 l0 x31_2).f1]) := ⟨_, rfl⟩
                replace H : (impl_servedBy.l1 k2 l0 x1_1 x8_1 (rd l2 x23_1) y258 y261 l2 (l2.length : Int) x23_1 l0 (l0.length : Int) (wrap64 (x31_2 + 1))) = some (r1, r2) := by first | (rw [hy261]; with_reducible exact H) | (have H2_ := (Option.bind_some _ _).symm.trans H; rw [hy261]; with_reducible exact H2_) | (have H2_ := (Option.bind_some _ _).symm.trans H; with_reducible exact H2_) | with_reducible exact H | (rw [hy261]; exact H) | exact H
                have Ny261 := Aside0.mk hy261
                clear hy261
                have H' := Aside0.mk H
                clear H
                have p256 : 0 ≤ (x31_2 : Int) := of_decide_eq_true (by first | (with_reducible assumption) | assumption)
                have q256 : x31_2 < (l0.length : Int) := of_decide_eq_true (by first | (with_reducible assumption) | assumption)
                obtain ⟨ad256, e256, hx256_0, hx256_1⟩ := at_T85 HR0.out x31_2 p256 q256
                cases e256
                replace hx256_0 := (HB.out.cell (World.block_lt_of_cell? w _ hx256_0)).trans hx256_0
                replace hx256_1 := (HB.out.cell (World.block_lt_of_cell? w _ hx256_1)).trans hx256_1
                replace p256 := eq_true p256
                replace q256 := eq_true q256
                go_wp2_with (first | ((with_reducible refine gate_dst (N := 14) rfl ?_); refine box_event ?hg (N := 14) ?hd (cs := #[.int .i64 0, .int .i64 0]) (t := 85) ?hr ?_; (case hd => rfl); (case hg => rfl); (case hr => first | (go_simp; done) | (go_simp; rfl)); intro gb257 hg w21 hbox hb; have n0_ := Aside0.mk (Kd.R_below (bR_ HO_8.out) hb); have n1_ := Aside0.mk (Kd.R_below (bR_ HO_11.out) hb); have n2_ := Aside0.mk (Kd.R_below (bR_ HO_12.out) hb); have n3_ := Aside0.mk (below_step (bB_ HB.out) hb); have n4_ := Aside0.mk (hbox); have n5_ := Aside0.mk ((by rw [hg]; exact (below_size (bB_ HB.out)) : w.heap.size ≤ gb257)); have n6_ := Aside0.mk ((by rw [hg]; exact (below_size (bB_ HB.out)) : w.heap.size ≤ gb257)); clear HO_8; clear HO_11; clear HO_12; clear HB; have HO_8 := n0_; have HO_11 := n1_; have HO_12 := n2_; have HB := n3_; have BK257 := n4_; have GW257 := n5_; have GE257 := n6_; clear n0_ n1_ n2_ n3_ n4_ n5_ n6_; clear hb hbox hg; have hcz22_0 : w21.cell? ⟨gb257, 0, none⟩ = some (.int .i64 0) := (blk_cell BK257.out 0).trans rfl; have hcz22_1 : w21.cell? ⟨gb257, 1, none⟩ = some (.int .i64 0) := (blk_cell BK257.out 1).trans rfl; have hfz22_0 := blk_frozen BK257.out 0; have hfz22_1 := blk_frozen BK257.out 1) | ((with_reducible refine gate_builtin (b := .append) (xs := #[.tmp 40, .tmp 42]) rfl ?_); at_builtin; refine Kd.R_append (Kd.int .i64) (w0 := w) w.heap.size rfl (.tmp 40) (.tmp 42) 40 3 (.int .i64 0) 8 rfl Try.underlying40 info3 rfl (by decide) (by omega) u11 x11_2 x31_2 [.int .i64 x31_2] (fun k_ => some k_ ≠ (v247 : Value).ownBlock ∧ some k_ ≠ (u12 : Value).ownBlock) (fun _ => False) rfl (by first | (go_simp; done) | (go_simp; rfl)) ?aP (fun _ hk => hk.elim) ?aF ?aO ?aB ?aS ?aL ?_; (case aP => exact rfl); (case aB => exact (by repeat (first | (with_reducible first | exact HB.out | apply below_alloc | apply pw_below_drewN | apply below_drew1 | refine below_set ?_ GE257.out) | exact HB.out))); (case aF => exact (fun k_ hk => ⟨Kd.fresh' (Kd.R_lt (by (with_reducible repeat (first | apply Kd.R_alloc | apply Kd.R_drewN | apply Kd.R_drew)); exact (Kd.R_mono (Kd.R_far (p := ⟨gb257, 1, none⟩) (Kd.R_far (p := ⟨gb257, 0, none⟩) (Kd.R_types HO_8.out BK257.out (by decide)) (fun _ hk => hk.2) (.int .i64 ((rd_T85 l0 x31_2).f0))) (fun _ hk => hk.2) (.int .i64 ((rd_T85 l0 x31_2).f1))) (fun _ h_ => h_.1)))) k_ hk, Kd.fresh' (Kd.R_lt (by (with_reducible repeat (first | apply Kd.R_alloc | apply Kd.R_drewN | apply Kd.R_drew)); exact (Kd.R_mono (Kd.R_far (p := ⟨gb257, 1, none⟩) (Kd.R_far (p := ⟨gb257, 0, none⟩) (Kd.R_types HO_12.out BK257.out (by decide)) (fun _ hk => hk.2) (.int .i64 ((rd_T85 l0 x31_2).f0))) (fun _ hk => hk.2) (.int .i64 ((rd_T85 l0 x31_2).f1))) (fun _ h_ => h_.1)))) k_ hk⟩)); (case aO => exact (by (with_reducible repeat (first | apply Kd.R_alloc | apply Kd.R_drewN | apply Kd.R_drew)); exact Kd.R_mono (Kd.R_far (p := ⟨gb257, 1, none⟩) (Kd.R_far (p := ⟨gb257, 0, none⟩) (Kd.R_types HO_11.out BK257.out (by decide)) (fun _ hk => hk.2) (.int .i64 ((rd_T85 l0 x31_2).f0))) (fun _ hk => hk.2) (.int .i64 ((rd_T85 l0 x31_2).f1))) (fun _ hk => ⟨hk.1.1, hk.1.2⟩))); (case aS => exact (below_size (by repeat (first | (with_reducible first | exact HB.out | apply below_alloc | apply pw_below_drewN | apply below_drew1 | refine below_set ?_ GE257.out) | exact HB.out)))); (case aL => have := LMc19.out; omega); intro v259 w23 ho hb hg hat; rw [← Ny258.out] at ho; have n0_ := Aside0.mk (Kd.R_after (ok := (fun k_ => some k_ ≠ (u12 : Value).ownBlock)) (by (with_reducible repeat (first | apply Kd.R_alloc | apply Kd.R_drewN | apply Kd.R_drew)); exact Kd.R_mono (Kd.R_far (p := ⟨gb257, 1, none⟩) (Kd.R_far (p := ⟨gb257, 0, none⟩) (Kd.R_types HO_8.out BK257.out (by decide)) (fun _ hk => hk.2) (.int .i64 ((rd_T85 l0 x31_2).f0))) (fun _ hk => hk.2) (.int .i64 ((rd_T85 l0 x31_2).f1))) (fun _ hk => ⟨hk.1.2, hk.1.1⟩)) hg hat); have n1_ := Aside0.mk (Kd.R_after (ok := (fun k_ => some k_ ≠ (v247 : Value).ownBlock)) (by (with_reducible repeat (first | apply Kd.R_alloc | apply Kd.R_drewN | apply Kd.R_drew)); exact Kd.R_mono (Kd.R_far (p := ⟨gb257, 1, none⟩) (Kd.R_far (p := ⟨gb257, 0, none⟩) (Kd.R_types HO_12.out BK257.out (by decide)) (fun _ hk => hk.2) (.int .i64 ((rd_T85 l0 x31_2).f0))) (fun _ hk => hk.2) (.int .i64 ((rd_T85 l0 x31_2).f1))) (fun _ hk => ⟨hk.1.1, hk.1.2⟩)) hg hat); have n2_ := Aside0.mk (blk_grown (g := gb257) (o := .cells #[.int .i64 ((rd_T85 l0 x31_2).f0), .int .i64 ((rd_T85 l0 x31_2).f1)] 85 (0, 0)) (by (with_reducible repeat (first | refine blk_drewN ?_ _ | refine blk_drew ?_ | refine blk_alloc ?_ _)); refine blk_put (cs := #[.int .i64 ((rd_T85 l0 x31_2).f0), .int .i64 0]) ?_ 1 _ rfl; (with_reducible repeat (first | refine blk_drewN ?_ _ | refine blk_drew ?_ | refine blk_alloc ?_ _)); refine blk_put (cs := #[.int .i64 0, .int .i64 0]) ?_ 0 _ rfl; (with_reducible repeat (first | refine blk_drewN ?_ _ | refine blk_drew ?_ | refine blk_alloc ?_ _)); exact BK257.out) hg (Kd.R_ne HO_11.out BK257.out (by decide))); have n3_ := Aside0.mk (hb); have n4_ := Aside0.mk (ho); clear HO_8; clear HO_12; clear BK257; clear HB; clear HO_11; have HO_8 := n0_; have HO_12 := n1_; have BK257 := n2_; have HB := n3_; have HO260 := n4_; clear n0_ n1_ n2_ n3_ n4_; clear ho hb hg hat; have hcz24_0 : w23.cell? ⟨gb257, 0, none⟩ = some (.int .i64 ((rd_T85 l0 x31_2).f0)) := (blk_cell BK257.out 0).trans rfl; have hcz24_1 : w23.cell? ⟨gb257, 1, none⟩ = some (.int .i64 ((rd_T85 l0 x31_2).f1)) := (blk_cell BK257.out 1).trans rfl; have hfz24_0 := blk_frozen BK257.out 0; have hfz24_1 := blk_frozen BK257.out 1) | ((with_reducible refine gate_builtin (b := .append) (xs := #[.tmp 44, .tmp 47]) rfl ?_); at_builtin; refine Kd.R_append (Kd.int .i64) (w0 := w) w.heap.size rfl (.tmp 44) (.tmp 47) 40 3 (.int .i64 0) 8 rfl Try.underlying40 info3 rfl (by decide) (by omega) u12 x12_2 ((rd_T85 l0 x31_2).f1) [.int .i64 ((rd_T85 l0 x31_2).f1)] (fun k_ => some k_ ≠ (v247 : Value).ownBlock ∧ some k_ ≠ (v259 : Value).ownBlock) (fun _ => False) rfl rfl ?aP (fun _ hk => hk.elim) ?aF ?aO ?aB ?aS ?aL ?_; (case aP => exact rfl); (case aB => exact (by repeat (first | (with_reducible first | exact HB.out | apply below_alloc | apply pw_below_drewN | apply below_drew1 | refine below_set ?_ GE257.out) | exact HB.out))); (case aF => exact (fun k_ hk => ⟨Kd.fresh' (Kd.R_lt (bR_ HO_8.out)) k_ hk, Kd.fresh' (Kd.R_lt (bR_ HO260.out)) k_ hk⟩)); (case aO => exact (bR_ HO_12.out)); (case aS => exact (below_size (by repeat (first | (with_reducible first | exact HB.out | apply below_alloc | apply pw_below_drewN | apply below_drew1 | refine below_set ?_ GE257.out) | exact HB.out)))); (case aL => have := LMc20.out; omega); intro v262 w25 ho hb hg hat; rw [← Ny261.out] at ho; have n0_ := Aside0.mk (Kd.R_after (ok := (fun k_ => some k_ ≠ (v259 : Value).ownBlock)) (by (with_reducible repeat (first | apply Kd.R_alloc | apply Kd.R_drewN | apply Kd.R_drew)); exact Kd.R_mono HO_8.out (fun _ hk => ⟨hk.2, hk.1⟩)) hg hat); have n1_ := Aside0.mk (blk_grown (g := gb257) (o := .cells #[.int .i64 ((rd_T85 l0 x31_2).f0), .int .i64 ((rd_T85 l0 x31_2).f1)] 85 (0, 0)) (bK_ BK257.out) hg (Kd.R_ne HO_12.out BK257.out (by decide))); have n2_ := Aside0.mk (Kd.R_after (ok := (fun k_ => some k_ ≠ (v247 : Value).ownBlock)) (bR_ HO260.out) hg hat); have n3_ := Aside0.mk (hb); have n4_ := Aside0.mk (ho); clear HO_8; clear BK257; clear HO260; clear HB; clear HO_12; have HO_8 := n0_; have BK257 := n1_; have HO260 := n2_; have HB := n3_; have HO263 := n4_; clear n0_ n1_ n2_ n3_ n4_; clear ho hb hg hat))
                go_roundg k2
                case measure => have := HK1.out; have := HK2.out; omega
                case rel => exact ⟨(y258), (y261), (wrap64 (x31_2 + 1)), (by first | rfl | (simp; done) | (simp [*]; done)), H', ⟨by have := HK1.out; have := HK2.out; omega⟩, ⟨bR_ HO_8.out⟩, ⟨bR_ HO260.out⟩, ⟨bR_ HO263.out⟩, ⟨by repeat (first | (with_reducible first | exact HB.out | apply below_alloc | apply pw_below_drewN | apply below_drew1 | refine below_set ?_ GE257.out) | exact HB.out)⟩⟩
               ·
                rw [if_neg c20] at H
                exact absurd H (by simp)
              ·
               rw [if_neg c19] at H
               exact absurd H (by simp)
             ·
              rw [if_neg c18] at H
              have c18b0 : (((rd_T85 l0 x31_2).f0) == (rd l2 x23_1)) = false := beq_eq_false_iff_ne.mpr c18
              have c18b1 : (((rd_T85 l0 x31_2).f0) != (rd l2 x23_1)) = true := bne_iff_ne.mpr c18
              have H' := Aside0.mk H
              clear H
              have p256 : 0 ≤ (x31_2 : Int) := of_decide_eq_true (by first | (with_reducible assumption) | assumption)
              have q256 : x31_2 < (l0.length : Int) := of_decide_eq_true (by first | (with_reducible assumption) | assumption)
              obtain ⟨ad256, e256, hx256_0, hx256_1⟩ := at_T85 HR0.out x31_2 p256 q256
              cases e256
              replace hx256_0 := (HB.out.cell (World.block_lt_of_cell? w _ hx256_0)).trans hx256_0
              replace hx256_1 := (HB.out.cell (World.block_lt_of_cell? w _ hx256_1)).trans hx256_1
              replace p256 := eq_true p256
              replace q256 := eq_true q256
              go_wp2_with (first | ((with_reducible refine gate_dst (N := 14) rfl ?_); refine box_event ?hg (N := 14) ?hd (cs := #[.int .i64 0, .int .i64 0]) (t := 85) ?hr ?_; (case hd => rfl); (case hg => rfl); (case hr => first | (go_simp; done) | (go_simp; rfl)); intro gb257 hg w26 hbox hb; have n0_ := Aside0.mk (Kd.R_below (bR_ HO_8.out) hb); have n1_ := Aside0.mk (Kd.R_below (bR_ HO_11.out) hb); have n2_ := Aside0.mk (Kd.R_below (bR_ HO_12.out) hb); have n3_ := Aside0.mk (below_step (bB_ HB.out) hb); have n4_ := Aside0.mk (hbox); have n5_ := Aside0.mk ((by rw [hg]; exact (below_size (bB_ HB.out)) : w.heap.size ≤ gb257)); have n6_ := Aside0.mk ((by rw [hg]; exact (below_size (bB_ HB.out)) : w.heap.size ≤ gb257)); clear HO_8; clear HO_11; clear HO_12; clear HB; have HO_8 := n0_; have HO_11 := n1_; have HO_12 := n2_; have HB := n3_; have BK257 := n4_; have GW257 := n5_; have GE257 := n6_; clear n0_ n1_ n2_ n3_ n4_ n5_ n6_; clear hb hbox hg; have hcz27_0 : w26.cell? ⟨gb257, 0, none⟩ = some (.int .i64 0) := (blk_cell BK257.out 0).trans rfl; have hcz27_1 : w26.cell? ⟨gb257, 1, none⟩ = some (.int .i64 0) := (blk_cell BK257.out 1).trans rfl; have hfz27_0 := blk_frozen BK257.out 0; have hfz27_1 := blk_frozen BK257.out 1))
              go_roundg k2
              case measure => have := HK1.out; have := HK2.out; omega
              case rel => exact ⟨(x11_2), (x12_2), (wrap64 (x31_2 + 1)), (by first | rfl | (simp; done) | (simp [*]; done)), H', ⟨by have := HK1.out; have := HK2.out; omega⟩, ⟨by (with_reducible repeat (first | apply Kd.R_alloc | apply Kd.R_drewN | apply Kd.R_drew)); exact Kd.R_mono (Kd.R_far (p := ⟨gb257, 1, none⟩) (Kd.R_far (p := ⟨gb257, 0, none⟩) (Kd.R_types HO_8.out BK257.out (by decide)) (fun _ hk => hk.2) (.int .i64 ((rd_T85 l0 x31_2).f0))) (fun _ hk => hk.2) (.int .i64 ((rd_T85 l0 x31_2).f1))) (fun _ hk => ⟨hk.1.1, hk.1.2⟩)⟩, ⟨by (with_reducible repeat (first | apply Kd.R_alloc | apply Kd.R_drewN | apply Kd.R_drew)); exact Kd.R_mono (Kd.R_far (p := ⟨gb257, 1, none⟩) (Kd.R_far (p := ⟨gb257, 0, none⟩) (Kd.R_types HO_11.out BK257.out (by decide)) (fun _ hk => hk.2) (.int .i64 ((rd_T85 l0 x31_2).f0))) (fun _ hk => hk.2) (.int .i64 ((rd_T85 l0 x31_2).f1))) (fun _ hk => ⟨hk.1.1, hk.1.2⟩)⟩, ⟨by (with_reducible repeat (first | apply Kd.R_alloc | apply Kd.R_drewN | apply Kd.R_drew)); exact Kd.R_mono (Kd.R_far (p := ⟨gb257, 1, none⟩) (Kd.R_far (p := ⟨gb257, 0, none⟩) (Kd.R_types HO_12.out BK257.out (by decide)) (fun _ hk => hk.2) (.int .i64 ((rd_T85 l0 x31_2).f0))) (fun _ hk => hk.2) (.int .i64 ((rd_T85 l0 x31_2).f1))) (fun _ hk => ⟨hk.1.1, hk.1.2⟩)⟩, ⟨by repeat (first | (with_reducible first | exact HB.out | apply below_alloc | apply pw_below_drewN | apply below_drew1 | refine below_set ?_ GE257.out) | exact HB.out)⟩⟩
            ·
             rw [if_neg c17] at H
             exact absurd H (by simp)
           ·
            rw [if_neg c16] at H
            exact absurd H (by simp)
          ·
           rw [if_neg c15] at H
           have c15b0 : decide (x31_2 < (l0.length : Int)) = false := decide_eq_false c15
           clear c15
           have HC28 := Aside0.mk H
           clear H
           go_upto_region 13 with (fail)
           go_cut [56] (fun v56 wc => ∃ (kq : Nat) (x56_27 : Bool), v56 = .bool x56_27 ∧ Aside0 (impl_servedBy.j2 kq l0 x1_1 x8_1 x11_2 x12_2 l2 (l2.length : Int) x23_1 x56_27 = some (r1, r2)) ∧ Aside0 (kq ≤ k2) ∧ Aside0 (Kd.R (Kd.int .i64) 3 wc w.heap.size (fun k_ => some k_ ≠ (u11 : Value).ownBlock ∧ some k_ ≠ (u12 : Value).ownBlock) v247 x8_1) ∧ Aside0 (Kd.R (Kd.int .i64) 3 wc w.heap.size (fun k_ => some k_ ≠ (v247 : Value).ownBlock ∧ some k_ ≠ (u12 : Value).ownBlock) u11 x11_2) ∧ Aside0 (Kd.R (Kd.int .i64) 3 wc w.heap.size (fun k_ => some k_ ≠ (v247 : Value).ownBlock ∧ some k_ ≠ (u11 : Value).ownBlock) u12 x12_2) ∧ Aside0 (Below w.heap.size w wc))
           case first =>
            have H := HC28.out
            clear HC28
            by_cases c29 : (x11_2.length : Int) = 0
            ·
             rw [if_pos c29] at H
             have c29b0 : ((x11_2.length : Int) == 0) = true := beq_iff_eq.mpr c29
             have c29b1 : ((x11_2.length : Int) != 0) = false := bne_eq_false_iff_eq.mpr c29
             clear c29
             (first | rw [c29b0] | (simp only [i64_w, i32_w]; rw [c29b0]) | skip)
             have H' := Aside0.mk H
             clear H
             obtain ⟨Ao30, co30, eo30⟩ := Kd.R_slice HO_11.out
             subst eo30
             go_wp2
             go_meet
             case rel => exact ⟨_, (true), (by first | rfl | (simp; done) | (simp [*]; done)), H', ⟨by have := HK1.out; have := HK2.out; first | omega | exact Nat.le_refl _⟩, ⟨bR_ HO_8.out⟩, ⟨bR_ HO_11.out⟩, ⟨bR_ HO_12.out⟩, ⟨bB_ HB.out⟩⟩
            ·
             rw [if_neg c29] at H
             have c29b0 : ((x11_2.length : Int) == 0) = false := beq_eq_false_iff_ne.mpr c29
             have c29b1 : ((x11_2.length : Int) != 0) = true := bne_iff_ne.mpr c29
             have c29b2 : ¬ (x11_2 = []) := fun h_ => c29 (by rw [h_]; rfl)
             (first | rw [c29b0] | (simp only [i64_w, i32_w]; rw [c29b0]) | skip)
             have H' := Aside0.mk H
             clear H
             obtain ⟨Ao31, co31, eo31⟩ := Kd.R_slice HO_11.out
             subst eo31
             go_wp2
             go_meet
             case rel => exact ⟨_, ((x1_1 == 0)), (by first | rfl | (simp; done) | (simp [*]; done)), H', ⟨by have := HK1.out; have := HK2.out; first | omega | exact Nat.le_refl _⟩, ⟨bR_ HO_8.out⟩, ⟨bR_ HO_11.out⟩, ⟨bR_ HO_12.out⟩, ⟨bB_ HB.out⟩⟩
           case rest =>
            clear HC28
            try clear c1
            try clear c2
            try clear p2
            try clear q2
            try clear hx2
            try clear c4
            try clear c4b0
            try clear c4b1
            try clear c5
            try clear c5b0
            try clear c5b1
            try clear p6
            try clear c8
            try clear c8b0
            try clear c9
            try clear c9b0
            try clear c10
            try clear c10b0
            try clear c15
            try clear c15b0
            try clear c16
            try clear c16b0
            try clear c17
            try clear c17b0
            try clear c18
            try clear c18b0
            try clear c18b1
            try clear c19
            try clear c20
            try clear p24
            try clear q24
            try clear hx24
            try clear p25
            try clear q25
            try clear hx25
            try clear c29
            try clear c29b0
            try clear c29b1
            try clear c29b2
            try clear hcz22_0
            try clear hcz22_1
            try clear hcz24_0
            try clear hcz24_1
            try clear hcz27_0
            try clear hcz27_1
            try clear hfz22_0
            try clear hfz22_1
            try clear hfz24_0
            try clear hfz24_1
            try clear hfz27_0
            try clear hfz27_1
            try clear hx249_0
            try clear hx256_0
            try clear hx256_1
            try clear p2
            try clear p249
            try clear p256
            try clear q2
            try clear q249
            try clear q256
            obtain ⟨kq, x56_27, rfl, HA, HJ27, HO_8, HO_11, HO_12, HB⟩ := hcut
            cases kq with
            | zero => exact absurd HA.out (by simp [impl_servedBy.j2])
            | succ kj27 =>
             have H := HA.out
             clear HA
             simp only [impl_servedBy.j2] at H
             by_cases c32 : x56_27 = true
             ·
              subst c32
              have H1 : (impl_servedBy.l0 kj27 l0 x1_1 x8_1 l2 (l2.length : Int) (wrap64 (x23_1 + 1))) = some (r1, r2) := by rw [if_pos rfl] at H; exact H
              clear H
              have H := H1
              clear H1
              have H' := Aside0.mk H
              clear H
              go_wp2
              go_roundg kj27
              case measure => have := HK1.out; have := HK2.out; have := HJ27.out; omega
              case rel => exact ⟨(x1_1), (x8_1), (wrap64 (x23_1 + 1)), (by first | rfl | (simp; done) | (simp [*]; done)), (by first | rfl | (simp; done) | (simp [*]; done)), H', ⟨by have := HK1.out; have := HK2.out; have := HJ27.out; omega⟩, ⟨by (with_reducible repeat (first | apply Kd.R_alloc | apply Kd.R_drewN | apply Kd.R_drew)); exact Kd.R_mono HO_8.out (fun _ hk => trivial)⟩, ⟨bB_ HB.out⟩⟩
             ·
              replace c32 := Bool.eq_false_iff.mpr c32
              subst c32
              have H1 : ((impl_sumOf.f kj27 x12_2).bind fun t264 => (if x1_1 < t264 then ((impl_divided.f kj27 x1_1 x12_2).bind fun t265 => (impl_servedBy.j3 kj27 l0 x1_1 x8_1 x11_2 t265 l2 (l2.length : Int) x23_1)) else (impl_servedBy.j3 kj27 l0 x1_1 x8_1 x11_2 x12_2 l2 (l2.length : Int) x23_1))) = some (r1, r2) := by rw [if_neg (show ¬ (false = true) by decide)] at H; exact H
              clear H
              have H := H1
              clear H1
              replace H := Option.bind_eq_some_iff.mp H
              obtain ⟨t264, A330, H⟩ := H
              replace H : (if x1_1 < t264 then ((impl_divided.f kj27 x1_1 x12_2).bind fun t265 => (impl_servedBy.j3 kj27 l0 x1_1 x8_1 x11_2 t265 l2 (l2.length : Int) x23_1)) else (impl_servedBy.j3 kj27 l0 x1_1 x8_1 x11_2 x12_2 l2 (l2.length : Int) x23_1)) = some (r1, r2) := H
              have A33 := Aside0.mk A330
              clear A330
              have HC34 := Aside0.mk H
              clear H
              obtain ⟨Ao35, co35, eo35⟩ := Kd.R_slice HO_12.out
              subst eo35
              go_upto_if 61 with (first | ((with_reducible refine gate_callee (f := 64) rfl ?_); refine goesL_ (some 60) rfl rfl Try.func64 (by kernel_rfl) rfl #[.slice Ao35 x12_2.length co35] rfl (by (try simp only [List.map_toArray, List.map_cons, List.map_nil]); first | done | rfl | (simp only [List.length_drop, List.length_take]; rfl)) ?_; (with_reducible refine (impl_sumOf.calls kj27 _ _ x12_2 t264 _ ?side1 ?side2 A33.out).mono ?_); (case side1 => repeat (first | exact (Kd.R_reads' HO_12.out).2.2 | (with_reducible refine Kd.C_alloc ?_ _) | (with_reducible refine Kd.C_drewN ?_ _) | (with_reducible refine Kd.C_drew ?_))); (case side2 => exact (Kd.R_reads' HO_12.out).2.1); rintro e w' ⟨rfl, ⟨nd, rfl⟩⟩; refine ⟨_, rfl, ?_⟩))
              (try simp only [Act.put, List.setIfInBounds_toArray, List.set_cons_zero, List.set_cons_succ])
              go_cut [15] (fun v15 wc => ∃ (kq : Nat) (x15_33 : List Int), Aside0 (impl_servedBy.j3 kq l0 x1_1 x8_1 x11_2 x15_33 l2 (l2.length : Int) x23_1 = some (r1, r2)) ∧ Aside0 (kq ≤ kj27) ∧ Aside0 (Kd.R (Kd.int .i64) 3 wc w.heap.size (fun k_ => some k_ ≠ (u11 : Value).ownBlock ∧ some k_ ≠ (v15 : Value).ownBlock) v247 x8_1) ∧ Aside0 (Kd.R (Kd.int .i64) 3 wc w.heap.size (fun k_ => some k_ ≠ (v247 : Value).ownBlock ∧ some k_ ≠ (v15 : Value).ownBlock) u11 x11_2) ∧ Aside0 (Kd.R (Kd.int .i64) 3 wc w.heap.size (fun k_ => some k_ ≠ (v247 : Value).ownBlock ∧ some k_ ≠ (u11 : Value).ownBlock) v15 x15_33) ∧ Aside0 (Below w.heap.size w wc))
              case first =>
               have H := HC34.out
               clear HC34
               by_cases c36 : x1_1 < t264
               ·
                rw [if_pos c36] at H
                have c36b0 : decide (x1_1 < t264) = true := decide_eq_true c36
                clear c36
                (first | rw [c36b0] | (simp only [i64_w, i32_w]; rw [c36b0]) | skip)
                replace H := Option.bind_eq_some_iff.mp H
                obtain ⟨t265, A370, H⟩ := H
                replace H : (impl_servedBy.j3 kj27 l0 x1_1 x8_1 x11_2 t265 l2 (l2.length : Int) x23_1) = some (r1, r2) := H
                have A37 := Aside0.mk A370
                clear A370
                have H' := Aside0.mk H
                clear H
                go_wp2_with (first | ((with_reducible refine gate_callee (f := 106) rfl ?_); refine goesL_ (some 64) rfl rfl Try.func106 (by kernel_rfl) rfl #[.int .i64 x1_1, .slice Ao35 x12_2.length co35] rfl (by (try simp only [List.map_toArray, List.map_cons, List.map_nil]); first | done | rfl | (simp only [List.length_drop, List.length_take]; rfl)) ?_; (with_reducible refine (impl_divided.calls kj27 x1_1 (fun k_ => some k_ = (.slice Ao35 x12_2.length co35 : Value).ownBlock) _ _ x12_2 t265 _ ?side1 A37.out).mono ?_); (case side1 => exact Kd.R_V (Kd.R_tight rfl (HO_12.out))); rintro e w38 ⟨v266, rfl, ho0, hb⟩; refine ⟨_, rfl, ?_⟩; have n0_ := Aside0.mk (Kd.R_elder' (bR_ HO_8.out) (Kd.R_base ho0) hb); have n1_ := Aside0.mk (Kd.R_elder' (bR_ HO_11.out) (Kd.R_base ho0) hb); have n2_ := Aside0.mk (Kd.R_elder' (bR_ HO_12.out) (Kd.R_base ho0) hb); have n3_ := Aside0.mk (Kd.R_lower (Kd.R_new' (Kd.R_new' (Kd.R_new' (Kd.R_mono (ok' := fun k_ => True) ho0 (fun _ hk_ => trivial)) (Kd.R_lt (bR_ HO_8.out))) (Kd.R_lt (bR_ HO_11.out))) (Kd.R_lt (bR_ HO_12.out))) (below_size (bB_ HB.out))); have n4_ := Aside0.mk (below_step (bB_ HB.out) hb); clear HO_8; clear HO_11; clear HO_12; clear HB; have HO_8 := n0_; have HO_11 := n1_; have HO_12 := n2_; have HO267 := n3_; have HB := n4_; clear n0_ n1_ n2_ n3_ n4_; (try clear hb); (try clear hb2); (try clear hk); (try clear hi); (try clear ho0)))
                go_meet
                case rel => exact ⟨_, (t265), H', ⟨by have := HK1.out; have := HK2.out; have := HJ27.out; first | omega | exact Nat.le_refl _⟩, ⟨by (with_reducible repeat (first | apply Kd.R_alloc | apply Kd.R_drewN | apply Kd.R_drew)); exact Kd.R_mono HO_8.out (fun _ hk => ⟨hk.1.1, hk.2⟩)⟩, ⟨by (with_reducible repeat (first | apply Kd.R_alloc | apply Kd.R_drewN | apply Kd.R_drew)); exact Kd.R_mono HO_11.out (fun _ hk => ⟨hk.1.1, hk.2⟩)⟩, ⟨by (with_reducible repeat (first | apply Kd.R_alloc | apply Kd.R_drewN | apply Kd.R_drew)); exact Kd.R_mono HO267.out (fun _ hk => ⟨hk.1.1.2, hk.1.2⟩)⟩, ⟨bB_ HB.out⟩⟩
               ·
                rw [if_neg c36] at H
                have c36b0 : decide (x1_1 < t264) = false := decide_eq_false c36
                clear c36
                (first | rw [c36b0] | (simp only [i64_w, i32_w]; rw [c36b0]) | skip)
                have H' := Aside0.mk H
                clear H
                go_wp2
                go_meet
                case rel => exact ⟨_, (x12_2), H', ⟨by have := HK1.out; have := HK2.out; have := HJ27.out; first | omega | exact Nat.le_refl _⟩, ⟨bR_ HO_8.out⟩, ⟨bR_ HO_11.out⟩, ⟨bR_ HO_12.out⟩, ⟨bB_ HB.out⟩⟩
              case rest =>
               clear HC34
               try clear c1
               try clear c2
               try clear p2
               try clear q2
               try clear hx2
               try clear c3
               try clear c4
               try clear c4b0
               try clear c4b1
               try clear c5
               try clear c5b0
               try clear c5b1
               try clear c6
               try clear p6
               try clear c8
               try clear c8b0
               try clear c9
               try clear c9b0
               try clear c10
               try clear c10b0
               try clear c15
               try clear c15b0
               try clear c16
               try clear c16b0
               try clear c17
               try clear c17b0
               try clear c18
               try clear c18b0
               try clear c18b1
               try clear c19
               try clear c20
               try clear p24
               try clear q24
               try clear hx24
               try clear p25
               try clear q25
               try clear hx25
               try clear c29
               try clear c29b0
               try clear c29b1
               try clear c29b2
               try clear c32
               try clear c36
               try clear c36b0
               try clear hcz22_0
               try clear hcz22_1
               try clear hcz24_0
               try clear hcz24_1
               try clear hcz27_0
               try clear hcz27_1
               try clear hfz22_0
               try clear hfz22_1
               try clear hfz24_0
               try clear hfz24_1
               try clear hfz27_0
               try clear hfz27_1
               try clear hx249_0
               try clear hx256_0
               try clear hx256_1
               try clear p2
               try clear p24
               try clear p249
               try clear p25
               try clear p256
               try clear p6
               try clear q2
               try clear q24
               try clear q249
               try clear q25
               try clear q256
               obtain ⟨kq, x15_33, HA, HJ33, HO_8, HO_11, HO_15, HB⟩ := hcut
               cases kq with
               | zero => exact absurd HA.out (by simp [impl_servedBy.j3])
               | succ kj33 =>
                have H := HA.out
                clear HA
                simp only [impl_servedBy.j3] at H
                have H' := Aside0.mk H
                clear H
                obtain ⟨Ao39, co39, eo39⟩ := Kd.R_slice HO_11.out
                subst eo39
                go_wp2
                go_loopg [67] kj33 (fun kq v67 w' => ∃ (x8_5 : List Int) (x67_5 : Int), v67 = .int .i64 x67_5 ∧ Aside0 (impl_servedBy.l2 kq l0 x1_1 x8_5 x15_33 l2 (l2.length : Int) x23_1 x11_2 (x11_2.length : Int) x67_5 = some (r1, r2)) ∧ Aside0 (kq ≤ kj33) ∧ Aside0 (Kd.R (Kd.int .i64) 3 w' w.heap.size (fun k_ => some k_ ≠ (u15 : Value).ownBlock ∧ some k_ ≠ ((.slice Ao39 x11_2.length co39) : Value).ownBlock) v247 x8_5) ∧ Aside0 (Kd.R (Kd.int .i64) 3 w' w.heap.size (fun k_ => some k_ ≠ (v247 : Value).ownBlock ∧ some k_ ≠ ((.slice Ao39 x11_2.length co39) : Value).ownBlock) u15 x15_33) ∧ Aside0 (Kd.R (Kd.int .i64) 3 w' w.heap.size (fun k_ => some k_ ≠ (v247 : Value).ownBlock ∧ some k_ ≠ (u15 : Value).ownBlock) (.slice Ao39 x11_2.length co39) x11_2) ∧ Aside0 (Below w.heap.size w w'))
                case atStart => exact ⟨(x8_1), (0), (by first | rfl | (simp; done) | (simp [*]; done)), H', ⟨Nat.le_refl _⟩, ⟨by (with_reducible repeat (first | apply Kd.R_alloc | apply Kd.R_drewN | apply Kd.R_drew)); exact Kd.R_mono HO_8.out (fun _ hk => ⟨hk.2, hk.1⟩)⟩, ⟨bR_ HO_15.out⟩, ⟨bR_ HO_11.out⟩, ⟨bB_ HB.out⟩⟩
                case round =>
                 clear H'
                 try clear c1
                 try clear c2
                 try clear p2
                 try clear q2
                 try clear hx2
                 try clear c3
                 try clear c4
                 try clear c4b0
                 try clear c4b1
                 try clear c5
                 try clear c5b0
                 try clear c5b1
                 try clear c6
                 try clear p6
                 try clear c8
                 try clear c8b0
                 try clear c9
                 try clear c9b0
                 try clear c10
                 try clear c10b0
                 try clear c15
                 try clear c15b0
                 try clear c16
                 try clear c16b0
                 try clear c17
                 try clear c17b0
                 try clear c18
                 try clear c18b0
                 try clear c18b1
                 try clear c19
                 try clear c20
                 try clear p24
                 try clear q24
                 try clear hx24
                 try clear p25
                 try clear q25
                 try clear hx25
                 try clear c29
                 try clear c29b0
                 try clear c29b1
                 try clear c29b2
                 try clear c32
                 try clear c36
                 try clear c36b0
                 try clear hcz22_0
                 try clear hcz22_1
                 try clear hcz24_0
                 try clear hcz24_1
                 try clear hcz27_0
                 try clear hcz27_1
                 try clear hfz22_0
                 try clear hfz22_1
                 try clear hfz24_0
                 try clear hfz24_1
                 try clear hfz27_0
                 try clear hfz27_1
                 try clear hx249_0
                 try clear hx256_0
                 try clear hx256_1
                 try clear p2
                 try clear p24
                 try clear p249
                 try clear p25
                 try clear p256
                 try clear p6
                 try clear q2
                 try clear q24
                 try clear q249
                 try clear q25
                 try clear q256
                 obtain ⟨x8_5, x67_5, rfl, HA, HK5, HO_8, HO_15, HO_65, HB⟩ := hrel
                 cases gk with
                 | zero => exact absurd HA.out (by simp [impl_servedBy.l2])
                 | succ k5 =>
                  have H := HA.out
                  clear HA
                  simp only [impl_servedBy.l2] at H
                  by_cases c40 : x67_5 < (x11_2.length : Int)
                  ·
                   rw [if_pos c40] at H
                   have c40b0 : decide (x67_5 < (x11_2.length : Int)) = true := decide_eq_true c40
                   clear c40
                   by_cases c41 : 0 ≤ x67_5
                   ·
                    rw [if_pos c41] at H
                    have c41b0 : decide (0 ≤ x67_5) = true := decide_eq_true c41
                    clear c41
                    by_cases c42 : x67_5 < (x11_2.length : Int)
                    ·
                     rw [if_pos c42] at H
                     have c42b0 : decide (x67_5 < (x11_2.length : Int)) = true := decide_eq_true c42
                     clear c42
                     by_cases c43 : x67_5 < (x15_33.length : Int)
                     ·
                      rw [if_pos c43] at H
                      have c43b0 : decide (x67_5 < (x15_33.length : Int)) = true := decide_eq_true c43
                      clear c43
                      by_cases c44 : 0 ≤ (rd x11_2 x67_5)
                      ·
                       rw [if_pos c44] at H
                       have c44b0 : decide (0 ≤ (rd x11_2 x67_5)) = true := decide_eq_true c44
                       clear c44
                       by_cases c45 : (rd x11_2 x67_5) < (x8_5.length : Int)
                       ·
                        rw [if_pos c45] at H
                        have c45b0 : decide ((rd x11_2 x67_5) < (x8_5.length : Int)) = true := decide_eq_true c45
                        clear c45
                        obtain ⟨y270, hy270⟩ : ∃ y_ : List Int, y_ = (x8_5.set ((rd x11_2 x67_5) : Int).toNat (rd x15_33 x67_5)) := ⟨_, rfl⟩
                        replace H : (impl_servedBy.l2 k5 l0 x1_1 y270 x15_33 l2 (l2.length : Int) x23_1 x11_2 (x11_2.length : Int) (wrap64 (x67_5 + 1))) = some (r1, r2) := by first | (rw [hy270]; with_reducible exact H) | (have H2_ := (Option.bind_some _ _).symm.trans H; rw [hy270]; with_reducible exact H2_) | (have H2_ := (Option.bind_some _ _).symm.trans H; with_reducible exact H2_) | with_reducible exact H | (rw [hy270]; exact H) | exact H
                        have Ny270 := Aside0.mk hy270
                        clear hy270
                        have H' := Aside0.mk H
                        clear H
                        have p268 : 0 ≤ (x67_5 : Int) := of_decide_eq_true (by first | (with_reducible assumption) | assumption)
                        have q268 : x67_5 < (x11_2.length : Int) := of_decide_eq_true (by first | (with_reducible assumption) | assumption)
                        obtain ⟨ad268, e268, hx268_0⟩ := Kd.at_int (Kd.R_reads' HO_65.out).2.2 x67_5 p268 q268
                        cases e268
                        replace p268 := eq_true p268
                        replace q268 := eq_true q268
                        obtain ⟨Ao47, co47, eo47⟩ := Kd.R_slice HO_15.out
                        subst eo47
                        have p269 : 0 ≤ (x67_5 : Int) := of_decide_eq_true (by first | (with_reducible assumption) | assumption)
                        have q269 : x67_5 < (x15_33.length : Int) := of_decide_eq_true (by first | (with_reducible assumption) | assumption)
                        obtain ⟨ad269, e269, hx269_0⟩ := Kd.at_int (Kd.R_reads' HO_15.out).2.2 x67_5 p269 q269
                        cases e269
                        replace p269 := eq_true p269
                        replace q269 := eq_true q269
                        have p46 : 0 ≤ ((rd x11_2 x67_5) : Int) := of_decide_eq_true (by first | (with_reducible assumption) | assumption)
                        have q46 : ((rd x11_2 x67_5) : Int) < ((x8_5.length : Int) : Int) := of_decide_eq_true (by first | (with_reducible assumption) | assumption)
                        obtain ⟨go46, co46, eo46, gb46, gl46, cl46, HG46⟩ := Kd.R_form HO_8.out (by omega)
                        (first | cases eo46 | (injection eo46 with ea_ en_ ec_; (first | subst ea_ | (injection ea_ with ea_; subst ea_)); subst ec_; clear en_))
                        have GB46 := Aside0.mk gb46
                        have GG46 := Aside0.mk HG46
                        clear gb46 gl46 HG46
                        obtain ⟨hx46_0, hf46_0⟩ := Kd.R_celln 0 HO_8.out ((rd x11_2 x67_5) : Int) p46 q46
                        replace p46 := eq_true p46
                        replace q46 := eq_true q46
                        have HP48 := Kd.R_putg HO_8.out ((rd x11_2 x67_5) : Int) (rd x15_33 x67_5)
                        go_wp2_with (first | ((with_reducible refine gate_store (t := 3) (p := 78) rfl ?_); refine store_event (t := 3) (p := 78) (v := ?vo_w49) (w1 := (wr.setCell ⟨go46, ((rd x11_2 x67_5) : Int).toNat, none⟩ (.int .i64 (rd x15_33 x67_5)))) ?hg ?ho ?hn ?hr ?_; (case ho => rfl); (case hg => rfl); (case hn => rfl); (case hr => first | (go_simp; done) | (go_simp; rfl)); intro w49 hw; have hg : wr.grownBy w49 (some go46) := (by rw [hw]; exact HP48.2); have hp_ : Kd.R (Kd.int .i64) 3 w49 w.heap.size (fun k_ => some k_ ≠ (.slice (some ad269) x15_33.length co47 : Value).ownBlock ∧ some k_ ≠ (.slice (some ad268) x11_2.length co39 : Value).ownBlock) (.slice (some ⟨go46, 0, none⟩) x8_5.length co46) y270 := (by rw [hw, Ny270.out]; exact HP48.1); clear HP48; have n0_ := Aside0.mk (hp_); have n1_ := Aside0.mk (Kd.R_after (v := (.slice (some ⟨go46, 0, none⟩) x8_5.length co46)) (v1 := (.slice (some ⟨go46, 0, none⟩) x8_5.length co46)) (ok := (fun k_ => some k_ ≠ (.slice (some ad268) x11_2.length co39 : Value).ownBlock)) (by (with_reducible repeat (first | apply Kd.R_alloc | apply Kd.R_drewN | apply Kd.R_drew)); exact Kd.R_mono HO_15.out (fun _ hk => ⟨hk.2, hk.1⟩)) hg (.inl rfl)); have n2_ := Aside0.mk (Kd.R_after (v := (.slice (some ⟨go46, 0, none⟩) x8_5.length co46)) (v1 := (.slice (some ⟨go46, 0, none⟩) x8_5.length co46)) (ok := (fun k_ => some k_ ≠ (.slice (some ad269) x15_33.length co47 : Value).ownBlock)) (by (with_reducible repeat (first | apply Kd.R_alloc | apply Kd.R_drewN | apply Kd.R_drew)); exact Kd.R_mono HO_65.out (fun _ hk => ⟨hk.2, hk.1⟩)) hg (.inl rfl)); have n3_ := Aside0.mk ((by rw [hw]; exact below_set (HB.out) GB46.out : Below w.heap.size w w49)); clear HO_8; clear HO_15; clear HO_65; clear HB; have HO_8 := n0_; have HO_15 := n1_; have HO_65 := n2_; have HB := n3_; clear n0_ n1_ n2_ n3_; clear hg hw hp_))
                        go_roundg k5
                        case measure => have := HK1.out; have := HK2.out; have := HJ27.out; have := HJ33.out; have := HK5.out; omega
                        case rel => exact ⟨(y270), (wrap64 (x67_5 + 1)), (by first | rfl | (simp; done) | (simp [*]; done)), H', ⟨by have := HK1.out; have := HK2.out; have := HJ27.out; have := HJ33.out; have := HK5.out; omega⟩, ⟨bR_ HO_8.out⟩, ⟨by (with_reducible repeat (first | apply Kd.R_alloc | apply Kd.R_drewN | apply Kd.R_drew)); exact Kd.R_mono HO_15.out (fun _ hk => ⟨hk.2, hk.1⟩)⟩, ⟨by (with_reducible repeat (first | apply Kd.R_alloc | apply Kd.R_drewN | apply Kd.R_drew)); exact Kd.R_mono HO_65.out (fun _ hk => ⟨hk.2, hk.1⟩)⟩, ⟨bB_ HB.out⟩⟩
                       ·
                        rw [if_neg c45] at H
                        exact absurd H (by simp)
                      ·
                       rw [if_neg c44] at H
                       exact absurd H (by simp)
                     ·
                      rw [if_neg c43] at H
                      exact absurd H (by simp)
                    ·
                     rw [if_neg c42] at H
                     exact absurd H (by simp)
                   ·
                    rw [if_neg c41] at H
                    exact absurd H (by simp)
                  ·
                   rw [if_neg c40] at H
                   have c40b0 : decide (x67_5 < (x11_2.length : Int)) = false := decide_eq_false c40
                   clear c40
                   replace H := Option.bind_eq_some_iff.mp H
                   obtain ⟨t271, A500, H⟩ := H
                   replace H : (impl_servedBy.l0 k5 l0 (wrap64 (x1_1 - t271)) x8_5 l2 (l2.length : Int) (wrap64 (x23_1 + 1))) = some (r1, r2) := H
                   have A50 := Aside0.mk A500
                   clear A500
                   have H' := Aside0.mk H
                   clear H
                   obtain ⟨Ao51, co51, eo51⟩ := Kd.R_slice HO_15.out
                   subst eo51
                   go_wp2_with (first | ((with_reducible refine gate_callee (f := 64) rfl ?_); refine goesL_ (some 82) rfl rfl Try.func64 (by kernel_rfl) rfl #[.slice Ao51 x15_33.length co51] rfl (by (try simp only [List.map_toArray, List.map_cons, List.map_nil]); first | done | rfl | (simp only [List.length_drop, List.length_take]; rfl)) ?_; (with_reducible refine (impl_sumOf.calls k5 _ _ x15_33 t271 _ ?side1 ?side2 A50.out).mono ?_); (case side1 => repeat (first | exact (Kd.R_reads' HO_15.out).2.2 | (with_reducible refine Kd.C_alloc ?_ _) | (with_reducible refine Kd.C_drewN ?_ _) | (with_reducible refine Kd.C_drew ?_))); (case side2 => exact (Kd.R_reads' HO_15.out).2.1); rintro e w' ⟨rfl, ⟨nd, rfl⟩⟩; refine ⟨_, rfl, ?_⟩))
                   go_roundg k5
                   case measure => have := HK1.out; have := HK2.out; have := HJ27.out; have := HJ33.out; have := HK5.out; omega
                   case rel => exact ⟨(wrap64 (x1_1 - t271)), (x8_5), (wrap64 (x23_1 + 1)), (by first | rfl | (simp; done) | (simp [*]; done)), (by first | rfl | (simp; done) | (simp [*]; done)), H', ⟨by have := HK1.out; have := HK2.out; have := HJ27.out; have := HJ33.out; have := HK5.out; omega⟩, ⟨by (with_reducible repeat (first | apply Kd.R_alloc | apply Kd.R_drewN | apply Kd.R_drew)); exact Kd.R_mono HO_8.out (fun _ hk => trivial)⟩, ⟨bB_ HB.out⟩⟩
       ·
        rw [if_neg c10] at H
        exact absurd H (by simp)
      ·
       rw [if_neg c9] at H
       exact absurd H (by simp)
     ·
      rw [if_neg c8] at H
      have c8b0 : decide (x23_1 < (l2.length : Int)) = false := decide_eq_false c8
      clear c8
      simp only [Option.some.injEq, Prod.mk.injEq] at H
      obtain ⟨rfl, rfl⟩ := H
      go_wp2
      go_ret2
      exact ⟨_, by first | rfl | (simp [errW_none, errW_some] <;> rfl) | (simp [*, errW_none, errW_some] <;> rfl), by (with_reducible repeat (first | apply Kd.R_alloc | apply Kd.R_drewN | apply Kd.R_drew)); exact HO_8.out, bB_ HB.out⟩
  ·
   rw [if_neg c5] at H
   exact absurd H (by simp)
 ·
  rw [if_neg c4] at H
  exact absurd H (by simp)

/-! ### impl_ranksUp: function 96 -/
def impl_ranksUp.l0 : Nat → List Int → Int → Option (List Int)
 | 0, _, _ => none
 | k + 1, x1, x2 => if x2 ≤ 10 then (if x1.length < 17592186044416 then (impl_ranksUp.l0 k (x1 ++ [x2]) (wrap64 (x2 + 1))) else (none)) else (some x1)
def impl_ranksUp.f (k : Nat)  : Option (List Int) := impl_ranksUp.l0 k (([] : List Int)) 1
theorem impl_ranksUp.mono_l : ∀ k, (∀ y0 y1, LeO (impl_ranksUp.l0 k y0 y1) (impl_ranksUp.l0 (k + 1) y0 y1))
 | 0 => fun _ _ r h => by simp [impl_ranksUp.l0] at h
 | k + 1 => by
  have ih0 := impl_ranksUp.mono_l k
  ·
   intro y0 y1
   unfold impl_ranksUp.l0
   repeat' first
   | (with_reducible exact ih0 _ _)
   | (with_reducible exact LeO.refl _)
   | (with_reducible exact LeO.none _)
   | (with_reducible refine LeO.ite ?_ ?_)
   | (with_reducible refine LeO.bind ?_ (fun _ => ?_))
   | exact ih0 _ _
   | exact LeO.none _
   | refine LeO.ite ?_ ?_
   | refine LeO.bind ?_ (fun _ => ?_)
theorem impl_ranksUp.mono : ∀ k, LeO (impl_ranksUp.f k ) (impl_ranksUp.f (k + 1) ) := by
 intro  k
 have ih0 := impl_ranksUp.mono_l k
 unfold impl_ranksUp.f
 repeat' first
  | (with_reducible exact ih0 _ _)
  | (with_reducible exact LeO.refl _)
  | (with_reducible exact LeO.none _)
  | (with_reducible refine LeO.ite ?_ ?_)
  | (with_reducible refine LeO.bind ?_ (fun _ => ?_))
  | exact ih0 _ _
  | exact LeO.none _
  | refine LeO.ite ?_ ?_
  | refine LeO.bind ?_ (fun _ => ?_)
set_option maxHeartbeats 8000000 in
set_option maxRecDepth 100000 in
theorem impl_ranksUp.calls (k : Nat)  (r : List Int) (w : World) (h : impl_ranksUp.f k  = some r) :
 Calls Try.prog 96 #[] w fun e w' => ∃ v0_ : Value, e = .returned (v0_) ∧ Kd.R (Kd.int .i64) 3 w' w.heap.size (fun _ => True) v0_ r ∧ Below w.heap.size w w' := by
 have HB := Aside0.mk (Below.refl w.heap.size w)
 have H : (impl_ranksUp.l0 k (([] : List Int)) 1) = some r := h
 clear h
 obtain ⟨y272, hy272⟩ : ∃ y_ : List Int, y_ = (([] : List Int)) := ⟨_, rfl⟩
 replace H : (impl_ranksUp.l0 k y272 1) = some r := by first | (rw [hy272]; with_reducible exact H) | (have H2_ := (Option.bind_some _ _).symm.trans H; rw [hy272]; with_reducible exact H2_) | (have H2_ := (Option.bind_some _ _).symm.trans H; with_reducible exact H2_) | with_reducible exact H | (rw [hy272]; exact H) | exact H
 have Ny272 := Aside0.mk hy272
 clear hy272
 have H' := Aside0.mk H
 clear H
 go_enter Try.func96, Try.ntmps96
 go_wp2_with (first | ((with_reducible refine gate_dst (N := 3) rfl ?_); refine Kd.R_lit (Kd.int .i64) _ 3 ?hg (N := 3) ?hd (xs := ([] : List Int)) (inner := []) (ok := fun _ => True) (okp := fun _ => True) ?hr ?hp (fun _ hk => hk) trivial (Below.refl _ _) (Nat.le_refl _) (by simp) ?_; (case hd => rfl); (case hg => rfl); (case hr => first | (go_simp; done) | (go_simp; rfl)); (case hp => exact (Reps.none _ _)); intro v273 w1 ho2 hb hg_ hnew_; clear hg_ hnew_; (first | rw [← Ny272.out] at ho2 | (simp only [Int.reduceToNat] at ho2; rw [← Ny272.out] at ho2)); have n0_ := Aside0.mk (Kd.R_lower ho2 (below_size (bB_ HB.out))); have n1_ := Aside0.mk (below_step (bB_ HB.out) hb); clear HB; have HO274 := n0_; have HB := n1_; clear n0_ n1_; clear hb ho2))
 go_loopg [1, 2] k (fun kq v1 v2 w' => ∃ (x1_1 : List Int) (x2_1 : Int), v2 = .int .i64 x2_1 ∧ Aside0 (impl_ranksUp.l0 kq x1_1 x2_1 = some r) ∧ Aside0 (kq ≤ k) ∧ Aside0 (Kd.R (Kd.int .i64) 3 w' w.heap.size (fun _ => True) v1 x1_1) ∧ Aside0 (Below w.heap.size w w'))
 case atStart => exact ⟨(y272), (1), (by first | rfl | (simp; done) | (simp [*]; done)), H', ⟨Nat.le_refl _⟩, ⟨bR_ HO274.out⟩, ⟨bB_ HB.out⟩⟩
 case round =>
  clear H'
  try clear p2
  obtain ⟨x1_1, x2_1, rfl, HA, HK1, HO_1, HB⟩ := hrel
  cases gk with
  | zero => exact absurd HA.out (by simp [impl_ranksUp.l0])
  | succ k1 =>
   have H := HA.out
   clear HA
   simp only [impl_ranksUp.l0] at H
   by_cases c3 : x2_1 ≤ 10
   ·
    rw [if_pos c3] at H
    have c3b0 : decide (x2_1 ≤ 10) = true := decide_eq_true c3
    clear c3
    by_cases c4 : x1_1.length < 17592186044416
    ·
     rw [if_pos c4] at H
     have LMc4 := Aside0.mk c4
     clear c4
     obtain ⟨y275, hy275⟩ : ∃ y_ : List Int, y_ = (x1_1 ++ [x2_1]) := ⟨_, rfl⟩
     replace H : (impl_ranksUp.l0 k1 y275 (wrap64 (x2_1 + 1))) = some r := by first | (rw [hy275]; with_reducible exact H) | (have H2_ := (Option.bind_some _ _).symm.trans H; rw [hy275]; with_reducible exact H2_) | (have H2_ := (Option.bind_some _ _).symm.trans H; with_reducible exact H2_) | with_reducible exact H | (rw [hy275]; exact H) | exact H
     have Ny275 := Aside0.mk hy275
     clear hy275
     have H' := Aside0.mk H
     clear H
     go_wp2_with (first | ((with_reducible refine gate_builtin (b := .append) (xs := #[.tmp 8, .tmp 10]) rfl ?_); at_builtin; refine Kd.R_append (Kd.int .i64) (w0 := w) w.heap.size rfl (.tmp 8) (.tmp 10) 40 3 (.int .i64 0) 8 rfl Try.underlying40 info3 rfl (by decide) (by omega) u1 x1_1 x2_1 [.int .i64 x2_1] (fun _ => True) (fun _ => False) rfl rfl ?aP (fun _ hk => hk.elim) ?aF ?aO ?aB ?aS ?aL ?_; (case aP => exact rfl); (case aB => exact (bB_ HB.out)); (case aF => exact (fun _ _ => trivial)); (case aO => exact (bR_ HO_1.out)); (case aS => exact (below_size (bB_ HB.out))); (case aL => have := LMc4.out; omega); intro v276 w5 ho hb hg hat; rw [← Ny275.out] at ho; have n0_ := Aside0.mk (hb); have n1_ := Aside0.mk (ho); clear HB; clear HO_1; have HB := n0_; have HO277 := n1_; clear n0_ n1_; clear ho hb hg hat))
     go_roundg k1
     case measure => have := HK1.out; omega
     case rel => exact ⟨(y275), (wrap64 (x2_1 + 1)), (by first | rfl | (simp; done) | (simp [*]; done)), H', ⟨by have := HK1.out; omega⟩, ⟨bR_ HO277.out⟩, ⟨bB_ HB.out⟩⟩
    ·
     rw [if_neg c4] at H
     exact absurd H (by simp)
   ·
    rw [if_neg c3] at H
    have c3b0 : decide (x2_1 ≤ 10) = false := decide_eq_false c3
    clear c3
    obtain rfl := Option.some.inj H
    go_wp2
    go_ret
    exact ⟨_, by first | rfl | (simp [errW_none, errW_some] <;> rfl) | (simp [*, errW_none, errW_some] <;> rfl), by (with_reducible repeat (first | apply Kd.R_alloc | apply Kd.R_drewN | apply Kd.R_drew)); exact HO_1.out, bB_ HB.out⟩

end Go.Proofs.Ytlneimpoholkhaa.PFnCloseOut
