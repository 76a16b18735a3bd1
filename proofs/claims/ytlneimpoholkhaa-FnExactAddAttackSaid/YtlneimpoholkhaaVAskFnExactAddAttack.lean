/-
What the law asks of its arguments, its one pure statement, and the walk of its code out of it.
-/
import Derived.Test.YtlneimpoholkhaaVPFnExactAddAttackx8
import Derived.Test.YtlneimpoholkhaaVOpen
import Derived.WalkKit
namespace Go.Proofs.Ytlneimpoholkhaa.PFnExactAddAttack
open Go.RowKit Go.ChangeShapes Go.WideShapes Go.Proofs.YtlneimpoholkhaaOpen Go.Proofs.YtlneimpoholkhaaW.PrintWords Go.Proofs.YtlneimpoholkhaaW.PrintLast Go.Proofs.YtlneimpoholkhaaW.PrintMore
set_option linter.unusedVariables false
def b98 (x : S98) : Prop := (bInt .i64) x.f0 ∧ (bInt .i64) x.f1
theorem o98 : Opens Try.prog 98 k98 b98 := fun n => opens_struct (n := n) (fun x : S98 => (x.f0, x.f1)) (fun p => ⟨p.1, p.2⟩) (fun _ => rfl) Try.underlying98 (by kernel_rfl) (fun m _ => opensF_cons rfl (by kernel_rfl) rfl (opens_int Try.underlying3 m) (opensF_one rfl (by kernel_rfl) (opens_int Try.underlying3 m)))
/-! #### struct type 24 -/
structure S24 where
  f0 : Int
  f1 : (List S98)
def z24 : S24 := ⟨(0 : Int), ([] : List S98)⟩
def k24 : Kd S24 := Kd.iso (Kd.pair (Kd.int .i64) (Kd.slice 98 k98)) (fun x : S24 => (x.f0, x.f1))
theorem k24_open {w : World} {x : S24} {cs : List Value} (h : k24.K w x cs) : ∃ A1 c1, cs = [.int .i64 x.f0, .slice A1 x.f1.length c1] ∧ x.f1.length ≤ c1 ∧ k98.C w A1 x.f1.length x.f1 := by
  obtain ⟨_, _, rfl, rfl, ⟨A1, c1, rfl, l1, g1⟩⟩ := h
  exact ⟨A1, c1, rfl, l1, g1⟩
theorem k24_openM {w : World} {base : Nat} {ok : Nat → Prop} {x : S24} {cs : List Value} (h : k24.M w base ok x cs) : ∃ v1, cs = [.int .i64 x.f0, v1] ∧ k98.R 98 w base ok v1 x.f1 := by
  obtain ⟨_, _, rfl, rfl, ⟨v1, rfl, g1⟩⟩ := h
  exact ⟨v1, rfl, g1⟩
theorem k24_mk (w : World) (x : S24) {A1 : Option Addr} {c1 : Nat} (l1 : x.f1.length ≤ c1) (g1 : k98.C w A1 x.f1.length x.f1) : k24.K w x [.int .i64 x.f0, .slice A1 x.f1.length c1] := ⟨[.int .i64 x.f0], [.slice A1 x.f1.length c1], rfl, rfl, ⟨A1, c1, rfl, l1, g1⟩⟩
theorem k24_mkM (w : World) (base : Nat) (ok : Nat → Prop) (x : S24) {v1 : Value} (g1 : k98.R 98 w base ok v1 x.f1) : k24.M w base ok x [.int .i64 x.f0, v1] := ⟨[.int .i64 x.f0], [v1], rfl, rfl, ⟨v1, rfl, g1⟩⟩
def rd_T24 (xs : List S24) (i : Int) : S24 := xs.getD i.toNat z24
theorem at_T24 {w : World} {A : Option Addr} {n : Nat} {xs : List S24} (h : Kd.C k24 w A n xs) (i : Int) (h0 : 0 ≤ i) (h1 : i < n) : ∃ ad A1 c1, A = some ad ∧ w.cell? (ad.add (i.toNat * 2)) = some (.int .i64 (rd_T24 xs i).f0) ∧ w.cell? ⟨(ad.add (i.toNat * 2)).block, (ad.add (i.toNat * 2)).off + 1, none⟩ = some (.slice A1 (rd_T24 xs i).f1.length c1) ∧ (rd_T24 xs i).f1.length ≤ c1 ∧ k98.C w A1 (rd_T24 xs i).f1.length (rd_T24 xs i).f1 := by
  obtain ⟨ad, c, e, _, hK, hc0⟩ := Kd.C_get h z24 i h0 h1
  have hc : ∀ j u, c[j]? = some u → w.cell? (ad.add (i.toNat * 2 + j)) = some u := hc0
  obtain ⟨A1, c1, rfl, l1, g1⟩ := k24_open hK
  exact ⟨ad, A1, c1, e, hc 0 _ rfl, by rw [← add_field _ _ 1 (by omega)]; exact hc 1 _ rfl, l1, g1⟩
def b24 (x : S24) : Prop := (bInt .i64) x.f0 ∧ (bSl 16 b98) x.f1
theorem o24 : Opens Try.prog 24 k24 b24 := fun n => opens_struct (n := n) (fun x : S24 => (x.f0, x.f1)) (fun p => ⟨p.1, p.2⟩) (fun _ => rfl) Try.underlying24 (by kernel_rfl) (fun m _ => opensF_cons rfl (by kernel_rfl) rfl (opens_int Try.underlying3 m) (opensF_one rfl (by kernel_rfl) (opens_slice Try.underlying22 (by kernel_rfl) (by kernel_rfl) (fun m_ _ => (o98 m_)))))
/-- THE ONE PURE STATEMENT. -/
def laws_FnExactAddAttack.Ask : Prop := ∀ (x0 : S24) (a1 : Int) (a2 : Int), b24 x0 → (bInt .i64) a1 → (bInt .i64) a2 → ∃ k, laws_FnExactAddAttack.f k x0.f0 x0.f1 a1 a2 = some true
end Go.Proofs.Ytlneimpoholkhaa.PFnExactAddAttack
