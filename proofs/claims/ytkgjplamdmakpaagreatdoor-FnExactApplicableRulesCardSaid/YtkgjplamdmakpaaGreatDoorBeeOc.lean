/- Chapter 23: what a law's arguments read as. -/
import Derived.Test.YtkgjplamdmakpaaGreatDoorBeeRw
import Derived.Test.YtkgjplamdmakpaaGreatDoorBeeV
namespace Go.Bee.C23
open Go Go.Bee Go.Proofs Go.Bee.Ty
set_option linter.unusedVariables false
theorem opnTh : Opn Tryz.prog 73 Th.e (fun _ => True) := fun n => by
  refine (opn_struct (n := n) (len := 2) (fun y : List UInt8 × Bool => (⟨y.1, y.2⟩ : Th)) Tryz.underlying73 (by kernel_rfl) ?_
    (fun m _ => opnS_cons (off2 := 1) rfl ?_ (opn_str Tryz.underlying9 m) (opnS_one rfl ?_ (opn_bool Tryz.underlying4 m)))).imp fun _ _ => trivial
  · intro _; rfl
  · kernel_rfl
  · kernel_rfl
theorem opnSd : Opn Tryz.prog 134 Sd.e (fun _ => True) := fun n => by
  refine (opn_struct (n := n) (len := 2) (fun y : List UInt8 × Int => (⟨y.1, y.2⟩ : Sd)) Tryz.underlying134 (by kernel_rfl) ?_
    (fun m _ => opnS_cons (off2 := 1) rfl ?_ (opn_str Tryz.underlying9 m) (opnS_one rfl ?_ (opn_int Tryz.underlying3 m)))).imp fun _ _ => trivial
  · intro _; rfl
  · kernel_rfl
  · kernel_rfl
theorem opnThs (n : Nat) : OpnN Tryz.prog 41 (fun l : List Th => .sl 2 (l.map Th.e)) (fun _ => True) n :=
  (opn_slice (sz := 2) Tryz.underlying41 (by kernel_rfl) (by decide) (of_decide_eq_true (by kernel_rfl)) (fun m _ => opnTh m)).imp fun _ _ => trivial
theorem opnRu : Opn Tryz.prog 132 Ru.e (fun _ => True) := fun n => by
  refine (opn_struct (n := n) (len := 5) (fun y : List Th × List Th × Th × Int => (⟨y.1, y.2.1, y.2.2.1, y.2.2.2⟩ : Ru)) Tryz.underlying132 (by kernel_rfl) ?_
    (fun m _ => opnS_cons (off2 := 1) rfl ?_ (opnThs m) (opnS_cons (off2 := 2) rfl ?_ (opnThs m) (opnS_cons (off2 := 4) rfl ?_ (opnTh m) (opnS_one rfl ?_ (opn_int Tryz.underlying3 m)))))).imp fun _ _ => trivial
  · intro _; rfl
  · kernel_rfl
  · kernel_rfl
  · kernel_rfl
  · kernel_rfl
theorem opnCs : Opn Tryz.prog 45 (fun c : Cs => .agg [.sl 2 (c.fs.map Th.e), .sl 5 (c.rs.map Ru.e), .sl 2 (c.ss.map Sd.e)]) (fun _ => True) := fun n => by
  refine (opn_struct (n := n) (len := 3) (fun y : List Th × List Ru × List Sd => (⟨y.1, y.2.1, y.2.2⟩ : Cs)) Tryz.underlying45 (by kernel_rfl) ?_
    (fun m _ => opnS_cons (off2 := 1) rfl ?_ (opnThs m) (opnS_cons (off2 := 2) rfl ?_ (opn_slice (sz := 5) Tryz.underlying42 (by kernel_rfl) (by decide) (of_decide_eq_true (by kernel_rfl)) (fun k _ => opnRu k))
      (opnS_one rfl ?_ (opn_slice (sz := 2) Tryz.underlying43 (by kernel_rfl) (by decide) (of_decide_eq_true (by kernel_rfl)) (fun k _ => opnSd k)))))).imp fun _ _ => trivial
  · intro _; rfl
  · kernel_rfl
  · kernel_rfl
  · kernel_rfl
end Go.Bee.C23
