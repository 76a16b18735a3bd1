/- Chapter 23: what a law's arguments read as. -/
import Derived.Test.YtgopmghiadpbcaaDoorBeeRw
import Derived.Test.YtgopmghiadpbcaaDoorBeeV
namespace Go.Bee.C23
open Go Go.Bee Go.Proofs Go.Bee.Ty
set_option linter.unusedVariables false
theorem opnTh : Opn Tryd.prog 61 Th.e (fun _ => True) := fun n => by
  refine (opn_struct (n := n) (len := 2) (fun y : List UInt8 × Bool => (⟨y.1, y.2⟩ : Th)) Tryd.underlying61 (by kernel_rfl) ?_
    (fun m _ => opnS_cons (off2 := 1) rfl ?_ (opn_str Tryd.underlying9 m) (opnS_one rfl ?_ (opn_bool Tryd.underlying4 m)))).imp fun _ _ => trivial
  · intro _; rfl
  · kernel_rfl
  · kernel_rfl
theorem opnSd : Opn Tryd.prog 66 Sd.e (fun _ => True) := fun n => by
  refine (opn_struct (n := n) (len := 2) (fun y : List UInt8 × Int => (⟨y.1, y.2⟩ : Sd)) Tryd.underlying66 (by kernel_rfl) ?_
    (fun m _ => opnS_cons (off2 := 1) rfl ?_ (opn_str Tryd.underlying9 m) (opnS_one rfl ?_ (opn_int Tryd.underlying3 m)))).imp fun _ _ => trivial
  · intro _; rfl
  · kernel_rfl
  · kernel_rfl
theorem opnThs (n : Nat) : OpnN Tryd.prog 22 (fun l : List Th => .sl 2 (l.map Th.e)) (fun _ => True) n :=
  (opn_slice (sz := 2) Tryd.underlying22 (by kernel_rfl) (by decide) (of_decide_eq_true (by kernel_rfl)) (fun m _ => opnTh m)).imp fun _ _ => trivial
theorem opnRu : Opn Tryd.prog 64 Ru.e (fun _ => True) := fun n => by
  refine (opn_struct (n := n) (len := 5) (fun y : List Th × List Th × Th × Int => (⟨y.1, y.2.1, y.2.2.1, y.2.2.2⟩ : Ru)) Tryd.underlying64 (by kernel_rfl) ?_
    (fun m _ => opnS_cons (off2 := 1) rfl ?_ (opnThs m) (opnS_cons (off2 := 2) rfl ?_ (opnThs m) (opnS_cons (off2 := 4) rfl ?_ (opnTh m) (opnS_one rfl ?_ (opn_int Tryd.underlying3 m)))))).imp fun _ _ => trivial
  · intro _; rfl
  · kernel_rfl
  · kernel_rfl
  · kernel_rfl
  · kernel_rfl
theorem opnCs : Opn Tryd.prog 26 (fun c : Cs => .agg [.sl 2 (c.fs.map Th.e), .sl 5 (c.rs.map Ru.e), .sl 2 (c.ss.map Sd.e)]) (fun _ => True) := fun n => by
  refine (opn_struct (n := n) (len := 3) (fun y : List Th × List Ru × List Sd => (⟨y.1, y.2.1, y.2.2⟩ : Cs)) Tryd.underlying26 (by kernel_rfl) ?_
    (fun m _ => opnS_cons (off2 := 1) rfl ?_ (opnThs m) (opnS_cons (off2 := 2) rfl ?_ (opn_slice (sz := 5) Tryd.underlying23 (by kernel_rfl) (by decide) (of_decide_eq_true (by kernel_rfl)) (fun k _ => opnRu k))
      (opnS_one rfl ?_ (opn_slice (sz := 2) Tryd.underlying24 (by kernel_rfl) (by decide) (of_decide_eq_true (by kernel_rfl)) (fun k _ => opnSd k)))))).imp fun _ _ => trivial
  · intro _; rfl
  · kernel_rfl
  · kernel_rfl
  · kernel_rfl
end Go.Bee.C23
