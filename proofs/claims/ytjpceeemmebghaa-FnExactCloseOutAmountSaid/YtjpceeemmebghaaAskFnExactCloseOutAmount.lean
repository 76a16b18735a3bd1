/-
What the law asks of its arguments, its one pure statement, and the walk of its code out of it.
-/
import Derived.Test.YtjpceeemmebghaaPFnExactCloseOutAmountx2
import Derived.Test.YtjpceeemmebghaaOpen
import Derived.WalkKit
namespace Go.Proofs.Ytjpceeemmebghaa.PFnExactCloseOutAmount
open Go.RowKit Go.ChangeShapes Go.WideShapes Go.Proofs.YtjpceeemmebghaaOpen Go.Proofs.YtjpceeemmebghaaW.PrintWords Go.Proofs.YtjpceeemmebghaaW.PrintLast Go.Proofs.YtjpceeemmebghaaW.PrintMore
set_option linter.unusedVariables false
def b80 (x : S80) : Prop := (bInt .i64) x.f0 ∧ (bInt .i64) x.f1
theorem o80 : Opens Try.prog 80 k80 b80 := fun n => opens_struct (n := n) (fun x : S80 => (x.f0, x.f1)) (fun p => ⟨p.1, p.2⟩) (fun _ => rfl) Try.underlying80 (by kernel_rfl) (fun m _ => opensF_cons rfl (by kernel_rfl) rfl (opens_int Try.underlying3 m) (opensF_one rfl (by kernel_rfl) (opens_int Try.underlying3 m)))
/-- THE ONE PURE STATEMENT. -/
def laws_FnExactCloseOutAmount.Ask : Prop := ∀ (l0 : List (S80)), (bSl 16 b80) l0 → ∃ k, laws_FnExactCloseOutAmount.f k l0 = some true
end Go.Proofs.Ytjpceeemmebghaa.PFnExactCloseOutAmount
