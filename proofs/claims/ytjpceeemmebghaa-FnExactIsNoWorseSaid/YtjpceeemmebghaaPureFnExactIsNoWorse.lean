/-
The plain law behind FnExactIsNoWorse: the printed functions of the program and of the reference give the same values, so the law answers true. No condition.
-/
import Derived.Test.YtjpceeemmebghaaAskFnExactIsNoWorse
import Derived.Test.YtjpceeemmebghaaBase
namespace Go.Proofs.Ytjpceeemmebghaa.PureFnExactIsNoWorse
open Go.RowKit Go.Proofs.Ytjpceeemmebghaa.PFnExactIsNoWorse Go.Proofs.YtjpceeemmebghaaOpen Go.Proofs.YtjpceeemmebghaaBase Go.Proofs.YtjpceeemmebghaaW.PrintWords Go.Proofs.YtjpceeemmebghaaW.PrintLast Go.Proofs.YtjpceeemmebghaaW.PrintMore

end Go.Proofs.Ytjpceeemmebghaa.PureFnExactIsNoWorse
namespace Go.Proofs.Ytjpceeemmebghaa.Pure
open PFnExactIsNoWorse
theorem FnExactIsNoWorse : PFnExactIsNoWorse.laws_FnExactIsNoWorse.Ask := by
  intro x y _ _
  unfold laws_FnExactIsNoWorse.f laws_toPosition.f spec_IsNoWorse.f
  simp only [Option.bind_some]
  have e : impl_IsNoWorse.f x.f0 x.f1 x.f2 x.f3 y.f0 y.f1 y.f2 y.f3 = spec_l21NoWorse.f x.f0 x.f1 x.f2 x.f3 y.f0 y.f1 y.f2 y.f3 := rfl
  rw [e]
  obtain ⟨b, hb⟩ : ∃ b, spec_l21NoWorse.f x.f0 x.f1 x.f2 x.f3 y.f0 y.f1 y.f2 y.f3 = some b := by
    unfold spec_l21NoWorse.f
    split
    · split
      · split
        · exact ⟨_, rfl⟩
        · exact ⟨_, rfl⟩
      · exact ⟨_, rfl⟩
    · exact ⟨_, rfl⟩
  rw [hb]
  simp
end Go.Proofs.Ytjpceeemmebghaa.Pure
