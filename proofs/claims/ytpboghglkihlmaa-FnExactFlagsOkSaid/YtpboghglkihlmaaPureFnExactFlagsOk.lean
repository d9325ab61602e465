/- The program's FlagsOk and the reference's give the same answer. Conditions: none (every int). -/
import Derived.Test.YtpboghglkihlmaaPFnExactFlagsOkx1
namespace Go.Proofs.Ytpboghglkihlmaa.Pure
open Go.RowKit Go.Proofs.Ytpboghglkihlmaa.PFnExactFlagsOk Go.Proofs.YtpboghglkihlmaaW.PrintWords Go.Proofs.YtpboghglkihlmaaW.PrintLast

theorem FnExactFlagsOk : laws_FnExactFlagsOk.Pure := by
  intro a0 _
  simp only [laws_FnExactFlagsOk.f, spec_FlagsOk.f, impl_FlagsOk.f, spec_l1In.f, impl_within.f]
  by_cases h : a0 ≥ 0 <;> simp [h]

end Go.Proofs.Ytpboghglkihlmaa.Pure
