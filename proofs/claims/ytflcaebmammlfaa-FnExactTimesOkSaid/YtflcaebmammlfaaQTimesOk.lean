/- The program's TimesOk and the reference's tell the same. Conditions: none. -/
import Derived.Test.YtflcaebmammlfaaFTimesOk
namespace Go.Proofs.Ytflcaebmammlfaa.M
open Go Go.MG
set_option linter.unusedVariables false
set_option linter.unusedSimpArgs false
theorem wid {n : Int} (h1 : -9223372036854775808 ≤ n) (h2 : n ≤ 9223372036854775807) : IntKind.i64.wrap n = n := by
  rw [IntKind.wrap_i64]; omega
def tOk (a : Timpl_Times) : Bool := decide (0 ≤ a.Auth ∧ a.Auth ≤ a.Start ∧ a.Start ≤ a.End ∧ a.End ≤ a.Renew ∧ a.Renew ≤ 100000)
theorem sTimesOk (k : Nat) (a : Timpl_Times) : Fspec_TimesOk k a = some (tOk a) := by
  unfold Fspec_TimesOk tOk
  simp only [Bool.cond_decide]
  repeat' split
  all_goals
    refine congrArg some (Bool.eq_iff_iff.mpr ?_)
    simp only [decide_eq_true_eq, Bool.false_eq_true, false_iff]
    omega
theorem iTimesOk (k : Nat) (a : Timpl_Times) : Fimpl_TimesOk k a = some (tOk a) := sTimesOk k a
theorem lawExactTimesOk (a : Tlaws_Times) (w : wfTlaws_Times a) : ∃ k, Flaws_FnExactTimesOk k a = some true := by
  refine ⟨0, ?_⟩
  simp [Flaws_FnExactTimesOk, Flaws_toTimes, sTimesOk, iTimesOk]
end Go.Proofs.Ytflcaebmammlfaa.M
