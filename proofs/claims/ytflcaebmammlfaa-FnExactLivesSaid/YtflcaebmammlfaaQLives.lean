/- The program's Lives and the reference's tell the same. Conditions: none. -/
import Derived.Test.YtflcaebmammlfaaFLives
namespace Go.Proofs.Ytflcaebmammlfaa.M
open Go Go.MG
set_option linter.unusedVariables false
set_option linter.unusedSimpArgs false
theorem wid {n : Int} (h1 : -9223372036854775808 ≤ n) (h2 : n ≤ 9223372036854775807) : IntKind.i64.wrap n = n := by
  rw [IntKind.wrap_i64]; omega
def tOk (a : Timpl_Times) : Bool := decide (0 ≤ a.Auth ∧ a.Auth ≤ a.Start ∧ a.Start ≤ a.End ∧ a.End ≤ a.Renew ∧ a.Renew ≤ 100000)
theorem sTimesOk (k : Nat) (a : Timpl_Times) : Fspec_TimesOk k a = some (tOk a) := by
  unfold Fspec_TimesOk tOk
  simp only [Bool.cond_decide]
  repeat' split
  all_goals
    refine congrArg some (Bool.eq_iff_iff.mpr ?_)
    simp only [decide_eq_true_eq, Bool.false_eq_true, false_iff]
    omega
theorem iTimesOk (k : Nat) (a : Timpl_Times) : Fimpl_TimesOk k a = some (tOk a) := sTimesOk k a
def isIn (x a b : Int) : Bool := decide (a ≤ x ∧ x ≤ b)
theorem sIn (k : Nat) (x a b : Int) : Fspec_l1In k x a b = some (isIn x a b) := by
  unfold Fspec_l1In isIn
  simp only [Bool.cond_decide]
  split
  all_goals
    refine congrArg some (Bool.eq_iff_iff.mpr ?_)
    simp only [decide_eq_true_eq, Bool.false_eq_true, false_iff]
    omega
theorem iIn (k : Nat) (x a b : Int) : Fimpl_within k x a b = some (isIn x a b) := sIn k x a b
theorem lawExactLives (a : Tlaws_Times) (n s : Int) (w : wfTlaws_Times a) (wn : wfI n) (ws : wfI s) : ∃ k, Flaws_FnExactLives k a n s = some true := by
  refine ⟨0, ?_⟩
  simp only [Flaws_FnExactLives, Flaws_toTimes, Fspec_Lives, Fimpl_Lives, sTimesOk, iTimesOk, sIn, iIn, Option.bind_some]
  generalize tOk _ = t
  cases t
  · simp
  · simp only [cond_true]
    by_cases h : isIn s 0 100 = true
    · rw [h]
      simp only [cond_true, isIn, Bool.cond_decide]
      split
      · simp only [Option.bind_some]
        rename_i h1
        simp [h1]
      · rename_i h1
        simp [h1]
    · have h : isIn s 0 100 = false := by simpa using h
      rw [h]
      simp
end Go.Proofs.Ytflcaebmammlfaa.M
