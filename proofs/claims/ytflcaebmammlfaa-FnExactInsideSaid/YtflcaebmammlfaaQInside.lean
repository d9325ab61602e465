/- The program's Inside and the reference's tell the same. Conditions: none. -/
import Derived.Test.YtflcaebmammlfaaFInside
namespace Go.Proofs.Ytflcaebmammlfaa.M
open Go Go.MG
set_option linter.unusedVariables false
set_option linter.unusedSimpArgs false
theorem wid {n : Int} (h1 : -9223372036854775808 ≤ n) (h2 : n ≤ 9223372036854775807) : IntKind.i64.wrap n = n := by
  rw [IntKind.wrap_i64]; omega
def tOk (a : Timpl_Times) : Bool := decide (0 ≤ a.Auth ∧ a.Auth ≤ a.Start ∧ a.Start ≤ a.End ∧ a.End ≤ a.Renew ∧ a.Renew ≤ 100000)
theorem sTimesOk (k : Nat) (a : Timpl_Times) : Fspec_TimesOk k a = some (tOk a) := by
  unfold Fspec_TimesOk tOk
  simp only [Bool.cond_decide]
  repeat' split
  all_goals
    refine congrArg some (Bool.eq_iff_iff.mpr ?_)
    simp only [decide_eq_true_eq, Bool.false_eq_true, false_iff]
    omega
theorem iTimesOk (k : Nat) (a : Timpl_Times) : Fimpl_TimesOk k a = some (tOk a) := sTimesOk k a
theorem eqT (k : Nat) (a : Timpl_Times) : Flaws_eqTimes k a a = some true := by
  simp [Flaws_eqTimes]
theorem least (k : Nat) (a b : Int) : Fspec_l16Least k a b = some (if b < a then b else a) := by
  simp only [Fspec_l16Least, Bool.cond_decide]
  split <;> split <;> first | rfl | (congr 1; omega)
theorem sameInside (k : Nat) (a b : Timpl_Times) : Fimpl_Inside k a b = Fspec_Inside k a b := by
  have key : ∀ t, Fimpl_Inside.j2 k t a.Auth a.Start a.End a.Renew b.Auth b.Start b.End b.Renew = Fspec_Inside.j2 k t a.Auth a.Start a.End a.Renew b.Auth b.Start b.End b.Renew := by
    intro t
    simp only [Fimpl_Inside.j2, Fspec_Inside.j2, Fspec_Inside.j3, least, iTimesOk, sTimesOk, Option.bind_some]
    cases t
    · simp only [cond_false, Bool.cond_decide]
      by_cases h : b.Start > a.Start
      · simp only [h, if_true]
      · simp only [h, if_false]
    · rfl
  unfold Fimpl_Inside Fspec_Inside
  simp only [sTimesOk, iTimesOk, Option.bind_some, key]
theorem totInside (k : Nat) (a b : Timpl_Times) : ∃ r, Fspec_Inside k a b = some r := by
  unfold Fspec_Inside
  simp only [Fspec_Inside.j2, Fspec_Inside.j3, least, sTimesOk, Option.bind_some]
  generalize tOk a = t
  generalize tOk b = u
  have h : ∀ (c : Bool) (x y : Option (Timpl_Times × Bool)), (∃ r, x = some r) → (∃ r, y = some r) → ∃ r, cond c x y = some r := by
    intro c x y hx hy; cases c; exact hy; exact hx
  refine h _ _ _ (h _ _ _ ⟨_, rfl⟩ ?_) (h _ _ _ ⟨_, rfl⟩ ?_) <;> exact h _ _ _ (h _ _ _ ⟨_, rfl⟩ ⟨_, rfl⟩) (h _ _ _ ⟨_, rfl⟩ ⟨_, rfl⟩)
theorem lawExactInside (a b : Tlaws_Times) (w : wfTlaws_Times a) (w' : wfTlaws_Times b) : ∃ k, Flaws_FnExactInside k a b = some true := by
  refine ⟨0, ?_⟩
  simp only [Flaws_FnExactInside, Flaws_toTimes, Option.bind_some]
  rw [sameInside]
  obtain ⟨r, hr⟩ := totInside 0 ⟨a.Auth, a.Start, a.End, a.Renew⟩ ⟨b.Auth, b.Start, b.End, b.Renew⟩
  rw [hr]
  simp [eqT]
end Go.Proofs.Ytflcaebmammlfaa.M
