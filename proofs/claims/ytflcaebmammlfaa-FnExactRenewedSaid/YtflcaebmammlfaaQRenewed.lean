/- The program's Renewed and the reference's tell the same. Conditions: none. -/
import Derived.Test.YtflcaebmammlfaaFRenewed
namespace Go.Proofs.Ytflcaebmammlfaa.M
open Go Go.MG
set_option linter.unusedVariables false
set_option linter.unusedSimpArgs false
theorem wid {n : Int} (h1 : -9223372036854775808 ≤ n) (h2 : n ≤ 9223372036854775807) : IntKind.i64.wrap n = n := by
  rw [IntKind.wrap_i64]; omega
def tOk (a : Timpl_Times) : Bool := decide (0 ≤ a.Auth ∧ a.Auth ≤ a.Start ∧ a.Start ≤ a.End ∧ a.End ≤ a.Renew ∧ a.Renew ≤ 100000)
theorem sTimesOk (k : Nat) (a : Timpl_Times) : Fspec_TimesOk k a = some (tOk a) := by
  unfold Fspec_TimesOk tOk
  simp only [Bool.cond_decide]
  repeat' split
  all_goals
    refine congrArg some (Bool.eq_iff_iff.mpr ?_)
    simp only [decide_eq_true_eq, Bool.false_eq_true, false_iff]
    omega
theorem iTimesOk (k : Nat) (a : Timpl_Times) : Fimpl_TimesOk k a = some (tOk a) := sTimesOk k a
def isIn (x a b : Int) : Bool := decide (a ≤ x ∧ x ≤ b)
theorem sIn (k : Nat) (x a b : Int) : Fspec_l1In k x a b = some (isIn x a b) := by
  unfold Fspec_l1In isIn
  simp only [Bool.cond_decide]
  split
  all_goals
    refine congrArg some (Bool.eq_iff_iff.mpr ?_)
    simp only [decide_eq_true_eq, Bool.false_eq_true, false_iff]
    omega
theorem iIn (k : Nat) (x a b : Int) : Fimpl_within k x a b = some (isIn x a b) := sIn k x a b
theorem eqT (k : Nat) (a : Timpl_Times) : Flaws_eqTimes k a a = some true := by
  simp [Flaws_eqTimes]
theorem sameRenewed (k : Nat) (a : Timpl_Times) (n l : Int) (hl : wfI l) (hn : wfI n) : Fimpl_Renewed k a n l = Fspec_Renewed k a n l := by
  have key : ∀ b, (b = false → tOk a = true ∧ isIn n a.Start a.End = true ∧ l ≥ 1) → Fimpl_Renewed.j2 k n l b a.Auth a.Start a.End a.Renew = Fspec_Renewed.j2 k n l b a.Auth a.Start a.End a.Renew := by
    intro b hb
    cases b
    · obtain ⟨h1, h2, h3⟩ := hb rfl
      simp only [tOk, isIn, decide_eq_true_eq] at h1 h2
      simp only [Fimpl_Renewed.j2, Fspec_Renewed.j2, Fimpl_Renewed.j3, Fspec_Renewed.j3, cond_false]
      have e1 : IntKind.i64.wrap (a.Renew - n) = a.Renew - n := wid (by omega) (by omega)
      rw [e1]
      simp only [Bool.cond_decide]
      by_cases h : l < a.Renew - n
      · rw [if_pos h, if_pos (by omega)]
      · rw [if_neg h]
        by_cases h' : l ≤ a.Renew - n
        · rw [if_pos h']
          have e2 : IntKind.i64.wrap (n + l) = a.Renew := by rw [wid (by omega) (by omega)]; omega
          rw [e2]
        · rw [if_neg h']
    · rfl
  unfold Fimpl_Renewed Fspec_Renewed
  simp only [sTimesOk, iTimesOk, sIn, iIn, Option.bind_some]
  cases h1 : tOk a
  · simp only [Bool.not_false, cond_true]; exact key true (fun h => by cases h)
  · simp only [Bool.not_true, cond_false]
    cases h2 : isIn n a.Start a.End
    · simp only [Bool.not_false, cond_true]; exact key true (fun h => by cases h)
    · simp only [Bool.not_true, cond_false]
      refine key _ (fun h => ⟨h1, h2, ?_⟩)
      simp at h
      omega
theorem totRenewed (k : Nat) (a : Timpl_Times) (n l : Int) : ∃ r, Fspec_Renewed k a n l = some r := by
  unfold Fspec_Renewed
  simp only [sTimesOk, sIn, Option.bind_some, Fspec_Renewed.j2, Fspec_Renewed.j3]
  generalize tOk a = t
  generalize isIn n a.Start a.End = u
  generalize (decide (l < 1)) = v
  generalize (decide (l ≤ IntKind.i64.wrap (a.Renew - n))) = x
  cases t <;> cases u <;> cases v <;> cases x <;> exact ⟨_, rfl⟩
theorem lawExactRenewed (a : Tlaws_Times) (n s : Int) (w : wfTlaws_Times a) (wn : wfI n) (ws : wfI s) : ∃ k, Flaws_FnExactRenewed k a n s = some true := by
  refine ⟨0, ?_⟩
  simp only [Flaws_FnExactRenewed, Flaws_toTimes, Option.bind_some]
  rw [sameRenewed _ _ _ _ ws wn]
  obtain ⟨r, hr⟩ := totRenewed 0 ⟨a.Auth, a.Start, a.End, a.Renew⟩ n s
  rw [hr]
  simp [eqT]
end Go.Proofs.Ytflcaebmammlfaa.M
