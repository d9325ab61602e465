import Derived.Test.YtpboghglkihlmaaFShow
namespace Go.Proofs.Ytpboghglkihlmaa.M
open Go Go.MG
theorem showTable : ((List.range 256).all fun x => Flaws_FnExactShowFlags 30 (x : Int) == some true) = true := by decide +kernel
theorem flS (k : Nat) (a : Int) : Fspec_FlagsOk k a = some (decide (0 ≤ a ∧ a ≤ 255)) := by
  simp only [Fspec_FlagsOk, Fspec_l1In]
  by_cases h : a ≥ 0 <;> simp [h]
theorem flI (k : Nat) (a : Int) : Fimpl_FlagsOk k a = some (decide (0 ≤ a ∧ a ≤ 255)) := by
  simp only [Fimpl_FlagsOk, Fimpl_within]
  by_cases h : a ≥ 0 <;> simp [h]
theorem showLaw (a : Int) : Flaws_FnExactShowFlags 30 a = some true := by
  by_cases h0 : 0 ≤ a ∧ a ≤ 255
  · have h := showTable
    rw [List.all_eq_true] at h
    have h2 := h a.toNat (by rw [List.mem_range]; omega)
    rw [Int.toNat_of_nonneg h0.1] at h2
    exact eq_of_beq h2
  · simp [Flaws_FnExactShowFlags, Fspec_ShowFlags, Fimpl_ShowFlags, flS, flI, h0]
end Go.Proofs.Ytpboghglkihlmaa.M
