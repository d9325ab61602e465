/- The program's Derive and the reference's give the same answer. Conditions: none (every three ints). -/
import Derived.Test.YtpboghglkihlmaaPFnExactDerivex3
namespace Go.Proofs.Ytpboghglkihlmaa.Pure
open Go.RowKit Go.Proofs.Ytpboghglkihlmaa.PFnExactDerive Go.Proofs.YtpboghglkihlmaaW.PrintWords Go.Proofs.YtpboghglkihlmaaW.PrintLast

theorem deriveTable : ((List.range 256).all fun x => (List.range 7).all fun z => (List.range 16).all fun y =>
    laws_FnExactDerive.f 16 (x : Int) (z : Int) (y : Int) == some true) = true := by decide +kernel

theorem highTable : ((List.range 240).all fun y =>
    (Go.bits .andNot .i64 ((y + 16 : Nat) : Int) 15) != 0) = true := by decide +kernel

theorem flS (a : Int) : spec_FlagsOk.f a = some (decide (0 ≤ a ∧ a ≤ 255)) := by
  simp only [spec_FlagsOk.f, spec_l1In.f]
  by_cases h : a ≥ 0 <;> simp [h]

theorem flI (a : Int) : impl_FlagsOk.f a = some (decide (0 ≤ a ∧ a ≤ 255)) := by
  simp only [impl_FlagsOk.f, impl_within.f]
  by_cases h : a ≥ 0 <;> simp [h]

theorem kS (a : Int) : spec_l1In.f a 1 6 = some (decide (1 ≤ a ∧ a ≤ 6)) := by
  simp only [spec_l1In.f]
  by_cases h : a ≥ 1 <;> simp [h]

theorem kI (a : Int) : impl_within.f a 1 6 = some (decide (1 ≤ a ∧ a ≤ 6)) := by
  simp only [impl_within.f]
  by_cases h : a ≥ 1 <;> simp [h]

theorem FnExactDerive : laws_FnExactDerive.Pure := by
  intro a0 a1 a2 _ _ _
  refine ⟨16, ?_⟩
  by_cases h0 : 0 ≤ a0 ∧ a0 ≤ 255
  · by_cases h1 : 1 ≤ a1 ∧ a1 ≤ 6
    · by_cases h2 : 0 ≤ a2 ∧ a2 ≤ 255
      · by_cases h3 : a2 < 16
        · have h := deriveTable
          rw [List.all_eq_true] at h
          have h4 := h a0.toNat (by rw [List.mem_range]; omega)
          rw [List.all_eq_true] at h4
          have h5 := h4 a1.toNat (by rw [List.mem_range]; omega)
          rw [List.all_eq_true] at h5
          have h6 := h5 a2.toNat (by rw [List.mem_range]; omega)
          rw [Int.toNat_of_nonneg h0.1, Int.toNat_of_nonneg h2.1, Int.toNat_of_nonneg (by omega : 0 ≤ a1)] at h6
          exact eq_of_beq h6
        · have h := highTable
          rw [List.all_eq_true] at h
          have h4 := h (a2.toNat - 16) (by rw [List.mem_range]; omega)
          rw [show ((a2.toNat - 16 + 16 : Nat) : Int) = a2 by omega] at h4
          have h5 : a2 ≥ 16 := by omega
          simp [laws_FnExactDerive.f, spec_Derive.f, impl_Derive.f, flS, flI, kS, kI, h0, h1, h2, h4, h5, spec_Derive.j0, impl_Derive.j0]
      · simp [laws_FnExactDerive.f, spec_Derive.f, impl_Derive.f, flS, flI, kS, kI, h0, h1, h2, spec_Derive.j0, impl_Derive.j0]
    · by_cases h2 : 0 ≤ a2 ∧ a2 ≤ 255 <;>
      simp [laws_FnExactDerive.f, spec_Derive.f, impl_Derive.f, flS, flI, kS, kI, h0, h1, h2, spec_Derive.j0, impl_Derive.j0]
  · simp [laws_FnExactDerive.f, spec_Derive.f, impl_Derive.f, flS, flI, kS, kI, h0, spec_Derive.j0, impl_Derive.j0]

end Go.Proofs.Ytpboghglkihlmaa.Pure
