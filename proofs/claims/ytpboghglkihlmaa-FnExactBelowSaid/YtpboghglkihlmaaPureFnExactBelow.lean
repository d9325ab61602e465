/- The program's Below and the reference's give the same answer. Conditions: none (every two ints). -/
import Derived.Test.YtpboghglkihlmaaPFnExactBelowx1
namespace Go.Proofs.Ytpboghglkihlmaa.Pure
open Go.RowKit Go.Proofs.Ytpboghglkihlmaa.PFnExactBelow Go.Proofs.YtpboghglkihlmaaW.PrintWords Go.Proofs.YtpboghglkihlmaaW.PrintLast

theorem below0 : ((List.range 16).all fun x => (List.range 256).all fun y =>
    laws_FnExactBelow.f 12 ((x + 0 : Nat) : Int) (y : Int) == some true) = true := by decide +kernel
theorem below1 : ((List.range 16).all fun x => (List.range 256).all fun y =>
    laws_FnExactBelow.f 12 ((x + 16 : Nat) : Int) (y : Int) == some true) = true := by decide +kernel
theorem below2 : ((List.range 16).all fun x => (List.range 256).all fun y =>
    laws_FnExactBelow.f 12 ((x + 32 : Nat) : Int) (y : Int) == some true) = true := by decide +kernel
theorem below3 : ((List.range 16).all fun x => (List.range 256).all fun y =>
    laws_FnExactBelow.f 12 ((x + 48 : Nat) : Int) (y : Int) == some true) = true := by decide +kernel
theorem below4 : ((List.range 16).all fun x => (List.range 256).all fun y =>
    laws_FnExactBelow.f 12 ((x + 64 : Nat) : Int) (y : Int) == some true) = true := by decide +kernel
theorem below5 : ((List.range 16).all fun x => (List.range 256).all fun y =>
    laws_FnExactBelow.f 12 ((x + 80 : Nat) : Int) (y : Int) == some true) = true := by decide +kernel
theorem below6 : ((List.range 16).all fun x => (List.range 256).all fun y =>
    laws_FnExactBelow.f 12 ((x + 96 : Nat) : Int) (y : Int) == some true) = true := by decide +kernel
theorem below7 : ((List.range 16).all fun x => (List.range 256).all fun y =>
    laws_FnExactBelow.f 12 ((x + 112 : Nat) : Int) (y : Int) == some true) = true := by decide +kernel
theorem below8 : ((List.range 16).all fun x => (List.range 256).all fun y =>
    laws_FnExactBelow.f 12 ((x + 128 : Nat) : Int) (y : Int) == some true) = true := by decide +kernel
theorem below9 : ((List.range 16).all fun x => (List.range 256).all fun y =>
    laws_FnExactBelow.f 12 ((x + 144 : Nat) : Int) (y : Int) == some true) = true := by decide +kernel
theorem below10 : ((List.range 16).all fun x => (List.range 256).all fun y =>
    laws_FnExactBelow.f 12 ((x + 160 : Nat) : Int) (y : Int) == some true) = true := by decide +kernel
theorem below11 : ((List.range 16).all fun x => (List.range 256).all fun y =>
    laws_FnExactBelow.f 12 ((x + 176 : Nat) : Int) (y : Int) == some true) = true := by decide +kernel
theorem below12 : ((List.range 16).all fun x => (List.range 256).all fun y =>
    laws_FnExactBelow.f 12 ((x + 192 : Nat) : Int) (y : Int) == some true) = true := by decide +kernel
theorem below13 : ((List.range 16).all fun x => (List.range 256).all fun y =>
    laws_FnExactBelow.f 12 ((x + 208 : Nat) : Int) (y : Int) == some true) = true := by decide +kernel
theorem below14 : ((List.range 16).all fun x => (List.range 256).all fun y =>
    laws_FnExactBelow.f 12 ((x + 224 : Nat) : Int) (y : Int) == some true) = true := by decide +kernel
theorem below15 : ((List.range 16).all fun x => (List.range 256).all fun y =>
    laws_FnExactBelow.f 12 ((x + 240 : Nat) : Int) (y : Int) == some true) = true := by decide +kernel

theorem belowTable (x y : Nat) (hx : x < 256) (hy : y < 256) : laws_FnExactBelow.f 12 (x : Int) (y : Int) = some true := by
  have key : ∀ m : Nat, ((List.range 16).all fun x => (List.range 256).all fun y =>
      laws_FnExactBelow.f 12 ((x + m : Nat) : Int) (y : Int) == some true) = true → m ≤ x → x < m + 16 →
      laws_FnExactBelow.f 12 (x : Int) (y : Int) = some true := by
    intro m h h1 h2
    rw [List.all_eq_true] at h
    have h3 := h (x - m) (by rw [List.mem_range]; omega)
    rw [List.all_eq_true] at h3
    have h4 := h3 y (by rw [List.mem_range]; omega)
    rw [show x - m + m = x by omega] at h4
    exact eq_of_beq h4
  by_cases h0 : x < 16
  · exact key 0 below0 (by omega) (by omega)
  by_cases h1 : x < 32
  · exact key 16 below1 (by omega) (by omega)
  by_cases h2 : x < 48
  · exact key 32 below2 (by omega) (by omega)
  by_cases h3 : x < 64
  · exact key 48 below3 (by omega) (by omega)
  by_cases h4 : x < 80
  · exact key 64 below4 (by omega) (by omega)
  by_cases h5 : x < 96
  · exact key 80 below5 (by omega) (by omega)
  by_cases h6 : x < 112
  · exact key 96 below6 (by omega) (by omega)
  by_cases h7 : x < 128
  · exact key 112 below7 (by omega) (by omega)
  by_cases h8 : x < 144
  · exact key 128 below8 (by omega) (by omega)
  by_cases h9 : x < 160
  · exact key 144 below9 (by omega) (by omega)
  by_cases h10 : x < 176
  · exact key 160 below10 (by omega) (by omega)
  by_cases h11 : x < 192
  · exact key 176 below11 (by omega) (by omega)
  by_cases h12 : x < 208
  · exact key 192 below12 (by omega) (by omega)
  by_cases h13 : x < 224
  · exact key 208 below13 (by omega) (by omega)
  by_cases h14 : x < 240
  · exact key 224 below14 (by omega) (by omega)
  by_cases h15 : x < 256
  · exact key 240 below15 (by omega) (by omega)
  omega

theorem flS (a : Int) : spec_FlagsOk.f a = some (decide (0 ≤ a ∧ a ≤ 255)) := by
  simp only [spec_FlagsOk.f, spec_l1In.f]
  by_cases h : a ≥ 0 <;> simp [h]

theorem flI (a : Int) : impl_FlagsOk.f a = some (decide (0 ≤ a ∧ a ≤ 255)) := by
  simp only [impl_FlagsOk.f, impl_within.f]
  by_cases h : a ≥ 0 <;> simp [h]

theorem FnExactBelow : laws_FnExactBelow.Pure := by
  intro a0 a1 _ _
  refine ⟨12, ?_⟩
  by_cases h0 : 0 ≤ a0 ∧ a0 ≤ 255
  · by_cases h1 : 0 ≤ a1 ∧ a1 ≤ 255
    · have h3 := belowTable a0.toNat a1.toNat (by omega) (by omega)
      rw [Int.toNat_of_nonneg h0.1, Int.toNat_of_nonneg h1.1] at h3
      exact h3
    · simp [laws_FnExactBelow.f, spec_Below.f, impl_Below.f, flS, flI, h0, h1, spec_Below.j0]
  · simp [laws_FnExactBelow.f, spec_Below.f, impl_Below.f, flS, flI, h0, spec_Below.j0]

end Go.Proofs.Ytpboghglkihlmaa.Pure
