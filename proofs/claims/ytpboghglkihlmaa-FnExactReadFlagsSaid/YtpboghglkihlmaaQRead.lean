import Derived.Test.YtpboghglkihlmaaFRead
namespace Go.Proofs.Ytpboghglkihlmaa.M
open Go Go.MG
theorem showTable : ((List.range 256).all fun i =>
    match Fspec_ShowFlags (299 - i) (i : Int), Fimpl_ShowFlags (299 - i) (i : Int) with
    | some a, some b => a == b
    | _, _ => false) = true := by decide +kernel

theorem showBoth (i : Nat) (hi : i < 256) : ∃ b, Fspec_ShowFlags (299 - i) (i : Int) = some b ∧ Fimpl_ShowFlags (299 - i) (i : Int) = some b := by
  have h := showTable
  rw [List.all_eq_true] at h
  have h2 := h i (by rw [List.mem_range]; omega)
  cases h3 : Fspec_ShowFlags (299 - i) (i : Int) with
  | none => simp [h3] at h2
  | some a =>
    cases h4 : Fimpl_ShowFlags (299 - i) (i : Int) with
    | none => simp [h3, h4] at h2
    | some b => simp [h3, h4] at h2; exact ⟨a, rfl, by rw [h2]⟩

theorem readSame (s : List UInt8) : ∀ (n i : Nat), i + n = 256 →
    ∃ r, Fspec_ReadFlags.l2 (300 - i) s (i : Int) = some r ∧ Fimpl_ReadFlags.l2 (300 - i) s (i : Int) = some r
  | 0, i, h => by
    have : i = 256 := by omega
    subst this
    exact ⟨(0, false), by simp [Fspec_ReadFlags.l2], by simp [Fimpl_ReadFlags.l2]⟩
  | n + 1, i, h => by
    obtain ⟨b, h1, h2⟩ := showBoth i (by omega)
    have hw : IntKind.i64.wrap ((i : Int) + 1) = ((i + 1 : Nat) : Int) := by
      rw [IntKind.wrap_i64]; omega
    obtain ⟨r, r1, r2⟩ := readSame s n (i + 1) (by omega)
    have e1 : 300 - i = (299 - i) + 1 := by omega
    have e2 : 300 - (i + 1) = 299 - i := by omega
    rw [e2] at r1 r2
    have c1 : decide ((i : Int) ≤ 255) = true := decide_eq_true (by omega)
    have c2 : decide ((i : Int) < 256) = true := decide_eq_true (by omega)
    by_cases c : b = s
    · refine ⟨((i : Int), true), ?_, ?_⟩
      · rw [e1, Fspec_ReadFlags.l2]; simp only [c1, h1, c, cond_true, Option.bind_some, BEq.rfl]
      · rw [e1, Fimpl_ReadFlags.l2]; simp only [c2, h2, c, cond_true, Option.bind_some, BEq.rfl]
    · have cb : (b == s) = false := by simpa using c
      refine ⟨r, ?_, ?_⟩
      · rw [e1, Fspec_ReadFlags.l2]; simp only [c1, h1, cb, cond_true, cond_false, Option.bind_some, hw]; exact r1
      · rw [e1, Fimpl_ReadFlags.l2]; simp only [c2, h2, cb, cond_true, cond_false, Option.bind_some, hw]; exact r2

theorem readLaw (s : List UInt8) : Flaws_FnExactReadFlags 300 s = some true := by
  obtain ⟨r, h1, h2⟩ := readSame s 256 0 rfl
  have h1' : Fspec_ReadFlags 300 s = some r := h1
  have h2' : Fimpl_ReadFlags 300 s = some r := h2
  unfold Flaws_FnExactReadFlags
  rw [h1', h2']
  cases decide ((s.length : Int) > 1048576) <;> simp
end Go.Proofs.Ytpboghglkihlmaa.M
