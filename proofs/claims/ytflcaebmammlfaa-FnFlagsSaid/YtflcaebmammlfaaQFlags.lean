/- What Derive makes of drawn flags is right, and right is what Below tells of it. Conditions: none. -/
import Derived.Test.YtflcaebmammlfaaFFlags
namespace Go.Proofs.Ytflcaebmammlfaa.M
open Go Go.MG
set_option linter.unusedVariables false
set_option linter.unusedSimpArgs false
theorem wid {n : Int} (h1 : -9223372036854775808 ≤ n) (h2 : n ≤ 9223372036854775807) : IntKind.i64.wrap n = n := by
  rw [IntKind.wrap_i64]; omega
theorem atN {α : Type} {xs : List α} {i : Nat} {b : α} (h : xs[i]? = some b) : at? xs (i : Int) = some b := by
  simp [at?, h]
theorem atLt {α : Type} {xs : List α} {i : Nat} (h : i < xs.length) : ∃ b, xs[i]? = some b := ⟨xs[i], List.getElem?_eq_getElem h⟩
/-- A loop over a list, by an invariant. -/
theorem loopInv {α S R : Type} {xs : List α} {L : Nat → S → Int → Option R} {I : Nat → S → Prop} {Q : R → Prop} {n0 : Nat}
    (h : ∀ k s (i : Nat) b, n0 ≤ k → xs[i]? = some b → i < xs.length → I i s → (∃ s', L (k + 1) s (i : Int) = L k s' ((i + 1 : Nat) : Int) ∧ I (i + 1) s') ∨ ∃ r, L (k + 1) s (i : Int) = some r ∧ Q r)
    (he : ∀ k s, n0 ≤ k → I xs.length s → ∃ r, L (k + 1) s (xs.length : Int) = some r ∧ Q r) :
    ∀ (m i k : Nat) (s : S), i + m = xs.length → n0 + m + 1 ≤ k → I i s → ∃ r, L k s (i : Int) = some r ∧ Q r := by
  intro m
  induction m with
  | zero =>
    intro i k s hi hk hI
    obtain ⟨k, rfl⟩ : ∃ j, k = j + 1 := ⟨k - 1, by omega⟩
    have : i = xs.length := by omega
    subst this
    exact he k s (by omega) hI
  | succ m ih =>
    intro i k s hi hk hI
    obtain ⟨k, rfl⟩ : ∃ j, k = j + 1 := ⟨k - 1, by omega⟩
    obtain ⟨b, hb⟩ := atLt (xs := xs) (i := i) (by omega)
    rcases h k s i b (by omega) hb (by omega) hI with ⟨s', h1, h2⟩ | h1
    · rw [h1]
      exact ih (i + 1) k s' (by omega) (by omega) h2
    · exact h1
theorem loop0 {α S R : Type} {xs : List α} {L : Nat → S → Int → Option R} {I : Nat → S → Prop} {Q : R → Prop} (n0 : Nat) {k : Nat} {s : S}
    (hk : n0 + xs.length + 1 ≤ k) (h0 : I 0 s)
    (h : ∀ k s (i : Nat) b, n0 ≤ k → xs[i]? = some b → i < xs.length → I i s → (∃ s', L (k + 1) s (i : Int) = L k s' ((i + 1 : Nat) : Int) ∧ I (i + 1) s') ∨ ∃ r, L (k + 1) s (i : Int) = some r ∧ Q r)
    (he : ∀ k s, n0 ≤ k → I xs.length s → ∃ r, L (k + 1) s (xs.length : Int) = some r ∧ Q r) : ∃ r, L k s 0 = some r ∧ Q r :=
  loopInv h he xs.length 0 k s (by omega) (by omega) h0
theorem wid1 {i : Nat} (h : i ≤ 4611686018427387904) : IntKind.i64.wrap ((i : Int) + 1) = ((i + 1 : Nat) : Int) := by
  rw [wid (by omega) (by omega)]; omega
theorem ltD {i n : Nat} (h : i < n) : decide ((i : Int) < (n : Int)) = true := by simp; omega
theorem ltD0 {n : Nat} : decide ((n : Int) < (n : Int)) = false := by simp
theorem take_succ_get {α : Type} {xs : List α} {i : Nat} {b : α} (h : xs[i]? = some b) : xs.take (i + 1) = xs.take i ++ [b] := by
  rw [List.take_add_one, h]; rfl
/-- What a copy has become after some rounds. -/
theorem set_copy {α : Type} {xs : List α} {z b : α} {i : Nat} (h : xs[i]? = some b) : (xs.take i ++ List.replicate (xs.length - i) z).set i b = xs.take (i + 1) ++ List.replicate (xs.length - (i + 1)) z := by
  have hi := (List.getElem?_eq_some_iff.1 h).1
  rw [take_succ_get h, List.set_append_right _ _ (by simp; omega)]
  have e : xs.length - i = (xs.length - (i + 1)) + 1 := by omega
  rw [e, List.replicate_succ]
  have e2 : i - (xs.take i).length = 0 := by simp; omega
  rw [e2]
  simp
theorem get_copy {α : Type} {xs : List α} {z : α} {i : Nat} (h : i < xs.length) : (xs.take i ++ List.replicate (xs.length - i) z)[i]? = some z := by
  rw [List.getElem?_append_right (by simp; omega)]
  have : i - (xs.take i).length = 0 := by simp; omega
  rw [this, List.getElem?_replicate]
  simp; omega
theorem and255 (x : Int) : 0 ≤ Go.bits .and .i64 x 255 ∧ Go.bits .and .i64 x 255 ≤ 255 := by
  have h : (BitVec.ofInt 64 x &&& BitVec.ofInt 64 255).toNat ≤ 255 := by
    rw [BitVec.toNat_and]; exact Nat.and_le_right
  show 0 ≤ IntKind.i64.wrap ((BitVec.ofInt 64 x &&& BitVec.ofInt 64 255).toNat : Int) ∧ IntKind.i64.wrap ((BitVec.ofInt 64 x &&& BitVec.ofInt 64 255).toNat : Int) ≤ 255
  rw [wid (by omega) (by omega)]; omega
/-- A cursor stands within its text. -/
def Good (c : Tspec_l1Cur) : Prop := 0 ≤ c.i ∧ c.b.length ≤ 1048576
theorem byteT (k : Nat) (c : Tspec_l1Cur) (h : Good c) : ∃ v c', Fspec_l1Byte k c = some (v, c') ∧ 0 ≤ v ∧ v ≤ 255 ∧ Good c' := by
  obtain ⟨b, i, hh⟩ := c
  obtain ⟨h1, h2⟩ := h
  simp only at h1 h2
  unfold Fspec_l1Byte
  simp only
  by_cases hl : i < (b.length : Int)
  · rw [decide_eq_true hl]
    obtain ⟨n, rfl⟩ : ∃ n : Nat, i = n := ⟨i.toNat, by omega⟩
    obtain ⟨x, hx⟩ := atLt (xs := b) (i := n) (by omega)
    rw [atN hx]
    refine ⟨_, _, rfl, (and255 _).1, (and255 _).2, ?_, h2⟩
    show 0 ≤ IntKind.i64.wrap ((n : Int) + 1)
    rw [wid1 (by omega)]; omega
  · rw [decide_eq_false hl]
    exact ⟨_, _, rfl, (and255 _).1, (and255 _).2, h1, h2⟩
theorem tmodIn {v n : Int} (h : 0 ≤ v) (hn : 0 < n) : 0 ≤ Int.tmod v n ∧ Int.tmod v n < n := ⟨Int.tmod_nonneg n h, Int.tmod_lt_of_pos v hn⟩
theorem belowT (k : Nat) (n : Int) (c : Tspec_l1Cur) (hn : 0 < n) (h : Good c) : ∃ v c', Fspec_l1Below k n c = some (v, c') ∧ 0 ≤ v ∧ v < n ∧ Good c' := by
  unfold Fspec_l1Below
  rw [decide_eq_false (by omega)]
  have hz : (!(n == 0)) = true := by simp; omega
  simp only [cond_false, hz, cond_true]
  by_cases hb : n ≤ 256
  · rw [decide_eq_true hb]
    obtain ⟨v, c', h1, h2, h3, h4⟩ := byteT k c h
    rw [h1]
    exact ⟨_, _, rfl, (tmodIn h2 hn).1, (tmodIn h2 hn).2, h4⟩
  · rw [decide_eq_false hb]
    obtain ⟨v1, c1, e1, a1, b1, g1⟩ := byteT k c h
    obtain ⟨v2, c2, e2, a2, b2, g2⟩ := byteT k c1 g1
    obtain ⟨v3, c3, e3, a3, b3, g3⟩ := byteT k c2 g2
    obtain ⟨v4, c4, e4, a4, b4, g4⟩ := byteT k c3 g3
    simp only [e1, e2, e3, e4, cond_false, Option.bind_some]
    have hs : 0 ≤ IntKind.i64.wrap ((IntKind.i64.wrap ((IntKind.i64.wrap ((IntKind.i64.wrap (v1 * (16777216 : Int))) + (IntKind.i64.wrap (v2 * (65536 : Int))))) + (IntKind.i64.wrap (v3 * (256 : Int))))) + v4) := by
      rw [wid (n := v1 * 16777216) (by omega) (by omega), wid (n := v2 * 65536) (by omega) (by omega), wid (n := v3 * 256) (by omega) (by omega)]
      rw [wid (n := v1 * 16777216 + v2 * 65536) (by omega) (by omega), wid (n := v1 * 16777216 + v2 * 65536 + v3 * 256) (by omega) (by omega), wid (by omega) (by omega)]
      omega
    exact ⟨_, _, rfl, (tmodIn hs hn).1, (tmodIn hs hn).2, g4⟩
theorem onceT (k : Nat) (n : Int) (c : Tspec_l1Cur) (hn : 0 < n) (h : Good c) : ∃ v c', Fspec_l1Once k n c = some (v, c') ∧ Good c' := by
  obtain ⟨v, c', h1, _, _, h4⟩ := belowT k n c hn h
  unfold Fspec_l1Once
  rw [h1]
  exact ⟨_, _, rfl, h4⟩
theorem newT (k : Nat) (a : List UInt8) (hk : 4002 ≤ k) (ha : a.length ≤ 1048576) : ∃ c, Fspec_l1New k a = some c ∧ Good c := by
  have go : ∀ m (i k : Nat) (h : Int), i + m = 4000 → m + 1 ≤ k → ∃ c, Fspec_l1New.l3 k a h (i : Int) = some c ∧ Good c := by
    intro m
    induction m with
    | zero =>
      intro i k h hi hk
      obtain ⟨k, rfl⟩ : ∃ j, k = j + 1 := ⟨k - 1, by omega⟩
      simp only [Fspec_l1New.l3, Fspec_l1New.j2]
      rw [decide_eq_false (p := (i : Int) < 4000) (by omega)]
      cases decide ((i : Int) < (a.length : Int)) <;> exact ⟨_, rfl, by simp, ha⟩
    | succ m ih =>
      intro i k h hi hk
      obtain ⟨k, rfl⟩ : ∃ j, k = j + 1 := ⟨k - 1, by omega⟩
      simp only [Fspec_l1New.l3, Fspec_l1New.j2]
      by_cases hl : i < a.length
      · obtain ⟨x, hx⟩ := atLt (xs := a) (i := i) hl
        rw [ltD hl, decide_eq_true (p := (i : Int) < 4000) (by omega), atN hx, wid1 (by omega)]
        exact ih (i + 1) k _ (by omega) (by omega)
      · rw [decide_eq_false (p := (i : Int) < (a.length : Int)) (by omega)]
        exact ⟨_, rfl, by simp, ha⟩
  exact go 4000 0 k _ (by omega) (by omega)
theorem pickT (k : Nat) (l : List Int) (c : Tspec_l1Cur) (hn : 0 < l.length) (h : Good c) : ∃ v c', Fspec_l1PickInt k l c = some (v, c') ∧ v ∈ l ∧ Good c' := by
  obtain ⟨v, c', h1, h2, h3, h4⟩ := belowT k (l.length : Int) c (by omega) h
  obtain ⟨n, rfl⟩ : ∃ n : Nat, v = n := ⟨v.toNat, by omega⟩
  obtain ⟨x, hx⟩ := atLt (xs := l) (i := n) (by omega)
  unfold Fspec_l1PickInt
  rw [h1, Option.bind_some, atN hx]
  exact ⟨_, _, rfl, List.mem_of_getElem? hx, h4⟩
theorem bigT (k : Nat) (a : List UInt8) : Flaws_big k a = some (decide (1048576 < a.length)) := by
  unfold Flaws_big
  congr 1
  exact decide_eq_decide.2 (by omega)
theorem flagsT (k : Nat) (c : Tspec_l1Cur) (h : Good c) : ∃ v c', Fspec_l15Flags k c = some (v, c') ∧ Good c' := by
  unfold Fspec_l15Flags
  obtain ⟨v1, c1, e1, g1⟩ := onceT k 15 c (by omega) h
  rw [e1, Option.bind_some]
  cases v1
  · obtain ⟨v2, c2, e2, _, _, g2⟩ := belowT k 256 c1 (by omega) g1
    simp only [cond_false, e2, Option.bind_some]
    exact ⟨_, _, rfl, g2⟩
  · obtain ⟨v2, c2, e2, _, g2⟩ := pickT k [-1, 256, 1000] c1 (by decide) g1
    simp only [cond_true, e2, Option.bind_some]
    exact ⟨_, _, rfl, g2⟩
theorem deriveT (k : Nat) (a : List UInt8) (hk : 4002 ≤ k) (ha : a.length ≤ 1048576) : ∃ v, Fspec_DrawDerive k a = some v := by
  unfold Fspec_DrawDerive
  obtain ⟨c, e, g⟩ := newT k a hk ha
  obtain ⟨v1, c1, e1, g1⟩ := flagsT k c g
  obtain ⟨v2, c2, e2, _, _, g2⟩ := belowT k 8 c1 (by omega) g1
  obtain ⟨v3, c3, e3, g3⟩ := onceT k 2 c2 (by omega) g2
  simp only [e, e1, e2, e3, Option.bind_some]
  have j2 : ∀ x y, ∃ v, Fspec_DrawDerive.j2 k x y c3.b c3.i c3.h = some v := by
    intro x y
    unfold Fspec_DrawDerive.j2
    obtain ⟨v4, c4, e4, g4⟩ := onceT k 8 c3 (by omega) g3
    obtain ⟨v5, c5, e5, g5⟩ := flagsT k c4 g4
    obtain ⟨v6, c6, e6, _, _, g6⟩ := belowT k 16 c4 (by omega) g4
    rw [show (⟨c3.b, c3.i, c3.h⟩ : Tspec_l1Cur) = c3 from rfl]
    simp only [e4, e5, e6, Option.bind_some]
    cases v4 <;> exact ⟨_, rfl⟩
  have j3 : ∀ x y b, ∃ v, Fspec_DrawDerive.j3 k x y b c3.b c3.i c3.h = some v := by
    intro x y b
    unfold Fspec_DrawDerive.j3
    cases b
    · exact j2 _ _
    · exact j2 _ _
  cases v3
  · exact j3 v1 v2 false
  · exact j3 v1 v2 (decide (v1 ≥ 0))
def flagsLaw (k : Nat) (x z y : Int) : Option Bool := (Fimpl_Derive k x z y).bind fun r4 => (Fspec_Derive k x z y).bind fun r5 => cond (r4.2 != r5.2) (some false) (cond (r4.1 != r5.1) (some false) (cond (!r4.2) (some (r4.1 == (0 : Int))) ((Fimpl_Derive k r4.1 (2 : Int) (15 : Int)).bind fun r6 => cond r6.2 ((Fimpl_Below k r6.1 x).bind fun r16 => cond (!r16) (some false) (cond ((Int.tmod (IntKind.i64.wrap (Int.tdiv r6.1 (64 : Int))) (2 : Int)) != (1 : Int)) (some false) (Flaws_FnFlags.j1 k x r4.1))) (Flaws_FnFlags.j1 k x r4.1))))
theorem flagsTable : ((List.range 256).all fun x => (List.range 7).all fun z => (List.range 16).all fun y =>
    flagsLaw 4100 (x : Int) (z : Int) (y : Int) == some true) = true := by decide +kernel
theorem highTable : ((List.range 240).all fun y =>
    (Go.bits .andNot .i64 ((y + 16 : Nat) : Int) 15) != 0) = true := by decide +kernel
theorem flS (k : Nat) (a : Int) : Fspec_FlagsOk k a = some (decide (0 ≤ a ∧ a ≤ 255)) := by
  simp only [Fspec_FlagsOk, Fspec_l1In]
  by_cases h : a ≥ 0 <;> simp [h]
theorem flI (k : Nat) (a : Int) : Fimpl_FlagsOk k a = some (decide (0 ≤ a ∧ a ≤ 255)) := by
  simp only [Fimpl_FlagsOk, Fimpl_within]
  by_cases h : a ≥ 0 <;> simp [h]
theorem kS (k : Nat) (a : Int) : Fspec_l1In k a 1 6 = some (decide (1 ≤ a ∧ a ≤ 6)) := by
  simp only [Fspec_l1In]
  by_cases h : a ≥ 1 <;> simp [h]
theorem kI (k : Nat) (a : Int) : Fimpl_within k a 1 6 = some (decide (1 ≤ a ∧ a ≤ 6)) := by
  simp only [Fimpl_within]
  by_cases h : a ≥ 1 <;> simp [h]
theorem flagsAll (a0 a1 a2 : Int) : flagsLaw 4100 a0 a1 a2 = some true := by
  by_cases h0 : 0 ≤ a0 ∧ a0 ≤ 255
  · by_cases h1 : 1 ≤ a1 ∧ a1 ≤ 6
    · by_cases h2 : 0 ≤ a2 ∧ a2 ≤ 255
      · by_cases h3 : a2 < 16
        · have h := flagsTable
          rw [List.all_eq_true] at h
          have h4 := h a0.toNat (by rw [List.mem_range]; omega)
          rw [List.all_eq_true] at h4
          have h5 := h4 a1.toNat (by rw [List.mem_range]; omega)
          rw [List.all_eq_true] at h5
          have h6 := h5 a2.toNat (by rw [List.mem_range]; omega)
          rw [Int.toNat_of_nonneg h0.1, Int.toNat_of_nonneg h2.1, Int.toNat_of_nonneg (by omega : 0 ≤ a1)] at h6
          exact eq_of_beq h6
        · have h := highTable
          rw [List.all_eq_true] at h
          have h4 := h (a2.toNat - 16) (by rw [List.mem_range]; omega)
          rw [show ((a2.toNat - 16 + 16 : Nat) : Int) = a2 by omega] at h4
          have h5 : a2 ≥ 16 := by omega
          simp [flagsLaw, Fspec_Derive, Fimpl_Derive, flS, flI, kS, kI, h0, h1, h2, h4, h5]
      · simp [flagsLaw, Fspec_Derive, Fimpl_Derive, flS, flI, kS, kI, h0, h1, h2]
    · by_cases h2 : 0 ≤ a2 ∧ a2 ≤ 255 <;>
      simp [flagsLaw, Fspec_Derive, Fimpl_Derive, flS, flI, kS, kI, h0, h1, h2]
  · simp [flagsLaw, Fspec_Derive, Fimpl_Derive, flS, flI, kS, kI, h0]
theorem lawFlags (a : List UInt8) {W : Prop} (w : W) : ∃ k, Flaws_FnFlags k a = some true := by
  refine ⟨4100, ?_⟩
  unfold Flaws_FnFlags
  rw [bigT, Option.bind_some]
  by_cases h : 1048576 < a.length
  · rw [decide_eq_true h]; rfl
  · rw [decide_eq_false h]
    obtain ⟨v, hv⟩ := deriveT 4100 a (by omega) (by omega)
    rw [hv]
    exact flagsAll v.1 v.2.1 v.2.2
end Go.Proofs.Ytflcaebmammlfaa.M
