/- Times that are renewed, or lie within a parent's, never outlive it. Conditions: none. -/
import Derived.Test.YtflcaebmammlfaaFTimes
namespace Go.Proofs.Ytflcaebmammlfaa.M
open Go Go.MG
set_option linter.unusedVariables false
set_option linter.unusedSimpArgs false
theorem wid {n : Int} (h1 : -9223372036854775808 ≤ n) (h2 : n ≤ 9223372036854775807) : IntKind.i64.wrap n = n := by
  rw [IntKind.wrap_i64]; omega
theorem atN {α : Type} {xs : List α} {i : Nat} {b : α} (h : xs[i]? = some b) : at? xs (i : Int) = some b := by
  simp [at?, h]
theorem atLt {α : Type} {xs : List α} {i : Nat} (h : i < xs.length) : ∃ b, xs[i]? = some b := ⟨xs[i], List.getElem?_eq_getElem h⟩
/-- A loop over a list, by an invariant. -/
theorem loopInv {α S R : Type} {xs : List α} {L : Nat → S → Int → Option R} {I : Nat → S → Prop} {Q : R → Prop} {n0 : Nat}
    (h : ∀ k s (i : Nat) b, n0 ≤ k → xs[i]? = some b → i < xs.length → I i s → (∃ s', L (k + 1) s (i : Int) = L k s' ((i + 1 : Nat) : Int) ∧ I (i + 1) s') ∨ ∃ r, L (k + 1) s (i : Int) = some r ∧ Q r)
    (he : ∀ k s, n0 ≤ k → I xs.length s → ∃ r, L (k + 1) s (xs.length : Int) = some r ∧ Q r) :
    ∀ (m i k : Nat) (s : S), i + m = xs.length → n0 + m + 1 ≤ k → I i s → ∃ r, L k s (i : Int) = some r ∧ Q r := by
  intro m
  induction m with
  | zero =>
    intro i k s hi hk hI
    obtain ⟨k, rfl⟩ : ∃ j, k = j + 1 := ⟨k - 1, by omega⟩
    have : i = xs.length := by omega
    subst this
    exact he k s (by omega) hI
  | succ m ih =>
    intro i k s hi hk hI
    obtain ⟨k, rfl⟩ : ∃ j, k = j + 1 := ⟨k - 1, by omega⟩
    obtain ⟨b, hb⟩ := atLt (xs := xs) (i := i) (by omega)
    rcases h k s i b (by omega) hb (by omega) hI with ⟨s', h1, h2⟩ | h1
    · rw [h1]
      exact ih (i + 1) k s' (by omega) (by omega) h2
    · exact h1
theorem loop0 {α S R : Type} {xs : List α} {L : Nat → S → Int → Option R} {I : Nat → S → Prop} {Q : R → Prop} (n0 : Nat) {k : Nat} {s : S}
    (hk : n0 + xs.length + 1 ≤ k) (h0 : I 0 s)
    (h : ∀ k s (i : Nat) b, n0 ≤ k → xs[i]? = some b → i < xs.length → I i s → (∃ s', L (k + 1) s (i : Int) = L k s' ((i + 1 : Nat) : Int) ∧ I (i + 1) s') ∨ ∃ r, L (k + 1) s (i : Int) = some r ∧ Q r)
    (he : ∀ k s, n0 ≤ k → I xs.length s → ∃ r, L (k + 1) s (xs.length : Int) = some r ∧ Q r) : ∃ r, L k s 0 = some r ∧ Q r :=
  loopInv h he xs.length 0 k s (by omega) (by omega) h0
theorem wid1 {i : Nat} (h : i ≤ 4611686018427387904) : IntKind.i64.wrap ((i : Int) + 1) = ((i + 1 : Nat) : Int) := by
  rw [wid (by omega) (by omega)]; omega
theorem ltD {i n : Nat} (h : i < n) : decide ((i : Int) < (n : Int)) = true := by simp; omega
theorem ltD0 {n : Nat} : decide ((n : Int) < (n : Int)) = false := by simp
theorem take_succ_get {α : Type} {xs : List α} {i : Nat} {b : α} (h : xs[i]? = some b) : xs.take (i + 1) = xs.take i ++ [b] := by
  rw [List.take_add_one, h]; rfl
/-- What a copy has become after some rounds. -/
theorem set_copy {α : Type} {xs : List α} {z b : α} {i : Nat} (h : xs[i]? = some b) : (xs.take i ++ List.replicate (xs.length - i) z).set i b = xs.take (i + 1) ++ List.replicate (xs.length - (i + 1)) z := by
  have hi := (List.getElem?_eq_some_iff.1 h).1
  rw [take_succ_get h, List.set_append_right _ _ (by simp; omega)]
  have e : xs.length - i = (xs.length - (i + 1)) + 1 := by omega
  rw [e, List.replicate_succ]
  have e2 : i - (xs.take i).length = 0 := by simp; omega
  rw [e2]
  simp
theorem get_copy {α : Type} {xs : List α} {z : α} {i : Nat} (h : i < xs.length) : (xs.take i ++ List.replicate (xs.length - i) z)[i]? = some z := by
  rw [List.getElem?_append_right (by simp; omega)]
  have : i - (xs.take i).length = 0 := by simp; omega
  rw [this, List.getElem?_replicate]
  simp; omega
def isIn (x a b : Int) : Bool := decide (a ≤ x ∧ x ≤ b)
theorem sIn (k : Nat) (x a b : Int) : Fspec_l1In k x a b = some (isIn x a b) := by
  unfold Fspec_l1In isIn
  simp only [Bool.cond_decide]
  split
  all_goals
    refine congrArg some (Bool.eq_iff_iff.mpr ?_)
    simp only [decide_eq_true_eq, Bool.false_eq_true, false_iff]
    omega
theorem iIn (k : Nat) (x a b : Int) : Fimpl_within k x a b = some (isIn x a b) := sIn k x a b
def tOk (a : Timpl_Times) : Bool := decide (0 ≤ a.Auth ∧ a.Auth ≤ a.Start ∧ a.Start ≤ a.End ∧ a.End ≤ a.Renew ∧ a.Renew ≤ 100000)
theorem sTimesOk (k : Nat) (a : Timpl_Times) : Fspec_TimesOk k a = some (tOk a) := by
  unfold Fspec_TimesOk tOk
  simp only [Bool.cond_decide]
  repeat' split
  all_goals
    refine congrArg some (Bool.eq_iff_iff.mpr ?_)
    simp only [decide_eq_true_eq, Bool.false_eq_true, false_iff]
    omega
theorem iTimesOk (k : Nat) (a : Timpl_Times) : Fimpl_TimesOk k a = some (tOk a) := sTimesOk k a
theorem and255 (x : Int) : 0 ≤ Go.bits .and .i64 x 255 ∧ Go.bits .and .i64 x 255 ≤ 255 := by
  have h : (BitVec.ofInt 64 x &&& BitVec.ofInt 64 255).toNat ≤ 255 := by
    rw [BitVec.toNat_and]; exact Nat.and_le_right
  show 0 ≤ IntKind.i64.wrap ((BitVec.ofInt 64 x &&& BitVec.ofInt 64 255).toNat : Int) ∧ IntKind.i64.wrap ((BitVec.ofInt 64 x &&& BitVec.ofInt 64 255).toNat : Int) ≤ 255
  rw [wid (by omega) (by omega)]; omega
/-- A cursor stands within its text. -/
def Good (c : Tspec_l1Cur) : Prop := 0 ≤ c.i ∧ c.b.length ≤ 1048576
theorem byteT (k : Nat) (c : Tspec_l1Cur) (h : Good c) : ∃ v c', Fspec_l1Byte k c = some (v, c') ∧ 0 ≤ v ∧ v ≤ 255 ∧ Good c' := by
  obtain ⟨b, i, hh⟩ := c
  obtain ⟨h1, h2⟩ := h
  simp only at h1 h2
  unfold Fspec_l1Byte
  simp only
  by_cases hl : i < (b.length : Int)
  · rw [decide_eq_true hl]
    obtain ⟨n, rfl⟩ : ∃ n : Nat, i = n := ⟨i.toNat, by omega⟩
    obtain ⟨x, hx⟩ := atLt (xs := b) (i := n) (by omega)
    rw [atN hx]
    refine ⟨_, _, rfl, (and255 _).1, (and255 _).2, ?_, h2⟩
    show 0 ≤ IntKind.i64.wrap ((n : Int) + 1)
    rw [wid1 (by omega)]; omega
  · rw [decide_eq_false hl]
    exact ⟨_, _, rfl, (and255 _).1, (and255 _).2, h1, h2⟩
theorem tmodIn {v n : Int} (h : 0 ≤ v) (hn : 0 < n) : 0 ≤ Int.tmod v n ∧ Int.tmod v n < n := ⟨Int.tmod_nonneg n h, Int.tmod_lt_of_pos v hn⟩
theorem belowT (k : Nat) (n : Int) (c : Tspec_l1Cur) (hn : 0 < n) (h : Good c) : ∃ v c', Fspec_l1Below k n c = some (v, c') ∧ 0 ≤ v ∧ v < n ∧ Good c' := by
  unfold Fspec_l1Below
  rw [decide_eq_false (by omega)]
  have hz : (!(n == 0)) = true := by simp; omega
  simp only [cond_false, hz, cond_true]
  by_cases hb : n ≤ 256
  · rw [decide_eq_true hb]
    obtain ⟨v, c', h1, h2, h3, h4⟩ := byteT k c h
    rw [h1]
    exact ⟨_, _, rfl, (tmodIn h2 hn).1, (tmodIn h2 hn).2, h4⟩
  · rw [decide_eq_false hb]
    obtain ⟨v1, c1, e1, a1, b1, g1⟩ := byteT k c h
    obtain ⟨v2, c2, e2, a2, b2, g2⟩ := byteT k c1 g1
    obtain ⟨v3, c3, e3, a3, b3, g3⟩ := byteT k c2 g2
    obtain ⟨v4, c4, e4, a4, b4, g4⟩ := byteT k c3 g3
    simp only [e1, e2, e3, e4, cond_false, Option.bind_some]
    have hs : 0 ≤ IntKind.i64.wrap ((IntKind.i64.wrap ((IntKind.i64.wrap ((IntKind.i64.wrap (v1 * (16777216 : Int))) + (IntKind.i64.wrap (v2 * (65536 : Int))))) + (IntKind.i64.wrap (v3 * (256 : Int))))) + v4) := by
      rw [wid (n := v1 * 16777216) (by omega) (by omega), wid (n := v2 * 65536) (by omega) (by omega), wid (n := v3 * 256) (by omega) (by omega)]
      rw [wid (n := v1 * 16777216 + v2 * 65536) (by omega) (by omega), wid (n := v1 * 16777216 + v2 * 65536 + v3 * 256) (by omega) (by omega), wid (by omega) (by omega)]
      omega
    exact ⟨_, _, rfl, (tmodIn hs hn).1, (tmodIn hs hn).2, g4⟩
theorem onceT (k : Nat) (n : Int) (c : Tspec_l1Cur) (hn : 0 < n) (h : Good c) : ∃ v c', Fspec_l1Once k n c = some (v, c') ∧ Good c' := by
  obtain ⟨v, c', h1, _, _, h4⟩ := belowT k n c hn h
  unfold Fspec_l1Once
  rw [h1]
  exact ⟨_, _, rfl, h4⟩
theorem newT (k : Nat) (a : List UInt8) (hk : 4002 ≤ k) (ha : a.length ≤ 1048576) : ∃ c, Fspec_l1New k a = some c ∧ Good c := by
  have go : ∀ m (i k : Nat) (h : Int), i + m = 4000 → m + 1 ≤ k → ∃ c, Fspec_l1New.l3 k a h (i : Int) = some c ∧ Good c := by
    intro m
    induction m with
    | zero =>
      intro i k h hi hk
      obtain ⟨k, rfl⟩ : ∃ j, k = j + 1 := ⟨k - 1, by omega⟩
      simp only [Fspec_l1New.l3, Fspec_l1New.j2]
      rw [decide_eq_false (p := (i : Int) < 4000) (by omega)]
      cases decide ((i : Int) < (a.length : Int)) <;> exact ⟨_, rfl, by simp, ha⟩
    | succ m ih =>
      intro i k h hi hk
      obtain ⟨k, rfl⟩ : ∃ j, k = j + 1 := ⟨k - 1, by omega⟩
      simp only [Fspec_l1New.l3, Fspec_l1New.j2]
      by_cases hl : i < a.length
      · obtain ⟨x, hx⟩ := atLt (xs := a) (i := i) hl
        rw [ltD hl, decide_eq_true (p := (i : Int) < 4000) (by omega), atN hx, wid1 (by omega)]
        exact ih (i + 1) k _ (by omega) (by omega)
      · rw [decide_eq_false (p := (i : Int) < (a.length : Int)) (by omega)]
        exact ⟨_, rfl, by simp, ha⟩
  exact go 4000 0 k _ (by omega) (by omega)
theorem pickT (k : Nat) (l : List Int) (c : Tspec_l1Cur) (hn : 0 < l.length) (h : Good c) : ∃ v c', Fspec_l1PickInt k l c = some (v, c') ∧ v ∈ l ∧ Good c' := by
  obtain ⟨v, c', h1, h2, h3, h4⟩ := belowT k (l.length : Int) c (by omega) h
  obtain ⟨n, rfl⟩ : ∃ n : Nat, v = n := ⟨v.toNat, by omega⟩
  obtain ⟨x, hx⟩ := atLt (xs := l) (i := n) (by omega)
  unfold Fspec_l1PickInt
  rw [h1, Option.bind_some, atN hx]
  exact ⟨_, _, rfl, List.mem_of_getElem? hx, h4⟩
theorem bigT (k : Nat) (a : List UInt8) : Flaws_big k a = some (decide (1048576 < a.length)) := by
  unfold Flaws_big
  congr 1
  exact decide_eq_decide.2 (by omega)
theorem atT (k : Nat) (a : List UInt8) (i : Nat) (ha : a.length ≤ 1048576) (hi : i ≤ 1048576) : ∃ n : Nat, n < 256 ∧ Flaws_at k a (i : Int) = some (n : Int) := by
  unfold Flaws_at
  by_cases hl : i < a.length
  · obtain ⟨x, hx⟩ := atLt (xs := a) (i := i) hl
    rw [ltD hl, atN hx]
    exact ⟨x.toNat, x.toNat_lt, rfl⟩
  · rw [decide_eq_false (by omega), wid (n := (i : Int) * 37) (by omega) (by omega), wid (n := (a.length : Int) * 11) (by omega) (by omega), wid (by omega) (by omega)]
    have := tmodIn (v := (i : Int) * 37 + (a.length : Int) * 11) (n := 256) (by omega) (by omega)
    exact ⟨(Int.tmod ((i : Int) * 37 + (a.length : Int) * 11) 256).toNat, by omega, congrArg some (by omega)⟩
theorem timesT (k : Nat) (c : Tspec_l1Cur) (h : Good c) : ∃ t c', Fspec_l16Times k c = some (t, c') ∧ Good c' := by
  unfold Fspec_l16Times
  obtain ⟨v1, c1, e1, _, _, g1⟩ := belowT k 20 c (by omega) h
  obtain ⟨v2, c2, e2, _, _, g2⟩ := belowT k 10 c1 (by omega) g1
  obtain ⟨v3, c3, e3, _, _, g3⟩ := belowT k 30 c2 (by omega) g2
  obtain ⟨v4, c4, e4, _, _, g4⟩ := belowT k 50 c3 (by omega) g3
  obtain ⟨v5, c5, e5, g5⟩ := onceT k 10 c4 (by omega) g4
  obtain ⟨v6, c6, e6, _, _, g6⟩ := belowT k 4 c5 (by omega) g5
  obtain ⟨v7, c7, e7, _, g7⟩ := pickT k [-1, 90] c6 (by decide) g6
  obtain ⟨v8, c8, e8, _, _, g8⟩ := belowT k 60 c6 (by omega) g6
  obtain ⟨v9, c9, e9, _, g9⟩ := pickT k [100000, 100001, 0] c6 (by decide) g6
  simp only [e1, e2, e3, e4, e5, e6, e7, e8, e9, Option.bind_some]
  cases v5
  · exact ⟨_, _, rfl, g5⟩
  · cases v6 == 0
    · cases v6 == 1
      · cases v6 == 2
        · exact ⟨_, _, rfl, g9⟩
        · exact ⟨_, _, rfl, g8⟩
      · exact ⟨_, _, rfl, g8⟩
    · exact ⟨_, _, rfl, g7⟩
theorem drawRenT (k : Nat) (a : List UInt8) (hk : 4002 ≤ k) (ha : a.length ≤ 1048576) : ∃ v, Fspec_DrawRenewed k a = some v := by
  unfold Fspec_DrawRenewed
  obtain ⟨c, e, g⟩ := newT k a hk ha
  obtain ⟨v1, c1, e1, g1⟩ := timesT k c g
  obtain ⟨v2, c2, e2, _, _, g2⟩ := belowT k 70 c1 (by omega) g1
  obtain ⟨v3, c3, e3, _, g3⟩ := pickT k [1, 5, 20, 200, 0, -1, 9223372036854775807] c2 (by decide) g2
  simp only [e, e1, e2, e3, Option.bind_some]
  exact ⟨_, rfl⟩
theorem drawInT (k : Nat) (a : List UInt8) (hk : 4002 ≤ k) (ha : a.length ≤ 1048576) : ∃ v, Fspec_DrawInside k a = some v := by
  unfold Fspec_DrawInside
  obtain ⟨c, e, g⟩ := newT k a hk ha
  obtain ⟨v1, c1, e1, g1⟩ := timesT k c g
  obtain ⟨v2, c2, e2, g2⟩ := timesT k c1 g1
  simp only [e, e1, e2, Option.bind_some]
  exact ⟨_, rfl⟩
theorem drawLivT (k : Nat) (a : List UInt8) (hk : 4002 ≤ k) (ha : a.length ≤ 1048576) : ∃ v, Fspec_DrawLives k a = some v := by
  unfold Fspec_DrawLives
  obtain ⟨c, e, g⟩ := newT k a hk ha
  obtain ⟨v1, c1, e1, g1⟩ := timesT k c g
  obtain ⟨v2, c2, e2, _, _, g2⟩ := belowT k 90 c1 (by omega) g1
  obtain ⟨v3, c3, e3, _, g3⟩ := pickT k [0, 1, 5, 100, 101, -1] c2 (by decide) g2
  simp only [e, e1, e2, e3, Option.bind_some]
  exact ⟨_, rfl⟩
theorem renT (k : Nat) (a : Timpl_Times) (n l : Int) : ∃ r, Fimpl_Renewed k a n l = some r ∧ Fspec_Renewed k a n l = some r ∧
    ((tOk a = true ∧ isIn n a.Start a.End = true ∧ 1 ≤ l ∧ ∃ e, n ≤ e ∧ e ≤ a.Renew ∧ r = (⟨a.Auth, n, e, a.Renew⟩, true)) ∨ (¬ (tOk a = true ∧ isIn n a.Start a.End = true ∧ 1 ≤ l) ∧ r = (⟨0, 0, 0, 0⟩, false))) := by
  unfold Fimpl_Renewed Fspec_Renewed
  simp only [sTimesOk, iTimesOk, sIn, iIn, Option.bind_some]
  cases h1 : tOk a
  · exact ⟨_, rfl, rfl, .inr ⟨fun h => Bool.false_ne_true h.1, rfl⟩⟩
  cases h2 : isIn n a.Start a.End
  · exact ⟨_, rfl, rfl, .inr ⟨fun h => Bool.false_ne_true h.2.1, rfl⟩⟩
  simp only [Bool.not_true, cond_false]
  by_cases h3 : l < 1
  · rw [decide_eq_true h3]
    exact ⟨_, rfl, rfl, .inr ⟨fun h => absurd h.2.2 (by omega), rfl⟩⟩
  rw [decide_eq_false h3]
  have h1' := h1
  have h2' := h2
  simp only [tOk, isIn, decide_eq_true_eq] at h1' h2'
  simp only [Fimpl_Renewed.j2, Fspec_Renewed.j2, Fimpl_Renewed.j3, Fspec_Renewed.j3, cond_false]
  have e1 : IntKind.i64.wrap (a.Renew - n) = a.Renew - n := wid (by omega) (by omega)
  rw [e1]
  by_cases h : l < a.Renew - n
  · have e2 : IntKind.i64.wrap (n + l) = n + l := wid (by omega) (by omega)
    rw [decide_eq_true h, decide_eq_true (by omega), e2]
    exact ⟨_, rfl, rfl, .inl ⟨trivial, trivial, by omega, n + l, by omega, by omega, rfl⟩⟩
  · rw [decide_eq_false h]
    by_cases h' : l ≤ a.Renew - n
    · have e2 : IntKind.i64.wrap (n + l) = a.Renew := by rw [wid (by omega) (by omega)]; omega
      rw [decide_eq_true h', e2]
      exact ⟨_, rfl, rfl, .inl ⟨trivial, trivial, by omega, a.Renew, by omega, by omega, rfl⟩⟩
    · rw [decide_eq_false h']
      exact ⟨_, rfl, rfl, .inl ⟨trivial, trivial, by omega, a.Renew, by omega, by omega, rfl⟩⟩
theorem least (k : Nat) (a b : Int) : Fspec_l16Least k a b = some (if b < a then b else a) := by
  simp only [Fspec_l16Least, Bool.cond_decide]
  split <;> split <;> first | rfl | (congr 1; omega)
theorem sameInside (k : Nat) (a b : Timpl_Times) : Fimpl_Inside k a b = Fspec_Inside k a b := by
  have key : ∀ t, Fimpl_Inside.j2 k t a.Auth a.Start a.End a.Renew b.Auth b.Start b.End b.Renew = Fspec_Inside.j2 k t a.Auth a.Start a.End a.Renew b.Auth b.Start b.End b.Renew := by
    intro t
    simp only [Fimpl_Inside.j2, Fspec_Inside.j2, Fspec_Inside.j3, least, iTimesOk, sTimesOk, Option.bind_some]
    cases t
    · simp only [cond_false, Bool.cond_decide]
      by_cases h : b.Start > a.Start
      · simp only [h, if_true]
      · simp only [h, if_false]
    · rfl
  unfold Fimpl_Inside Fspec_Inside
  simp only [sTimesOk, iTimesOk, Option.bind_some, key]
theorem insT (k : Nat) (a b : Timpl_Times) : ∃ r, Fimpl_Inside k a b = some r ∧ Fspec_Inside k a b = some r ∧ (r.2 = true → tOk r.1 = true ∧ r.1.End ≤ a.End ∧ r.1.End ≤ b.End ∧ r.1.Renew ≤ a.Renew ∧ a.Start ≤ r.1.Start) := by
  have key : ∀ t, ∃ r, Fimpl_Inside.j2 k t a.Auth a.Start a.End a.Renew b.Auth b.Start b.End b.Renew = some r ∧ (r.2 = true → tOk r.1 = true ∧ r.1.End ≤ a.End ∧ r.1.End ≤ b.End ∧ r.1.Renew ≤ a.Renew ∧ a.Start ≤ r.1.Start) := by
    intro t
    simp only [Fimpl_Inside.j2, iTimesOk, Option.bind_some]
    cases t
    · simp only [cond_false]
      cases ht : tOk ⟨a.Auth, (if b.Start > a.Start then b.Start else a.Start), (if b.End < a.End then b.End else a.End), (if b.Renew < a.Renew then b.Renew else a.Renew)⟩
      · exact ⟨_, rfl, fun h => absurd h Bool.false_ne_true⟩
      · refine ⟨_, rfl, fun _ => ⟨ht, ?_, ?_, ?_, ?_⟩⟩ <;> dsimp only <;> split <;> omega
    · exact ⟨_, rfl, fun h => absurd h Bool.false_ne_true⟩
  have hI : ∃ r, Fimpl_Inside k a b = some r ∧ (r.2 = true → tOk r.1 = true ∧ r.1.End ≤ a.End ∧ r.1.End ≤ b.End ∧ r.1.Renew ≤ a.Renew ∧ a.Start ≤ r.1.Start) := by
    unfold Fimpl_Inside
    simp only [iTimesOk, Option.bind_some]
    cases tOk a
    · exact key true
    · exact key (!(tOk b))
  obtain ⟨r, h1, h2⟩ := hI
  exact ⟨r, h1, by rw [← sameInside]; exact h1, h2⟩
def livB (a : Timpl_Times) (n s : Int) : Bool := tOk a && (isIn s 0 100 && isIn n (IntKind.i64.wrap (a.Start - s)) (IntKind.i64.wrap (a.End + s)))
theorem iLives (k : Nat) (a : Timpl_Times) (n s : Int) : Fimpl_Lives k a n s = some (livB a n s) := by
  unfold Fimpl_Lives livB
  simp only [iTimesOk, iIn, Option.bind_some]
  cases tOk a <;> cases isIn s 0 100 <;> rfl
theorem sLives (k : Nat) (a : Timpl_Times) (n s : Int) : Fspec_Lives k a n s = some (livB a n s) := by
  unfold Fspec_Lives livB
  have h := sIn k n (IntKind.i64.wrap (a.Start - s)) (IntKind.i64.wrap (a.End + s))
  unfold Fspec_l1In at h
  simp only [sTimesOk, sIn, Option.bind_some, h]
  cases tOk a <;> cases isIn s 0 100 <;> rfl
theorem liv7 (a : Timpl_Times) (n : Int) (h : livB a n 0 = true) : livB a n 7 = true := by
  unfold livB at h ⊢
  simp only [Bool.and_eq_true] at h ⊢
  obtain ⟨h1, _, h3⟩ := h
  have h1' := h1
  simp only [tOk, decide_eq_true_eq] at h1'
  simp only [isIn, decide_eq_true_eq] at h3
  rw [wid (by omega) (by omega), wid (by omega) (by omega)] at h3
  refine ⟨h1, rfl, ?_⟩
  rw [wid (by omega) (by omega), wid (by omega) (by omega)]
  exact decide_eq_true (by omega)
theorem lastT (k : Nat) (a : List UInt8) (hk : 4002 ≤ k) (ha : a.length ≤ 1048576) : Flaws_FnTimes.j4 k a = some true := by
  unfold Flaws_FnTimes.j4
  obtain ⟨v, hv⟩ := drawLivT k a hk ha
  simp only [hv, Option.bind_some, iLives, sLives, beq_self_eq_true, cond_true]
  cases h : livB v.1 v.2.1 0
  · rfl
  · rw [liv7 _ _ h]; rfl
theorem againT (a : List UInt8) (ha : a.length ≤ 1048576) : ∀ (m i k : Nat) (t1 t2 t3 t4 : Int), i + m = 30 → 4002 + m + 1 ≤ k → Flaws_FnTimes.l5 k a (i : Int) t1 t2 t3 t4 = some true := by
  intro m
  induction m with
  | zero =>
    intro i k t1 t2 t3 t4 hi hk
    obtain ⟨k, rfl⟩ : ∃ j, k = j + 1 := ⟨k - 1, by omega⟩
    simp only [Flaws_FnTimes.l5]
    rw [decide_eq_false (by omega)]
    exact lastT k a (by omega) ha
  | succ m ih =>
    intro i k t1 t2 t3 t4 hi hk
    obtain ⟨k, rfl⟩ : ∃ j, k = j + 1 := ⟨k - 1, by omega⟩
    simp only [Flaws_FnTimes.l5]
    rw [decide_eq_true (by omega), sTimesOk]
    simp only [cond_true, Option.bind_some]
    cases ht : tOk ⟨t1, t2, t3, t4⟩
    · exact lastT k a (by omega) ha
    obtain ⟨x, hx, ex⟩ := atT k a i ha (by omega)
    have hm := tmodIn (v := (x : Int)) (n := 9) (by omega) (by omega)
    simp only [cond_true, ex, Option.bind_some]
    rw [wid (n := 1 + Int.tmod (x : Int) 9) (by omega) (by omega), wid1 (by omega)]
    have ht' := ht
    simp only [tOk, decide_eq_true_eq] at ht'
    obtain ⟨r, r1, _, r3⟩ := renT k ⟨t1, t2, t3, t4⟩ t3 (1 + Int.tmod (x : Int) 9)
    rw [r1, Option.bind_some]
    rcases r3 with ⟨_, _, _, e, e1, e2, rfl⟩ | ⟨hn, _⟩
    · simp only at e2
      simp only [Bool.not_true, cond_false]
      rw [decide_eq_false (by omega), decide_eq_false (by omega)]
      exact ih (i + 1) k _ _ _ _ (by omega) (by omega)
    · exact absurd ⟨ht, decide_eq_true (by simp only; omega), by omega⟩ hn
theorem midT (k : Nat) (a : List UInt8) (t1 t2 t3 t4 : Int) (hk : 4100 ≤ k) (ha : a.length ≤ 1048576) : Flaws_FnTimes.j1 k a t1 t2 t3 t4 = some true := by
  have j2 : Flaws_FnTimes.j2 k a t1 t2 t3 t4 = some true := againT a ha 30 0 k t1 t2 t3 t4 rfl (by omega)
  unfold Flaws_FnTimes.j1
  obtain ⟨v, hv⟩ := drawInT k a (by omega) ha
  obtain ⟨r, r1, r2, r3⟩ := insT k v.1 v.2
  simp only [hv, Option.bind_some, r1, r2, bne_self_eq_false, beq_self_eq_true, cond_false, Bool.and_true, Bool.not_true, j2]
  cases h : r.2
  · rfl
  · obtain ⟨f1, f2, f3, f4, f5⟩ := r3 h
    rw [decide_eq_false (by omega), decide_eq_false (by omega), decide_eq_false (by omega), decide_eq_false (by omega), sTimesOk, f1]
    rfl
theorem lawTimes (a : List UInt8) {W : Prop} (w : W) : ∃ k, Flaws_FnTimes k a = some true := by
  refine ⟨5000, ?_⟩
  generalize hK : 5000 = K
  unfold Flaws_FnTimes
  rw [bigT, Option.bind_some]
  by_cases h : 1048576 < a.length
  · rw [decide_eq_true h]; rfl
  rw [decide_eq_false h]
  obtain ⟨v, hv⟩ := drawRenT K a (by omega) (by omega)
  obtain ⟨r, r1, r2, r3⟩ := renT K v.1 v.2.1 v.2.2
  have m := midT K a v.1.Auth v.1.Start v.1.End v.1.Renew (by omega) (by omega)
  simp only [cond_false, hv, Option.bind_some, r1, r2, bne_self_eq_false, beq_self_eq_true, Bool.and_true, Bool.not_true, m]
  rcases r3 with ⟨t1, t2, _, e, e1, e2, rfl⟩ | ⟨_, rfl⟩
  · have ht : tOk ⟨v.1.Auth, v.2.1, e, v.1.Renew⟩ = true := by
      simp only [tOk, isIn, decide_eq_true_eq] at t1 t2 ⊢
      omega
    simp only [sTimesOk, ht, Option.bind_some, cond_true, Bool.not_true, cond_false, bne_self_eq_false]
    rw [decide_eq_false (by omega)]
    rfl
  · rfl
end Go.Proofs.Ytflcaebmammlfaa.M
