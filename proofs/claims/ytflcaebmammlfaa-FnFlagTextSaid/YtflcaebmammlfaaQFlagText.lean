/- Flags are read from their letters, and unlike ones have unlike letters. Conditions: none. -/
import Derived.Test.YtflcaebmammlfaaFFlagText
namespace Go.Proofs.Ytflcaebmammlfaa.M
open Go Go.MG
set_option linter.unusedVariables false
set_option linter.unusedSimpArgs false
theorem wid {n : Int} (h1 : -9223372036854775808 ≤ n) (h2 : n ≤ 9223372036854775807) : IntKind.i64.wrap n = n := by
  rw [IntKind.wrap_i64]; omega
theorem atN {α : Type} {xs : List α} {i : Nat} {b : α} (h : xs[i]? = some b) : at? xs (i : Int) = some b := by
  simp [at?, h]
theorem atLt {α : Type} {xs : List α} {i : Nat} (h : i < xs.length) : ∃ b, xs[i]? = some b := ⟨xs[i], List.getElem?_eq_getElem h⟩
/-- A loop over a list, by an invariant. -/
theorem loopInv {α S R : Type} {xs : List α} {L : Nat → S → Int → Option R} {I : Nat → S → Prop} {Q : R → Prop} {n0 : Nat}
    (h : ∀ k s (i : Nat) b, n0 ≤ k → xs[i]? = some b → i < xs.length → I i s → (∃ s', L (k + 1) s (i : Int) = L k s' ((i + 1 : Nat) : Int) ∧ I (i + 1) s') ∨ ∃ r, L (k + 1) s (i : Int) = some r ∧ Q r)
    (he : ∀ k s, n0 ≤ k → I xs.length s → ∃ r, L (k + 1) s (xs.length : Int) = some r ∧ Q r) :
    ∀ (m i k : Nat) (s : S), i + m = xs.length → n0 + m + 1 ≤ k → I i s → ∃ r, L k s (i : Int) = some r ∧ Q r := by
  intro m
  induction m with
  | zero =>
    intro i k s hi hk hI
    obtain ⟨k, rfl⟩ : ∃ j, k = j + 1 := ⟨k - 1, by omega⟩
    have : i = xs.length := by omega
    subst this
    exact he k s (by omega) hI
  | succ m ih =>
    intro i k s hi hk hI
    obtain ⟨k, rfl⟩ : ∃ j, k = j + 1 := ⟨k - 1, by omega⟩
    obtain ⟨b, hb⟩ := atLt (xs := xs) (i := i) (by omega)
    rcases h k s i b (by omega) hb (by omega) hI with ⟨s', h1, h2⟩ | h1
    · rw [h1]
      exact ih (i + 1) k s' (by omega) (by omega) h2
    · exact h1
theorem loop0 {α S R : Type} {xs : List α} {L : Nat → S → Int → Option R} {I : Nat → S → Prop} {Q : R → Prop} (n0 : Nat) {k : Nat} {s : S}
    (hk : n0 + xs.length + 1 ≤ k) (h0 : I 0 s)
    (h : ∀ k s (i : Nat) b, n0 ≤ k → xs[i]? = some b → i < xs.length → I i s → (∃ s', L (k + 1) s (i : Int) = L k s' ((i + 1 : Nat) : Int) ∧ I (i + 1) s') ∨ ∃ r, L (k + 1) s (i : Int) = some r ∧ Q r)
    (he : ∀ k s, n0 ≤ k → I xs.length s → ∃ r, L (k + 1) s (xs.length : Int) = some r ∧ Q r) : ∃ r, L k s 0 = some r ∧ Q r :=
  loopInv h he xs.length 0 k s (by omega) (by omega) h0
theorem wid1 {i : Nat} (h : i ≤ 4611686018427387904) : IntKind.i64.wrap ((i : Int) + 1) = ((i + 1 : Nat) : Int) := by
  rw [wid (by omega) (by omega)]; omega
theorem ltD {i n : Nat} (h : i < n) : decide ((i : Int) < (n : Int)) = true := by simp; omega
theorem ltD0 {n : Nat} : decide ((n : Int) < (n : Int)) = false := by simp
theorem take_succ_get {α : Type} {xs : List α} {i : Nat} {b : α} (h : xs[i]? = some b) : xs.take (i + 1) = xs.take i ++ [b] := by
  rw [List.take_add_one, h]; rfl
/-- What a copy has become after some rounds. -/
theorem set_copy {α : Type} {xs : List α} {z b : α} {i : Nat} (h : xs[i]? = some b) : (xs.take i ++ List.replicate (xs.length - i) z).set i b = xs.take (i + 1) ++ List.replicate (xs.length - (i + 1)) z := by
  have hi := (List.getElem?_eq_some_iff.1 h).1
  rw [take_succ_get h, List.set_append_right _ _ (by simp; omega)]
  have e : xs.length - i = (xs.length - (i + 1)) + 1 := by omega
  rw [e, List.replicate_succ]
  have e2 : i - (xs.take i).length = 0 := by simp; omega
  rw [e2]
  simp
theorem get_copy {α : Type} {xs : List α} {z : α} {i : Nat} (h : i < xs.length) : (xs.take i ++ List.replicate (xs.length - i) z)[i]? = some z := by
  rw [List.getElem?_append_right (by simp; omega)]
  have : i - (xs.take i).length = 0 := by simp; omega
  rw [this, List.getElem?_replicate]
  simp; omega
theorem and255 (x : Int) : 0 ≤ Go.bits .and .i64 x 255 ∧ Go.bits .and .i64 x 255 ≤ 255 := by
  have h : (BitVec.ofInt 64 x &&& BitVec.ofInt 64 255).toNat ≤ 255 := by
    rw [BitVec.toNat_and]; exact Nat.and_le_right
  show 0 ≤ IntKind.i64.wrap ((BitVec.ofInt 64 x &&& BitVec.ofInt 64 255).toNat : Int) ∧ IntKind.i64.wrap ((BitVec.ofInt 64 x &&& BitVec.ofInt 64 255).toNat : Int) ≤ 255
  rw [wid (by omega) (by omega)]; omega
/-- A cursor stands within its text. -/
def Good (c : Tspec_l1Cur) : Prop := 0 ≤ c.i ∧ c.b.length ≤ 1048576
theorem byteT (k : Nat) (c : Tspec_l1Cur) (h : Good c) : ∃ v c', Fspec_l1Byte k c = some (v, c') ∧ 0 ≤ v ∧ v ≤ 255 ∧ Good c' := by
  obtain ⟨b, i, hh⟩ := c
  obtain ⟨h1, h2⟩ := h
  simp only at h1 h2
  unfold Fspec_l1Byte
  simp only
  by_cases hl : i < (b.length : Int)
  · rw [decide_eq_true hl]
    obtain ⟨n, rfl⟩ : ∃ n : Nat, i = n := ⟨i.toNat, by omega⟩
    obtain ⟨x, hx⟩ := atLt (xs := b) (i := n) (by omega)
    rw [atN hx]
    refine ⟨_, _, rfl, (and255 _).1, (and255 _).2, ?_, h2⟩
    show 0 ≤ IntKind.i64.wrap ((n : Int) + 1)
    rw [wid1 (by omega)]; omega
  · rw [decide_eq_false hl]
    exact ⟨_, _, rfl, (and255 _).1, (and255 _).2, h1, h2⟩
theorem tmodIn {v n : Int} (h : 0 ≤ v) (hn : 0 < n) : 0 ≤ Int.tmod v n ∧ Int.tmod v n < n := ⟨Int.tmod_nonneg n h, Int.tmod_lt_of_pos v hn⟩
theorem belowT (k : Nat) (n : Int) (c : Tspec_l1Cur) (hn : 0 < n) (h : Good c) : ∃ v c', Fspec_l1Below k n c = some (v, c') ∧ 0 ≤ v ∧ v < n ∧ Good c' := by
  unfold Fspec_l1Below
  rw [decide_eq_false (by omega)]
  have hz : (!(n == 0)) = true := by simp; omega
  simp only [cond_false, hz, cond_true]
  by_cases hb : n ≤ 256
  · rw [decide_eq_true hb]
    obtain ⟨v, c', h1, h2, h3, h4⟩ := byteT k c h
    rw [h1]
    exact ⟨_, _, rfl, (tmodIn h2 hn).1, (tmodIn h2 hn).2, h4⟩
  · rw [decide_eq_false hb]
    obtain ⟨v1, c1, e1, a1, b1, g1⟩ := byteT k c h
    obtain ⟨v2, c2, e2, a2, b2, g2⟩ := byteT k c1 g1
    obtain ⟨v3, c3, e3, a3, b3, g3⟩ := byteT k c2 g2
    obtain ⟨v4, c4, e4, a4, b4, g4⟩ := byteT k c3 g3
    simp only [e1, e2, e3, e4, cond_false, Option.bind_some]
    have hs : 0 ≤ IntKind.i64.wrap ((IntKind.i64.wrap ((IntKind.i64.wrap ((IntKind.i64.wrap (v1 * (16777216 : Int))) + (IntKind.i64.wrap (v2 * (65536 : Int))))) + (IntKind.i64.wrap (v3 * (256 : Int))))) + v4) := by
      rw [wid (n := v1 * 16777216) (by omega) (by omega), wid (n := v2 * 65536) (by omega) (by omega), wid (n := v3 * 256) (by omega) (by omega)]
      rw [wid (n := v1 * 16777216 + v2 * 65536) (by omega) (by omega), wid (n := v1 * 16777216 + v2 * 65536 + v3 * 256) (by omega) (by omega), wid (by omega) (by omega)]
      omega
    exact ⟨_, _, rfl, (tmodIn hs hn).1, (tmodIn hs hn).2, g4⟩
theorem onceT (k : Nat) (n : Int) (c : Tspec_l1Cur) (hn : 0 < n) (h : Good c) : ∃ v c', Fspec_l1Once k n c = some (v, c') ∧ Good c' := by
  obtain ⟨v, c', h1, _, _, h4⟩ := belowT k n c hn h
  unfold Fspec_l1Once
  rw [h1]
  exact ⟨_, _, rfl, h4⟩
theorem newT (k : Nat) (a : List UInt8) (hk : 4002 ≤ k) (ha : a.length ≤ 1048576) : ∃ c, Fspec_l1New k a = some c ∧ Good c := by
  have go : ∀ m (i k : Nat) (h : Int), i + m = 4000 → m + 1 ≤ k → ∃ c, Fspec_l1New.l3 k a h (i : Int) = some c ∧ Good c := by
    intro m
    induction m with
    | zero =>
      intro i k h hi hk
      obtain ⟨k, rfl⟩ : ∃ j, k = j + 1 := ⟨k - 1, by omega⟩
      simp only [Fspec_l1New.l3, Fspec_l1New.j2]
      rw [decide_eq_false (p := (i : Int) < 4000) (by omega)]
      cases decide ((i : Int) < (a.length : Int)) <;> exact ⟨_, rfl, by simp, ha⟩
    | succ m ih =>
      intro i k h hi hk
      obtain ⟨k, rfl⟩ : ∃ j, k = j + 1 := ⟨k - 1, by omega⟩
      simp only [Fspec_l1New.l3, Fspec_l1New.j2]
      by_cases hl : i < a.length
      · obtain ⟨x, hx⟩ := atLt (xs := a) (i := i) hl
        rw [ltD hl, decide_eq_true (p := (i : Int) < 4000) (by omega), atN hx, wid1 (by omega)]
        exact ih (i + 1) k _ (by omega) (by omega)
      · rw [decide_eq_false (p := (i : Int) < (a.length : Int)) (by omega)]
        exact ⟨_, rfl, by simp, ha⟩
  exact go 4000 0 k _ (by omega) (by omega)
theorem pickT (k : Nat) (l : List Int) (c : Tspec_l1Cur) (hn : 0 < l.length) (h : Good c) : ∃ v c', Fspec_l1PickInt k l c = some (v, c') ∧ v ∈ l ∧ Good c' := by
  obtain ⟨v, c', h1, h2, h3, h4⟩ := belowT k (l.length : Int) c (by omega) h
  obtain ⟨n, rfl⟩ : ∃ n : Nat, v = n := ⟨v.toNat, by omega⟩
  obtain ⟨x, hx⟩ := atLt (xs := l) (i := n) (by omega)
  unfold Fspec_l1PickInt
  rw [h1, Option.bind_some, atN hx]
  exact ⟨_, _, rfl, List.mem_of_getElem? hx, h4⟩
theorem bigT (k : Nat) (a : List UInt8) : Flaws_big k a = some (decide (1048576 < a.length)) := by
  unfold Flaws_big
  congr 1
  exact decide_eq_decide.2 (by omega)
theorem flagsT (k : Nat) (c : Tspec_l1Cur) (h : Good c) : ∃ v c', Fspec_l15Flags k c = some (v, c') ∧ Good c' := by
  unfold Fspec_l15Flags
  obtain ⟨v1, c1, e1, g1⟩ := onceT k 15 c (by omega) h
  rw [e1, Option.bind_some]
  cases v1
  · obtain ⟨v2, c2, e2, _, _, g2⟩ := belowT k 256 c1 (by omega) g1
    simp only [cond_false, e2, Option.bind_some]
    exact ⟨_, _, rfl, g2⟩
  · obtain ⟨v2, c2, e2, _, g2⟩ := pickT k [-1, 256, 1000] c1 (by decide) g1
    simp only [cond_true, e2, Option.bind_some]
    exact ⟨_, _, rfl, g2⟩
theorem textT (k : Nat) (n : Int) (c : Tspec_l1Cur) (hn : 0 ≤ n) (hn2 : n ≤ 1048576) (hk : 1048578 ≤ k) (h : Good c) : ∃ v c', Fspec_l1Text k n c = some (v, c') ∧ v.length ≤ n.toNat ∧ Good c' := by
  have go : ∀ (m k : Nat) (out : List UInt8) (q : Int) (c : Tspec_l1Cur), m + 1 ≤ k → out.length + m ≤ 2097152 → Good c → ∃ v c', Fspec_l1Text.l22 k out q (m : Int) c.b c.i c.h = some (v, c') ∧ v.length = out.length + m ∧ Good c' := by
    intro m
    induction m with
    | zero =>
      intro k out q c hk ho hc
      obtain ⟨k, rfl⟩ : ∃ j, k = j + 1 := ⟨k - 1, by omega⟩
      exact ⟨_, _, rfl, rfl, hc⟩
    | succ m ih =>
      intro k out q c hk ho hc
      obtain ⟨k, rfl⟩ : ∃ j, k = j + 1 := ⟨k - 1, by omega⟩
      have key : ∀ (z : Int) (c' : Tspec_l1Cur), Good c' → ∃ v c2, Fspec_l1Text.j26 (Fspec_l1Text.l22 k) k out q ((m + 1 : Nat) : Int) z c'.b c'.i c'.h = some (v, c2) ∧ v.length = out.length + (m + 1) ∧ Good c2 := by
        intro z c' g
        simp only [Fspec_l1Text.j26]
        rw [decide_eq_true (by simp; omega), wid (by omega) (by omega), show ((m + 1 : Nat) : Int) - 1 = (m : Int) by omega]
        obtain ⟨v, c2, h1, h2, h3⟩ := ih k (out ++ [ofI z]) q c' (by omega) (by simp; omega) g
        exact ⟨v, c2, h1, by simp at h2; omega, h3⟩
      obtain ⟨v, c', h1, _, _, h4⟩ := byteT k c hc
      simp only [Fspec_l1Text.l22, Fspec_l1Text.j25]
      rw [decide_eq_true (by omega), show (⟨c.b, c.i, c.h⟩ : Tspec_l1Cur) = c from rfl, h1]
      simp only [cond_true, Option.bind_some]
      cases q == 1 <;> cases q == 2 <;> exact key _ c' h4
  obtain ⟨v1, c1, e1, _, _, g1⟩ := belowT k 4 c (by omega) h
  obtain ⟨v2, c2, e2, a2, b2, g2⟩ := belowT k (n + 1) c1 (by omega) g1
  unfold Fspec_l1Text
  rw [e1, wid (by omega) (by omega)]
  simp only [Option.bind_some]
  rw [e2, Option.bind_some]
  obtain ⟨m, rfl⟩ : ∃ m : Nat, v2 = m := ⟨v2.toNat, by omega⟩
  obtain ⟨v, c3, h1, h2, h3⟩ := go m k [] v1 c2 (by omega) (by simp; omega) g2
  exact ⟨v, c3, h1, by simp at h2; omega, h3⟩
theorem cutT {l : List UInt8} {a b : Int} (ha : 0 ≤ a) (hab : a ≤ b) (hb : b ≤ l.length) : ∃ v, cut? l a b = some v ∧ v.length = (b - a).toNat := by
  refine ⟨_, if_pos ⟨ha, hab, hb⟩, ?_⟩
  simp; omega
theorem spoilT (k : Nat) (a : List UInt8) (c : Tspec_l1Cur) (ha : a.length ≤ 1048576) (hk : 1048578 ≤ k) (h : Good c) : ∃ v c', Fspec_l1Spoil k a c = some (v, c') ∧ v.length ≤ a.length + 3 ∧ Good c' := by
  unfold Fspec_l1Spoil
  by_cases h0 : a.length = 0
  · rw [show ((a.length : Int) == 0) = true by simp [h0]]
    obtain ⟨v, c', h1, h2, h3⟩ := textT k 3 c (by omega) (by omega) hk h
    simp only [cond_true, h1, Option.bind_some]
    exact ⟨_, _, rfl, by omega, h3⟩
  · have hz : ((a.length : Int) == 0) = false := by
      rw [beq_eq_false_iff_ne]; omega
    rw [hz]
    obtain ⟨i, c1, e1, a1, b1, g1⟩ := belowT k (a.length : Int) c (by omega) h
    obtain ⟨w, c2, e2, _, _, g2⟩ := belowT k 4 c1 (by omega) g1
    obtain ⟨y, c3, e3, _, _, g3⟩ := byteT k c2 g2
    obtain ⟨z, c4, e4, _, _, g4⟩ := belowT k 255 c2 (by omega) g2
    obtain ⟨p, hp, lp⟩ := cutT (l := a) (a := 0) (b := i) (by omega) (by omega) (by omega)
    obtain ⟨q, hq, lq⟩ := cutT (l := a) (a := i + 1) (b := (a.length : Int)) (by omega) (by omega) (by omega)
    obtain ⟨r, hr, lr⟩ := cutT (l := a) (a := i) (b := (a.length : Int)) (by omega) (by omega) (by omega)
    have hx : ∃ x, at? a i = some x := by
      obtain ⟨n, rfl⟩ : ∃ n : Nat, i = n := ⟨i.toNat, by omega⟩
      obtain ⟨x, hx⟩ := atLt (xs := a) (i := n) (by omega)
      exact ⟨x, atN hx⟩
    obtain ⟨x, hx⟩ := hx
    simp only [cond_false, e1, e2, e3, e4, Option.bind_some]
    rw [wid (n := i + 1) (by omega) (by omega)]
    simp only [hp, hq, hr, hx, Option.bind_some]
    cases w == 0
    · cases w == 1
      · cases w == 2
        · simp only [cond_false]
          rw [decide_eq_true (by simp; omega)]
          simp only [cond_true]
          rw [decide_eq_true (by simp; omega)]
          exact ⟨_, _, rfl, by simp; omega, g4⟩
        · exact ⟨_, _, rfl, by omega, g2⟩
      · simp only [cond_false, cond_true]
        rw [decide_eq_true (by simp; omega)]
        simp only [cond_true]
        rw [decide_eq_true (by simp; omega)]
        exact ⟨_, _, rfl, by simp; omega, g3⟩
    · simp only [cond_true]
      rw [decide_eq_true (by omega)]
      exact ⟨_, _, rfl, by simp; omega, g2⟩
/-- One answer at least as good as another. -/
def LeO {α : Type} (a b : Option α) : Prop := ∀ r, a = some r → b = some r
theorem LeO.refl {α : Type} (a : Option α) : LeO a a := fun _ h => h
theorem LeO.none {α : Type} (b : Option α) : LeO none b := fun _ h => nomatch h
theorem LeO.cond {α : Type} (c : Bool) {a b a' b' : Option α} (h : LeO a a') (h' : LeO b b') : LeO (bif c then a else b) (bif c then a' else b') := by cases c <;> assumption
theorem LeO.bind {α β : Type} {a a' : Option α} {f f' : α → Option β} (h : LeO a a') (hf : ∀ r, LeO (f r) (f' r)) : LeO (a.bind f) (a'.bind f') := by
  intro r hr
  cases a with
  | none => nomatch hr
  | some x => rw [h x rfl]; exact hf x r hr
theorem LeO.up {α : Type} {f : Nat → Option α} (h : ∀ k, LeO (f k) (f (k + 1))) {k : Nat} {r : α} (e : f k = some r) : ∀ d, f (k + d) = some r
  | 0 => e
  | d + 1 => h (k + d) r (LeO.up h e d)
theorem atT (k : Nat) (a : List UInt8) (i : Nat) (ha : a.length ≤ 1048576) (hi : i ≤ 1048576) : ∃ n : Nat, n < 256 ∧ Flaws_at k a (i : Int) = some (n : Int) := by
  unfold Flaws_at
  by_cases hl : i < a.length
  · obtain ⟨x, hx⟩ := atLt (xs := a) (i := i) hl
    rw [ltD hl, atN hx]
    exact ⟨x.toNat, x.toNat_lt, rfl⟩
  · rw [decide_eq_false (by omega), wid (n := (i : Int) * 37) (by omega) (by omega), wid (n := (a.length : Int) * 11) (by omega) (by omega), wid (by omega) (by omega)]
    have := tmodIn (v := (i : Int) * 37 + (a.length : Int) * 11) (n := 256) (by omega) (by omega)
    exact ⟨(Int.tmod ((i : Int) * 37 + (a.length : Int) * 11) 256).toNat, by omega, congrArg some (by omega)⟩
theorem iMono : ∀ k x o i, LeO (Fimpl_ShowFlags.l7 k x o i) (Fimpl_ShowFlags.l7 (k + 1) x o i)
  | 0, _, _, _ => LeO.none _
  | k + 1, x, o, i => by
    rw [Fimpl_ShowFlags.l7, Fimpl_ShowFlags.l7]
    refine LeO.cond _ (LeO.cond _ (LeO.cond _ (LeO.bind (LeO.refl _) fun r => LeO.cond _ ?_ (LeO.none _)) ?_) (LeO.none _)) (LeO.refl _)
    · exact iMono k _ _ _
    · exact iMono k _ _ _
theorem sMono : ∀ k x o z i, LeO (Fspec_ShowFlags.l12 k x o z i) (Fspec_ShowFlags.l12 (k + 1) x o z i)
  | 0, _, _, _, _ => LeO.none _
  | k + 1, x, o, z, i => by
    rw [Fspec_ShowFlags.l12, Fspec_ShowFlags.l12]
    refine LeO.cond _ (LeO.bind (LeO.refl _) fun r => LeO.cond _ (LeO.bind (LeO.refl _) fun r => LeO.cond _ ?_ (LeO.none _)) ?_) (LeO.refl _)
    · exact sMono k _ _ _ _
    · exact sMono k _ _ _ _
theorem iUp (x : Int) (k : Nat) : LeO (Fimpl_ShowFlags k x) (Fimpl_ShowFlags (k + 1) x) := by
  unfold Fimpl_ShowFlags
  exact LeO.bind (LeO.refl _) fun r => LeO.cond _ (LeO.refl _) (LeO.cond _ (LeO.refl _) (iMono k _ _ _))
theorem sUp (x : Int) (k : Nat) : LeO (Fspec_ShowFlags k x) (Fspec_ShowFlags (k + 1) x) := by
  unfold Fspec_ShowFlags
  exact LeO.bind (LeO.refl _) fun r => LeO.cond _ (LeO.refl _) (sMono k _ _ _ _)
def tell : List UInt8 → Nat
  | [] => 0
  | b :: l => (if b = 102 then 1 else if b = 112 then 2 else if b = 114 then 4 else if b = 100 then 8 else if b = 105 then 16 else if b = 73 then 32 else if b = 70 then 64 else if b = 80 then 128 else 0) + tell l
theorem showTable : ((List.range 256).all fun x =>
    match Fspec_ShowFlags 12 (x : Int), Fimpl_ShowFlags 12 (x : Int) with
    | some a, some b => a == b && tell a == x && decide (a.length ≤ 8)
    | _, _ => false) = true := by decide +kernel
/-- The letters of flags. -/
def lets (i : Nat) : List UInt8 := (Fspec_ShowFlags 12 (i : Int)).getD []
theorem showBoth (i : Nat) (hi : i < 256) : tell (lets i) = i ∧ (lets i).length ≤ 8 ∧ ∀ k, 12 ≤ k → Fspec_ShowFlags k (i : Int) = some (lets i) ∧ Fimpl_ShowFlags k (i : Int) = some (lets i) := by
  have h := showTable
  rw [List.all_eq_true] at h
  have h2 := h i (by rw [List.mem_range]; omega)
  cases h3 : Fspec_ShowFlags 12 (i : Int) with
  | none => rw [h3] at h2; exact absurd h2 Bool.false_ne_true
  | some a =>
    cases h4 : Fimpl_ShowFlags 12 (i : Int) with
    | none => rw [h3, h4] at h2; exact absurd h2 Bool.false_ne_true
    | some b =>
      rw [h3, h4] at h2
      simp only [Bool.and_eq_true, beq_iff_eq, decide_eq_true_eq] at h2
      obtain ⟨⟨rfl, h5⟩, h6⟩ := h2
      have e : lets i = a := by unfold lets; rw [h3]; rfl
      rw [e]
      refine ⟨h5, h6, fun k hk => ?_⟩
      rw [show k = 12 + (k - 12) by omega]
      exact ⟨LeO.up (sUp _) h3 _, LeO.up (iUp _) h4 _⟩
theorem lets_inj {i j : Nat} (hi : i < 256) (hj : j < 256) (h : lets i = lets j) : i = j := by
  have h1 := (showBoth i hi).1
  have h2 := (showBoth j hj).1
  rw [h] at h1; omega
theorem readBoth (s : List UInt8) : ∀ (n i k : Nat), i + n = 256 → 12 + n < k →
    ∃ r, Fspec_ReadFlags.l2 k s (i : Int) = some r ∧ Fimpl_ReadFlags.l2 k s (i : Int) = some r ∧ ((∃ j : Nat, j < 256 ∧ r = ((j : Int), true) ∧ lets j = s) ∨ (r = (0, false) ∧ ∀ j, i ≤ j → j < 256 → lets j ≠ s))
  | 0, i, k, h, hk => by
    obtain ⟨k, rfl⟩ : ∃ j, k = j + 1 := ⟨k - 1, by omega⟩
    have : i = 256 := by omega
    subst this
    exact ⟨(0, false), rfl, rfl, .inr ⟨rfl, fun j h1 h2 => absurd h2 (by omega)⟩⟩
  | n + 1, i, k, h, hk => by
    obtain ⟨k, rfl⟩ : ∃ j, k = j + 1 := ⟨k - 1, by omega⟩
    obtain ⟨_, _, hb⟩ := showBoth i (by omega)
    obtain ⟨h1, h2⟩ := hb k (by omega)
    simp only [Fspec_ReadFlags.l2, Fimpl_ReadFlags.l2]
    rw [decide_eq_true (p := (i : Int) ≤ 255) (by omega), decide_eq_true (p := (i : Int) < 256) (by omega), h1, h2, wid1 (by omega)]
    simp only [cond_true, Option.bind_some]
    by_cases c : lets i = s
    · rw [show (lets i == s) = true by simp [c]]
      exact ⟨_, rfl, rfl, .inl ⟨i, by omega, rfl, c⟩⟩
    · rw [show (lets i == s) = false by simp [c]]
      obtain ⟨r, r1, r2, r3⟩ := readBoth s n (i + 1) k (by omega) (by omega)
      refine ⟨r, r1, r2, r3.imp id fun ⟨a, b⟩ => ⟨a, fun j h1 h2 => ?_⟩⟩
      by_cases e : j = i
      · subst e; exact c
      · exact b j (by omega) h2
theorem flS (k : Nat) (a : Int) : Fspec_FlagsOk k a = some (decide (0 ≤ a ∧ a ≤ 255)) := by
  simp only [Fspec_FlagsOk, Fspec_l1In]
  by_cases h : a ≥ 0 <;> simp [h]
theorem flI (k : Nat) (a : Int) : Fimpl_FlagsOk k a = some (decide (0 ≤ a ∧ a ≤ 255)) := by
  simp only [Fimpl_FlagsOk, Fimpl_within]
  by_cases h : a ≥ 0 <;> simp [h]
theorem showAny (k : Nat) (x : Int) (hk : 12 ≤ k) : ∃ v, Fspec_ShowFlags k x = some v ∧ v.length ≤ 8 := by
  by_cases h : 0 ≤ x ∧ x ≤ 255
  · obtain ⟨n, rfl⟩ : ∃ n : Nat, x = n := ⟨x.toNat, by omega⟩
    obtain ⟨_, h1, h2⟩ := showBoth n (by omega)
    exact ⟨_, (h2 k hk).1, h1⟩
  · unfold Fspec_ShowFlags
    rw [flS, decide_eq_false h]
    exact ⟨_, rfl, by simp⟩
theorem drawReadT (k : Nat) (a : List UInt8) (hk : 2000000 ≤ k) (ha : a.length ≤ 1048576) : ∃ v, Fspec_DrawReadFlags k a = some v := by
  unfold Fspec_DrawReadFlags
  obtain ⟨c, e, g⟩ := newT k a (by omega) ha
  obtain ⟨v1, c1, e1, g1⟩ := flagsT k c g
  obtain ⟨v2, e2, l2⟩ := showAny k v1 (by omega)
  obtain ⟨v3, c3, e3, g3⟩ := onceT k 3 c1 (by omega) g1
  obtain ⟨v4, c4, e4, _, g4⟩ := spoilT k v2 c3 (by omega) (by omega) g3
  simp only [e, e1, e2, e3, Option.bind_some]
  cases v3
  · exact ⟨_, rfl⟩
  · simp only [cond_true, e4, Option.bind_some]
    exact ⟨_, rfl⟩
theorem lawFlagText (a : List UInt8) {W : Prop} (w : W) : ∃ k, Flaws_FnFlagText k a = some true := by
  refine ⟨2000000, ?_⟩
  generalize hK : 2000000 = K
  unfold Flaws_FnFlagText
  rw [bigT, Option.bind_some]
  by_cases h : 1048576 < a.length
  · rw [decide_eq_true h]; rfl
  rw [decide_eq_false h]
  obtain ⟨x, hx, ex⟩ := atT K a 0 (by omega) (by omega)
  obtain ⟨y, hy, ey⟩ := atT K a 1 (by omega) (by omega)
  have ex' : Flaws_at K a 0 = some (x : Int) := ex
  have ey' : Flaws_at K a 1 = some (y : Int) := ey
  obtain ⟨_, _, sx⟩ := showBoth x hx
  obtain ⟨_, _, sy⟩ := showBoth y hy
  have sx := (sx K (by omega)).2
  have sy := (sy K (by omega)).2
  obtain ⟨t, ht⟩ := drawReadT K a (by omega) (by omega)
  obtain ⟨r, r1, r2, r3⟩ := readBoth t 256 0 K rfl (by omega)
  obtain ⟨q, q1, q2, q3⟩ := readBoth (lets x) 256 0 K rfl (by omega)
  have rS : Fspec_ReadFlags K t = some r := r1
  have rI : Fimpl_ReadFlags K t = some r := r2
  have qI : Fimpl_ReadFlags K (lets x) = some q := q2
  have hq : q = ((x : Int), true) := by
    rcases q3 with ⟨j, h1, h2, h3⟩ | ⟨_, h2⟩
    · rw [h2, lets_inj h1 hx h3]
    · exact absurd rfl (h2 x (by omega) hx)
  subst hq
  have s256 : Fimpl_ShowFlags K 256 = some [] := by
    unfold Fimpl_ShowFlags
    rw [flI]; rfl
  have fx : Fimpl_FlagsOk K (x : Int) = some true := by
    rw [flI, decide_eq_true (by omega)]
  have hxy : ((lets x == lets y) == ((x : Int) == (y : Int))) = true := by
    by_cases e : x = y
    · subst e; simp
    · have : lets x ≠ lets y := fun h => e (lets_inj hx hy h)
      have h2 : (x : Int) ≠ y := by omega
      rw [beq_eq_false_iff_ne.2 this, beq_eq_false_iff_ne.2 h2]; rfl
  simp only [cond_false, ex', ey', sx, sy, ht, rS, rI, qI, s256, fx, Option.bind_some, cond_true, beq_self_eq_true, hxy]
  rcases r3 with ⟨j, h1, rfl, h3⟩ | ⟨rfl, h2⟩
  · obtain ⟨_, _, sj⟩ := showBoth j h1
    simp only [Bool.not_true, cond_false, (sj K (by omega)).2, Option.bind_some, h3, beq_self_eq_true, cond_true]
  · rfl
end Go.Proofs.Ytflcaebmammlfaa.M
