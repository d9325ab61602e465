/- rules are read from their text, and no other text is read. (P17) -/
import Derived.Test.YtgjbgakcfcomdaaFRuleText
namespace Go.Proofs.Ytgjbgakcfcomdaa.M
open Go Go.MG
set_option linter.unusedVariables false
set_option linter.unusedSimpArgs false
theorem wid {n : Int} (h1 : -9223372036854775808 ≤ n) (h2 : n ≤ 9223372036854775807) : IntKind.i64.wrap n = n := by
  rw [IntKind.wrap_i64]; omega
theorem atN {α : Type} {xs : List α} {i : Nat} {b : α} (h : xs[i]? = some b) : at? xs (i : Int) = some b := by
  simp [at?, h]
theorem atLt {α : Type} {xs : List α} {i : Nat} (h : i < xs.length) : ∃ b, xs[i]? = some b := ⟨xs[i], List.getElem?_eq_getElem h⟩
/-- A loop over a list, by an invariant. -/
theorem loopInv {α S R : Type} {xs : List α} {L : Nat → S → Int → Option R} {I : Nat → S → Prop} {Q : R → Prop} {n0 : Nat}
    (h : ∀ k s (i : Nat) b, n0 ≤ k → xs[i]? = some b → i < xs.length → I i s → (∃ s', L (k + 1) s (i : Int) = L k s' ((i + 1 : Nat) : Int) ∧ I (i + 1) s') ∨ ∃ r, L (k + 1) s (i : Int) = some r ∧ Q r)
    (he : ∀ k s, n0 ≤ k → I xs.length s → ∃ r, L (k + 1) s (xs.length : Int) = some r ∧ Q r) :
    ∀ (m i k : Nat) (s : S), i + m = xs.length → n0 + m + 1 ≤ k → I i s → ∃ r, L k s (i : Int) = some r ∧ Q r := by
  intro m
  induction m with
  | zero =>
    intro i k s hi hk hI
    obtain ⟨k, rfl⟩ : ∃ j, k = j + 1 := ⟨k - 1, by omega⟩
    have : i = xs.length := by omega
    subst this
    exact he k s (by omega) hI
  | succ m ih =>
    intro i k s hi hk hI
    obtain ⟨k, rfl⟩ : ∃ j, k = j + 1 := ⟨k - 1, by omega⟩
    obtain ⟨b, hb⟩ := atLt (xs := xs) (i := i) (by omega)
    rcases h k s i b (by omega) hb (by omega) hI with ⟨s', h1, h2⟩ | h1
    · rw [h1]
      exact ih (i + 1) k s' (by omega) (by omega) h2
    · exact h1
theorem loop0 {α S R : Type} {xs : List α} {L : Nat → S → Int → Option R} {I : Nat → S → Prop} {Q : R → Prop} (n0 : Nat) {k : Nat} {s : S}
    (hk : n0 + xs.length + 1 ≤ k) (h0 : I 0 s)
    (h : ∀ k s (i : Nat) b, n0 ≤ k → xs[i]? = some b → i < xs.length → I i s → (∃ s', L (k + 1) s (i : Int) = L k s' ((i + 1 : Nat) : Int) ∧ I (i + 1) s') ∨ ∃ r, L (k + 1) s (i : Int) = some r ∧ Q r)
    (he : ∀ k s, n0 ≤ k → I xs.length s → ∃ r, L (k + 1) s (xs.length : Int) = some r ∧ Q r) : ∃ r, L k s 0 = some r ∧ Q r :=
  loopInv h he xs.length 0 k s (by omega) (by omega) h0
theorem wid1 {i : Nat} (h : i ≤ 4611686018427387904) : IntKind.i64.wrap ((i : Int) + 1) = ((i + 1 : Nat) : Int) := by
  rw [wid (by omega) (by omega)]; omega
theorem ltD {i n : Nat} (h : i < n) : decide ((i : Int) < (n : Int)) = true := by simp; omega
theorem ltD0 {n : Nat} : decide ((n : Int) < (n : Int)) = false := by simp
theorem take_succ_get {α : Type} {xs : List α} {i : Nat} {b : α} (h : xs[i]? = some b) : xs.take (i + 1) = xs.take i ++ [b] := by
  rw [List.take_add_one, h]; rfl
/-- From some fuel on it answers so. -/
def Ev {α : Type} (f : Nat → Option α) (r : α) : Prop := ∃ n, ∀ k, n ≤ k → f k = some r
theorem Ev.pure {α : Type} (r : α) : Ev (fun _ => some r) r := ⟨0, fun _ _ => rfl⟩
theorem Ev.of {α : Type} {f : Nat → Option α} {r : α} (h : ∀ k, f k = some r) : Ev f r := ⟨0, fun k _ => h k⟩
theorem Ev.bind {α β : Type} {f : Nat → Option α} {g : Nat → α → Option β} {a : α} {r : β} (h : Ev f a) (h' : Ev (fun k => g k a) r) : Ev (fun k => (f k).bind (g k)) r := by
  obtain ⟨n, h⟩ := h
  obtain ⟨m, h'⟩ := h'
  refine ⟨max n m, fun k hk => ?_⟩
  show (f k).bind (g k) = some r
  rw [h k (by omega), Option.bind_some]
  exact h' k (by omega)
theorem Ev.succ {α : Type} {f : Nat → Option α} {r : α} (h : Ev (fun k => f (k + 1)) r) : Ev f r := by
  obtain ⟨n, h⟩ := h
  refine ⟨n + 1, fun k hk => ?_⟩
  obtain ⟨j, rfl⟩ : ∃ j, k = j + 1 := ⟨k - 1, by omega⟩
  exact h j (by omega)
theorem Ev.shift {α : Type} {f : Nat → Option α} {r : α} (h : Ev f r) : Ev (fun k => f (k + 1)) r := by
  obtain ⟨n, h⟩ := h
  exact ⟨n, fun k hk => h (k + 1) (by omega)⟩
theorem Ev.get {α : Type} {f : Nat → Option α} {r : α} (h : Ev f r) : ∃ k, f k = some r := by
  obtain ⟨n, h⟩ := h
  exact ⟨n, h n (Nat.le_refl _)⟩
theorem Ev.congr {α : Type} {f g : Nat → Option α} {r : α} (h : Ev f r) (e : ∀ k, g k = f k) : Ev g r := by
  obtain ⟨n, h⟩ := h
  exact ⟨n, fun k hk => (e k).trans (h k hk)⟩
theorem Ev.to {α : Type} {f : Nat → Option α} {a b : α} (h : Ev f a) (e : a = b) : Ev f b := e ▸ h
theorem Ev.ite {α : Type} {f g : Nat → Option α} {c : Bool} {r : α} (h1 : c = true → Ev f r) (h0 : c = false → Ev g r) : Ev (fun k => cond c (f k) (g k)) r := by
  cases c with
  | true => exact h1 rfl
  | false => exact h0 rfl
theorem Ev.at? {α β : Type} {xs : List α} {i : Nat} {b : α} {g : Nat → α → Option β} {r : β} (h : xs[i]? = some b) (h' : Ev (fun k => g k b) r) : Ev (fun k => (Go.MG.at? xs (i : Int)).bind (g k)) r := by
  have e := atN h
  simp only [e, Option.bind_some]
  exact h'
/-- It answers, and what it answers is so. -/
def EvP {α : Type} (f : Nat → Option α) (P : α → Prop) : Prop := ∃ r, Ev f r ∧ P r
theorem Ev.p {α : Type} {f : Nat → Option α} {r : α} {P : α → Prop} (h : Ev f r) (hp : P r) : EvP f P := ⟨r, h, hp⟩
theorem EvP.pure {α : Type} {r : α} {P : α → Prop} (h : P r) : EvP (fun _ => some r) P := ⟨r, Ev.pure r, h⟩
theorem EvP.bind {α β : Type} {f : Nat → Option α} {g : Nat → α → Option β} {P : α → Prop} {Q : β → Prop} (h : EvP f P) (h' : ∀ a, P a → EvP (fun k => g k a) Q) : EvP (fun k => (f k).bind (g k)) Q := by
  obtain ⟨a, h1, h2⟩ := h
  obtain ⟨r, h3, h4⟩ := h' a h2
  exact ⟨r, h1.bind h3, h4⟩
theorem EvP.bindE {α β : Type} {f : Nat → Option α} {g : Nat → α → Option β} {a : α} {Q : β → Prop} (h : Ev f a) (h' : EvP (fun k => g k a) Q) : EvP (fun k => (f k).bind (g k)) Q := by
  obtain ⟨r, h3, h4⟩ := h'
  exact ⟨r, h.bind h3, h4⟩
theorem EvP.ite {α : Type} {f g : Nat → Option α} {c : Bool} {P : α → Prop} (h1 : c = true → EvP f P) (h0 : c = false → EvP g P) : EvP (fun k => cond c (f k) (g k)) P := by
  cases c with
  | true => exact h1 rfl
  | false => exact h0 rfl
theorem EvP.mono {α : Type} {f : Nat → Option α} {P Q : α → Prop} (h : EvP f P) (hq : ∀ r, P r → Q r) : EvP f Q := by
  obtain ⟨r, h1, h2⟩ := h
  exact ⟨r, h1, hq r h2⟩
theorem EvP.succ {α : Type} {f : Nat → Option α} {P : α → Prop} (h : EvP (fun k => f (k + 1)) P) : EvP f P := by
  obtain ⟨r, h1, h2⟩ := h
  exact ⟨r, h1.succ, h2⟩
theorem EvP.at? {α β : Type} {xs : List α} {i : Nat} {b : α} {g : Nat → α → Option β} {P : β → Prop} (h : xs[i]? = some b) (h' : EvP (fun k => g k b) P) : EvP (fun k => (Go.MG.at? xs (i : Int)).bind (g k)) P := by
  obtain ⟨r, h1, h2⟩ := h'
  exact ⟨r, Ev.at? h h1, h2⟩
theorem EvP.shift {α : Type} {f : Nat → Option α} {P : α → Prop} (h : EvP f P) : EvP (fun k => f (k + 1)) P := by
  obtain ⟨r, h1, h2⟩ := h
  exact ⟨r, h1.shift, h2⟩
theorem EvP.ev {α : Type} {f : Nat → Option α} {r : α} (h : EvP f (fun x => x = r)) : Ev f r := by
  obtain ⟨x, h1, rfl⟩ := h
  exact h1
def isIn (x a b : Int) : Bool := decide (a ≤ x ∧ x ≤ b)
theorem sIn (k : Nat) (x a b : Int) : Fspec_l1In k x a b = some (isIn x a b) := by
  unfold Fspec_l1In isIn
  simp only [Bool.cond_decide]
  split
  all_goals
    refine congrArg some (Bool.eq_iff_iff.mpr ?_)
    simp only [decide_eq_true_eq, Bool.false_eq_true, false_iff]
    omega
theorem iIn (k : Nat) (x a b : Int) : Fimpl_within k x a b = some (isIn x a b) := sIn k x a b
theorem bvNat (n : Nat) (h : n < 18446744073709551616) : (BitVec.ofInt 64 (n : Int)).toNat = n := by
  rw [BitVec.ofInt_natCast, BitVec.toNat_ofNat]; exact Nat.mod_eq_of_lt (by omega)
theorem and127 (n : Nat) (h : n < 9223372036854775808) : Go.bits .and .i64 (n : Int) 127 = ((n % 128 : Nat) : Int) := by
  show IntKind.i64.wrap ((BitVec.ofInt 64 (n : Int) &&& BitVec.ofInt 64 ((127 : Nat) : Int)).toNat : Int) = _
  rw [BitVec.toNat_and, bvNat n (by omega), bvNat 127 (by omega), Nat.and_two_pow_sub_one_eq_mod n 7, wid (by omega) (by omega)]
theorem orNat (a b : Nat) (ha : a < 9223372036854775808) (hb : b < 9223372036854775808) : Go.bits .or .i64 (a : Int) (b : Int) = ((a ||| b : Nat) : Int) := by
  show IntKind.i64.wrap ((BitVec.ofInt 64 (a : Int) ||| BitVec.ofInt 64 (b : Int)).toNat : Int) = _
  have : a ||| b < 2 ^ 63 := Nat.or_lt_two_pow ha hb
  rw [BitVec.toNat_or, bvNat a (by omega), bvNat b (by omega), wid (by omega) (by omega)]
theorem orLow (a b i : Nat) (ha : a < 2 ^ i) : a ||| (b * 2 ^ i) = a + b * 2 ^ i := by
  rw [Nat.or_comm, Nat.mul_comm, ← Nat.two_pow_add_eq_or_of_lt ha, Nat.add_comm]
theorem or128 (m : Nat) (h : m < 128) : Go.bits .or .i64 (m : Int) 128 = ((128 + m : Nat) : Int) := by
  have := orNat m 128 (by omega) (by omega)
  rw [show ((128 : Nat) : Int) = 128 from rfl] at this
  rw [this, show 128 = 1 * 2 ^ 7 from rfl, orLow m 1 7 (by omega)]
  congr 1; omega
theorem highI (n : Nat) : shrI .i64 (n : Int) 7 = ((n / 128 : Nat) : Int) := by
  show Int.fdiv (n : Int) 128 = _
  rw [Int.fdiv_eq_ediv_of_nonneg _ (by omega)]; omega
theorem lowI (n : Nat) (h : n < 9223372036854775808) : Go.bits .or .i64 (Go.bits .and .i64 (n : Int) 127) 128 = ((128 + n % 128 : Nat) : Int) := by
  rw [and127 n h, or128 _ (Nat.mod_lt _ (by omega))]
theorem lowS (n : Nat) : IntKind.i64.wrap (128 + Int.tmod (n : Int) 128) = ((128 + n % 128 : Nat) : Int) := by
  rw [show Int.tmod (n : Int) 128 = ((n % 128 : Nat) : Int) from rfl, wid (by omega) (by omega)]; omega
theorem highS (n : Nat) (h : n < 9223372036854775808) : IntKind.i64.wrap (Int.tdiv (n : Int) 128) = ((n / 128 : Nat) : Int) := by
  rw [show Int.tdiv (n : Int) 128 = ((n / 128 : Nat) : Int) from rfl, wid (by omega) (by omega)]
theorem ofI_nat (n : Nat) (h : n < 256) : ofI (n : Int) = UInt8.ofNat n := by
  unfold ofI
  have : ((n : Int) % 256).toNat = n := by omega
  rw [this]
def varE (n : Nat) : List UInt8 := if h : n < 128 then [UInt8.ofNat n] else UInt8.ofNat (128 + n % 128) :: varE (n / 128)
termination_by n
decreasing_by omega
theorem varE_lt {n : Nat} (h : n < 128) : varE n = [UInt8.ofNat n] := by rw [varE, dif_pos h]
theorem varE_ge {n : Nat} (h : 128 ≤ n) : varE n = UInt8.ofNat (128 + n % 128) :: varE (n / 128) := by rw [varE, dif_neg (by omega)]
theorem varE_len : ∀ (m n : Nat), n < 128 ^ (m + 1) → (varE n).length ≤ m + 1
  | m, n, h => by
    by_cases hn : n < 128
    · rw [varE_lt hn]; simp
    · rw [varE_ge (by omega)]
      cases m with
      | zero => omega
      | succ m =>
        have := varE_len m (n / 128) (by rw [Nat.pow_succ] at h; omega)
        simp; omega
theorem varE_pos (n : Nat) : 0 < (varE n).length := by
  by_cases hn : n < 128
  · rw [varE_lt hn]; simp
  · rw [varE_ge (by omega)]; simp
def varI (a : Int) : List UInt8 := if 0 ≤ a ∧ a ≤ 562949953421311 then varE a.toNat else []
theorem varI_nat (n : Nat) (h : n ≤ 562949953421311) : varI (n : Int) = varE n := by
  unfold varI; rw [if_pos (by omega)]; simp
theorem sVarL : ∀ (m n : Nat) (acc : List UInt8), n < 128 ^ (m + 1) → m ≤ 8 → acc.length + m ≤ 1000 → Ev (fun k => Fspec_Var.l2 k (n : Int) acc) (acc ++ varE n) := by
  intro m
  induction m with
  | zero =>
    intro n acc h hm ha
    refine Ev.succ ?_
    simp only [Fspec_Var.l2]
    rw [decide_eq_false (p := (n : Int) ≥ 128) (by omega), decide_eq_true (p := (2 * (acc.length + [ofI (n : Int)].length) + 192) * 1 ≤ 281474976710656) (by simp; omega), ofI_nat n (by omega), varE_lt (by omega)]
    exact Ev.pure _
  | succ m ih =>
    intro n acc h hm ha
    have h9 : n < 9223372036854775808 := Nat.lt_of_lt_of_le h (Nat.le_trans (Nat.pow_le_pow_right (by omega) (show m + 1 + 1 ≤ 9 by omega)) (by decide))
    refine Ev.succ ?_
    simp only [Fspec_Var.l2]
    by_cases hn : n < 128
    · rw [decide_eq_false (p := (n : Int) ≥ 128) (by omega), decide_eq_true (p := (2 * (acc.length + [ofI (n : Int)].length) + 192) * 1 ≤ 281474976710656) (by simp; omega), ofI_nat n (by omega), varE_lt hn]
      exact Ev.pure _
    · rw [decide_eq_true (p := (n : Int) ≥ 128) (by omega), lowS, highS n h9, ofI_nat (128 + n % 128) (by omega), decide_eq_true (p := (2 * (acc.length + [UInt8.ofNat (128 + n % 128)].length) + 192) * 1 ≤ 281474976710656) (by simp; omega)]
      simp only [cond_true]
      refine (ih (n / 128) _ (by rw [Nat.pow_succ] at h; omega) (by omega) (by rw [List.length_append]; simp only [List.length_cons, List.length_nil]; omega)).to ?_
      rw [varE_ge (n := n) (by omega), List.append_assoc]; rfl
theorem iVarL : ∀ (m n : Nat) (acc : List UInt8), n < 128 ^ (m + 1) → m ≤ 8 → acc.length + m ≤ 1000 → Ev (fun k => Fimpl_Var.l2 k (n : Int) acc) (acc ++ varE n) := by
  intro m
  induction m with
  | zero =>
    intro n acc h hm ha
    refine Ev.succ ?_
    simp only [Fimpl_Var.l2]
    rw [decide_eq_false (p := (n : Int) > 127) (by omega), decide_eq_true (p := (2 * (acc.length + [ofI (n : Int)].length) + 192) * 1 ≤ 281474976710656) (by simp; omega), ofI_nat n (by omega), varE_lt (by omega)]
    exact Ev.pure _
  | succ m ih =>
    intro n acc h hm ha
    have h9 : n < 9223372036854775808 := Nat.lt_of_lt_of_le h (Nat.le_trans (Nat.pow_le_pow_right (by omega) (show m + 1 + 1 ≤ 9 by omega)) (by decide))
    refine Ev.succ ?_
    simp only [Fimpl_Var.l2]
    by_cases hn : n < 128
    · rw [decide_eq_false (p := (n : Int) > 127) (by omega), decide_eq_true (p := (2 * (acc.length + [ofI (n : Int)].length) + 192) * 1 ≤ 281474976710656) (by simp; omega), ofI_nat n (by omega), varE_lt hn]
      exact Ev.pure _
    · rw [decide_eq_true (p := (n : Int) > 127) (by omega), lowI n h9, highI n, ofI_nat (128 + n % 128) (by omega), decide_eq_true (p := (2 * (acc.length + [UInt8.ofNat (128 + n % 128)].length) + 192) * 1 ≤ 281474976710656) (by simp; omega)]
      simp only [cond_true]
      refine (ih (n / 128) _ (by rw [Nat.pow_succ] at h; omega) (by omega) (by rw [List.length_append]; simp only [List.length_cons, List.length_nil]; omega)).to ?_
      rw [varE_ge (n := n) (by omega), List.append_assoc]; rfl
theorem sVar (a : Int) : Ev (fun k => Fspec_Var k a) (varI a) := by
  simp only [Fspec_Var, sIn, Option.bind_some]
  refine Ev.ite (fun hc => ?_) (fun hc => ?_)
  · refine (Ev.pure _).to ?_
    unfold varI; rw [if_neg (fun h => by unfold isIn at hc; rw [decide_eq_true h] at hc; cases hc)]
  · have h : 0 ≤ a ∧ a ≤ 562949953421311 := by simpa [isIn] using hc
    obtain ⟨n, rfl⟩ : ∃ n : Nat, a = n := ⟨a.toNat, by omega⟩
    refine (sVarL 6 n [] (by omega) (by omega) (by simp)).to ?_
    rw [varI_nat n (by omega)]; rfl
theorem iVar (a : Int) : Ev (fun k => Fimpl_Var k a) (varI a) := by
  simp only [Fimpl_Var, iIn, Option.bind_some]
  refine Ev.ite (fun hc => ?_) (fun hc => ?_)
  · refine (Ev.pure _).to ?_
    unfold varI; rw [if_neg (fun h => by unfold isIn at hc; rw [decide_eq_true h] at hc; cases hc)]
  · have h : 0 ≤ a ∧ a ≤ 562949953421311 := by simpa [isIn] using hc
    obtain ⟨n, rfl⟩ : ∃ n : Nat, a = n := ⟨a.toNat, by omega⟩
    refine (iVarL 6 n [] (by omega) (by omega) (by simp)).to ?_
    rw [varI_nat n (by omega)]; rfl
/-- The number at the begin of a text, of at most f bytes, and how many they are. -/
def dv : Nat → List UInt8 → Option (Nat × Nat)
  | 0, _ => none
  | _ + 1, [] => none
  | f + 1, b :: bs => if b.toNat < 128 then some (b.toNat, 1) else match dv f bs with
    | some (n, s) => if n = 0 then none else some (b.toNat % 128 + 128 * n, s + 1)
    | none => none
def rvP (s : List UInt8) : Int × Int := match dv 7 s with
  | some (n, z) => ((n : Int), (z : Int))
  | none => (0, 0)
theorem u8eta (b : UInt8) : UInt8.ofNat b.toNat = b := by simp
theorem dv_ok : ∀ {f : Nat} {s : List UInt8} {n z : Nat}, dv f s = some (n, z) → z ≤ s.length ∧ z ≤ f ∧ 0 < z ∧ s.take z = varE n ∧ n < 128 ^ z
  | 0, s, n, z, h => by simp [dv] at h
  | f + 1, [], n, z, h => by simp [dv] at h
  | f + 1, b :: bs, n, z, h => by
    simp only [dv] at h
    split at h
    · rename_i hb
      cases h
      exact ⟨by simp, by omega, by omega, by rw [varE_lt hb]; simp, by simpa using hb⟩
    · rename_i hb
      split at h
      · rename_i m t hm
        split at h
        · cases h
        · rename_i hm0
          cases h
          obtain ⟨h1, h2, h3, h4, h5⟩ := dv_ok hm
          have hb2 := b.toNat_lt
          refine ⟨by simp; omega, by omega, by omega, ?_, ?_⟩
          · rw [List.take_succ_cons, h4, varE_ge (n := b.toNat % 128 + 128 * m) (by omega)]
            have e1 : (b.toNat % 128 + 128 * m) % 128 = b.toNat % 128 := by omega
            have e2 : (b.toNat % 128 + 128 * m) / 128 = m := by omega
            rw [e1, e2, show 128 + b.toNat % 128 = b.toNat by omega, u8eta]
          · rw [Nat.pow_succ]; omega
      · cases h
theorem varE_dv : ∀ {f : Nat} {n : Nat} {t : List UInt8}, n < 128 ^ (f + 1) → dv (f + 1) (varE n ++ t) = some (n, (varE n).length)
  | f, n, t, h => by
    by_cases hn : n < 128
    · rw [varE_lt hn]
      have : (UInt8.ofNat n).toNat = n := by rw [UInt8.toNat_ofNat']; omega
      simp [dv, this, hn]
    · have h1 : (UInt8.ofNat (128 + n % 128)).toNat = 128 + n % 128 := by rw [UInt8.toNat_ofNat']; omega
      rw [varE_ge (n := n) (by omega)]
      cases f with
      | zero => omega
      | succ f =>
        have ih := varE_dv (f := f) (n := n / 128) (t := t) (by rw [Nat.pow_succ] at h; omega)
        simp only [List.cons_append, dv.eq_3 (f + 1), h1]
        rw [if_neg (by omega), ih]
        simp only
        rw [if_neg (by omega)]
        simp only [List.length_cons]
        congr 2; omega
/-- The sum of the digits, the lowest first. -/
def digs : List UInt8 → Nat
  | [] => 0
  | b :: bs => b.toNat % 128 + 128 * digs bs
theorem digs_lt : ∀ (s : List UInt8), digs s < 128 ^ s.length
  | [] => by simp [digs]
  | b :: bs => by have := digs_lt bs; simp only [digs, List.length_cons, Nat.pow_succ]; omega
theorem digs_snoc : ∀ (s : List UInt8) (b : UInt8), digs (s ++ [b]) = digs s + b.toNat % 128 * 128 ^ s.length
  | [], b => by simp [digs]
  | c :: s, b => by
    simp only [List.cons_append, digs, List.length_cons, digs_snoc s b, Nat.pow_succ]
    rw [Nat.mul_add, Nat.mul_comm (128 ^ s.length) 128, ← Nat.mul_assoc, ← Nat.mul_assoc, Nat.mul_comm (b.toNat % 128) 128]
    omega
theorem digs_varE : ∀ (m n : Nat), n < 128 ^ (m + 1) → digs (varE n) = n
  | m, n, h => by
    by_cases hn : n < 128
    · rw [varE_lt hn]; simp [digs, UInt8.toNat_ofNat']; omega
    · rw [varE_ge (by omega)]
      have h1 : (UInt8.ofNat (128 + n % 128)).toNat = 128 + n % 128 := by rw [UInt8.toNat_ofNat']; omega
      cases m with
      | zero => omega
      | succ m =>
        simp only [digs, h1, digs_varE m (n / 128) (by rw [Nat.pow_succ] at h; omega)]; omega
/-- Whether the first bytes are a number's, of just this size. -/
theorem dv_take {s : List UInt8} {z : Nat} (hz : z ≤ s.length) (h7 : z ≤ 7) (h0 : 0 < z) (h : varE (digs (s.take z)) = s.take z) : dv 7 s = some (digs (s.take z), z) := by
  have h1 : digs (s.take z) < 128 ^ 7 := by
    have := digs_lt (s.take z)
    rw [List.length_take, Nat.min_eq_left hz] at this
    exact Nat.lt_of_lt_of_le this (Nat.pow_le_pow_right (by omega) h7)
  have h2 := varE_dv (f := 6) (n := digs (s.take z)) (t := s.drop z) h1
  rw [h, List.take_append_drop, List.length_take, Nat.min_eq_left hz] at h2
  exact h2
theorem dv_take' {s : List UInt8} {n z : Nat} (h : dv 7 s = some (n, z)) : digs (s.take z) = n ∧ varE (digs (s.take z)) = s.take z := by
  obtain ⟨h1, h2, h3, h4, h5⟩ := dv_ok h
  have h6 : n < 128 ^ (6 + 1) := Nat.lt_of_lt_of_le h5 (Nat.pow_le_pow_right (by omega) h2)
  have e : digs (s.take z) = n := by rw [h4]; exact digs_varE 6 n h6
  exact ⟨e, by rw [e, h4]⟩
theorem cutN {α : Type} {xs : List α} {a b : Nat} (h : a ≤ b) (h2 : b ≤ xs.length) : cut? xs (a : Int) (b : Int) = some ((xs.drop a).take (b - a)) := by
  unfold cut?
  rw [if_pos (by omega)]
  congr 2; omega
theorem cut0 {α : Type} {xs : List α} {b : Nat} (h2 : b ≤ xs.length) : cut? xs 0 (b : Int) = some (xs.take b) := by
  have := cutN (xs := xs) (a := 0) (b := b) (by omega) h2
  simpa using this
theorem cutEnd {α : Type} {xs : List α} {a : Nat} (h : a ≤ xs.length) : cut? xs (a : Int) (xs.length : Int) = some (xs.drop a) := by
  rw [cutN h (Nat.le_refl _)]
  congr 1
  exact List.take_of_length_le (by simp)
theorem varE_bytes : ∀ (m n : Nat), n < 128 ^ (m + 1) → ∀ (j : Nat) (b : UInt8), (varE n)[j]? = some b → if j + 1 < (varE n).length then 128 ≤ b.toNat else b.toNat < 128
  | m, n, h, j, b, hj => by
    by_cases hn : n < 128
    · rw [varE_lt hn] at hj ⊢
      cases j with
      | zero => simp at hj; subst hj; simp [UInt8.toNat_ofNat']; omega
      | succ j => simp at hj
    · rw [varE_ge (n := n) (by omega)] at hj ⊢
      have h1 : (UInt8.ofNat (128 + n % 128)).toNat = 128 + n % 128 := by rw [UInt8.toNat_ofNat']; omega
      have hp := varE_pos (n / 128)
      cases j with
      | zero => simp only [List.getElem?_cons_zero, Option.some.injEq] at hj; subst hj; rw [if_pos (by simp; omega), h1]; omega
      | succ j =>
        cases m with
        | zero => omega
        | succ m =>
          simp only [List.getElem?_cons_succ] at hj
          have := varE_bytes m (n / 128) (by rw [Nat.pow_succ] at h; omega) j b hj
          simp only [List.length_cons]
          by_cases hl : j + 1 < (varE (n / 128)).length
          · rw [if_pos (by omega)]; rwa [if_pos hl] at this
          · rw [if_neg (by omega)]; rwa [if_neg hl] at this
theorem dv_bytes {s : List UInt8} {n z : Nat} (h : dv 7 s = some (n, z)) {j : Nat} {b : UInt8} (hj : s[j]? = some b) : (j + 1 < z → 128 ≤ b.toNat) ∧ (j + 1 = z → b.toNat < 128) := by
  obtain ⟨h1, h2, h3, h4, h5⟩ := dv_ok h
  have h6 : n < 128 ^ (6 + 1) := Nat.lt_of_lt_of_le h5 (Nat.pow_le_pow_right (by omega) h2)
  have hlen : (varE n).length = z := by rw [← h4, List.length_take]; omega
  have get : j < z → (varE n)[j]? = some b := fun hjz => by rw [← h4, List.getElem?_take, if_pos hjz]; exact hj
  refine ⟨fun hl => ?_, fun hl => ?_⟩
  · have := varE_bytes 6 n h6 j b (get (by omega))
    rwa [if_pos (by omega)] at this
  · have := varE_bytes 6 n h6 j b (get (by omega))
    rwa [if_neg (by omega)] at this
theorem sRV26 (s : List UInt8) (z : Nat) (hz : z ≤ s.length) (h7 : z ≤ 7) (h0 : 0 < z) (r2 : Int × Int) : ∀ (j : Nat) (cl : Nat → List UInt8 → Int → Option (Int × Int)), j ≤ z → Ev (fun k => cl k s (IntKind.i64.wrap ((z : Int) + 1))) r2 →
    Ev (fun k => Fspec_ReadVar.l26 (cl k) k s (z : Int) (digs ((s.take z).drop j) : Int) ((j : Int) - 1)) (if varE (digs (s.take z)) = s.take z then ((digs (s.take z) : Int), (z : Int)) else r2) := by
  have hlt : digs (s.take z) < 128 ^ 7 := by
    have := digs_lt (s.take z)
    rw [List.length_take, Nat.min_eq_left hz] at this
    exact Nat.lt_of_lt_of_le this (Nat.pow_le_pow_right (by omega) h7)
  intro j
  induction j with
  | zero =>
    intro cl hj hcl
    refine Ev.succ ?_
    simp only [Fspec_ReadVar.l26]
    rw [decide_eq_false (by omega)]
    simp only [cond_false, List.drop_zero]
    refine Ev.bind (sVar _) ?_
    rw [varI_nat _ (by omega), cut0 hz]
    simp only [Option.bind_some]
    refine Ev.ite (fun hc => ?_) (fun hc => ?_)
    · rw [if_pos (eq_of_beq hc)]; exact Ev.pure _
    · rw [if_neg (fun h => by rw [h] at hc; simp at hc)]; exact hcl.shift
  | succ j ih =>
    intro cl hj hcl
    refine Ev.succ ?_
    simp only [Fspec_ReadVar.l26]
    obtain ⟨b, hb⟩ := atLt (xs := s) (i := j) (by omega)
    rw [decide_eq_true (by omega)]
    rw [show ((j + 1 : Nat) : Int) - 1 = (j : Int) by omega]
    simp only [cond_true]
    refine Ev.at? hb ?_
    have e : (s.take z).drop j = b :: (s.take z).drop (j + 1) := by
      have hl : j < (s.take z).length := by rw [List.length_take]; omega
      rw [List.drop_eq_getElem_cons hl]
      congr 1
      rw [List.getElem_take]
      rw [List.getElem?_eq_getElem (by omega)] at hb
      exact Option.some.inj hb
    have hd : digs ((s.take z).drop (j + 1)) < 128 ^ 7 := by
      have h1 := digs_lt ((s.take z).drop (j + 1))
      have h2 : ((s.take z).drop (j + 1)).length ≤ 7 := by simp; omega
      exact Nat.lt_of_lt_of_le h1 (Nat.pow_le_pow_right (by omega) h2)
    have e2 : IntKind.i64.wrap (IntKind.i64.wrap ((digs ((s.take z).drop (j + 1)) : Int) * 128) + Int.tmod (b.toNat : Int) 128) = (digs ((s.take z).drop j) : Int) := by
      rw [show Int.tmod (b.toNat : Int) 128 = ((b.toNat % 128 : Nat) : Int) from rfl, e]
      simp only [digs]
      rw [wid (n := (digs ((s.take z).drop (j + 1)) : Int) * 128) (by omega) (by omega), wid (by omega) (by omega)]
      omega
    rw [e2, wid (n := (j : Int) - 1) (by omega) (by omega)]
    exact ih (fun k => cl (k + 1)) (by omega) hcl.shift
theorem sReadVar (s : List UInt8) (hs : s.length ≤ 1048576) : Ev (fun k => Fspec_ReadVar k s) (rvP s) := by
  have key : ∀ (m z : Nat), z + m = 8 → 0 < z → Ev (fun k => Fspec_ReadVar.l22 k s (z : Int)) (match dv 7 s with | some (n, t) => if z ≤ t then ((n : Int), (t : Int)) else (0, 0) | none => (0, 0)) := by
    intro m
    induction m with
    | zero =>
      intro z hz h0
      refine Ev.succ ?_
      simp only [Fspec_ReadVar.l22]
      rw [decide_eq_false (by omega)]
      refine (Ev.pure _).to ?_
      cases hd : dv 7 s with
      | none => rfl
      | some p => obtain ⟨n, t⟩ := p; have := (dv_ok hd).2.1; simp only; rw [if_neg (by omega)]
    | succ m ih =>
      intro z hz h0
      refine Ev.succ ?_
      simp only [Fspec_ReadVar.l22]
      rw [decide_eq_true (p := (z : Int) ≤ 7) (by omega)]
      simp only [cond_true]
      by_cases hl : z ≤ s.length
      · rw [decide_eq_true (p := (z : Int) ≤ (s.length : Int)) (by omega)]
        simp only [cond_true]
        have hn := ih (z + 1) (by omega) (by omega)
        have h26 := sRV26 s z hl (by omega) h0 _ z (fun k => Fspec_ReadVar.l22 k) (Nat.le_refl _) (by rw [wid1 (by omega)]; exact hn)
        rw [show (s.take z).drop z = [] from List.drop_of_length_le (by rw [List.length_take]; omega)] at h26
        rw [wid (n := (z : Int) - 1) (by omega) (by omega)]
        refine h26.to ?_
        by_cases he : varE (digs (s.take z)) = s.take z
        · rw [if_pos he, dv_take hl (by omega) h0 he]; simp
        · rw [if_neg he]
          cases hd : dv 7 s with
          | none => rfl
          | some p =>
            obtain ⟨n, t⟩ := p
            have : t ≠ z := fun e => by subst e; exact he (dv_take' hd).2
            simp only
            by_cases h : z ≤ t
            · rw [if_pos h, if_pos (by omega)]
            · rw [if_neg h, if_neg (by omega)]
      · rw [decide_eq_false (p := (z : Int) ≤ (s.length : Int)) (by omega)]
        refine (Ev.pure _).to ?_
        cases hd : dv 7 s with
        | none => rfl
        | some p => obtain ⟨n, t⟩ := p; have := (dv_ok hd).1; simp only; rw [if_neg (by omega)]
  simp only [Fspec_ReadVar]
  refine (key 7 1 (by omega) (by omega)).to ?_
  unfold rvP
  cases hd : dv 7 s with
  | none => rfl
  | some p => obtain ⟨n, t⟩ := p; have := (dv_ok hd).2.2.1; simp only; rw [if_pos (by omega)]
theorem pow7 (i : Nat) : 2 ^ (7 * i) = 128 ^ i := by rw [Nat.pow_mul]
theorem iReadVar (s : List UInt8) (hs : s.length ≤ 1048576) : Ev (fun k => Fimpl_ReadVar k s) (rvP s) := by
  have none7 : ∀ i, (∀ j b, j < i → s[j]? = some b → 128 ≤ b.toNat) → (7 ≤ i ∨ s.length ≤ i) → rvP s = (0, 0) := by
    intro i hb hi
    unfold rvP
    cases hd : dv 7 s with
    | none => rfl
    | some p =>
      obtain ⟨n, z⟩ := p
      obtain ⟨h1, h2, h3, _, _⟩ := dv_ok hd
      obtain ⟨b, hb'⟩ := atLt (xs := s) (i := z - 1) (by omega)
      have := (dv_bytes hd hb').2 (by omega)
      have := hb (z - 1) b (by omega) hb'
      omega
  have key : ∀ (m i : Nat), i + m = s.length → i ≤ 7 → (∀ j b, j < i → s[j]? = some b → 128 ≤ b.toNat) → Ev (fun k => Fimpl_ReadVar.l2 k s (digs (s.take i) : Int) (i : Int)) (rvP s) := by
    intro m
    induction m with
    | zero =>
      intro i hi h7 hb
      refine Ev.succ ?_
      simp only [Fimpl_ReadVar.l2]
      rw [decide_eq_false (by omega)]
      exact (Ev.pure _).to (none7 i hb (.inr (by omega))).symm
    | succ m ih =>
      intro i hi h7 hb
      refine Ev.succ ?_
      simp only [Fimpl_ReadVar.l2]
      rw [decide_eq_true (p := (i : Int) < (s.length : Int)) (by omega)]
      simp only [cond_true]
      by_cases hi7 : i = 7
      · subst hi7
        rw [decide_eq_false (p := ((7 : Nat) : Int) < 7) (by omega)]
        exact (Ev.pure _).to (none7 7 hb (.inl (by omega))).symm
      rw [decide_eq_true (p := (i : Int) < 7) (by omega)]
      simp only [cond_true]
      obtain ⟨b, hb'⟩ := atLt (xs := s) (i := i) (by omega)
      have hbl := b.toNat_lt
      have e7 : IntKind.i64.wrap ((7 : Int) * (i : Int)) = ((7 * i : Nat) : Int) := by rw [wid (by omega) (by omega)]; omega
      refine Ev.at? hb' ?_
      rw [e7, decide_eq_false (by omega)]
      simp only [Bool.not_false, cond_true]
      refine Ev.at? hb' ?_
      have hand : ((b &&& 127).toNat : Nat) = b.toNat % 128 := by
        rw [UInt8.toNat_and]; exact Nat.and_two_pow_sub_one_eq_mod b.toNat 7
      have hdl : digs (s.take i) < 128 ^ i := by
        have := digs_lt (s.take i)
        rwa [List.length_take, Nat.min_eq_left (by omega)] at this
      have hp : 128 ^ i ≤ 128 ^ 6 := Nat.pow_le_pow_right (by omega) (by omega)
      have hm : b.toNat % 128 * 128 ^ i < 562949953421312 := by
        have h1 : b.toNat % 128 * 128 ^ i ≤ 127 * 128 ^ 6 := Nat.mul_le_mul (by omega) hp
        omega
      have eshl : shlI .i64 ((b.toNat % 128 : Nat) : Int) ((7 * i : Nat) : Int) = ((b.toNat % 128 * 128 ^ i : Nat) : Int) := by
        unfold shlI
        have e : min (((7 * i : Nat) : Int)).toNat IntKind.i64.bits = 7 * i := by
          have : IntKind.i64.bits = 64 := rfl
          rw [Int.toNat_natCast, this]; omega
        rw [e]
        have e2 : ((b.toNat % 128 : Nat) : Int) * 2 ^ (7 * i) = ((b.toNat % 128 * 128 ^ i : Nat) : Int) := by
          rw [← pow7, Int.natCast_mul, Int.natCast_pow]; rfl
        rw [e2]
        exact wid (by omega) (by omega)
      have eor : Go.bits .or .i64 (digs (s.take i) : Int) (shlI .i64 (((b &&& 127).toNat : Nat) : Int) ((7 * i : Nat) : Int)) = (digs (s.take (i + 1)) : Int) := by
        rw [hand, eshl, orNat _ _ (by omega) (by omega), ← pow7, orLow _ _ _ (by rw [pow7]; exact hdl), take_succ_get hb', digs_snoc, List.length_take, Nat.min_eq_left (by omega), pow7]
      rw [eor, wid1 (by omega)]
      have hd7 : digs (s.take (i + 1)) ≤ 562949953421311 := by
        have := digs_lt (s.take (i + 1))
        rw [List.length_take, Nat.min_eq_left (by omega)] at this
        have h2 : 128 ^ (i + 1) ≤ 128 ^ 7 := Nat.pow_le_pow_right (by omega) (by omega)
        omega
      refine Ev.ite (fun hc => ?_) (fun hc => ?_)
      · have hlt : b.toNat < 128 := by
          have := of_decide_eq_true hc
          simpa [UInt8.lt_iff_toNat_lt] using this
        refine Ev.bind (iVar _) ?_
        rw [varI_nat _ hd7, cut0 (by omega)]
        simp only [Option.bind_some]
        refine Ev.ite (fun hne => ?_) (fun hne => ?_)
        · refine (Ev.pure _).to ?_
          unfold rvP
          cases hd : dv 7 s with
          | none => rfl
          | some p =>
            obtain ⟨n, z⟩ := p
            obtain ⟨h1, h2, h3, _, _⟩ := dv_ok hd
            have hz : z = i + 1 := by
              obtain ⟨c, hc'⟩ := atLt (xs := s) (i := z - 1) (by omega)
              have l1 := (dv_bytes hd hc').2 (by omega)
              have l2 : ¬ z - 1 < i := fun h => by have := hb (z - 1) c h hc'; omega
              have l3 : ¬ i + 1 < z := fun h => by have := (dv_bytes hd hb').1 h; omega
              omega
            subst hz
            have := (dv_take' hd).2
            rw [this] at hne; simp at hne
        · refine (Ev.pure _).to ?_
          have he : varE (digs (s.take (i + 1))) = s.take (i + 1) := by simpa using hne
          unfold rvP
          rw [dv_take (by omega) (by omega) (by omega) he]
      · refine ih (i + 1) (by omega) (by omega) (fun j c hj hc' => ?_)
        by_cases hji : j < i
        · exact hb j c hji hc'
        · have : j = i := by omega
          subst this
          rw [hb'] at hc'; cases hc'
          have := of_decide_eq_false hc
          simpa [UInt8.lt_iff_toNat_lt] using this
  simp only [Fimpl_ReadVar]
  exact key s.length 0 (by omega) (by omega) (fun j b hj => by omega)
theorem iVarAt (s : List UInt8) (hs : s.length ≤ 1048576) (i : Nat) (hi : i ≤ s.length) : Ev (fun k => Fimpl_varAt k s (i : Int)) (match dv 7 (s.drop i) with | some (n, z) => ((n : Int), ((i + z : Nat) : Int)) | none => (-1, (i : Int))) := by
  simp only [Fimpl_varAt]
  rw [cutEnd hi]
  simp only [Option.bind_some]
  refine Ev.bind (iReadVar _ (by rw [List.length_drop]; omega)) ?_
  simp only [rvP]
  cases hdv : dv 7 (s.drop i) with
  | none => exact Ev.pure _
  | some q =>
    obtain ⟨n, z⟩ := q
    obtain ⟨z1, z2, z3, _, _⟩ := dv_ok hdv
    simp only
    rw [show ((z : Int) == 0) = false by simp; omega, show IntKind.i64.wrap ((i : Int) + (z : Int)) = ((i + z : Nat) : Int) by rw [wid (by omega) (by omega)]; omega]
    exact Ev.pure _
theorem and255 (x : Int) : 0 ≤ Go.bits .and .i64 x 255 ∧ Go.bits .and .i64 x 255 ≤ 255 := by
  have h : (BitVec.ofInt 64 x &&& BitVec.ofInt 64 255).toNat ≤ 255 := by
    rw [BitVec.toNat_and]; exact Nat.and_le_right
  show 0 ≤ IntKind.i64.wrap ((BitVec.ofInt 64 x &&& BitVec.ofInt 64 255).toNat : Int) ∧ IntKind.i64.wrap ((BitVec.ofInt 64 x &&& BitVec.ofInt 64 255).toNat : Int) ≤ 255
  rw [wid (by omega) (by omega)]; omega
/-- A cursor stands within its text. -/
def Good (c : Tspec_l1Cur) : Prop := 0 ≤ c.i ∧ c.b.length ≤ 1048576
theorem byteE (c : Tspec_l1Cur) (h : Good c) : EvP (fun k => Fspec_l1Byte k c) (fun r => 0 ≤ r.1 ∧ r.1 ≤ 255 ∧ Good r.2) := by
  obtain ⟨b, i, hh⟩ := c
  obtain ⟨h1, h2⟩ := h
  simp only at h1 h2
  simp only [Fspec_l1Byte]
  refine EvP.ite (fun hl => ?_) (fun _ => EvP.pure ⟨(and255 _).1, (and255 _).2, h1, h2⟩)
  have hl := of_decide_eq_true hl
  obtain ⟨n, rfl⟩ : ∃ n : Nat, i = n := ⟨i.toNat, by omega⟩
  obtain ⟨x, hx⟩ := atLt (xs := b) (i := n) (by omega)
  refine EvP.at? hx (EvP.pure ⟨(and255 _).1, (and255 _).2, ?_, h2⟩)
  show 0 ≤ IntKind.i64.wrap ((n : Int) + 1)
  rw [wid1 (by omega)]; omega
theorem tmodIn {v n : Int} (h : 0 ≤ v) (hn : 0 < n) : 0 ≤ Int.tmod v n ∧ Int.tmod v n < n := ⟨Int.tmod_nonneg n h, Int.tmod_lt_of_pos v hn⟩
theorem belowE (n : Int) (c : Tspec_l1Cur) (hn : 0 < n) (h : Good c) : EvP (fun k => Fspec_l1Below k n c) (fun r => 0 ≤ r.1 ∧ r.1 < n ∧ Good r.2) := by
  simp only [Fspec_l1Below]
  rw [decide_eq_false (p := n ≤ 0) (by omega)]
  have hz : (!(n == 0)) = true := by simp; omega
  simp only [cond_false, hz, cond_true]
  refine EvP.ite (fun _ => ?_) (fun _ => ?_)
  · exact (byteE c h).bind fun r hr => EvP.pure ⟨(tmodIn hr.1 hn).1, (tmodIn hr.1 hn).2, hr.2.2⟩
  · refine (byteE c h).bind fun r1 h1 => (byteE r1.2 h1.2.2).bind fun r2 h2 => (byteE r2.2 h2.2.2).bind fun r3 h3 => (byteE r3.2 h3.2.2).bind fun r4 h4 => EvP.pure ?_
    have a1 := h1.1; have b1 := h1.2.1; have a2 := h2.1; have b2 := h2.2.1; have a3 := h3.1; have b3 := h3.2.1; have a4 := h4.1; have b4 := h4.2.1
    generalize r1.1 = v1 at *; generalize r2.1 = v2 at *; generalize r3.1 = v3 at *; generalize r4.1 = v4 at *
    have hs : 0 ≤ IntKind.i64.wrap ((IntKind.i64.wrap ((IntKind.i64.wrap ((IntKind.i64.wrap (v1 * (16777216 : Int))) + (IntKind.i64.wrap (v2 * (65536 : Int))))) + (IntKind.i64.wrap (v3 * (256 : Int))))) + v4) := by
      rw [wid (n := v1 * 16777216) (by omega) (by omega), wid (n := v2 * 65536) (by omega) (by omega), wid (n := v3 * 256) (by omega) (by omega)]
      rw [wid (n := v1 * 16777216 + v2 * 65536) (by omega) (by omega), wid (n := v1 * 16777216 + v2 * 65536 + v3 * 256) (by omega) (by omega), wid (by omega) (by omega)]
      omega
    exact ⟨(tmodIn hs hn).1, (tmodIn hs hn).2, h4.2.2⟩
theorem onceE (n : Int) (c : Tspec_l1Cur) (hn : 0 < n) (h : Good c) : EvP (fun k => Fspec_l1Once k n c) (fun r => Good r.2) := by
  simp only [Fspec_l1Once]
  exact (belowE n c hn h).bind fun r hr => EvP.pure hr.2.2
theorem newE (a : List UInt8) (ha : a.length ≤ 1048576) : EvP (fun k => Fspec_l1New k a) Good := by
  simp only [Fspec_l1New]
  have go : ∀ m (i : Nat) (h : Int), i + m = 4000 → EvP (fun k => Fspec_l1New.l3 k a h (i : Int)) Good := by
    intro m
    induction m with
    | zero =>
      intro i h hi
      refine EvP.succ ?_
      simp only [Fspec_l1New.l3, Fspec_l1New.j2]
      rw [decide_eq_false (p := (i : Int) < 4000) (by omega)]
      refine EvP.ite (fun _ => EvP.pure ⟨by simp, ha⟩) (fun _ => EvP.pure ⟨by simp, ha⟩)
    | succ m ih =>
      intro i h hi
      refine EvP.succ ?_
      simp only [Fspec_l1New.l3, Fspec_l1New.j2]
      refine EvP.ite (fun hl => ?_) (fun _ => EvP.pure ⟨by simp, ha⟩)
      have hl := of_decide_eq_true hl
      obtain ⟨x, hx⟩ := atLt (xs := a) (i := i) (by omega)
      rw [decide_eq_true (p := (i : Int) < 4000) (by omega), wid1 (by omega)]
      exact EvP.at? hx (ih (i + 1) _ (by omega))
  exact go 4000 0 _ (by omega)
theorem pickE (l : List Int) (c : Tspec_l1Cur) (hn : 0 < l.length) (h : Good c) : EvP (fun k => Fspec_l1PickInt k l c) (fun r => r.1 ∈ l ∧ Good r.2) := by
  simp only [Fspec_l1PickInt]
  refine (belowE (l.length : Int) c (by omega) h).bind fun r hr => ?_
  obtain ⟨n, hn'⟩ : ∃ n : Nat, r.1 = n := ⟨r.1.toNat, by have := hr.1; omega⟩
  have := hr.2.1
  obtain ⟨x, hx⟩ := atLt (xs := l) (i := n) (by omega)
  rw [hn']
  exact EvP.at? hx (EvP.pure ⟨List.mem_of_getElem? hx, hr.2.2⟩)
theorem bigE (k : Nat) (a : List UInt8) : Flaws_big k a = some (decide (1048576 < a.length)) := by
  unfold Flaws_big
  congr 1
  exact decide_eq_decide.2 (by omega)
theorem textE (n : Int) (c : Tspec_l1Cur) (hn : 0 ≤ n) (hn2 : n ≤ 1048576) (h : Good c) : EvP (fun k => Fspec_l1Text k n c) (fun r => r.1.length ≤ n.toNat ∧ Good r.2) := by
  have go : ∀ (m : Nat) (out : List UInt8) (q : Int) (c : Tspec_l1Cur), out.length + m ≤ 2097152 → Good c → EvP (fun k => Fspec_l1Text.l22 k out q (m : Int) c.b c.i c.h) (fun r => r.1.length = out.length + m ∧ Good r.2) := by
    intro m
    induction m with
    | zero =>
      intro out q c ho hc
      refine EvP.succ ?_
      simp only [Fspec_l1Text.l22]
      exact EvP.pure ⟨rfl, hc⟩
    | succ m ih =>
      intro out q c ho hc
      refine EvP.succ ?_
      have key : ∀ (z : Int) (c' : Tspec_l1Cur), Good c' → EvP (fun k => Fspec_l1Text.j26 (Fspec_l1Text.l22 k) k out q ((m + 1 : Nat) : Int) z c'.b c'.i c'.h) (fun r => r.1.length = out.length + (m + 1) ∧ Good r.2) := by
        intro z c' g
        simp only [Fspec_l1Text.j26]
        rw [decide_eq_true (by simp; omega), wid (by omega) (by omega), show ((m + 1 : Nat) : Int) - 1 = (m : Int) by omega]
        exact (ih (out ++ [ofI z]) q c' (by simp; omega) g).mono fun r hr => ⟨by rw [hr.1]; simp; omega, hr.2⟩
      simp only [Fspec_l1Text.l22, Fspec_l1Text.j25]
      rw [decide_eq_true (by omega), show (⟨c.b, c.i, c.h⟩ : Tspec_l1Cur) = c from rfl]
      simp only [cond_true]
      refine (byteE c hc).bind fun r hr => ?_
      refine EvP.ite (fun _ => EvP.ite (fun _ => key _ r.2 hr.2.2) (fun _ => key _ r.2 hr.2.2)) (fun _ => EvP.ite (fun _ => key _ r.2 hr.2.2) (fun _ => key _ r.2 hr.2.2))
  simp only [Fspec_l1Text]
  rw [wid (n := n + 1) (by omega) (by omega)]
  refine (belowE 4 c (by omega) h).bind fun r1 h1 => (belowE (n + 1) r1.2 (by omega) h1.2.2).bind fun r2 h2 => ?_
  obtain ⟨m, hm⟩ : ∃ m : Nat, r2.1 = m := ⟨r2.1.toNat, by have := h2.1; omega⟩
  have := h2.2.1
  rw [hm]
  exact (go m [] r1.1 r2.2 (by simp; omega) h2.2.2).mono fun r hr => ⟨by rw [hr.1]; simp; omega, hr.2⟩
theorem cutT {l : List UInt8} {a b : Int} (ha : 0 ≤ a) (hab : a ≤ b) (hb : b ≤ l.length) : ∃ v, cut? l a b = some v ∧ v.length = (b - a).toNat := by
  refine ⟨_, if_pos ⟨ha, hab, hb⟩, ?_⟩
  simp; omega
theorem spoilE (a : List UInt8) (c : Tspec_l1Cur) (ha : a.length ≤ 1048573) (h : Good c) : EvP (fun k => Fspec_l1Spoil k a c) (fun r => r.1.length ≤ a.length + 3 ∧ Good r.2) := by
  simp only [Fspec_l1Spoil]
  refine EvP.ite (fun _ => ?_) (fun h0 => ?_)
  · exact (textE 3 c (by omega) (by omega) h).bind fun r hr => EvP.pure ⟨by have := hr.1; simp only; omega, hr.2⟩
  · have h0 : (a.length : Int) ≠ 0 := fun e => by rw [e] at h0; cases h0
    refine (belowE (a.length : Int) c (by omega) h).bind fun r1 h1 => (belowE 4 r1.2 (by omega) h1.2.2).bind fun r2 h2 => ?_
    obtain ⟨i1, i2, _⟩ := h1
    obtain ⟨p, hp, lp⟩ := cutT (l := a) (a := 0) (b := r1.1) (by omega) (by omega) (by omega)
    obtain ⟨q, hq, lq⟩ := cutT (l := a) (a := r1.1 + 1) (b := (a.length : Int)) (by omega) (by omega) (by omega)
    obtain ⟨r, hr, lr⟩ := cutT (l := a) (a := r1.1) (b := (a.length : Int)) (by omega) (by omega) (by omega)
    obtain ⟨n, hn⟩ : ∃ n : Nat, r1.1 = n := ⟨r1.1.toNat, by omega⟩
    obtain ⟨x, hx⟩ := atLt (xs := a) (i := n) (by omega)
    rw [wid (n := r1.1 + 1) (by omega) (by omega)]
    simp only [hp, hq, hr, Option.bind_some]
    refine EvP.ite (fun _ => ?_) (fun _ => EvP.ite (fun _ => ?_) (fun _ => EvP.ite (fun _ => ?_) (fun _ => ?_)))
    · rw [decide_eq_true (by omega)]
      exact EvP.pure ⟨by simp; omega, h2.2.2⟩
    · refine (byteE r2.2 h2.2.2).bind fun r3 h3 => ?_
      rw [decide_eq_true (by simp; omega)]
      simp only [cond_true]
      rw [decide_eq_true (by simp; omega)]
      exact EvP.pure ⟨by simp; omega, h3.2.2⟩
    · exact EvP.pure ⟨by simp only; omega, h2.2.2⟩
    · rw [hn]
      refine EvP.at? hx ((belowE 255 r2.2 (by omega) h2.2.2).bind fun r3 h3 => ?_)
      rw [decide_eq_true (by simp; omega)]
      simp only [cond_true]
      rw [decide_eq_true (by simp; omega)]
      exact EvP.pure ⟨by simp; omega, h3.2.2⟩
def Ris (l : List Int) (n : Nat) : Prop := ∀ j c b, j + 1 < n → l[j]? = some c → l[j + 1]? = some b → c < b
def Inn (l : List Int) (n : Nat) : Prop := ∀ j b, j < n → l[j]? = some b → 0 ≤ b ∧ b ≤ 30
noncomputable def setOk (l : List Int) : Bool := @decide (Inn l l.length ∧ Ris l l.length) (Classical.propDecidable _)
theorem setOk_true {l : List Int} : setOk l = true ↔ Inn l l.length ∧ Ris l l.length := by
  unfold setOk
  exact @decide_eq_true_iff _ (Classical.propDecidable _)
theorem Inn.succ {l : List Int} {i : Nat} {b : Int} (h : Inn l i) (hb : l[i]? = some b) (h2 : 0 ≤ b ∧ b ≤ 30) : Inn l (i + 1) := by
  intro j c hj hc
  by_cases e : j = i
  · subst e; rw [hb] at hc; cases hc; exact h2
  · exact h j c (by omega) hc
theorem Ris.succ {l : List Int} {i : Nat} {c b : Int} (h : Ris l (i + 1)) (hc : l[i]? = some c) (hb : l[i + 1]? = some b) (h2 : c < b) : Ris l (i + 2) := by
  intro j c' b' hj hc' hb'
  by_cases e : j = i
  · subst e; rw [hb] at hb'; rw [hc] at hc'; cases hb'; cases hc'; exact h2
  · exact h j c' b' (by omega) hc' hb'
theorem sSet (k : Nat) (l : List Int) (hk : l.length + 1 ≤ k) (hl : l.length ≤ 1048576) : Fspec_l17Set k l = some (setOk l) := by
  unfold Fspec_l17Set
  have := loop0 (L := fun k (_ : Unit) i => Fspec_l17Set.l7 k l i) (xs := l) (k := k) (s := ()) (I := fun i _ => Inn l i ∧ Ris l i) (Q := fun r => r = setOk l) 0 (by omega) ⟨fun j b h => absurd h (by omega), fun j c b h => absurd h (by omega)⟩ ?_ ?_
  · obtain ⟨r, h1, rfl⟩ := this
    exact h1
  · intro k _ i b _ hb hi ⟨i1, i2⟩
    simp only [Fspec_l17Set.l7, Fspec_l17Set.j8]
    rw [ltD hi, atN hb, wid1 (by omega)]
    simp only [cond_true, Option.bind_some, sIn]
    by_cases hin : isIn b 0 30 = true
    · have h2 : 0 ≤ b ∧ b ≤ 30 := of_decide_eq_true hin
      rw [hin]
      simp only [Bool.not_true, cond_false]
      cases i with
      | zero =>
        rw [decide_eq_false (by omega)]
        exact .inl ⟨(), rfl, i1.succ hb h2, fun j c b h => absurd h (by omega)⟩
      | succ i =>
        rw [decide_eq_true (by omega), wid (by omega) (by omega), show ((i + 1 : Nat) : Int) - 1 = (i : Int) by omega]
        obtain ⟨c, hc⟩ := atLt (xs := l) (i := i) (by omega)
        rw [atN hc]
        simp only [cond_true, Option.bind_some]
        by_cases h3 : c ≥ b
        · rw [decide_eq_true h3]
          refine .inr ⟨false, rfl, ?_⟩
          refine (Bool.eq_false_iff.2 fun h => ?_).symm
          have := (setOk_true.1 h).2 i c b (by omega) hc hb
          omega
        · rw [decide_eq_false h3]
          exact .inl ⟨(), rfl, i1.succ hb h2, i2.succ hc hb (by omega)⟩
    · rw [Bool.eq_false_iff.2 hin]
      refine .inr ⟨false, rfl, ?_⟩
      refine (Bool.eq_false_iff.2 fun h => hin ?_).symm
      exact decide_eq_true ((setOk_true.1 h).1 i b hi hb)
  · intro k _ _ hI
    simp only [Fspec_l17Set.l7]
    rw [ltD0]
    exact ⟨true, rfl, (setOk_true.2 hI).symm⟩
theorem iRises (k : Nat) (l : List Int) (hk : l.length + 2 ≤ k) (hl : l.length ≤ 1048576) : ∃ r, Fimpl_rises k l = some r ∧ (r = true ↔ Ris l l.length) := by
  unfold Fimpl_rises
  by_cases h0 : l.length = 0
  · obtain ⟨k, rfl⟩ : ∃ j, k = j + 1 := ⟨k - 1, by omega⟩
    simp only [Fimpl_rises.l2]
    rw [decide_eq_false (by omega)]
    exact ⟨true, rfl, fun _ j c b h => absurd h (by omega), fun _ => rfl⟩
  · refine loopInv (L := fun k (_ : Unit) i => Fimpl_rises.l2 k l i) (xs := l) (I := fun i _ => 0 < i ∧ Ris l i) (Q := fun r => (r = true ↔ Ris l l.length)) (n0 := 0) ?_ ?_ (l.length - 1) 1 k () (by omega) (by omega) ⟨by omega, fun j c b h => absurd h (by omega)⟩
    · intro k _ i b _ hb hi ⟨i0, i2⟩
      obtain ⟨i, rfl⟩ : ∃ j, i = j + 1 := ⟨i - 1, by omega⟩
      obtain ⟨c, hc⟩ := atLt (xs := l) (i := i) (by omega)
      simp only [Fimpl_rises.l2]
      rw [ltD hi, atN hb, wid1 (by omega), wid (by omega) (by omega), show ((i + 1 : Nat) : Int) - 1 = (i : Int) by omega, atN hc]
      simp only [cond_true, Option.bind_some]
      by_cases h3 : c ≥ b
      · rw [decide_eq_true h3]
        refine .inr ⟨false, rfl, fun h => by (cases h), fun h => ?_⟩
        have := h i c b (by omega) hc hb
        omega
      · rw [decide_eq_false h3]
        exact .inl ⟨(), rfl, by omega, i2.succ hc hb (by omega)⟩
    · intro k _ _ ⟨_, hI⟩
      simp only [Fimpl_rises.l2]
      rw [ltD0]
      exact ⟨true, rfl, fun _ => hI, fun _ => rfl⟩
theorem iAll (k : Nat) (l : List Int) (hk : l.length + 1 ≤ k) (hl : l.length ≤ 1048576) : ∃ r, Fimpl_areAll__impl_areSet_1 k l 31 = some r ∧ (r = true ↔ Inn l l.length ∧ l.length ≤ 31) := by
  unfold Fimpl_areAll__impl_areSet_1
  refine loop0 (L := fun k (_ : Unit) i => Fimpl_areAll__impl_areSet_1.l2 k l 31 (l.length : Int) i) (xs := l) (s := ()) (I := fun i _ => Inn l i) (Q := fun r => (r = true ↔ Inn l l.length ∧ l.length ≤ 31)) 0 (by omega) (fun j b h => absurd h (by omega)) ?_ ?_
  · intro k _ i b _ hb hi i1
    simp only [Fimpl_areAll__impl_areSet_1.l2, Fimpl_areSet_1]
    rw [ltD hi, atN hb, wid1 (by omega)]
    simp only [cond_true, Option.bind_some, iIn]
    by_cases hin : isIn b 0 30 = true
    · rw [hin]
      exact .inl ⟨(), rfl, i1.succ hb (of_decide_eq_true hin)⟩
    · rw [Bool.eq_false_iff.2 hin]
      refine .inr ⟨false, rfl, fun h => by (cases h), fun h => absurd (decide_eq_true (h.1 i b hi hb)) hin⟩
  · intro k _ _ hI
    simp only [Fimpl_areAll__impl_areSet_1.l2]
    rw [ltD0]
    refine ⟨_, rfl, ?_⟩
    rw [decide_eq_true_iff]
    exact ⟨fun h => ⟨hI, by omega⟩, fun h => by omega⟩
theorem short {l : List Int} (h1 : Inn l l.length) (h2 : Ris l l.length) : l.length ≤ 31 := by
  have hv : ∀ (j : Nat) (b : Int), l[j]? = some b → (j : Int) ≤ b := by
    intro j
    induction j with
    | zero =>
      intro b hb
      have := (List.getElem?_eq_some_iff.1 hb).1
      have := h1 0 b (by omega) hb
      omega
    | succ j ih =>
      intro b hb
      have hj := (List.getElem?_eq_some_iff.1 hb).1
      obtain ⟨c, hc⟩ := atLt (xs := l) (i := j) (by omega)
      have := ih c hc
      have := h2 j c b hj hc hb
      omega
  by_cases h : l.length = 0
  · omega
  · obtain ⟨b, hb⟩ := atLt (xs := l) (i := l.length - 1) (by omega)
    have := hv _ b hb
    have := h1 _ b (by omega) hb
    omega
theorem iSet (k : Nat) (l : List Int) (hk : l.length + 2 ≤ k) (hl : l.length ≤ 1048576) : Fimpl_areSet k l = some (setOk l) := by
  unfold Fimpl_areSet
  obtain ⟨r, h1, h2⟩ := iRises k l hk hl
  obtain ⟨q, h3, h4⟩ := iAll k l (by omega) hl
  rw [h1, Option.bind_some]
  cases r
  · refine congrArg some (Eq.symm (Bool.eq_false_iff.2 fun h => ?_))
    exact absurd (h2.2 (setOk_true.1 h).2) (by decide)
  · simp only [cond_true, h3, Option.bind_some]
    refine congrArg some (Bool.eq_iff_iff.2 ⟨fun h => setOk_true.2 ⟨(h4.1 h).1, h2.1 rfl⟩, fun h => h4.2 ?_⟩)
    have h := setOk_true.1 h
    exact ⟨h.1, short h.1 h.2⟩
noncomputable def ruleOk (a : Timpl_Rule) : Bool := cond (isIn a.Kind 1 3) (cond (a.N == 0) (setOk a.Set) false) (cond (isIn a.Kind 4 5) (cond ((a.Set.length : Int) == 0) (isIn a.N 0 100000) false) false)
theorem sRule (k : Nat) (a : Timpl_Rule) (hk : a.Set.length + 1 ≤ k) (hl : a.Set.length ≤ 1048576) : Fspec_l17Ok k a = some (ruleOk a) := by
  unfold Fspec_l17Ok ruleOk
  simp only [sIn, Option.bind_some, sSet k a.Set hk hl]
  cases isIn a.Kind 1 3 <;> cases isIn a.Kind 4 5 <;> cases a.N == 0 <;> cases (a.Set.length : Int) == 0 <;> rfl
theorem iRule (k : Nat) (a : Timpl_Rule) (hk : a.Set.length + 2 ≤ k) (hl : a.Set.length ≤ 1048576) : Fimpl_ruleOk k a = some (ruleOk a) := by
  unfold Fimpl_ruleOk ruleOk
  simp only [Fimpl_ruleOk.j3, Fimpl_ruleOk.j4, Fimpl_isTime, iIn, Option.bind_some, iSet k a.Set hk hl]
  by_cases h1 : a.Kind = 1
  · rw [h1]; cases setOk a.Set <;> cases a.N == 0 <;> rfl
  by_cases h2 : a.Kind = 2
  · rw [h2]; cases setOk a.Set <;> cases a.N == 0 <;> rfl
  by_cases h3 : a.Kind = 3
  · rw [h3]; cases setOk a.Set <;> cases a.N == 0 <;> rfl
  by_cases h4 : a.Kind = 4
  · rw [h4]; cases isIn a.N 0 100000 <;> cases (a.Set.length : Int) == 0 <;> rfl
  by_cases h5 : a.Kind = 5
  · rw [h5]; cases isIn a.N 0 100000 <;> cases (a.Set.length : Int) == 0 <;> rfl
  have e1 : isIn a.Kind 1 3 = false := by unfold isIn; exact decide_eq_false (by omega)
  have e2 : isIn a.Kind 4 5 = false := by unfold isIn; exact decide_eq_false (by omega)
  rw [beq_eq_false_iff_ne.2 h1, beq_eq_false_iff_ne.2 h2, beq_eq_false_iff_ne.2 h3, beq_eq_false_iff_ne.2 h4, beq_eq_false_iff_ne.2 h5, e1, e2]
  rfl
noncomputable def rulesOk (l : List Timpl_Rule) : Bool := decide (l.length ≤ 20) && l.all ruleOk
theorem all_take {α : Type} {p : α → Bool} {xs : List α} {i : Nat} {b : α} (hb : xs[i]? = some b) (h : (xs.take i).all p = true) (hp : p b = true) : (xs.take (i + 1)).all p = true := by
  rw [take_succ_get hb, List.all_append, h]; simp [hp]
theorem all_false {α : Type} {p : α → Bool} {xs : List α} {i : Nat} {b : α} (hb : xs[i]? = some b) (hp : p b = false) : xs.all p = false := by
  rw [Bool.eq_false_iff]
  intro h
  have := List.all_eq_true.1 h b (List.mem_of_getElem? hb)
  rw [hp] at this; cases this
theorem sRules (k : Nat) (l : List Timpl_Rule) (hk : l.length + 1048580 ≤ k) (hl : l.length ≤ 1048576) (hs : ∀ x ∈ l, x.Set.length ≤ 1048576) : Fspec_RulesOk k l = some (rulesOk l) := by
  unfold Fspec_RulesOk rulesOk
  by_cases h : (l.length : Int) > 20
  · rw [decide_eq_true h, decide_eq_false (by omega)]; rfl
  rw [decide_eq_false h, decide_eq_true (by omega)]
  simp only [cond_false, Bool.true_and]
  have := loop0 (L := fun k (_ : Unit) i => Fspec_RulesOk.l2 k l i) (xs := l) (k := k) (s := ()) (I := fun i _ => (l.take i).all ruleOk = true) (Q := fun r => r = l.all ruleOk) 1048578 (by omega) (by simp) ?_ ?_
  · obtain ⟨r, h1, rfl⟩ := this
    exact h1
  · intro k _ i b hk hb hi hI
    simp only [Fspec_RulesOk.l2]
    rw [ltD hi, atN hb, wid1 (by omega)]
    have hbl := hs b (List.mem_of_getElem? hb)
    simp only [cond_true, Option.bind_some, sRule k b (by omega) hbl]
    cases hp : ruleOk b
    · exact .inr ⟨false, rfl, (all_false hb hp).symm⟩
    · exact .inl ⟨(), rfl, all_take hb hI hp⟩
  · intro k _ _ hI
    simp only [Fspec_RulesOk.l2]
    rw [ltD0]
    rw [List.take_length] at hI
    exact ⟨_, rfl, hI.symm⟩
theorem iRules (k : Nat) (l : List Timpl_Rule) (hk : l.length + 1048580 ≤ k) (hl : l.length ≤ 1048576) (hs : ∀ x ∈ l, x.Set.length ≤ 1048576) : Fimpl_RulesOk k l = some (rulesOk l) := by
  unfold Fimpl_RulesOk rulesOk
  by_cases h : 20 < l.length
  · rw [decide_eq_false (p := (l.length : Int) ≤ 20) (by omega), decide_eq_false (by omega)]; rfl
  rw [decide_eq_true (p := (l.length : Int) ≤ 20) (by omega), decide_eq_true (p := l.length ≤ 20) (by omega)]
  simp only [cond_true, Bool.true_and]
  have := loop0 (L := fun k (_ : Unit) i => Fslices_IndexFunc_Rule__impl_RulesOk_1.l2 k l (l.length : Int) i) (xs := l) (k := k) (s := ()) (I := fun i _ => (l.take i).all ruleOk = true) (Q := fun r => decide (r ≥ 0) = !(l.all ruleOk)) 1048578 (by omega) (by simp) ?_ ?_
  · obtain ⟨r, h1, h2⟩ := this
    unfold Fslices_ContainsFunc_Rule__impl_RulesOk_1 Fslices_IndexFunc_Rule__impl_RulesOk_1
    rw [h1, Option.bind_some, h2, Option.bind_some, Bool.not_not]
  · intro k _ i b hk hb hi hI
    simp only [Fslices_IndexFunc_Rule__impl_RulesOk_1.l2, Fimpl_RulesOk_1]
    rw [ltD hi, atN hb, wid1 (by omega)]
    have hbl := hs b (List.mem_of_getElem? hb)
    simp only [cond_true, Option.bind_some, iRule k b (by omega) hbl]
    cases hp : ruleOk b
    · refine .inr ⟨_, rfl, ?_⟩
      rw [all_false hb hp, decide_eq_true (by omega)]; rfl
    · exact .inl ⟨(), rfl, all_take hb hI hp⟩
  · intro k _ _ hI
    simp only [Fslices_IndexFunc_Rule__impl_RulesOk_1.l2]
    rw [ltD0]
    rw [List.take_length] at hI
    refine ⟨_, rfl, ?_⟩
    rw [hI]; rfl
theorem ruleOk_facts {a : Timpl_Rule} (h : ruleOk a = true) : 0 ≤ a.Kind ∧ a.Kind ≤ 5 ∧ 0 ≤ a.N ∧ a.N ≤ 100000 ∧ a.Set.length ≤ 31 ∧ ∀ x ∈ a.Set, 0 ≤ x ∧ x ≤ 30 := by
  unfold ruleOk at h
  cases h1 : isIn a.Kind 1 3
  · rw [h1] at h
    cases h2 : isIn a.Kind 4 5
    · rw [h2] at h; exact absurd h Bool.false_ne_true
    rw [h2] at h
    cases h3 : (a.Set.length : Int) == 0
    · rw [h3] at h; exact absurd h Bool.false_ne_true
    rw [h3] at h
    simp only [cond_true, cond_false] at h
    unfold isIn at h h2
    simp only [decide_eq_true_eq] at h h2
    have h4 : a.Set.length = 0 := by have := eq_of_beq h3; omega
    have h5 : a.Set = [] := List.eq_nil_of_length_eq_zero h4
    exact ⟨by omega, by omega, by omega, by omega, by omega, by rw [h5]; intro x hx; cases hx⟩
  · rw [h1] at h
    cases h2 : a.N == 0
    · rw [h2] at h; exact absurd h Bool.false_ne_true
    rw [h2] at h
    simp only [cond_true] at h
    unfold isIn at h1
    simp only [decide_eq_true_eq] at h1
    have h3 := eq_of_beq h2
    obtain ⟨h4, h5⟩ := setOk_true.1 h
    refine ⟨by omega, by omega, by omega, by omega, short h4 h5, fun x hx => ?_⟩
    obtain ⟨j, hj⟩ := List.mem_iff_getElem?.1 hx
    exact h4 j x (List.getElem?_eq_some_iff.1 hj).1 hj
def vE (x : Int) : List UInt8 := varE x.toNat
def setE (l : List Int) : List UInt8 := l.flatMap vE
def rulE (a : Timpl_Rule) : List UInt8 := vE a.Kind ++ vE a.N ++ varE a.Set.length ++ setE a.Set
noncomputable def showR (l : List Timpl_Rule) : List UInt8 := if rulesOk l = true then varE l.length ++ l.flatMap rulE else []
theorem vE_len {x : Int} (h0 : 0 ≤ x) (h : x ≤ 100000) : (vE x).length ≤ 3 := varE_len 2 x.toNat (by omega)
theorem vN_len {n : Nat} (h : n ≤ 100000) : (varE n).length ≤ 3 := varE_len 2 n (by omega)
theorem sVE {x : Int} (h0 : 0 ≤ x) (h : x ≤ 100000) : Ev (fun k => Fspec_Var k x) (vE x) := (sVar x).to (by unfold varI; rw [if_pos (by omega)]; rfl)
theorem iVE {x : Int} (h0 : 0 ≤ x) (h : x ≤ 100000) : Ev (fun k => Fimpl_Var k x) (vE x) := (iVar x).to (by unfold varI; rw [if_pos (by omega)]; rfl)
theorem setE_len : ∀ (l : List Int), (∀ x ∈ l, 0 ≤ x ∧ x ≤ 30) → (setE l).length ≤ 3 * l.length
  | [], _ => by simp [setE]
  | x :: l, h => by
    have h1 := setE_len l fun y hy => h y (List.mem_cons_of_mem _ hy)
    have h2 := h x (List.mem_cons_self ..)
    have h3 := vE_len h2.1 (by omega)
    unfold setE at h1 ⊢
    simp only [List.flatMap_cons, List.length_append, List.length_cons]
    omega
theorem rulE_len {a : Timpl_Rule} (h : ruleOk a = true) : (rulE a).length ≤ 102 := by
  obtain ⟨f1, f2, f3, f4, f5, f6⟩ := ruleOk_facts h
  have := vE_len f1 (by omega); have := vE_len f3 f4; have := vN_len (n := a.Set.length) (by omega); have := setE_len a.Set f6
  unfold rulE
  simp only [List.length_append]; omega
theorem flat_le {α : Type} {f : α → List UInt8} {c : Nat} : ∀ {l : List α}, (∀ x ∈ l, (f x).length ≤ c) → (l.flatMap f).length ≤ c * l.length
  | [], _ => by simp
  | x :: l, h => by
    have h1 := h x List.mem_cons_self
    have h2 := flat_le (l := l) fun y hy => h y (List.mem_cons_of_mem _ hy)
    simp only [List.flatMap_cons, List.length_append, List.length_cons, Nat.mul_add, Nat.mul_one]; omega
theorem drop_flat {α : Type} {f : α → List UInt8} {l : List α} {j : Nat} {x : α} (h : l[j]? = some x) : (l.drop j).flatMap f = f x ++ (l.drop (j + 1)).flatMap f := by
  obtain ⟨h1, h2⟩ := List.getElem?_eq_some_iff.1 h
  rw [List.drop_eq_getElem_cons h1, h2, List.flatMap_cons]
theorem sShowIn {rs : List Timpl_Rule} {i : Nat} {a : Timpl_Rule} (ha : rs[i]? = some a) (hi : i ≤ 100) (hs : ∀ x ∈ a.Set, 0 ≤ x ∧ x ≤ 30) (hl : a.Set.length ≤ 31) {R : List UInt8} : ∀ (m j : Nat) (cl : Nat → List Timpl_Rule → List UInt8 → Int → Option (List UInt8)) (out : List UInt8), j + m = a.Set.length → out.length ≤ 10000 + 3 * j → Ev (fun k => cl k rs (out ++ setE (a.Set.drop j)) ((i + 1 : Nat) : Int)) R → Ev (fun k => Fspec_ShowRules.l14 (cl k) k rs out (i : Int) (j : Int)) R := by
  intro m
  induction m with
  | zero =>
    intro j cl out hj ho h
    refine Ev.succ ?_
    simp only [Fspec_ShowRules.l14]
    refine Ev.at? ha ?_
    rw [decide_eq_false (by omega), wid1 (i := i) (by omega)]
    rw [List.drop_of_length_le (by omega), show setE [] = [] from rfl, List.append_nil] at h
    simp only [cond_false]
    exact h.shift
  | succ m ih =>
    intro j cl out hj ho h
    obtain ⟨x, hx⟩ := atLt (xs := a.Set) (i := j) (by omega)
    have hx2 := hs x (List.mem_of_getElem? hx)
    have hv := vE_len hx2.1 (by omega)
    refine Ev.succ ?_
    simp only [Fspec_ShowRules.l14]
    refine Ev.at? ha ?_
    rw [decide_eq_true (p := (j : Int) < (a.Set.length : Int)) (by omega)]
    simp only [cond_true]
    refine Ev.at? ha (Ev.at? hx (Ev.bind (sVE hx2.1 (by omega)) ?_))
    rw [decide_eq_true (by omega), wid1 (by omega)]
    refine ih (j + 1) (fun k => cl (k + 1)) _ (by omega) (by simp; omega) ?_
    unfold setE at h ⊢
    rw [drop_flat hx, ← List.append_assoc] at h
    exact h.shift
theorem iShowIn {rs : List Timpl_Rule} {n : Int} {i : Nat} {a : Timpl_Rule} (hi : i ≤ 100) (hs : ∀ x ∈ a.Set, 0 ≤ x ∧ x ≤ 30) (hl : a.Set.length ≤ 31) {R : List UInt8} : ∀ (m j : Nat) (cl : Nat → List UInt8 → List Timpl_Rule → Int → Int → Option (List UInt8)) (out : List UInt8), j + m = a.Set.length → out.length ≤ 10000 + 3 * j → Ev (fun k => cl k (out ++ setE (a.Set.drop j)) rs n ((i + 1 : Nat) : Int)) R → Ev (fun k => Fimpl_ShowRules.l14 (cl k) k out rs n (i : Int) a (a.Set.length : Int) (j : Int)) R := by
  intro m
  induction m with
  | zero =>
    intro j cl out hj ho h
    refine Ev.succ ?_
    simp only [Fimpl_ShowRules.l14]
    rw [decide_eq_false (by omega), wid1 (i := i) (by omega)]
    rw [List.drop_of_length_le (by omega), show setE [] = [] from rfl, List.append_nil] at h
    simp only [cond_false]
    exact h.shift
  | succ m ih =>
    intro j cl out hj ho h
    obtain ⟨x, hx⟩ := atLt (xs := a.Set) (i := j) (by omega)
    have hx2 := hs x (List.mem_of_getElem? hx)
    have hv := vE_len hx2.1 (by omega)
    refine Ev.succ ?_
    simp only [Fimpl_ShowRules.l14]
    rw [decide_eq_true (p := (j : Int) < (a.Set.length : Int)) (by omega)]
    simp only [cond_true]
    refine Ev.at? hx (Ev.bind (iVE hx2.1 (by omega)) ?_)
    rw [decide_eq_true (by omega), wid1 (by omega)]
    refine ih (j + 1) (fun k => cl (k + 1)) _ (by omega) (by simp; omega) ?_
    unfold setE at h ⊢
    rw [drop_flat hx, ← List.append_assoc] at h
    exact h.shift
theorem sShowL {l : List Timpl_Rule} (h0 : l.length ≤ 20) (h : ∀ x ∈ l, ruleOk x = true) : ∀ (m i : Nat) (out : List UInt8), i + m = l.length → out.length ≤ 3 + 102 * i → Ev (fun k => Fspec_ShowRules.l12 k l out (i : Int)) (out ++ (l.drop i).flatMap rulE) := by
  intro m
  induction m with
  | zero =>
    intro i out hi ho
    refine Ev.succ ?_
    simp only [Fspec_ShowRules.l12]
    rw [decide_eq_false (by omega), List.drop_of_length_le (by omega)]
    simp only [cond_false, List.flatMap_nil, List.append_nil]
    exact Ev.pure _
  | succ m ih =>
    intro i out hi ho
    obtain ⟨a, ha⟩ := atLt (xs := l) (i := i) (by omega)
    have hok := h a (List.mem_of_getElem? ha)
    obtain ⟨f1, f2, f3, f4, f5, f6⟩ := ruleOk_facts hok
    have b1 := vE_len f1 (by omega); have b2 := vE_len f3 f4; have b3 := vN_len (n := a.Set.length) (by omega); have b4 := setE_len a.Set f6
    refine Ev.succ ?_
    simp only [Fspec_ShowRules.l12]
    rw [decide_eq_true (p := (i : Int) < (l.length : Int)) (by omega)]
    simp only [cond_true]
    refine Ev.at? ha (Ev.bind (sVE f1 (by omega)) ?_)
    rw [decide_eq_true (by omega)]
    simp only [cond_true]
    refine Ev.at? ha (Ev.bind (sVE f3 f4) ?_)
    rw [decide_eq_true (by simp only [List.length_append]; omega)]
    simp only [cond_true]
    refine Ev.at? ha (Ev.bind (sVE (x := (a.Set.length : Int)) (by omega) (by omega)) ?_)
    rw [show vE (a.Set.length : Int) = varE a.Set.length from by unfold vE; rw [Int.toNat_natCast]]
    rw [decide_eq_true (by simp only [List.length_append]; omega)]
    simp only [cond_true]
    have e : out ++ (l.drop i).flatMap rulE = (out ++ vE a.Kind ++ vE a.N ++ varE a.Set.length ++ setE a.Set) ++ (l.drop (i + 1)).flatMap rulE := by
      rw [drop_flat ha]; simp [rulE, List.append_assoc]
    rw [e]
    exact sShowIn ha (by omega) f6 f5 a.Set.length 0 (fun k => Fspec_ShowRules.l12 k) _ (by omega) (by simp only [List.length_append]; omega) (ih (i + 1) _ (by omega) (by simp only [List.length_append, List.drop_zero]; omega))
theorem iShowL {l : List Timpl_Rule} (h0 : l.length ≤ 20) (h : ∀ x ∈ l, ruleOk x = true) : ∀ (m i : Nat) (out : List UInt8), i + m = l.length → out.length ≤ 3 + 102 * i → Ev (fun k => Fimpl_ShowRules.l12 k out l (l.length : Int) (i : Int)) (out ++ (l.drop i).flatMap rulE) := by
  intro m
  induction m with
  | zero =>
    intro i out hi ho
    refine Ev.succ ?_
    simp only [Fimpl_ShowRules.l12]
    rw [decide_eq_false (by omega), List.drop_of_length_le (by omega)]
    simp only [cond_false, List.flatMap_nil, List.append_nil]
    exact Ev.pure _
  | succ m ih =>
    intro i out hi ho
    obtain ⟨a, ha⟩ := atLt (xs := l) (i := i) (by omega)
    have hok := h a (List.mem_of_getElem? ha)
    obtain ⟨f1, f2, f3, f4, f5, f6⟩ := ruleOk_facts hok
    have b1 := vE_len f1 (by omega); have b2 := vE_len f3 f4; have b3 := vN_len (n := a.Set.length) (by omega); have b4 := setE_len a.Set f6
    refine Ev.succ ?_
    simp only [Fimpl_ShowRules.l12]
    rw [decide_eq_true (p := (i : Int) < (l.length : Int)) (by omega)]
    simp only [cond_true]
    refine Ev.at? ha (Ev.bind (iVE f1 (by omega)) ?_)
    rw [decide_eq_true (by omega)]
    simp only [cond_true]
    refine Ev.bind (iVE f3 f4) ?_
    rw [decide_eq_true (by simp only [List.length_append]; omega)]
    simp only [cond_true]
    refine Ev.bind (iVE (x := (a.Set.length : Int)) (by omega) (by omega)) ?_
    rw [show vE (a.Set.length : Int) = varE a.Set.length from by unfold vE; rw [Int.toNat_natCast]]
    rw [decide_eq_true (by simp only [List.length_append]; omega)]
    simp only [cond_true]
    have e : out ++ (l.drop i).flatMap rulE = (out ++ vE a.Kind ++ vE a.N ++ varE a.Set.length ++ setE a.Set) ++ (l.drop (i + 1)).flatMap rulE := by
      rw [drop_flat ha]; simp [rulE, List.append_assoc]
    rw [e]
    exact iShowIn (by omega) f6 f5 a.Set.length 0 (fun k => Fimpl_ShowRules.l12 k) _ (by omega) (by simp only [List.length_append]; omega) (ih (i + 1) _ (by omega) (by simp only [List.length_append, List.drop_zero]; omega))
theorem rulesEv {l : List Timpl_Rule} (hl : l.length ≤ 1048576) (hs : ∀ x ∈ l, x.Set.length ≤ 1048576) : Ev (fun k => Fspec_RulesOk k l) (rulesOk l) ∧ Ev (fun k => Fimpl_RulesOk k l) (rulesOk l) := ⟨⟨l.length + 1048580, fun k hk => sRules k l hk hl hs⟩, ⟨l.length + 1048580, fun k hk => iRules k l hk hl hs⟩⟩
theorem rulesOk_iff {l : List Timpl_Rule} : rulesOk l = true ↔ l.length ≤ 20 ∧ ∀ x ∈ l, ruleOk x = true := by
  unfold rulesOk
  simp only [Bool.and_eq_true, decide_eq_true_eq, List.all_eq_true]
theorem showEv {l : List Timpl_Rule} (hl : l.length ≤ 1048576) (hs : ∀ x ∈ l, x.Set.length ≤ 1048576) : Ev (fun k => Fspec_ShowRules k l) (showR l) ∧ Ev (fun k => Fimpl_ShowRules k l) (showR l) := by
  obtain ⟨h1, h2⟩ := rulesEv hl hs
  simp only [Fspec_ShowRules, Fimpl_ShowRules]
  unfold showR
  cases hr : rulesOk l with
  | false =>
    rw [hr] at h1 h2
    rw [if_neg (by simp)]
    exact ⟨Ev.bind h1 (Ev.pure _), Ev.bind h2 (Ev.pure _)⟩
  | true =>
    rw [hr] at h1 h2
    rw [if_pos rfl]
    obtain ⟨h20, hok⟩ := rulesOk_iff.1 hr
    have hv : vE (l.length : Int) = varE l.length := by unfold vE; rw [Int.toNat_natCast]
    have hvl := vN_len (n := l.length) (by omega)
    constructor
    · refine Ev.bind h1 ?_
      simp only [Bool.not_true, cond_false]
      refine Ev.bind (sVE (by omega) (by omega)) ?_
      rw [hv]
      simpa using sShowL h20 hok l.length 0 (varE l.length) (by omega) (by omega)
    · refine Ev.bind h2 ?_
      simp only [Bool.not_true, cond_false]
      refine Ev.bind (iVE (by omega) (by omega)) ?_
      rw [hv]
      simpa using iShowL h20 hok l.length 0 (varE l.length) (by omega) (by omega)
def nx (s : List UInt8) (a : Nat) : Option (Nat × Nat) := (dv 7 (s.drop a)).map fun p => (p.1, a + p.2)
theorem nx_le {s : List UInt8} {a n e : Nat} (ha : a ≤ s.length) (h : nx s a = some (n, e)) : a < e ∧ e ≤ s.length := by
  unfold nx at h
  obtain ⟨p, hp, h⟩ := Option.map_eq_some_iff.1 h
  cases h
  obtain ⟨d1, d2, d3, _, _⟩ := dv_ok (n := p.1) (z := p.2) hp
  rw [List.length_drop] at d1
  omega
def vsN (s : List UInt8) : Nat → Nat → Option (List Int × Nat)
  | 0, a => some ([], a)
  | m + 1, a => (nx s a).bind fun p => (vsN s m p.2).map fun q => ((p.1 : Int) :: q.1, q.2)
theorem vsN_le {s : List UInt8} : ∀ {m a : Nat} {l : List Int} {e : Nat}, a ≤ s.length → vsN s m a = some (l, e) → a ≤ e ∧ e ≤ s.length ∧ l.length = m
  | 0, a, l, e, ha, h => by simp only [vsN, Option.some.injEq, Prod.mk.injEq] at h; obtain ⟨rfl, rfl⟩ := h; simp [ha]
  | m + 1, a, l, e, ha, h => by
    simp only [vsN, Option.bind_eq_some_iff, Option.map_eq_some_iff] at h
    obtain ⟨p, hp, q, hq, h⟩ := h
    cases h
    obtain ⟨h1, h2⟩ := nx_le ha hp
    obtain ⟨h3, h4, h5⟩ := vsN_le h2 hq
    exact ⟨by omega, h4, by simp [h5]⟩
theorem sVarsL {s : List UInt8} (hs : s.length ≤ 1048576) (n : Nat) (hn : n ≤ 1048576) : ∀ (m i a : Nat) (out : List Int), i + m = n → out.length = i → a ≤ s.length → EvP (fun k => Fspec_l17Vars.l22 k s (a : Int) (n : Int) out (i : Int)) (fun r => match vsN s m a with
    | some (l, e) => r = (out ++ l, (e : Int))
    | none => r.2 = -1) := by
  intro m
  induction m with
  | zero =>
    intro i a out hi ho ha
    refine EvP.succ ?_
    simp only [Fspec_l17Vars.l22, vsN]
    rw [decide_eq_false (by omega)]
    exact EvP.pure (by simp)
  | succ m ih =>
    intro i a out hi ho ha
    refine EvP.succ ?_
    simp only [Fspec_l17Vars.l22, Fspec_l17Vars.j26, vsN]
    rw [decide_eq_true (p := (i : Int) < (n : Int)) (by omega), decide_eq_false (p := (a : Int) < 0) (by omega), decide_eq_false (p := (a : Int) > (s.length : Int)) (by omega)]
    simp only [cond_true, cond_false]
    rw [cutEnd ha]
    simp only [Option.bind_some]
    refine EvP.bindE (sReadVar _ (by rw [List.length_drop]; omega)) ?_
    unfold rvP nx
    cases hd : dv 7 (s.drop a) with
    | none =>
      simp only [BEq.rfl, cond_true, Option.map_none, Option.bind_none]
      exact EvP.pure rfl
    | some p =>
      obtain ⟨x, z⟩ := p
      obtain ⟨d1, d2, d3, d4, d5⟩ := dv_ok hd
      rw [List.length_drop] at d1
      simp only [Option.map_some, Option.bind_some]
      rw [show ((z : Int) == 0) = false by simp; omega, decide_eq_true (by simp only [List.length_cons, List.length_nil]; omega), wid1 (by omega), show IntKind.i64.wrap ((a : Int) + (z : Int)) = ((a + z : Nat) : Int) by rw [wid (by omega) (by omega)]; omega]
      simp only [cond_true, cond_false]
      refine (ih (i + 1) (a + z) (out ++ [(x : Int)]) (by omega) (by simp; omega) (by omega)).mono fun r hr => ?_
      cases hv : vsN s m (a + z) with
      | none => rw [hv] at hr; exact hr
      | some q =>
        obtain ⟨l, e⟩ := q
        rw [hv] at hr
        simp only [Option.map_some]
        simp only at hr
        rw [hr, List.append_assoc]; rfl
theorem sVars {s : List UInt8} (hs : s.length ≤ 1048576) (n a : Nat) (hn : n ≤ 1048576) (ha : a ≤ s.length) : EvP (fun k => Fspec_l17Vars k s (a : Int) (n : Int)) (fun r => match vsN s n a with
    | some (l, e) => r = (l, (e : Int))
    | none => r.2 = -1) := by
  simp only [Fspec_l17Vars]
  refine (sVarsL hs n hn n 0 a [] (by omega) rfl ha).mono fun r hr => ?_
  simpa using hr
def rulOne (s : List UInt8) (a : Nat) : Option (Timpl_Rule × Nat) := (nx s a).bind fun p => (nx s p.2).bind fun q => (nx s q.2).bind fun c => if 31 < c.1 then none else (vsN s c.1 c.2).map fun v => (⟨(p.1 : Int), v.1, (q.1 : Int)⟩, v.2)
def rulN (s : List UInt8) : Nat → Nat → Option (List Timpl_Rule × Nat)
  | 0, a => some ([], a)
  | m + 1, a => (rulOne s a).bind fun p => (rulN s m p.2).map fun q => (p.1 :: q.1, q.2)
theorem rulOne_le {s : List UInt8} {a : Nat} {x : Timpl_Rule} {e : Nat} (ha : a ≤ s.length) (h : rulOne s a = some (x, e)) : e ≤ s.length ∧ x.Set.length ≤ 31 := by
  simp only [rulOne, Option.bind_eq_some_iff] at h
  obtain ⟨p, hp, q, hq, c, hc, h⟩ := h
  split at h
  · cases h
  · obtain ⟨v, hv, h⟩ := Option.map_eq_some_iff.1 h
    cases h
    obtain ⟨_, h1⟩ := nx_le ha hp
    obtain ⟨_, h2⟩ := nx_le h1 hq
    obtain ⟨_, h3⟩ := nx_le h2 hc
    obtain ⟨_, h4, h5⟩ := vsN_le h3 hv
    exact ⟨h4, by simp only; omega⟩
theorem rulN_le {s : List UInt8} : ∀ {m a : Nat} {l : List Timpl_Rule} {e : Nat}, a ≤ s.length → rulN s m a = some (l, e) → e ≤ s.length ∧ l.length = m ∧ ∀ x ∈ l, x.Set.length ≤ 31
  | 0, a, l, e, ha, h => by simp only [rulN, Option.some.injEq, Prod.mk.injEq] at h; obtain ⟨rfl, rfl⟩ := h; exact ⟨ha, rfl, fun x hx => by cases hx⟩
  | m + 1, a, l, e, ha, h => by
    simp only [rulN, Option.bind_eq_some_iff, Option.map_eq_some_iff] at h
    obtain ⟨p, hp, q, hq, h⟩ := h
    cases h
    obtain ⟨h1, h2⟩ := rulOne_le (x := p.1) (e := p.2) ha hp
    obtain ⟨h3, h4, h5⟩ := rulN_le (l := q.1) (e := q.2) h1 hq
    exact ⟨h3, by simp [h4], fun x hx => by
      rcases List.mem_cons.1 hx with rfl | hx
      · exact h2
      · exact h5 x hx⟩
noncomputable def finR (s : List UInt8) (l : List Timpl_Rule) : List Timpl_Rule × Bool := if showR l = s then (l, true) else ([], false)
noncomputable def rulR (s : List UInt8) : List Timpl_Rule × Bool := match nx s 0 with
  | none => ([], false)
  | some (n, a) => if 20 < n then ([], false) else match rulN s n a with
    | none => ([], false)
    | some (l, _) => finR s l
theorem vs3 {s : List UInt8} {a : Nat} : vsN s 3 a = (nx s a).bind fun p => (nx s p.2).bind fun q => (nx s q.2).map fun c => ([(p.1 : Int), (q.1 : Int), (c.1 : Int)], c.2) := by
  simp only [vsN]
  cases nx s a with
  | none => rfl
  | some p =>
    simp only [Option.bind_some]
    cases nx s p.2 with
    | none => rfl
    | some q =>
      simp only [Option.bind_some]
      cases nx s q.2 <;> rfl
theorem sReadL {s : List UInt8} (hs : s.length ≤ 1048576) (n : Nat) (hn : n ≤ 20) : ∀ (m i a : Nat) (out : List Timpl_Rule), i + m = n → out.length = i → (∀ x ∈ out, x.Set.length ≤ 31) → a ≤ s.length → Ev (fun k => Fspec_ReadRules.l24 k s out [(n : Int)] (a : Int) (i : Int)) (match rulN s m a with
    | some (l, _) => finR s (out ++ l)
    | none => ([], false)) := by
  intro m
  induction m with
  | zero =>
    intro i a out hi ho hx ha
    refine Ev.succ ?_
    simp only [Fspec_ReadRules.l24, rulN]
    refine Ev.at? (xs := [(n : Int)]) (i := 0) rfl ?_
    rw [decide_eq_false (by omega)]
    simp only [cond_false, List.append_nil]
    refine Ev.bind (showEv (l := out) (by omega) (fun x h => by have := hx x h; omega)).1 ?_
    unfold finR
    refine Ev.ite (fun hc => ?_) (fun hc => ?_)
    · rw [if_neg (by simpa using hc)]; exact Ev.pure _
    · rw [if_pos (by simpa using hc)]; exact Ev.pure _
  | succ m ih =>
    intro i a out hi ho hx ha
    refine EvP.ev (EvP.succ ?_)
    simp only [Fspec_ReadRules.l24, Fspec_ReadRules.j28]
    refine EvP.at? (xs := [(n : Int)]) (i := 0) rfl ?_
    rw [decide_eq_true (p := (i : Int) < (n : Int)) (by omega)]
    simp only [cond_true]
    refine EvP.bind (sVars hs 3 a (by omega) ha) (fun r hr => ?_)
    rw [vs3] at hr
    simp only [rulN, rulOne]
    cases h1 : nx s a with
    | none =>
      rw [h1] at hr
      simp only [Option.bind_none] at hr ⊢
      rw [hr]
      exact EvP.pure rfl
    | some p =>
    rw [h1] at hr
    simp only [Option.bind_some] at hr ⊢
    cases h2 : nx s p.2 with
    | none =>
      rw [h2] at hr
      simp only [Option.bind_none] at hr ⊢
      rw [hr]
      exact EvP.pure rfl
    | some q =>
    rw [h2] at hr
    simp only [Option.bind_some] at hr ⊢
    cases h3 : nx s q.2 with
    | none =>
      rw [h3] at hr
      simp only [Option.bind_none, Option.map_none] at hr ⊢
      rw [hr]
      exact EvP.pure rfl
    | some c =>
    rw [h3] at hr
    simp only [Option.bind_some, Option.map_some] at hr ⊢
    subst hr
    obtain ⟨_, e1⟩ := nx_le ha h1
    obtain ⟨_, e2⟩ := nx_le e1 h2
    obtain ⟨_, e3⟩ := nx_le e2 h3
    rw [decide_eq_false (by omega)]
    simp only [cond_false]
    refine EvP.at? (xs := [(p.1 : Int), (q.1 : Int), (c.1 : Int)]) (i := 2) rfl ?_
    by_cases h31 : 31 < c.1
    · rw [decide_eq_true (by omega), if_pos h31]
      simp only [cond_true, Option.bind_none]
      exact EvP.pure rfl
    rw [decide_eq_false (by omega), if_neg h31]
    simp only [cond_false]
    refine EvP.at? (xs := [(p.1 : Int), (q.1 : Int), (c.1 : Int)]) (i := 2) rfl ?_
    refine EvP.bind (sVars hs c.1 c.2 (by omega) e3) (fun r hr => ?_)
    cases h4 : vsN s c.1 c.2 with
    | none =>
      rw [h4] at hr
      simp only [Option.map_none, Option.bind_none] at hr ⊢
      rw [hr]
      exact EvP.pure rfl
    | some v =>
    obtain ⟨l, e⟩ := v
    rw [h4] at hr
    simp only at hr
    subst hr
    obtain ⟨e4, e5, e6⟩ := vsN_le e3 h4
    rw [decide_eq_false (by omega)]
    simp only [cond_false, Option.map_some, Option.bind_some]
    refine EvP.at? (xs := [(p.1 : Int), (q.1 : Int), (c.1 : Int)]) (i := 0) rfl (EvP.at? (xs := [(p.1 : Int), (q.1 : Int), (c.1 : Int)]) (i := 1) rfl ?_)
    rw [decide_eq_true (by simp only [List.length_cons, List.length_nil]; omega), wid1 (by omega)]
    simp only [cond_true]
    have := ih (i + 1) e (out ++ [⟨(p.1 : Int), l, (q.1 : Int)⟩]) (by omega) (by simp; omega) (fun x hxm => by
      rcases List.mem_append.1 hxm with h | h
      · exact hx x h
      · rw [List.mem_singleton.1 h]; simp only; omega) e5
    refine ⟨_, this, ?_⟩
    cases rulN s m e with
    | none => rfl
    | some w => simp [List.append_assoc]
theorem sReadRules {s : List UInt8} (hs : s.length ≤ 1048576) : Ev (fun k => Fspec_ReadRules k s) (rulR s) := by
  refine EvP.ev ?_
  simp only [Fspec_ReadRules, Fspec_ReadRules.j2]
  have h0 := sVars hs 1 0 (by omega) (Nat.zero_le _)
  refine EvP.bind h0 (fun r hr => ?_)
  simp only [vsN] at hr
  unfold rulR
  cases h1 : nx s 0 with
  | none =>
    rw [h1] at hr
    simp only [Option.bind_none] at hr
    rw [hr]
    exact EvP.pure rfl
  | some p =>
    obtain ⟨n, a⟩ := p
    rw [h1] at hr
    simp only [Option.bind_some, Option.map_some] at hr
    subst hr
    rw [decide_eq_false (by omega)]
    simp only [cond_false]
    refine EvP.at? (xs := [(n : Int)]) (i := 0) rfl ?_
    by_cases h20 : 20 < n
    · rw [decide_eq_true (by omega), if_pos h20]
      exact EvP.pure rfl
    · rw [decide_eq_false (by omega), if_neg h20]
      simp only [cond_false]
      have := sReadL hs n (by omega) n 0 a [] (by omega) rfl (fun x hx => by cases hx) (nx_le (Nat.zero_le _) h1).2
      refine ⟨_, this, ?_⟩
      simp only [List.nil_append]
      cases rulN s n a <;> rfl
theorem rulR_small {s : List UInt8} : (rulR s).1.length ≤ 20 ∧ ∀ x ∈ (rulR s).1, x.Set.length ≤ 31 := by
  unfold rulR
  cases h1 : nx s 0 with
  | none => simp
  | some p =>
    obtain ⟨n, a⟩ := p
    simp only
    split
    · simp
    · cases h2 : rulN s n a with
      | none => simp
      | some q =>
        obtain ⟨l, e⟩ := q
        simp only
        obtain ⟨_, h3, h4⟩ := rulN_le (nx_le (Nat.zero_le _) h1).2 h2
        unfold finR
        split
        · exact ⟨by simp only; omega, h4⟩
        · simp
theorem iNext {s : List UInt8} (hs : s.length ≤ 1048576) (a : Nat) (bad : Bool) (ha : a ≤ s.length) : Ev (fun k => Fimpl_vars_next k ⟨s, (a : Int), bad⟩) (match bad, nx s a with
    | false, some (n, e) => ((n : Int), ⟨s, (e : Int), false⟩)
    | _, _ => (0, ⟨s, (a : Int), true⟩)) := by
  simp only [Fimpl_vars_next, Fimpl_vars_next.j2]
  refine Ev.bind (iVarAt s hs a ha) ?_
  unfold nx
  cases bad with
  | true =>
    simp only [cond_true]
    exact Ev.pure _
  | false =>
    simp only [cond_false]
    cases hd : dv 7 (s.drop a) with
    | none =>
      simp only [Option.map_none]
      exact Ev.pure _
    | some p =>
      obtain ⟨n, z⟩ := p
      simp only [Option.map_some]
      rw [decide_eq_false (by omega)]
      exact Ev.pure _
theorem iNextB {s : List UInt8} (hs : s.length ≤ 1048576) (a : Nat) (ha : a ≤ s.length) : Ev (fun k => Fimpl_vars_next k ⟨s, (a : Int), true⟩) (0, ⟨s, (a : Int), true⟩) := iNext hs a true ha
theorem iNextN {s : List UInt8} (hs : s.length ≤ 1048576) {a : Nat} (ha : a ≤ s.length) (h : nx s a = none) : Ev (fun k => Fimpl_vars_next k ⟨s, (a : Int), false⟩) (0, ⟨s, (a : Int), true⟩) := by
  have := iNext hs a false ha
  rw [h] at this; exact this
theorem iNextS {s : List UInt8} (hs : s.length ≤ 1048576) {a n e : Nat} (ha : a ≤ s.length) (h : nx s a = some (n, e)) : Ev (fun k => Fimpl_vars_next k ⟨s, (a : Int), false⟩) ((n : Int), ⟨s, (e : Int), false⟩) := by
  have := iNext hs a false ha
  rw [h] at this; exact this
theorem iManyB {s : List UInt8} (hs : s.length ≤ 1048576) {a : Nat} (most : Nat) (ha : a ≤ s.length) : Ev (fun k => Fimpl_vars_many k (most : Int) ⟨s, (a : Int), true⟩) (0, ⟨s, (a : Int), true⟩) := by
  simp only [Fimpl_vars_many, Fimpl_vars_many.j1]
  refine Ev.bind (iNextB hs a ha) ?_
  refine Ev.ite (fun _ => Ev.pure _) (fun _ => Ev.pure _)
theorem iManyN {s : List UInt8} (hs : s.length ≤ 1048576) {a : Nat} (most : Nat) (ha : a ≤ s.length) (h : nx s a = none) : Ev (fun k => Fimpl_vars_many k (most : Int) ⟨s, (a : Int), false⟩) (0, ⟨s, (a : Int), true⟩) := by
  simp only [Fimpl_vars_many, Fimpl_vars_many.j1]
  refine Ev.bind (iNextN hs ha h) ?_
  refine Ev.ite (fun _ => Ev.pure _) (fun _ => Ev.pure _)
theorem iManyS {s : List UInt8} (hs : s.length ≤ 1048576) {a n e : Nat} (most : Nat) (ha : a ≤ s.length) (h : nx s a = some (n, e)) : Ev (fun k => Fimpl_vars_many k (most : Int) ⟨s, (a : Int), false⟩) (if most < n then (0, ⟨s, (e : Int), true⟩) else ((n : Int), ⟨s, (e : Int), false⟩)) := by
  simp only [Fimpl_vars_many, Fimpl_vars_many.j1]
  refine Ev.bind (iNextS hs ha h) ?_
  by_cases hm : most < n
  · rw [if_pos hm, decide_eq_true (by omega)]; exact Ev.pure _
  · rw [if_neg hm, decide_eq_false (by omega)]; exact Ev.pure _
abbrev Cl26 := Nat → List UInt8 → List Timpl_Rule → Int → Int → List UInt8 → Int → Bool → Option (List Timpl_Rule × Bool)
theorem i26 {s : List UInt8} (hs : s.length ≤ 1048576) (out : List Timpl_Rule) (hout : out.length ≤ 20) (n i c : Nat) (hi : i ≤ 20) (hc : c ≤ 31) (kd N : Int) {R : List Timpl_Rule × Bool} : ∀ (m j : Nat) (cl : Cl26) (a : Nat) (bad : Bool) (set : List Int), j + m = c → set.length = j → a ≤ s.length →
    ((bad = true ∨ vsN s m a = none) → ∀ set' a', a' ≤ s.length → Ev (fun k => cl k s (out ++ [⟨kd, set', N⟩]) (n : Int) ((i + 1 : Nat) : Int) s ((a' : Nat) : Int) true) R) →
    (bad = false → ∀ l e, vsN s m a = some (l, e) → Ev (fun k => cl k s (out ++ [⟨kd, set ++ l, N⟩]) (n : Int) ((i + 1 : Nat) : Int) s ((e : Nat) : Int) false) R) →
    Ev (fun k => Fimpl_ReadRules.l26 (cl k) k s out (n : Int) (i : Int) (c : Int) (j : Int) s (a : Int) bad kd set N) R := by
  intro m
  induction m with
  | zero =>
    intro j cl a bad set hj hset ha hb hg
    refine Ev.succ ?_
    simp only [Fimpl_ReadRules.l26]
    rw [decide_eq_false (p := (j : Int) < (c : Int)) (by omega), decide_eq_true (by simp only [List.length_cons, List.length_nil]; omega), wid1 (i := i) (by omega)]
    simp only [cond_true, cond_false]
    cases bad with
    | true => exact (hb (.inl rfl) set a ha).shift
    | false =>
      have := hg rfl [] a rfl
      rw [List.append_nil] at this
      exact this.shift
  | succ m ih =>
    intro j cl a bad set hj hset ha hb hg
    refine Ev.succ ?_
    simp only [Fimpl_ReadRules.l26]
    rw [decide_eq_true (p := (j : Int) < (c : Int)) (by omega)]
    simp only [cond_true]
    have bads : (bad = true ∨ vsN s (m + 1) a = none) → ∀ x : Int, Ev (fun k => Fimpl_ReadRules.l26 (cl (k + 1)) k s out (n : Int) (i : Int) (c : Int) ((j + 1 : Nat) : Int) s (a : Int) true kd (set ++ [x]) N) R := fun hbad x =>
      ih (j + 1) (fun k => cl (k + 1)) a true (set ++ [x]) (by omega) (by simp; omega) ha (fun _ set' a' h => (hb hbad set' a' h).shift) (fun h => by cases h)
    cases bad with
    | true =>
      refine Ev.bind (iNextB hs a ha) ?_
      rw [decide_eq_true (by simp only [List.length_cons, List.length_nil]; omega), wid1 (by omega)]
      exact bads (.inl rfl) 0
    | false =>
      cases hx : nx s a with
      | none =>
        refine Ev.bind (iNextN hs ha hx) ?_
        rw [decide_eq_true (by simp only [List.length_cons, List.length_nil]; omega), wid1 (by omega)]
        exact bads (.inr (by simp only [vsN, hx, Option.bind_none])) 0
      | some p =>
        obtain ⟨x, e⟩ := p
        refine Ev.bind (iNextS hs ha hx) ?_
        rw [decide_eq_true (by simp only [List.length_cons, List.length_nil]; omega), wid1 (by omega)]
        refine ih (j + 1) (fun k => cl (k + 1)) e false (set ++ [(x : Int)]) (by omega) (by simp; omega) (nx_le ha hx).2 (fun hbad set' a' h => (hb (.inr (by simp only [vsN, hx, Option.bind_some, hbad.resolve_left (by simp), Option.map_none])) set' a' h).shift) (fun _ l e2 h => ?_)
        have := hg rfl ((x : Int) :: l) e2 (by simp only [vsN, hx, Option.bind_some, h, Option.map_some])
        rw [List.append_assoc]
        exact this.shift
theorem i22bad {s : List UInt8} (hs : s.length ≤ 1048576) (n : Nat) (hn : n ≤ 20) : ∀ (m i a : Nat) (out : List Timpl_Rule), i + m = n → out.length = i → a ≤ s.length → Ev (fun k => Fimpl_ReadRules.l22 k s out (n : Int) (i : Int) s (a : Int) true) ([], false) := by
  intro m
  induction m with
  | zero =>
    intro i a out hi ho ha
    refine Ev.succ ?_
    simp only [Fimpl_ReadRules.l22]
    rw [decide_eq_false (by omega)]
    exact Ev.pure _
  | succ m ih =>
    intro i a out hi ho ha
    refine Ev.succ ?_
    simp only [Fimpl_ReadRules.l22]
    rw [decide_eq_true (p := (i : Int) < (n : Int)) (by omega)]
    simp only [cond_true]
    refine Ev.bind (iNextB hs a ha) (Ev.bind (iNextB hs a ha) (Ev.bind (iManyB hs 31 ha) ?_))
    exact i26 hs out (by omega) n i 0 (by omega) (by omega) 0 0 0 0 (fun k => Fimpl_ReadRules.l22 k) a true [] rfl rfl ha (fun _ set' a' h => ih (i + 1) a' _ (by omega) (by simp; omega) h) (fun h => by cases h)
theorem i22 {s : List UInt8} (hs : s.length ≤ 1048576) (h0s : s ≠ []) (n : Nat) (hn : n ≤ 20) : ∀ (m i a : Nat) (out : List Timpl_Rule), i + m = n → out.length = i → (∀ x ∈ out, x.Set.length ≤ 31) → a ≤ s.length → Ev (fun k => Fimpl_ReadRules.l22 k s out (n : Int) (i : Int) s (a : Int) false) (match rulN s m a with
    | some (l, _) => finR s (out ++ l)
    | none => ([], false)) := by
  intro m
  induction m with
  | zero =>
    intro i a out hi ho hx ha
    refine Ev.succ ?_
    simp only [Fimpl_ReadRules.l22, rulN]
    rw [decide_eq_false (by omega), show (s == []) = false by cases s with | nil => exact absurd rfl h0s | cons _ _ => rfl]
    simp only [cond_false, List.append_nil]
    refine Ev.bind (showEv (l := out) (by omega) (fun x h => by have := hx x h; omega)).2 ?_
    unfold finR
    refine Ev.ite (fun hc => ?_) (fun hc => ?_)
    · rw [if_neg (by simpa using hc)]; exact Ev.pure _
    · rw [if_pos (by simpa using hc)]; exact Ev.pure _
  | succ m ih =>
    intro i a out hi ho hx ha
    refine Ev.succ ?_
    simp only [Fimpl_ReadRules.l22]
    rw [decide_eq_true (p := (i : Int) < (n : Int)) (by omega)]
    simp only [cond_true, rulN, rulOne]
    have bad : ∀ (kd N : Int) (a' : Nat), a' ≤ s.length → Ev (fun k => Fimpl_ReadRules.l26 (Fimpl_ReadRules.l22 k) k s out (n : Int) (i : Int) ((0 : Nat) : Int) ((0 : Nat) : Int) s (a' : Int) true kd [] N) ([], false) := fun kd N a' h =>
      i26 hs out (by omega) n i 0 (by omega) (by omega) kd N 0 0 (fun k => Fimpl_ReadRules.l22 k) a' true [] rfl rfl h (fun _ set' a2 h2 => i22bad hs n hn m (i + 1) a2 _ (by omega) (by simp; omega) h2) (fun h => by cases h)
    cases h1 : nx s a with
    | none =>
      refine Ev.bind (iNextN hs ha h1) (Ev.bind (iNextB hs a ha) (Ev.bind (iManyB hs 31 ha) ?_))
      exact bad _ _ a ha
    | some p =>
    obtain ⟨p, ep⟩ := p
    have e1 := (nx_le ha h1).2
    refine Ev.bind (iNextS hs ha h1) ?_
    simp only [Option.bind_some]
    cases h2 : nx s ep with
    | none =>
      refine Ev.bind (iNextN hs e1 h2) (Ev.bind (iManyB hs 31 e1) ?_)
      exact bad _ _ ep e1
    | some q =>
    obtain ⟨q, eq⟩ := q
    have e2 := (nx_le e1 h2).2
    refine Ev.bind (iNextS hs e1 h2) ?_
    simp only [Option.bind_some]
    cases h3 : nx s eq with
    | none =>
      refine Ev.bind (iManyN hs 31 e2 h3) ?_
      exact bad _ _ eq e2
    | some c =>
    obtain ⟨c, ec⟩ := c
    have e3 := (nx_le e2 h3).2
    refine Ev.bind (iManyS hs 31 e2 h3) ?_
    simp only [Option.bind_some]
    by_cases h31 : 31 < c
    · rw [if_pos h31, if_pos h31]
      exact bad _ _ ec e3
    rw [if_neg h31, if_neg h31]
    refine i26 hs out (by omega) n i c (by omega) (by omega) (p : Int) (q : Int) c 0 (fun k => Fimpl_ReadRules.l22 k) ec false [] (by omega) rfl e3 (fun hbad set' a' h => ?_) (fun _ l e hv => ?_)
    · have := i22bad hs n hn m (i + 1) a' (out ++ [⟨(p : Int), set', (q : Int)⟩]) (by omega) (by simp; omega) h
      rw [hbad.resolve_left (by simp)]
      exact this
    · obtain ⟨_, f2, f3⟩ := vsN_le e3 hv
      rw [hv]
      simp only [Option.map_some, Option.bind_some, List.nil_append]
      refine (ih (i + 1) e (out ++ [⟨(p : Int), l, (q : Int)⟩]) (by omega) (by simp; omega) (fun x hxm => by
        rcases List.mem_append.1 hxm with h | h
        · exact hx x h
        · rw [List.mem_singleton.1 h]; simp only; omega) f2).to ?_
      cases rulN s m e with
      | none => rfl
      | some w => simp [List.append_assoc]
theorem iReadRules {s : List UInt8} (hs : s.length ≤ 1048576) : Ev (fun k => Fimpl_ReadRules k s) (rulR s) := by
  simp only [Fimpl_ReadRules]
  unfold rulR
  cases h1 : nx s 0 with
  | none =>
    refine Ev.bind (iManyN hs 20 (Nat.zero_le _) h1) ?_
    exact i22bad hs 0 (by omega) 0 0 0 [] rfl rfl (Nat.zero_le _)
  | some p =>
    obtain ⟨n, a⟩ := p
    have e1 := (nx_le (Nat.zero_le _) h1).2
    have h0s : s ≠ [] := fun e => by subst e; have := nx_le (Nat.zero_le _) h1; simp at this; omega
    refine Ev.bind (iManyS hs 20 (Nat.zero_le _) h1) ?_
    simp only
    by_cases h20 : 20 < n
    · rw [if_pos h20, if_pos h20]
      exact i22bad hs 0 (by omega) 0 0 a [] rfl rfl e1
    · rw [if_neg h20, if_neg h20]
      refine (i22 hs h0s n (by omega) n 0 a [] (by omega) rfl (fun x hx => by cases hx) e1).to ?_
      simp only [List.nil_append]
      cases rulN s n a <;> rfl
theorem nx_varE {s : List UInt8} {a n : Nat} {t : List UInt8} (h : s.drop a = varE n ++ t) (hn : n ≤ 100000) : nx s a = some (n, a + (varE n).length) ∧ s.drop (a + (varE n).length) = t := by
  have hd : dv 7 (s.drop a) = some (n, (varE n).length) := by rw [h]; exact varE_dv (by omega)
  exact ⟨by unfold nx; rw [hd]; rfl, by rw [← List.drop_drop, h, List.drop_left]⟩
theorem vsN_set {s : List UInt8} : ∀ {l : List Int} {a : Nat} {t : List UInt8}, (∀ x ∈ l, 0 ≤ x ∧ x ≤ 30) → s.drop a = setE l ++ t → ∃ e, vsN s l.length a = some (l, e) ∧ s.drop e = t
  | [], a, t, _, h => ⟨a, rfl, by simpa [setE] using h⟩
  | x :: l, a, t, hx, h => by
    have h1 := hx x List.mem_cons_self
    simp only [setE, List.flatMap_cons, List.append_assoc] at h
    obtain ⟨g1, g2⟩ := nx_varE (n := x.toNat) h (by omega)
    obtain ⟨e, g3, g4⟩ := vsN_set (l := l) (t := t) (fun y hy => hx y (List.mem_cons_of_mem _ hy)) g2
    refine ⟨e, ?_, g4⟩
    simp only [List.length_cons, vsN, g1, Option.bind_some, g3, Option.map_some]
    rw [show ((x.toNat : Nat) : Int) = x by omega]
theorem rulOne_show {s : List UInt8} {x : Timpl_Rule} {a : Nat} {t : List UInt8} (hx : ruleOk x = true) (h : s.drop a = rulE x ++ t) : ∃ e, rulOne s a = some (x, e) ∧ s.drop e = t := by
  obtain ⟨f1, f2, f3, f4, f5, f6⟩ := ruleOk_facts hx
  unfold rulE at h
  simp only [List.append_assoc] at h
  obtain ⟨g1, g2⟩ := nx_varE (n := x.Kind.toNat) h (by omega)
  obtain ⟨g3, g4⟩ := nx_varE (n := x.N.toNat) g2 (by omega)
  obtain ⟨g5, g6⟩ := nx_varE (n := x.Set.length) g4 (by omega)
  obtain ⟨e, g7, g8⟩ := vsN_set f6 g6
  refine ⟨e, ?_, g8⟩
  simp only [rulOne, g1, Option.bind_some, g3, g5]
  rw [if_neg (by omega), g7]
  simp only [Option.map_some]
  rw [show ((x.Kind.toNat : Nat) : Int) = x.Kind by omega, show ((x.N.toNat : Nat) : Int) = x.N by omega]
theorem rulN_show {s : List UInt8} : ∀ {l : List Timpl_Rule} {a : Nat} {t : List UInt8}, (∀ x ∈ l, ruleOk x = true) → s.drop a = l.flatMap rulE ++ t → ∃ e, rulN s l.length a = some (l, e)
  | [], a, t, _, h => ⟨a, rfl⟩
  | x :: l, a, t, hx, h => by
    simp only [List.flatMap_cons, List.append_assoc] at h
    obtain ⟨e, g1, g2⟩ := rulOne_show (hx x List.mem_cons_self) h
    obtain ⟨e2, g3⟩ := rulN_show (l := l) (t := t) (fun y hy => hx y (List.mem_cons_of_mem _ hy)) g2
    refine ⟨e2, ?_⟩
    simp only [List.length_cons, rulN, g1, Option.bind_some, g3, Option.map_some]
theorem rulR_show {l : List Timpl_Rule} (h : rulesOk l = true) : rulR (showR l) = (l, true) := by
  obtain ⟨h1, h2⟩ := rulesOk_iff.1 h
  have hs : showR l = varE l.length ++ l.flatMap rulE := by unfold showR; rw [if_pos h]
  obtain ⟨g1, g2⟩ := nx_varE (s := showR l) (a := 0) (n := l.length) (t := l.flatMap rulE) (by rw [List.drop_zero, hs]) (by omega)
  obtain ⟨e, g3⟩ := rulN_show (l := l) (t := []) h2 (by rw [g2, List.append_nil])
  unfold rulR
  rw [g1]
  simp only
  rw [if_neg (by omega), g3]
  simp only [finR, if_true]
theorem rulR_nil : rulR [] = ([], false) := by
  unfold rulR
  have : nx [] 0 = none := rfl
  rw [this]
theorem rulR_true {s : List UInt8} (h : (rulR s).2 = true) : showR (rulR s).1 = s := by
  unfold rulR at h ⊢
  cases h1 : nx s 0 with
  | none => rw [h1] at h; cases h
  | some p =>
    obtain ⟨n, a⟩ := p
    rw [h1] at h
    simp only at h ⊢
    by_cases h20 : 20 < n
    · rw [if_pos h20] at h; cases h
    rw [if_neg h20] at h ⊢
    cases h2 : rulN s n a with
    | none => rw [h2] at h; cases h
    | some q =>
      obtain ⟨l, e⟩ := q
      rw [h2] at h
      simp only [finR] at h ⊢
      by_cases hs : showR l = s
      · rw [if_pos hs]; exact hs
      · rw [if_neg hs] at h; cases h
theorem showR_len {l : List Timpl_Rule} : (showR l).length ≤ 2043 := by
  unfold showR
  split
  · rename_i h
    obtain ⟨h1, h2⟩ := rulesOk_iff.1 h
    have := flat_le (f := rulE) (c := 102) (l := l) fun x hx => rulE_len (h2 x hx)
    have := vN_len (n := l.length) (by omega)
    simp only [List.length_append]; omega
  · simp
def SmR (b : Nat) (l : List Timpl_Rule) : Prop := l.length ≤ b ∧ ∀ x ∈ l, x.Set.length ≤ 10
theorem SmR.set {b : Nat} {l : List Timpl_Rule} {x : Timpl_Rule} {i : Nat} (h : SmR b l) (hx : x.Set.length ≤ 10) : SmR b (l.set i x) := ⟨by rw [List.length_set]; exact h.1, fun y hy => by
  rcases List.mem_or_eq_of_mem_set hy with hy | hy
  · exact h.2 y hy
  · rw [hy]; exact hx⟩
theorem SmR.mono {b b' : Nat} {l : List Timpl_Rule} (h : SmR b l) (hb : b ≤ b') : SmR b' l := ⟨Nat.le_trans h.1 hb, h.2⟩
theorem some78 : ∀ (m : Nat) (l : List Timpl_Rule) (n : Int) (c : Tspec_l1Cur), l.length + m = 22 → n ≤ 22 → (∀ x ∈ l, x.Set.length ≤ 10) → Good c → EvP (fun k => Fspec_l17Some.l78 k l n c.b c.i c.h) (fun r => SmR 22 r.1 ∧ Good r.2) := by
  intro m
  induction m with
  | zero =>
    intro l n c hm hn hl hc
    refine EvP.succ ?_
    simp only [Fspec_l17Some.l78]
    rw [decide_eq_false (by omega)]
    exact EvP.pure ⟨⟨by show l.length ≤ 22; omega, hl⟩, hc⟩
  | succ m ih =>
    intro l n c hm hn hl hc
    refine EvP.succ ?_
    simp only [Fspec_l17Some.l78]
    refine EvP.ite (fun _ => ?_) (fun _ => EvP.pure ⟨⟨by show l.length ≤ 22; omega, hl⟩, hc⟩)
    rw [decide_eq_true (by simp only [List.length_cons, List.length_nil]; omega)]
    simp only [cond_true]
    exact ih _ n c (by simp; omega) hn (fun x hx => by
      rcases List.mem_append.1 hx with h | h
      · exact hl x h
      · rw [List.mem_singleton.1 h]; simp) hc
theorem some77 (l : List Timpl_Rule) (t : Bool) (c : Tspec_l1Cur) (h : SmR 20 l) (ht : t = true → 0 < l.length) (h5 : ∀ x ∈ l, x.Set.length ≤ 9) (hc : Good c) : EvP (fun k => Fspec_l17Some.j77 k l t c.b c.i c.h) (fun r => SmR 22 r.1 ∧ Good r.2) := by
  have hl := h.1
  simp only [Fspec_l17Some.j77]
  refine EvP.ite (fun hT => ?_) (fun _ => EvP.pure ⟨h.mono (by omega), hc⟩)
  have h0 := ht hT
  refine EvP.bind (belowE (l.length : Int) c (by omega) hc) (fun r1 h1 => ?_)
  obtain ⟨n, hn⟩ : ∃ n : Nat, r1.1 = n := ⟨r1.1.toNat, by have := h1.1; omega⟩
  have hnl := h1.2.1
  rw [hn] at hnl ⊢
  obtain ⟨b, hb⟩ := atLt (xs := l) (i := n) (by omega)
  have hb5 := h5 b (List.mem_of_getElem? hb)
  refine EvP.bind (belowE 4 r1.2 (by omega) h1.2.2) (fun r2 h2 => ?_)
  refine EvP.ite (fun _ => ?_) (fun _ => ?_)
  · refine EvP.bind (pickE _ r2.2 (by simp) h2.2.2) (fun r3 h3 => ?_)
    exact EvP.at? hb (EvP.pure ⟨(h.mono (by omega)).set (by simp only; omega), h3.2⟩)
  refine EvP.ite (fun _ => ?_) (fun _ => ?_)
  · refine EvP.bind (pickE _ r2.2 (by simp) h2.2.2) (fun r3 h3 => ?_)
    exact EvP.at? hb (EvP.pure ⟨(h.mono (by omega)).set (by simp only; omega), h3.2⟩)
  refine EvP.ite (fun _ => ?_) (fun _ => ?_)
  · refine EvP.at? hb ?_
    refine EvP.bind (pickE _ r2.2 (by simp) h2.2.2) (fun r3 h3 => ?_)
    rw [decide_eq_true (by simp only [List.length_cons, List.length_nil]; omega)]
    simp only [cond_true]
    exact EvP.at? hb (EvP.pure ⟨(h.mono (by omega)).set (by simp; omega), h3.2⟩)
  · refine EvP.bind (belowE 2 r2.2 (by omega) h2.2.2) (fun r3 h3 => ?_)
    have a1 := h3.1; have a2 := h3.2.1
    rw [wid (n := 20 + r3.1) (by omega) (by omega)]
    exact some78 (22 - l.length) l _ r3.2 (by omega) (by omega) (fun x hx => h.2 x hx) h3.2.2
abbrev Cl17 := Nat → List Timpl_Rule → Int → List UInt8 → Int → Int → Option (List Timpl_Rule × Tspec_l1Cur)
theorem some70 (cl : Cl17) (l : List Timpl_Rule) (n : Int) (c : Tspec_l1Cur) (kd N : Int) (set : List Int) (hl : l.length ≤ 20) {Q : List Timpl_Rule × Tspec_l1Cur → Prop} (h : EvP (fun k => cl k (l ++ [⟨kd, set, N⟩]) (IntKind.i64.wrap (n - 1)) c.b c.i c.h) Q) : EvP (fun k => Fspec_l17Some.j70 (cl k) k l n c.b c.i c.h kd set N) Q := by
  simp only [Fspec_l17Some.j70]
  rw [decide_eq_true (by simp only [List.length_cons, List.length_nil]; omega)]
  exact h
theorem some73 (l : List Timpl_Rule) (n kd : Int) (hl : l.length ≤ 20) {Q : List Timpl_Rule × Tspec_l1Cur → Prop} : ∀ (m j : Nat) (cl : Cl17) (c : Tspec_l1Cur) (set : List Int), j + m = 5 → set.length ≤ j → Good c → (∀ set' c', set'.length ≤ 5 → Good c' → EvP (fun k => cl k (l ++ [⟨kd, set', 0⟩]) (IntKind.i64.wrap (n - 1)) c'.b c'.i c'.h) Q) →
    EvP (fun k => Fspec_l17Some.l73 (cl k) k l n (j : Int) c.b c.i c.h kd set) Q := by
  intro m
  induction m with
  | zero =>
    intro j cl c set hj hs hc h
    refine EvP.succ ?_
    simp only [Fspec_l17Some.l73]
    rw [decide_eq_false (by omega)]
    exact some70 (fun k => cl (k + 1)) l n c kd 0 set hl (h set c (by omega) hc).shift
  | succ m ih =>
    intro j cl c set hj hs hc h
    refine EvP.succ ?_
    simp only [Fspec_l17Some.l73, Fspec_l17Some.j74]
    rw [decide_eq_true (p := (j : Int) < 5) (by omega), wid1 (by omega)]
    simp only [cond_true]
    refine EvP.bind (onceE 3 c (by omega) hc) (fun r hr => ?_)
    refine EvP.ite (fun _ => ?_) (fun _ => ?_)
    · rw [decide_eq_true (by simp only [List.length_cons, List.length_nil]; omega)]
      exact ih (j + 1) (fun k => cl (k + 1)) r.2 _ (by omega) (by simp; omega) hr (fun s' c' h1 h2 => (h s' c' h1 h2).shift)
    · exact ih (j + 1) (fun k => cl (k + 1)) r.2 _ (by omega) (by omega) hr (fun s' c' h1 h2 => (h s' c' h1 h2).shift)
theorem some56 : ∀ (m : Nat) (l : List Timpl_Rule) (n : Nat) (c : Tspec_l1Cur), n ≤ m → l.length + m ≤ 20 → (∀ x ∈ l, x.Set.length ≤ 9) → Good c → EvP (fun k => Fspec_l17Some.l56 k l (n : Int) c.b c.i c.h) (fun r => SmR 22 r.1 ∧ Good r.2) := by
  have last : ∀ (l : List Timpl_Rule) (c : Tspec_l1Cur), l.length ≤ 20 → (∀ x ∈ l, x.Set.length ≤ 9) → Good c → EvP (fun k => Fspec_l17Some.l56 k l ((0 : Nat) : Int) c.b c.i c.h) (fun r => SmR 22 r.1 ∧ Good r.2) := by
    intro l c h1 h2 hc
    have hs : SmR 20 l := ⟨h1, fun x hx => by have := h2 x hx; omega⟩
    refine EvP.succ ?_
    simp only [Fspec_l17Some.l56]
    rw [decide_eq_false (p := ((0 : Nat) : Int) > 0) (by omega)]
    simp only [cond_false]
    refine EvP.ite (fun h => ?_) (fun _ => ?_)
    · refine EvP.bind (onceE 10 c (by omega) hc) (fun r hr => ?_)
      exact some77 l r.1 r.2 hs (fun _ => by simpa using h) h2 hr
    · exact some77 l false c hs (fun h => by cases h) h2 hc
  intro m
  induction m with
  | zero =>
    intro l n c hn hl h2 hc
    obtain rfl : n = 0 := by omega
    exact last l c (by omega) h2 hc
  | succ m ih =>
    intro l n c hn hl h2 hc
    cases n with
    | zero => exact last l c (by omega) h2 hc
    | succ n =>
      refine EvP.succ ?_
      simp only [Fspec_l17Some.l56]
      rw [decide_eq_true (p := ((n + 1 : Nat) : Int) > 0) (by omega)]
      simp only [cond_true]
      have hw : IntKind.i64.wrap (((n + 1 : Nat) : Int) - 1) = (n : Int) := by rw [wid (by omega) (by omega)]; omega
      have next : ∀ (x : Timpl_Rule) (c' : Tspec_l1Cur), x.Set.length ≤ 9 → Good c' → EvP (fun k => Fspec_l17Some.l56 k (l ++ [x]) (IntKind.i64.wrap (((n + 1 : Nat) : Int) - 1)) c'.b c'.i c'.h) (fun r => SmR 22 r.1 ∧ Good r.2) := fun x c' hx hc' => by
        rw [hw]
        exact ih _ n c' (by omega) (by simp; omega) (fun y hy => by
          rcases List.mem_append.1 hy with h | h
          · exact h2 y h
          · rw [List.mem_singleton.1 h]; exact hx) hc'
      refine EvP.bind (belowE 5 c (by omega) hc) (fun r1 h1 => ?_)
      refine EvP.ite (fun _ => ?_) (fun _ => ?_)
      · exact some73 l _ _ (by omega) 5 0 (fun k => Fspec_l17Some.l56 k) r1.2 [] rfl (by simp) h1.2.2 (fun s' c' hs' hc' => next _ c' (by simp only; omega) hc')
      · refine EvP.bind (belowE 12 r1.2 (by omega) h1.2.2) (fun r2 h3 => ?_)
        exact some70 (fun k => Fspec_l17Some.l56 k) l _ r2.2 _ _ [] (by omega) (next _ r2.2 (by simp) h3.2.2)
theorem some17E (n : Nat) (c : Tspec_l1Cur) (h0 : 0 < n) (hn : n ≤ 15) (hc : Good c) : EvP (fun k => Fspec_l17Some k (n : Int) c) (fun r => SmR 22 r.1 ∧ Good r.2) := by
  simp only [Fspec_l17Some]
  refine EvP.bind (belowE (n : Int) c (by omega) hc) (fun r hr => ?_)
  obtain ⟨m, hm⟩ : ∃ m : Nat, r.1 = m := ⟨r.1.toNat, by have := hr.1; omega⟩
  have := hr.2.1
  rw [hm] at this ⊢
  exact some56 m [] m r.2 (Nat.le_refl _) (by simp; omega) (fun x hx => by cases hx) hr.2.2

theorem lawRuleText (a0 : List UInt8) (w0 : Go.MG.wfR (fun _ => True) a0) : ∃ k, Flaws_FnRuleText k a0 = some true := by
  refine Ev.get (f := fun k => Flaws_FnRuleText k a0) ?_
  refine EvP.ev ?_
  simp only [Flaws_FnRuleText, bigE, Option.bind_some]
  refine EvP.ite (fun _ => EvP.pure rfl) (fun hc => ?_)
  have hlen : a0.length ≤ 1048576 := by simp at hc; omega
  have hd : EvP (fun k => Fspec_DrawShowRules k a0) (SmR 22) := by
    simp only [Fspec_DrawShowRules]
    refine EvP.bind (newE a0 hlen) (fun c hc => EvP.bind (some17E 6 c (by omega) (by omega) hc) (fun r hr => EvP.pure hr.1))
  have hd2 : EvP (fun k => Fspec_DrawReadRules k a0) (fun s => s.length ≤ 1048576) := by
    simp only [Fspec_DrawReadRules]
    refine EvP.bind (newE a0 hlen) (fun c hc => EvP.bind (some17E 6 c (by omega) (by omega) hc) (fun r hr => ?_))
    have hl := hr.1.1
    refine EvP.bindE (showEv (l := r.1) (by omega) (fun x hx => by have := hr.1.2 x hx; omega)).1 ?_
    have hsl := showR_len (l := r.1)
    refine EvP.bind (onceE 3 r.2 (by omega) hr.2) (fun r2 hr2 => ?_)
    refine EvP.ite (fun _ => ?_) (fun _ => EvP.pure (by omega))
    exact EvP.bind (spoilE (showR r.1) r2.2 (by omega) hr2) (fun r3 hr3 => EvP.pure (by have := hr3.1; omega))
  refine EvP.bind hd (fun l hl => ?_)
  have hl1 : l.length ≤ 1048576 := by have := hl.1; omega
  have hl2 : ∀ x ∈ l, x.Set.length ≤ 1048576 := fun x hx => by have := hl.2 x hx; omega
  obtain ⟨s1, s2⟩ := showEv hl1 hl2
  have hsl := showR_len (l := l)
  refine EvP.bindE s2 (EvP.bindE (iReadRules (by omega)) (EvP.bind hd2 (fun t ht => EvP.bindE (iReadRules ht) (EvP.bindE (sReadRules ht) (EvP.bindE (rulesEv hl1 hl2).1 ?_)))))
  have tail : EvP (fun k => cond (!(rulR t).2) (some true) ((Fimpl_ShowRules k (rulR t).1).bind fun r15 => some (r15 == t))) (fun r => r = true) := by
    refine EvP.ite (fun _ => EvP.pure rfl) (fun h => ?_)
    have h : (rulR t).2 = true := by simpa using h
    obtain ⟨b1, b2⟩ := rulR_small (s := t)
    refine EvP.bindE (showEv (l := (rulR t).1) (by omega) (fun x hx => by have := b2 x hx; omega)).2 (EvP.pure ?_)
    rw [rulR_true h]; simp
  cases hR : rulesOk l with
  | true =>
    rw [rulR_show hR]
    simp only [BEq.rfl, cond_true, Bool.not_true, cond_false]
    refine EvP.bindE s1 (EvP.bindE s1 ?_)
    rw [beq_self_eq_true]
    simp only [cond_true]
    exact tail
  | false =>
    have : showR l = [] := by unfold showR; rw [hR]; rfl
    rw [this, rulR_nil]
    simp only [BEq.rfl, cond_true, Bool.not_false]
    exact tail


end Go.Proofs.Ytgjbgakcfcomdaa.M
