/- messages -/
import Derived.Test.YtgjbgakcfcomdaaFTlv
namespace Go.Proofs.Ytgjbgakcfcomdaa.M
open Go Go.MG
set_option linter.unusedVariables false
set_option linter.unusedSimpArgs false
theorem wid {n : Int} (h1 : -9223372036854775808 ≤ n) (h2 : n ≤ 9223372036854775807) : IntKind.i64.wrap n = n := by
  rw [IntKind.wrap_i64]; omega
theorem atN {α : Type} {xs : List α} {i : Nat} {b : α} (h : xs[i]? = some b) : at? xs (i : Int) = some b := by
  simp [at?, h]
theorem atLt {α : Type} {xs : List α} {i : Nat} (h : i < xs.length) : ∃ b, xs[i]? = some b := ⟨xs[i], List.getElem?_eq_getElem h⟩
theorem wid1 {i : Nat} (h : i ≤ 4611686018427387904) : IntKind.i64.wrap ((i : Int) + 1) = ((i + 1 : Nat) : Int) := by
  rw [wid (by omega) (by omega)]; omega
theorem ltD {i n : Nat} (h : i < n) : decide ((i : Int) < (n : Int)) = true := by simp; omega
theorem ltD0 {n : Nat} : decide ((n : Int) < (n : Int)) = false := by simp
theorem take_succ_get {α : Type} {xs : List α} {i : Nat} {b : α} (h : xs[i]? = some b) : xs.take (i + 1) = xs.take i ++ [b] := by
  rw [List.take_add_one, h]; rfl
/-- From some fuel on it answers so. -/
def Ev {α : Type} (f : Nat → Option α) (r : α) : Prop := ∃ n, ∀ k, n ≤ k → f k = some r
theorem Ev.pure {α : Type} (r : α) : Ev (fun _ => some r) r := ⟨0, fun _ _ => rfl⟩
theorem Ev.of {α : Type} {f : Nat → Option α} {r : α} (h : ∀ k, f k = some r) : Ev f r := ⟨0, fun k _ => h k⟩
theorem Ev.bind {α β : Type} {f : Nat → Option α} {g : Nat → α → Option β} {a : α} {r : β} (h : Ev f a) (h' : Ev (fun k => g k a) r) : Ev (fun k => (f k).bind (g k)) r := by
  obtain ⟨n, h⟩ := h
  obtain ⟨m, h'⟩ := h'
  refine ⟨max n m, fun k hk => ?_⟩
  show (f k).bind (g k) = some r
  rw [h k (by omega), Option.bind_some]
  exact h' k (by omega)
theorem Ev.succ {α : Type} {f : Nat → Option α} {r : α} (h : Ev (fun k => f (k + 1)) r) : Ev f r := by
  obtain ⟨n, h⟩ := h
  refine ⟨n + 1, fun k hk => ?_⟩
  obtain ⟨j, rfl⟩ : ∃ j, k = j + 1 := ⟨k - 1, by omega⟩
  exact h j (by omega)
theorem Ev.shift {α : Type} {f : Nat → Option α} {r : α} (h : Ev f r) : Ev (fun k => f (k + 1)) r := by
  obtain ⟨n, h⟩ := h
  exact ⟨n, fun k hk => h (k + 1) (by omega)⟩
theorem Ev.get {α : Type} {f : Nat → Option α} {r : α} (h : Ev f r) : ∃ k, f k = some r := by
  obtain ⟨n, h⟩ := h
  exact ⟨n, h n (Nat.le_refl _)⟩
theorem Ev.congr {α : Type} {f g : Nat → Option α} {r : α} (h : Ev f r) (e : ∀ k, g k = f k) : Ev g r := by
  obtain ⟨n, h⟩ := h
  exact ⟨n, fun k hk => (e k).trans (h k hk)⟩
theorem Ev.to {α : Type} {f : Nat → Option α} {a b : α} (h : Ev f a) (e : a = b) : Ev f b := e ▸ h
theorem Ev.ite {α : Type} {f g : Nat → Option α} {c : Bool} {r : α} (h1 : c = true → Ev f r) (h0 : c = false → Ev g r) : Ev (fun k => cond c (f k) (g k)) r := by
  cases c with
  | true => exact h1 rfl
  | false => exact h0 rfl
theorem Ev.at? {α β : Type} {xs : List α} {i : Nat} {b : α} {g : Nat → α → Option β} {r : β} (h : xs[i]? = some b) (h' : Ev (fun k => g k b) r) : Ev (fun k => (Go.MG.at? xs (i : Int)).bind (g k)) r := by
  have e := atN h
  simp only [e, Option.bind_some]
  exact h'
/-- A loop over a list: what it answers, told over what is left of it. -/
theorem Ev.forI {α S R : Type} {xs : List α} {L : Nat → S → Int → Option R} {f : List α → S → R} {I : Nat → S → Prop}
    (hnil : ∀ s, I xs.length s → Ev (fun k => L (k + 1) s (xs.length : Int)) (f [] s))
    (hcons : ∀ (i : Nat) (b : α) (s : S), xs[i]? = some b → i < xs.length → I i s → (∀ s', I (i + 1) s' → Ev (fun k => L k s' ((i + 1 : Nat) : Int)) (f (xs.drop (i + 1)) s')) → Ev (fun k => L (k + 1) s (i : Int)) (f (b :: xs.drop (i + 1)) s)) :
    ∀ (s : S), I 0 s → Ev (fun k => L k s 0) (f xs s) := by
  have key : ∀ (m i : Nat) (s : S), i + m = xs.length → I i s → Ev (fun k => L k s (i : Int)) (f (xs.drop i) s) := by
    intro m
    induction m with
    | zero =>
      intro i s hi hI
      have : i = xs.length := by omega
      subst this
      rw [List.drop_length]
      exact Ev.succ (hnil s hI)
    | succ m ih =>
      intro i s hi hI
      obtain ⟨b, hb⟩ := atLt (xs := xs) (i := i) (by omega)
      have hlt : i < xs.length := by omega
      have e : xs.drop i = b :: xs.drop (i + 1) := by
        rw [List.drop_eq_getElem_cons hlt]
        rw [List.getElem?_eq_getElem hlt] at hb
        cases hb; rfl
      rw [e]
      exact Ev.succ (hcons i b s hb hlt hI fun s' hs' => ih (i + 1) s' (by omega) hs')
  intro s hs
  have := key xs.length 0 s (by omega) hs
  simpa using this
theorem Ev.for {α S R : Type} {xs : List α} {L : Nat → S → Int → Option R} {f : List α → S → R}
    (hnil : ∀ s, Ev (fun k => L (k + 1) s (xs.length : Int)) (f [] s))
    (hcons : ∀ (i : Nat) (b : α) (s : S), xs[i]? = some b → i < xs.length → (∀ s', Ev (fun k => L k s' ((i + 1 : Nat) : Int)) (f (xs.drop (i + 1)) s')) → Ev (fun k => L (k + 1) s (i : Int)) (f (b :: xs.drop (i + 1)) s)) :
    ∀ (s : S), Ev (fun k => L k s 0) (f xs s) := fun s => Ev.forI (I := fun _ _ => True) (fun s _ => hnil s) (fun i b s hb hi _ h => hcons i b s hb hi fun s' => h s' trivial) s trivial
/-- It answers, and what it answers is so. -/
def EvP {α : Type} (f : Nat → Option α) (P : α → Prop) : Prop := ∃ r, Ev f r ∧ P r
theorem Ev.p {α : Type} {f : Nat → Option α} {r : α} {P : α → Prop} (h : Ev f r) (hp : P r) : EvP f P := ⟨r, h, hp⟩
theorem EvP.pure {α : Type} {r : α} {P : α → Prop} (h : P r) : EvP (fun _ => some r) P := ⟨r, Ev.pure r, h⟩
theorem EvP.bind {α β : Type} {f : Nat → Option α} {g : Nat → α → Option β} {P : α → Prop} {Q : β → Prop} (h : EvP f P) (h' : ∀ a, P a → EvP (fun k => g k a) Q) : EvP (fun k => (f k).bind (g k)) Q := by
  obtain ⟨a, h1, h2⟩ := h
  obtain ⟨r, h3, h4⟩ := h' a h2
  exact ⟨r, h1.bind h3, h4⟩
theorem EvP.bindE {α β : Type} {f : Nat → Option α} {g : Nat → α → Option β} {a : α} {Q : β → Prop} (h : Ev f a) (h' : EvP (fun k => g k a) Q) : EvP (fun k => (f k).bind (g k)) Q := by
  obtain ⟨r, h3, h4⟩ := h'
  exact ⟨r, h.bind h3, h4⟩
theorem EvP.ite {α : Type} {f g : Nat → Option α} {c : Bool} {P : α → Prop} (h1 : c = true → EvP f P) (h0 : c = false → EvP g P) : EvP (fun k => cond c (f k) (g k)) P := by
  cases c with
  | true => exact h1 rfl
  | false => exact h0 rfl
theorem EvP.mono {α : Type} {f : Nat → Option α} {P Q : α → Prop} (h : EvP f P) (hq : ∀ r, P r → Q r) : EvP f Q := by
  obtain ⟨r, h1, h2⟩ := h
  exact ⟨r, h1, hq r h2⟩
theorem EvP.succ {α : Type} {f : Nat → Option α} {P : α → Prop} (h : EvP (fun k => f (k + 1)) P) : EvP f P := by
  obtain ⟨r, h1, h2⟩ := h
  exact ⟨r, h1.succ, h2⟩
theorem EvP.at? {α β : Type} {xs : List α} {i : Nat} {b : α} {g : Nat → α → Option β} {P : β → Prop} (h : xs[i]? = some b) (h' : EvP (fun k => g k b) P) : EvP (fun k => (Go.MG.at? xs (i : Int)).bind (g k)) P := by
  obtain ⟨r, h1, h2⟩ := h'
  exact ⟨r, Ev.at? h h1, h2⟩
/-- A loop over a list, by an invariant. -/
theorem EvP.for {α S R : Type} {xs : List α} {L : Nat → S → Int → Option R} {P : R → Prop} (I : Nat → S → Prop)
    (hnil : ∀ s, I xs.length s → EvP (fun k => L (k + 1) s (xs.length : Int)) P)
    (hcons : ∀ (i : Nat) (b : α) (s : S), xs[i]? = some b → i < xs.length → I i s → (∀ s', I (i + 1) s' → EvP (fun k => L k s' ((i + 1 : Nat) : Int)) P) → EvP (fun k => L (k + 1) s (i : Int)) P) :
    ∀ (s : S), I 0 s → EvP (fun k => L k s 0) P := by
  have key : ∀ (m i : Nat) (s : S), i + m = xs.length → I i s → EvP (fun k => L k s (i : Int)) P := by
    intro m
    induction m with
    | zero =>
      intro i s hi hI
      have : i = xs.length := by omega
      subst this
      exact EvP.succ (hnil s hI)
    | succ m ih =>
      intro i s hi hI
      obtain ⟨b, hb⟩ := atLt (xs := xs) (i := i) (by omega)
      exact EvP.succ (hcons i b s hb (by omega) hI fun s' hs' => ih (i + 1) s' (by omega) hs')
  intro s hs
  simpa using key xs.length 0 s (by omega) hs
theorem EvP.shift {α : Type} {f : Nat → Option α} {P : α → Prop} (h : EvP f P) : EvP (fun k => f (k + 1)) P := by
  obtain ⟨r, h1, h2⟩ := h
  exact ⟨r, h1.shift, h2⟩
theorem EvP.ev {α : Type} {f : Nat → Option α} {r : α} (h : EvP f (fun x => x = r)) : Ev f r := by
  obtain ⟨x, h1, rfl⟩ := h
  exact h1
def isIn (x a b : Int) : Bool := decide (a ≤ x ∧ x ≤ b)
theorem sIn (k : Nat) (x a b : Int) : Fspec_l1In k x a b = some (isIn x a b) := by
  unfold Fspec_l1In isIn
  simp only [Bool.cond_decide]
  split
  all_goals
    refine congrArg some (Bool.eq_iff_iff.mpr ?_)
    simp only [decide_eq_true_eq, Bool.false_eq_true, false_iff]
    omega
theorem iIn (k : Nat) (x a b : Int) : Fimpl_within k x a b = some (isIn x a b) := sIn k x a b
theorem bvNat (n : Nat) (h : n < 18446744073709551616) : (BitVec.ofInt 64 (n : Int)).toNat = n := by
  rw [BitVec.ofInt_natCast, BitVec.toNat_ofNat]; exact Nat.mod_eq_of_lt (by omega)
theorem and127 (n : Nat) (h : n < 9223372036854775808) : Go.bits .and .i64 (n : Int) 127 = ((n % 128 : Nat) : Int) := by
  show IntKind.i64.wrap ((BitVec.ofInt 64 (n : Int) &&& BitVec.ofInt 64 ((127 : Nat) : Int)).toNat : Int) = _
  rw [BitVec.toNat_and, bvNat n (by omega), bvNat 127 (by omega), Nat.and_two_pow_sub_one_eq_mod n 7, wid (by omega) (by omega)]
theorem orNat (a b : Nat) (ha : a < 9223372036854775808) (hb : b < 9223372036854775808) : Go.bits .or .i64 (a : Int) (b : Int) = ((a ||| b : Nat) : Int) := by
  show IntKind.i64.wrap ((BitVec.ofInt 64 (a : Int) ||| BitVec.ofInt 64 (b : Int)).toNat : Int) = _
  have : a ||| b < 2 ^ 63 := Nat.or_lt_two_pow ha hb
  rw [BitVec.toNat_or, bvNat a (by omega), bvNat b (by omega), wid (by omega) (by omega)]
theorem orLow (a b i : Nat) (ha : a < 2 ^ i) : a ||| (b * 2 ^ i) = a + b * 2 ^ i := by
  rw [Nat.or_comm, Nat.mul_comm, ← Nat.two_pow_add_eq_or_of_lt ha, Nat.add_comm]
theorem or128 (m : Nat) (h : m < 128) : Go.bits .or .i64 (m : Int) 128 = ((128 + m : Nat) : Int) := by
  have := orNat m 128 (by omega) (by omega)
  rw [show ((128 : Nat) : Int) = 128 from rfl] at this
  rw [this, show 128 = 1 * 2 ^ 7 from rfl, orLow m 1 7 (by omega)]
  congr 1; omega
theorem highI (n : Nat) : shrI .i64 (n : Int) 7 = ((n / 128 : Nat) : Int) := by
  show Int.fdiv (n : Int) 128 = _
  rw [Int.fdiv_eq_ediv_of_nonneg _ (by omega)]; omega
theorem lowI (n : Nat) (h : n < 9223372036854775808) : Go.bits .or .i64 (Go.bits .and .i64 (n : Int) 127) 128 = ((128 + n % 128 : Nat) : Int) := by
  rw [and127 n h, or128 _ (Nat.mod_lt _ (by omega))]
theorem lowS (n : Nat) : IntKind.i64.wrap (128 + Int.tmod (n : Int) 128) = ((128 + n % 128 : Nat) : Int) := by
  rw [show Int.tmod (n : Int) 128 = ((n % 128 : Nat) : Int) from rfl, wid (by omega) (by omega)]; omega
theorem highS (n : Nat) (h : n < 9223372036854775808) : IntKind.i64.wrap (Int.tdiv (n : Int) 128) = ((n / 128 : Nat) : Int) := by
  rw [show Int.tdiv (n : Int) 128 = ((n / 128 : Nat) : Int) from rfl, wid (by omega) (by omega)]
theorem ofI_nat (n : Nat) (h : n < 256) : ofI (n : Int) = UInt8.ofNat n := by
  unfold ofI
  have : ((n : Int) % 256).toNat = n := by omega
  rw [this]
def varE (n : Nat) : List UInt8 := if h : n < 128 then [UInt8.ofNat n] else UInt8.ofNat (128 + n % 128) :: varE (n / 128)
termination_by n
decreasing_by omega
theorem varE_lt {n : Nat} (h : n < 128) : varE n = [UInt8.ofNat n] := by rw [varE, dif_pos h]
theorem varE_ge {n : Nat} (h : 128 ≤ n) : varE n = UInt8.ofNat (128 + n % 128) :: varE (n / 128) := by rw [varE, dif_neg (by omega)]
theorem varE_len : ∀ (m n : Nat), n < 128 ^ (m + 1) → (varE n).length ≤ m + 1
  | m, n, h => by
    by_cases hn : n < 128
    · rw [varE_lt hn]; simp
    · rw [varE_ge (by omega)]
      cases m with
      | zero => omega
      | succ m =>
        have := varE_len m (n / 128) (by rw [Nat.pow_succ] at h; omega)
        simp; omega
theorem varE_pos (n : Nat) : 0 < (varE n).length := by
  by_cases hn : n < 128
  · rw [varE_lt hn]; simp
  · rw [varE_ge (by omega)]; simp
def varI (a : Int) : List UInt8 := if 0 ≤ a ∧ a ≤ 562949953421311 then varE a.toNat else []
theorem varI_nat (n : Nat) (h : n ≤ 562949953421311) : varI (n : Int) = varE n := by
  unfold varI; rw [if_pos (by omega)]; simp
theorem varI_len (a : Int) : (varI a).length ≤ 7 := by
  unfold varI
  split
  · exact varE_len 6 _ (by omega)
  · simp
theorem sVarL : ∀ (m n : Nat) (acc : List UInt8), n < 128 ^ (m + 1) → m ≤ 8 → acc.length + m ≤ 1000 → Ev (fun k => Fspec_Var.l2 k (n : Int) acc) (acc ++ varE n) := by
  intro m
  induction m with
  | zero =>
    intro n acc h hm ha
    refine Ev.succ ?_
    simp only [Fspec_Var.l2]
    rw [decide_eq_false (p := (n : Int) ≥ 128) (by omega), decide_eq_true (p := (2 * (acc.length + [ofI (n : Int)].length) + 192) * 1 ≤ 281474976710656) (by simp; omega), ofI_nat n (by omega), varE_lt (by omega)]
    exact Ev.pure _
  | succ m ih =>
    intro n acc h hm ha
    have h9 : n < 9223372036854775808 := Nat.lt_of_lt_of_le h (Nat.le_trans (Nat.pow_le_pow_right (by omega) (show m + 1 + 1 ≤ 9 by omega)) (by decide))
    refine Ev.succ ?_
    simp only [Fspec_Var.l2]
    by_cases hn : n < 128
    · rw [decide_eq_false (p := (n : Int) ≥ 128) (by omega), decide_eq_true (p := (2 * (acc.length + [ofI (n : Int)].length) + 192) * 1 ≤ 281474976710656) (by simp; omega), ofI_nat n (by omega), varE_lt hn]
      exact Ev.pure _
    · rw [decide_eq_true (p := (n : Int) ≥ 128) (by omega), lowS, highS n h9, ofI_nat (128 + n % 128) (by omega), decide_eq_true (p := (2 * (acc.length + [UInt8.ofNat (128 + n % 128)].length) + 192) * 1 ≤ 281474976710656) (by simp; omega)]
      simp only [cond_true]
      refine (ih (n / 128) _ (by rw [Nat.pow_succ] at h; omega) (by omega) (by rw [List.length_append]; simp only [List.length_cons, List.length_nil]; omega)).to ?_
      rw [varE_ge (n := n) (by omega), List.append_assoc]; rfl
theorem iVarL : ∀ (m n : Nat) (acc : List UInt8), n < 128 ^ (m + 1) → m ≤ 8 → acc.length + m ≤ 1000 → Ev (fun k => Fimpl_Var.l2 k (n : Int) acc) (acc ++ varE n) := by
  intro m
  induction m with
  | zero =>
    intro n acc h hm ha
    refine Ev.succ ?_
    simp only [Fimpl_Var.l2]
    rw [decide_eq_false (p := (n : Int) > 127) (by omega), decide_eq_true (p := (2 * (acc.length + [ofI (n : Int)].length) + 192) * 1 ≤ 281474976710656) (by simp; omega), ofI_nat n (by omega), varE_lt (by omega)]
    exact Ev.pure _
  | succ m ih =>
    intro n acc h hm ha
    have h9 : n < 9223372036854775808 := Nat.lt_of_lt_of_le h (Nat.le_trans (Nat.pow_le_pow_right (by omega) (show m + 1 + 1 ≤ 9 by omega)) (by decide))
    refine Ev.succ ?_
    simp only [Fimpl_Var.l2]
    by_cases hn : n < 128
    · rw [decide_eq_false (p := (n : Int) > 127) (by omega), decide_eq_true (p := (2 * (acc.length + [ofI (n : Int)].length) + 192) * 1 ≤ 281474976710656) (by simp; omega), ofI_nat n (by omega), varE_lt hn]
      exact Ev.pure _
    · rw [decide_eq_true (p := (n : Int) > 127) (by omega), lowI n h9, highI n, ofI_nat (128 + n % 128) (by omega), decide_eq_true (p := (2 * (acc.length + [UInt8.ofNat (128 + n % 128)].length) + 192) * 1 ≤ 281474976710656) (by simp; omega)]
      simp only [cond_true]
      refine (ih (n / 128) _ (by rw [Nat.pow_succ] at h; omega) (by omega) (by rw [List.length_append]; simp only [List.length_cons, List.length_nil]; omega)).to ?_
      rw [varE_ge (n := n) (by omega), List.append_assoc]; rfl
theorem sVar (a : Int) : Ev (fun k => Fspec_Var k a) (varI a) := by
  simp only [Fspec_Var, sIn, Option.bind_some]
  refine Ev.ite (fun hc => ?_) (fun hc => ?_)
  · refine (Ev.pure _).to ?_
    unfold varI; rw [if_neg (fun h => by unfold isIn at hc; rw [decide_eq_true h] at hc; cases hc)]
  · have h : 0 ≤ a ∧ a ≤ 562949953421311 := by simpa [isIn] using hc
    obtain ⟨n, rfl⟩ : ∃ n : Nat, a = n := ⟨a.toNat, by omega⟩
    refine (sVarL 6 n [] (by omega) (by omega) (by simp)).to ?_
    rw [varI_nat n (by omega)]; rfl
theorem iVar (a : Int) : Ev (fun k => Fimpl_Var k a) (varI a) := by
  simp only [Fimpl_Var, iIn, Option.bind_some]
  refine Ev.ite (fun hc => ?_) (fun hc => ?_)
  · refine (Ev.pure _).to ?_
    unfold varI; rw [if_neg (fun h => by unfold isIn at hc; rw [decide_eq_true h] at hc; cases hc)]
  · have h : 0 ≤ a ∧ a ≤ 562949953421311 := by simpa [isIn] using hc
    obtain ⟨n, rfl⟩ : ∃ n : Nat, a = n := ⟨a.toNat, by omega⟩
    refine (iVarL 6 n [] (by omega) (by omega) (by simp)).to ?_
    rw [varI_nat n (by omega)]; rfl
/-- The number at the begin of a text, of at most f bytes, and how many they are. -/
def dv : Nat → List UInt8 → Option (Nat × Nat)
  | 0, _ => none
  | _ + 1, [] => none
  | f + 1, b :: bs => if b.toNat < 128 then some (b.toNat, 1) else match dv f bs with
    | some (n, s) => if n = 0 then none else some (b.toNat % 128 + 128 * n, s + 1)
    | none => none
def rvP (s : List UInt8) : Int × Int := match dv 7 s with
  | some (n, z) => ((n : Int), (z : Int))
  | none => (0, 0)
theorem u8eta (b : UInt8) : UInt8.ofNat b.toNat = b := by simp
theorem dv_ok : ∀ {f : Nat} {s : List UInt8} {n z : Nat}, dv f s = some (n, z) → z ≤ s.length ∧ z ≤ f ∧ 0 < z ∧ s.take z = varE n ∧ n < 128 ^ z
  | 0, s, n, z, h => by simp [dv] at h
  | f + 1, [], n, z, h => by simp [dv] at h
  | f + 1, b :: bs, n, z, h => by
    simp only [dv] at h
    split at h
    · rename_i hb
      cases h
      exact ⟨by simp, by omega, by omega, by rw [varE_lt hb]; simp, by simpa using hb⟩
    · rename_i hb
      split at h
      · rename_i m t hm
        split at h
        · cases h
        · rename_i hm0
          cases h
          obtain ⟨h1, h2, h3, h4, h5⟩ := dv_ok hm
          have hb2 := b.toNat_lt
          refine ⟨by simp; omega, by omega, by omega, ?_, ?_⟩
          · rw [List.take_succ_cons, h4, varE_ge (n := b.toNat % 128 + 128 * m) (by omega)]
            have e1 : (b.toNat % 128 + 128 * m) % 128 = b.toNat % 128 := by omega
            have e2 : (b.toNat % 128 + 128 * m) / 128 = m := by omega
            rw [e1, e2, show 128 + b.toNat % 128 = b.toNat by omega, u8eta]
          · rw [Nat.pow_succ]; omega
      · cases h
theorem varE_dv : ∀ {f : Nat} {n : Nat} {t : List UInt8}, n < 128 ^ (f + 1) → dv (f + 1) (varE n ++ t) = some (n, (varE n).length)
  | f, n, t, h => by
    by_cases hn : n < 128
    · rw [varE_lt hn]
      have : (UInt8.ofNat n).toNat = n := by rw [UInt8.toNat_ofNat']; omega
      simp [dv, this, hn]
    · have h1 : (UInt8.ofNat (128 + n % 128)).toNat = 128 + n % 128 := by rw [UInt8.toNat_ofNat']; omega
      rw [varE_ge (n := n) (by omega)]
      cases f with
      | zero => omega
      | succ f =>
        have ih := varE_dv (f := f) (n := n / 128) (t := t) (by rw [Nat.pow_succ] at h; omega)
        simp only [List.cons_append, dv.eq_3 (f + 1), h1]
        rw [if_neg (by omega), ih]
        simp only
        rw [if_neg (by omega)]
        simp only [List.length_cons]
        congr 2; omega
/-- The sum of the digits, the lowest first. -/
def digs : List UInt8 → Nat
  | [] => 0
  | b :: bs => b.toNat % 128 + 128 * digs bs
theorem digs_lt : ∀ (s : List UInt8), digs s < 128 ^ s.length
  | [] => by simp [digs]
  | b :: bs => by have := digs_lt bs; simp only [digs, List.length_cons, Nat.pow_succ]; omega
theorem digs_snoc : ∀ (s : List UInt8) (b : UInt8), digs (s ++ [b]) = digs s + b.toNat % 128 * 128 ^ s.length
  | [], b => by simp [digs]
  | c :: s, b => by
    simp only [List.cons_append, digs, List.length_cons, digs_snoc s b, Nat.pow_succ]
    rw [Nat.mul_add, Nat.mul_comm (128 ^ s.length) 128, ← Nat.mul_assoc, ← Nat.mul_assoc, Nat.mul_comm (b.toNat % 128) 128]
    omega
theorem digs_varE : ∀ (m n : Nat), n < 128 ^ (m + 1) → digs (varE n) = n
  | m, n, h => by
    by_cases hn : n < 128
    · rw [varE_lt hn]; simp [digs, UInt8.toNat_ofNat']; omega
    · rw [varE_ge (by omega)]
      have h1 : (UInt8.ofNat (128 + n % 128)).toNat = 128 + n % 128 := by rw [UInt8.toNat_ofNat']; omega
      cases m with
      | zero => omega
      | succ m =>
        simp only [digs, h1, digs_varE m (n / 128) (by rw [Nat.pow_succ] at h; omega)]; omega
/-- Whether the first bytes are a number's, of just this size. -/
theorem dv_take {s : List UInt8} {z : Nat} (hz : z ≤ s.length) (h7 : z ≤ 7) (h0 : 0 < z) (h : varE (digs (s.take z)) = s.take z) : dv 7 s = some (digs (s.take z), z) := by
  have h1 : digs (s.take z) < 128 ^ 7 := by
    have := digs_lt (s.take z)
    rw [List.length_take, Nat.min_eq_left hz] at this
    exact Nat.lt_of_lt_of_le this (Nat.pow_le_pow_right (by omega) h7)
  have h2 := varE_dv (f := 6) (n := digs (s.take z)) (t := s.drop z) h1
  rw [h, List.take_append_drop, List.length_take, Nat.min_eq_left hz] at h2
  exact h2
theorem dv_take' {s : List UInt8} {n z : Nat} (h : dv 7 s = some (n, z)) : digs (s.take z) = n ∧ varE (digs (s.take z)) = s.take z := by
  obtain ⟨h1, h2, h3, h4, h5⟩ := dv_ok h
  have h6 : n < 128 ^ (6 + 1) := Nat.lt_of_lt_of_le h5 (Nat.pow_le_pow_right (by omega) h2)
  have e : digs (s.take z) = n := by rw [h4]; exact digs_varE 6 n h6
  exact ⟨e, by rw [e, h4]⟩
theorem cutN {α : Type} {xs : List α} {a b : Nat} (h : a ≤ b) (h2 : b ≤ xs.length) : cut? xs (a : Int) (b : Int) = some ((xs.drop a).take (b - a)) := by
  unfold cut?
  rw [if_pos (by omega)]
  congr 2; omega
theorem cut0 {α : Type} {xs : List α} {b : Nat} (h2 : b ≤ xs.length) : cut? xs 0 (b : Int) = some (xs.take b) := by
  have := cutN (xs := xs) (a := 0) (b := b) (by omega) h2
  simpa using this
theorem varE_bytes : ∀ (m n : Nat), n < 128 ^ (m + 1) → ∀ (j : Nat) (b : UInt8), (varE n)[j]? = some b → if j + 1 < (varE n).length then 128 ≤ b.toNat else b.toNat < 128
  | m, n, h, j, b, hj => by
    by_cases hn : n < 128
    · rw [varE_lt hn] at hj ⊢
      cases j with
      | zero => simp at hj; subst hj; simp [UInt8.toNat_ofNat']; omega
      | succ j => simp at hj
    · rw [varE_ge (n := n) (by omega)] at hj ⊢
      have h1 : (UInt8.ofNat (128 + n % 128)).toNat = 128 + n % 128 := by rw [UInt8.toNat_ofNat']; omega
      have hp := varE_pos (n / 128)
      cases j with
      | zero => simp only [List.getElem?_cons_zero, Option.some.injEq] at hj; subst hj; rw [if_pos (by simp; omega), h1]; omega
      | succ j =>
        cases m with
        | zero => omega
        | succ m =>
          simp only [List.getElem?_cons_succ] at hj
          have := varE_bytes m (n / 128) (by rw [Nat.pow_succ] at h; omega) j b hj
          simp only [List.length_cons]
          by_cases hl : j + 1 < (varE (n / 128)).length
          · rw [if_pos (by omega)]; rwa [if_pos hl] at this
          · rw [if_neg (by omega)]; rwa [if_neg hl] at this
theorem dv_bytes {s : List UInt8} {n z : Nat} (h : dv 7 s = some (n, z)) {j : Nat} {b : UInt8} (hj : s[j]? = some b) : (j + 1 < z → 128 ≤ b.toNat) ∧ (j + 1 = z → b.toNat < 128) := by
  obtain ⟨h1, h2, h3, h4, h5⟩ := dv_ok h
  have h6 : n < 128 ^ (6 + 1) := Nat.lt_of_lt_of_le h5 (Nat.pow_le_pow_right (by omega) h2)
  have hlen : (varE n).length = z := by rw [← h4, List.length_take]; omega
  have get : j < z → (varE n)[j]? = some b := fun hjz => by rw [← h4, List.getElem?_take, if_pos hjz]; exact hj
  refine ⟨fun hl => ?_, fun hl => ?_⟩
  · have := varE_bytes 6 n h6 j b (get (by omega))
    rwa [if_pos (by omega)] at this
  · have := varE_bytes 6 n h6 j b (get (by omega))
    rwa [if_neg (by omega)] at this
theorem sRV26 (s : List UInt8) (z : Nat) (hz : z ≤ s.length) (h7 : z ≤ 7) (h0 : 0 < z) (r2 : Int × Int) : ∀ (j : Nat) (cl : Nat → List UInt8 → Int → Option (Int × Int)), j ≤ z → Ev (fun k => cl k s (IntKind.i64.wrap ((z : Int) + 1))) r2 →
    Ev (fun k => Fspec_ReadVar.l26 (cl k) k s (z : Int) (digs ((s.take z).drop j) : Int) ((j : Int) - 1)) (if varE (digs (s.take z)) = s.take z then ((digs (s.take z) : Int), (z : Int)) else r2) := by
  have hlt : digs (s.take z) < 128 ^ 7 := by
    have := digs_lt (s.take z)
    rw [List.length_take, Nat.min_eq_left hz] at this
    exact Nat.lt_of_lt_of_le this (Nat.pow_le_pow_right (by omega) h7)
  intro j
  induction j with
  | zero =>
    intro cl hj hcl
    refine Ev.succ ?_
    simp only [Fspec_ReadVar.l26]
    rw [decide_eq_false (by omega)]
    simp only [cond_false, List.drop_zero]
    refine Ev.bind (sVar _) ?_
    rw [varI_nat _ (by omega), cut0 hz]
    simp only [Option.bind_some]
    refine Ev.ite (fun hc => ?_) (fun hc => ?_)
    · rw [if_pos (eq_of_beq hc)]; exact Ev.pure _
    · rw [if_neg (fun h => by rw [h] at hc; simp at hc)]; exact hcl.shift
  | succ j ih =>
    intro cl hj hcl
    refine Ev.succ ?_
    simp only [Fspec_ReadVar.l26]
    obtain ⟨b, hb⟩ := atLt (xs := s) (i := j) (by omega)
    rw [decide_eq_true (by omega)]
    rw [show ((j + 1 : Nat) : Int) - 1 = (j : Int) by omega]
    simp only [cond_true]
    refine Ev.at? hb ?_
    have e : (s.take z).drop j = b :: (s.take z).drop (j + 1) := by
      have hl : j < (s.take z).length := by rw [List.length_take]; omega
      rw [List.drop_eq_getElem_cons hl]
      congr 1
      rw [List.getElem_take]
      rw [List.getElem?_eq_getElem (by omega)] at hb
      exact Option.some.inj hb
    have hd : digs ((s.take z).drop (j + 1)) < 128 ^ 7 := by
      have h1 := digs_lt ((s.take z).drop (j + 1))
      have h2 : ((s.take z).drop (j + 1)).length ≤ 7 := by simp; omega
      exact Nat.lt_of_lt_of_le h1 (Nat.pow_le_pow_right (by omega) h2)
    have e2 : IntKind.i64.wrap (IntKind.i64.wrap ((digs ((s.take z).drop (j + 1)) : Int) * 128) + Int.tmod (b.toNat : Int) 128) = (digs ((s.take z).drop j) : Int) := by
      rw [show Int.tmod (b.toNat : Int) 128 = ((b.toNat % 128 : Nat) : Int) from rfl, e]
      simp only [digs]
      rw [wid (n := (digs ((s.take z).drop (j + 1)) : Int) * 128) (by omega) (by omega), wid (by omega) (by omega)]
      omega
    rw [e2, wid (n := (j : Int) - 1) (by omega) (by omega)]
    exact ih (fun k => cl (k + 1)) (by omega) hcl.shift
theorem sReadVar (s : List UInt8) (hs : s.length ≤ 1048576) : Ev (fun k => Fspec_ReadVar k s) (rvP s) := by
  have key : ∀ (m z : Nat), z + m = 8 → 0 < z → Ev (fun k => Fspec_ReadVar.l22 k s (z : Int)) (match dv 7 s with | some (n, t) => if z ≤ t then ((n : Int), (t : Int)) else (0, 0) | none => (0, 0)) := by
    intro m
    induction m with
    | zero =>
      intro z hz h0
      refine Ev.succ ?_
      simp only [Fspec_ReadVar.l22]
      rw [decide_eq_false (by omega)]
      refine (Ev.pure _).to ?_
      cases hd : dv 7 s with
      | none => rfl
      | some p => obtain ⟨n, t⟩ := p; have := (dv_ok hd).2.1; simp only; rw [if_neg (by omega)]
    | succ m ih =>
      intro z hz h0
      refine Ev.succ ?_
      simp only [Fspec_ReadVar.l22]
      rw [decide_eq_true (p := (z : Int) ≤ 7) (by omega)]
      simp only [cond_true]
      by_cases hl : z ≤ s.length
      · rw [decide_eq_true (p := (z : Int) ≤ (s.length : Int)) (by omega)]
        simp only [cond_true]
        have hn := ih (z + 1) (by omega) (by omega)
        have h26 := sRV26 s z hl (by omega) h0 _ z (fun k => Fspec_ReadVar.l22 k) (Nat.le_refl _) (by rw [wid1 (by omega)]; exact hn)
        rw [show (s.take z).drop z = [] from List.drop_of_length_le (by rw [List.length_take]; omega)] at h26
        rw [wid (n := (z : Int) - 1) (by omega) (by omega)]
        refine h26.to ?_
        by_cases he : varE (digs (s.take z)) = s.take z
        · rw [if_pos he, dv_take hl (by omega) h0 he]; simp
        · rw [if_neg he]
          cases hd : dv 7 s with
          | none => rfl
          | some p =>
            obtain ⟨n, t⟩ := p
            have : t ≠ z := fun e => by subst e; exact he (dv_take' hd).2
            simp only
            by_cases h : z ≤ t
            · rw [if_pos h, if_pos (by omega)]
            · rw [if_neg h, if_neg (by omega)]
      · rw [decide_eq_false (p := (z : Int) ≤ (s.length : Int)) (by omega)]
        refine (Ev.pure _).to ?_
        cases hd : dv 7 s with
        | none => rfl
        | some p => obtain ⟨n, t⟩ := p; have := (dv_ok hd).1; simp only; rw [if_neg (by omega)]
  simp only [Fspec_ReadVar]
  refine (key 7 1 (by omega) (by omega)).to ?_
  unfold rvP
  cases hd : dv 7 s with
  | none => rfl
  | some p => obtain ⟨n, t⟩ := p; have := (dv_ok hd).2.2.1; simp only; rw [if_pos (by omega)]
theorem pow7 (i : Nat) : 2 ^ (7 * i) = 128 ^ i := by rw [Nat.pow_mul]
theorem iReadVar (s : List UInt8) (hs : s.length ≤ 1048576) : Ev (fun k => Fimpl_ReadVar k s) (rvP s) := by
  have none7 : ∀ i, (∀ j b, j < i → s[j]? = some b → 128 ≤ b.toNat) → (7 ≤ i ∨ s.length ≤ i) → rvP s = (0, 0) := by
    intro i hb hi
    unfold rvP
    cases hd : dv 7 s with
    | none => rfl
    | some p =>
      obtain ⟨n, z⟩ := p
      obtain ⟨h1, h2, h3, _, _⟩ := dv_ok hd
      obtain ⟨b, hb'⟩ := atLt (xs := s) (i := z - 1) (by omega)
      have := (dv_bytes hd hb').2 (by omega)
      have := hb (z - 1) b (by omega) hb'
      omega
  have key : ∀ (m i : Nat), i + m = s.length → i ≤ 7 → (∀ j b, j < i → s[j]? = some b → 128 ≤ b.toNat) → Ev (fun k => Fimpl_ReadVar.l2 k s (digs (s.take i) : Int) (i : Int)) (rvP s) := by
    intro m
    induction m with
    | zero =>
      intro i hi h7 hb
      refine Ev.succ ?_
      simp only [Fimpl_ReadVar.l2]
      rw [decide_eq_false (by omega)]
      exact (Ev.pure _).to (none7 i hb (.inr (by omega))).symm
    | succ m ih =>
      intro i hi h7 hb
      refine Ev.succ ?_
      simp only [Fimpl_ReadVar.l2]
      rw [decide_eq_true (p := (i : Int) < (s.length : Int)) (by omega)]
      simp only [cond_true]
      by_cases hi7 : i = 7
      · subst hi7
        rw [decide_eq_false (p := ((7 : Nat) : Int) < 7) (by omega)]
        exact (Ev.pure _).to (none7 7 hb (.inl (by omega))).symm
      rw [decide_eq_true (p := (i : Int) < 7) (by omega)]
      simp only [cond_true]
      obtain ⟨b, hb'⟩ := atLt (xs := s) (i := i) (by omega)
      have hbl := b.toNat_lt
      have e7 : IntKind.i64.wrap ((7 : Int) * (i : Int)) = ((7 * i : Nat) : Int) := by rw [wid (by omega) (by omega)]; omega
      refine Ev.at? hb' ?_
      rw [e7, decide_eq_false (by omega)]
      simp only [Bool.not_false, cond_true]
      refine Ev.at? hb' ?_
      have hand : ((b &&& 127).toNat : Nat) = b.toNat % 128 := by
        rw [UInt8.toNat_and]; exact Nat.and_two_pow_sub_one_eq_mod b.toNat 7
      have hdl : digs (s.take i) < 128 ^ i := by
        have := digs_lt (s.take i)
        rwa [List.length_take, Nat.min_eq_left (by omega)] at this
      have hp : 128 ^ i ≤ 128 ^ 6 := Nat.pow_le_pow_right (by omega) (by omega)
      have hm : b.toNat % 128 * 128 ^ i < 562949953421312 := by
        have h1 : b.toNat % 128 * 128 ^ i ≤ 127 * 128 ^ 6 := Nat.mul_le_mul (by omega) hp
        omega
      have eshl : shlI .i64 ((b.toNat % 128 : Nat) : Int) ((7 * i : Nat) : Int) = ((b.toNat % 128 * 128 ^ i : Nat) : Int) := by
        unfold shlI
        have e : min (((7 * i : Nat) : Int)).toNat IntKind.i64.bits = 7 * i := by
          have : IntKind.i64.bits = 64 := rfl
          rw [Int.toNat_natCast, this]; omega
        rw [e]
        have e2 : ((b.toNat % 128 : Nat) : Int) * 2 ^ (7 * i) = ((b.toNat % 128 * 128 ^ i : Nat) : Int) := by
          rw [← pow7, Int.natCast_mul, Int.natCast_pow]; rfl
        rw [e2]
        exact wid (by omega) (by omega)
      have eor : Go.bits .or .i64 (digs (s.take i) : Int) (shlI .i64 (((b &&& 127).toNat : Nat) : Int) ((7 * i : Nat) : Int)) = (digs (s.take (i + 1)) : Int) := by
        rw [hand, eshl, orNat _ _ (by omega) (by omega), ← pow7, orLow _ _ _ (by rw [pow7]; exact hdl), take_succ_get hb', digs_snoc, List.length_take, Nat.min_eq_left (by omega), pow7]
      rw [eor, wid1 (by omega)]
      have hd7 : digs (s.take (i + 1)) ≤ 562949953421311 := by
        have := digs_lt (s.take (i + 1))
        rw [List.length_take, Nat.min_eq_left (by omega)] at this
        have h2 : 128 ^ (i + 1) ≤ 128 ^ 7 := Nat.pow_le_pow_right (by omega) (by omega)
        omega
      refine Ev.ite (fun hc => ?_) (fun hc => ?_)
      · have hlt : b.toNat < 128 := by
          have := of_decide_eq_true hc
          simpa [UInt8.lt_iff_toNat_lt] using this
        refine Ev.bind (iVar _) ?_
        rw [varI_nat _ hd7, cut0 (by omega)]
        simp only [Option.bind_some]
        refine Ev.ite (fun hne => ?_) (fun hne => ?_)
        · refine (Ev.pure _).to ?_
          unfold rvP
          cases hd : dv 7 s with
          | none => rfl
          | some p =>
            obtain ⟨n, z⟩ := p
            obtain ⟨h1, h2, h3, _, _⟩ := dv_ok hd
            have hz : z = i + 1 := by
              obtain ⟨c, hc'⟩ := atLt (xs := s) (i := z - 1) (by omega)
              have l1 := (dv_bytes hd hc').2 (by omega)
              have l2 : ¬ z - 1 < i := fun h => by have := hb (z - 1) c h hc'; omega
              have l3 : ¬ i + 1 < z := fun h => by have := (dv_bytes hd hb').1 h; omega
              omega
            subst hz
            have := (dv_take' hd).2
            rw [this] at hne; simp at hne
        · refine (Ev.pure _).to ?_
          have he : varE (digs (s.take (i + 1))) = s.take (i + 1) := by simpa using hne
          unfold rvP
          rw [dv_take (by omega) (by omega) (by omega) he]
      · refine ih (i + 1) (by omega) (by omega) (fun j c hj hc' => ?_)
        by_cases hji : j < i
        · exact hb j c hji hc'
        · have : j = i := by omega
          subst this
          rw [hb'] at hc'; cases hc'
          have := of_decide_eq_false hc
          simpa [UInt8.lt_iff_toNat_lt] using this
  simp only [Fimpl_ReadVar]
  exact key s.length 0 (by omega) (by omega) (fun j b hj => by omega)
theorem at?_drop {s : List UInt8} {i : Nat} {c : UInt8} {t : List UInt8} (h : s.drop i = c :: t) : s[i]? = some c ∧ s.drop (i + 1) = t ∧ i < s.length := by
  have h1 : (s.drop i)[0]? = some c := by rw [h]; rfl
  rw [List.getElem?_drop, Nat.add_zero] at h1
  refine ⟨h1, ?_, (List.getElem?_eq_some_iff.1 h1).1⟩
  rw [← List.drop_drop, h]; rfl
theorem drop_at {α : Type} {l : List α} {j : Nat} {k : α} {ks : List α} (h : l.drop j = k :: ks) : j < l.length ∧ l[j]? = some k ∧ l.drop (j + 1) = ks := by
  have hk : l[j]? = some k := by
    have : (l.drop j)[0]? = some k := by rw [h]; rfl
    rwa [List.getElem?_drop, Nat.add_zero] at this
  exact ⟨(List.getElem?_eq_some_iff.1 hk).1, hk, by rw [← List.drop_drop, h]; rfl⟩
def fixI {α : Type} (d : α) (step : (Nat → α) → Nat → α) (i : Nat) : α := step (fun j => if _h : j < i then fixI d step j else d) i
termination_by i
theorem fixI_eq {α : Type} (d : α) (step : (Nat → α) → Nat → α) (i : Nat) : fixI d step i = step (fun j => if j < i then fixI d step j else d) i := by
  rw [fixI]; rfl
def nd (m : List Timpl_Tlv) (i : Nat) : Timpl_Tlv := (m[i]?).getD ⟨0, false, [], []⟩
def kd (m : List Timpl_Tlv) (i : Nat) : List Nat := (nd m i).Kids.map Int.toNat
theorem nd_get {m : List Timpl_Tlv} {i : Nat} {x : Timpl_Tlv} (h : m[i]? = some x) : nd m i = x := by simp [nd, h]
theorem get_nd {m : List Timpl_Tlv} {i : Nat} (h : i < m.length) : m[i]? = some (nd m i) := by simp [nd, h]
/-- A node that is as said, by itself. -/
def nOk (m : List Timpl_Tlv) (i : Nat) : Bool := isIn (nd m i).Tag 1 100 && (!((nd m i).Leaf && decide (0 < (nd m i).Kids.length)) && (!(!(nd m i).Leaf && (nd m i).Data != []) && (nd m i).Kids.all fun k => isIn k 0 ((i : Int) - 1)))
structure NOk (m : List Timpl_Tlv) (i : Nat) : Prop where
  tag : 1 ≤ (nd m i).Tag ∧ (nd m i).Tag ≤ 100
  leaf : (nd m i).Leaf = true → (nd m i).Kids = []
  data : (nd m i).Leaf = false → (nd m i).Data = []
  kids : ∀ k ∈ (nd m i).Kids, 0 ≤ k ∧ k < i
theorem nOk_iff {m : List Timpl_Tlv} {i : Nat} : nOk m i = true ↔ NOk m i := by
  unfold nOk isIn
  constructor
  · intro h
    simp only [Bool.and_eq_true, decide_eq_true_eq, List.all_eq_true, Bool.not_eq_true', Bool.and_eq_false_iff, decide_eq_false_iff_not, Bool.not_eq_false', bne_eq_false_iff_eq] at h
    obtain ⟨h1, h2, h3, h4⟩ := h
    refine ⟨h1, fun hl => ?_, fun hl => ?_, fun k hk => ?_⟩
    · rcases h2 with h2 | h2
      · rw [hl] at h2; cases h2
      · cases hk : (nd m i).Kids with
        | nil => rfl
        | cons a b => rw [hk] at h2; simp at h2
    · rcases h3 with h3 | h3
      · rw [hl] at h3; cases h3
      · exact h3
    · have := h4 k hk; omega
  · intro h
    simp only [Bool.and_eq_true, decide_eq_true_eq, List.all_eq_true, Bool.not_eq_true', Bool.and_eq_false_iff, decide_eq_false_iff_not, Bool.not_eq_false', bne_eq_false_iff_eq]
    refine ⟨h.tag, ?_, ?_, fun k hk => by have := h.kids k hk; omega⟩
    · cases hl : (nd m i).Leaf with
      | false => exact .inl rfl
      | true => rw [h.leaf hl]; exact .inr (by simp)
    · cases hl : (nd m i).Leaf with
      | true => exact .inl rfl
      | false => exact .inr (h.data hl)
theorem NOk.kd {m : List Timpl_Tlv} {i : Nat} (h : NOk m i) : ∀ k ∈ kd m i, k < i := fun k hk => by
  unfold M.kd at hk
  obtain ⟨x, hx, rfl⟩ := List.mem_map.1 hk
  have := h.kids x hx; omega
theorem NOk.kdI {m : List Timpl_Tlv} {i : Nat} (h : NOk m i) : (nd m i).Kids = (M.kd m i).map fun n : Nat => (n : Int) := by
  unfold M.kd
  rw [List.map_map]
  conv => lhs; rw [← List.map_id (nd m i).Kids]
  refine List.map_congr_left fun k hk => ?_
  have := h.kids k hk
  simp only [id, Function.comp]; omega
def head8 (t : Int) (n : Nat) : List UInt8 := UInt8.ofNat t.toNat :: varE n
def txStep (m : List Timpl_Tlv) (g : Nat → List UInt8) (i : Nat) : List UInt8 :=
  if (nd m i).Leaf then head8 (nd m i).Tag (nd m i).Data.length ++ (nd m i).Data else head8 ((nd m i).Tag + 128) ((kd m i).map g).flatten.length ++ ((kd m i).map g).flatten
def tx (m : List Timpl_Tlv) : Nat → List UInt8 := fixI [] (txStep m)
def postStep (m : List Timpl_Tlv) (g : Nat → List Nat) (i : Nat) : List Nat := ((kd m i).map g).flatten ++ [i]
def post (m : List Timpl_Tlv) : Nat → List Nat := fixI [] (postStep m)
def maxL : List Nat → Nat
  | [] => 0
  | x :: xs => max x (maxL xs)
theorem le_maxL : ∀ {l : List Nat} {x : Nat}, x ∈ l → x ≤ maxL l
  | a :: l, x, h => by
    simp only [maxL]
    rcases List.mem_cons.1 h with rfl | h
    · omega
    · have := le_maxL h; omega
theorem maxL_le : ∀ {l : List Nat} {n : Nat}, (∀ x ∈ l, x ≤ n) → maxL l ≤ n
  | [], n, _ => by simp [maxL]
  | a :: l, n, h => by
    have h1 := h a List.mem_cons_self
    have h2 := maxL_le (l := l) (n := n) fun x hx => h x (List.mem_cons_of_mem _ hx)
    simp only [maxL]; omega
def htStep (m : List Timpl_Tlv) (g : Nat → Nat) (i : Nat) : Nat := maxL ((kd m i).map g) + 1
def ht (m : List Timpl_Tlv) : Nat → Nat := fixI 0 (htStep m)
def vStep (m : List Timpl_Tlv) (g : Nat → Nat) (i : Nat) : Nat := (nd m i).Data.length + 10 + ((kd m i).map g).sum
def vv (m : List Timpl_Tlv) : Nat → Nat := fixI 0 (vStep m)
theorem map_lt {α : Type} {l : List Nat} {i : Nat} {f : Nat → α} {d : α} (h : ∀ k ∈ l, k < i) : l.map (fun j => if j < i then f j else d) = l.map f :=
  List.map_congr_left fun k hk => if_pos (h k hk)
theorem tx_leaf {m : List Timpl_Tlv} {i : Nat} (h : (nd m i).Leaf = true) : tx m i = head8 (nd m i).Tag (nd m i).Data.length ++ (nd m i).Data := by
  unfold tx; rw [fixI_eq, txStep, if_pos h]
theorem tx_node {m : List Timpl_Tlv} {i : Nat} (hk : ∀ k ∈ kd m i, k < i) (h : (nd m i).Leaf = false) : tx m i = head8 ((nd m i).Tag + 128) ((kd m i).map (tx m)).flatten.length ++ ((kd m i).map (tx m)).flatten := by
  unfold tx; rw [fixI_eq, txStep, if_neg (by rw [h]; simp), map_lt hk]
theorem post_eq {m : List Timpl_Tlv} {i : Nat} (hk : ∀ k ∈ kd m i, k < i) : post m i = ((kd m i).map (post m)).flatten ++ [i] := by
  unfold post; rw [fixI_eq, postStep, map_lt hk]
theorem ht_eq {m : List Timpl_Tlv} {i : Nat} (hk : ∀ k ∈ kd m i, k < i) : ht m i = maxL ((kd m i).map (ht m)) + 1 := by
  unfold ht; rw [fixI_eq, htStep, map_lt hk]
theorem vv_eq {m : List Timpl_Tlv} {i : Nat} (hk : ∀ k ∈ kd m i, k < i) : vv m i = (nd m i).Data.length + 10 + ((kd m i).map (vv m)).sum := by
  unfold vv; rw [fixI_eq, vStep, map_lt hk]
/-- What hangs on a node hangs on what is ahead of it alone. -/
theorem fixI_congr {α : Type} {d : α} {s t : (Nat → α) → Nat → α} {n : Nat} (h : ∀ (f g : Nat → α) (i : Nat), i ≤ n → (∀ j, j < i → f j = g j) → (∀ j, i ≤ j → f j = d ∧ g j = d) → s f i = t g i) : ∀ i, i ≤ n → fixI d s i = fixI d t i := by
  intro i
  induction i using Nat.strongRecOn with
  | _ i ih =>
    intro hi
    rw [fixI_eq, fixI_eq]
    refine h _ _ i hi (fun j hj => ?_) (fun j hj => ?_)
    · rw [if_pos hj, if_pos hj]; exact ih j hj (by omega)
    · rw [if_neg (by omega), if_neg (by omega)]; exact ⟨rfl, rfl⟩
theorem same_fun {α : Type} {d : α} {f g : Nat → α} {i : Nat} (h1 : ∀ j, j < i → f j = g j) (h2 : ∀ j, i ≤ j → f j = d ∧ g j = d) : f = g := by
  funext j
  by_cases hj : j < i
  · exact h1 j hj
  · have := h2 j (by omega); rw [this.1, this.2]
theorem tx_congr {m m' : List Timpl_Tlv} {n : Nat} (h : ∀ j, j ≤ n → nd m j = nd m' j) : tx m n = tx m' n :=
  fixI_congr (n := n) (fun f g i hi h1 h2 => by rw [same_fun h1 h2]; simp only [txStep, kd, h i hi]) n (Nat.le_refl _)
theorem post_congr {m m' : List Timpl_Tlv} {n : Nat} (h : ∀ j, j ≤ n → nd m j = nd m' j) : post m n = post m' n :=
  fixI_congr (n := n) (fun f g i hi h1 h2 => by rw [same_fun h1 h2]; simp only [postStep, kd, h i hi]) n (Nat.le_refl _)
theorem ht_congr {m m' : List Timpl_Tlv} {n : Nat} (h : ∀ j, j ≤ n → nd m j = nd m' j) : ht m n = ht m' n :=
  fixI_congr (n := n) (fun f g i hi h1 h2 => by rw [same_fun h1 h2]; simp only [htStep, kd, h i hi]) n (Nat.le_refl _)
theorem nd_append {m t : List Timpl_Tlv} {j : Nat} (h : j < m.length) : nd (m ++ t) j = nd m j := by
  simp [nd, List.getElem?_append_left h]
theorem NOk.congr {m m' : List Timpl_Tlv} {i : Nat} (h : nd m i = nd m' i) (hn : NOk m i) : NOk m' i := by
  constructor
  · rw [← h]; exact hn.tag
  · rw [← h]; exact hn.leaf
  · rw [← h]; exact hn.data
  · rw [← h]; exact hn.kids
def AllOk (m : List Timpl_Tlv) : Prop := ∀ i, i < m.length → NOk m i
theorem post_pos {m : List Timpl_Tlv} {i : Nat} : 0 < (post m i).length := by
  unfold post; rw [fixI_eq, postStep]; simp
/-- Where a row of numbers one by one is cut. -/
theorem range_cut : ∀ {a b : List Nat} {s n : Nat}, a ++ b = List.range' s n → a = List.range' s a.length ∧ b = List.range' (s + a.length) b.length
  | [], b, s, n, h => by
    simp only [List.nil_append] at h
    subst h; simp
  | x :: a, b, s, n, h => by
    cases n with
    | zero => simp at h
    | succ n =>
      simp only [List.cons_append, List.range'_succ, List.cons.injEq] at h
      obtain ⟨h1, h2⟩ := range_cut (a := a) (b := b) h.2
      constructor
      · rw [List.length_cons, List.range'_succ, ← h1, h.1]
      · rw [h2, List.length_cons, List.length_range', show s + 1 + a.length = s + (a.length + 1) by omega]
/-- How often a place stands below a node. -/
theorem post_count {m : List Timpl_Tlv} (hm : AllOk m) (j : Nat) : ∀ i, i < m.length → (post m i).count j = (if i = j then 1 else 0) + ((post m i).map fun p => (kd m p).count j).sum := by
  intro i
  induction i using Nat.strongRecOn with
  | _ i ih =>
    intro hi
    have hk := (hm i hi).kd
    rw [post_eq hk]
    have key : ∀ (ks : List Nat), (∀ k ∈ ks, k < i) → (((ks.map (post m)).flatten).count j) = ks.count j + ((((ks.map (post m)).flatten).map fun p => (kd m p).count j).sum) := by
      intro ks
      induction ks with
      | nil => intro _; simp
      | cons k ks ih2 =>
        intro h
        have hki := h k List.mem_cons_self
        simp only [List.map_cons, List.flatten_cons, List.count_append, List.map_append, List.sum_append]
        rw [ih k hki (by omega), ih2 fun x hx => h x (List.mem_cons_of_mem _ hx), List.count_cons]
        have : (if (k == j) = true then 1 else 0) = (if k = j then 1 else 0) := by simp
        rw [this]; omega
    rw [List.count_append, key _ hk]
    simp only [List.map_append, List.sum_append, List.map_cons, List.map_nil, List.sum_cons, List.sum_nil]
    have : List.count j [i] = if i = j then 1 else 0 := by simp [List.count_cons]
    rw [this]; omega
def allKids (m : List Timpl_Tlv) : List Nat := ((List.range m.length).map (kd m)).flatten
def Tree (m : List Timpl_Tlv) : Prop := ∀ j, j + 1 < m.length → (allKids m).count j = 1
theorem count_flat {α β : Type} [BEq β] (f : α → List β) (b : β) : ∀ (l : List α), ((l.map f).flatten).count b = (l.map fun x => (f x).count b).sum
  | [] => rfl
  | x :: l => by simp only [List.map_cons, List.flatten_cons, List.count_append, List.sum_cons, count_flat f b l]
theorem tree_of_post {m : List Timpl_Tlv} (hm : AllOk m) (h0 : 0 < m.length) (h : post m (m.length - 1) = List.range m.length) : Tree m := by
  intro j hj
  have := post_count hm j (m.length - 1) (by omega)
  rw [h, if_neg (by omega), List.count_range] at this
  rw [if_pos (by omega)] at this
  unfold allKids
  rw [count_flat]
  omega
theorem tree_perm {m : List Timpl_Tlv} (hm : AllOk m) (ht : Tree m) : (allKids m).Perm (List.range (m.length - 1)) := by
  rw [List.perm_iff_count]
  intro j
  rw [List.count_range]
  split
  · exact ht j (by omega)
  · rw [List.count_eq_zero]
    intro hj
    unfold allKids at hj
    simp only [List.mem_flatten, List.mem_map, List.mem_range] at hj
    obtain ⟨l, ⟨i, hi, rfl⟩, hj⟩ := hj
    have := (hm i hi).kd j hj
    omega
theorem sum_perm {a b : List Nat} (h : a.Perm b) : a.sum = b.sum := by
  induction h with
  | nil => rfl
  | cons x _ ih => simp [ih]
  | swap x y l => simp only [List.sum_cons]; omega
  | trans _ _ h1 h2 => exact h1.trans h2
theorem sum_add (f g : Nat → Nat) : ∀ (l : List Nat), (l.map fun x => f x + g x).sum = (l.map f).sum + (l.map g).sum
  | [] => rfl
  | x :: l => by simp only [List.map_cons, List.sum_cons, sum_add f g l]; omega
theorem sum_flat (f : Nat → List Nat) (g : Nat → Nat) : ∀ (l : List Nat), (((l.map f).flatten).map g).sum = (l.map fun x => ((f x).map g).sum).sum
  | [] => rfl
  | x :: l => by simp only [List.map_cons, List.flatten_cons, List.map_append, List.sum_append, List.sum_cons, sum_flat f g l]
theorem sum_le {f : Nat → Nat} {c : Nat} : ∀ {l : List Nat}, (∀ x ∈ l, f x ≤ c) → (l.map f).sum ≤ c * l.length
  | [], _ => by simp
  | x :: l, h => by
    have h1 := h x List.mem_cons_self
    have h2 := sum_le (l := l) fun y hy => h y (List.mem_cons_of_mem _ hy)
    simp only [List.map_cons, List.sum_cons, List.length_cons, Nat.mul_add, Nat.mul_one]; omega
theorem tree_vv {m : List Timpl_Tlv} (hm : AllOk m) (ht : Tree m) (h0 : 0 < m.length) : vv m (m.length - 1) = ((List.range m.length).map fun i => (nd m i).Data.length + 10).sum := by
  have e1 : ((List.range m.length).map (vv m)).sum = ((List.range m.length).map fun i => (nd m i).Data.length + 10).sum + ((List.range m.length).map fun i => ((kd m i).map (vv m)).sum).sum := by
    rw [← sum_add]
    refine congrArg List.sum (List.map_congr_left fun i hi => ?_)
    exact vv_eq (hm i (List.mem_range.1 hi)).kd
  have e2 : ((List.range m.length).map fun i => ((kd m i).map (vv m)).sum).sum = ((List.range (m.length - 1)).map (vv m)).sum := by
    rw [← sum_flat]
    exact sum_perm ((tree_perm hm ht).map _)
  have e3 : (List.range m.length) = List.range (m.length - 1) ++ [m.length - 1] := by
    conv => lhs; rw [show m.length = (m.length - 1) + 1 by omega, List.range_succ]
  rw [e2] at e1
  conv at e1 => lhs; rw [e3, List.map_append, List.sum_append]
  simp only [List.map_cons, List.map_nil, List.sum_cons, List.sum_nil] at e1
  omega
theorem sum_mem {l : List Nat} {x : Nat} (h : x ∈ l) : x ≤ l.sum := by
  induction l with
  | nil => cases h
  | cons a l ih =>
    simp only [List.sum_cons]
    rcases List.mem_cons.1 h with rfl | h
    · omega
    · have := ih h; omega
theorem varE_len8 {n : Nat} (h : n ≤ 72057594037927935) : (varE n).length ≤ 8 := varE_len 7 n (by omega)
theorem tx_len {m : List Timpl_Tlv} (hm : AllOk m) : ∀ i, i < m.length → vv m i ≤ 72057594037927935 → (tx m i).length ≤ vv m i := by
  intro i
  induction i using Nat.strongRecOn with
  | _ i ih =>
    intro hi hv
    have hk := (hm i hi).kd
    rw [vv_eq hk] at hv ⊢
    cases hl : (nd m i).Leaf with
    | true =>
      rw [tx_leaf hl]
      have := varE_len8 (n := (nd m i).Data.length) (by omega)
      simp only [head8, List.length_append, List.length_cons]; omega
    | false =>
      rw [tx_node hk hl]
      have key : ∀ (ks : List Nat), (∀ k ∈ ks, k < i) → (ks.map (vv m)).sum ≤ 72057594037927935 → ((ks.map (tx m)).flatten).length ≤ (ks.map (vv m)).sum := by
        intro ks
        induction ks with
        | nil => intro _ _; simp
        | cons k ks ih2 =>
          intro h hs
          simp only [List.map_cons, List.sum_cons] at hs
          have h1 := ih k (h k List.mem_cons_self) (by have := h k List.mem_cons_self; omega) (by omega)
          have h2 := ih2 (fun x hx => h x (List.mem_cons_of_mem _ hx)) (by omega)
          simp only [List.map_cons, List.flatten_cons, List.length_append, List.sum_cons]; omega
      have h1 := key _ hk (by omega)
      have := varE_len8 (n := ((kd m i).map (tx m)).flatten.length) (by omega)
      simp only [head8, List.length_append, List.length_cons]; omega
theorem tree_len {m : List Timpl_Tlv} (hm : AllOk m) (ht : Tree m) (h0 : 0 < m.length) (h60 : m.length ≤ 60) (hd : ∀ x ∈ m, x.Data.length ≤ 1048576) : (tx m (m.length - 1)).length ≤ 1073741824 := by
  have e := tree_vv hm ht h0
  have h1 : ((List.range m.length).map fun i => (nd m i).Data.length + 10).sum ≤ 1048586 * (List.range m.length).length := sum_le fun i hi => by
    have hi := List.mem_range.1 hi
    have := hd (nd m i) (List.mem_of_getElem? (get_nd hi)); omega
  rw [List.length_range] at h1
  have h2 : 1048586 * m.length ≤ 1048586 * 60 := Nat.mul_le_mul_left _ h60
  have := tx_len hm (m.length - 1) (by omega) (by omega)
  omega
theorem tx_kid {m : List Timpl_Tlv} {i k : Nat} (hk : ∀ k ∈ kd m i, k < i) (hl : (nd m i).Leaf = false) (h : k ∈ kd m i) : (tx m k).length ≤ (tx m i).length := by
  rw [tx_node hk hl, List.length_append, List.length_flatten]
  have := sum_mem (l := (List.map List.length (List.map (tx m) (kd m i)))) (x := (tx m k).length) (List.mem_map.2 ⟨_, List.mem_map.2 ⟨k, h, rfl⟩, rfl⟩)
  omega
abbrev Rd := Except Int (List Timpl_Tlv × Nat × Nat)
def rdL (rec : List Timpl_Tlv → Nat → Nat → Rd) (to : Nat) : Nat → List Timpl_Tlv → Nat → Nat → List Int → Except Int (List Timpl_Tlv × Nat × List Int)
  | 0, out, b, _, ks => .ok (out, b, ks)
  | g + 1, out, b, at', ks => if at' < to then match rec out b at' with
      | .error c => .error c
      | .ok (out', b', e) => rdL rec to g out' b' e (ks ++ [(out'.length : Int) - 1])
    else .ok (out, b, ks)
def rd (s : List UInt8) : Nat → Nat → List Timpl_Tlv → Nat → Nat → Rd
  | f, en, out, b, at' => if 60 ≤ b then .error 4 else if en ≤ at' then .error 1 else match s[at']? with
    | none => .error 1
    | some c => if ¬(1 ≤ c.toNat % 128 ∧ c.toNat % 128 ≤ 100) then .error 2 else match f with
      | 0 => .error 3
      | f + 1 => match dv 7 ((s.take en).drop (at' + 1)) with
        | none => .error 1
        | some (n, z) => if en < at' + 1 + z + n then .error 1 else if c.toNat < 128 then .ok (out ++ [⟨((c.toNat % 128 : Nat) : Int), true, (s.drop (at' + 1 + z)).take n, []⟩], b + 1, at' + 1 + z + n)
          else match rdL (fun o b a => rd s f (at' + 1 + z + n) o b a) (at' + 1 + z + n) n out (b + 1) (at' + 1 + z) [] with
          | .error c => .error c
          | .ok (out', b', ks) => .ok (out' ++ [⟨((c.toNat % 128 : Nat) : Int), false, [], ks⟩], b', at' + 1 + z + n)
/-- What was read at a place. -/
structure Got (s : List UInt8) (f at' : Nat) (out : List Timpl_Tlv) (b : Nat) (out' : List Timpl_Tlv) (b' e : Nat) : Prop where
  ex : ∃ nw, out' = out ++ nw
  lt : out.length < out'.length
  post : post out' (out'.length - 1) = List.range' out.length (out'.length - out.length)
  ht : ht out' (out'.length - 1) ≤ f
  ok : ∀ i, out.length ≤ i → i < out'.length → NOk out' i
  cnt : b' = b + (out'.length - out.length)
  b60 : b' ≤ 60
  lte : at' < e
  tx : tx out' (out'.length - 1) = (s.take e).drop at'
theorem nd_last {out : List Timpl_Tlv} {x : Timpl_Tlv} : nd (out ++ [x]) out.length = x := by simp [nd]
theorem cut_cat {s : List UInt8} {a b c : Nat} (h1 : a ≤ b) (h2 : b ≤ c) (h3 : c ≤ s.length) : (s.take b).drop a ++ (s.take c).drop b = (s.take c).drop a := by
  have e : s.take b = (s.take c).take b := by rw [List.take_take, Nat.min_eq_left h2]
  have e2 : (s.take c).drop b = ((s.take c).drop a).drop (b - a) := by rw [List.drop_drop]; congr 1; omega
  have e3 : (s.take b).drop a = ((s.take c).drop a).take (b - a) := by rw [e, List.drop_take]
  rw [e2, e3, List.take_append_drop]
theorem cut_len {s : List UInt8} {a b : Nat} (h : b ≤ s.length) : ((s.take b).drop a).length = b - a := by
  rw [List.length_drop, List.length_take, Nat.min_eq_left h]
theorem cut_cons {s : List UInt8} {a b : Nat} {c : UInt8} (h : s[a]? = some c) (h1 : a < b) : (s.take b).drop a = c :: (s.take b).drop (a + 1) := by
  have h2 : (s.take b)[a]? = some c := by rw [List.getElem?_take, if_pos h1, h]
  have h3 := (List.getElem?_eq_some_iff.1 h2)
  obtain ⟨h4, h5⟩ := h3
  rw [List.drop_eq_getElem_cons h4, h5]
/-- A row of kids that was read. -/
structure GotL (s : List UInt8) (f at' to : Nat) (out : List Timpl_Tlv) (b : Nat) (out' : List Timpl_Tlv) (b' : Nat) (ks : List Nat) : Prop where
  ex : ∃ nw, out' = out ++ nw
  post : (ks.map (M.post out')).flatten = List.range' out.length (out'.length - out.length)
  ht : ∀ k ∈ ks, M.ht out' k ≤ f
  kid : ∀ k ∈ ks, k < out'.length
  ok : ∀ i, out.length ≤ i → i < out'.length → NOk out' i
  cnt : b' = b + (out'.length - out.length)
  b60 : b' ≤ 60
  tx : (ks.map (M.tx out')).flatten = (s.take to).drop at'
theorem rdL_got {s : List UInt8} {f to : Nat} (hto : to ≤ s.length) (rec : List Timpl_Tlv → Nat → Nat → Rd) (hrec : ∀ out b a out' b' e, a < to → rec out b a = .ok (out', b', e) → e ≤ to ∧ Got s f a out b out' b' e) : ∀ (g a : Nat) (out : List Timpl_Tlv) (b : Nat) (ks0 : List Int) (out' : List Timpl_Tlv) (b' : Nat) (ks : List Int), a ≤ to → to - a ≤ g → b ≤ 60 → rdL rec to g out b a ks0 = .ok (out', b', ks) → ∃ kn : List Nat, ks = ks0 ++ kn.map (fun n : Nat => (n : Int)) ∧ GotL s f a to out b out' b' kn := by
  intro g
  induction g with
  | zero =>
    intro a out b ks0 out' b' ks ha hg hb h
    simp only [rdL, Except.ok.injEq, Prod.mk.injEq] at h
    obtain ⟨rfl, rfl, rfl⟩ := h
    refine ⟨[], by simp, ⟨[], by simp⟩, by simp, by simp, by simp, fun i h1 h2 => by omega, by omega, hb, ?_⟩
    simp only [List.map_nil, List.flatten_nil]
    exact (List.drop_of_length_le (by rw [List.length_take]; omega)).symm
  | succ g ih =>
    intro a out b ks0 out' b' ks ha hg hb h
    simp only [rdL] at h
    split at h
    · rename_i hlt
      split at h
      · cases h
      · rename_i o1 b1 e1 hr
        obtain ⟨he, hG⟩ := hrec _ _ _ _ _ _ hlt hr
        obtain ⟨kn, hk, hL⟩ := ih e1 o1 b1 _ out' b' ks he (by have := hG.lte; omega) hG.b60 h
        obtain ⟨n1, hn1⟩ := hG.ex
        obtain ⟨n2, hn2⟩ := hL.ex
        have hlt1 := hG.lt
        have hle : o1.length ≤ out'.length := by rw [hn2]; simp
        have hnd : ∀ j, j < o1.length → nd out' j = nd o1 j := fun j hj => by rw [hn2]; exact nd_append hj
        refine ⟨(o1.length - 1) :: kn, ?_, ⟨n1 ++ n2, by rw [hn2, hn1, List.append_assoc]⟩, ?_, ?_, ?_, ?_, ?_, hL.b60, ?_⟩
        · rw [hk, List.map_cons, List.append_assoc]
          rw [show ((o1.length - 1 : Nat) : Int) = (o1.length : Int) - 1 by omega]
          rfl
        · rw [List.map_cons, List.flatten_cons, hL.post, post_congr (m' := o1) (fun j hj => hnd j (by omega)), hG.post, show o1.length = out.length + (o1.length - out.length) by omega]
          rw [show out.length + (o1.length - out.length) - out.length = o1.length - out.length by omega, List.range'_append_1]
          congr 1; omega
        · intro k hk
          rcases List.mem_cons.1 hk with rfl | hk
          · rw [ht_congr (m' := o1) (fun j hj => hnd j (by omega))]; exact hG.ht
          · exact hL.ht k hk
        · intro k hk
          rcases List.mem_cons.1 hk with rfl | hk
          · omega
          · exact hL.kid k hk
        · intro i h1 h2
          by_cases hi : i < o1.length
          · exact (hG.ok i h1 hi).congr (hnd i hi).symm
          · exact hL.ok i (by omega) h2
        · have := hG.cnt; have := hL.cnt; omega
        · rw [List.map_cons, List.flatten_cons, hL.tx, tx_congr (m' := o1) (fun j hj => hnd j (by omega)), hG.tx]
          exact cut_cat (by have := hG.lte; omega) he hto
    · simp only [Except.ok.injEq, Prod.mk.injEq] at h
      obtain ⟨rfl, rfl, rfl⟩ := h
      refine ⟨[], by simp, ⟨[], by simp⟩, by simp, by simp, by simp, fun i h1 h2 => by omega, by omega, hb, ?_⟩
      simp only [List.map_nil, List.flatten_nil]
      exact (List.drop_of_length_le (by rw [List.length_take]; omega)).symm
theorem tag8 {c : UInt8} : UInt8.ofNat (((c.toNat % 128 : Nat) : Int) + 128).toNat = c ∨ c.toNat < 128 := by
  by_cases h : c.toNat < 128
  · exact .inr h
  · left
    have := c.toNat_lt
    rw [show (((c.toNat % 128 : Nat) : Int) + 128).toNat = c.toNat by omega]
    exact u8eta c
theorem rd_got {s : List UInt8} : ∀ (f en : Nat) (out : List Timpl_Tlv) (b a : Nat) (out' : List Timpl_Tlv) (b' e : Nat), en ≤ s.length → rd s f en out b a = .ok (out', b', e) → e ≤ en ∧ Got s f a out b out' b' e := by
  intro f
  induction f with
  | zero =>
    intro en out b a out' b' e hen h
    unfold rd at h
    split at h
    · cases h
    split at h
    · cases h
    split at h
    · cases h
    split at h
    · cases h
    · simp only at h; cases h
  | succ f ih =>
    intro en out b a out' b' e hen h
    unfold rd at h
    split at h
    · cases h
    rename_i hb
    split at h
    · cases h
    rename_i ha
    split at h
    · cases h
    rename_i c hc
    split at h
    · cases h
    rename_i ht
    simp only at h
    split at h
    · cases h
    rename_i n z hd
    have ⟨d1, d2, d3, d4, d5⟩ := dv_ok hd
    rw [cut_len hen] at d1
    split at h
    · cases h
    rename_i hle
    have ht' : 1 ≤ c.toNat % 128 ∧ c.toNat % 128 ≤ 100 := by omega
    have hpre : ∀ e, e = a + 1 + z + n → (s.take e).drop a = c :: varE n ++ (s.take e).drop (a + 1 + z) := by
      intro e he
      rw [cut_cons hc (by omega), List.cons_append]
      congr 1
      rw [← d4, ← cut_cat (s := s) (a := a + 1) (b := a + 1 + z) (c := e) (by omega) (by omega) (by omega)]
      congr 1
      rw [List.take_drop, List.take_take, Nat.min_eq_left (by omega)]
    split at h
    · rename_i hc8
      simp only [Except.ok.injEq, Prod.mk.injEq] at h
      obtain ⟨rfl, rfl, rfl⟩ := h
      have hlast := nd_last (out := out) (x := ⟨((c.toNat % 128 : Nat) : Int), true, (s.drop (a + 1 + z)).take n, []⟩)
      have hkd : kd (out ++ [(⟨((c.toNat % 128 : Nat) : Int), true, (s.drop (a + 1 + z)).take n, []⟩ : Timpl_Tlv)]) out.length = [] := by unfold kd; rw [hlast]; rfl
      have hk0 : ∀ k ∈ kd (out ++ [(⟨((c.toNat % 128 : Nat) : Int), true, (s.drop (a + 1 + z)).take n, []⟩ : Timpl_Tlv)]) out.length, k < out.length := by rw [hkd]; simp
      have hln : ((s.drop (a + 1 + z)).take n).length = n := by rw [List.length_take, List.length_drop]; omega
      refine ⟨by omega, ⟨_, rfl⟩, by simp, ?_, ?_, ?_, ?_, by omega, by omega, ?_⟩
      · simp only [List.length_append, List.length_cons, List.length_nil, Nat.add_sub_cancel]
        rw [post_eq hk0, hkd, show out.length + 1 - out.length = 1 by omega]; rfl
      · simp only [List.length_append, List.length_cons, List.length_nil, Nat.add_sub_cancel]
        rw [ht_eq hk0, hkd]; simp [maxL]
      · intro i h1 h2
        have : i = out.length := by simp at h2; omega
        subst this
        constructor
        · rw [hlast]; simp only; omega
        · rw [hlast]; intro _; rfl
        · rw [hlast]; intro h; cases h
        · rw [hlast]; intro k hk; cases hk
      · simp
      · simp only [List.length_append, List.length_cons, List.length_nil, Nat.add_sub_cancel]
        rw [tx_leaf (by rw [hlast]), hlast, hpre _ rfl, hln]
        simp only [head8]
        rw [show ((c.toNat % 128 : Nat) : Int).toNat = c.toNat by omega, u8eta, List.take_drop]
    · rename_i hc8
      split at h
      · cases h
      rename_i o1 b1 ks hL
      simp only [Except.ok.injEq, Prod.mk.injEq] at h
      obtain ⟨rfl, rfl, rfl⟩ := h
      obtain ⟨kn, hkn, hG⟩ := rdL_got (s := s) (f := f) (to := a + 1 + z + n) (by omega) _ (fun o b2 a2 o' b' e' _ hh => ih (a + 1 + z + n) o b2 a2 o' b' e' (by omega) hh) n (a + 1 + z) out (b + 1) [] o1 b1 ks (by omega) (by omega) (by omega) hL
      rw [List.nil_append] at hkn
      obtain ⟨nw, hnw⟩ := hG.ex
      have hlast := nd_last (out := o1) (x := ⟨((c.toNat % 128 : Nat) : Int), false, [], ks⟩)
      have hkd : kd (o1 ++ [(⟨((c.toNat % 128 : Nat) : Int), false, [], ks⟩ : Timpl_Tlv)]) o1.length = kn := by
        unfold kd; rw [hlast]; simp only [hkn, List.map_map]
        conv => rhs; rw [← List.map_id kn]
        exact List.map_congr_left fun k _ => by simp
      have hk0 : ∀ k ∈ kd (o1 ++ [(⟨((c.toNat % 128 : Nat) : Int), false, [], ks⟩ : Timpl_Tlv)]) o1.length, k < o1.length := by rw [hkd]; exact hG.kid
      have hnd : ∀ j, j < o1.length → nd (o1 ++ [(⟨((c.toNat % 128 : Nat) : Int), false, [], ks⟩ : Timpl_Tlv)]) j = nd o1 j := fun j hj => nd_append hj
      have hle1 : out.length ≤ o1.length := by rw [hnw]; simp
      have hcnt := hG.cnt
      have hb2 : b1 ≤ 60 := hG.b60
      refine ⟨by omega, ⟨nw ++ [⟨((c.toNat % 128 : Nat) : Int), false, [], ks⟩], by rw [hnw, List.append_assoc]⟩, by simp; omega, ?_, ?_, ?_, ?_, hb2, by omega, ?_⟩
      · simp only [List.length_append, List.length_cons, List.length_nil, Nat.add_sub_cancel]
        rw [post_eq hk0, hkd, List.map_congr_left (fun k hk => post_congr (m' := o1) fun j hj => hnd j (by have := hG.kid k hk; omega)), hG.post]
        have : [o1.length] = List.range' (out.length + (o1.length - out.length)) 1 := by rw [show out.length + (o1.length - out.length) = o1.length by omega]; rfl
        rw [this, List.range'_append_1]; congr 1; omega
      · simp only [List.length_append, List.length_cons, List.length_nil, Nat.add_sub_cancel]
        rw [ht_eq hk0, hkd]
        have : maxL (kn.map (M.ht (o1 ++ [(⟨((c.toNat % 128 : Nat) : Int), false, [], ks⟩ : Timpl_Tlv)]))) ≤ f := maxL_le fun x hx => by
          obtain ⟨k, hk, rfl⟩ := List.mem_map.1 hx
          rw [ht_congr (m' := o1) fun j hj => hnd j (by have := hG.kid k hk; omega)]
          exact hG.ht k hk
        omega
      · intro i h1 h2
        by_cases hi : i < o1.length
        · exact (hG.ok i h1 hi).congr (hnd i hi).symm
        have : i = o1.length := by simp at h2; omega
        subst this
        constructor
        · rw [hlast]; simp only; omega
        · rw [hlast]; intro h; cases h
        · rw [hlast]; intro _; rfl
        · rw [hlast]; intro k hk
          simp only [hkn] at hk
          obtain ⟨j, hj, rfl⟩ := List.mem_map.1 hk
          have := hG.kid j hj; omega
      · simp only [List.length_append, List.length_cons, List.length_nil]; omega
      · simp only [List.length_append, List.length_cons, List.length_nil, Nat.add_sub_cancel]
        rw [tx_node hk0 (by rw [hlast]), hkd, hlast, List.map_congr_left (fun k hk => tx_congr (m' := o1) fun j hj => hnd j (by have := hG.kid k hk; omega)), hG.tx, hpre _ rfl, cut_len (by omega)]
        simp only [head8]
        rw [(tag8 (c := c)).resolve_right hc8, show a + 1 + z + n - (a + 1 + z) = n by omega]
theorem last_range {m : List Timpl_Tlv} {k lo n : Nat} (hk : ∀ j ∈ kd m k, j < k) (h : post m k = List.range' lo n) : k + 1 = lo + n := by
  have hl := congrArg List.length h
  rw [post_eq hk] at h hl
  have h2 := (range_cut h).2
  simp only [List.length_append, List.length_cons, List.length_nil, List.length_range'] at hl
  simp only [List.length_cons, List.length_nil, Nat.zero_add, List.range'_one, List.cons.injEq, and_true] at h2
  omega
theorem tx_pos {m : List Timpl_Tlv} {k : Nat} (hk : ∀ j ∈ kd m k, j < k) : 0 < (tx m k).length := by
  cases hl : (nd m k).Leaf with
  | true => rw [tx_leaf hl]; simp [head8]
  | false => rw [tx_node hk hl]; simp [head8]
theorem take_take_drop {s : List UInt8} {a en : Nat} {x t : List UInt8} (h : s.drop a = x ++ t) (he : a + x.length ≤ en) (ha : a ≤ s.length) : ∃ t', (s.take en).drop a = x ++ t' := by
  rw [List.drop_take, h, List.take_append]
  refine ⟨t.take (en - a - x.length), ?_⟩
  rw [List.take_of_length_le (by omega)]
theorem drop_more {s : List UInt8} {a : Nat} {x t : List UInt8} (h : s.drop a = x ++ t) : s.drop (a + x.length) = t := by
  rw [← List.drop_drop, h, List.drop_left]
theorem rdL_tx {m : List Timpl_Tlv} {s : List UInt8} {f to hi : Nat} (hm : AllOk m) (hs : to ≤ s.length) (rec : List Timpl_Tlv → Nat → Nat → Rd)
    (hrec : ∀ k lo b a t, k < m.length → lo ≤ k → post m k = List.range' lo (k + 1 - lo) → ht m k ≤ f → a + (tx m k).length ≤ to → s.drop a = tx m k ++ t → b + (k + 1 - lo) ≤ 60 → rec (m.take lo) b a = .ok (m.take (k + 1), b + (k + 1 - lo), a + (tx m k).length)) :
    ∀ (kn : List Nat) (g lo a b : Nat) (ks0 : List Int) (t : List UInt8), (∀ k ∈ kn, k < m.length) → (∀ k ∈ kn, ht m k ≤ f) → lo ≤ hi → (kn.map (post m)).flatten = List.range' lo (hi - lo) → s.drop a = (kn.map (tx m)).flatten ++ t → a + ((kn.map (tx m)).flatten).length = to → ((kn.map (tx m)).flatten).length ≤ g → b + (hi - lo) ≤ 60 → rdL rec to g (m.take lo) b a ks0 = .ok (m.take hi, b + (hi - lo), ks0 ++ kn.map fun n : Nat => (n : Int)) := by
  intro kn
  induction kn with
  | nil =>
    intro g lo a b ks0 t _ _ hlo hp _ hto hg hb
    have e : hi = lo := by
      have := congrArg List.length hp
      simp at this; omega
    subst e
    simp at hto
    cases g with
    | zero => simp [rdL]
    | succ g =>
      simp only [rdL]
      rw [if_neg (by omega)]
      simp
  | cons k kn ih =>
    intro g lo a b ks0 t hk hh hlo hp hd hto hg hb
    have hkm := hk k List.mem_cons_self
    have hkk := (hm k hkm).kd
    simp only [List.map_cons, List.flatten_cons] at hp hd hto hg
    simp only [List.length_append] at hto hg
    have hpos := tx_pos hkk
    obtain ⟨g, rfl⟩ : ∃ j, g = j + 1 := ⟨g - 1, by omega⟩
    have ⟨p1, p2⟩ := range_cut hp
    have hl := last_range hkk p1
    have hpl := congrArg List.length hp
    simp only [List.length_append, List.length_range'] at hpl
    have hp0 := post_pos (m := m) (i := k)
    rw [show (post m k).length = k + 1 - lo by omega] at p1
    have hr := hrec k lo b a _ hkm (by omega) p1 (hh k List.mem_cons_self) (by omega) (by rw [List.append_assoc] at hd; exact hd) (by omega)
    simp only [rdL]
    rw [if_pos (by omega), hr]
    simp only
    rw [ih g (k + 1) (a + (tx m k).length) (b + (k + 1 - lo)) _ t (fun x hx => hk x (List.mem_cons_of_mem _ hx)) (fun x hx => hh x (List.mem_cons_of_mem _ hx)) (by omega) (by rw [p2, hl]; congr 1; omega) (drop_more (by rw [List.append_assoc] at hd; exact hd)) (by omega) (by omega) (by omega)]
    congr 2
    congr 1
    · omega
    · rw [List.length_take, Nat.min_eq_left (by omega), List.append_assoc, List.map_cons]
      rw [show ((k + 1 : Nat) : Int) - 1 = (k : Int) by omega]; rfl
theorem ofNat8 {n : Nat} (h : n < 256) : (UInt8.ofNat n).toNat = n := by rw [UInt8.toNat_ofNat']; omega
theorem take_snoc {m : List Timpl_Tlv} {i : Nat} (h : i < m.length) : m.take i ++ [nd m i] = m.take (i + 1) := (take_succ_get (get_nd h)).symm
theorem rd_tx {m : List Timpl_Tlv} {s : List UInt8} (hm : AllOk m) (hs : s.length ≤ 1048576) : ∀ (f i lo b a en : Nat) (t : List UInt8), i < m.length → lo ≤ i → post m i = List.range' lo (i + 1 - lo) → ht m i ≤ f → a + (tx m i).length ≤ en → en ≤ s.length → s.drop a = tx m i ++ t → b + (i + 1 - lo) ≤ 60 → rd s f en (m.take lo) b a = .ok (m.take (i + 1), b + (i + 1 - lo), a + (tx m i).length) := by
  intro f
  induction f with
  | zero =>
    intro i lo b a en t hi _ _ hh
    rw [ht_eq (hm i hi).kd] at hh; omega
  | succ f ih =>
    intro i lo b a en t hi hlo hp hh he hen hd hb
    have hN := hm i hi
    have hk := hN.kd
    have htag := hN.tag
    have hpos := tx_pos hk
    obtain ⟨t', ht'⟩ := take_take_drop hd he (by omega)
    unfold rd
    rw [if_neg (by omega), if_neg (by omega)]
    have hsn := take_snoc hi
    cases hl : (nd m i).Leaf with
    | true =>
      have e := tx_leaf hl
      have hlen : (tx m i).length = 1 + (varE (nd m i).Data.length).length + (nd m i).Data.length := by rw [e]; simp [head8]; omega
      rw [e] at hd ht'
      simp only [head8, List.cons_append] at hd ht'
      have h1 := at?_drop hd
      have h2 := at?_drop ht'
      rw [h1.1]
      simp only
      have hc := ofNat8 (n := (nd m i).Tag.toNat) (by omega)
      rw [hc, if_neg (by omega)]
      rw [h2.2.1, List.append_assoc, varE_dv (by omega)]
      simp only
      rw [if_neg (by omega), if_pos (by omega)]
      have hkds := hN.leaf hl
      have hdat : (s.drop (a + 1 + (varE (nd m i).Data.length).length)).take (nd m i).Data.length = (nd m i).Data := by
        rw [← List.drop_drop, h1.2.1, List.append_assoc, List.drop_left, List.take_left]
      rw [hdat]
      have hx : (⟨(((nd m i).Tag.toNat % 128 : Nat) : Int), true, (nd m i).Data, []⟩ : Timpl_Tlv) = nd m i := by
        have : (((nd m i).Tag.toNat % 128 : Nat) : Int) = (nd m i).Tag := by omega
        rw [this, ← hl, ← hkds]
      have hlo2 : lo = i := by
        rw [post_eq hk] at hp
        have hkd0 : kd m i = [] := by unfold kd; rw [hkds]; rfl
        rw [hkd0] at hp
        have := congrArg List.length hp
        simp at this; omega
      subst hlo2
      rw [hx, hsn, hlen]
      congr 3 <;> omega
    | false =>
      have e := tx_node hk hl
      have hlen : (tx m i).length = 1 + (varE ((kd m i).map (tx m)).flatten.length).length + ((kd m i).map (tx m)).flatten.length := by rw [e]; simp only [head8, List.length_append, List.length_cons]; omega
      rw [e] at hd ht'
      simp only [head8, List.cons_append] at hd ht'
      have h1 := at?_drop hd
      have h2 := at?_drop ht'
      rw [h1.1]
      simp only
      have hc := ofNat8 (n := ((nd m i).Tag + 128).toNat) (by omega)
      rw [hc, if_neg (by omega)]
      rw [h2.2.1, List.append_assoc, varE_dv (by omega)]
      simp only
      rw [if_neg (by omega), if_neg (by omega)]
      have hp2 := hp
      rw [post_eq hk] at hp2
      have ⟨q1, q2⟩ := range_cut hp2
      have hlq := congrArg List.length hp2
      simp only [List.length_append, List.length_cons, List.length_nil, List.length_range'] at hlq
      have hdr : s.drop (a + 1 + (varE ((kd m i).map (tx m)).flatten.length).length) = ((kd m i).map (tx m)).flatten ++ t := by
        rw [← List.drop_drop, h1.2.1, List.append_assoc, List.drop_left]
      rw [ht_eq hk] at hh
      have := rdL_tx (m := m) (s := s) (f := f) (to := a + 1 + (varE ((kd m i).map (tx m)).flatten.length).length + ((kd m i).map (tx m)).flatten.length) (hi := i) hm (by omega) (fun o b2 a2 => rd s f (a + 1 + (varE ((kd m i).map (tx m)).flatten.length).length + ((kd m i).map (tx m)).flatten.length) o b2 a2) (fun k lo2 b2 a2 t2 hk1 hk2 hk3 hk4 hk5 hk6 hk7 => ih k lo2 b2 a2 _ t2 hk1 hk2 hk3 hk4 hk5 (by omega) hk6 hk7) (kd m i) ((kd m i).map (tx m)).flatten.length lo (a + 1 + (varE ((kd m i).map (tx m)).flatten.length).length) (b + 1) [] t (fun k h => by have := hk k h; omega) (fun k h => by have := le_maxL (List.mem_map.2 ⟨k, h, rfl⟩ : ht m k ∈ (kd m i).map (ht m)); omega) (by omega) (by rw [q1]; congr 1; omega) hdr rfl (Nat.le_refl _) (by omega)
      rw [this]
      simp only [List.nil_append]
      have hx : (⟨((((nd m i).Tag + 128).toNat % 128 : Nat) : Int), false, [], (kd m i).map fun n : Nat => (n : Int)⟩ : Timpl_Tlv) = nd m i := by
        have : ((((nd m i).Tag + 128).toNat % 128 : Nat) : Int) = (nd m i).Tag := by omega
        rw [this, ← hN.kdI, ← hl, ← hN.data hl]
      rw [hx, hsn, hlen]
      congr 3 <;> omega
/-- What both sides ask of a message. -/
def Tlvly (m : List Timpl_Tlv) : Prop := 0 < m.length ∧ m.length ≤ 60 ∧ AllOk m ∧ ht m (m.length - 1) ≤ 8 ∧ post m (m.length - 1) = List.range m.length ∧ (tx m (m.length - 1)).length ≤ 900
theorem rd_show {m : List Timpl_Tlv} (h : Tlvly m) : rd (tx m (m.length - 1)) 8 (tx m (m.length - 1)).length [] 0 0 = .ok (m, m.length, (tx m (m.length - 1)).length) := by
  obtain ⟨h1, h2, h3, h4, h5, h6⟩ := h
  have := rd_tx (s := tx m (m.length - 1)) h3 (by omega) 8 (m.length - 1) 0 0 0 (tx m (m.length - 1)).length [] (by omega) (by omega) (by rw [h5, List.range_eq_range']; congr 1; omega) h4 (by omega) (Nat.le_refl _) (by simp) (by omega)
  rw [List.take_zero, show m.length - 1 + 1 = m.length by omega, List.take_length] at this
  rw [this]; congr 3 <;> omega
theorem show_rd {m : List Timpl_Tlv} {t : List UInt8} {b e : Nat} (ht : t.length ≤ 900) (h : rd t 8 t.length [] 0 0 = .ok (m, b, e)) : Tlvly m ∧ tx m (m.length - 1) = t.take e ∧ e ≤ t.length ∧ b = m.length := by
  obtain ⟨h1, h2⟩ := rd_got 8 t.length [] 0 0 m b e (Nat.le_refl _) h
  have hlt := h2.lt
  have hc := h2.cnt
  simp only [List.length_nil] at hlt hc
  have h60 := h2.b60
  have htx := h2.tx
  rw [List.drop_zero] at htx
  refine ⟨⟨hlt, by omega, fun i hi => h2.ok i (by simp) hi, h2.ht, ?_, ?_⟩, htx, h1, by omega⟩
  · rw [h2.post, List.range_eq_range']; rfl
  · rw [htx, List.length_take]; omega
def Sm (m : List Timpl_Tlv) : Prop := m.length ≤ 1048576 ∧ ∀ x ∈ m, x.Data.length ≤ 1048576 ∧ x.Kids.length ≤ 1048576
theorem Sm.nd {m : List Timpl_Tlv} (h : Sm m) (i : Nat) : (nd m i).Data.length ≤ 1048576 ∧ (nd m i).Kids.length ≤ 1048576 := by
  by_cases hi : i < m.length
  · exact h.2 _ (List.mem_of_getElem? (get_nd hi))
  · simp [M.nd, List.getElem?_eq_none (Nat.le_of_not_lt hi)]
theorem iNodeOk {m : List Timpl_Tlv} (hs : Sm m) {i : Nat} (hi : i < m.length) : Ev (fun k => Fimpl_nodeOk k m (i : Int)) (nOk m i) := by
  have hl := hs.1
  have hsk := hs.nd i
  simp only [Fimpl_nodeOk, Fimpl_nodeOk.j1]
  refine Ev.at? (get_nd hi) ?_
  have loop : Ev (fun k => Fimpl_nodeOk.l3 k (i : Int) (nd m i) ((nd m i).Kids.length : Int) (0 : Int)) ((nd m i).Kids.all fun k => isIn k 0 ((i : Int) - 1)) := by
    refine Ev.for (xs := (nd m i).Kids) (L := fun k (_ : Unit) j => Fimpl_nodeOk.l3 k (i : Int) (nd m i) ((nd m i).Kids.length : Int) j) (f := fun l _ => l.all fun k => isIn k 0 ((i : Int) - 1)) (fun _ => by simp only [Fimpl_nodeOk.l3, ltD0, cond_false]; exact Ev.pure _) (fun j b s hb hj h => ?_) ()
    simp only [Fimpl_nodeOk.l3, ltD hj, cond_true, iIn, Option.bind_some]
    refine Ev.at? hb ?_
    rw [wid (n := (i : Int) - 1) (by omega) (by omega)]
    simp only [List.all_cons]
    refine Ev.ite (fun hc => ?_) (fun hc => ?_)
    · rw [show isIn b 0 ((i : Int) - 1) = false by simpa using hc]; exact Ev.pure _
    · rw [show isIn b 0 ((i : Int) - 1) = true by simpa using hc, wid1 (by omega)]; exact h ()
  simp only [iIn, Option.bind_some]
  unfold nOk
  cases h1 : isIn (nd m i).Tag 1 100 with
  | false => simp only [Bool.not_false, cond_true, Bool.false_and]; exact Ev.pure _
  | true =>
    simp only [Bool.not_true, cond_false, Bool.true_and]
    cases h2 : (nd m i).Leaf with
    | true =>
      simp only [cond_true, Bool.true_and, Bool.not_true, Bool.false_and, Bool.not_false, cond_false]
      refine Ev.ite (fun hc => ?_) (fun hc => ?_)
      · rw [show decide (0 < (nd m i).Kids.length) = true by simp at hc ⊢; exact hc]; exact Ev.pure _
      · rw [show decide (0 < (nd m i).Kids.length) = false by simp at hc ⊢; exact hc]; exact loop
    | false =>
      simp only [cond_false, Bool.not_false, Bool.false_and, cond_true, Bool.true_and]
      refine Ev.ite (fun hc => ?_) (fun hc => ?_)
      · rw [hc]; exact Ev.pure _
      · rw [hc]; exact loop
def iMap (l : List Nat) : List Int := l.map fun n : Nat => (n : Int)
theorem iMap_len (l : List Nat) : (iMap l).length = l.length := List.length_map _
theorem iMap_get {l : List Nat} {j k : Nat} (h : l[j]? = some k) : (iMap l)[j]? = some (k : Int) := by simp [iMap, h]
theorem iMap_app (a b : List Nat) : iMap (a ++ b) = iMap a ++ iMap b := List.map_append
def EndR (m : List Timpl_Tlv) (out : List Int) (c : Prop) (p : List Nat) (r : List Int × Bool) : Prop := (r.2 = true ↔ (c ∧ out.length + p.length ≤ 60)) ∧ (r.2 = true → r.1 = out ++ iMap p)
theorem endedL {m : List Timpl_Tlv} {i d : Nat} (hd : d ≤ 100) (x : Timpl_Tlv) : ∀ (ks : List Nat) (kn : List Nat) (j : Nat) (cl : Nat → List Timpl_Tlv → Int → Int → List Int → Option (List Int × Bool)) (out : List Int), x.Kids = iMap kn → kn.length ≤ 1048576 → kn.drop j = ks → out.length ≤ 60 →
    (∀ k ∈ ks, ∀ out : List Int, out.length ≤ 60 → EvP (fun n => cl n m (k : Int) ((d : Int) + 1) out) (EndR m out (ht m k + d ≤ 8) (post m k))) →
    EvP (fun n => Fimpl_ended.l4 (cl n) n m (i : Int) (d : Int) out x (kn.length : Int) (j : Int)) (EndR m out (∀ k ∈ ks, ht m k + d ≤ 8) ((ks.map (post m)).flatten ++ [i])) := by
  intro ks
  induction ks with
  | nil =>
    intro kn j cl out hxk hkl hdr ho hcl
    refine EvP.succ ?_
    simp only [Fimpl_ended.l4]
    have : kn.length ≤ j := by simpa using hdr
    rw [decide_eq_false (by omega), decide_eq_true (by simp; omega)]
    simp only [cond_false, cond_true]
    refine EvP.pure ⟨?_, fun _ => by simp [iMap]⟩
    simp; omega
  | cons k ks ih =>
    intro kn j cl out hxk hkl hdr ho hcl
    have hj : j < kn.length := by
      have := congrArg List.length hdr
      simp at this; omega
    have hk : kn[j]? = some k := by
      have : (kn.drop j)[0]? = some k := by rw [hdr]; rfl
      rwa [List.getElem?_drop, Nat.add_zero] at this
    have hdr2 : kn.drop (j + 1) = ks := by rw [← List.drop_drop, hdr]; rfl
    refine EvP.succ ?_
    simp only [Fimpl_ended.l4]
    rw [decide_eq_true (by omega)]
    simp only [cond_true]
    rw [hxk]
    refine EvP.at? (iMap_get hk) ?_
    rw [wid (n := (d : Int) + 1) (by omega) (by omega), wid1 (by omega)]
    refine EvP.bind (hcl k List.mem_cons_self out ho).shift (fun r hr => ?_)
    have hp := post_pos (m := m) (i := k)
    refine EvP.ite (fun hc => ?_) (fun hc => ?_)
    · have hf : r.2 = false := by simpa using hc
      refine EvP.pure ⟨⟨fun h => (by cases h), fun h => ?_⟩, fun h => (by cases h)⟩
      exfalso
      have : r.2 = true := hr.1.2 ⟨h.1 k List.mem_cons_self, by
        have := h.2
        simp only [List.map_cons, List.flatten_cons, List.length_append] at this; omega⟩
      rw [hf] at this; cases this
    · have hf : r.2 = true := by simpa using hc
      have h1 := hr.1.1 hf
      have h2 := hr.2 hf
      rw [h2]
      refine (ih kn (j + 1) (fun n => cl (n + 1)) (out ++ iMap (post m k)) hxk hkl hdr2 (by rw [List.length_append, iMap_len]; exact h1.2) (fun k' hk' o ho => (hcl k' (List.mem_cons_of_mem _ hk') o ho).shift)).mono (fun r hr => ?_)
      refine ⟨hr.1.trans ?_, fun h => ?_⟩
      · simp only [List.length_append, iMap_len, List.map_cons, List.flatten_cons, List.mem_cons, forall_eq_or_imp]
        constructor
        · rintro ⟨a, b⟩; exact ⟨⟨h1.1, a⟩, by omega⟩
        · rintro ⟨⟨_, a⟩, b⟩; exact ⟨a, by omega⟩
      · rw [hr.2 h, List.append_assoc, ← iMap_app, List.map_cons, List.flatten_cons, List.append_assoc]
theorem iEnded {m : List Timpl_Tlv} (hs : Sm m) (hm : AllOk m) : ∀ (i d : Nat) (out : List Int), i < m.length → d ≤ 9 → out.length ≤ 60 → EvP (fun k => Fimpl_ended k m (i : Int) (d : Int) out) (EndR m out (ht m i + d ≤ 9) (post m i)) := by
  intro i
  induction i using Nat.strongRecOn with
  | _ i ih =>
    intro d out hi hd ho
    have hk := (hm i hi).kd
    have hp := post_pos (m := m) (i := i)
    have hh := ht_eq hk
    refine EvP.succ ?_
    simp only [Fimpl_ended, Fimpl_ended.j2]
    refine EvP.ite (fun hc => ?_) (fun hc => ?_)
    · simp only [cond_true]
      have hc : (d : Int) > 8 := by simpa using hc
      exact EvP.pure ⟨⟨fun h => (by cases h), fun h => by omega⟩, fun h => (by cases h)⟩
    · have hc : (d : Int) ≤ 8 := by simpa using hc
      refine EvP.ite (fun h6 => ?_) (fun h6 => ?_)
      · have h6 : (out.length : Int) ≥ 60 := by simpa using h6
        exact EvP.pure ⟨⟨fun h => (by cases h), fun h => by omega⟩, fun h => (by cases h)⟩
      · refine EvP.at? (get_nd hi) ?_
        have hkd := (hm i hi).kdI
        have hkl : (kd m i).length ≤ 1048576 := by have := (hs.nd i).2; unfold kd; rw [List.length_map]; exact this
        have hxl : (nd m i).Kids.length = (kd m i).length := by rw [show (nd m i).Kids = iMap (kd m i) from hkd, iMap_len]
        rw [hxl]
        refine (endedL (m := m) (i := i) (d := d) (by omega) (nd m i) (kd m i) (kd m i) 0 (fun k => Fimpl_ended k) out hkd hkl rfl ho (fun k hk' o ho => (ih k (hk k hk') (d + 1) o (by have := hk k hk'; omega) (by omega) ho).mono (fun r hr => ?_))).mono (fun r hr => ?_)
        · exact ⟨hr.1.trans ⟨fun h => ⟨by omega, h.2⟩, fun h => ⟨by omega, h.2⟩⟩, hr.2⟩
        · rw [← post_eq hk] at hr
          refine ⟨hr.1.trans ⟨fun h => ⟨?_, h.2⟩, fun h => ⟨fun k hk' => ?_, h.2⟩⟩, hr.2⟩
          · have : maxL ((kd m i).map (ht m)) ≤ 8 - d := maxL_le fun x hx => by
              obtain ⟨k, hk', rfl⟩ := List.mem_map.1 hx
              have := h.1 k hk'; omega
            omega
          · have := le_maxL (List.mem_map.2 ⟨k, hk', rfl⟩ : ht m k ∈ (kd m i).map (ht m)); omega
theorem headW {t : Int} (h : 1 ≤ t ∧ t ≤ 100) : ofI (IntKind.i64.wrap (t + 128)) = UInt8.ofNat (t + 128).toNat := by
  rw [wid (by omega) (by omega)]
  obtain ⟨n, hn⟩ : ∃ n : Nat, t + 128 = n := ⟨(t + 128).toNat, by omega⟩
  rw [hn, ofI_nat _ (by omega)]; rfl
theorem headT {t : Int} (h : 1 ≤ t ∧ t ≤ 100) : ofI t = UInt8.ofNat t.toNat := by
  obtain ⟨n, hn⟩ : ∃ n : Nat, t = n := ⟨t.toNat, by omega⟩
  rw [hn, ofI_nat _ (by omega)]; rfl
theorem iTextL {m : List Timpl_Tlv} {x : Timpl_Tlv} (htag : 1 ≤ x.Tag ∧ x.Tag ≤ 100) : ∀ (ks : List Nat) (kn : List Nat) (j : Nat) (cl : Nat → List Timpl_Tlv → Int → Option (List UInt8)) (acc : List UInt8), x.Kids = iMap kn → kn.length ≤ 1048576 → kn.drop j = ks →
    acc.length + ((ks.map (tx m)).flatten).length ≤ 1073741824 → (∀ k ∈ ks, Ev (fun n => cl n m (k : Int)) (tx m k)) →
    Ev (fun n => Fimpl_tlvText.l2 (cl n) n m acc x (kn.length : Int) (j : Int)) (head8 (x.Tag + 128) (acc ++ (ks.map (tx m)).flatten).length ++ (acc ++ (ks.map (tx m)).flatten)) := by
  intro ks
  induction ks with
  | nil =>
    intro kn j cl acc hxk hkl hdr hb hcl
    refine Ev.succ ?_
    simp only [Fimpl_tlvText.l2]
    have : kn.length ≤ j := by simpa using hdr
    rw [decide_eq_false (by omega)]
    simp only [cond_false, List.map_nil, List.flatten_nil, List.append_nil, List.length_nil, Nat.add_zero] at hb ⊢
    have hv := varI_len (acc.length : Int)
    refine Ev.bind (iVar _) ?_
    rw [decide_eq_true (by simp only [List.length_cons, List.length_nil]; omega), decide_eq_true (by simp only [List.length_cons, List.length_nil, List.length_append]; omega)]
    simp only [cond_true]
    refine (Ev.pure _).to ?_
    rw [varI_nat _ (by omega), headW htag]; rfl
  | cons k ks ih =>
    intro kn j cl acc hxk hkl hdr hb hcl
    obtain ⟨hj, hk, hdr2⟩ := drop_at hdr
    simp only [List.map_cons, List.flatten_cons, List.length_append] at hb
    refine Ev.succ ?_
    simp only [Fimpl_tlvText.l2]
    rw [decide_eq_true (by omega)]
    simp only [cond_true]
    rw [hxk]
    refine Ev.at? (iMap_get hk) (Ev.bind (hcl k List.mem_cons_self).shift ?_)
    rw [decide_eq_true (by omega), wid1 (by omega)]
    simp only [cond_true]
    refine (ih kn (j + 1) (fun n => cl (n + 1)) (acc ++ tx m k) hxk hkl hdr2 (by simp only [List.length_append]; omega) (fun k' hk' => (hcl k' (List.mem_cons_of_mem _ hk')).shift)).to ?_
    rw [List.map_cons, List.flatten_cons, List.append_assoc]
theorem iText {m : List Timpl_Tlv} (hs : Sm m) (hm : AllOk m) : ∀ (i : Nat), i < m.length → (tx m i).length ≤ 1073741824 → Ev (fun k => Fimpl_tlvText k m (i : Int)) (tx m i) := by
  intro i
  induction i using Nat.strongRecOn with
  | _ i ih =>
    intro hi hb
    have hN := hm i hi
    have hk := hN.kd
    have hsk := hs.nd i
    refine Ev.succ ?_
    simp only [Fimpl_tlvText]
    refine Ev.at? (get_nd hi) (Ev.ite (fun hl => ?_) (fun hl => ?_))
    · have hv := varI_len ((nd m i).Data.length : Int)
      refine Ev.bind (iVar _) ?_
      rw [decide_eq_true (by simp only [List.length_cons, List.length_nil]; omega), decide_eq_true (by simp only [List.length_cons, List.length_nil, List.length_append]; omega)]
      simp only [cond_true]
      refine (Ev.pure _).to ?_
      rw [varI_nat _ (by omega), tx_leaf hl, headT hN.tag]; rfl
    · have e := tx_node hk hl
      have hkl : (kd m i).length ≤ 1048576 := by unfold kd; rw [List.length_map]; exact hsk.2
      have hb2 : (((kd m i).map (tx m)).flatten).length ≤ 1073741824 := by rw [e, List.length_append] at hb; omega
      have hxl : (nd m i).Kids.length = (kd m i).length := by rw [show (nd m i).Kids = iMap (kd m i) from hN.kdI, iMap_len]
      rw [hxl, e]
      exact iTextL (m := m) hN.tag (kd m i) (kd m i) 0 (fun k => Fimpl_tlvText k) [] hN.kdI hkl rfl (by simpa using hb2) (fun k hk' => ih k (hk k hk') (by have := hk k hk'; omega) (by have := tx_kid hk hl hk'; omega))
theorem sTextL {m : List Timpl_Tlv} {x : Timpl_Tlv} (htag : 1 ≤ x.Tag ∧ x.Tag ≤ 100) : ∀ (ks : List Nat) (kn : List Nat) (j : Nat) (cl : Nat → List Timpl_Tlv → Int → Option (List UInt8)) (acc : List UInt8), x.Kids = iMap kn → kn.length ≤ 1048576 → kn.drop j = ks →
    acc.length + ((ks.map (tx m)).flatten).length ≤ 1073741824 → (∀ k ∈ ks, Ev (fun n => cl n m (k : Int)) (tx m k)) →
    Ev (fun n => Fspec_l14Show.l2 (cl n) n m acc (j : Int) x) (head8 (x.Tag + 128) (acc ++ (ks.map (tx m)).flatten).length ++ (acc ++ (ks.map (tx m)).flatten)) := by
  intro ks
  induction ks with
  | nil =>
    intro kn j cl acc hxk hkl hdr hb hcl
    refine Ev.succ ?_
    simp only [Fspec_l14Show.l2]
    have : kn.length ≤ j := by simpa using hdr
    rw [decide_eq_false (by rw [hxk, iMap_len]; omega)]
    simp only [cond_false, List.map_nil, List.flatten_nil, List.append_nil, List.length_nil, Nat.add_zero] at hb ⊢
    have hv := varI_len (acc.length : Int)
    refine Ev.bind (sVar _) ?_
    rw [decide_eq_true (by simp only [List.length_cons, List.length_nil]; omega), decide_eq_true (by simp only [List.length_cons, List.length_nil, List.length_append]; omega)]
    simp only [cond_true]
    refine (Ev.pure _).to ?_
    rw [varI_nat _ (by omega), headW htag]; rfl
  | cons k ks ih =>
    intro kn j cl acc hxk hkl hdr hb hcl
    obtain ⟨hj, hk, hdr2⟩ := drop_at hdr
    simp only [List.map_cons, List.flatten_cons, List.length_append] at hb
    refine Ev.succ ?_
    simp only [Fspec_l14Show.l2]
    rw [decide_eq_true (by rw [hxk, iMap_len]; omega)]
    simp only [cond_true]
    rw [hxk]
    refine Ev.at? (iMap_get hk) (Ev.bind (hcl k List.mem_cons_self).shift ?_)
    rw [decide_eq_true (by omega), wid1 (by omega)]
    simp only [cond_true]
    refine (ih kn (j + 1) (fun n => cl (n + 1)) (acc ++ tx m k) hxk hkl hdr2 (by simp only [List.length_append]; omega) (fun k' hk' => (hcl k' (List.mem_cons_of_mem _ hk')).shift)).to ?_
    rw [List.map_cons, List.flatten_cons, List.append_assoc]
theorem sText {m : List Timpl_Tlv} (hs : Sm m) (hm : AllOk m) : ∀ (i : Nat), i < m.length → (tx m i).length ≤ 1073741824 → Ev (fun k => Fspec_l14Show k m (i : Int)) (tx m i) := by
  intro i
  induction i using Nat.strongRecOn with
  | _ i ih =>
    intro hi hb
    have hN := hm i hi
    have hk := hN.kd
    have hsk := hs.nd i
    refine Ev.succ ?_
    simp only [Fspec_l14Show]
    refine Ev.at? (get_nd hi) (Ev.ite (fun hl => ?_) (fun hl => ?_))
    · have hv := varI_len ((nd m i).Data.length : Int)
      refine Ev.bind (sVar _) ?_
      rw [decide_eq_true (by simp only [List.length_cons, List.length_nil]; omega), decide_eq_true (by simp only [List.length_cons, List.length_nil, List.length_append]; omega)]
      simp only [cond_true]
      refine (Ev.pure _).to ?_
      rw [varI_nat _ (by omega), tx_leaf hl, headT hN.tag]; rfl
    · have e := tx_node hk hl
      have hkl : (kd m i).length ≤ 1048576 := by unfold kd; rw [List.length_map]; exact hsk.2
      have hb2 : (((kd m i).map (tx m)).flatten).length ≤ 1073741824 := by rw [e, List.length_append] at hb; omega
      rw [e]
      exact sTextL (m := m) hN.tag (kd m i) (kd m i) 0 (fun k => Fspec_l14Show k) [] hN.kdI hkl rfl (by simpa using hb2) (fun k hk' => ih k (hk k hk') (by have := hk k hk'; omega) (by have := tx_kid hk hl hk'; omega))
theorem iTlvOk {m : List Timpl_Tlv} (hs : Sm m) : EvP (fun k => Fimpl_TlvOk k m) (fun r => r = true ↔ Tlvly m) := by
  have hl := hs.1
  simp only [Fimpl_TlvOk, iIn, Option.bind_some]
  refine EvP.ite (fun hc => EvP.pure ?_) (fun hc => ?_)
  · simp only [Bool.not_eq_true', isIn, decide_eq_false_iff_not] at hc
    exact ⟨fun h => (by cases h), fun h => by have := h.1; have := h.2.1; omega⟩
  simp only [Bool.not_eq_false', isIn, decide_eq_true_eq] at hc
  refine EvP.for (xs := m) (L := fun k (_ : Unit) i => Fimpl_TlvOk.l2 k m (m.length : Int) i) (fun i _ => ∀ j, j < i → NOk m j) (fun _ hm => ?_) (fun i b _ hb hi hI h => ?_) () (fun j hj => by omega)
  · have hm : AllOk m := hm
    simp only [Fimpl_TlvOk.l2, ltD0, cond_false]
    rw [show IntKind.i64.wrap ((m.length : Int) - 1) = ((m.length - 1 : Nat) : Int) by rw [wid (by omega) (by omega)]; omega]
    refine EvP.bind (iEnded hs hm (m.length - 1) 1 [] (by omega) (by omega) (by simp)) (fun r hr => ?_)
    simp only [EndR, List.length_nil, Nat.zero_add] at hr
    refine EvP.ite (fun hc => EvP.pure ⟨fun h => (by cases h), fun h => ?_⟩) (fun hc => ?_)
    · exfalso
      have : r.2 = true := hr.1.2 ⟨by have := h.2.2.2.1; omega, by rw [h.2.2.2.2.1, List.length_range]; exact h.2.1⟩
      rw [this] at hc; cases hc
    have hc : r.2 = true := by simpa using hc
    have h1 := hr.1.1 hc
    have h2 := hr.2 hc
    rw [List.nil_append] at h2
    rw [h2, iMap_len]
    refine EvP.ite (fun hn => EvP.pure ⟨fun h => (by cases h), fun h => ?_⟩) (fun hn => ?_)
    · exfalso
      rw [h.2.2.2.2.1, List.length_range] at hn; simp at hn
    have hn : (post m (m.length - 1)).length = m.length := by
      have : ((post m (m.length - 1)).length : Int) = m.length := by simpa using hn
      omega
    rw [← iMap_len]
    refine EvP.for (xs := iMap (post m (m.length - 1))) (L := fun k (_ : Unit) i => Fimpl_TlvOk.l4 k m (m.length : Int) (iMap (post m (m.length - 1))) ((iMap (post m (m.length - 1))).length : Int) i) (fun i _ => (post m (m.length - 1)).take i = List.range i) (fun _ hp => ?_) (fun i b _ hb hi hI h => ?_) () rfl
    · simp only [Fimpl_TlvOk.l4, ltD0, cond_false]
      rw [iMap_len, List.take_of_length_le (Nat.le_refl _), hn] at hp
      rw [show IntKind.i64.wrap ((m.length : Int) - 1) = ((m.length - 1 : Nat) : Int) by rw [wid (by omega) (by omega)]; omega]
      have hlen := tree_len hm (tree_of_post hm (by omega) hp) (by omega) (by omega) fun x hx => (hs.2 x hx).1
      refine EvP.bindE (iText hs hm (m.length - 1) (by omega) hlen) (EvP.pure ?_)
      simp only [decide_eq_true_eq]
      exact ⟨fun h => ⟨by omega, by omega, hm, by omega, hp, by omega⟩, fun h => by have := h.2.2.2.2.2; omega⟩
    · simp only [Fimpl_TlvOk.l4, ltD hi, cond_true]
      rw [iMap_len] at hi
      refine EvP.at? hb ?_
      obtain ⟨p, hp⟩ := atLt hi
      have hb2 := iMap_get hp
      rw [hb] at hb2; cases hb2
      refine EvP.ite (fun hc => EvP.pure ⟨fun h => (by cases h), fun h => ?_⟩) (fun hc => ?_)
      · exfalso
        rw [h.2.2.2.2.1, List.getElem?_range (by omega)] at hp
        cases hp
        simp at hc
      · have hc : i = p := by
          have : (i : Int) = p := by simpa using hc
          omega
        subst hc
        rw [wid1 (by omega)]
        refine h () ?_
        rw [take_succ_get hp, hI, List.range_succ]
  · simp only [Fimpl_TlvOk.l2, ltD hi, cond_true]
    refine EvP.bindE (iNodeOk hs hi) (EvP.ite (fun hc => EvP.pure ⟨fun h => (by cases h), fun h => ?_⟩) (fun hc => ?_))
    · exfalso
      have := nOk_iff.2 (h.2.2.1 i hi)
      rw [this] at hc; cases hc
    · rw [wid1 (by omega)]
      refine h () fun j hj => ?_
      by_cases hji : j < i
      · exact hI j hji
      · rw [show j = i by omega]; exact nOk_iff.1 (by simpa using hc)
def cnt (l : List Nat) (N : Nat) : List Int := (List.range N).map fun j => (l.count j : Int)
theorem cnt_len (l : List Nat) (N : Nat) : (cnt l N).length = N := by simp [cnt]
theorem cnt_get {l : List Nat} {N j : Nat} (h : j < N) : (cnt l N)[j]? = some (l.count j : Int) := by simp [cnt, h]
theorem cnt_set {l : List Nat} {N k : Nat} (h : k < N) : (cnt l N).set k ((l.count k : Int) + 1) = cnt (l ++ [k]) N := by
  refine List.ext_getElem? fun j => ?_
  rw [List.getElem?_set]
  by_cases hj : j < N
  · rw [cnt_get hj, cnt_get hj, List.count_append]
    by_cases hk : k = j
    · subst hk; simp [cnt_len, hj]
    · rw [if_neg hk]
      have : List.count j [k] = 0 := by simp [List.count_cons, hk]
      rw [this, Nat.add_zero]
  · have e1 : (cnt l N)[j]? = none := List.getElem?_eq_none (by rw [cnt_len]; omega)
    have e2 : (cnt (l ++ [k]) N)[j]? = none := List.getElem?_eq_none (by rw [cnt_len]; omega)
    rw [e1, e2, cnt_len]
    split
    · exfalso; omega
    · rfl
theorem cnt_nil (N : Nat) : cnt [] N = List.replicate N 0 := by
  refine List.ext_getElem? fun j => ?_
  by_cases hj : j < N
  · rw [cnt_get hj]; simp [hj]
  · rw [List.getElem?_eq_none (by rw [cnt_len]; omega)]; simp [hj]
def TreeB (m : List Timpl_Tlv) (r : Bool) : Prop := r = true ↔ (AllOk m ∧ Tree m)
theorem treeBad {m : List Timpl_Tlv} {i : Nat} (hi : i < m.length) (h : ¬NOk m i) : TreeB m false := ⟨fun h => (by cases h), fun h' => absurd (h'.1 i hi) h⟩
theorem sTree26 {m : List Timpl_Tlv} (hs : Sm m) (h60 : m.length ≤ 60) {i : Nat} (hi : i < m.length) : ∀ (ks : List Int) (j : Nat) (cl : Nat → List Timpl_Tlv → List Int → Int → Option Bool) (l : List Nat), (nd m i).Kids.drop j = ks → l.length + ks.length ≤ 1073741824 →
    ((∀ k ∈ ks, 0 ≤ k ∧ k < i) → EvP (fun n => cl n m (cnt (l ++ ks.map Int.toNat) m.length) ((i + 1 : Nat) : Int)) (TreeB m)) →
    EvP (fun n => Fspec_l14Tree.l26 (cl n) n m (cnt l m.length) (i : Int) (j : Int) (nd m i)) (TreeB m) := by
  have hsk := hs.nd i
  intro ks
  induction ks with
  | nil =>
    intro j cl l hdr hb h
    refine EvP.succ ?_
    simp only [Fspec_l14Tree.l26]
    have : (nd m i).Kids.length ≤ j := by simpa using hdr
    rw [decide_eq_false (by omega)]
    simp only [cond_false]
    rw [wid1 (by omega)]
    have := (h (by simp)).shift
    rw [List.map_nil, List.append_nil] at this
    exact this
  | cons k ks ih =>
    intro j cl l hdr hb h
    obtain ⟨hj, hk, hdr2⟩ := drop_at hdr
    refine EvP.succ ?_
    simp only [Fspec_l14Tree.l26]
    rw [decide_eq_true (by omega)]
    simp only [cond_true]
    have hbad : ¬(0 ≤ k ∧ k < i) → ¬NOk m i := fun h1 h2 => h1 (h2.kids k (List.mem_of_getElem? hk))
    refine EvP.at? hk (EvP.ite (fun hc => EvP.pure (treeBad hi (hbad (by simp at hc; omega)))) (fun hc => ?_))
    refine EvP.at? hk (EvP.ite (fun hc2 => EvP.pure (treeBad hi (hbad (by simp at hc2; omega)))) (fun hc2 => ?_))
    have hc : 0 ≤ k := by simpa using hc
    have hc2 : k < i := by simpa using hc2
    refine EvP.at? hk (EvP.at? hk ?_)
    obtain ⟨n, rfl⟩ : ∃ n : Nat, k = n := ⟨k.toNat, by omega⟩
    have hn : n < m.length := by omega
    refine EvP.at? (cnt_get hn) (EvP.at? (cnt_get hn) ?_)
    have hcl := List.count_le_length (a := n) (l := l)
    simp only [List.length_cons] at hb
    rw [wid (n := (l.count n : Int) + 1) (by omega) (by omega), Int.toNat_natCast, cnt_set hn, wid1 (by omega)]
    refine ih (j + 1) (fun n => cl (n + 1)) (l ++ [n]) hdr2 (by simp only [List.length_append, List.length_cons, List.length_nil]; omega) (fun hks => ?_)
    have := h fun k hk => by
      rcases List.mem_cons.1 hk with rfl | hk
      · omega
      · exact hks k hk
    simp only [List.map_cons, Int.toNat_natCast] at this
    rw [List.append_assoc]
    exact this.shift
theorem kidsTo (m : List Timpl_Tlv) (i : Nat) : ((List.range (i + 1)).map (kd m)).flatten = ((List.range i).map (kd m)).flatten ++ kd m i := by
  rw [List.range_succ, List.map_append, List.flatten_append]; simp
theorem kids_len {m : List Timpl_Tlv} (hs : Sm m) : ∀ (i : Nat), (((List.range i).map (kd m)).flatten).length ≤ 1048576 * i
  | 0 => by simp
  | i + 1 => by
    have h1 := kids_len hs i
    have h2 := (hs.nd i).2
    rw [kidsTo, List.length_append]
    have : (kd m i).length = (nd m i).Kids.length := by unfold kd; rw [List.length_map]
    rw [this]; omega
theorem sTree28 {m : List Timpl_Tlv} (hm : AllOk m) (h0 : 0 < m.length) (h60 : m.length ≤ 60) : EvP (fun k => Fspec_l14Tree.l28 k (cnt (allKids m) m.length) (0 : Int)) (TreeB m) := by
  have key : ∀ (g j : Nat), j + g + 1 = m.length → (∀ p, p < j → (allKids m).count p = 1) → EvP (fun k => Fspec_l14Tree.l28 k (cnt (allKids m) m.length) (j : Int)) (TreeB m) := by
    intro g
    induction g with
    | zero =>
      intro j hj hI
      refine EvP.succ ?_
      simp only [Fspec_l14Tree.l28]
      rw [cnt_len, wid (n := (m.length : Int) - 1) (by omega) (by omega), decide_eq_false (by omega)]
      exact EvP.pure ⟨fun _ => ⟨hm, fun p hp => hI p (by omega)⟩, fun _ => rfl⟩
    | succ g ih =>
      intro j hj hI
      refine EvP.succ ?_
      simp only [Fspec_l14Tree.l28]
      rw [cnt_len, wid (n := (m.length : Int) - 1) (by omega) (by omega), decide_eq_true (by omega)]
      simp only [cond_true]
      refine EvP.at? (cnt_get (by omega)) (EvP.ite (fun hc => EvP.pure ⟨fun h => (by cases h), fun h => ?_⟩) (fun hc => ?_))
      · exfalso
        rw [h.2 j (by omega)] at hc; cases hc
      · rw [wid1 (by omega)]
        refine ih (j + 1) (by omega) fun p hp => ?_
        by_cases hpj : p < j
        · exact hI p hpj
        · rw [show p = j by omega]
          have : ((allKids m).count j : Int) = 1 := by simpa using hc
          omega
  exact key (m.length - 1) 0 (by omega) (fun p hp => by omega)
theorem sTree {m : List Timpl_Tlv} (hs : Sm m) : EvP (fun k => Fspec_l14Tree k m) (fun r => r = true ↔ (0 < m.length ∧ m.length ≤ 60 ∧ AllOk m ∧ Tree m)) := by
  have hl := hs.1
  simp only [Fspec_l14Tree, sIn, Option.bind_some]
  refine EvP.ite (fun hc => EvP.pure ?_) (fun hc => ?_)
  · simp only [Bool.not_eq_true', isIn, decide_eq_false_iff_not] at hc
    exact ⟨fun h => (by cases h), fun h => by have := h.1; have := h.2.1; omega⟩
  simp only [Bool.not_eq_false', isIn, decide_eq_true_eq] at hc
  refine EvP.mono (P := TreeB m) ?_ (fun r hr => hr.trans ⟨fun h => ⟨by omega, by omega, h⟩, fun h => h.2.2⟩)
  rw [decide_eq_true (by omega), Int.toNat_natCast, ← cnt_nil]
  simp only [cond_true]
  have key : ∀ (g i : Nat), i + g = m.length → (∀ j, j < i → NOk m j) → EvP (fun k => Fspec_l14Tree.l22 k m (cnt ((List.range i).map (kd m)).flatten m.length) (i : Int)) (TreeB m) := by
    intro g
    induction g with
    | zero =>
      intro i hi hI
      have : i = m.length := by omega
      subst this
      refine EvP.succ ?_
      simp only [Fspec_l14Tree.l22, ltD0, cond_false]
      exact sTree28 hI (by omega) (by omega)
    | succ g ih =>
      intro i hi hI
      have hi2 : i < m.length := by omega
      have hkl := kids_len hs i
      have hsk := hs.nd i
      refine EvP.succ ?_
      simp only [Fspec_l14Tree.l22, Fspec_l14Tree.j25, ltD hi2, cond_true]
      refine EvP.at? (get_nd hi2) ?_
      simp only [sIn, Option.bind_some]
      refine EvP.ite (fun hc1 => EvP.pure (treeBad hi2 fun h => ?_)) (fun hc1 => ?_)
      · have := h.tag; simp only [Bool.not_eq_true', isIn, decide_eq_false_iff_not] at hc1; omega
      simp only [Bool.not_eq_false', isIn, decide_eq_true_eq] at hc1
      have hgo : ((nd m i).Leaf = true → (nd m i).Kids = []) → ((nd m i).Leaf = false → (nd m i).Data = []) → EvP (fun n => Fspec_l14Tree.l26 (Fspec_l14Tree.l22 n) n m (cnt ((List.range i).map (kd m)).flatten m.length) (i : Int) (0 : Int) (nd m i)) (TreeB m) := by
        intro q1 q2
        refine sTree26 hs (by omega) hi2 (nd m i).Kids 0 (fun n => Fspec_l14Tree.l22 n) _ rfl (by omega) (fun hks => ?_)
        have := ih (i + 1) (by omega) fun j hj => by
          by_cases hji : j < i
          · exact hI j hji
          · rw [show j = i by omega]; exact ⟨hc1, q1, q2, hks⟩
        rw [kidsTo] at this; exact this
      cases hlf : (nd m i).Leaf with
      | true =>
        simp only [cond_true, Bool.not_true, cond_false]
        refine EvP.ite (fun hc2 => EvP.pure (treeBad hi2 fun h => ?_)) (fun hc2 => ?_)
        · rw [h.leaf hlf] at hc2; simp at hc2
        · refine hgo (fun _ => ?_) (fun h => by rw [hlf] at h; cases h)
          cases hk : (nd m i).Kids with
          | nil => rfl
          | cons a b => rw [hk] at hc2; simp at hc2
      | false =>
        simp only [cond_false, Bool.not_false, cond_true]
        refine EvP.ite (fun hc2 => EvP.pure (treeBad hi2 fun h => ?_)) (fun hc2 => ?_)
        · rw [h.data hlf] at hc2; cases hc2
        · exact hgo (fun h => by rw [hlf] at h; cases h) (fun _ => by simpa using hc2)
  simpa using key m.length 0 (by omega) (fun j hj => by omega)
/-- What the reference's reader answers. -/
def RdS (s : List UInt8) (x : Rd) (r : Tspec_l14R × Int) : Prop := match x with
  | .error c => r.1.code = c ∧ c ≠ 0
  | .ok (o, b, e) => r = (⟨s, o, (b : Int), 0⟩, (e : Int))
theorem sNodeL {s : List UInt8} {at0 d to : Nat} (hs : s.length ≤ 1048576) (hto : to ≤ s.length) (hd : d ≤ 8) (tag : Int) (rec : List Timpl_Tlv → Nat → Nat → Rd) (hgot : ∀ out b a out' b' e, a < to → rec out b a = .ok (out', b', e) → e ≤ to ∧ a < e ∧ b' ≤ 60 ∧ out'.length + b = out.length + b') :
    ∀ (g a : Nat) (cl : Nat → Tspec_l14R → Int → Int → Int → Option (Tspec_l14R × Int)) (out : List Timpl_Tlv) (b : Nat) (ks : List Int), a ≤ to → to - a ≤ g → out.length ≤ b → b ≤ 60 → ks.length + (to - a) ≤ 1048576 →
    (∀ (out : List Timpl_Tlv) (b a : Nat), a < to → out.length ≤ b → b ≤ 60 → EvP (fun n => cl n ⟨s, out, (b : Int), 0⟩ (a : Int) (to : Int) ((d : Int) + 1)) (RdS s (rec out b a))) →
    EvP (fun n => Fspec_l14Node.l4 (cl n) n (at0 : Int) (d : Int) (a : Int) (to : Int) s out (b : Int) 0 tag false ks) (RdS s (match rdL rec to g out b a ks with
      | .error c => .error c
      | .ok (out', b', ks) => .ok (out' ++ [⟨tag, false, [], ks⟩], b', to))) := by
  intro g
  induction g with
  | zero =>
    intro a cl out b ks ha hg hob hb hk hcl
    refine EvP.succ ?_
    simp only [Fspec_l14Node.l4, rdL]
    rw [decide_eq_false (by omega), decide_eq_true (by simp only [List.length_cons, List.length_nil]; omega)]
    exact EvP.pure rfl
  | succ g ih =>
    intro a cl out b ks ha hg hob hb hk hcl
    refine EvP.succ ?_
    simp only [Fspec_l14Node.l4, rdL]
    by_cases hlt : a < to
    · rw [decide_eq_true (by omega), if_pos hlt, wid (n := (d : Int) + 1) (by omega) (by omega)]
      simp only [cond_true]
      refine EvP.bind (hcl out b a hlt hob hb).shift (fun r hr => ?_)
      cases hrec : rec out b a with
      | error c =>
        rw [hrec] at hr
        obtain ⟨h1, h2⟩ := hr
        rw [h1, show (c != 0) = true by simpa using h2]
        exact EvP.pure ⟨h1, h2⟩
      | ok v =>
        obtain ⟨o, b', e⟩ := v
        rw [hrec] at hr
        have hr : r = (⟨s, o, (b' : Int), 0⟩, (e : Int)) := hr
        obtain ⟨g1, g2, g3, g4⟩ := hgot _ _ _ _ _ _ hlt hrec
        subst hr
        simp only [bne_self_eq_false, cond_false]
        rw [decide_eq_true (by simp only [List.length_cons, List.length_nil]; omega), wid (n := (o.length : Int) - 1) (by omega) (by omega)]
        simp only [cond_true]
        exact ih e (fun n => cl (n + 1)) o b' _ g1 (by omega) (by omega) g3 (by simp only [List.length_append, List.length_cons, List.length_nil]; omega) (fun out b a h1 h2 h3 => (hcl out b a h1 h2 h3).shift)
    · rw [decide_eq_false (by omega), if_neg hlt, decide_eq_true (by simp only [List.length_cons, List.length_nil]; omega)]
      exact EvP.pure rfl
theorem sNode {s : List UInt8} (hs : s.length ≤ 1048576) : ∀ (f d en : Nat) (out : List Timpl_Tlv) (b a : Nat), f + d = 8 → en ≤ s.length → out.length ≤ b → b ≤ 60 → EvP (fun n => Fspec_l14Node n ⟨s, out, (b : Int), 0⟩ (a : Int) (en : Int) (d : Int)) (RdS s (rd s f en out b a)) := by
  intro f
  induction f with
  | zero =>
    intro d en out b a hf hen hob hb
    refine EvP.succ ?_
    simp only [Fspec_l14Node]
    unfold rd
    refine EvP.ite (fun hc => ?_) (fun hc => ?_)
    · rw [if_pos (by simp at hc; omega)]; exact EvP.pure ⟨rfl, by decide⟩
    rw [if_neg (by simp at hc; omega)]
    refine EvP.ite (fun hc2 => ?_) (fun hc2 => ?_)
    · rw [if_pos (by simp at hc2; omega)]; exact EvP.pure ⟨rfl, by decide⟩
    rw [if_neg (by simp at hc2; omega)]
    have ha : a < en := by simp at hc2; omega
    obtain ⟨c, hcc⟩ := atLt (xs := s) (i := a) (by omega)
    refine EvP.at? hcc (EvP.at? hcc ?_)
    rw [hcc]
    simp only [sIn, Option.bind_some]
    rw [show Int.tmod (c.toNat : Int) 128 = ((c.toNat % 128 : Nat) : Int) by rw [Int.tmod_eq_emod_of_nonneg (by omega)]; omega]
    refine EvP.ite (fun hc3 => ?_) (fun hc3 => ?_)
    · simp only [Bool.not_eq_true', isIn, decide_eq_false_iff_not] at hc3
      rw [if_pos (by omega)]; exact EvP.pure ⟨rfl, by decide⟩
    simp only [Bool.not_eq_false', isIn, decide_eq_true_eq] at hc3
    rw [if_neg (by omega), decide_eq_true (by omega)]
    exact EvP.pure ⟨rfl, by decide⟩
  | succ f ih =>
    intro d en out b a hf hen hob hb
    refine EvP.succ ?_
    simp only [Fspec_l14Node]
    unfold rd
    refine EvP.ite (fun hc => ?_) (fun hc => ?_)
    · rw [if_pos (by simp at hc; omega)]; exact EvP.pure ⟨rfl, by decide⟩
    rw [if_neg (by simp at hc; omega)]
    have hb2 : b < 60 := by simp at hc; omega
    refine EvP.ite (fun hc2 => ?_) (fun hc2 => ?_)
    · rw [if_pos (by simp at hc2; omega)]; exact EvP.pure ⟨rfl, by decide⟩
    rw [if_neg (by simp at hc2; omega)]
    have ha : a < en := by simp at hc2; omega
    obtain ⟨c, hcc⟩ := atLt (xs := s) (i := a) (by omega)
    refine EvP.at? hcc (EvP.at? hcc ?_)
    rw [hcc]
    simp only [sIn, Option.bind_some]
    rw [show Int.tmod (c.toNat : Int) 128 = ((c.toNat % 128 : Nat) : Int) by rw [Int.tmod_eq_emod_of_nonneg (by omega)]; omega]
    refine EvP.ite (fun hc3 => ?_) (fun hc3 => ?_)
    · simp only [Bool.not_eq_true', isIn, decide_eq_false_iff_not] at hc3
      rw [if_pos (by omega)]; exact EvP.pure ⟨rfl, by decide⟩
    simp only [Bool.not_eq_false', isIn, decide_eq_true_eq] at hc3
    rw [if_neg (by omega), decide_eq_false (by omega), wid1 (i := a) (by omega), wid1 (i := b) (by omega)]
    simp only [cond_false]
    rw [cutN (by omega) hen]
    simp only [Option.bind_some]
    have hcut : (s.drop (a + 1)).take (en - (a + 1)) = (s.take en).drop (a + 1) := List.drop_take.symm
    rw [hcut]
    have hcl : ((s.take en).drop (a + 1)).length ≤ 1048576 := by rw [cut_len hen]; omega
    refine EvP.bindE (sReadVar _ hcl) ?_
    unfold rvP
    cases hdv : dv 7 ((s.take en).drop (a + 1)) with
    | none =>
      simp only [BEq.rfl, cond_true, Fspec_l14Node.j2]
      exact EvP.pure ⟨rfl, by decide⟩
    | some v =>
      obtain ⟨n, z⟩ := v
      obtain ⟨d1, d2, d3, d4, d5⟩ := dv_ok hdv
      rw [cut_len hen] at d1
      have d6 : n < 128 ^ 7 := Nat.lt_of_lt_of_le d5 (Nat.pow_le_pow_right (by omega) d2)
      simp only
      rw [show ((z : Int) == 0) = false by simp; omega]
      simp only [cond_false, Fspec_l14Node.j2]
      rw [wid (n := ((a + 1 : Nat) : Int) + (z : Int)) (by omega) (by omega)]
      rw [wid (n := (en : Int) - (((a + 1 : Nat) : Int) + (z : Int))) (by omega) (by omega)]
      rw [wid (n := ((a + 1 : Nat) : Int) + (z : Int) + (n : Int)) (by omega) (by omega)]
      refine EvP.ite (fun hc4 => ?_) (fun hc4 => ?_)
      · rw [if_pos (by simp at hc4; omega)]; exact EvP.pure ⟨rfl, by decide⟩
      have hle : a + 1 + z + n ≤ en := by simp at hc4; omega
      rw [if_neg (by omega)]
      rw [show ((a + 1 : Nat) : Int) + (z : Int) + (n : Int) = ((a + 1 + z + n : Nat) : Int) by omega, show ((a + 1 : Nat) : Int) + (z : Int) = ((a + 1 + z : Nat) : Int) by omega]
      refine EvP.ite (fun hc5 => ?_) (fun hc5 => ?_)
      · have h8 : c.toNat < 128 := by simp at hc5; omega
        rw [if_pos h8, cutN (by omega) (by omega)]
        simp only [Option.bind_some]
        rw [decide_eq_true (by simp only [List.length_cons, List.length_nil]; omega), show a + 1 + z + n - (a + 1 + z) = n by omega]
        simp only [cond_true, hc5]
        exact EvP.pure rfl
      · have h8 : ¬c.toNat < 128 := by simp at hc5; omega
        rw [if_neg h8, hc5]
        refine sNodeL (s := s) (at0 := a) (d := d) (to := a + 1 + z + n) hs (by omega) (by omega) ((c.toNat % 128 : Nat) : Int) (fun o b2 a2 => rd s f (a + 1 + z + n) o b2 a2) (fun o b2 a2 o' b' e' _ hr => ?_) n (a + 1 + z) (fun k => Fspec_l14Node k) out (b + 1) [] (by omega) (by omega) (by omega) (by omega) (by simp; omega) (fun o b2 a2 h1 h2 h3 => ?_)
        · obtain ⟨r1, r2⟩ := rd_got f (a + 1 + z + n) o b2 a2 o' b' e' (by omega) hr
          have := r2.cnt; have := r2.lt
          exact ⟨r1, r2.lte, r2.b60, by omega⟩
        · have := ih (d + 1) (a + 1 + z + n) o b2 a2 (by omega) (by omega) h2 h3
          exact this
theorem sReadTlv {s : List UInt8} (hs : s.length ≤ 1048576) : EvP (fun k => Fspec_ReadTlv k s) (fun r => r = if 900 < s.length then ([], 4) else match rd s 8 s.length [] 0 0 with
    | .error c => ([], c)
    | .ok (o, _, e) => if e = s.length then (o, 0) else ([], 5)) := by
  simp only [Fspec_ReadTlv]
  refine EvP.ite (fun hc => EvP.pure ?_) (fun hc => ?_)
  · rw [if_pos (by simp at hc; omega)]
  rw [if_neg (by simp at hc; omega)]
  refine EvP.bind (sNode hs 8 0 s.length [] 0 0 rfl (Nat.le_refl _) (by simp) (by omega)) (fun r hr => ?_)
  cases hx : rd s 8 s.length [] 0 0 with
  | error c =>
    rw [hx] at hr
    obtain ⟨h1, h2⟩ := hr
    rw [h1, show (c != 0) = true by simpa using h2]
    exact EvP.pure rfl
  | ok v =>
    obtain ⟨o, b, e⟩ := v
    rw [hx] at hr
    have hr : r = (⟨s, o, (b : Int), 0⟩, (e : Int)) := hr
    subst hr
    simp only [bne_self_eq_false, cond_false]
    refine EvP.ite (fun hc => EvP.pure ?_) (fun hc => EvP.pure ?_)
    · rw [if_neg]
      intro h; rw [h] at hc; simp at hc
    · rw [if_pos]
      have : (e : Int) = s.length := by simpa using hc
      omega
theorem nd_ext {a b : List Timpl_Tlv} (h : a.length = b.length) (h2 : ∀ i, i < a.length → nd a i = nd b i) : a = b := by
  refine List.ext_getElem? fun i => ?_
  by_cases hi : i < a.length
  · rw [get_nd hi, get_nd (by omega), h2 i hi]
  · rw [List.getElem?_eq_none (by omega), List.getElem?_eq_none (by omega)]
theorem sSame {a b : List Timpl_Tlv} (ha : Sm b) : EvP (fun k => Fspec_l14Same k a b) (fun r => r = true ↔ a = b) := by
  simp only [Fspec_l14Same]
  have hl := ha.1
  refine EvP.ite (fun hc => EvP.pure ⟨fun h => (by cases h), fun h => ?_⟩) (fun hc => ?_)
  · rw [h] at hc; simp at hc
  have hlen : a.length = b.length := by
    have : (a.length : Int) = b.length := by simpa using hc
    omega
  have key : ∀ (g i : Nat), i + g = a.length → (∀ j, j < i → nd a j = nd b j) → EvP (fun k => Fspec_l14Same.l12 k a b (i : Int)) (fun r => r = true ↔ a = b) := by
    intro g
    induction g with
    | zero =>
      intro i hi hI
      have : i = a.length := by omega
      subst this
      refine EvP.succ ?_
      simp only [Fspec_l14Same.l12, ltD0, cond_false]
      exact EvP.pure ⟨fun _ => nd_ext hlen hI, fun _ => rfl⟩
    | succ g ih =>
      intro i hi hI
      have hi2 : i < a.length := by omega
      have hsk := ha.nd i
      refine EvP.succ ?_
      simp only [Fspec_l14Same.l12, ltD hi2, cond_true]
      refine EvP.at? (get_nd hi2) (EvP.at? (get_nd (by omega)) ?_)
      refine EvP.ite (fun hc => EvP.pure ⟨fun h => (by cases h), fun h => by rw [h] at hc; simp at hc⟩) (fun h1 => ?_)
      refine EvP.ite (fun hc => EvP.pure ⟨fun h => (by cases h), fun h => by rw [h] at hc; simp at hc⟩) (fun h2 => ?_)
      refine EvP.ite (fun hc => EvP.pure ⟨fun h => (by cases h), fun h => by rw [h] at hc; simp at hc⟩) (fun h3 => ?_)
      refine EvP.ite (fun hc => EvP.pure ⟨fun h => (by cases h), fun h => by rw [h] at hc; simp at hc⟩) (fun h4 => ?_)
      have h1 : (nd a i).Tag = (nd b i).Tag := by simpa using h1
      have h2 : (nd a i).Leaf = (nd b i).Leaf := by simpa using h2
      have h3 : (nd a i).Data = (nd b i).Data := by simpa using h3
      have h4 : (nd a i).Kids.length = (nd b i).Kids.length := by
        have : ((nd a i).Kids.length : Int) = (nd b i).Kids.length := by simpa using h4
        omega
      have loop : ∀ (q j : Nat) (cl : Nat → List Timpl_Tlv → List Timpl_Tlv → Int → Option Bool), j + q = (nd a i).Kids.length → (nd a i).Kids.take j = (nd b i).Kids.take j → (nd a i = nd b i → EvP (fun k => cl k a b ((i + 1 : Nat) : Int)) (fun r => r = true ↔ a = b)) →
          EvP (fun k => Fspec_l14Same.l14 (cl k) k a b (i : Int) (j : Int) (nd a i) (nd b i)) (fun r => r = true ↔ a = b) := by
        intro q
        induction q with
        | zero =>
          intro j cl hj hT hcl
          refine EvP.succ ?_
          simp only [Fspec_l14Same.l14]
          rw [decide_eq_false (by omega)]
          simp only [cond_false]
          rw [wid1 (by omega)]
          refine (hcl ?_).shift
          rw [List.take_of_length_le (by omega), List.take_of_length_le (by omega)] at hT
          cases ea : nd a i with
          | mk t1 t2 t3 t4 =>
            cases eb : nd b i with
            | mk u1 u2 u3 u4 =>
              rw [ea, eb] at h1 h2 h3 hT
              simp only at h1 h2 h3 hT
              rw [h1, h2, h3, hT]
        | succ q ihq =>
          intro j cl hj hT hcl
          refine EvP.succ ?_
          simp only [Fspec_l14Same.l14]
          rw [decide_eq_true (by omega)]
          simp only [cond_true]
          obtain ⟨x, hx⟩ := atLt (xs := (nd a i).Kids) (i := j) (by omega)
          obtain ⟨y, hy⟩ := atLt (xs := (nd b i).Kids) (i := j) (by omega)
          refine EvP.at? hx (EvP.at? hy ?_)
          refine EvP.ite (fun hc => EvP.pure ⟨fun h => (by cases h), fun h => ?_⟩) (fun hc => ?_)
          · exfalso
            rw [h, hy] at hx
            cases hx; simp at hc
          · have hc : x = y := by simpa using hc
            rw [wid1 (by omega)]
            exact ihq (j + 1) (fun k => cl (k + 1)) (by omega) (by rw [take_succ_get hx, take_succ_get hy, hT, hc]) (fun h => (hcl h).shift)
      exact loop (nd a i).Kids.length 0 (fun k => Fspec_l14Same.l12 k) (by omega) rfl (fun he => ih (i + 1) (by omega) fun j hj => by
        by_cases hji : j < i
        · exact hI j hji
        · rw [show j = i by omega]; exact he)
  simpa using key a.length 0 (by omega) (fun j hj => by omega)
theorem sTlvOk {m : List Timpl_Tlv} (hs : Sm m) : EvP (fun k => Fspec_TlvOk k m) (fun r => r = true ↔ Tlvly m) := by
  have hl := hs.1
  simp only [Fspec_TlvOk]
  refine EvP.bind (sTree hs) (fun r hr => EvP.ite (fun hc => EvP.pure ⟨fun h => (by cases h), fun h => ?_⟩) (fun hc => ?_))
  · have : r = true := hr.2 ⟨h.1, h.2.1, h.2.2.1, tree_of_post h.2.2.1 h.1 h.2.2.2.2.1⟩
    rw [this] at hc; cases hc
  obtain ⟨h0, h60, hm, ht⟩ := hr.1 (by simpa using hc)
  have hlen := tree_len hm ht h0 h60 fun x hx => (hs.2 x hx).1
  rw [show IntKind.i64.wrap ((m.length : Int) - 1) = ((m.length - 1 : Nat) : Int) by rw [wid (by omega) (by omega)]; omega]
  refine EvP.bindE (sText hs hm (m.length - 1) (by omega) hlen) ?_
  by_cases h9 : 900 < (tx m (m.length - 1)).length
  · have hE : Ev (fun k => Fspec_ReadTlv k (tx m (m.length - 1))) ([], 4) := by
      refine Ev.of fun k => ?_
      simp only [Fspec_ReadTlv]
      rw [decide_eq_true (by omega)]; rfl
    refine EvP.bindE hE (EvP.pure ⟨fun h => (by cases h), fun h => ?_⟩)
    have := h.2.2.2.2.2; omega
  refine EvP.bind (sReadTlv (s := tx m (m.length - 1)) (by omega)) (fun r2 hr2 => ?_)
  rw [if_neg h9] at hr2
  cases hx : rd (tx m (m.length - 1)) 8 (tx m (m.length - 1)).length [] 0 0 with
  | error c =>
    rw [hx] at hr2
    simp only at hr2
    subst hr2
    refine EvP.ite (fun hc => ?_) (fun hc => EvP.pure ⟨fun h => (by cases h), fun h => ?_⟩)
    · refine (sSame hs).bind fun r3 hr3 => EvP.pure (hr3.trans ⟨fun h => ?_, fun h => ?_⟩)
      · rw [← h] at h0; simp at h0
      · rw [rd_show h] at hx; cases hx
    · rw [rd_show h] at hx; cases hx
  | ok v =>
    obtain ⟨o, b, e⟩ := v
    rw [hx] at hr2
    simp only at hr2
    obtain ⟨q1, q2, q3, q4⟩ := show_rd (by omega) hx
    by_cases he : e = (tx m (m.length - 1)).length
    · rw [if_pos he] at hr2
      subst hr2
      simp only [BEq.rfl, cond_true]
      refine (sSame hs).bind fun r3 hr3 => EvP.pure (hr3.trans ⟨fun h => ?_, fun h => ?_⟩)
      · rw [← h]; exact q1
      · rw [rd_show h] at hx; cases hx; rfl
    · rw [if_neg he] at hr2
      subst hr2
      refine EvP.ite (fun hc => (by cases hc)) (fun hc => EvP.pure ⟨fun h => (by cases h), fun h => ?_⟩)
      rw [rd_show h] at hx; cases hx; exact absurd rfl he
theorem tlvOk_both {m : List Timpl_Tlv} (hs : Sm m) : ∃ r : Bool, Ev (fun k => Fspec_TlvOk k m) r ∧ Ev (fun k => Fimpl_TlvOk k m) r ∧ (r = true ↔ Tlvly m) := by
  obtain ⟨r1, h1, p1⟩ := sTlvOk hs
  obtain ⟨r2, h2, p2⟩ := iTlvOk hs
  have : r1 = r2 := Bool.eq_iff_iff.2 (p1.trans p2.symm)
  exact ⟨r1, h1, this ▸ h2, p1⟩
def RdI (s : List UInt8) (x : Rd) (r : Int × Int × Timpl_tlvReader) : Prop := match x with
  | .error c => r.2.1 = c ∧ c ≠ 0
  | .ok (o, b, e) => r = ((e : Int), 0, ⟨s, o, (b : Int)⟩)
theorem iNodeL {s : List UInt8} {a0 n d to : Nat} (hs : s.length ≤ 1048576) (hto : to ≤ s.length) (hd : d ≤ 8) (han : a0 + n = to) (tag : Int) (rec : List Timpl_Tlv → Nat → Nat → Rd) (hgot : ∀ out b a out' b' e, a < to → rec out b a = .ok (out', b', e) → e ≤ to ∧ a < e ∧ b' ≤ 60 ∧ out'.length + b = out.length + b') :
    ∀ (g a : Nat) (cl : Nat → Int → Int → Int → Timpl_tlvReader → Option (Int × Int × Timpl_tlvReader)) (out : List Timpl_Tlv) (b : Nat) (ks : List Int), a ≤ to → to - a ≤ g → out.length ≤ b → b ≤ 60 → ks.length + (to - a) ≤ 1048576 →
    (∀ (out : List Timpl_Tlv) (b a : Nat), a < to → out.length ≤ b → b ≤ 60 → EvP (fun n => cl n (a : Int) (to : Int) ((d : Int) + 1) ⟨s, out, (b : Int)⟩) (RdI s (rec out b a))) →
    EvP (fun k => Fimpl_tlvReader_node.l4 (cl k) k (d : Int) (n : Int) (a0 : Int) (a : Int) s out (b : Int) tag false [] ks) (RdI s (match rdL rec to g out b a ks with
      | .error c => .error c
      | .ok (out', b', ks) => .ok (out' ++ [⟨tag, false, [], ks⟩], b', to))) := by
  have hsum : IntKind.i64.wrap ((a0 : Int) + (n : Int)) = (to : Int) := by rw [wid (by omega) (by omega)]; omega
  have fin : ∀ (cl : Nat → Int → Int → Int → Timpl_tlvReader → Option (Int × Int × Timpl_tlvReader)) (out : List Timpl_Tlv) (b : Nat) (ks : List Int) (k : Nat), out.length ≤ b → b ≤ 60 → Fimpl_tlvReader_node.j3 k (n : Int) (a0 : Int) s out (b : Int) tag false [] ks = some ((to : Int), 0, ⟨s, out ++ [⟨tag, false, [], ks⟩], (b : Int)⟩) := by
    intro cl out b ks k h1 h2
    simp only [Fimpl_tlvReader_node.j3]
    rw [decide_eq_true (by simp only [List.length_cons, List.length_nil]; omega), hsum]; rfl
  intro g
  induction g with
  | zero =>
    intro a cl out b ks ha hg hob hb hk hcl
    refine EvP.succ ?_
    simp only [Fimpl_tlvReader_node.l4, rdL, Bool.not_false, cond_true]
    rw [hsum, decide_eq_false (by omega)]
    simp only [cond_false, fin cl out b ks _ hob hb]
    exact EvP.pure rfl
  | succ g ih =>
    intro a cl out b ks ha hg hob hb hk hcl
    refine EvP.succ ?_
    simp only [Fimpl_tlvReader_node.l4, rdL, Bool.not_false, cond_true]
    rw [hsum]
    by_cases hlt : a < to
    · rw [decide_eq_true (by omega), if_pos hlt, wid (n := (d : Int) + 1) (by omega) (by omega)]
      simp only [cond_true]
      refine EvP.bind (hcl out b a hlt hob hb).shift (fun r hr => ?_)
      cases hrec : rec out b a with
      | error c =>
        rw [hrec] at hr
        obtain ⟨h1, h2⟩ := hr
        rw [h1, show (c != 0) = true by simpa using h2]
        exact EvP.pure ⟨rfl, h2⟩
      | ok v =>
        obtain ⟨o, b', e⟩ := v
        rw [hrec] at hr
        have hr : r = ((e : Int), 0, ⟨s, o, (b' : Int)⟩) := hr
        obtain ⟨g1, g2, g3, g4⟩ := hgot _ _ _ _ _ _ hlt hrec
        subst hr
        simp only [bne_self_eq_false, cond_false]
        rw [decide_eq_true (by simp only [List.length_cons, List.length_nil]; omega), wid (n := (o.length : Int) - 1) (by omega) (by omega)]
        simp only [cond_true]
        exact ih e (fun n => cl (n + 1)) o b' _ g1 (by omega) (by omega) g3 (by simp only [List.length_append, List.length_cons, List.length_nil]; omega) (fun out b a h1 h2 h3 => (hcl out b a h1 h2 h3).shift)
    · rw [decide_eq_false (by omega), if_neg hlt]
      simp only [cond_false, fin cl out b ks _ hob hb]
      exact EvP.pure rfl
theorem iNode {s : List UInt8} (hs : s.length ≤ 1048576) : ∀ (f d en : Nat) (out : List Timpl_Tlv) (b a : Nat), f + d = 8 → en ≤ s.length → out.length ≤ b → b ≤ 60 → EvP (fun n => Fimpl_tlvReader_node n (a : Int) (en : Int) (d : Int) ⟨s, out, (b : Int)⟩) (RdI s (rd s f en out b a)) := by
  intro f
  induction f with
  | zero =>
    intro d en out b a hf hen hob hb
    refine EvP.succ ?_
    simp only [Fimpl_tlvReader_node]
    unfold rd
    refine EvP.ite (fun hc => ?_) (fun hc => ?_)
    · rw [if_pos (by simp at hc; omega)]; exact EvP.pure ⟨rfl, by decide⟩
    rw [if_neg (by simp at hc; omega)]
    refine EvP.ite (fun hc2 => ?_) (fun hc2 => ?_)
    · rw [if_pos (by simp at hc2; omega)]; exact EvP.pure ⟨rfl, by decide⟩
    rw [if_neg (by simp at hc2; omega)]
    have ha : a < en := by simp at hc2; omega
    obtain ⟨c, hcc⟩ := atLt (xs := s) (i := a) (by omega)
    refine EvP.at? hcc ?_
    rw [hcc]
    simp only [iIn, Option.bind_some]
    rw [show Int.tmod (c.toNat : Int) 128 = ((c.toNat % 128 : Nat) : Int) by rw [Int.tmod_eq_emod_of_nonneg (by omega)]; omega]
    refine EvP.ite (fun hc3 => ?_) (fun hc3 => ?_)
    · simp only [Bool.not_eq_true', isIn, decide_eq_false_iff_not] at hc3
      rw [if_pos (by omega)]; exact EvP.pure ⟨rfl, by decide⟩
    simp only [Bool.not_eq_false', isIn, decide_eq_true_eq] at hc3
    rw [if_neg (by omega), decide_eq_true (by omega)]
    exact EvP.pure ⟨rfl, by decide⟩
  | succ f ih =>
    intro d en out b a hf hen hob hb
    refine EvP.succ ?_
    simp only [Fimpl_tlvReader_node]
    unfold rd
    refine EvP.ite (fun hc => ?_) (fun hc => ?_)
    · rw [if_pos (by simp at hc; omega)]; exact EvP.pure ⟨rfl, by decide⟩
    rw [if_neg (by simp at hc; omega)]
    have hb2 : b < 60 := by simp at hc; omega
    refine EvP.ite (fun hc2 => ?_) (fun hc2 => ?_)
    · rw [if_pos (by simp at hc2; omega)]; exact EvP.pure ⟨rfl, by decide⟩
    rw [if_neg (by simp at hc2; omega)]
    have ha : a < en := by simp at hc2; omega
    obtain ⟨c, hcc⟩ := atLt (xs := s) (i := a) (by omega)
    refine EvP.at? hcc ?_
    rw [hcc]
    simp only [iIn, Option.bind_some]
    rw [show Int.tmod (c.toNat : Int) 128 = ((c.toNat % 128 : Nat) : Int) by rw [Int.tmod_eq_emod_of_nonneg (by omega)]; omega]
    refine EvP.ite (fun hc3 => ?_) (fun hc3 => ?_)
    · simp only [Bool.not_eq_true', isIn, decide_eq_false_iff_not] at hc3
      rw [if_pos (by omega)]; exact EvP.pure ⟨rfl, by decide⟩
    simp only [Bool.not_eq_false', isIn, decide_eq_true_eq] at hc3
    rw [if_neg (by omega), decide_eq_false (by omega), wid1 (i := a) (by omega), wid1 (i := b) (by omega)]
    simp only [cond_false]
    rw [cutN (by omega) hen]
    simp only [Option.bind_some]
    have hcut : (s.drop (a + 1)).take (en - (a + 1)) = (s.take en).drop (a + 1) := List.drop_take.symm
    rw [hcut]
    have hcl : ((s.take en).drop (a + 1)).length ≤ 1048576 := by rw [cut_len hen]; omega
    refine EvP.bindE (iReadVar _ hcl) ?_
    unfold rvP
    cases hdv : dv 7 ((s.take en).drop (a + 1)) with
    | none =>
      simp only [BEq.rfl, cond_true]
      exact EvP.pure ⟨rfl, by decide⟩
    | some v =>
      obtain ⟨n, z⟩ := v
      obtain ⟨d1, d2, d3, d4, d5⟩ := dv_ok hdv
      rw [cut_len hen] at d1
      have d6 : n < 128 ^ 7 := Nat.lt_of_lt_of_le d5 (Nat.pow_le_pow_right (by omega) d2)
      simp only
      rw [show ((z : Int) == 0) = false by simp; omega]
      simp only [cond_false]
      rw [wid (n := ((a + 1 : Nat) : Int) + (z : Int)) (by omega) (by omega)]
      rw [wid (n := (en : Int) - (((a + 1 : Nat) : Int) + (z : Int))) (by omega) (by omega)]
      refine EvP.ite (fun hc4 => ?_) (fun hc4 => ?_)
      · rw [if_pos (by simp at hc4; omega)]; exact EvP.pure ⟨rfl, by decide⟩
      have hle : a + 1 + z + n ≤ en := by simp at hc4; omega
      rw [if_neg (by omega)]
      rw [wid (n := ((a + 1 : Nat) : Int) + (z : Int) + (n : Int)) (by omega) (by omega)]
      rw [show ((a + 1 : Nat) : Int) + (z : Int) + (n : Int) = ((a + 1 + z + n : Nat) : Int) by omega, show ((a + 1 : Nat) : Int) + (z : Int) = ((a + 1 + z : Nat) : Int) by omega]
      refine EvP.ite (fun hc5 => ?_) (fun hc5 => ?_)
      · have h8 : c.toNat < 128 := by simp at hc5; omega
        rw [if_pos h8, cutN (by omega) (by omega)]
        simp only [Option.bind_some]
        rw [show a + 1 + z + n - (a + 1 + z) = n by omega, hc5]
        simp only [Fimpl_tlvReader_node.j1]
        refine EvP.succ ?_
        simp only [Fimpl_tlvReader_node.l4, Bool.not_true, cond_false, Fimpl_tlvReader_node.j3]
        rw [decide_eq_true (by simp only [List.length_cons, List.length_nil]; omega), wid (n := ((a + 1 + z : Nat) : Int) + (n : Int)) (by omega) (by omega), show ((a + 1 + z : Nat) : Int) + (n : Int) = ((a + 1 + z + n : Nat) : Int) by omega]
        exact EvP.pure rfl
      · have h8 : ¬c.toNat < 128 := by simp at hc5; omega
        rw [if_neg h8, hc5]
        simp only [Fimpl_tlvReader_node.j1]
        refine iNodeL (s := s) (a0 := a + 1 + z) (n := n) (d := d) (to := a + 1 + z + n) hs (by omega) (by omega) rfl ((c.toNat % 128 : Nat) : Int) (fun o b2 a2 => rd s f (a + 1 + z + n) o b2 a2) (fun o b2 a2 o' b' e' _ hr => ?_) n (a + 1 + z) (fun k => Fimpl_tlvReader_node k) out (b + 1) [] (by omega) (by omega) (by omega) (by omega) (by simp; omega) (fun o b2 a2 h1 h2 h3 => ?_)
        · obtain ⟨r1, r2⟩ := rd_got f (a + 1 + z + n) o b2 a2 o' b' e' (by omega) hr
          have := r2.cnt; have := r2.lt
          exact ⟨r1, r2.lte, r2.b60, by omega⟩
        · have := ih (d + 1) (a + 1 + z + n) o b2 a2 (by omega) (by omega) h2 h3
          exact this
def rdR (s : List UInt8) : List Timpl_Tlv × Int := if 900 < s.length then ([], 4) else match rd s 8 s.length [] 0 0 with
  | .error c => ([], c)
  | .ok (o, _, e) => if e = s.length then (o, 0) else ([], 5)
theorem iReadTlv {s : List UInt8} (hs : s.length ≤ 1048576) : Ev (fun k => Fimpl_ReadTlv k s) (rdR s) := by
  refine EvP.ev ?_
  simp only [Fimpl_ReadTlv, rdR]
  refine EvP.ite (fun hc => EvP.pure ?_) (fun hc => ?_)
  · rw [if_pos (by simp at hc; omega)]
  rw [if_neg (by simp at hc; omega)]
  refine EvP.bind (iNode hs 8 0 s.length [] 0 0 rfl (Nat.le_refl _) (by simp) (by omega)) (fun r hr => ?_)
  cases hx : rd s 8 s.length [] 0 0 with
  | error c =>
    rw [hx] at hr
    obtain ⟨h1, h2⟩ := hr
    rw [h1, show (c != 0) = true by simpa using h2]
    exact EvP.pure rfl
  | ok v =>
    obtain ⟨o, b, e⟩ := v
    rw [hx] at hr
    have hr : r = ((e : Int), 0, ⟨s, o, (b : Int)⟩) := hr
    subst hr
    obtain ⟨g1, _⟩ := rd_got 8 s.length [] 0 0 o b e (Nat.le_refl _) hx
    simp only [bne_self_eq_false, cond_false]
    refine EvP.ite (fun hc => EvP.pure ?_) (fun hc => EvP.pure ?_)
    · rw [if_neg (by simp at hc; omega)]
    · rw [if_pos (by simp at hc; omega)]
theorem sReadTlvE {s : List UInt8} (hs : s.length ≤ 1048576) : Ev (fun k => Fspec_ReadTlv k s) (rdR s) := by
  refine EvP.ev ?_
  exact sReadTlv hs
theorem rdR_small {s : List UInt8} : (rdR s).1.length ≤ 60 ∧ ∀ x ∈ (rdR s).1, x.Kids.length ≤ 60 := by
  unfold rdR
  split
  · simp
  cases hx : rd s 8 s.length [] 0 0 with
  | error c => simp
  | ok v =>
    obtain ⟨o, b, e⟩ := v
    simp only
    split
    · rename_i h9 he
      obtain ⟨⟨t1, t2, t3, t4, t5, t6⟩, _⟩ := show_rd (by omega) hx
      refine ⟨t2, fun x hxm => ?_⟩
      obtain ⟨i, hi, hxi⟩ := List.getElem_of_mem hxm
      have hn : nd o i = x := nd_get (by rw [List.getElem?_eq_getElem hi, hxi])
      have hp := (tree_perm t3 (tree_of_post t3 t1 t5)).length_eq
      rw [List.length_range] at hp
      have hmem : (kd o i).length ≤ (allKids o).length := by
        unfold allKids
        rw [List.length_flatten]
        exact sum_mem (List.mem_map.2 ⟨kd o i, List.mem_map.2 ⟨i, List.mem_range.2 hi, rfl⟩, rfl⟩)
      have hk : (kd o i).length = x.Kids.length := by unfold kd; rw [hn, List.length_map]
      omega
    · simp
theorem and255 (x : Int) : 0 ≤ Go.bits .and .i64 x 255 ∧ Go.bits .and .i64 x 255 ≤ 255 := by
  have h : (BitVec.ofInt 64 x &&& BitVec.ofInt 64 255).toNat ≤ 255 := by
    rw [BitVec.toNat_and]; exact Nat.and_le_right
  show 0 ≤ IntKind.i64.wrap ((BitVec.ofInt 64 x &&& BitVec.ofInt 64 255).toNat : Int) ∧ IntKind.i64.wrap ((BitVec.ofInt 64 x &&& BitVec.ofInt 64 255).toNat : Int) ≤ 255
  rw [wid (by omega) (by omega)]; omega
/-- A cursor stands within its text. -/
def Good (c : Tspec_l1Cur) : Prop := 0 ≤ c.i ∧ c.b.length ≤ 1048576
theorem byteE (c : Tspec_l1Cur) (h : Good c) : EvP (fun k => Fspec_l1Byte k c) (fun r => 0 ≤ r.1 ∧ r.1 ≤ 255 ∧ Good r.2) := by
  obtain ⟨b, i, hh⟩ := c
  obtain ⟨h1, h2⟩ := h
  simp only at h1 h2
  simp only [Fspec_l1Byte]
  refine EvP.ite (fun hl => ?_) (fun _ => EvP.pure ⟨(and255 _).1, (and255 _).2, h1, h2⟩)
  have hl := of_decide_eq_true hl
  obtain ⟨n, rfl⟩ : ∃ n : Nat, i = n := ⟨i.toNat, by omega⟩
  obtain ⟨x, hx⟩ := atLt (xs := b) (i := n) (by omega)
  refine EvP.at? hx (EvP.pure ⟨(and255 _).1, (and255 _).2, ?_, h2⟩)
  show 0 ≤ IntKind.i64.wrap ((n : Int) + 1)
  rw [wid1 (by omega)]; omega
theorem tmodIn {v n : Int} (h : 0 ≤ v) (hn : 0 < n) : 0 ≤ Int.tmod v n ∧ Int.tmod v n < n := ⟨Int.tmod_nonneg n h, Int.tmod_lt_of_pos v hn⟩
theorem belowE (n : Int) (c : Tspec_l1Cur) (hn : 0 < n) (h : Good c) : EvP (fun k => Fspec_l1Below k n c) (fun r => 0 ≤ r.1 ∧ r.1 < n ∧ Good r.2) := by
  simp only [Fspec_l1Below]
  rw [decide_eq_false (p := n ≤ 0) (by omega)]
  have hz : (!(n == 0)) = true := by simp; omega
  simp only [cond_false, hz, cond_true]
  refine EvP.ite (fun _ => ?_) (fun _ => ?_)
  · exact (byteE c h).bind fun r hr => EvP.pure ⟨(tmodIn hr.1 hn).1, (tmodIn hr.1 hn).2, hr.2.2⟩
  · refine (byteE c h).bind fun r1 h1 => (byteE r1.2 h1.2.2).bind fun r2 h2 => (byteE r2.2 h2.2.2).bind fun r3 h3 => (byteE r3.2 h3.2.2).bind fun r4 h4 => EvP.pure ?_
    have a1 := h1.1; have b1 := h1.2.1; have a2 := h2.1; have b2 := h2.2.1; have a3 := h3.1; have b3 := h3.2.1; have a4 := h4.1; have b4 := h4.2.1
    generalize r1.1 = v1 at *; generalize r2.1 = v2 at *; generalize r3.1 = v3 at *; generalize r4.1 = v4 at *
    have hs : 0 ≤ IntKind.i64.wrap ((IntKind.i64.wrap ((IntKind.i64.wrap ((IntKind.i64.wrap (v1 * (16777216 : Int))) + (IntKind.i64.wrap (v2 * (65536 : Int))))) + (IntKind.i64.wrap (v3 * (256 : Int))))) + v4) := by
      rw [wid (n := v1 * 16777216) (by omega) (by omega), wid (n := v2 * 65536) (by omega) (by omega), wid (n := v3 * 256) (by omega) (by omega)]
      rw [wid (n := v1 * 16777216 + v2 * 65536) (by omega) (by omega), wid (n := v1 * 16777216 + v2 * 65536 + v3 * 256) (by omega) (by omega), wid (by omega) (by omega)]
      omega
    exact ⟨(tmodIn hs hn).1, (tmodIn hs hn).2, h4.2.2⟩
theorem onceE (n : Int) (c : Tspec_l1Cur) (hn : 0 < n) (h : Good c) : EvP (fun k => Fspec_l1Once k n c) (fun r => Good r.2) := by
  simp only [Fspec_l1Once]
  exact (belowE n c hn h).bind fun r hr => EvP.pure hr.2.2
theorem newE (a : List UInt8) (ha : a.length ≤ 1048576) : EvP (fun k => Fspec_l1New k a) Good := by
  simp only [Fspec_l1New]
  have go : ∀ m (i : Nat) (h : Int), i + m = 4000 → EvP (fun k => Fspec_l1New.l3 k a h (i : Int)) Good := by
    intro m
    induction m with
    | zero =>
      intro i h hi
      refine EvP.succ ?_
      simp only [Fspec_l1New.l3, Fspec_l1New.j2]
      rw [decide_eq_false (p := (i : Int) < 4000) (by omega)]
      refine EvP.ite (fun _ => EvP.pure ⟨by simp, ha⟩) (fun _ => EvP.pure ⟨by simp, ha⟩)
    | succ m ih =>
      intro i h hi
      refine EvP.succ ?_
      simp only [Fspec_l1New.l3, Fspec_l1New.j2]
      refine EvP.ite (fun hl => ?_) (fun _ => EvP.pure ⟨by simp, ha⟩)
      have hl := of_decide_eq_true hl
      obtain ⟨x, hx⟩ := atLt (xs := a) (i := i) (by omega)
      rw [decide_eq_true (p := (i : Int) < 4000) (by omega), wid1 (by omega)]
      exact EvP.at? hx (ih (i + 1) _ (by omega))
  exact go 4000 0 _ (by omega)
theorem pickE (l : List Int) (c : Tspec_l1Cur) (hn : 0 < l.length) (h : Good c) : EvP (fun k => Fspec_l1PickInt k l c) (fun r => r.1 ∈ l ∧ Good r.2) := by
  simp only [Fspec_l1PickInt]
  refine (belowE (l.length : Int) c (by omega) h).bind fun r hr => ?_
  obtain ⟨n, hn'⟩ : ∃ n : Nat, r.1 = n := ⟨r.1.toNat, by have := hr.1; omega⟩
  have := hr.2.1
  obtain ⟨x, hx⟩ := atLt (xs := l) (i := n) (by omega)
  rw [hn']
  exact EvP.at? hx (EvP.pure ⟨List.mem_of_getElem? hx, hr.2.2⟩)
theorem bigE (k : Nat) (a : List UInt8) : Flaws_big k a = some (decide (1048576 < a.length)) := by
  unfold Flaws_big
  congr 1
  exact decide_eq_decide.2 (by omega)
theorem textE (n : Int) (c : Tspec_l1Cur) (hn : 0 ≤ n) (hn2 : n ≤ 1048576) (h : Good c) : EvP (fun k => Fspec_l1Text k n c) (fun r => r.1.length ≤ n.toNat ∧ Good r.2) := by
  have go : ∀ (m : Nat) (out : List UInt8) (q : Int) (c : Tspec_l1Cur), out.length + m ≤ 2097152 → Good c → EvP (fun k => Fspec_l1Text.l22 k out q (m : Int) c.b c.i c.h) (fun r => r.1.length = out.length + m ∧ Good r.2) := by
    intro m
    induction m with
    | zero =>
      intro out q c ho hc
      refine EvP.succ ?_
      simp only [Fspec_l1Text.l22]
      exact EvP.pure ⟨rfl, hc⟩
    | succ m ih =>
      intro out q c ho hc
      refine EvP.succ ?_
      have key : ∀ (z : Int) (c' : Tspec_l1Cur), Good c' → EvP (fun k => Fspec_l1Text.j26 (Fspec_l1Text.l22 k) k out q ((m + 1 : Nat) : Int) z c'.b c'.i c'.h) (fun r => r.1.length = out.length + (m + 1) ∧ Good r.2) := by
        intro z c' g
        simp only [Fspec_l1Text.j26]
        rw [decide_eq_true (by simp; omega), wid (by omega) (by omega), show ((m + 1 : Nat) : Int) - 1 = (m : Int) by omega]
        exact (ih (out ++ [ofI z]) q c' (by simp; omega) g).mono fun r hr => ⟨by rw [hr.1]; simp; omega, hr.2⟩
      simp only [Fspec_l1Text.l22, Fspec_l1Text.j25]
      rw [decide_eq_true (by omega), show (⟨c.b, c.i, c.h⟩ : Tspec_l1Cur) = c from rfl]
      simp only [cond_true]
      refine (byteE c hc).bind fun r hr => ?_
      refine EvP.ite (fun _ => EvP.ite (fun _ => key _ r.2 hr.2.2) (fun _ => key _ r.2 hr.2.2)) (fun _ => EvP.ite (fun _ => key _ r.2 hr.2.2) (fun _ => key _ r.2 hr.2.2))
  simp only [Fspec_l1Text]
  rw [wid (n := n + 1) (by omega) (by omega)]
  refine (belowE 4 c (by omega) h).bind fun r1 h1 => (belowE (n + 1) r1.2 (by omega) h1.2.2).bind fun r2 h2 => ?_
  obtain ⟨m, hm⟩ : ∃ m : Nat, r2.1 = m := ⟨r2.1.toNat, by have := h2.1; omega⟩
  have := h2.2.1
  rw [hm]
  exact (go m [] r1.1 r2.2 (by simp; omega) h2.2.2).mono fun r hr => ⟨by rw [hr.1]; simp; omega, hr.2⟩
theorem cutT {l : List UInt8} {a b : Int} (ha : 0 ≤ a) (hab : a ≤ b) (hb : b ≤ l.length) : ∃ v, cut? l a b = some v ∧ v.length = (b - a).toNat := by
  refine ⟨_, if_pos ⟨ha, hab, hb⟩, ?_⟩
  simp; omega
theorem spoilE (a : List UInt8) (c : Tspec_l1Cur) (ha : a.length ≤ 1048573) (h : Good c) : EvP (fun k => Fspec_l1Spoil k a c) (fun r => r.1.length ≤ a.length + 3 ∧ Good r.2) := by
  simp only [Fspec_l1Spoil]
  refine EvP.ite (fun _ => ?_) (fun h0 => ?_)
  · exact (textE 3 c (by omega) (by omega) h).bind fun r hr => EvP.pure ⟨by have := hr.1; simp only; omega, hr.2⟩
  · have h0 : (a.length : Int) ≠ 0 := fun e => by rw [e] at h0; cases h0
    refine (belowE (a.length : Int) c (by omega) h).bind fun r1 h1 => (belowE 4 r1.2 (by omega) h1.2.2).bind fun r2 h2 => ?_
    obtain ⟨i1, i2, _⟩ := h1
    obtain ⟨p, hp, lp⟩ := cutT (l := a) (a := 0) (b := r1.1) (by omega) (by omega) (by omega)
    obtain ⟨q, hq, lq⟩ := cutT (l := a) (a := r1.1 + 1) (b := (a.length : Int)) (by omega) (by omega) (by omega)
    obtain ⟨r, hr, lr⟩ := cutT (l := a) (a := r1.1) (b := (a.length : Int)) (by omega) (by omega) (by omega)
    obtain ⟨n, hn⟩ : ∃ n : Nat, r1.1 = n := ⟨r1.1.toNat, by omega⟩
    obtain ⟨x, hx⟩ := atLt (xs := a) (i := n) (by omega)
    rw [wid (n := r1.1 + 1) (by omega) (by omega)]
    simp only [hp, hq, hr, Option.bind_some]
    refine EvP.ite (fun _ => ?_) (fun _ => EvP.ite (fun _ => ?_) (fun _ => EvP.ite (fun _ => ?_) (fun _ => ?_)))
    · rw [decide_eq_true (by omega)]
      exact EvP.pure ⟨by simp; omega, h2.2.2⟩
    · refine (byteE r2.2 h2.2.2).bind fun r3 h3 => ?_
      rw [decide_eq_true (by simp; omega)]
      simp only [cond_true]
      rw [decide_eq_true (by simp; omega)]
      exact EvP.pure ⟨by simp; omega, h3.2.2⟩
    · exact EvP.pure ⟨by simp only; omega, h2.2.2⟩
    · rw [hn]
      refine EvP.at? hx ((belowE 255 r2.2 (by omega) h2.2.2).bind fun r3 h3 => ?_)
      rw [decide_eq_true (by simp; omega)]
      simp only [cond_true]
      rw [decide_eq_true (by simp; omega)]
      exact EvP.pure ⟨by simp; omega, h3.2.2⟩
def TS (x : Timpl_Tlv) : Prop := x.Data.length ≤ 1000 ∧ x.Kids.length ≤ 10
def SmT (b : Nat) (l : List Timpl_Tlv) : Prop := l.length ≤ b ∧ ∀ x ∈ l, TS x
theorem SmT.snoc {b : Nat} {l : List Timpl_Tlv} {x : Timpl_Tlv} (h : SmT b l) (hx : TS x) : SmT (b + 1) (l ++ [x]) := ⟨by have := h.1; simp; omega, fun y hy => by
  rcases List.mem_append.1 hy with hy | hy
  · exact h.2 y hy
  · rw [List.mem_singleton.1 hy]; exact hx⟩
theorem SmT.set {b : Nat} {l : List Timpl_Tlv} {x : Timpl_Tlv} {i : Nat} (h : SmT b l) (hx : TS x) : SmT b (l.set i x) := ⟨by rw [List.length_set]; exact h.1, fun y hy => by
  rcases List.mem_or_eq_of_mem_set hy with hy | hy
  · exact h.2 y hy
  · rw [hy]; exact hx⟩
theorem SmT.mono {b b' : Nat} {l : List Timpl_Tlv} (h : SmT b l) (hb : b ≤ b') : SmT b' l := ⟨Nat.le_trans h.1 hb, h.2⟩
def nodesN : Nat → Nat
  | 0 => 1
  | d + 1 => 1 + 3 * nodesN d
abbrev ClP := Nat → List Timpl_Tlv → Int → Tspec_l1Cur → Option (List Timpl_Tlv × Tspec_l1Cur)
/-- What drawing a node brings about. -/
def PutQ (d : Nat) (m : List Timpl_Tlv) (r : List Timpl_Tlv × Tspec_l1Cur) : Prop := m.length < r.1.length ∧ r.1.length ≤ m.length + nodesN d ∧ (∀ x ∈ r.1, x.Data.length ≤ 5 ∧ x.Kids.length ≤ 3) ∧ Good r.2
theorem putL (d : Nat) (tag : Int) (hd4 : d ≤ 10) (hN : nodesN d ≤ 200) : ∀ (n : Nat) (cl : ClP) (m : List Timpl_Tlv) (c : Tspec_l1Cur) (ks : List Int), n ≤ 3 → ks.length + n ≤ 3 → m.length + 1 + n * nodesN d ≤ 100000 → (∀ x ∈ m, x.Data.length ≤ 5 ∧ x.Kids.length ≤ 3) → Good c →
    (∀ m c, m.length + nodesN d ≤ 100000 → (∀ x ∈ m, x.Data.length ≤ 5 ∧ x.Kids.length ≤ 3) → Good c → EvP (fun k => cl k m (d : Int) c) (PutQ d m)) →
    EvP (fun k => Fspec_l14Put.l4 (cl k) k m ((d + 1 : Nat) : Int) (n : Int) c.b c.i c.h tag ks) (fun r => m.length < r.1.length ∧ r.1.length ≤ m.length + 1 + n * nodesN d ∧ (∀ x ∈ r.1, x.Data.length ≤ 5 ∧ x.Kids.length ≤ 3) ∧ Good r.2) := by
  intro n
  induction n with
  | zero =>
    intro cl m c ks hn hk hm hx hc hcl
    refine EvP.succ ?_
    simp only [Fspec_l14Put.l4]
    rw [decide_eq_false (p := ((0 : Nat) : Int) > 0) (by omega), decide_eq_true (by simp only [List.length_cons, List.length_nil]; omega)]
    simp only [cond_false, cond_true]
    refine EvP.pure ⟨by simp, by simp, fun x hxm => ?_, hc⟩
    rcases List.mem_append.1 hxm with h | h
    · exact hx x h
    · rw [List.mem_singleton.1 h]; simp only [List.length_nil]; omega
  | succ n ih =>
    intro cl m c ks hn hk hm hx hc hcl
    refine EvP.succ ?_
    simp only [Fspec_l14Put.l4]
    rw [decide_eq_true (p := ((n + 1 : Nat) : Int) > 0) (by omega), wid (n := ((d + 1 : Nat) : Int) - 1) (by omega) (by omega), show ((d + 1 : Nat) : Int) - 1 = (d : Int) by omega, wid (n := ((n + 1 : Nat) : Int) - 1) (by omega) (by omega), show ((n + 1 : Nat) : Int) - 1 = (n : Int) by omega]
    simp only [cond_true]
    have e : (n + 1) * nodesN d = n * nodesN d + nodesN d := by rw [Nat.add_mul, Nat.one_mul]
    rw [e] at hm
    refine EvP.bind (hcl m c (by omega) hx hc).shift (fun r hr => ?_)
    obtain ⟨h1, h2, h3, h4⟩ := hr
    rw [decide_eq_true (by simp only [List.length_cons, List.length_nil]; omega)]
    simp only [cond_true]
    refine (ih (fun k => cl (k + 1)) r.1 r.2 _ (by omega) (by simp; omega) (by omega) h3 h4 (fun m c a b e => (hcl m c a b e).shift)).mono fun q hq => ⟨by have := hq.1; omega, by have := hq.2.1; omega, hq.2.2⟩
theorem putE : ∀ (d : Nat) (m : List Timpl_Tlv) (c : Tspec_l1Cur), d ≤ 4 → m.length + nodesN d ≤ 100000 → (∀ x ∈ m, x.Data.length ≤ 5 ∧ x.Kids.length ≤ 3) → Good c → EvP (fun k => Fspec_l14Put k m (d : Int) c) (PutQ d m) := by
  have leaf : ∀ (cl : ClP) (m : List Timpl_Tlv) (a2 tag : Int) (c : Tspec_l1Cur), m.length + 1 ≤ 100000 → (∀ x ∈ m, x.Data.length ≤ 5 ∧ x.Kids.length ≤ 3) → Good c → EvP (fun k => Fspec_l14Put.j2 (cl k) k m a2 tag true c.b c.i c.h) (PutQ 0 m) := by
    intro cl m a2 tag c hm hx hc
    simp only [Fspec_l14Put.j2, cond_true]
    refine EvP.bind (textE 5 c (by omega) (by omega) hc) (fun r hr => ?_)
    rw [decide_eq_true (by simp only [List.length_cons, List.length_nil]; omega)]
    refine EvP.pure ⟨by simp, by simp [nodesN], fun x hxm => ?_, hr.2⟩
    rcases List.mem_append.1 hxm with h | h
    · exact hx x h
    · rw [List.mem_singleton.1 h]
      have := hr.1
      simp only [List.length_nil]; omega
  have n1 : ∀ d, 1 ≤ nodesN d := fun d => by cases d <;> simp only [nodesN] <;> omega
  have up : ∀ d m r, PutQ 0 m r → PutQ d m r := fun d m r h => ⟨h.1, by have := h.2.1; have := n1 d; simp only [nodesN] at *; omega, h.2.2⟩
  intro d
  induction d with
  | zero =>
    intro m c hd hm hx hc
    refine EvP.succ ?_
    simp only [Fspec_l14Put]
    refine EvP.bind (pickE _ c (by simp) hc) (fun r hr => ?_)
    exact leaf (fun k => Fspec_l14Put k) m ((0 : Nat) : Int) r.1 r.2 (by simpa [nodesN] using hm) hx hr.2
  | succ d ih =>
    intro m c hd hm hx hc
    have hn := n1 d
    have e : nodesN (d + 1) = 1 + 3 * nodesN d := rfl
    rw [e] at hm
    refine EvP.succ ?_
    simp only [Fspec_l14Put]
    refine EvP.bind (pickE _ c (by simp) hc) (fun r hr => ?_)
    rw [show (((d + 1 : Nat) : Int) == 0) = false by simp; omega]
    simp only [cond_false]
    refine EvP.bind (onceE 2 r.2 (by omega) hr.2) (fun r2 hr2 => ?_)
    cases hb : r2.1 with
    | true => exact (leaf (fun k => Fspec_l14Put k) m ((d + 1 : Nat) : Int) r.1 r2.2 (by omega) hx hr2).mono (fun q hq => up _ _ _ hq)
    | false =>
      simp only [Fspec_l14Put.j2, cond_false]
      refine EvP.bind (belowE 4 r2.2 (by omega) hr2) (fun r3 hr3 => ?_)
      obtain ⟨n, hn3⟩ : ∃ n : Nat, r3.1 = n := ⟨r3.1.toNat, by have := hr3.1; omega⟩
      have h4 := hr3.2.1
      rw [hn3] at h4 ⊢
      have hle : n * nodesN d ≤ 3 * nodesN d := Nat.mul_le_mul_right _ (by omega)
      have hN : nodesN d ≤ 200 := by
        have : d = 0 ∨ d = 1 ∨ d = 2 ∨ d = 3 := by omega
        rcases this with h | h | h | h <;> subst h <;> decide
      refine (putL d r.1 (by omega) hN n (fun k => Fspec_l14Put k) m r3.2 [] (by omega) (by simp; omega) (by omega) hx hr3.2.2 (fun m c h1 h2 h3 => ih m c (by omega) h1 h2 h3)).mono fun q hq => ⟨hq.1, by rw [e]; have := hq.2.1; omega, hq.2.2⟩
theorem some4 (m : List Timpl_Tlv) (i : Nat) (hi : i < m.length) (h : SmT 200 m) (n : Int) (hn : n ≤ 930) : ∀ (g : Nat) (out : List UInt8) (c : Tspec_l1Cur), out.length + g = 930 → Good c → EvP (fun k => Fspec_l14Some.l4 k m (i : Int) out n c.b c.i c.h) (fun r => SmT 200 r.1 ∧ Good r.2) := by
  intro g
  obtain ⟨b, hb⟩ := atLt (xs := m) (i := i) hi
  have hbt := h.2 b (List.mem_of_getElem? hb)
  induction g with
  | zero =>
    intro out c hg hc
    refine EvP.succ ?_
    simp only [Fspec_l14Some.l4]
    rw [decide_eq_false (by omega)]
    simp only [cond_false]
    exact EvP.at? hb (EvP.pure ⟨h.set ⟨by simp only; omega, hbt.2⟩, hc⟩)
  | succ g ih =>
    intro out c hg hc
    refine EvP.succ ?_
    simp only [Fspec_l14Some.l4]
    refine EvP.ite (fun _ => ?_) (fun _ => EvP.at? hb (EvP.pure ⟨h.set ⟨by simp only; omega, hbt.2⟩, hc⟩))
    rw [decide_eq_true (by simp only [List.length_cons, List.length_nil]; omega)]
    simp only [cond_true]
    exact ih _ c (by simp; omega) hc
theorem some14E (c : Tspec_l1Cur) (hc : Good c) : EvP (fun k => Fspec_l14Some k c) (fun r => SmT 200 r.1 ∧ Good r.2) := by
  simp only [Fspec_l14Some]
  refine EvP.bind (putE 4 [] c (by omega) (by decide) (fun x hx => by cases hx) hc) (fun r1 h1 => ?_)
  obtain ⟨p1, p2, p3, p4⟩ := h1
  have hs : SmT 121 r1.1 := ⟨by simpa [nodesN] using p2, fun x hx => by have := p3 x hx; exact ⟨by omega, by omega⟩⟩
  refine EvP.bind (onceE 6 r1.2 (by omega) p4) (fun r2 h2 => ?_)
  refine EvP.ite (fun _ => ?_) (fun _ => EvP.pure ⟨hs.mono (by omega), h2⟩)
  refine EvP.bind (belowE (r1.1.length : Int) r2.2 (by simp at p1; omega) h2) (fun r3 h3 => ?_)
  obtain ⟨n, hn⟩ : ∃ n : Nat, r3.1 = n := ⟨r3.1.toNat, by have := h3.1; omega⟩
  have hnl := h3.2.1
  rw [hn] at hnl ⊢
  obtain ⟨b, hb⟩ := atLt (xs := r1.1) (i := n) (by omega)
  have hb5 := p3 b (List.mem_of_getElem? hb)
  have hl := hs.1
  refine EvP.bind (belowE 5 r3.2 (by omega) h3.2.2) (fun r4 h4 => ?_)
  refine EvP.ite (fun _ => ?_) (fun _ => ?_)
  · refine EvP.bind (pickE _ r4.2 (by simp) h4.2.2) (fun r5 h5 => ?_)
    exact EvP.at? hb (EvP.pure ⟨(hs.mono (by omega)).set ⟨by simp only; omega, by simp only; omega⟩, h5.2⟩)
  refine EvP.ite (fun _ => ?_) (fun _ => ?_)
  · exact EvP.at? hb (EvP.at? hb (EvP.pure ⟨(hs.mono (by omega)).set ⟨by simp only; omega, by simp only; omega⟩, h4.2.2⟩))
  refine EvP.ite (fun _ => ?_) (fun _ => ?_)
  · refine EvP.at? hb ?_
    refine EvP.bind (belowE (r1.1.length : Int) r4.2 (by omega) h4.2.2) (fun r5 h5 => ?_)
    rw [decide_eq_true (by simp only [List.length_cons, List.length_nil]; omega)]
    simp only [cond_true]
    exact EvP.at? hb (EvP.pure ⟨(hs.mono (by omega)).set ⟨by simp only; omega, by simp; omega⟩, h5.2.2⟩)
  refine EvP.ite (fun _ => ?_) (fun _ => ?_)
  · rw [decide_eq_true (by simp only [List.length_cons, List.length_nil]; omega)]
    exact EvP.pure ⟨(hs.snoc ⟨by simp, by simp⟩).mono (by omega), h4.2.2⟩
  · refine EvP.bind (belowE 40 r4.2 (by omega) h4.2.2) (fun r5 h5 => ?_)
    have a1 := h5.1; have a2 := h5.2.1
    rw [wid (n := 880 + r5.1) (by omega) (by omega)]
    exact some4 r1.1 n (by omega) (hs.mono (by omega)) _ (by omega) 930 [] r5.2 rfl h5.2.2
theorem SmT.sm {b : Nat} {l : List Timpl_Tlv} (h : SmT b l) (hb : b ≤ 1048576) : Sm l := ⟨by have := h.1; omega, fun x hx => by have := h.2 x hx; unfold TS at this; omega⟩

theorem tx_sub {m : List Timpl_Tlv} (hm : AllOk m) : ∀ (n : Nat), n < m.length → ∀ i ∈ post m n, (tx m i).length ≤ (tx m n).length := by
  intro n
  induction n using Nat.strongRecOn with
  | _ n ih =>
    intro hn i hi
    have hN := hm n hn
    rw [post_eq hN.kd] at hi
    rcases List.mem_append.1 hi with h | h
    · obtain ⟨l, hl, hil⟩ := List.mem_flatten.1 h
      obtain ⟨k, hk, rfl⟩ := List.mem_map.1 hl
      have hlt := hN.kd k hk
      have h1 := ih k hlt (by omega) i hil
      cases hL : (nd m n).Leaf with
      | true => have := hN.leaf hL; unfold kd at hk; rw [this] at hk; cases hk
      | false => have := tx_kid hN.kd hL hk; omega
    · have : i = n := by simpa using h
      rw [this]; exact Nat.le_refl _
theorem Tlvly.sm {m : List Timpl_Tlv} (h : Tlvly m) (hk : ∀ x ∈ m, x.Kids.length ≤ 60) : Sm m := by
  obtain ⟨h1, h2, h3, h4, h5, h6⟩ := h
  refine ⟨by omega, fun x hx => ⟨?_, by have := hk x hx; omega⟩⟩
  obtain ⟨i, hi, hxi⟩ := List.getElem_of_mem hx
  have hn : nd m i = x := nd_get (by rw [List.getElem?_eq_getElem hi, hxi])
  have ht := tx_sub h3 (m.length - 1) (by omega) i (by rw [h5]; exact List.mem_range.2 hi)
  cases hL : (nd m i).Leaf with
  | true => rw [tx_leaf hL, List.length_append, hn] at ht; omega
  | false => have := (h3 i hi).data hL; rw [hn] at this; rw [this]; simp
theorem rd_err {s : List UInt8} (hs : s.length ≤ 1048576) {c : Int} (h : rd s 8 s.length [] 0 0 = .error c) : c ≠ 0 := by
  obtain ⟨r, _, hr⟩ := iNode hs 8 0 s.length [] 0 0 rfl (Nat.le_refl _) (Nat.zero_le _) (by omega)
  rw [h] at hr
  exact hr.2
/-- What is read is shown again. -/
theorem rdR_ok {t : List UInt8} (hs : t.length ≤ 1048576) (h : (rdR t).2 = 0) : Tlvly (rdR t).1 ∧ tx (rdR t).1 ((rdR t).1.length - 1) = t := by
  unfold rdR at h ⊢
  split at h
  · cases h
  · rename_i h9
    rw [if_neg h9]
    cases hx : rd t 8 t.length [] 0 0 with
    | error c => rw [hx] at h; exact absurd h (rd_err hs hx)
    | ok v =>
      obtain ⟨o, b, e⟩ := v
      rw [hx] at h
      simp only at h ⊢
      split at h
      · rename_i he
        rw [if_pos he]
        obtain ⟨h1, h2, h3, h4⟩ := show_rd (by omega) hx
        exact ⟨h1, by rw [h2, he]; exact List.take_length⟩
      · cases h
theorem rdR_no {t : List UInt8} (h : (rdR t).2 ≠ 0) : (rdR t).1 = [] := by
  unfold rdR at h ⊢
  split
  · rfl
  · rename_i h9
    rw [if_neg h9] at h
    split
    · rfl
    · rename_i hx
      rw [hx] at h
      simp only at h
      split
      · rename_i he; rw [if_pos he] at h; exact absurd rfl h
      · rfl
theorem rdR_tx {m : List Timpl_Tlv} (h : Tlvly m) : rdR (tx m (m.length - 1)) = (m, 0) := by
  have h6 := h.2.2.2.2.2
  unfold rdR
  rw [if_neg (by omega), rd_show h]
  simp
/-- The reader at a longer text. -/
theorem rd_more {m : List Timpl_Tlv} (h : Tlvly m) (t : List UInt8) (ht : t.length ≤ 1000) : rd (tx m (m.length - 1) ++ t) 8 (tx m (m.length - 1) ++ t).length [] 0 0 = .ok (m, m.length, (tx m (m.length - 1)).length) := by
  obtain ⟨h1, h2, h3, h4, h5, h6⟩ := h
  have hl : (tx m (m.length - 1) ++ t).length = (tx m (m.length - 1)).length + t.length := List.length_append
  have := rd_tx (s := tx m (m.length - 1) ++ t) h3 (by omega) 8 (m.length - 1) 0 0 0 (tx m (m.length - 1) ++ t).length t (by omega) (by omega) (by rw [h5, List.range_eq_range']; congr 1; omega) h4 (by omega) (Nat.le_refl _) (by simp) (by omega)
  rw [List.take_zero, show m.length - 1 + 1 = m.length by omega, List.take_length] at this
  rw [this]; simp
theorem rdR_more {m : List Timpl_Tlv} (h : Tlvly m) (t : List UInt8) (ht : t.length ≤ 1000) (h0 : 0 < t.length) : (rdR (tx m (m.length - 1) ++ t)).2 ≠ 0 := by
  unfold rdR
  split
  · simp
  · rw [rd_more h t ht]
    simp only
    rw [if_neg (by rw [List.length_append]; omega)]
    simp
theorem rdR_less {m : List Timpl_Tlv} (h : Tlvly m) : (rdR ((tx m (m.length - 1)).take ((tx m (m.length - 1)).length - 1))).2 ≠ 0 := by
  intro e
  have h6 := h.2.2.2.2.2
  have hp := tx_pos (h.2.2.1 (m.length - 1) (by have := h.1; omega)).kd
  have hl : ((tx m (m.length - 1)).take ((tx m (m.length - 1)).length - 1)).length = (tx m (m.length - 1)).length - 1 := by rw [List.length_take]; omega
  obtain ⟨h1, h2⟩ := rdR_ok (by omega) e
  generalize rdR ((tx m (m.length - 1)).take ((tx m (m.length - 1)).length - 1)) = r at h1 h2
  have hx := rd_more h1 ((tx m (m.length - 1)).drop ((tx m (m.length - 1)).length - 1)) (by rw [List.length_drop]; omega)
  rw [h2, List.take_append_drop, rd_show h] at hx
  injection hx with hx
  have := congrArg (fun v => v.2.2) hx
  simp only at this
  omega
theorem showTlv_both {m : List Timpl_Tlv} (hs : Sm m) : ∃ r : List UInt8, Ev (fun k => Fspec_ShowTlv k m) r ∧ Ev (fun k => Fimpl_ShowTlv k m) r ∧ ((Tlvly m ∧ r = tx m (m.length - 1)) ∨ (¬Tlvly m ∧ r = [])) := by
  have hl := hs.1
  obtain ⟨r, h1, h2, h3⟩ := tlvOk_both hs
  cases r with
  | false =>
    refine ⟨[], ?_, ?_, .inr ⟨fun h => (by cases h3.2 h), rfl⟩⟩
    · simp only [Fspec_ShowTlv]; exact Ev.bind h1 (Ev.pure _)
    · simp only [Fimpl_ShowTlv]; exact Ev.bind h2 (Ev.pure _)
  | true =>
    have hT := h3.1 rfl
    have h0 := hT.1
    have h9 := hT.2.2.2.2.2
    have e : IntKind.i64.wrap ((m.length : Int) - 1) = ((m.length - 1 : Nat) : Int) := by rw [wid (by omega) (by omega)]; omega
    refine ⟨tx m (m.length - 1), ?_, ?_, .inl ⟨hT, rfl⟩⟩
    · simp only [Fspec_ShowTlv]
      refine Ev.bind h1 ?_
      simp only [Bool.not_true, cond_false]
      rw [e]
      exact Ev.bind (sText hs hT.2.2.1 (m.length - 1) (by omega) (by omega)) (Ev.pure _)
    · simp only [Fimpl_ShowTlv]
      refine Ev.bind h2 ?_
      simp only [Bool.not_true, cond_false]
      rw [e]
      exact Ev.bind (iText hs hT.2.2.1 (m.length - 1) (by omega) (by omega)) (Ev.pure _)
theorem tle9 {n : Int} (h1 : 0 ≤ n) (h2 : n ≤ 1048576) : ∃ a : Nat, n = a ∧ a ≤ 1048576 := ⟨n.toNat, by omega, by omega⟩
theorem d8L : ∀ (n : Nat) (x : List UInt8), n ≤ 100 → x.length + 9 * n ≤ 1000000 → EvP (fun k => Fspec_DrawReadTlv.l8 k x (n : Int)) (fun r => r.length ≤ x.length + 9 * n) := by
  intro n
  induction n with
  | zero =>
    intro x hn hx
    refine EvP.succ ?_
    simp only [Fspec_DrawReadTlv.l8]
    exact EvP.pure (by omega)
  | succ n ih =>
    intro x hn hx
    refine EvP.succ ?_
    simp only [Fspec_DrawReadTlv.l8]
    rw [decide_eq_true (p := ((n + 1 : Nat) : Int) > 0) (by omega)]
    simp only [cond_true]
    refine EvP.bindE (sVar _) ?_
    have hv := varI_len (x.length : Int)
    have e : IntKind.i64.wrap (((n + 1 : Nat) : Int) - 1) = (n : Int) := by rw [wid (by omega) (by omega)]; omega
    rw [decide_eq_true (by simp; omega), decide_eq_true (by simp; omega), e]
    simp only [cond_true]
    exact (ih _ (by omega) (by simp; omega)).mono fun r hr => by simp at hr ⊢; omega
theorem d10L : ∀ (n : Nat) (x : List UInt8), n ≤ 1000 → x.length + 2 * n ≤ 1000000 → EvP (fun k => Fspec_DrawReadTlv.l10 k x (n : Int)) (fun r => r.length ≤ x.length + 2 * n + 8) := by
  intro n
  induction n with
  | zero =>
    intro x hn hx
    refine EvP.succ ?_
    simp only [Fspec_DrawReadTlv.l10]
    have hv := varI_len (x.length : Int)
    refine EvP.bindE (f := fun k => Fspec_Var k (x.length : Int)) (sVar _) ?_
    rw [decide_eq_true (by simp; omega), decide_eq_true (by simp; omega)]
    exact EvP.pure (by simp; omega)
  | succ n ih =>
    intro x hn hx
    refine EvP.succ ?_
    simp only [Fspec_DrawReadTlv.l10]
    rw [decide_eq_true (p := ((n + 1 : Nat) : Int) > 0) (by omega)]
    simp only [cond_true]
    have e : IntKind.i64.wrap (((n + 1 : Nat) : Int) - 1) = (n : Int) := by rw [wid (by omega) (by omega)]; omega
    rw [decide_eq_true (by simp; omega), e]
    simp only [cond_true]
    exact (ih _ (by omega) (by simp; omega)).mono fun r hr => by simp at hr ⊢; omega
theorem d6E (x : List UInt8) (hx : x.length ≤ 900) (n : Int) (b : Bool) (c : Tspec_l1Cur) (hc : Good c) : EvP (fun k => Fspec_DrawReadTlv.j6 k x n b c.b c.i c.h) (fun r => r.length ≤ 1048576) := by
  simp only [Fspec_DrawReadTlv.j6]
  refine EvP.ite (fun _ => EvP.bind (spoilE x c (by omega) hc) (fun r hr => EvP.pure (by have := hr.1; omega))) (fun _ => ?_)
  refine EvP.ite (fun _ => EvP.bind (textE 3 c (by omega) (by omega) hc) (fun r hr => ?_)) (fun _ => ?_)
  · have := hr.1
    rw [decide_eq_true (by omega)]
    exact EvP.pure (by rw [List.length_append]; omega)
  refine EvP.ite (fun _ => EvP.bind (belowE 5 c (by omega) hc) (fun r hr => ?_)) (fun _ => ?_)
  · obtain ⟨a, ha, ha2⟩ := tle9 (n := 6 + r.1) (by have := hr.1; omega) (by have := hr.2.1; omega)
    have := hr.2.1
    rw [wid (by omega) (by omega), ha]
    exact (d8L a [] (by omega) (by simp; omega)).mono fun r hr => by simp at hr; omega
  refine EvP.ite (fun _ => EvP.bind (belowE 5 c (by omega) hc) (fun r hr => ?_)) (fun _ => EvP.pure (by omega))
  · obtain ⟨a, ha, ha2⟩ := tle9 (n := 57 + r.1) (by have := hr.1; omega) (by have := hr.2.1; omega)
    have := hr.2.1
    rw [wid (by omega) (by omega), ha]
    exact (d10L a [] (by omega) (by simp; omega)).mono fun r hr => by simp at hr; omega
theorem drawReadE (a0 : List UInt8) (hlen : a0.length ≤ 1048576) : EvP (fun k => Fspec_DrawReadTlv k a0) (fun r => r.length ≤ 1048576) := by
  simp only [Fspec_DrawReadTlv]
  refine EvP.bind (newE a0 hlen) (fun c hc => EvP.bind (some14E c hc) (fun r hr => ?_))
  obtain ⟨q, q1, q2, q3⟩ := showTlv_both (hr.1.sm (by omega))
  have hq : q.length ≤ 900 := by
    rcases q3 with ⟨t1, t2⟩ | ⟨_, t2⟩
    · rw [t2]; exact t1.2.2.2.2.2
    · rw [t2]; simp
  refine EvP.bindE q1 (EvP.bind (belowE 6 r.2 (by omega) hr.2) (fun r2 hr2 => ?_))
  exact EvP.ite (fun _ => d6E q hq _ _ _ hr2.2.2) (fun _ => d6E q hq _ _ _ hr2.2.2)
theorem tlvTail (a0 : List UInt8) (hlen : a0.length ≤ 1048576) : EvP (fun k => Flaws_FnTlv.j1 k a0) (fun r => r = true) := by
  simp only [Flaws_FnTlv.j1]
  refine EvP.bind (drawReadE a0 hlen) (fun t ht => ?_)
  refine EvP.bindE (iReadTlv ht) (EvP.bindE (sReadTlvE ht) ?_)
  rw [beq_self_eq_true]
  simp only [cond_true]
  refine EvP.ite (fun h => ?_) (fun h => ?_)
  · have h : (rdR t).2 ≠ 0 := by simpa using h
    rw [beq_eq_false_iff_ne.2 h, rdR_no h]
    exact EvP.pure rfl
  · have h : (rdR t).2 = 0 := by simpa using h
    obtain ⟨h1, h2⟩ := rdR_ok ht h
    have hs := h1.sm (rdR_small (s := t)).2
    obtain ⟨q, _, q2, q3⟩ := showTlv_both hs
    have hq : q = t := by
      rcases q3 with ⟨_, t2⟩ | ⟨t1, _⟩
      · rw [t2, h2]
      · exact absurd h1 t1
    subst hq
    refine EvP.bindE q2 ?_
    rw [h]
    simp only [beq_self_eq_true, cond_true]
    exact EvP.pure rfl
theorem lawTlv (a0 : List UInt8) (w0 : Go.MG.wfR (fun _ => True) a0) : ∃ k, Flaws_FnTlv k a0 = some true := by
  refine Ev.get (f := fun k => Flaws_FnTlv k a0) ?_
  refine EvP.ev ?_
  simp only [Flaws_FnTlv, bigE, Option.bind_some]
  refine EvP.ite (fun _ => EvP.pure rfl) (fun hc => ?_)
  have hlen : a0.length ≤ 1048576 := by simp at hc; omega
  have hd : EvP (fun k => Fspec_DrawTlvOk k a0) (fun m => SmT 200 m) := by
    simp only [Fspec_DrawTlvOk]
    exact EvP.bind (newE a0 hlen) (fun c hc => EvP.bind (some14E c hc) (fun r hr => EvP.pure hr.1))
  refine EvP.bind hd (fun m hm => ?_)
  have hs := hm.sm (by omega)
  obtain ⟨q, q1, q2, q3⟩ := showTlv_both hs
  obtain ⟨b, b1, b2, b3⟩ := tlvOk_both hs
  rcases q3 with ⟨t1, t2⟩ | ⟨t1, t2⟩
  · have hq9 := t1.2.2.2.2.2
    have hqp := tx_pos (t1.2.2.1 (m.length - 1) (by have := t1.1; omega)).kd
    have hb : b = true := b3.2 t1
    have hrd := rdR_tx t1
    have hmore := rdR_more t1 [120] (by simp) (by simp)
    have hless := rdR_less t1
    rw [← t2] at hq9 hqp hrd hmore hless
    have hne : (q != []) = true := by
      cases q with
      | nil => simp at hqp
      | cons _ _ => rfl
    subst hb
    refine EvP.bindE q2 (EvP.bindE (iReadTlv (by omega)) (EvP.bindE b1 ?_))
    rw [hne]
    simp only [bne_self_eq_false, cond_false]
    refine EvP.bindE q1 ?_
    simp only [bne_self_eq_false, cond_false]
    refine EvP.bindE b2 (EvP.bindE b1 ?_)
    simp only [bne_self_eq_false, cond_false, cond_true]
    rw [show IntKind.i64.wrap ((q.length : Int) - 1) = ((q.length - 1 : Nat) : Int) by rw [wid (by omega) (by omega)]; omega, cut0 (by omega)]
    simp only [Option.bind_some]
    refine EvP.bindE (iReadTlv (by rw [List.length_take]; omega)) ?_
    rw [decide_eq_true (by simp; omega)]
    simp only [cond_true]
    refine EvP.bindE (iReadTlv (by simp; omega)) ?_
    rw [hrd]
    simp only [bne_self_eq_false, cond_false]
    refine EvP.bindE q2 ?_
    rw [beq_eq_false_iff_ne.2 hless, beq_eq_false_iff_ne.2 hmore]
    simp only [bne_self_eq_false, cond_false]
    exact tlvTail a0 hlen
  · have hb : b = false := by
      cases b with
      | false => rfl
      | true => exact absurd (b3.1 rfl) t1
    subst hb t2
    refine EvP.bindE q2 (EvP.bindE (iReadTlv (by simp)) (EvP.bindE b1 ?_))
    simp only [bne_self_eq_false, cond_false]
    refine EvP.bindE q1 ?_
    simp only [bne_self_eq_false, cond_false]
    refine EvP.bindE b2 (EvP.bindE b1 ?_)
    simp only [bne_self_eq_false, cond_false]
    exact tlvTail a0 hlen


end Go.Proofs.Ytgjbgakcfcomdaa.M
