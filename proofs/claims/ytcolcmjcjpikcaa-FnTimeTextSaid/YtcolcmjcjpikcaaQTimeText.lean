/- Times are read from their text, and no other text is read. Conditions: none. -/
import Derived.Test.YtcolcmjcjpikcaaFTimeText
namespace Go.Proofs.Ytcolcmjcjpikcaa.M
open Go Go.MG
set_option linter.unusedVariables false
set_option linter.unusedSimpArgs false
theorem wid {n : Int} (h1 : -9223372036854775808 ≤ n) (h2 : n ≤ 9223372036854775807) : IntKind.i64.wrap n = n := by
  rw [IntKind.wrap_i64]; omega
theorem atN {α : Type} {xs : List α} {i : Nat} {b : α} (h : xs[i]? = some b) : at? xs (i : Int) = some b := by
  simp [at?, h]
theorem atLt {α : Type} {xs : List α} {i : Nat} (h : i < xs.length) : ∃ b, xs[i]? = some b := ⟨xs[i], List.getElem?_eq_getElem h⟩
theorem wid1 {i : Nat} (h : i ≤ 4611686018427387904) : IntKind.i64.wrap ((i : Int) + 1) = ((i + 1 : Nat) : Int) := by
  rw [wid (by omega) (by omega)]; omega
theorem ltD {i n : Nat} (h : i < n) : decide ((i : Int) < (n : Int)) = true := by simp; omega
theorem ltD0 {n : Nat} : decide ((n : Int) < (n : Int)) = false := by simp
theorem take_succ_get {α : Type} {xs : List α} {i : Nat} {b : α} (h : xs[i]? = some b) : xs.take (i + 1) = xs.take i ++ [b] := by
  rw [List.take_add_one, h]; rfl
/-- From some fuel on it answers so. -/
def Ev {α : Type} (f : Nat → Option α) (r : α) : Prop := ∃ n, ∀ k, n ≤ k → f k = some r
theorem Ev.pure {α : Type} (r : α) : Ev (fun _ => some r) r := ⟨0, fun _ _ => rfl⟩
theorem Ev.of {α : Type} {f : Nat → Option α} {r : α} (h : ∀ k, f k = some r) : Ev f r := ⟨0, fun k _ => h k⟩
theorem Ev.bind {α β : Type} {f : Nat → Option α} {g : Nat → α → Option β} {a : α} {r : β} (h : Ev f a) (h' : Ev (fun k => g k a) r) : Ev (fun k => (f k).bind (g k)) r := by
  obtain ⟨n, h⟩ := h
  obtain ⟨m, h'⟩ := h'
  refine ⟨max n m, fun k hk => ?_⟩
  show (f k).bind (g k) = some r
  rw [h k (by omega), Option.bind_some]
  exact h' k (by omega)
theorem Ev.succ {α : Type} {f : Nat → Option α} {r : α} (h : Ev (fun k => f (k + 1)) r) : Ev f r := by
  obtain ⟨n, h⟩ := h
  refine ⟨n + 1, fun k hk => ?_⟩
  obtain ⟨j, rfl⟩ : ∃ j, k = j + 1 := ⟨k - 1, by omega⟩
  exact h j (by omega)
theorem Ev.shift {α : Type} {f : Nat → Option α} {r : α} (h : Ev f r) : Ev (fun k => f (k + 1)) r := by
  obtain ⟨n, h⟩ := h
  exact ⟨n, fun k hk => h (k + 1) (by omega)⟩
theorem Ev.get {α : Type} {f : Nat → Option α} {r : α} (h : Ev f r) : ∃ k, f k = some r := by
  obtain ⟨n, h⟩ := h
  exact ⟨n, h n (Nat.le_refl _)⟩
theorem Ev.congr {α : Type} {f g : Nat → Option α} {r : α} (h : Ev f r) (e : ∀ k, g k = f k) : Ev g r := by
  obtain ⟨n, h⟩ := h
  exact ⟨n, fun k hk => (e k).trans (h k hk)⟩
theorem Ev.to {α : Type} {f : Nat → Option α} {a b : α} (h : Ev f a) (e : a = b) : Ev f b := e ▸ h
theorem Ev.ite {α : Type} {f g : Nat → Option α} {c : Bool} {r : α} (h1 : c = true → Ev f r) (h0 : c = false → Ev g r) : Ev (fun k => cond c (f k) (g k)) r := by
  cases c with
  | true => exact h1 rfl
  | false => exact h0 rfl
theorem Ev.at? {α β : Type} {xs : List α} {i : Nat} {b : α} {g : Nat → α → Option β} {r : β} (h : xs[i]? = some b) (h' : Ev (fun k => g k b) r) : Ev (fun k => (Go.MG.at? xs (i : Int)).bind (g k)) r := by
  have e := atN h
  simp only [e, Option.bind_some]
  exact h'
/-- A loop over a list: what it answers, told over what is left of it. -/
theorem Ev.forI {α S R : Type} {xs : List α} {L : Nat → S → Int → Option R} {f : List α → S → R} {I : Nat → S → Prop}
    (hnil : ∀ s, I xs.length s → Ev (fun k => L (k + 1) s (xs.length : Int)) (f [] s))
    (hcons : ∀ (i : Nat) (b : α) (s : S), xs[i]? = some b → i < xs.length → I i s → (∀ s', I (i + 1) s' → Ev (fun k => L k s' ((i + 1 : Nat) : Int)) (f (xs.drop (i + 1)) s')) → Ev (fun k => L (k + 1) s (i : Int)) (f (b :: xs.drop (i + 1)) s)) :
    ∀ (s : S), I 0 s → Ev (fun k => L k s 0) (f xs s) := by
  have key : ∀ (m i : Nat) (s : S), i + m = xs.length → I i s → Ev (fun k => L k s (i : Int)) (f (xs.drop i) s) := by
    intro m
    induction m with
    | zero =>
      intro i s hi hI
      have : i = xs.length := by omega
      subst this
      rw [List.drop_length]
      exact Ev.succ (hnil s hI)
    | succ m ih =>
      intro i s hi hI
      obtain ⟨b, hb⟩ := atLt (xs := xs) (i := i) (by omega)
      have hlt : i < xs.length := by omega
      have e : xs.drop i = b :: xs.drop (i + 1) := by
        rw [List.drop_eq_getElem_cons hlt]
        rw [List.getElem?_eq_getElem hlt] at hb
        cases hb; rfl
      rw [e]
      exact Ev.succ (hcons i b s hb hlt hI fun s' hs' => ih (i + 1) s' (by omega) hs')
  intro s hs
  have := key xs.length 0 s (by omega) hs
  simpa using this
/-- It answers, and what it answers is so. -/
def EvP {α : Type} (f : Nat → Option α) (P : α → Prop) : Prop := ∃ r, Ev f r ∧ P r
theorem Ev.p {α : Type} {f : Nat → Option α} {r : α} {P : α → Prop} (h : Ev f r) (hp : P r) : EvP f P := ⟨r, h, hp⟩
theorem EvP.pure {α : Type} {r : α} {P : α → Prop} (h : P r) : EvP (fun _ => some r) P := ⟨r, Ev.pure r, h⟩
theorem EvP.bind {α β : Type} {f : Nat → Option α} {g : Nat → α → Option β} {P : α → Prop} {Q : β → Prop} (h : EvP f P) (h' : ∀ a, P a → EvP (fun k => g k a) Q) : EvP (fun k => (f k).bind (g k)) Q := by
  obtain ⟨a, h1, h2⟩ := h
  obtain ⟨r, h3, h4⟩ := h' a h2
  exact ⟨r, h1.bind h3, h4⟩
theorem EvP.bindE {α β : Type} {f : Nat → Option α} {g : Nat → α → Option β} {a : α} {Q : β → Prop} (h : Ev f a) (h' : EvP (fun k => g k a) Q) : EvP (fun k => (f k).bind (g k)) Q := by
  obtain ⟨r, h3, h4⟩ := h'
  exact ⟨r, h.bind h3, h4⟩
theorem EvP.ite {α : Type} {f g : Nat → Option α} {c : Bool} {P : α → Prop} (h1 : c = true → EvP f P) (h0 : c = false → EvP g P) : EvP (fun k => cond c (f k) (g k)) P := by
  cases c with
  | true => exact h1 rfl
  | false => exact h0 rfl
theorem EvP.mono {α : Type} {f : Nat → Option α} {P Q : α → Prop} (h : EvP f P) (hq : ∀ r, P r → Q r) : EvP f Q := by
  obtain ⟨r, h1, h2⟩ := h
  exact ⟨r, h1, hq r h2⟩
theorem EvP.succ {α : Type} {f : Nat → Option α} {P : α → Prop} (h : EvP (fun k => f (k + 1)) P) : EvP f P := by
  obtain ⟨r, h1, h2⟩ := h
  exact ⟨r, h1.succ, h2⟩
theorem EvP.at? {α β : Type} {xs : List α} {i : Nat} {b : α} {g : Nat → α → Option β} {P : β → Prop} (h : xs[i]? = some b) (h' : EvP (fun k => g k b) P) : EvP (fun k => (Go.MG.at? xs (i : Int)).bind (g k)) P := by
  obtain ⟨r, h1, h2⟩ := h'
  exact ⟨r, Ev.at? h h1, h2⟩
theorem EvP.shift {α : Type} {f : Nat → Option α} {P : α → Prop} (h : EvP f P) : EvP (fun k => f (k + 1)) P := by
  obtain ⟨r, h1, h2⟩ := h
  exact ⟨r, h1.shift, h2⟩
theorem EvP.ev {α : Type} {f : Nat → Option α} {r : α} (h : EvP f (fun x => x = r)) : Ev f r := by
  obtain ⟨x, h1, rfl⟩ := h
  exact h1
def isIn (x a b : Int) : Bool := decide (a ≤ x ∧ x ≤ b)
theorem sIn (k : Nat) (x a b : Int) : Fspec_l1In k x a b = some (isIn x a b) := by
  unfold Fspec_l1In isIn
  simp only [Bool.cond_decide]
  split
  all_goals
    refine congrArg some (Bool.eq_iff_iff.mpr ?_)
    simp only [decide_eq_true_eq, Bool.false_eq_true, false_iff]
    omega
theorem iIn (k : Nat) (x a b : Int) : Fimpl_within k x a b = some (isIn x a b) := sIn k x a b
theorem bvNat (n : Nat) (h : n < 18446744073709551616) : (BitVec.ofInt 64 (n : Int)).toNat = n := by
  rw [BitVec.ofInt_natCast, BitVec.toNat_ofNat]; exact Nat.mod_eq_of_lt (by omega)
theorem and127 (n : Nat) (h : n < 9223372036854775808) : Go.bits .and .i64 (n : Int) 127 = ((n % 128 : Nat) : Int) := by
  show IntKind.i64.wrap ((BitVec.ofInt 64 (n : Int) &&& BitVec.ofInt 64 ((127 : Nat) : Int)).toNat : Int) = _
  rw [BitVec.toNat_and, bvNat n (by omega), bvNat 127 (by omega), Nat.and_two_pow_sub_one_eq_mod n 7, wid (by omega) (by omega)]
theorem orNat (a b : Nat) (ha : a < 9223372036854775808) (hb : b < 9223372036854775808) : Go.bits .or .i64 (a : Int) (b : Int) = ((a ||| b : Nat) : Int) := by
  show IntKind.i64.wrap ((BitVec.ofInt 64 (a : Int) ||| BitVec.ofInt 64 (b : Int)).toNat : Int) = _
  have : a ||| b < 2 ^ 63 := Nat.or_lt_two_pow ha hb
  rw [BitVec.toNat_or, bvNat a (by omega), bvNat b (by omega), wid (by omega) (by omega)]
theorem orLow (a b i : Nat) (ha : a < 2 ^ i) : a ||| (b * 2 ^ i) = a + b * 2 ^ i := by
  rw [Nat.or_comm, Nat.mul_comm, ← Nat.two_pow_add_eq_or_of_lt ha, Nat.add_comm]
theorem or128 (m : Nat) (h : m < 128) : Go.bits .or .i64 (m : Int) 128 = ((128 + m : Nat) : Int) := by
  have := orNat m 128 (by omega) (by omega)
  rw [show ((128 : Nat) : Int) = 128 from rfl] at this
  rw [this, show 128 = 1 * 2 ^ 7 from rfl, orLow m 1 7 (by omega)]
  congr 1; omega
theorem highI (n : Nat) : shrI .i64 (n : Int) 7 = ((n / 128 : Nat) : Int) := by
  show Int.fdiv (n : Int) 128 = _
  rw [Int.fdiv_eq_ediv_of_nonneg _ (by omega)]; omega
theorem lowI (n : Nat) (h : n < 9223372036854775808) : Go.bits .or .i64 (Go.bits .and .i64 (n : Int) 127) 128 = ((128 + n % 128 : Nat) : Int) := by
  rw [and127 n h, or128 _ (Nat.mod_lt _ (by omega))]
theorem lowS (n : Nat) : IntKind.i64.wrap (128 + Int.tmod (n : Int) 128) = ((128 + n % 128 : Nat) : Int) := by
  rw [show Int.tmod (n : Int) 128 = ((n % 128 : Nat) : Int) from rfl, wid (by omega) (by omega)]; omega
theorem highS (n : Nat) (h : n < 9223372036854775808) : IntKind.i64.wrap (Int.tdiv (n : Int) 128) = ((n / 128 : Nat) : Int) := by
  rw [show Int.tdiv (n : Int) 128 = ((n / 128 : Nat) : Int) from rfl, wid (by omega) (by omega)]
theorem ofI_nat (n : Nat) (h : n < 256) : ofI (n : Int) = UInt8.ofNat n := by
  unfold ofI
  have : ((n : Int) % 256).toNat = n := by omega
  rw [this]
def varE (n : Nat) : List UInt8 := if h : n < 128 then [UInt8.ofNat n] else UInt8.ofNat (128 + n % 128) :: varE (n / 128)
termination_by n
decreasing_by omega
theorem varE_lt {n : Nat} (h : n < 128) : varE n = [UInt8.ofNat n] := by rw [varE, dif_pos h]
theorem varE_ge {n : Nat} (h : 128 ≤ n) : varE n = UInt8.ofNat (128 + n % 128) :: varE (n / 128) := by rw [varE, dif_neg (by omega)]
theorem varE_len : ∀ (m n : Nat), n < 128 ^ (m + 1) → (varE n).length ≤ m + 1
  | m, n, h => by
    by_cases hn : n < 128
    · rw [varE_lt hn]; simp
    · rw [varE_ge (by omega)]
      cases m with
      | zero => omega
      | succ m =>
        have := varE_len m (n / 128) (by rw [Nat.pow_succ] at h; omega)
        simp; omega
theorem varE_pos (n : Nat) : 0 < (varE n).length := by
  by_cases hn : n < 128
  · rw [varE_lt hn]; simp
  · rw [varE_ge (by omega)]; simp
theorem varE_ne (n : Nat) : varE n ≠ [] := fun h => by have := varE_pos n; rw [h] at this; simp at this
def varI (a : Int) : List UInt8 := if 0 ≤ a ∧ a ≤ 562949953421311 then varE a.toNat else []
theorem varI_nat (n : Nat) (h : n ≤ 562949953421311) : varI (n : Int) = varE n := by
  unfold varI; rw [if_pos (by omega)]; simp
theorem varI_len (a : Int) : (varI a).length ≤ 7 := by
  unfold varI
  split
  · exact varE_len 6 _ (by omega)
  · simp
theorem sVarL : ∀ (m n : Nat) (acc : List UInt8), n < 128 ^ (m + 1) → m ≤ 8 → acc.length + m ≤ 1000 → Ev (fun k => Fspec_Var.l2 k (n : Int) acc) (acc ++ varE n) := by
  intro m
  induction m with
  | zero =>
    intro n acc h hm ha
    refine Ev.succ ?_
    simp only [Fspec_Var.l2]
    rw [decide_eq_false (p := (n : Int) ≥ 128) (by omega), decide_eq_true (p := (2 * (acc.length + [ofI (n : Int)].length) + 192) * 1 ≤ 281474976710656) (by simp; omega), ofI_nat n (by omega), varE_lt (by omega)]
    exact Ev.pure _
  | succ m ih =>
    intro n acc h hm ha
    have h9 : n < 9223372036854775808 := Nat.lt_of_lt_of_le h (Nat.le_trans (Nat.pow_le_pow_right (by omega) (show m + 1 + 1 ≤ 9 by omega)) (by decide))
    refine Ev.succ ?_
    simp only [Fspec_Var.l2]
    by_cases hn : n < 128
    · rw [decide_eq_false (p := (n : Int) ≥ 128) (by omega), decide_eq_true (p := (2 * (acc.length + [ofI (n : Int)].length) + 192) * 1 ≤ 281474976710656) (by simp; omega), ofI_nat n (by omega), varE_lt hn]
      exact Ev.pure _
    · rw [decide_eq_true (p := (n : Int) ≥ 128) (by omega), lowS, highS n h9, ofI_nat (128 + n % 128) (by omega), decide_eq_true (p := (2 * (acc.length + [UInt8.ofNat (128 + n % 128)].length) + 192) * 1 ≤ 281474976710656) (by simp; omega)]
      simp only [cond_true]
      refine (ih (n / 128) _ (by rw [Nat.pow_succ] at h; omega) (by omega) (by rw [List.length_append]; simp only [List.length_cons, List.length_nil]; omega)).to ?_
      rw [varE_ge (n := n) (by omega), List.append_assoc]; rfl
theorem iVarL : ∀ (m n : Nat) (acc : List UInt8), n < 128 ^ (m + 1) → m ≤ 8 → acc.length + m ≤ 1000 → Ev (fun k => Fimpl_Var.l2 k (n : Int) acc) (acc ++ varE n) := by
  intro m
  induction m with
  | zero =>
    intro n acc h hm ha
    refine Ev.succ ?_
    simp only [Fimpl_Var.l2]
    rw [decide_eq_false (p := (n : Int) > 127) (by omega), decide_eq_true (p := (2 * (acc.length + [ofI (n : Int)].length) + 192) * 1 ≤ 281474976710656) (by simp; omega), ofI_nat n (by omega), varE_lt (by omega)]
    exact Ev.pure _
  | succ m ih =>
    intro n acc h hm ha
    have h9 : n < 9223372036854775808 := Nat.lt_of_lt_of_le h (Nat.le_trans (Nat.pow_le_pow_right (by omega) (show m + 1 + 1 ≤ 9 by omega)) (by decide))
    refine Ev.succ ?_
    simp only [Fimpl_Var.l2]
    by_cases hn : n < 128
    · rw [decide_eq_false (p := (n : Int) > 127) (by omega), decide_eq_true (p := (2 * (acc.length + [ofI (n : Int)].length) + 192) * 1 ≤ 281474976710656) (by simp; omega), ofI_nat n (by omega), varE_lt hn]
      exact Ev.pure _
    · rw [decide_eq_true (p := (n : Int) > 127) (by omega), lowI n h9, highI n, ofI_nat (128 + n % 128) (by omega), decide_eq_true (p := (2 * (acc.length + [UInt8.ofNat (128 + n % 128)].length) + 192) * 1 ≤ 281474976710656) (by simp; omega)]
      simp only [cond_true]
      refine (ih (n / 128) _ (by rw [Nat.pow_succ] at h; omega) (by omega) (by rw [List.length_append]; simp only [List.length_cons, List.length_nil]; omega)).to ?_
      rw [varE_ge (n := n) (by omega), List.append_assoc]; rfl
theorem sVar (a : Int) : Ev (fun k => Fspec_Var k a) (varI a) := by
  simp only [Fspec_Var, sIn, Option.bind_some]
  refine Ev.ite (fun hc => ?_) (fun hc => ?_)
  · refine (Ev.pure _).to ?_
    unfold varI; rw [if_neg (fun h => by unfold isIn at hc; rw [decide_eq_true h] at hc; cases hc)]
  · have h : 0 ≤ a ∧ a ≤ 562949953421311 := by simpa [isIn] using hc
    obtain ⟨n, rfl⟩ : ∃ n : Nat, a = n := ⟨a.toNat, by omega⟩
    refine (sVarL 6 n [] (by omega) (by omega) (by simp)).to ?_
    rw [varI_nat n (by omega)]; rfl
theorem iVar (a : Int) : Ev (fun k => Fimpl_Var k a) (varI a) := by
  simp only [Fimpl_Var, iIn, Option.bind_some]
  refine Ev.ite (fun hc => ?_) (fun hc => ?_)
  · refine (Ev.pure _).to ?_
    unfold varI; rw [if_neg (fun h => by unfold isIn at hc; rw [decide_eq_true h] at hc; cases hc)]
  · have h : 0 ≤ a ∧ a ≤ 562949953421311 := by simpa [isIn] using hc
    obtain ⟨n, rfl⟩ : ∃ n : Nat, a = n := ⟨a.toNat, by omega⟩
    refine (iVarL 6 n [] (by omega) (by omega) (by simp)).to ?_
    rw [varI_nat n (by omega)]; rfl
/-- The number at the begin of a text, of at most f bytes, and how many they are. -/
def dv : Nat → List UInt8 → Option (Nat × Nat)
  | 0, _ => none
  | _ + 1, [] => none
  | f + 1, b :: bs => if b.toNat < 128 then some (b.toNat, 1) else match dv f bs with
    | some (n, s) => if n = 0 then none else some (b.toNat % 128 + 128 * n, s + 1)
    | none => none
def rvP (s : List UInt8) : Int × Int := match dv 7 s with
  | some (n, z) => ((n : Int), (z : Int))
  | none => (0, 0)
theorem u8eta (b : UInt8) : UInt8.ofNat b.toNat = b := by simp
theorem dv_ok : ∀ {f : Nat} {s : List UInt8} {n z : Nat}, dv f s = some (n, z) → z ≤ s.length ∧ z ≤ f ∧ 0 < z ∧ s.take z = varE n ∧ n < 128 ^ z
  | 0, s, n, z, h => by simp [dv] at h
  | f + 1, [], n, z, h => by simp [dv] at h
  | f + 1, b :: bs, n, z, h => by
    simp only [dv] at h
    split at h
    · rename_i hb
      cases h
      exact ⟨by simp, by omega, by omega, by rw [varE_lt hb]; simp, by simpa using hb⟩
    · rename_i hb
      split at h
      · rename_i m t hm
        split at h
        · cases h
        · rename_i hm0
          cases h
          obtain ⟨h1, h2, h3, h4, h5⟩ := dv_ok hm
          have hb2 := b.toNat_lt
          refine ⟨by simp; omega, by omega, by omega, ?_, ?_⟩
          · rw [List.take_succ_cons, h4, varE_ge (n := b.toNat % 128 + 128 * m) (by omega)]
            have e1 : (b.toNat % 128 + 128 * m) % 128 = b.toNat % 128 := by omega
            have e2 : (b.toNat % 128 + 128 * m) / 128 = m := by omega
            rw [e1, e2, show 128 + b.toNat % 128 = b.toNat by omega, u8eta]
          · rw [Nat.pow_succ]; omega
      · cases h
theorem varE_dv : ∀ {f : Nat} {n : Nat} {t : List UInt8}, n < 128 ^ (f + 1) → dv (f + 1) (varE n ++ t) = some (n, (varE n).length)
  | f, n, t, h => by
    by_cases hn : n < 128
    · rw [varE_lt hn]
      have : (UInt8.ofNat n).toNat = n := by rw [UInt8.toNat_ofNat']; omega
      simp [dv, this, hn]
    · have h1 : (UInt8.ofNat (128 + n % 128)).toNat = 128 + n % 128 := by rw [UInt8.toNat_ofNat']; omega
      rw [varE_ge (n := n) (by omega)]
      cases f with
      | zero => omega
      | succ f =>
        have ih := varE_dv (f := f) (n := n / 128) (t := t) (by rw [Nat.pow_succ] at h; omega)
        simp only [List.cons_append, dv.eq_3 (f + 1), h1]
        rw [if_neg (by omega), ih]
        simp only
        rw [if_neg (by omega)]
        simp only [List.length_cons]
        congr 2; omega
theorem rvP_var {n : Nat} {t : List UInt8} (h : n ≤ 562949953421311) : rvP (varE n ++ t) = ((n : Int), ((varE n).length : Int)) := by
  unfold rvP; rw [varE_dv (by omega)]
/-- The sum of the digits, the lowest first. -/
def digs : List UInt8 → Nat
  | [] => 0
  | b :: bs => b.toNat % 128 + 128 * digs bs
theorem digs_lt : ∀ (s : List UInt8), digs s < 128 ^ s.length
  | [] => by simp [digs]
  | b :: bs => by have := digs_lt bs; simp only [digs, List.length_cons, Nat.pow_succ]; omega
theorem digs_snoc : ∀ (s : List UInt8) (b : UInt8), digs (s ++ [b]) = digs s + b.toNat % 128 * 128 ^ s.length
  | [], b => by simp [digs]
  | c :: s, b => by
    simp only [List.cons_append, digs, List.length_cons, digs_snoc s b, Nat.pow_succ]
    rw [Nat.mul_add, Nat.mul_comm (128 ^ s.length) 128, ← Nat.mul_assoc, ← Nat.mul_assoc, Nat.mul_comm (b.toNat % 128) 128]
    omega
theorem digs_varE : ∀ (m n : Nat), n < 128 ^ (m + 1) → digs (varE n) = n
  | m, n, h => by
    by_cases hn : n < 128
    · rw [varE_lt hn]; simp [digs, UInt8.toNat_ofNat']; omega
    · rw [varE_ge (by omega)]
      have h1 : (UInt8.ofNat (128 + n % 128)).toNat = 128 + n % 128 := by rw [UInt8.toNat_ofNat']; omega
      cases m with
      | zero => omega
      | succ m =>
        simp only [digs, h1, digs_varE m (n / 128) (by rw [Nat.pow_succ] at h; omega)]; omega
/-- Whether the first bytes are a number's, of just this size. -/
theorem dv_take {s : List UInt8} {z : Nat} (hz : z ≤ s.length) (h7 : z ≤ 7) (h0 : 0 < z) (h : varE (digs (s.take z)) = s.take z) : dv 7 s = some (digs (s.take z), z) := by
  have h1 : digs (s.take z) < 128 ^ 7 := by
    have := digs_lt (s.take z)
    rw [List.length_take, Nat.min_eq_left hz] at this
    exact Nat.lt_of_lt_of_le this (Nat.pow_le_pow_right (by omega) h7)
  have h2 := varE_dv (f := 6) (n := digs (s.take z)) (t := s.drop z) h1
  rw [h, List.take_append_drop, List.length_take, Nat.min_eq_left hz] at h2
  exact h2
theorem dv_take' {s : List UInt8} {n z : Nat} (h : dv 7 s = some (n, z)) : digs (s.take z) = n ∧ varE (digs (s.take z)) = s.take z := by
  obtain ⟨h1, h2, h3, h4, h5⟩ := dv_ok h
  have h6 : n < 128 ^ (6 + 1) := Nat.lt_of_lt_of_le h5 (Nat.pow_le_pow_right (by omega) h2)
  have e : digs (s.take z) = n := by rw [h4]; exact digs_varE 6 n h6
  exact ⟨e, by rw [e, h4]⟩
theorem cutN {α : Type} {xs : List α} {a b : Nat} (h : a ≤ b) (h2 : b ≤ xs.length) : cut? xs (a : Int) (b : Int) = some ((xs.drop a).take (b - a)) := by
  unfold cut?
  rw [if_pos (by omega)]
  congr 2; omega
theorem cut0 {α : Type} {xs : List α} {b : Nat} (h2 : b ≤ xs.length) : cut? xs 0 (b : Int) = some (xs.take b) := by
  have := cutN (xs := xs) (a := 0) (b := b) (by omega) h2
  simpa using this
theorem cutEnd {α : Type} {xs : List α} {a : Nat} (h : a ≤ xs.length) : cut? xs (a : Int) (xs.length : Int) = some (xs.drop a) := by
  rw [cutN h (Nat.le_refl _)]
  congr 1
  exact List.take_of_length_le (by simp)
theorem varE_bytes : ∀ (m n : Nat), n < 128 ^ (m + 1) → ∀ (j : Nat) (b : UInt8), (varE n)[j]? = some b → if j + 1 < (varE n).length then 128 ≤ b.toNat else b.toNat < 128
  | m, n, h, j, b, hj => by
    by_cases hn : n < 128
    · rw [varE_lt hn] at hj ⊢
      cases j with
      | zero => simp at hj; subst hj; simp [UInt8.toNat_ofNat']; omega
      | succ j => simp at hj
    · rw [varE_ge (n := n) (by omega)] at hj ⊢
      have h1 : (UInt8.ofNat (128 + n % 128)).toNat = 128 + n % 128 := by rw [UInt8.toNat_ofNat']; omega
      have hp := varE_pos (n / 128)
      cases j with
      | zero => simp only [List.getElem?_cons_zero, Option.some.injEq] at hj; subst hj; rw [if_pos (by simp; omega), h1]; omega
      | succ j =>
        cases m with
        | zero => omega
        | succ m =>
          simp only [List.getElem?_cons_succ] at hj
          have := varE_bytes m (n / 128) (by rw [Nat.pow_succ] at h; omega) j b hj
          simp only [List.length_cons]
          by_cases hl : j + 1 < (varE (n / 128)).length
          · rw [if_pos (by omega)]; rwa [if_pos hl] at this
          · rw [if_neg (by omega)]; rwa [if_neg hl] at this
theorem dv_bytes {s : List UInt8} {n z : Nat} (h : dv 7 s = some (n, z)) {j : Nat} {b : UInt8} (hj : s[j]? = some b) : (j + 1 < z → 128 ≤ b.toNat) ∧ (j + 1 = z → b.toNat < 128) := by
  obtain ⟨h1, h2, h3, h4, h5⟩ := dv_ok h
  have h6 : n < 128 ^ (6 + 1) := Nat.lt_of_lt_of_le h5 (Nat.pow_le_pow_right (by omega) h2)
  have hlen : (varE n).length = z := by rw [← h4, List.length_take]; omega
  have get : j < z → (varE n)[j]? = some b := fun hjz => by rw [← h4, List.getElem?_take, if_pos hjz]; exact hj
  refine ⟨fun hl => ?_, fun hl => ?_⟩
  · have := varE_bytes 6 n h6 j b (get (by omega))
    rwa [if_pos (by omega)] at this
  · have := varE_bytes 6 n h6 j b (get (by omega))
    rwa [if_neg (by omega)] at this
theorem sRV26 (s : List UInt8) (z : Nat) (hz : z ≤ s.length) (h7 : z ≤ 7) (h0 : 0 < z) (len : Int) (fl : Bool) (r2 : Int × Int) : ∀ (j : Nat) (cl : Nat → List UInt8 → Int → Option (Int × Int)), j ≤ z → Ev (fun k => cl k s (IntKind.i64.wrap ((z : Int) + 1))) r2 →
    Ev (fun k => Fspec_ReadVar.l26 (cl k) k s (z : Int) (digs ((s.take z).drop j) : Int) ((j : Int) - 1) len fl) (if varE (digs (s.take z)) = s.take z then ((digs (s.take z) : Int), (z : Int)) else r2) := by
  have hlt : digs (s.take z) < 128 ^ 7 := by
    have := digs_lt (s.take z)
    rw [List.length_take, Nat.min_eq_left hz] at this
    exact Nat.lt_of_lt_of_le this (Nat.pow_le_pow_right (by omega) h7)
  intro j
  induction j with
  | zero =>
    intro cl hj hcl
    refine Ev.succ ?_
    simp only [Fspec_ReadVar.l26]
    rw [decide_eq_false (by omega)]
    simp only [cond_false, List.drop_zero]
    refine Ev.bind (sVar _) ?_
    rw [varI_nat _ (by omega), cut0 hz]
    simp only [Option.bind_some]
    refine Ev.ite (fun hc => ?_) (fun hc => ?_)
    · rw [if_pos (eq_of_beq hc)]; exact Ev.pure _
    · rw [if_neg (fun h => by rw [h] at hc; simp at hc)]; exact hcl.shift
  | succ j ih =>
    intro cl hj hcl
    refine Ev.succ ?_
    simp only [Fspec_ReadVar.l26]
    obtain ⟨b, hb⟩ := atLt (xs := s) (i := j) (by omega)
    rw [decide_eq_true (by omega)]
    rw [show ((j + 1 : Nat) : Int) - 1 = (j : Int) by omega]
    simp only [cond_true]
    refine Ev.at? hb ?_
    have e : (s.take z).drop j = b :: (s.take z).drop (j + 1) := by
      have hl : j < (s.take z).length := by rw [List.length_take]; omega
      rw [List.drop_eq_getElem_cons hl]
      congr 1
      rw [List.getElem_take]
      rw [List.getElem?_eq_getElem (by omega)] at hb
      exact Option.some.inj hb
    have hd : digs ((s.take z).drop (j + 1)) < 128 ^ 7 := by
      have h1 := digs_lt ((s.take z).drop (j + 1))
      have h2 : ((s.take z).drop (j + 1)).length ≤ 7 := by simp; omega
      exact Nat.lt_of_lt_of_le h1 (Nat.pow_le_pow_right (by omega) h2)
    have e2 : IntKind.i64.wrap (IntKind.i64.wrap ((digs ((s.take z).drop (j + 1)) : Int) * 128) + Int.tmod (b.toNat : Int) 128) = (digs ((s.take z).drop j) : Int) := by
      rw [show Int.tmod (b.toNat : Int) 128 = ((b.toNat % 128 : Nat) : Int) from rfl, e]
      simp only [digs]
      rw [wid (n := (digs ((s.take z).drop (j + 1)) : Int) * 128) (by omega) (by omega), wid (by omega) (by omega)]
      omega
    rw [e2, wid (n := (j : Int) - 1) (by omega) (by omega)]
    exact ih (fun k => cl (k + 1)) (by omega) hcl.shift
theorem sReadVar (s : List UInt8) (hs : s.length ≤ 1048576) : Ev (fun k => Fspec_ReadVar k s) (rvP s) := by
  have key : ∀ (m z : Nat), z + m = 8 → 0 < z → Ev (fun k => Fspec_ReadVar.l22 k s (z : Int)) (match dv 7 s with | some (n, t) => if z ≤ t then ((n : Int), (t : Int)) else (0, 0) | none => (0, 0)) := by
    intro m
    induction m with
    | zero =>
      intro z hz h0
      refine Ev.succ ?_
      simp only [Fspec_ReadVar.l22]
      rw [decide_eq_false (by omega)]
      refine (Ev.pure _).to ?_
      cases hd : dv 7 s with
      | none => rfl
      | some p => obtain ⟨n, t⟩ := p; have := (dv_ok hd).2.1; simp only; rw [if_neg (by omega)]
    | succ m ih =>
      intro z hz h0
      refine Ev.succ ?_
      simp only [Fspec_ReadVar.l22]
      rw [decide_eq_true (p := (z : Int) ≤ 7) (by omega)]
      simp only [cond_true]
      by_cases hl : z ≤ s.length
      · rw [decide_eq_true (p := (z : Int) ≤ (s.length : Int)) (by omega)]
        simp only [cond_true]
        have hn := ih (z + 1) (by omega) (by omega)
        have h26 := sRV26 s z hl (by omega) h0 (s.length : Int) true _ z (fun k => Fspec_ReadVar.l22 k) (Nat.le_refl _) (by rw [wid1 (by omega)]; exact hn)
        rw [show (s.take z).drop z = [] from List.drop_of_length_le (by rw [List.length_take]; omega)] at h26
        rw [wid (n := (z : Int) - 1) (by omega) (by omega)]
        refine h26.to ?_
        by_cases he : varE (digs (s.take z)) = s.take z
        · rw [if_pos he, dv_take hl (by omega) h0 he]; simp
        · rw [if_neg he]
          cases hd : dv 7 s with
          | none => rfl
          | some p =>
            obtain ⟨n, t⟩ := p
            have : t ≠ z := fun e => by subst e; exact he (dv_take' hd).2
            simp only
            by_cases h : z ≤ t
            · rw [if_pos h, if_pos (by omega)]
            · rw [if_neg h, if_neg (by omega)]
      · rw [decide_eq_false (p := (z : Int) ≤ (s.length : Int)) (by omega)]
        refine (Ev.pure _).to ?_
        cases hd : dv 7 s with
        | none => rfl
        | some p => obtain ⟨n, t⟩ := p; have := (dv_ok hd).1; simp only; rw [if_neg (by omega)]
  simp only [Fspec_ReadVar]
  refine (key 7 1 (by omega) (by omega)).to ?_
  unfold rvP
  cases hd : dv 7 s with
  | none => rfl
  | some p => obtain ⟨n, t⟩ := p; have := (dv_ok hd).2.2.1; simp only; rw [if_pos (by omega)]
theorem pow7 (i : Nat) : 2 ^ (7 * i) = 128 ^ i := by rw [Nat.pow_mul]
theorem iReadVar (s : List UInt8) (hs : s.length ≤ 1048576) : Ev (fun k => Fimpl_ReadVar k s) (rvP s) := by
  have none7 : ∀ i, (∀ j b, j < i → s[j]? = some b → 128 ≤ b.toNat) → (7 ≤ i ∨ s.length ≤ i) → rvP s = (0, 0) := by
    intro i hb hi
    unfold rvP
    cases hd : dv 7 s with
    | none => rfl
    | some p =>
      obtain ⟨n, z⟩ := p
      obtain ⟨h1, h2, h3, _, _⟩ := dv_ok hd
      obtain ⟨b, hb'⟩ := atLt (xs := s) (i := z - 1) (by omega)
      have := (dv_bytes hd hb').2 (by omega)
      have := hb (z - 1) b (by omega) hb'
      omega
  have key : ∀ (m i : Nat), i + m = s.length → i ≤ 7 → (∀ j b, j < i → s[j]? = some b → 128 ≤ b.toNat) → Ev (fun k => Fimpl_ReadVar.l2 k s (digs (s.take i) : Int) (i : Int)) (rvP s) := by
    intro m
    induction m with
    | zero =>
      intro i hi h7 hb
      refine Ev.succ ?_
      simp only [Fimpl_ReadVar.l2]
      rw [decide_eq_false (by omega)]
      exact (Ev.pure _).to (none7 i hb (.inr (by omega))).symm
    | succ m ih =>
      intro i hi h7 hb
      refine Ev.succ ?_
      simp only [Fimpl_ReadVar.l2]
      rw [decide_eq_true (p := (i : Int) < (s.length : Int)) (by omega)]
      simp only [cond_true]
      by_cases hi7 : i = 7
      · subst hi7
        rw [decide_eq_false (p := ((7 : Nat) : Int) < 7) (by omega)]
        exact (Ev.pure _).to (none7 7 hb (.inl (by omega))).symm
      rw [decide_eq_true (p := (i : Int) < 7) (by omega)]
      simp only [cond_true]
      obtain ⟨b, hb'⟩ := atLt (xs := s) (i := i) (by omega)
      have hbl := b.toNat_lt
      have e7 : IntKind.i64.wrap ((7 : Int) * (i : Int)) = ((7 * i : Nat) : Int) := by rw [wid (by omega) (by omega)]; omega
      refine Ev.at? hb' ?_
      rw [e7, decide_eq_false (by omega)]
      simp only [Bool.not_false, cond_true]
      refine Ev.at? hb' ?_
      have hand : ((b &&& 127).toNat : Nat) = b.toNat % 128 := by
        rw [UInt8.toNat_and]; exact Nat.and_two_pow_sub_one_eq_mod b.toNat 7
      have hdl : digs (s.take i) < 128 ^ i := by
        have := digs_lt (s.take i)
        rwa [List.length_take, Nat.min_eq_left (by omega)] at this
      have hp : 128 ^ i ≤ 128 ^ 6 := Nat.pow_le_pow_right (by omega) (by omega)
      have hm : b.toNat % 128 * 128 ^ i < 562949953421312 := by
        have h1 : b.toNat % 128 * 128 ^ i ≤ 127 * 128 ^ 6 := Nat.mul_le_mul (by omega) hp
        omega
      have eshl : shlI .i64 ((b.toNat % 128 : Nat) : Int) ((7 * i : Nat) : Int) = ((b.toNat % 128 * 128 ^ i : Nat) : Int) := by
        unfold shlI
        have e : min (((7 * i : Nat) : Int)).toNat IntKind.i64.bits = 7 * i := by
          have : IntKind.i64.bits = 64 := rfl
          rw [Int.toNat_natCast, this]; omega
        rw [e]
        have e2 : ((b.toNat % 128 : Nat) : Int) * 2 ^ (7 * i) = ((b.toNat % 128 * 128 ^ i : Nat) : Int) := by
          rw [← pow7, Int.natCast_mul, Int.natCast_pow]; rfl
        rw [e2]
        exact wid (by omega) (by omega)
      have eor : Go.bits .or .i64 (digs (s.take i) : Int) (shlI .i64 (((b &&& 127).toNat : Nat) : Int) ((7 * i : Nat) : Int)) = (digs (s.take (i + 1)) : Int) := by
        rw [hand, eshl, orNat _ _ (by omega) (by omega), ← pow7, orLow _ _ _ (by rw [pow7]; exact hdl), take_succ_get hb', digs_snoc, List.length_take, Nat.min_eq_left (by omega), pow7]
      rw [eor, wid1 (by omega)]
      have hd7 : digs (s.take (i + 1)) ≤ 562949953421311 := by
        have := digs_lt (s.take (i + 1))
        rw [List.length_take, Nat.min_eq_left (by omega)] at this
        have h2 : 128 ^ (i + 1) ≤ 128 ^ 7 := Nat.pow_le_pow_right (by omega) (by omega)
        omega
      refine Ev.ite (fun hc => ?_) (fun hc => ?_)
      · have hlt : b.toNat < 128 := by
          have := of_decide_eq_true hc
          simpa [UInt8.lt_iff_toNat_lt] using this
        refine Ev.bind (iVar _) ?_
        rw [varI_nat _ hd7, cut0 (by omega)]
        simp only [Option.bind_some]
        refine Ev.ite (fun hne => ?_) (fun hne => ?_)
        · refine (Ev.pure _).to ?_
          unfold rvP
          cases hd : dv 7 s with
          | none => rfl
          | some p =>
            obtain ⟨n, z⟩ := p
            obtain ⟨h1, h2, h3, _, _⟩ := dv_ok hd
            have hz : z = i + 1 := by
              obtain ⟨c, hc'⟩ := atLt (xs := s) (i := z - 1) (by omega)
              have l1 := (dv_bytes hd hc').2 (by omega)
              have l2 : ¬ z - 1 < i := fun h => by have := hb (z - 1) c h hc'; omega
              have l3 : ¬ i + 1 < z := fun h => by have := (dv_bytes hd hb').1 h; omega
              omega
            subst hz
            have := (dv_take' hd).2
            rw [this] at hne; simp at hne
        · refine (Ev.pure _).to ?_
          have he : varE (digs (s.take (i + 1))) = s.take (i + 1) := by simpa using hne
          unfold rvP
          rw [dv_take (by omega) (by omega) (by omega) he]
      · refine ih (i + 1) (by omega) (by omega) (fun j c hj hc' => ?_)
        by_cases hji : j < i
        · exact hb j c hji hc'
        · have : j = i := by omega
          subst this
          rw [hb'] at hc'; cases hc'
          have := of_decide_eq_false hc
          simpa [UInt8.lt_iff_toNat_lt] using this
  simp only [Fimpl_ReadVar]
  exact key s.length 0 (by omega) (by omega) (fun j b hj => by omega)
def tmsOf (f : List UInt8 → Option Nat) : Nat → List UInt8 → Option Nat
  | 0, _ => some 0
  | n + 1, s => match f s with
    | some m => match tmsOf f n (s.drop m) with
      | some r => some (m + r)
      | none => none
    | none => none
/-- How long the term is with which a text begins, of at most this depth. -/
def tm : Nat → List UInt8 → Option Nat
  | 0, _ => none
  | _ + 1, [] => none
  | d + 1, c :: s => match dv 7 s with
    | none => none
    | some (n, z) =>
      if c = 97 then (if n ≤ 40 ∧ z + n ≤ s.length then some (1 + z + n) else none)
      else if c = 107 then (if 1 ≤ n ∧ n ≤ 1000000 then some (1 + z) else none)
      else if c = 115 then (if 1 ≤ n ∧ n ≤ 1000000 then (match tm d (s.drop z) with | some m => some (1 + z + m) | none => none) else none)
      else if c = 108 then (if n ≤ 12 then (match tmsOf (tm d) n (s.drop z) with | some m => some (1 + z + m) | none => none) else none)
      else none
def szI : Option Nat → Int
  | some m => (m : Int)
  | none => 0
theorem tmsOf_le {f : List UInt8 → Option Nat} (hf : ∀ s m, f s = some m → m ≤ s.length) : ∀ (n : Nat) (s : List UInt8) (m : Nat), tmsOf f n s = some m → m ≤ s.length
  | 0, s, m, h => by simp [tmsOf] at h; omega
  | n + 1, s, m, h => by
    simp only [tmsOf] at h
    split at h
    · rename_i a ha
      split at h
      · rename_i b hb
        cases h
        have h1 := hf s a ha
        have h2 := tmsOf_le hf n (s.drop a) b hb
        rw [List.length_drop] at h2
        omega
      · cases h
    · cases h
theorem tm_le : ∀ (d : Nat) (s : List UInt8) (m : Nat), tm d s = some m → 0 < m ∧ m ≤ s.length
  | 0, s, m, h => by simp [tm] at h
  | d + 1, [], m, h => by simp [tm] at h
  | d + 1, c :: s, m, h => by
    simp only [tm] at h
    split at h
    · cases h
    · rename_i n z hd
      have hz := (dv_ok hd).1
      repeat' split at h
      all_goals first | cases h; done | skip
      · cases h; rename_i h1; simp; omega
      · cases h; simp; omega
      · rename_i a ha
        cases h
        have := tm_le d _ _ ha
        rw [List.length_drop] at this
        simp; omega
      · rename_i a ha
        cases h
        have := tmsOf_le (fun s m hm => (tm_le d s m hm).2) n _ _ ha
        rw [List.length_drop] at this
        simp; omega
theorem at?_drop {s : List UInt8} {i : Nat} {c : UInt8} {t : List UInt8} (h : s.drop i = c :: t) : s[i]? = some c ∧ s.drop (i + 1) = t ∧ i < s.length := by
  have h1 : (s.drop i)[0]? = some c := by rw [h]; rfl
  rw [List.getElem?_drop, Nat.add_zero] at h1
  refine ⟨h1, ?_, (List.getElem?_eq_some_iff.1 h1).1⟩
  rw [← List.drop_drop, h]; rfl
theorem drop_cons_ex {s : List UInt8} {i : Nat} (h : i < s.length) : ∃ c t, s.drop i = c :: t := by
  cases hd : s.drop i with
  | nil => have := congrArg List.length hd; simp at this; omega
  | cons c t => exact ⟨c, t, rfl⟩
theorem sTermL (s : List UInt8) (hs : s.length ≤ 1048576) (d : Nat) (hd8 : d ≤ 100) (at0 : Nat) (a2 : Int) (ha2 : IntKind.i64.wrap (a2 - 1) = (d : Int)) (n : Nat) (hn : n ≤ 12) : ∀ (m j : Nat) (cl : Nat → List UInt8 → Int → Int → Option (Int × Int)) (p : Nat) (dd : Int), j + m = n → at0 ≤ p → p ≤ s.length →
    (∀ i, i ≤ s.length → EvP (fun k => cl k s (i : Int) (d : Int)) (fun r => r.1 = szI (tm d (s.drop i)))) →
    EvP (fun k => Fspec_l2Term.l15 (cl k) k s (at0 : Int) a2 (n : Int) (p : Int) dd (j : Int)) (fun r => r.1 = match tmsOf (tm d) m (s.drop p) with | some q => (((p + q : Nat) : Int) - (at0 : Int)) | none => 0) := by
  intro m
  induction m with
  | zero =>
    intro j cl p dd hj hap hp hcl
    refine EvP.succ ?_
    simp only [Fspec_l2Term.l15]
    rw [decide_eq_false (by omega)]
    refine EvP.pure ?_
    simp only [tmsOf, Nat.add_zero]
    exact wid (by omega) (by omega)
  | succ m ih =>
    intro j cl p dd hj hap hp hcl
    refine EvP.succ ?_
    simp only [Fspec_l2Term.l15]
    rw [decide_eq_true (by omega)]
    simp only [cond_true, ha2]
    refine EvP.bind ((hcl p hp).shift) (fun r hr => ?_)
    cases ht : tm d (s.drop p) with
    | none =>
      rw [ht] at hr
      simp only [szI] at hr
      rw [hr]
      refine EvP.pure ?_
      simp [tmsOf, ht]
    | some q =>
      rw [ht] at hr
      simp only [szI] at hr
      obtain ⟨q0, q1⟩ := tm_le d _ _ ht
      rw [List.length_drop] at q1
      rw [hr, show ((q : Int) == 0) = false by simp; omega]
      simp only [cond_false]
      have e : IntKind.i64.wrap ((p : Int) + (q : Int)) = ((p + q : Nat) : Int) := by rw [wid (by omega) (by omega)]; omega
      have post : ∀ dd', EvP (fun k => Fspec_l2Term.j16 (Fspec_l2Term.l15 (cl (k + 1)) k) k s (at0 : Int) a2 (n : Int) (IntKind.i64.wrap ((p : Int) + (q : Int))) dd' (j : Int)) (fun r => r.1 = match tmsOf (tm d) (m + 1) (s.drop p) with | some q => (((p + q : Nat) : Int) - (at0 : Int)) | none => 0) := by
        intro dd'
        simp only [Fspec_l2Term.j16]
        rw [e, wid1 (by omega)]
        refine (ih (j + 1) (fun k => cl (k + 1)) (p + q) dd' (by omega) (by omega) (by omega) (fun i hi => (hcl i hi).shift)).mono fun r hr => ?_
        rw [hr]
        simp only [tmsOf, ht]
        rw [List.drop_drop]
        cases tmsOf (tm d) m (s.drop (p + q)) with
        | none => rfl
        | some q2 => simp only; omega
      refine EvP.ite (fun _ => post _) (fun _ => post _)
theorem sTerm (s : List UInt8) (hs : s.length ≤ 1048576) : ∀ (d : Nat) (i : Nat), d ≤ 100 → i ≤ s.length → EvP (fun k => Fspec_l2Term k s (i : Int) (d : Int)) (fun r => r.1 = szI (tm d (s.drop i))) := by
  intro d
  induction d with
  | zero =>
    intro i _ hi
    refine EvP.succ ?_
    simp only [Fspec_l2Term]
    refine EvP.ite (fun _ => EvP.pure (by simp [tm, szI])) (fun _ => ?_)
    rw [decide_eq_true (by omega)]
    exact EvP.pure (by simp [tm, szI])
  | succ d ih =>
    intro i hd hi
    refine EvP.succ ?_
    simp only [Fspec_l2Term]
    by_cases hl : i < s.length
    · obtain ⟨c, t, hct⟩ := drop_cons_ex hl
      obtain ⟨hc, ht, _⟩ := at?_drop hct
      have htl : t.length = s.length - (i + 1) := by rw [← ht, List.length_drop]
      rw [decide_eq_false (p := (i : Int) ≥ (s.length : Int)) (by omega), decide_eq_false (p := ((d + 1 : Nat) : Int) < 1) (by omega), wid1 (by omega), cutEnd (by omega), ht]
      simp only [cond_false, Option.bind_some]
      refine EvP.bindE (sReadVar t (by omega)) ?_
      rw [hct]
      cases hdv : dv 7 t with
      | none => simp only [rvP, tm, hdv]; exact EvP.pure rfl
      | some q =>
        obtain ⟨n, z⟩ := q
        simp only [rvP, tm, hdv]
        obtain ⟨z1, z2, z3, _, zn⟩ := dv_ok hdv
        have hn : n < 562949953421312 := Nat.lt_of_lt_of_le zn (by have := Nat.pow_le_pow_right (n := 128) (by omega) z2; omega)
        rw [show ((z : Int) == 0) = false by simp; omega]
        simp only [cond_false]
        refine EvP.at? hc ?_
        have e1 : IntKind.i64.wrap (((i + 1 : Nat) : Int) + (z : Int)) = ((i + 1 + z : Nat) : Int) := by rw [wid (by omega) (by omega)]; omega
        have e2 : IntKind.i64.wrap (1 + (z : Int)) = ((1 + z : Nat) : Int) := by rw [wid (by omega) (by omega)]; omega
        have e3 : IntKind.i64.wrap (((d + 1 : Nat) : Int) - 1) = (d : Int) := by rw [wid (by omega) (by omega)]; omega
        have e4 : IntKind.i64.wrap ((s.length : Int) - ((i + 1 + z : Nat) : Int)) = ((s.length - (i + 1 + z) : Nat) : Int) := by rw [wid (by omega) (by omega)]; omega
        have ed : t.drop z = s.drop (i + 1 + z) := by rw [← ht, List.drop_drop]
        rw [e1, e2, e3, e4]
        refine EvP.ite (fun ha => ?_) (fun ha => ?_)
        · have ha := eq_of_beq ha
          rw [if_pos ha]
          refine EvP.ite (fun h1 => EvP.pure ?_) (fun h1 => ?_)
          · have := of_decide_eq_true h1
            rw [if_neg (by omega)]; rfl
          · have h1 := of_decide_eq_false h1
            refine EvP.ite (fun h2 => EvP.pure ?_) (fun h2 => EvP.pure ?_)
            · have := of_decide_eq_true h2
              rw [if_neg (by omega)]; rfl
            · have := of_decide_eq_false h2
              rw [if_pos (by omega)]
              simp only [szI]
              rw [wid (by omega) (by omega)]; omega
        rw [if_neg (fun e => by rw [e] at ha; simp at ha)]
        refine EvP.ite (fun hk => ?_) (fun hk => ?_)
        · have hk := eq_of_beq hk
          rw [if_pos hk]
          simp only [sIn, Option.bind_some, isIn]
          refine EvP.ite (fun h1 => EvP.pure ?_) (fun h1 => EvP.pure ?_)
          · rw [if_neg (fun h => by rw [decide_eq_true (by omega)] at h1; cases h1)]; rfl
          · have := of_decide_eq_true (by simpa using h1 : decide ((1 : Int) ≤ (n : Int) ∧ (n : Int) ≤ 1000000) = true)
            rw [if_pos (by omega)]; rfl
        rw [if_neg (fun e => by rw [e] at hk; simp at hk)]
        refine EvP.ite (fun hss => ?_) (fun hss => ?_)
        · have hss := eq_of_beq hss
          rw [if_pos hss, ed]
          refine EvP.bind (ih (i + 1 + z) (by omega) (by omega)) (fun r hr => ?_)
          cases ht2 : tm d (s.drop (i + 1 + z)) with
          | none =>
            rw [ht2] at hr; simp only [szI] at hr
            rw [hr]
            refine EvP.pure ?_
            split <;> rfl
          | some q =>
            rw [ht2] at hr; simp only [szI] at hr
            obtain ⟨q0, q1⟩ := tm_le d _ _ ht2
            rw [List.length_drop] at q1
            rw [hr, show ((q : Int) == 0) = false by simp; omega]
            simp only [cond_false, sIn, Option.bind_some, isIn]
            refine EvP.ite (fun h1 => EvP.pure ?_) (fun h1 => EvP.pure ?_)
            · rw [if_neg (fun h => by rw [decide_eq_true (by omega)] at h1; cases h1)]; rfl
            · have := of_decide_eq_true (by simpa using h1 : decide ((1 : Int) ≤ (n : Int) ∧ (n : Int) ≤ 1000000) = true)
              rw [if_pos (by omega)]
              simp only [szI]
              rw [wid (by omega) (by omega)]; omega
        rw [if_neg (fun e => by rw [e] at hss; simp at hss)]
        refine EvP.ite (fun hli => ?_) (fun hli => ?_)
        · have hli := eq_of_beq hli
          rw [if_pos hli, ed]
          refine EvP.ite (fun h1 => EvP.pure ?_) (fun h1 => ?_)
          · have := of_decide_eq_true h1
            rw [if_neg (by omega)]; rfl
          · have h1 := of_decide_eq_false h1
            rw [if_pos (by omega)]
            refine (sTermL s hs d (by omega) i ((d + 1 : Nat) : Int) e3 n (by omega) n 0 (fun k => Fspec_l2Term k) (i + 1 + z) 0 (by omega) (by omega) (by omega) (fun j hj => ih j (by omega) hj)).mono fun r hr => ?_
            rw [hr]
            cases tmsOf (tm d) n (s.drop (i + 1 + z)) with
            | none => rfl
            | some q => simp only [szI]; omega
        · rw [if_neg (fun e => by rw [e] at hli; simp at hli)]
          exact EvP.pure rfl
    · rw [decide_eq_true (p := (i : Int) ≥ (s.length : Int)) (by omega)]
      refine EvP.pure ?_
      have : s.drop i = [] := List.drop_of_length_le (by omega)
      rw [this]; simp [tm, szI]
def tmOk (s : List UInt8) : Bool := match tm 8 s with
  | some m => decide (m = s.length ∧ m ≤ 900)
  | none => false
theorem sTermOk (s : List UInt8) (hs : s.length ≤ 1048576) : Ev (fun k => Fspec_TermOk k s) (tmOk s) := by
  simp only [Fspec_TermOk]
  refine EvP.ev (EvP.bind (sTerm s hs 8 0 (by omega) (by omega)) (fun r hr => ?_))
  rw [List.drop_zero] at hr
  unfold tmOk
  cases ht : tm 8 s with
  | none =>
    rw [ht] at hr; simp only [szI] at hr
    rw [hr]; exact EvP.pure rfl
  | some m =>
    rw [ht] at hr; simp only [szI] at hr
    obtain ⟨h0, h1⟩ := tm_le 8 s m ht
    rw [hr, decide_eq_true (by omega)]
    simp only [cond_true]
    refine EvP.ite (fun h => EvP.pure ?_) (fun h => EvP.pure ?_)
    · have h := eq_of_beq h
      exact decide_eq_decide.2 (by omega)
    · have h : (m : Int) ≠ (s.length : Int) := fun e => by rw [e] at h; simp at h
      rw [decide_eq_false (by omega)]
theorem iVarAt (s : List UInt8) (hs : s.length ≤ 1048576) (i : Nat) (hi : i ≤ s.length) : Ev (fun k => Fimpl_varAt k s (i : Int)) (match dv 7 (s.drop i) with | some (n, z) => ((n : Int), ((i + z : Nat) : Int)) | none => (-1, (i : Int))) := by
  simp only [Fimpl_varAt]
  rw [cutEnd hi]
  simp only [Option.bind_some]
  refine Ev.bind (iReadVar _ (by rw [List.length_drop]; omega)) ?_
  simp only [rvP]
  cases hdv : dv 7 (s.drop i) with
  | none => exact Ev.pure _
  | some q =>
    obtain ⟨n, z⟩ := q
    obtain ⟨z1, z2, z3, _, _⟩ := dv_ok hdv
    simp only
    rw [show ((z : Int) == 0) = false by simp; omega, show IntKind.i64.wrap ((i : Int) + (z : Int)) = ((i + z : Nat) : Int) by rw [wid (by omega) (by omega)]; omega]
    exact Ev.pure _
def endI (i : Nat) : Option Nat → Int
  | some m => ((i + m : Nat) : Int)
  | none => -1
theorem iTermL (s : List UInt8) (d : Nat) (hd : d ≤ 100) (a2 : Int) (ha2 : IntKind.i64.wrap (a2 - 1) = (d : Int)) (n : Nat) (hn : n ≤ 12) (hs : s.length ≤ 1048576) : ∀ (m j : Nat) (cl : Nat → List UInt8 → Int → Int → Option Int) (p : Nat), j + m = n → p ≤ s.length →
    (∀ i, i ≤ s.length → Ev (fun k => cl k s (i : Int) (d : Int)) (endI i (tm d (s.drop i)))) →
    Ev (fun k => Fimpl_termAt.l4 (cl k) k s a2 (n : Int) (p : Int) (j : Int)) (endI p (tmsOf (tm d) m (s.drop p))) := by
  intro m
  induction m with
  | zero =>
    intro j cl p hj hp hcl
    refine Ev.succ ?_
    simp only [Fimpl_termAt.l4]
    rw [decide_eq_false (by omega)]
    exact Ev.pure _
  | succ m ih =>
    intro j cl p hj hp hcl
    refine Ev.succ ?_
    simp only [Fimpl_termAt.l4]
    rw [decide_eq_true (p := (j : Int) < (n : Int)) (by omega), decide_eq_true (p := (p : Int) ≥ 0) (by omega)]
    simp only [cond_true, ha2]
    refine Ev.bind (hcl p hp).shift ?_
    cases ht : tm d (s.drop p) with
    | none =>
      simp only [endI]
      refine Ev.succ ?_
      simp only [Fimpl_termAt.l4]
      refine Ev.ite (fun _ => ?_) (fun _ => (Ev.pure _).to ?_)
      · rw [decide_eq_false (by omega)]
        refine (Ev.pure _).to ?_
        simp [tmsOf, ht]
      · simp [tmsOf, ht]
    | some q =>
      obtain ⟨q0, q1⟩ := tm_le d _ _ ht
      rw [List.length_drop] at q1
      simp only [endI]
      rw [wid1 (by omega)]
      refine (ih (j + 1) (fun k => cl (k + 1)) (p + q) (by omega) (by omega) (fun i hi => (hcl i hi).shift)).to ?_
      simp only [tmsOf, ht]
      rw [List.drop_drop]
      cases tmsOf (tm d) m (s.drop (p + q)) with
      | none => rfl
      | some q2 => simp only [endI]; omega
theorem iKey (k : Nat) (n : Int) : Fimpl_isKey k n = some (isIn n 1 1000000) := by
  simp only [Fimpl_isKey, iIn, Option.bind_some]
theorem iTerm (s : List UInt8) (hs : s.length ≤ 1048576) : ∀ (d : Nat) (i : Nat), d ≤ 100 → i ≤ s.length → Ev (fun k => Fimpl_termAt k s (i : Int) (d : Int)) (endI i (tm d (s.drop i))) := by
  intro d
  induction d with
  | zero =>
    intro i _ hi
    refine Ev.succ ?_
    simp only [Fimpl_termAt]
    refine Ev.ite (fun _ => (Ev.pure _).to (by simp [tm, endI])) (fun _ => ?_)
    rw [decide_eq_true (by omega)]
    exact (Ev.pure _).to (by simp [tm, endI])
  | succ d ih =>
    intro i hd hi
    refine Ev.succ ?_
    simp only [Fimpl_termAt]
    by_cases hl : i < s.length
    · obtain ⟨c, t, hct⟩ := drop_cons_ex hl
      obtain ⟨hc, ht, _⟩ := at?_drop hct
      have htl : t.length = s.length - (i + 1) := by rw [← ht, List.length_drop]
      rw [decide_eq_false (p := (i : Int) ≥ (s.length : Int)) (by omega), decide_eq_false (p := ((d + 1 : Nat) : Int) < 1) (by omega), wid1 (by omega)]
      simp only [cond_false]
      refine Ev.bind (iVarAt s hs (i + 1) (by omega)) ?_
      refine Ev.at? hc ?_
      rw [ht, hct]
      simp only [iIn, iKey, Option.bind_some]
      have e3 : IntKind.i64.wrap (((d + 1 : Nat) : Int) - 1) = (d : Int) := by rw [wid (by omega) (by omega)]; omega
      cases hdv : dv 7 t with
      | none =>
        simp only [tm, hdv, show isIn (-1) 0 40 = false from rfl, show isIn (-1) 1 1000000 = false from rfl, show isIn (-1) 0 12 = false from rfl, Bool.not_false, cond_true]
        refine Ev.ite (fun _ => Ev.pure _) (fun _ => Ev.ite (fun _ => Ev.pure _) (fun _ => Ev.ite (fun _ => Ev.pure _) (fun _ => Ev.ite (fun _ => Ev.pure _) (fun _ => Ev.pure _))))
      | some q =>
        obtain ⟨n, z⟩ := q
        obtain ⟨z1, z2, z3, _, zn⟩ := dv_ok hdv
        have hn : n < 562949953421312 := Nat.lt_of_lt_of_le zn (by have := Nat.pow_le_pow_right (n := 128) (by omega) z2; omega)
        simp only [tm, hdv]
        have e4 : IntKind.i64.wrap ((s.length : Int) - ((i + 1 + z : Nat) : Int)) = ((s.length - (i + 1 + z) : Nat) : Int) := by rw [wid (by omega) (by omega)]; omega
        have ed : t.drop z = s.drop (i + 1 + z) := by rw [← ht, List.drop_drop]
        rw [e3, e4]
        refine Ev.ite (fun ha => ?_) (fun ha => ?_)
        · have ha := eq_of_beq ha
          rw [if_pos ha]
          simp only [isIn]
          refine Ev.ite (fun h1 => (Ev.pure _).to ?_) (fun h1 => ?_)
          · rw [if_neg (fun h => by rw [decide_eq_true (by omega)] at h1; cases h1)]; rfl
          · have h1 := of_decide_eq_true (by simpa using h1 : decide ((0 : Int) ≤ (n : Int) ∧ (n : Int) ≤ 40) = true)
            refine Ev.ite (fun h2 => (Ev.pure _).to ?_) (fun h2 => (Ev.pure _).to ?_)
            · have := of_decide_eq_true h2
              rw [if_neg (by omega)]; rfl
            · have := of_decide_eq_false h2
              rw [if_pos (by omega)]
              simp only [endI]
              rw [wid (by omega) (by omega)]; omega
        rw [if_neg (fun e => by rw [e] at ha; simp at ha)]
        refine Ev.ite (fun hk => ?_) (fun hk => ?_)
        · have hk := eq_of_beq hk
          rw [if_pos hk]
          simp only [isIn]
          refine Ev.ite (fun h1 => (Ev.pure _).to ?_) (fun h1 => (Ev.pure _).to ?_)
          · rw [if_neg (fun h => by rw [decide_eq_true (by omega)] at h1; cases h1)]; rfl
          · have := of_decide_eq_true (by simpa using h1 : decide ((1 : Int) ≤ (n : Int) ∧ (n : Int) ≤ 1000000) = true)
            rw [if_pos (by omega)]; simp only [endI]; omega
        rw [if_neg (fun e => by rw [e] at hk; simp at hk)]
        have swap : ∀ (x y : Option Nat), (if c = 115 then x else if c = 108 then y else none) = (if c = 108 then y else if c = 115 then x else none) := by
          intro x y
          by_cases h1 : c = 115
          · subst h1; rfl
          · rw [if_neg h1, if_neg h1]
        rw [swap]
        refine Ev.ite (fun hli => ?_) (fun hli => ?_)
        · have hli := eq_of_beq hli
          rw [if_pos hli, ed]
          simp only [isIn]
          refine Ev.ite (fun h1 => (Ev.pure _).to ?_) (fun h1 => ?_)
          · rw [if_neg (fun h => by rw [decide_eq_true (by omega)] at h1; cases h1)]; rfl
          · have h1 := of_decide_eq_true (by simpa using h1 : decide ((0 : Int) ≤ (n : Int) ∧ (n : Int) ≤ 12) = true)
            rw [if_pos (by omega)]
            refine (iTermL s d (by omega) ((d + 1 : Nat) : Int) e3 n (by omega) hs n 0 (fun k => Fimpl_termAt k) (i + 1 + z) (by omega) (by omega) (fun j hj => ih j (by omega) hj)).to ?_
            cases tmsOf (tm d) n (s.drop (i + 1 + z)) with
            | none => rfl
            | some q => simp only [endI]; omega
        rw [if_neg (fun e => by rw [e] at hli; simp at hli)]
        refine Ev.ite (fun hss => ?_) (fun hss => ?_)
        · have hss := eq_of_beq hss
          rw [if_pos hss, ed]
          simp only [isIn]
          refine Ev.ite (fun h1 => (Ev.pure _).to ?_) (fun h1 => ?_)
          · rw [if_neg (fun h => by rw [decide_eq_true (by omega)] at h1; cases h1)]; rfl
          · have := of_decide_eq_true (by simpa using h1 : decide ((1 : Int) ≤ (n : Int) ∧ (n : Int) ≤ 1000000) = true)
            rw [if_pos (by omega)]
            refine Ev.bind (ih (i + 1 + z) (by omega) (by omega)) ((Ev.pure _).to ?_)
            cases tm d (s.drop (i + 1 + z)) with
            | none => rfl
            | some q => simp only [endI]; omega
        · rw [if_neg (fun e => by rw [e] at hss; simp at hss)]
          exact Ev.pure _
    · rw [decide_eq_true (p := (i : Int) ≥ (s.length : Int)) (by omega)]
      refine (Ev.pure _).to ?_
      have : s.drop i = [] := List.drop_of_length_le (by omega)
      rw [this]; simp [tm, endI]
theorem iTermOk (s : List UInt8) (hs : s.length ≤ 1048576) : Ev (fun k => Fimpl_TermOk k s) (tmOk s) := by
  simp only [Fimpl_TermOk, iIn, Option.bind_some]
  refine Ev.ite (fun h => ?_) (fun h => (Ev.pure _).to ?_)
  · have h := of_decide_eq_true (by simpa [isIn] using h : decide ((1 : Int) ≤ (s.length : Int) ∧ (s.length : Int) ≤ 900) = true)
    refine Ev.bind (iTerm s hs 8 0 (by omega) (by omega)) ((Ev.pure _).to ?_)
    rw [List.drop_zero]
    unfold tmOk
    cases ht : tm 8 s with
    | none =>
      simp only [endI]
      exact beq_eq_false_iff_ne.2 (by omega)
    | some m =>
      simp only [endI, Nat.zero_add]
      by_cases e : m = s.length
      · rw [e, decide_eq_true (by omega)]; simp
      · rw [decide_eq_false (by omega)]; exact beq_eq_false_iff_ne.2 (by omega)
  · unfold tmOk
    cases ht : tm 8 s with
    | none => rfl
    | some m =>
      obtain ⟨h0, h1⟩ := tm_le 8 s m ht
      simp only
      rw [decide_eq_false (fun h2 => by unfold isIn at h; rw [decide_eq_true (by omega)] at h; cases h)]
def okT (s : List UInt8) : List UInt8 := if tmOk s then s else []
theorem sOk (s : List UInt8) (hs : s.length ≤ 1048576) : Ev (fun k => Fspec_l2Ok k s) (okT s) := by
  simp only [Fspec_l2Ok]
  refine Ev.bind (sTermOk s hs) ?_
  unfold okT
  cases tmOk s <;> exact Ev.pure _
theorem iOk (s : List UInt8) (hs : s.length ≤ 1048576) : Ev (fun k => Fimpl_term k s) (okT s) := by
  simp only [Fimpl_term]
  refine Ev.bind (iTermOk s hs) ?_
  unfold okT
  cases tmOk s <;> exact Ev.pure _
theorem tmOk_len {s : List UInt8} (h : tmOk s = true) : s.length ≤ 900 := by
  unfold tmOk at h
  split at h
  · have := of_decide_eq_true h; omega
  · cases h
theorem okT_len (s : List UInt8) : (okT s).length ≤ 900 := by
  unfold okT
  split
  · rename_i h; exact tmOk_len h
  · simp
def atomS (d : List UInt8) : List UInt8 := if d.length ≤ 40 then okT (97 :: (varE d.length ++ d)) else []
theorem atomS_len (d : List UInt8) : (atomS d).length ≤ 900 := by
  unfold atomS
  split
  · exact okT_len _
  · simp
theorem tmOk_nil : tmOk [] = false := by decide +kernel
theorem tmOk_big {d : List UInt8} (h : 40 < d.length) (h2 : d.length ≤ 1048576) : tmOk (97 :: (varE d.length ++ d)) = false := by
  unfold tmOk
  simp only [tm, varE_dv (f := 6) (n := d.length) (t := d) (by omega)]
  rw [if_pos trivial, if_neg (by omega)]
theorem sAtom (d : List UInt8) (hd : d.length ≤ 1000000) : Ev (fun k => Fspec_Atom k d) (atomS d) := by
  simp only [Fspec_Atom]
  unfold atomS
  refine Ev.ite (fun h => (Ev.pure _).to ?_) (fun h => ?_)
  · have := of_decide_eq_true h; rw [if_neg (by omega)]
  · have h := of_decide_eq_false h
    refine Ev.bind (sVar _) ?_
    rw [varI_nat _ (by omega), if_pos (by omega)]
    have hv := varE_len 6 d.length (by omega)
    rw [decide_eq_true (by simp; omega), decide_eq_true (by simp; omega)]
    refine Ev.bind (sOk _ (by simp; omega)) ((Ev.pure _).to ?_)
    simp
theorem iAtom (d : List UInt8) (hd : d.length ≤ 1000000) : Ev (fun k => Fimpl_Atom k d) (atomS d) := by
  simp only [Fimpl_Atom]
  unfold atomS
  refine Ev.bind (iVar _) ?_
  rw [varI_nat _ (by omega)]
  have hv := varE_len 6 d.length (by omega)
  rw [decide_eq_true (by simp; omega), decide_eq_true (by simp; omega)]
  refine Ev.bind (iOk _ (by simp; omega)) ((Ev.pure _).to ?_)
  have e : [97] ++ varE d.length ++ d = 97 :: (varE d.length ++ d) := by simp
  rw [e]
  split
  · rfl
  · rename_i h
    unfold okT
    rw [tmOk_big (by omega) (by omega)]; rfl
def numS (n : Int) : List UInt8 := if varI n = [] then [] else atomS (varI n)
theorem numS_len (n : Int) : (numS n).length ≤ 900 := by
  unfold numS
  split
  · simp
  · exact atomS_len _
theorem sNum (n : Int) : Ev (fun k => Fspec_Num k n) (numS n) := by
  simp only [Fspec_Num]
  unfold numS
  refine Ev.bind (sVar n) (Ev.ite (fun h => (Ev.pure _).to ?_) (fun h => ?_))
  · rw [if_pos (eq_of_beq h)]
  · rw [if_neg (fun e => by rw [e] at h; cases h)]
    exact Ev.bind (sAtom _ (by have := varI_len n; omega)) (Ev.pure _)
theorem iNum (n : Int) : Ev (fun k => Fimpl_Num k n) (numS n) := by
  simp only [Fimpl_Num]
  unfold numS
  refine Ev.bind (iVar n) (Ev.ite (fun h => (Ev.pure _).to ?_) (fun h => ?_))
  · rw [if_pos (eq_of_beq h)]
  · rw [if_neg (fun e => by rw [e] at h; cases h)]
    exact Ev.bind (iAtom _ (by have := varI_len n; omega)) (Ev.pure _)
def listS (ps : List (List UInt8)) : List UInt8 := if ps.length ≤ 12 ∧ ps.all tmOk = true then okT (108 :: (varE ps.length ++ ps.flatten)) else []
theorem listS_len (ps : List (List UInt8)) : (listS ps).length ≤ 900 := by
  unfold listS
  split
  · exact okT_len _
  · simp
theorem sListL (ps : List (List UInt8)) (hp : ∀ p ∈ ps, p.length ≤ 1048576) (hl : ps.length ≤ 12) (s0 : List UInt8) (h0 : s0.length ≤ 1000) : Ev (fun k => Fspec_List.l2 k ps s0 0) (if ps.all tmOk = true then okT (s0 ++ ps.flatten) else []) := by
  refine Ev.forI (xs := ps) (L := fun k s i => Fspec_List.l2 k ps s i) (f := fun l s => if l.all tmOk = true then okT (s ++ l.flatten) else []) (I := fun i s => s.length ≤ 1000 + 900 * i) (fun s hs => ?_) (fun i b s hb hi hs hr => ?_) s0 (by simpa using h0)
  · simp only [Fspec_List.l2, ltD0, cond_false]
    refine Ev.bind (sOk s (by have := hs; omega)) ((Ev.pure _).to (by simp))
  · simp only [Fspec_List.l2, ltD hi, cond_true]
    refine Ev.at? hb (Ev.bind (sTermOk b (hp b (List.mem_of_getElem? hb))) ?_)
    cases hk : tmOk b with
    | false => exact (Ev.pure _).to (by simp [hk])
    | true =>
      simp only [Bool.not_true, cond_false]
      have := tmOk_len hk
      refine Ev.at? hb ?_
      rw [decide_eq_true (by omega), wid1 (by omega)]
      simp only [cond_true]
      refine (hr (s ++ b) (by simp; omega)).to ?_
      simp [hk]
theorem sList (ps : List (List UInt8)) (hp : ∀ p ∈ ps, p.length ≤ 1048576) (hl : ps.length ≤ 1048576) : Ev (fun k => Fspec_List k ps) (listS ps) := by
  simp only [Fspec_List]
  unfold listS
  refine Ev.ite (fun h => (Ev.pure _).to ?_) (fun h => ?_)
  · have := of_decide_eq_true h; rw [if_neg (by omega)]
  · have h := of_decide_eq_false h
    refine Ev.bind (sVar _) ?_
    rw [varI_nat _ (by omega)]
    have hv := varE_len 6 ps.length (by omega)
    rw [decide_eq_true (by simp; omega)]
    refine (sListL ps hp (by omega) ([108] ++ varE ps.length) (by simp; omega)).to ?_
    by_cases ha : ps.all tmOk = true
    · rw [if_pos ha, if_pos ⟨by omega, ha⟩]; simp
    · rw [if_neg ha, if_neg (fun h => ha h.2)]
theorem iListL (ps : List (List UInt8)) (hp : ∀ p ∈ ps, p.length ≤ 1048576) (hl : ps.length ≤ 12) (s0 : List UInt8) (h0 : s0.length ≤ 1000) : Ev (fun k => Fimpl_List.l2 k s0 ps (ps.length : Int) 0) (if ps.all tmOk = true then okT (s0 ++ ps.flatten) else []) := by
  refine Ev.forI (xs := ps) (L := fun k s i => Fimpl_List.l2 k s ps (ps.length : Int) i) (f := fun l s => if l.all tmOk = true then okT (s ++ l.flatten) else []) (I := fun i s => s.length ≤ 1000 + 900 * i) (fun s hs => ?_) (fun i b s hb hi hs hr => ?_) s0 (by simpa using h0)
  · simp only [Fimpl_List.l2, ltD0, cond_false]
    refine Ev.bind (iOk s (by have := hs; omega)) ((Ev.pure _).to (by simp))
  · simp only [Fimpl_List.l2, ltD hi, cond_true]
    refine Ev.at? hb (Ev.bind (iTermOk b (hp b (List.mem_of_getElem? hb))) ?_)
    cases hk : tmOk b with
    | false => exact (Ev.pure _).to (by simp [hk])
    | true =>
      simp only [Bool.not_true, cond_false]
      have := tmOk_len hk
      rw [decide_eq_true (by omega), wid1 (by omega)]
      simp only [cond_true]
      refine (hr (s ++ b) (by simp; omega)).to ?_
      simp [hk]
/-- Too many parts: whatever they are, no term comes of them. -/
theorem iListMany (ps : List (List UInt8)) (hp : ∀ p ∈ ps, p.length ≤ 1048576) (hl : ps.length ≤ 1000) (h12 : 12 < ps.length) : Ev (fun k => Fimpl_List.l2 k ([108] ++ varE ps.length) ps (ps.length : Int) 0) [] := by
  have hv := varE_len 6 ps.length (by omega)
  refine Ev.forI (xs := ps) (L := fun k s i => Fimpl_List.l2 k s ps (ps.length : Int) i) (f := fun l s => []) (I := fun i s => s.length ≤ 1000 + 900 * i ∧ ∃ t, s = 108 :: (varE ps.length ++ t)) (fun s hs => ?_) (fun i b s hb hi hs hr => ?_) _ ⟨by simp; omega, [], by simp⟩
  · simp only [Fimpl_List.l2, ltD0, cond_false]
    obtain ⟨h1, t, rfl⟩ := hs
    refine Ev.bind (iOk _ (by omega)) ((Ev.pure _).to ?_)
    unfold okT
    have : tmOk (108 :: (varE ps.length ++ t)) = false := by
      unfold tmOk
      simp only [tm, varE_dv (f := 6) (n := ps.length) (t := t) (by omega)]
      rw [if_neg (by decide), if_neg (by decide), if_neg (by decide), if_pos trivial, if_neg (by omega)]
    rw [this]; rfl
  · simp only [Fimpl_List.l2, ltD hi, cond_true]
    obtain ⟨h1, t, rfl⟩ := hs
    refine Ev.at? hb (Ev.bind (iTermOk b (hp b (List.mem_of_getElem? hb))) ?_)
    cases hk : tmOk b with
    | false => exact Ev.pure _
    | true =>
      simp only [Bool.not_true, cond_false]
      have := tmOk_len hk
      rw [decide_eq_true (by omega), wid1 (by omega)]
      simp only [cond_true]
      exact hr _ ⟨by rw [List.length_append]; omega, t ++ b, by simp⟩
theorem iList (ps : List (List UInt8)) (hp : ∀ p ∈ ps, p.length ≤ 1048576) (hl : ps.length ≤ 1000) : Ev (fun k => Fimpl_List k ps) (listS ps) := by
  simp only [Fimpl_List]
  unfold listS
  refine Ev.bind (iVar _) ?_
  rw [varI_nat _ (by omega)]
  have hv := varE_len 6 ps.length (by omega)
  rw [decide_eq_true (by simp; omega)]
  simp only [cond_true]
  by_cases h : ps.length ≤ 12
  · refine (iListL ps hp h ([108] ++ varE ps.length) (by simp; omega)).to ?_
    by_cases ha : ps.all tmOk = true
    · rw [if_pos ha, if_pos ⟨by omega, ha⟩]; simp
    · rw [if_neg ha, if_neg (fun h => ha h.2)]
  · rw [if_neg (fun h2 => h h2.1)]
    exact iListMany ps hp hl (by omega)
def numsS (l : List Int) : List UInt8 := if l.all (fun n => numS n != []) = true then listS (l.map numS) else []
theorem numsS_len (l : List Int) : (numsS l).length ≤ 900 := by
  unfold numsS
  split
  · exact listS_len _
  · simp
theorem numsS_big {l : List Int} (h : 12 < l.length) : numsS l = [] := by
  unfold numsS listS
  split
  · rw [if_neg (fun h2 => by have := h2.1; simp at this; omega)]
  · rfl
theorem map_num_len {l : List Int} : ∀ p ∈ l.map numS, p.length ≤ 1048576 := by
  intro p hp
  obtain ⟨n, _, rfl⟩ := List.mem_map.1 hp
  have := numS_len n
  omega
theorem sNums (l : List Int) (hl : l.length ≤ 1048576) : Ev (fun k => Fspec_Nums k l) (numsS l) := by
  simp only [Fspec_Nums]
  have key : ∀ (m i : Nat), i + m = l.length → i ≤ 13 → (l.take i).all (fun n => numS n != []) = true → Ev (fun k => Fspec_Nums.l3 k l ((l.take i).map numS) (i : Int)) (numsS l) := by
    intro m
    induction m with
    | zero =>
      intro i hi h13 ha
      refine Ev.succ ?_
      simp only [Fspec_Nums.l3, Fspec_Nums.j2]
      rw [decide_eq_false (by omega)]
      simp only [cond_false]
      rw [List.take_of_length_le (by omega)] at ha ⊢
      refine Ev.bind (sList _ map_num_len (by simp; omega)) ((Ev.pure _).to ?_)
      unfold numsS; rw [if_pos ha]
    | succ m ih =>
      intro i hi h13 ha
      refine Ev.succ ?_
      simp only [Fspec_Nums.l3, Fspec_Nums.j2]
      rw [decide_eq_true (p := (i : Int) < (l.length : Int)) (by omega)]
      simp only [cond_true]
      obtain ⟨b, hb⟩ := atLt (xs := l) (i := i) (by omega)
      refine Ev.ite (fun h => ?_) (fun h => ?_)
      · have h := of_decide_eq_true h
        refine Ev.at? hb (Ev.bind (sNum b) (Ev.ite (fun he => (Ev.pure _).to ?_) (fun he => ?_)))
        · unfold numsS
          rw [if_neg]
          intro h2
          have := List.all_eq_true.1 h2 b (List.mem_of_getElem? hb)
          simp [eq_of_beq he] at this
        · rw [decide_eq_true (by simp; omega), wid1 (by omega)]
          simp only [cond_true]
          have e : (l.take i).map numS ++ [numS b] = (l.take (i + 1)).map numS := by rw [take_succ_get hb]; simp
          rw [e]
          refine ih (i + 1) (by omega) (by omega) ?_
          rw [take_succ_get hb, List.all_append, ha]
          simp only [List.all_cons, List.all_nil, Bool.and_true, Bool.true_and]
          unfold bne; rw [he]; rfl
      · have h := of_decide_eq_false h
        rw [numsS_big (by omega)]
        have hl13 : ((l.take i).map numS).length = i := by simp; omega
        refine Ev.bind (sList _ map_num_len (by omega)) ((Ev.pure _).to ?_)
        unfold listS
        rw [if_neg (fun h2 => by have := h2.1; omega)]
  exact key l.length 0 (by omega) (by omega) (by simp)
theorem iNums (l : List Int) (hl : l.length ≤ 1000) : Ev (fun k => Fimpl_Nums k l) (numsS l) := by
  simp only [Fimpl_Nums]
  have key : ∀ (m i : Nat), i + m = l.length → (l.take i).all (fun n => numS n != []) = true → Ev (fun k => Fimpl_Nums.l2 k ((l.take i).map numS) l (l.length : Int) (i : Int)) (numsS l) := by
    intro m
    induction m with
    | zero =>
      intro i hi ha
      refine Ev.succ ?_
      simp only [Fimpl_Nums.l2]
      rw [decide_eq_false (by omega)]
      simp only [cond_false]
      rw [List.take_of_length_le (by omega)] at ha ⊢
      refine Ev.bind (iList _ map_num_len (by simp; omega)) ((Ev.pure _).to ?_)
      unfold numsS; rw [if_pos ha]
    | succ m ih =>
      intro i hi ha
      refine Ev.succ ?_
      simp only [Fimpl_Nums.l2]
      rw [decide_eq_true (p := (i : Int) < (l.length : Int)) (by omega)]
      simp only [cond_true]
      obtain ⟨b, hb⟩ := atLt (xs := l) (i := i) (by omega)
      refine Ev.at? hb (Ev.bind (iNum b) (Ev.ite (fun he => (Ev.pure _).to ?_) (fun he => ?_)))
      · unfold numsS
        rw [if_neg]
        intro h2
        have := List.all_eq_true.1 h2 b (List.mem_of_getElem? hb)
        simp [eq_of_beq he] at this
      · rw [decide_eq_true (by simp; omega), wid1 (by omega)]
        simp only [cond_true]
        have e : (l.take i).map numS ++ [numS b] = (l.take (i + 1)).map numS := by rw [take_succ_get hb]; simp
        rw [e]
        refine ih (i + 1) (by omega) ?_
        rw [take_succ_get hb, List.all_append, ha]
        simp only [List.all_cons, List.all_nil, Bool.and_true, Bool.true_and]
        unfold bne; rw [he]; rfl
  exact key l.length 0 (by omega) (by simp)
theorem tmsOf_mono {f g : List UInt8 → Option Nat} (h : ∀ s m, f s = some m → g s = some m) : ∀ (n : Nat) (s : List UInt8) (m : Nat), tmsOf f n s = some m → tmsOf g n s = some m
  | 0, s, m, h1 => h1
  | n + 1, s, m, h1 => by
    simp only [tmsOf] at h1 ⊢
    split at h1
    · rename_i a ha
      rw [h s a ha]
      simp only
      split at h1
      · rename_i b hb
        rw [tmsOf_mono h n _ b hb]; exact h1
      · cases h1
    · cases h1
theorem tm_mono : ∀ (d : Nat) (s : List UInt8) (m : Nat), tm d s = some m → tm (d + 1) s = some m
  | 0, s, m, h => by simp [tm] at h
  | d + 1, [], m, h => by simp [tm] at h
  | d + 1, c :: s, m, h => by
    rw [tm] at h ⊢
    cases hd : dv 7 s with
    | none => rw [hd] at h; cases h
    | some p =>
      obtain ⟨n, z⟩ := p
      rw [hd] at h
      simp only at h ⊢
      by_cases h1 : c = 97
      · rw [if_pos h1] at h ⊢; exact h
      rw [if_neg h1] at h ⊢
      by_cases h2 : c = 107
      · rw [if_pos h2] at h ⊢; exact h
      rw [if_neg h2] at h ⊢
      by_cases h3 : c = 115
      · rw [if_pos h3] at h ⊢
        by_cases h5 : 1 ≤ n ∧ n ≤ 1000000
        · rw [if_pos h5] at h ⊢
          cases ht : tm d (s.drop z) with
          | none => rw [ht] at h; cases h
          | some q => rw [ht] at h; rw [tm_mono d _ q ht]; exact h
        · rw [if_neg h5] at h; cases h
      rw [if_neg h3] at h ⊢
      by_cases h4 : c = 108
      · rw [if_pos h4] at h ⊢
        by_cases h5 : n ≤ 12
        · rw [if_pos h5] at h ⊢
          cases ht : tmsOf (tm d) n (s.drop z) with
          | none => rw [ht] at h; cases h
          | some q => rw [ht] at h; rw [tmsOf_mono (tm_mono d) n _ q ht]; exact h
        · rw [if_neg h5] at h; cases h
      · rw [if_neg h4] at h; cases h
/-- The first parts of a text. -/
def partsF (f : List UInt8 → Option Nat) : Nat → List UInt8 → List (List UInt8)
  | 0, _ => []
  | n + 1, s => match f s with
    | some m => s.take m :: partsF f n (s.drop m)
    | none => []
theorem tmOk_cons {s : List UInt8} (h : tmOk s = true) : ∃ c t n z, s = c :: t ∧ dv 7 t = some (n, z) ∧ tm 8 s = some s.length ∧ s.length ≤ 900 := by
  unfold tmOk at h
  split at h
  · rename_i m hm
    have h := of_decide_eq_true h
    cases s with
    | nil => simp [tm] at hm
    | cons c t =>
      cases hd : dv 7 t with
      | none => rw [tm, hd] at hm; cases hm
      | some p => exact ⟨c, t, p.1, p.2, rfl, hd, by rw [hm, h.1], by omega⟩
  · cases h
/-- A list: how its parts follow. -/
theorem tmOk_list {t : List UInt8} {n z : Nat} (h : tmOk (108 :: t) = true) (hd : dv 7 t = some (n, z)) : n ≤ 12 ∧ tmsOf (tm 8) n (t.drop z) = some (t.length - z) := by
  obtain ⟨c, t', n', z', e, hd', hm, _⟩ := tmOk_cons h
  simp only [List.cons.injEq] at e
  obtain ⟨rfl, rfl⟩ := e
  rw [hd] at hd'
  simp only [Option.some.injEq, Prod.mk.injEq] at hd'
  obtain ⟨rfl, rfl⟩ := hd'
  rw [tm, hd] at hm
  simp only at hm
  rw [if_neg (by decide), if_neg (by decide), if_neg (by decide), if_pos trivial] at hm
  by_cases h5 : n ≤ 12
  · rw [if_pos h5] at hm
    refine ⟨h5, ?_⟩
    cases ht : tmsOf (tm 7) n (t.drop z) with
    | none => rw [ht] at hm; cases hm
    | some q =>
      rw [ht] at hm
      simp only [Option.some.injEq, List.length_cons] at hm
      rw [tmsOf_mono (tm_mono 7) n _ q ht]
      congr 1; omega
  · rw [if_neg h5] at hm; cases hm
def partsS (s : List UInt8) : List (List UInt8) × Bool :=
  if tmOk s = true then match s with
    | [] => ([], false)
    | c :: t => if c = 108 then match dv 7 t with
      | some (n, z) => (partsF (tm 8) n (t.drop z), true)
      | none => ([], false) else ([], false)
  else ([], false)
theorem sPartsL (s : List UInt8) (hs : s.length ≤ 1048576) : ∀ (m j n p q : Nat) (out : List (List UInt8)), j + m = n → n ≤ 12 → p ≤ s.length → out.length = j → tmsOf (tm 8) m (s.drop p) = some q → Ev (fun k => Fspec_Parts.l4 k s out (n : Int) (p : Int) (j : Int)) (out ++ partsF (tm 8) m (s.drop p), true) := by
  intro m
  induction m with
  | zero =>
    intro j n p q out hj hn hp ho ht
    refine Ev.succ ?_
    simp only [Fspec_Parts.l4]
    rw [decide_eq_false (by omega)]
    exact (Ev.pure _).to (by simp [partsF])
  | succ m ih =>
    intro j n p q out hj hn hp ho ht
    refine Ev.succ ?_
    simp only [Fspec_Parts.l4]
    rw [decide_eq_true (p := (j : Int) < (n : Int)) (by omega)]
    simp only [cond_true]
    simp only [tmsOf] at ht
    cases h1 : tm 8 (s.drop p) with
    | none => rw [h1] at ht; cases ht
    | some a =>
      rw [h1] at ht
      simp only at ht
      obtain ⟨a0, a1⟩ := tm_le 8 _ _ h1
      rw [List.length_drop] at a1
      refine EvP.ev (EvP.bind (sTerm s hs 8 p (by omega) hp) (fun r hr => ?_))
      rw [h1] at hr
      simp only [szI] at hr
      have e : IntKind.i64.wrap ((p : Int) + (a : Int)) = ((p + a : Nat) : Int) := by rw [wid (by omega) (by omega)]; omega
      rw [hr, e, cutN (by omega) (by omega), wid1 (by omega)]
      simp only [Option.bind_some]
      rw [decide_eq_true (by simp; omega)]
      simp only [cond_true]
      cases h2 : tmsOf (tm 8) m ((s.drop p).drop a) with
      | none => rw [h2] at ht; cases ht
      | some b =>
        rw [List.drop_drop] at h2
        refine (ih (j + 1) n (p + a) b _ (by omega) hn (by omega) (by simp; omega) h2).p ?_
        simp only [partsF, h1, List.drop_drop]
        rw [show p + a - p = a by omega]
        simp
theorem sParts (s : List UInt8) (hs : s.length ≤ 1048576) : Ev (fun k => Fspec_Parts k s) (partsS s) := by
  simp only [Fspec_Parts, Fspec_Parts.j2]
  refine Ev.bind (sTermOk s hs) ?_
  unfold partsS
  cases hk : tmOk s with
  | false => exact Ev.pure _
  | true =>
    obtain ⟨c, t, n, z, rfl, hd, hm, _⟩ := tmOk_cons hk
    simp only [Bool.not_true, cond_false, if_true]
    refine Ev.at? (i := 0) (b := c) rfl ?_
    refine Ev.ite (fun hc => (Ev.pure _).to ?_) (fun hc => ?_)
    · rw [if_neg (fun e => by rw [e] at hc; cases hc)]
    · have hc : c = 108 := by simpa using hc
      subst hc
      obtain ⟨h12, htm⟩ := tmOk_list hk hd
      obtain ⟨z1, z2, z3, _, _⟩ := dv_ok hd
      have hcut : cut? ((108 : UInt8) :: t) 1 (((108 : UInt8) :: t).length : Int) = some t := by
        have := cutEnd (xs := (108 : UInt8) :: t) (a := 1) (by simp)
        simpa using this
      rw [hcut, if_pos rfl, hd]
      simp only [Option.bind_some]
      refine Ev.bind (sReadVar t (by simp at hs; omega)) ?_
      simp only [rvP, hd]
      rw [show IntKind.i64.wrap (1 + (z : Int)) = ((1 + z : Nat) : Int) by rw [wid (by omega) (by omega)]; omega]
      have e : ((108 : UInt8) :: t).drop (1 + z) = t.drop z := by rw [Nat.add_comm]; rfl
      have := sPartsL (108 :: t) hs n 0 n (1 + z) (t.length - z) [] (by omega) h12 (by simp; omega) rfl (by rw [e]; exact htm)
      rw [e] at this
      exact this
theorem iIsOf (s : List UInt8) (hs : s.length ≤ 1048576) (c : UInt8) : Ev (fun k => Fimpl_isOf k s c) (tmOk s && s.head? == some c) := by
  simp only [Fimpl_isOf]
  refine Ev.bind (iTermOk s hs) ?_
  cases hk : tmOk s with
  | false => exact Ev.pure _
  | true =>
    obtain ⟨x, t, n, z, rfl, _, _, _⟩ := tmOk_cons hk
    simp only [cond_true]
    refine Ev.at? (i := 0) (b := x) rfl ((Ev.pure _).to ?_)
    simp
theorem iPartsL (s : List UInt8) (hs : s.length ≤ 1048576) : ∀ (m j n p q : Nat) (out : List (List UInt8)), j + m = n → n ≤ 12 → p ≤ s.length → out.length = j → tmsOf (tm 8) m (s.drop p) = some q → Ev (fun k => Fimpl_Parts.l2 k s (p : Int) out (n : Int) (j : Int)) (out ++ partsF (tm 8) m (s.drop p), true) := by
  intro m
  induction m with
  | zero =>
    intro j n p q out hj hn hp ho ht
    refine Ev.succ ?_
    simp only [Fimpl_Parts.l2]
    rw [decide_eq_false (by omega)]
    exact (Ev.pure _).to (by simp [partsF])
  | succ m ih =>
    intro j n p q out hj hn hp ho ht
    refine Ev.succ ?_
    simp only [Fimpl_Parts.l2]
    rw [decide_eq_true (p := (j : Int) < (n : Int)) (by omega)]
    simp only [cond_true]
    simp only [tmsOf] at ht
    cases h1 : tm 8 (s.drop p) with
    | none => rw [h1] at ht; cases ht
    | some a =>
      rw [h1] at ht
      simp only at ht
      obtain ⟨a0, a1⟩ := tm_le 8 _ _ h1
      rw [List.length_drop] at a1
      refine Ev.bind (iTerm s hs 8 p (by omega) hp) ?_
      rw [h1]
      simp only [endI]
      rw [cutN (by omega) (by omega), wid1 (by omega)]
      simp only [Option.bind_some]
      rw [decide_eq_true (by simp; omega)]
      simp only [cond_true]
      cases h2 : tmsOf (tm 8) m ((s.drop p).drop a) with
      | none => rw [h2] at ht; cases ht
      | some b =>
        rw [List.drop_drop] at h2
        refine (ih (j + 1) n (p + a) b _ (by omega) hn (by omega) (by simp; omega) h2).to ?_
        simp only [partsF, h1, List.drop_drop]
        rw [show p + a - p = a by omega]
        simp
theorem iParts (s : List UInt8) (hs : s.length ≤ 1048576) : Ev (fun k => Fimpl_Parts k s) (partsS s) := by
  simp only [Fimpl_Parts]
  refine Ev.bind (iIsOf s hs 108) ?_
  unfold partsS
  cases hk : tmOk s with
  | false => exact Ev.pure _
  | true =>
    obtain ⟨c, t, n, z, rfl, hd, hm, _⟩ := tmOk_cons hk
    simp only [if_true, Bool.true_and, List.head?_cons]
    refine Ev.ite (fun hc => (Ev.pure _).to ?_) (fun hc => ?_)
    · rw [if_neg (fun e => by rw [e] at hc; simp at hc)]
    · have hc : c = 108 := by simpa using hc
      subst hc
      obtain ⟨h12, htm⟩ := tmOk_list hk hd
      obtain ⟨z1, z2, z3, _, _⟩ := dv_ok hd
      have hv := iVarAt ((108 : UInt8) :: t) hs 1 (by simp)
      refine Ev.bind hv ?_
      rw [show ((108 : UInt8) :: t).drop 1 = t from rfl, hd, if_pos rfl]
      simp only
      have e : ((108 : UInt8) :: t).drop (1 + z) = t.drop z := by rw [Nat.add_comm]; rfl
      have := iPartsL (108 :: t) hs n 0 n (1 + z) (t.length - z) [] (by omega) h12 (by simp; omega) rfl (by rw [e]; exact htm)
      rw [e] at this
      exact this
theorem partsF_len (f : List UInt8 → Option Nat) : ∀ (n : Nat) (s : List UInt8), (partsF f n s).length ≤ n ∧ ∀ p ∈ partsF f n s, p.length ≤ s.length
  | 0, s => by simp [partsF]
  | n + 1, s => by
    simp only [partsF]
    split
    · rename_i m _
      obtain ⟨h1, h2⟩ := partsF_len f n (s.drop m)
      refine ⟨by simp; omega, fun p hp => ?_⟩
      rcases List.mem_cons.1 hp with rfl | hp
      · rw [List.length_take]; omega
      · have := h2 p hp; rw [List.length_drop] at this; omega
    · simp
theorem partsS_len (s : List UInt8) : (partsS s).1.length ≤ 12 ∧ ∀ p ∈ (partsS s).1, p.length ≤ 900 := by
  unfold partsS
  by_cases hk : tmOk s = true
  · rw [if_pos hk]
    obtain ⟨c, t, n, z, rfl, hd, hm, hl⟩ := tmOk_cons hk
    simp only
    by_cases hc : c = 108
    · subst hc
      rw [if_pos rfl, hd]
      obtain ⟨h12, _⟩ := tmOk_list hk hd
      obtain ⟨h1, h2⟩ := partsF_len (tm 8) n (t.drop z)
      refine ⟨by simp only; omega, fun p hp => ?_⟩
      have := h2 p hp
      rw [List.length_drop] at this
      simp at hl
      omega
    · rw [if_neg hc]; simp
  · rw [if_neg hk]; simp
def readAtomS (s : List UInt8) : List UInt8 × Bool :=
  if tmOk s = true then match s with
    | [] => ([], false)
    | c :: t => if c = 97 then match dv 7 t with
      | some (_, z) => (t.drop z, true)
      | none => ([], false) else ([], false)
  else ([], false)
theorem readAtomS_len (s : List UInt8) : (readAtomS s).1.length ≤ s.length := by
  unfold readAtomS
  split
  · split
    · simp
    · split
      · split
        · simp; omega
        · simp
      · simp
  · simp
theorem sReadAtom (s : List UInt8) (hs : s.length ≤ 1048576) : Ev (fun k => Fspec_ReadAtom k s) (readAtomS s) := by
  simp only [Fspec_ReadAtom]
  refine Ev.bind (sTermOk s hs) ?_
  unfold readAtomS
  cases hk : tmOk s with
  | false => exact Ev.pure _
  | true =>
    obtain ⟨c, t, n, z, rfl, hd, hm, _⟩ := tmOk_cons hk
    simp only [Bool.not_true, cond_false, if_true]
    refine Ev.at? (i := 0) (b := c) rfl ?_
    refine Ev.ite (fun hc => (Ev.pure _).to ?_) (fun hc => ?_)
    · rw [if_neg (fun e => by rw [e] at hc; cases hc)]
    · have hc : c = 97 := by simpa using hc
      subst hc
      obtain ⟨z1, z2, z3, _, _⟩ := dv_ok hd
      have hcut : cut? ((97 : UInt8) :: t) 1 (((97 : UInt8) :: t).length : Int) = some t := by
        have := cutEnd (xs := (97 : UInt8) :: t) (a := 1) (by simp)
        simpa using this
      rw [hcut, if_pos rfl, hd]
      simp only [Option.bind_some]
      refine Ev.bind (sReadVar t (by simp at hs; omega)) ?_
      simp only [rvP, hd]
      rw [show IntKind.i64.wrap (1 + (z : Int)) = ((1 + z : Nat) : Int) by rw [wid (by omega) (by omega)]; omega, cutEnd (by simp; omega)]
      refine (Ev.pure _).to ?_
      have e : ((97 : UInt8) :: t).drop (1 + z) = t.drop z := by rw [Nat.add_comm]; rfl
      rw [e]
theorem iReadAtom (s : List UInt8) (hs : s.length ≤ 1048576) : Ev (fun k => Fimpl_ReadAtom k s) (readAtomS s) := by
  simp only [Fimpl_ReadAtom]
  refine Ev.bind (iIsOf s hs 97) ?_
  unfold readAtomS
  cases hk : tmOk s with
  | false => exact Ev.pure _
  | true =>
    obtain ⟨c, t, n, z, rfl, hd, hm, _⟩ := tmOk_cons hk
    simp only [if_true, Bool.true_and, List.head?_cons]
    refine Ev.ite (fun hc => (Ev.pure _).to ?_) (fun hc => ?_)
    · rw [if_neg (fun e => by rw [e] at hc; simp at hc)]
    · have hc : c = 97 := by simpa using hc
      subst hc
      obtain ⟨z1, z2, z3, _, _⟩ := dv_ok hd
      refine Ev.bind (iVarAt ((97 : UInt8) :: t) hs 1 (by simp)) ?_
      rw [show ((97 : UInt8) :: t).drop 1 = t from rfl, hd, if_pos rfl]
      simp only
      rw [cutEnd (by simp; omega)]
      refine (Ev.pure _).to ?_
      have e : ((97 : UInt8) :: t).drop (1 + z) = t.drop z := by rw [Nat.add_comm]; rfl
      rw [e]
def readNumS (s : List UInt8) : Int × Bool := if (readAtomS s).2 = true ∧ (rvP (readAtomS s).1).2 ≠ 0 ∧ (rvP (readAtomS s).1).2 = ((readAtomS s).1.length : Int) then ((rvP (readAtomS s).1).1, true) else (0, false)
theorem sReadNum (s : List UInt8) (hs : s.length ≤ 1048576) : Ev (fun k => Fspec_ReadNum k s) (readNumS s) := by
  simp only [Fspec_ReadNum]
  have hl := readAtomS_len s
  refine Ev.bind (sReadAtom s hs) (Ev.bind (sReadVar _ (by omega)) ?_)
  unfold readNumS
  refine Ev.ite (fun h => (Ev.pure _).to ?_) (fun h => Ev.ite (fun h2 => (Ev.pure _).to ?_) (fun h2 => Ev.ite (fun h3 => (Ev.pure _).to ?_) (fun h3 => (Ev.pure _).to ?_)))
  · rw [if_neg (fun e => by rw [e.1] at h; cases h)]
  · rw [if_neg (fun e => e.2.1 (by simpa using h2))]
  · rw [if_neg (fun e => by rw [e.2.2] at h3; simp at h3)]
  · rw [if_pos ⟨by simpa using h, by simpa using h2, by simpa using h3⟩]
theorem iReadNum (s : List UInt8) (hs : s.length ≤ 1048576) : Ev (fun k => Fimpl_ReadNum k s) (readNumS s) := by
  simp only [Fimpl_ReadNum]
  have hl := readAtomS_len s
  refine Ev.bind (iReadAtom s hs) (Ev.bind (iReadVar _ (by omega)) ?_)
  unfold readNumS
  refine Ev.ite (fun h => (Ev.pure _).to ?_) (fun h => Ev.ite (fun h2 => (Ev.pure _).to ?_) (fun h2 => Ev.ite (fun h3 => (Ev.pure _).to ?_) (fun h3 => (Ev.pure _).to ?_)))
  · rw [if_neg (fun e => by rw [e.1] at h; cases h)]
  · rw [if_neg (fun e => e.2.1 (by simpa using h2))]
  · rw [if_neg (fun e => by rw [e.2.2] at h3; simp at h3)]
  · rw [if_pos ⟨by simpa using h, by simpa using h2, by simpa using h3⟩]
def readNumsS (s : List UInt8) : List Int × Bool := if (partsS s).2 = true ∧ (partsS s).1.all (fun p => (readNumS p).2) = true then ((partsS s).1.map (fun p => (readNumS p).1), true) else ([], false)
theorem readNumsS_nil {s : List UInt8} (h : (readNumsS s).2 = false) : (readNumsS s).1 = [] := by
  unfold readNumsS at h ⊢
  split at h
  · cases h
  · rename_i h2; rw [if_neg h2]
theorem sReadNums (s : List UInt8) (hs : s.length ≤ 1048576) : Ev (fun k => Fspec_ReadNums k s) (readNumsS s) := by
  simp only [Fspec_ReadNums]
  refine Ev.bind (sParts s hs) ?_
  obtain ⟨pl, pe⟩ := partsS_len s
  unfold readNumsS
  generalize (partsS s).2 = ok
  generalize (partsS s).1 = ps at pl pe
  refine (Ev.forI (xs := ps) (L := fun k (st : List Int × Bool) i => Fspec_ReadNums.l12 k st.1 ps st.2 i) (f := fun l st => if st.2 = true ∧ l.all (fun p => (readNumS p).2) = true then (st.1 ++ l.map (fun p => (readNumS p).1), true) else ([], false)) (I := fun i st => st.1.length = i) (fun st hst => ?_) (fun i b st hb hi hst hr => ?_) ([], ok) rfl).to (by simp)
  · simp only [Fspec_ReadNums.l12, ltD0, cond_false]
    cases h : st.2 with
    | false => exact (Ev.pure _).to (by simp)
    | true => exact (Ev.pure _).to (by simp)
  · simp only [Fspec_ReadNums.l12, Fspec_ReadNums.j14, ltD hi, cond_true]
    refine Ev.at? hb (Ev.bind (sReadNum b (by have := pe b (List.mem_of_getElem? hb); omega)) ?_)
    rw [decide_eq_true (by simp; omega), wid1 (by omega)]
    simp only [cond_true]
    refine Ev.ite (fun h => ?_) (fun h => ?_)
    · refine (hr (st.1 ++ [(readNumS b).1], (readNumS b).2) (by simp [hst])).to ?_
      simp [h]
    · refine (hr (st.1 ++ [(readNumS b).1], false) (by simp [hst])).to ?_
      simp [h]
theorem iReadNums (s : List UInt8) (hs : s.length ≤ 1048576) : Ev (fun k => Fimpl_ReadNums k s) (readNumsS s) := by
  simp only [Fimpl_ReadNums]
  refine Ev.bind (iParts s hs) ?_
  obtain ⟨pl, pe⟩ := partsS_len s
  unfold readNumsS
  generalize (partsS s).2 = ok
  generalize (partsS s).1 = ps at pl pe
  refine Ev.ite (fun h => (Ev.pure _).to ?_) (fun h => ?_)
  · rw [if_neg (fun e => by rw [e.1] at h; cases h)]
  · have hok : ok = true := by simpa using h
    subst hok
    refine (Ev.forI (xs := ps) (L := fun k (st : List Int) i => Fimpl_ReadNums.l2 k st ps (ps.length : Int) i) (f := fun l st => if l.all (fun p => (readNumS p).2) = true then (st ++ l.map (fun p => (readNumS p).1), true) else ([], false)) (I := fun i st => st.length = i) (fun st hst => ?_) (fun i b st hb hi hst hr => ?_) [] rfl).to (by simp)
    · simp only [Fimpl_ReadNums.l2, ltD0, cond_false]
      exact (Ev.pure _).to (by simp)
    · simp only [Fimpl_ReadNums.l2, ltD hi, cond_true]
      refine Ev.at? hb (Ev.bind (iReadNum b (by have := pe b (List.mem_of_getElem? hb); omega)) ?_)
      rw [decide_eq_true (by simp; omega), wid1 (by omega)]
      simp only [cond_true]
      cases h : (readNumS b).2 with
      | false => exact (Ev.pure _).to (by simp [h])
      | true =>
        refine (hr (st ++ [(readNumS b).1]) (by simp [hst])).to ?_
        simp [h]
theorem dv_agree {x y : List UInt8} {n z : Nat} (h : dv 7 x = some (n, z)) (e : y.take z = x.take z) : dv 7 y = some (n, z) := by
  obtain ⟨h1, h2, h3, h4, h5⟩ := dv_ok h
  have hn : n < 128 ^ (6 + 1) := Nat.lt_of_lt_of_le h5 (Nat.pow_le_pow_right (by omega) h2)
  have hl : (varE n).length = z := by rw [← h4, List.length_take]; omega
  have := varE_dv (f := 6) (n := n) (t := y.drop z) hn
  rw [← h4, ← e, List.take_append_drop] at this
  rw [this, e, h4, hl]
theorem drop_take_eq {α : Type} {x y : List α} {z q m : Nat} (e : y.take m = x.take m) (h : z + q = m) : (y.drop z).take q = (x.drop z).take q := by
  subst h
  have := congrArg (List.drop z) e
  rw [List.drop_take, List.drop_take] at this
  simpa using this
theorem tmsOf_agree {f : List UInt8 → Option Nat} (hf : ∀ x y m, f x = some m → y.take m = x.take m → f y = some m) : ∀ (n : Nat) (x y : List UInt8) (m : Nat), tmsOf f n x = some m → y.take m = x.take m → tmsOf f n y = some m
  | 0, x, y, m, h, e => h
  | n + 1, x, y, m, h, e => by
    simp only [tmsOf] at h ⊢
    cases h1 : f x with
    | none => rw [h1] at h; cases h
    | some a =>
      rw [h1] at h
      simp only at h
      cases h2 : tmsOf f n (x.drop a) with
      | none => rw [h2] at h; cases h
      | some b =>
        rw [h2] at h
        simp only [Option.some.injEq] at h
        have e1 : y.take a = x.take a := by
          have := congrArg (List.take a) e
          rw [List.take_take, List.take_take, Nat.min_eq_left (by omega)] at this
          exact this
        rw [hf x y a h1 e1]
        simp only
        rw [tmsOf_agree hf n _ (y.drop a) b h2 (drop_take_eq e (by omega))]
        simp only [Option.some.injEq]; omega
theorem tm_agree : ∀ (d : Nat) (x y : List UInt8) (m : Nat), tm d x = some m → y.take m = x.take m → tm d y = some m
  | 0, x, y, m, h, e => by simp [tm] at h
  | d + 1, [], y, m, h, e => by simp [tm] at h
  | d + 1, c :: s, y, m, h, e => by
    obtain ⟨m0, m1⟩ := tm_le _ _ _ h
    obtain ⟨m, rfl⟩ : ∃ j, m = j + 1 := ⟨m - 1, by omega⟩
    cases y with
    | nil => simp at e
    | cons c' y =>
      simp only [List.take_succ_cons, List.cons.injEq] at e
      obtain ⟨rfl, e⟩ := e
      rw [tm] at h ⊢
      have tk : ∀ a, a ≤ m → y.take a = s.take a := fun a ha => by
        have := congrArg (List.take a) e
        rw [List.take_take, List.take_take, Nat.min_eq_left ha] at this
        exact this
      have hyl : m ≤ y.length := by
        have := congrArg List.length e
        simp only [List.length_take, List.length_cons] at this m1
        omega
      cases hd : dv 7 s with
      | none => rw [hd] at h; cases h
      | some p =>
        obtain ⟨n, z⟩ := p
        rw [hd] at h
        simp only at h
        have fin : z ≤ m → dv 7 y = some (n, z) := fun hz => dv_agree hd (tk z hz)
        by_cases h1 : c' = 97
        · rw [if_pos h1] at h
          by_cases h5 : n ≤ 40 ∧ z + n ≤ s.length
          · rw [if_pos h5] at h
            simp only [Option.some.injEq] at h
            rw [fin (by omega)]
            simp only
            rw [if_pos h1, if_pos (by omega)]; congr 1
          · rw [if_neg h5] at h; cases h
        rw [if_neg h1] at h
        by_cases h2 : c' = 107
        · rw [if_pos h2] at h
          by_cases h5 : 1 ≤ n ∧ n ≤ 1000000
          · rw [if_pos h5] at h
            simp only [Option.some.injEq] at h
            rw [fin (by omega)]
            simp only
            rw [if_neg h1, if_pos h2, if_pos h5]; congr 1
          · rw [if_neg h5] at h; cases h
        rw [if_neg h2] at h
        by_cases h3 : c' = 115
        · rw [if_pos h3] at h
          by_cases h5 : 1 ≤ n ∧ n ≤ 1000000
          · rw [if_pos h5] at h
            cases ht : tm d (s.drop z) with
            | none => rw [ht] at h; cases h
            | some q =>
              rw [ht] at h
              simp only [Option.some.injEq] at h
              rw [fin (by omega)]
              simp only
              rw [if_neg h1, if_neg h2, if_pos h3, if_pos h5, tm_agree d _ (y.drop z) q ht (drop_take_eq e (by omega))]
              simp only [Option.some.injEq]; omega
          · rw [if_neg h5] at h; cases h
        rw [if_neg h3] at h
        by_cases h4 : c' = 108
        · rw [if_pos h4] at h
          by_cases h5 : n ≤ 12
          · rw [if_pos h5] at h
            cases ht : tmsOf (tm d) n (s.drop z) with
            | none => rw [ht] at h; cases h
            | some q =>
              rw [ht] at h
              simp only [Option.some.injEq] at h
              rw [fin (by omega)]
              simp only
              rw [if_neg h1, if_neg h2, if_neg h3, if_pos h4, if_pos h5, tmsOf_agree (fun x y m => tm_agree d x y m) n _ (y.drop z) q ht (drop_take_eq e (by omega))]
              simp only [Option.some.injEq]; omega
          · rw [if_neg h5] at h; cases h
        · rw [if_neg h4] at h; cases h
theorem tm8 {s : List UInt8} (h : tmOk s = true) : tm 8 s = some s.length := by obtain ⟨_, _, _, _, _, _, h, _⟩ := tmOk_cons h; exact h
theorem tmOk_of {s : List UInt8} (h : tm 8 s = some s.length) (hl : s.length ≤ 900) : tmOk s = true := by
  unfold tmOk; rw [h]; exact decide_eq_true ⟨rfl, hl⟩
theorem tm_app {p r : List UInt8} (h : tmOk p = true) : tm 8 (p ++ r) = some p.length := tm_agree 8 p (p ++ r) _ (tm8 h) (by simp)
theorem okT_ne {s : List UInt8} (h : okT s ≠ []) : tmOk s = true ∧ okT s = s := by
  unfold okT at h ⊢
  split at h
  · rename_i h1; rw [if_pos h1]; exact ⟨h1, rfl⟩
  · exact absurd rfl h
theorem okT_ok {s : List UInt8} (h : tmOk s = true) : okT s = s := if_pos h
theorem tmOk_ne {s : List UInt8} (h : tmOk s = true) : s ≠ [] := fun e => by rw [e, tmOk_nil] at h; cases h
theorem readAtom_of {d : List UInt8} (h : atomS d ≠ []) : readAtomS (atomS d) = (d, true) := by
  unfold atomS at h ⊢
  by_cases hd : d.length ≤ 40
  · rw [if_pos hd] at h ⊢
    obtain ⟨h1, h2⟩ := okT_ne h
    rw [h2]
    unfold readAtomS
    rw [if_pos h1]
    simp only [if_true]
    rw [varE_dv (f := 6) (n := d.length) (t := d) (by omega)]
    simp
  · rw [if_neg hd] at h; exact absurd rfl h
theorem partsF_of : ∀ (ps : List (List UInt8)), ps.all tmOk = true → partsF (tm 8) ps.length ps.flatten = ps
  | [], _ => rfl
  | p :: ps, h => by
    simp only [List.all_cons, Bool.and_eq_true] at h
    simp only [List.length_cons, partsF, List.flatten_cons, tm_app h.1]
    rw [List.take_left' rfl, List.drop_left' rfl, partsF_of ps h.2]
theorem parts_of {ps : List (List UInt8)} (h : listS ps ≠ []) : partsS (listS ps) = (ps, true) := by
  unfold listS at h ⊢
  by_cases hc : ps.length ≤ 12 ∧ ps.all tmOk = true
  · rw [if_pos hc] at h ⊢
    obtain ⟨h1, h2⟩ := okT_ne h
    rw [h2]
    unfold partsS
    rw [if_pos h1]
    simp only [if_true]
    rw [varE_dv (f := 6) (n := ps.length) (t := ps.flatten) (by omega)]
    simp only
    rw [List.drop_left' rfl, partsF_of ps hc.2]
  · rw [if_neg hc] at h; exact absurd rfl h
theorem readNum_of {n : Int} (h : numS n ≠ []) : readNumS (numS n) = (n, true) := by
  unfold numS at h ⊢
  by_cases hv : varI n = []
  · rw [if_pos hv] at h; exact absurd rfl h
  · rw [if_neg hv] at h ⊢
    unfold readNumS
    rw [readAtom_of h]
    simp only [true_and]
    unfold varI at hv ⊢
    by_cases hn : 0 ≤ n ∧ n ≤ 562949953421311
    · rw [if_pos hn]
      have := rvP_var (n := n.toNat) (t := []) (by omega)
      rw [List.append_nil] at this
      rw [this]
      simp only
      have := varE_pos n.toNat
      rw [if_pos ⟨by omega, trivial⟩, Int.toNat_of_nonneg hn.1]
    · rw [if_neg hn] at hv; exact absurd rfl hv
theorem readNums_of {l : List Int} (h : numsS l ≠ []) : readNumsS (numsS l) = (l, true) := by
  unfold numsS at h ⊢
  by_cases hc : l.all (fun n => numS n != []) = true
  · rw [if_pos hc] at h ⊢
    unfold readNumsS
    rw [parts_of h]
    simp only [true_and]
    have hr : ∀ n ∈ l, readNumS (numS n) = (n, true) := fun n hn => readNum_of (by have := List.all_eq_true.1 hc n hn; simpa using this)
    rw [if_pos]
    · congr 1
      rw [List.map_map]
      have : ∀ n ∈ l, ((fun p => (readNumS p).1) ∘ numS) n = n := fun n hn => by simp only [Function.comp]; rw [hr n hn]
      rw [List.map_congr_left this]; simp
    · refine List.all_eq_true.2 fun p hp => ?_
      obtain ⟨n, hn, rfl⟩ := List.mem_map.1 hp
      rw [hr n hn]
  · rw [if_neg hc] at h; exact absurd rfl h
def tOk (a : Timpl_Times) : Bool := decide (0 ≤ a.Auth ∧ a.Auth ≤ a.Start ∧ a.Start ≤ a.End ∧ a.End ≤ a.Renew ∧ a.Renew ≤ 100000)
theorem sTimesOk (k : Nat) (a : Timpl_Times) : Fspec_TimesOk k a = some (tOk a) := by
  unfold Fspec_TimesOk tOk
  simp only [Bool.cond_decide]
  repeat' split
  all_goals
    refine congrArg some (Bool.eq_iff_iff.mpr ?_)
    simp only [decide_eq_true_eq, Bool.false_eq_true, false_iff]
    omega
theorem iTimesOk (k : Nat) (a : Timpl_Times) : Fimpl_TimesOk k a = some (tOk a) := sTimesOk k a
def showTimesS (a : Timpl_Times) : List UInt8 := if tOk a = true then numsS [a.Auth, a.Start, a.End, a.Renew] else []
theorem sShowTimes (a : Timpl_Times) : Ev (fun k => Fspec_ShowTimes k a) (showTimesS a) := by
  simp only [Fspec_ShowTimes, sTimesOk, Option.bind_some]
  unfold showTimesS
  cases tOk a
  · exact Ev.pure _
  · exact Ev.bind (sNums _ (by simp)) (Ev.pure _)
theorem iShowTimes (a : Timpl_Times) : Ev (fun k => Fimpl_ShowTimes k a) (showTimesS a) := by
  simp only [Fimpl_ShowTimes, iTimesOk, Option.bind_some]
  unfold showTimesS
  cases tOk a
  · exact Ev.pure _
  · exact Ev.bind (iNums _ (by simp)) (Ev.pure _)
def pick4 {α β : Type} (f : α → α → α → α → β) (e : β) : List α → β
  | [a, b, c, d] => f a b c d
  | _ => e
def readTimesS (s : List UInt8) : Timpl_Times × Bool := pick4 (fun a b c d => if showTimesS ⟨a, b, c, d⟩ = s then (⟨a, b, c, d⟩, true) else (⟨0, 0, 0, 0⟩, false)) (⟨0, 0, 0, 0⟩, false) (readNumsS s).1
theorem four {α : Type} {l : List α} (h : l.length = 4) : ∃ a b c d, l = [a, b, c, d] :=
  match l, h with
  | [a, b, c, d], _ => ⟨a, b, c, d, rfl⟩
theorem notFour {α β : Type} {f : α → α → α → α → β} {e : β} : ∀ {l : List α}, l.length ≠ 4 → pick4 f e l = e
  | [], _ => rfl
  | [_], _ => rfl
  | [_, _], _ => rfl
  | [_, _, _], _ => rfl
  | [_, _, _, _], h => absurd rfl h
  | _ :: _ :: _ :: _ :: _ :: _, _ => rfl
theorem sReadTimes (s : List UInt8) (hs : s.length ≤ 1048576) : Ev (fun k => Fspec_ReadTimes k s) (readTimesS s) := by
  simp only [Fspec_ReadTimes]
  refine Ev.bind (sReadNums s hs) ?_
  unfold readTimesS
  have fin : Ev (fun k => Fspec_ReadTimes.j2 k s (readNumsS s).1 (((readNumsS s).1.length : Int) != (4 : Int))) (pick4 (fun a b c d => if showTimesS ⟨a, b, c, d⟩ = s then (⟨a, b, c, d⟩, true) else (⟨0, 0, 0, 0⟩, false)) (⟨0, 0, 0, 0⟩, false) (readNumsS s).1) := by
    simp only [Fspec_ReadTimes.j2]
    by_cases h4 : (readNumsS s).1.length = 4
    · obtain ⟨a, b, c, d, h⟩ := four h4
      rw [h]
      simp only [pick4]
      refine Ev.ite (fun h => by cases h) (fun _ => ?_)
      refine Ev.at? (i := 0) (b := a) rfl (Ev.at? (i := 1) (b := b) rfl (Ev.at? (i := 2) (b := c) rfl (Ev.at? (i := 3) (b := d) rfl ?_)))
      refine Ev.bind (sShowTimes _) (Ev.ite (fun h => (Ev.pure _).to ?_) (fun h => (Ev.pure _).to ?_))
      · exact (if_neg (fun e => by rw [e] at h; simp at h)).symm
      · exact (if_pos (by simpa using h)).symm
    · rw [notFour h4, show (((readNumsS s).1.length : Int) != (4 : Int)) = true by simp; omega]
      exact Ev.pure _
  refine Ev.ite (fun h => ?_) (fun _ => fin)
  have hn := readNumsS_nil (s := s) (by simpa using h)
  simp only [Fspec_ReadTimes.j2]
  rw [hn]
  exact Ev.pure _
theorem iReadTimes (s : List UInt8) (hs : s.length ≤ 1048576) : Ev (fun k => Fimpl_ReadTimes k s) (readTimesS s) := by
  simp only [Fimpl_ReadTimes]
  refine Ev.bind (iReadNums s hs) ?_
  unfold readTimesS
  by_cases h4 : (readNumsS s).1.length = 4
  · obtain ⟨a, b, c, d, h⟩ := four h4
    rw [h]
    simp only [pick4]
    refine Ev.ite (fun h => by cases h) (fun _ => ?_)
    refine Ev.at? (i := 0) (b := a) rfl (Ev.at? (i := 1) (b := b) rfl (Ev.at? (i := 2) (b := c) rfl (Ev.at? (i := 3) (b := d) rfl ?_)))
    refine Ev.bind (iShowTimes _) (Ev.ite (fun h => (Ev.pure _).to ?_) (fun h => (Ev.pure _).to ?_))
    · exact (if_neg (fun e => by rw [e] at h; simp at h)).symm
    · exact (if_pos (by simpa using h)).symm
  · rw [notFour h4, show (((readNumsS s).1.length : Int) != (4 : Int)) = true by simp; omega]
    exact Ev.pure _
theorem and255 (x : Int) : 0 ≤ Go.bits .and .i64 x 255 ∧ Go.bits .and .i64 x 255 ≤ 255 := by
  have h : (BitVec.ofInt 64 x &&& BitVec.ofInt 64 255).toNat ≤ 255 := by
    rw [BitVec.toNat_and]; exact Nat.and_le_right
  show 0 ≤ IntKind.i64.wrap ((BitVec.ofInt 64 x &&& BitVec.ofInt 64 255).toNat : Int) ∧ IntKind.i64.wrap ((BitVec.ofInt 64 x &&& BitVec.ofInt 64 255).toNat : Int) ≤ 255
  rw [wid (by omega) (by omega)]; omega
/-- A cursor stands within its text. -/
def Good (c : Tspec_l1Cur) : Prop := 0 ≤ c.i ∧ c.b.length ≤ 1048576
theorem byteE (c : Tspec_l1Cur) (h : Good c) : EvP (fun k => Fspec_l1Byte k c) (fun r => 0 ≤ r.1 ∧ r.1 ≤ 255 ∧ Good r.2) := by
  obtain ⟨b, i, hh⟩ := c
  obtain ⟨h1, h2⟩ := h
  simp only at h1 h2
  simp only [Fspec_l1Byte]
  refine EvP.ite (fun hl => ?_) (fun _ => EvP.pure ⟨(and255 _).1, (and255 _).2, h1, h2⟩)
  have hl := of_decide_eq_true hl
  obtain ⟨n, rfl⟩ : ∃ n : Nat, i = n := ⟨i.toNat, by omega⟩
  obtain ⟨x, hx⟩ := atLt (xs := b) (i := n) (by omega)
  refine EvP.at? hx (EvP.pure ⟨(and255 _).1, (and255 _).2, ?_, h2⟩)
  show 0 ≤ IntKind.i64.wrap ((n : Int) + 1)
  rw [wid1 (by omega)]; omega
theorem tmodIn {v n : Int} (h : 0 ≤ v) (hn : 0 < n) : 0 ≤ Int.tmod v n ∧ Int.tmod v n < n := ⟨Int.tmod_nonneg n h, Int.tmod_lt_of_pos v hn⟩
theorem belowE (n : Int) (c : Tspec_l1Cur) (hn : 0 < n) (h : Good c) : EvP (fun k => Fspec_l1Below k n c) (fun r => 0 ≤ r.1 ∧ r.1 < n ∧ Good r.2) := by
  simp only [Fspec_l1Below]
  rw [decide_eq_false (p := n ≤ 0) (by omega)]
  have hz : (!(n == 0)) = true := by simp; omega
  simp only [cond_false, hz, cond_true]
  refine EvP.ite (fun _ => ?_) (fun _ => ?_)
  · exact (byteE c h).bind fun r hr => EvP.pure ⟨(tmodIn hr.1 hn).1, (tmodIn hr.1 hn).2, hr.2.2⟩
  · refine (byteE c h).bind fun r1 h1 => (byteE r1.2 h1.2.2).bind fun r2 h2 => (byteE r2.2 h2.2.2).bind fun r3 h3 => (byteE r3.2 h3.2.2).bind fun r4 h4 => EvP.pure ?_
    have a1 := h1.1; have b1 := h1.2.1; have a2 := h2.1; have b2 := h2.2.1; have a3 := h3.1; have b3 := h3.2.1; have a4 := h4.1; have b4 := h4.2.1
    generalize r1.1 = v1 at *; generalize r2.1 = v2 at *; generalize r3.1 = v3 at *; generalize r4.1 = v4 at *
    have hs : 0 ≤ IntKind.i64.wrap ((IntKind.i64.wrap ((IntKind.i64.wrap ((IntKind.i64.wrap (v1 * (16777216 : Int))) + (IntKind.i64.wrap (v2 * (65536 : Int))))) + (IntKind.i64.wrap (v3 * (256 : Int))))) + v4) := by
      rw [wid (n := v1 * 16777216) (by omega) (by omega), wid (n := v2 * 65536) (by omega) (by omega), wid (n := v3 * 256) (by omega) (by omega)]
      rw [wid (n := v1 * 16777216 + v2 * 65536) (by omega) (by omega), wid (n := v1 * 16777216 + v2 * 65536 + v3 * 256) (by omega) (by omega), wid (by omega) (by omega)]
      omega
    exact ⟨(tmodIn hs hn).1, (tmodIn hs hn).2, h4.2.2⟩
theorem onceE (n : Int) (c : Tspec_l1Cur) (hn : 0 < n) (h : Good c) : EvP (fun k => Fspec_l1Once k n c) (fun r => Good r.2) := by
  simp only [Fspec_l1Once]
  exact (belowE n c hn h).bind fun r hr => EvP.pure hr.2.2
theorem newE (a : List UInt8) (ha : a.length ≤ 1048576) : EvP (fun k => Fspec_l1New k a) Good := by
  simp only [Fspec_l1New]
  have go : ∀ m (i : Nat) (h : Int), i + m = 4000 → EvP (fun k => Fspec_l1New.l3 k a h (i : Int)) Good := by
    intro m
    induction m with
    | zero =>
      intro i h hi
      refine EvP.succ ?_
      simp only [Fspec_l1New.l3, Fspec_l1New.j2]
      rw [decide_eq_false (p := (i : Int) < 4000) (by omega)]
      refine EvP.ite (fun _ => EvP.pure ⟨by simp, ha⟩) (fun _ => EvP.pure ⟨by simp, ha⟩)
    | succ m ih =>
      intro i h hi
      refine EvP.succ ?_
      simp only [Fspec_l1New.l3, Fspec_l1New.j2]
      refine EvP.ite (fun hl => ?_) (fun _ => EvP.pure ⟨by simp, ha⟩)
      have hl := of_decide_eq_true hl
      obtain ⟨x, hx⟩ := atLt (xs := a) (i := i) (by omega)
      rw [decide_eq_true (p := (i : Int) < 4000) (by omega), wid1 (by omega)]
      exact EvP.at? hx (ih (i + 1) _ (by omega))
  exact go 4000 0 _ (by omega)
theorem pickE (l : List Int) (c : Tspec_l1Cur) (hn : 0 < l.length) (h : Good c) : EvP (fun k => Fspec_l1PickInt k l c) (fun r => r.1 ∈ l ∧ Good r.2) := by
  simp only [Fspec_l1PickInt]
  refine (belowE (l.length : Int) c (by omega) h).bind fun r hr => ?_
  obtain ⟨n, hn'⟩ : ∃ n : Nat, r.1 = n := ⟨r.1.toNat, by have := hr.1; omega⟩
  have := hr.2.1
  obtain ⟨x, hx⟩ := atLt (xs := l) (i := n) (by omega)
  rw [hn']
  exact EvP.at? hx (EvP.pure ⟨List.mem_of_getElem? hx, hr.2.2⟩)
theorem bigE (k : Nat) (a : List UInt8) : Flaws_big k a = some (decide (1048576 < a.length)) := by
  unfold Flaws_big
  congr 1
  exact decide_eq_decide.2 (by omega)
theorem textE (n : Int) (c : Tspec_l1Cur) (hn : 0 ≤ n) (hn2 : n ≤ 1048576) (h : Good c) : EvP (fun k => Fspec_l1Text k n c) (fun r => r.1.length ≤ n.toNat ∧ Good r.2) := by
  have go : ∀ (m : Nat) (out : List UInt8) (q : Int) (c : Tspec_l1Cur), out.length + m ≤ 2097152 → Good c → EvP (fun k => Fspec_l1Text.l22 k out q (m : Int) c.b c.i c.h) (fun r => r.1.length = out.length + m ∧ Good r.2) := by
    intro m
    induction m with
    | zero =>
      intro out q c ho hc
      refine EvP.succ ?_
      simp only [Fspec_l1Text.l22]
      exact EvP.pure ⟨rfl, hc⟩
    | succ m ih =>
      intro out q c ho hc
      refine EvP.succ ?_
      have key : ∀ (z : Int) (c' : Tspec_l1Cur), Good c' → EvP (fun k => Fspec_l1Text.j26 (Fspec_l1Text.l22 k) k out q ((m + 1 : Nat) : Int) z c'.b c'.i c'.h) (fun r => r.1.length = out.length + (m + 1) ∧ Good r.2) := by
        intro z c' g
        simp only [Fspec_l1Text.j26]
        rw [decide_eq_true (by simp; omega), wid (by omega) (by omega), show ((m + 1 : Nat) : Int) - 1 = (m : Int) by omega]
        exact (ih (out ++ [ofI z]) q c' (by simp; omega) g).mono fun r hr => ⟨by rw [hr.1]; simp; omega, hr.2⟩
      simp only [Fspec_l1Text.l22, Fspec_l1Text.j25]
      rw [decide_eq_true (by omega), show (⟨c.b, c.i, c.h⟩ : Tspec_l1Cur) = c from rfl]
      simp only [cond_true]
      refine (byteE c hc).bind fun r hr => ?_
      refine EvP.ite (fun _ => EvP.ite (fun _ => key _ r.2 hr.2.2) (fun _ => key _ r.2 hr.2.2)) (fun _ => EvP.ite (fun _ => key _ r.2 hr.2.2) (fun _ => key _ r.2 hr.2.2))
  simp only [Fspec_l1Text]
  rw [wid (n := n + 1) (by omega) (by omega)]
  refine (belowE 4 c (by omega) h).bind fun r1 h1 => (belowE (n + 1) r1.2 (by omega) h1.2.2).bind fun r2 h2 => ?_
  obtain ⟨m, hm⟩ : ∃ m : Nat, r2.1 = m := ⟨r2.1.toNat, by have := h2.1; omega⟩
  have := h2.2.1
  rw [hm]
  exact (go m [] r1.1 r2.2 (by simp; omega) h2.2.2).mono fun r hr => ⟨by rw [hr.1]; simp; omega, hr.2⟩
theorem cutT {l : List UInt8} {a b : Int} (ha : 0 ≤ a) (hab : a ≤ b) (hb : b ≤ l.length) : ∃ v, cut? l a b = some v ∧ v.length = (b - a).toNat := by
  refine ⟨_, if_pos ⟨ha, hab, hb⟩, ?_⟩
  simp; omega
theorem spoilE (a : List UInt8) (c : Tspec_l1Cur) (ha : a.length ≤ 1048573) (h : Good c) : EvP (fun k => Fspec_l1Spoil k a c) (fun r => r.1.length ≤ a.length + 3 ∧ Good r.2) := by
  simp only [Fspec_l1Spoil]
  refine EvP.ite (fun _ => ?_) (fun h0 => ?_)
  · exact (textE 3 c (by omega) (by omega) h).bind fun r hr => EvP.pure ⟨by have := hr.1; simp only; omega, hr.2⟩
  · have h0 : (a.length : Int) ≠ 0 := fun e => by rw [e] at h0; cases h0
    refine (belowE (a.length : Int) c (by omega) h).bind fun r1 h1 => (belowE 4 r1.2 (by omega) h1.2.2).bind fun r2 h2 => ?_
    obtain ⟨i1, i2, _⟩ := h1
    obtain ⟨p, hp, lp⟩ := cutT (l := a) (a := 0) (b := r1.1) (by omega) (by omega) (by omega)
    obtain ⟨q, hq, lq⟩ := cutT (l := a) (a := r1.1 + 1) (b := (a.length : Int)) (by omega) (by omega) (by omega)
    obtain ⟨r, hr, lr⟩ := cutT (l := a) (a := r1.1) (b := (a.length : Int)) (by omega) (by omega) (by omega)
    obtain ⟨n, hn⟩ : ∃ n : Nat, r1.1 = n := ⟨r1.1.toNat, by omega⟩
    obtain ⟨x, hx⟩ := atLt (xs := a) (i := n) (by omega)
    rw [wid (n := r1.1 + 1) (by omega) (by omega)]
    simp only [hp, hq, hr, Option.bind_some]
    refine EvP.ite (fun _ => ?_) (fun _ => EvP.ite (fun _ => ?_) (fun _ => EvP.ite (fun _ => ?_) (fun _ => ?_)))
    · rw [decide_eq_true (by omega)]
      exact EvP.pure ⟨by simp; omega, h2.2.2⟩
    · refine (byteE r2.2 h2.2.2).bind fun r3 h3 => ?_
      rw [decide_eq_true (by simp; omega)]
      simp only [cond_true]
      rw [decide_eq_true (by simp; omega)]
      exact EvP.pure ⟨by simp; omega, h3.2.2⟩
    · exact EvP.pure ⟨by simp only; omega, h2.2.2⟩
    · rw [hn]
      refine EvP.at? hx ((belowE 255 r2.2 (by omega) h2.2.2).bind fun r3 h3 => ?_)
      rw [decide_eq_true (by simp; omega)]
      simp only [cond_true]
      rw [decide_eq_true (by simp; omega)]
      exact EvP.pure ⟨by simp; omega, h3.2.2⟩
theorem atom_tm {d : List UInt8} (h : d.length ≤ 40) (k : Nat) : tm (k + 1) (97 :: (varE d.length ++ d)) = some (97 :: (varE d.length ++ d)).length := by
  rw [tm, varE_dv (f := 6) (n := d.length) (t := d) (by omega)]
  simp only [if_true]
  rw [if_pos ⟨h, by simp⟩]
  simp; omega
theorem numS_tm {n : Nat} (h : n ≤ 562949953421311) : numS (n : Int) = 97 :: (varE (varE n).length ++ varE n) ∧ (numS (n : Int)).length ≤ 9 ∧ (∀ k, tm (k + 1) (numS (n : Int)) = some (numS (n : Int)).length) := by
  have hl := varE_len 6 n (by omega)
  have h1 : (varE (varE n).length).length = 1 := by rw [varE_lt (by omega)]; rfl
  have e : numS (n : Int) = 97 :: (varE (varE n).length ++ varE n) := by
    unfold numS
    rw [varI_nat n h, if_neg (varE_ne n)]
    unfold atomS
    rw [if_pos (by omega)]
    exact okT_ok (tmOk_of (atom_tm (by omega) 7) (by simp; omega))
  refine ⟨e, by rw [e]; simp; omega, fun k => by rw [e]; exact atom_tm (by omega) k⟩
theorem tmsOf_flat {f : List UInt8 → Option Nat} (hf : ∀ x y m, f x = some m → y.take m = x.take m → f y = some m) : ∀ {ps : List (List UInt8)}, (∀ p ∈ ps, f p = some p.length) → tmsOf f ps.length ps.flatten = some ps.flatten.length
  | [], _ => rfl
  | p :: ps, h => by
    simp only [List.length_cons, tmsOf, List.flatten_cons]
    rw [hf p (p ++ ps.flatten) p.length (h p (by simp)) (by simp)]
    simp only
    rw [List.drop_left' rfl, tmsOf_flat hf (fun q hq => h q (by simp [hq]))]
    simp
theorem list_tm {ps : List (List UInt8)} {d : Nat} (h : ∀ p ∈ ps, tm d p = some p.length) (h12 : ps.length ≤ 12) : tm (d + 1) (108 :: (varE ps.length ++ ps.flatten)) = some (108 :: (varE ps.length ++ ps.flatten)).length := by
  rw [tm, varE_dv (f := 6) (n := ps.length) (t := ps.flatten) (by omega)]
  simp only [if_true]
  rw [if_neg (by decide), if_neg (by decide), if_neg (by decide), if_pos h12, List.drop_left' rfl, tmsOf_flat (fun x y m => tm_agree d x y m) h]
  simp; omega
theorem numsS_ne {l : List Int} (h12 : l.length ≤ 12) (h : ∀ n ∈ l, 0 ≤ n ∧ n ≤ 562949953421311) : numsS l ≠ [] := by
  have key : ∀ n ∈ l, (numS n).length ≤ 9 ∧ (∀ k, tm (k + 1) (numS n) = some (numS n).length) ∧ tmOk (numS n) = true := by
    intro n hn
    obtain ⟨h1, h2⟩ := h n hn
    obtain ⟨m, rfl⟩ : ∃ m : Nat, n = m := ⟨n.toNat, by omega⟩
    obtain ⟨_, b, c⟩ := numS_tm (n := m) (by omega)
    exact ⟨b, c, tmOk_of (c 7) (by omega)⟩
  unfold numsS
  rw [if_pos (List.all_eq_true.2 fun n hn => by have := tmOk_ne (key n hn).2.2; simpa using this)]
  unfold listS
  have hfl : ∀ (l : List Int), (∀ n ∈ l, (numS n).length ≤ 9) → (l.map numS).flatten.length ≤ 9 * l.length := by
    intro l
    induction l with
    | nil => intro _; simp
    | cons n l ih =>
      intro hk
      have h1 := hk n (by simp)
      have h2 := ih (fun m hm => hk m (by simp [hm]))
      rw [List.map_cons, List.flatten_cons, List.length_append, List.length_cons]; omega
  have hfl := hfl l (fun n hn => (key n hn).1)
  have hv : (varE l.length).length = 1 := by rw [varE_lt (by omega)]; rfl
  rw [if_pos ⟨by simpa using h12, List.all_eq_true.2 fun p hp => by obtain ⟨n, hn, rfl⟩ := List.mem_map.1 hp; exact (key n hn).2.2⟩]
  have htm := list_tm (ps := l.map numS) (d := 7) (fun p hp => by obtain ⟨n, hn, rfl⟩ := List.mem_map.1 hp; exact (key n hn).2.1 6) (by simpa using h12)
  rw [okT_ok (tmOk_of htm (by simp only [List.length_cons, List.length_append, List.length_map]; omega))]
  simp

theorem drawTimes (c : Tspec_l1Cur) (h : Good c) : EvP (fun k => Fspec_l16Times k c) (fun r => Good r.2) := by
  simp only [Fspec_l16Times]
  refine (belowE 20 c (by omega) h).bind fun r1 h1 => (belowE 10 r1.2 (by omega) h1.2.2).bind fun r2 h2 => (belowE 30 r2.2 (by omega) h2.2.2).bind fun r3 h3 => (belowE 50 r3.2 (by omega) h3.2.2).bind fun r4 h4 => (onceE 10 r4.2 (by omega) h4.2.2).bind fun r5 h5 => ?_
  refine EvP.ite (fun _ => ?_) (fun _ => EvP.pure h5)
  refine (belowE 4 r5.2 (by omega) h5).bind fun r6 h6 => ?_
  refine EvP.ite (fun _ => ?_) (fun _ => EvP.ite (fun _ => ?_) (fun _ => EvP.ite (fun _ => ?_) (fun _ => ?_)))
  · exact (pickE _ r6.2 (by simp) h6.2.2).bind fun r h => EvP.pure h.2
  · exact (belowE 60 r6.2 (by omega) h6.2.2).bind fun r h => EvP.pure h.2.2
  · exact (belowE 60 r6.2 (by omega) h6.2.2).bind fun r h => EvP.pure h.2.2
  · exact (pickE _ r6.2 (by simp) h6.2.2).bind fun r h => EvP.pure h.2
theorem readTimes_show {s : List UInt8} {t : Timpl_Times} (h : readTimesS s = (t, true)) : showTimesS t = s := by
  unfold readTimesS at h
  by_cases h4 : (readNumsS s).1.length = 4
  · obtain ⟨a, b, c, d, e⟩ := four h4
    rw [e] at h
    simp only [pick4] at h
    split at h
    · rename_i hs
      simp only [Prod.mk.injEq, and_true] at h
      subst h; exact hs
    · cases h
  · rw [notFour h4] at h; cases h
theorem showTimes_ne {t : Timpl_Times} (h : tOk t = true) : showTimesS t ≠ [] := by
  have ht := of_decide_eq_true h
  unfold showTimesS
  rw [if_pos h]
  obtain ⟨n1, h1⟩ : ∃ n : Nat, t.Auth = n := ⟨t.Auth.toNat, by omega⟩
  obtain ⟨n2, h2⟩ : ∃ n : Nat, t.Start = n := ⟨t.Start.toNat, by omega⟩
  obtain ⟨n3, h3⟩ : ∃ n : Nat, t.End = n := ⟨t.End.toNat, by omega⟩
  obtain ⟨n4, h4⟩ : ∃ n : Nat, t.Renew = n := ⟨t.Renew.toNat, by omega⟩
  rw [h1, h2, h3, h4]
  exact numsS_ne (by simp) (fun n hn => by
    simp only [List.mem_cons, List.not_mem_nil, or_false] at hn
    rcases hn with rfl | rfl | rfl | rfl <;> omega)
theorem readTimes_of {t : Timpl_Times} (h : tOk t = true) : readTimesS (showTimesS t) = (t, true) := by
  have hne := showTimes_ne h
  have e : showTimesS t = numsS [t.Auth, t.Start, t.End, t.Renew] := if_pos h
  unfold readTimesS
  have hr : readNumsS (showTimesS t) = ([t.Auth, t.Start, t.End, t.Renew], true) := by rw [e] at hne ⊢; exact readNums_of hne
  rw [hr]
  simp only [pick4]
  exact if_pos trivial
theorem readTimes_nil : readTimesS [] = (⟨0, 0, 0, 0⟩, false) := by
  unfold readTimesS readNumsS partsS
  rw [tmOk_nil]; rfl
theorem showTimes_len (t : Timpl_Times) : (showTimesS t).length ≤ 900 := by
  unfold showTimesS
  split
  · exact numsS_len _
  · simp
theorem lawTimeText (a : List UInt8) (w : wfR (fun _ => True) a) : ∃ k, Flaws_FnTimeText k a = some true := by
  suffices h : EvP (fun k => Flaws_FnTimeText k a) (fun r => r = true) from h.ev.get
  simp only [Flaws_FnTimeText, bigE, Option.bind_some]
  refine EvP.ite (fun _ => EvP.pure rfl) (fun hb => ?_)
  have ha : a.length ≤ 1048576 := by have := of_decide_eq_false hb; omega
  have hd : EvP (fun k => Fspec_DrawShowTimes k a) (fun _ => True) := by
    simp only [Fspec_DrawShowTimes]
    exact (newE a ha).bind fun c hc => (drawTimes c hc).bind fun r _ => EvP.pure trivial
  have hd2 : EvP (fun k => Fspec_DrawReadTimes k a) (fun s => s.length ≤ 1000) := by
    simp only [Fspec_DrawReadTimes]
    refine (newE a ha).bind fun c hc => (drawTimes c hc).bind fun r hr => EvP.bindE (sShowTimes _) ((onceE 3 r.2 (by omega) hr).bind fun r2 h2 => ?_)
    have hl := showTimes_len r.1
    refine EvP.ite (fun _ => ?_) (fun _ => EvP.pure (by omega))
    exact (spoilE _ r2.2 (by omega) h2).bind fun r3 h3 => EvP.pure (by have := h3.1; omega)
  refine hd.bind fun t _ => EvP.bindE (iShowTimes t) (EvP.bindE (iReadTimes _ (by have := showTimes_len t; omega)) (hd2.bind fun s hs => EvP.bindE (iReadTimes s (by omega)) (EvP.bindE (sReadTimes s (by omega)) ?_)))
  simp only [sTimesOk, Option.bind_some]
  have fin0 : EvP (fun k => (cond (!(readTimesS s).2) (some true) ((Fimpl_ShowTimes k (readTimesS s).1).bind fun r13 => some (r13 == s)))) (fun r => r = true) := by
    refine EvP.ite (fun _ => EvP.pure rfl) (fun h => EvP.bindE (iShowTimes _) (EvP.pure ?_))
    have h : (readTimesS s).2 = true := by simpa using h
    rw [readTimes_show (s := s) (t := (readTimesS s).1) (by rw [← h])]
    simp
  cases hk : tOk t with
  | false =>
    have e : showTimesS t = [] := if_neg (by rw [hk]; simp)
    rw [e, readTimes_nil]
    simp only [BEq.rfl, Bool.and_self, cond_true]
    exact fin0
  | true =>
    rw [readTimes_of hk]
    simp only [BEq.rfl, Bool.and_self, cond_true, Bool.not_true, cond_false]
    exact fin0


end Go.Proofs.Ytcolcmjcjpikcaa.M
