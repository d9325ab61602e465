/- The program's TakeReply and the reference's tell the same. Conditions: none. -/
import Derived.Test.YtcolcmjcjpikcaaFTakeReply
namespace Go.Proofs.Ytcolcmjcjpikcaa.M
open Go Go.MG
set_option linter.unusedVariables false
set_option linter.unusedSimpArgs false
theorem wid {n : Int} (h1 : -9223372036854775808 ≤ n) (h2 : n ≤ 9223372036854775807) : IntKind.i64.wrap n = n := by
  rw [IntKind.wrap_i64]; omega
theorem atN {α : Type} {xs : List α} {i : Nat} {b : α} (h : xs[i]? = some b) : at? xs (i : Int) = some b := by
  simp [at?, h]
theorem atLt {α : Type} {xs : List α} {i : Nat} (h : i < xs.length) : ∃ b, xs[i]? = some b := ⟨xs[i], List.getElem?_eq_getElem h⟩
theorem wid1 {i : Nat} (h : i ≤ 4611686018427387904) : IntKind.i64.wrap ((i : Int) + 1) = ((i + 1 : Nat) : Int) := by
  rw [wid (by omega) (by omega)]; omega
theorem ltD {i n : Nat} (h : i < n) : decide ((i : Int) < (n : Int)) = true := by simp; omega
theorem ltD0 {n : Nat} : decide ((n : Int) < (n : Int)) = false := by simp
theorem take_succ_get {α : Type} {xs : List α} {i : Nat} {b : α} (h : xs[i]? = some b) : xs.take (i + 1) = xs.take i ++ [b] := by
  rw [List.take_add_one, h]; rfl
/-- From some fuel on it answers so. -/
def Ev {α : Type} (f : Nat → Option α) (r : α) : Prop := ∃ n, ∀ k, n ≤ k → f k = some r
theorem Ev.pure {α : Type} (r : α) : Ev (fun _ => some r) r := ⟨0, fun _ _ => rfl⟩
theorem Ev.of {α : Type} {f : Nat → Option α} {r : α} (h : ∀ k, f k = some r) : Ev f r := ⟨0, fun k _ => h k⟩
theorem Ev.bind {α β : Type} {f : Nat → Option α} {g : Nat → α → Option β} {a : α} {r : β} (h : Ev f a) (h' : Ev (fun k => g k a) r) : Ev (fun k => (f k).bind (g k)) r := by
  obtain ⟨n, h⟩ := h
  obtain ⟨m, h'⟩ := h'
  refine ⟨max n m, fun k hk => ?_⟩
  show (f k).bind (g k) = some r
  rw [h k (by omega), Option.bind_some]
  exact h' k (by omega)
theorem Ev.succ {α : Type} {f : Nat → Option α} {r : α} (h : Ev (fun k => f (k + 1)) r) : Ev f r := by
  obtain ⟨n, h⟩ := h
  refine ⟨n + 1, fun k hk => ?_⟩
  obtain ⟨j, rfl⟩ : ∃ j, k = j + 1 := ⟨k - 1, by omega⟩
  exact h j (by omega)
theorem Ev.shift {α : Type} {f : Nat → Option α} {r : α} (h : Ev f r) : Ev (fun k => f (k + 1)) r := by
  obtain ⟨n, h⟩ := h
  exact ⟨n, fun k hk => h (k + 1) (by omega)⟩
theorem Ev.get {α : Type} {f : Nat → Option α} {r : α} (h : Ev f r) : ∃ k, f k = some r := by
  obtain ⟨n, h⟩ := h
  exact ⟨n, h n (Nat.le_refl _)⟩
theorem Ev.congr {α : Type} {f g : Nat → Option α} {r : α} (h : Ev f r) (e : ∀ k, g k = f k) : Ev g r := by
  obtain ⟨n, h⟩ := h
  exact ⟨n, fun k hk => (e k).trans (h k hk)⟩
theorem Ev.to {α : Type} {f : Nat → Option α} {a b : α} (h : Ev f a) (e : a = b) : Ev f b := e ▸ h
theorem Ev.ite {α : Type} {f g : Nat → Option α} {c : Bool} {r : α} (h1 : c = true → Ev f r) (h0 : c = false → Ev g r) : Ev (fun k => cond c (f k) (g k)) r := by
  cases c with
  | true => exact h1 rfl
  | false => exact h0 rfl
theorem Ev.at? {α β : Type} {xs : List α} {i : Nat} {b : α} {g : Nat → α → Option β} {r : β} (h : xs[i]? = some b) (h' : Ev (fun k => g k b) r) : Ev (fun k => (Go.MG.at? xs (i : Int)).bind (g k)) r := by
  have e := atN h
  simp only [e, Option.bind_some]
  exact h'
/-- A loop over a list: what it answers, told over what is left of it. -/
theorem Ev.forI {α S R : Type} {xs : List α} {L : Nat → S → Int → Option R} {f : List α → S → R} {I : Nat → S → Prop}
    (hnil : ∀ s, I xs.length s → Ev (fun k => L (k + 1) s (xs.length : Int)) (f [] s))
    (hcons : ∀ (i : Nat) (b : α) (s : S), xs[i]? = some b → i < xs.length → I i s → (∀ s', I (i + 1) s' → Ev (fun k => L k s' ((i + 1 : Nat) : Int)) (f (xs.drop (i + 1)) s')) → Ev (fun k => L (k + 1) s (i : Int)) (f (b :: xs.drop (i + 1)) s)) :
    ∀ (s : S), I 0 s → Ev (fun k => L k s 0) (f xs s) := by
  have key : ∀ (m i : Nat) (s : S), i + m = xs.length → I i s → Ev (fun k => L k s (i : Int)) (f (xs.drop i) s) := by
    intro m
    induction m with
    | zero =>
      intro i s hi hI
      have : i = xs.length := by omega
      subst this
      rw [List.drop_length]
      exact Ev.succ (hnil s hI)
    | succ m ih =>
      intro i s hi hI
      obtain ⟨b, hb⟩ := atLt (xs := xs) (i := i) (by omega)
      have hlt : i < xs.length := by omega
      have e : xs.drop i = b :: xs.drop (i + 1) := by
        rw [List.drop_eq_getElem_cons hlt]
        rw [List.getElem?_eq_getElem hlt] at hb
        cases hb; rfl
      rw [e]
      exact Ev.succ (hcons i b s hb hlt hI fun s' hs' => ih (i + 1) s' (by omega) hs')
  intro s hs
  have := key xs.length 0 s (by omega) hs
  simpa using this
/-- It answers, and what it answers is so. -/
def EvP {α : Type} (f : Nat → Option α) (P : α → Prop) : Prop := ∃ r, Ev f r ∧ P r
theorem Ev.p {α : Type} {f : Nat → Option α} {r : α} {P : α → Prop} (h : Ev f r) (hp : P r) : EvP f P := ⟨r, h, hp⟩
theorem EvP.pure {α : Type} {r : α} {P : α → Prop} (h : P r) : EvP (fun _ => some r) P := ⟨r, Ev.pure r, h⟩
theorem EvP.bind {α β : Type} {f : Nat → Option α} {g : Nat → α → Option β} {P : α → Prop} {Q : β → Prop} (h : EvP f P) (h' : ∀ a, P a → EvP (fun k => g k a) Q) : EvP (fun k => (f k).bind (g k)) Q := by
  obtain ⟨a, h1, h2⟩ := h
  obtain ⟨r, h3, h4⟩ := h' a h2
  exact ⟨r, h1.bind h3, h4⟩
theorem EvP.bindE {α β : Type} {f : Nat → Option α} {g : Nat → α → Option β} {a : α} {Q : β → Prop} (h : Ev f a) (h' : EvP (fun k => g k a) Q) : EvP (fun k => (f k).bind (g k)) Q := by
  obtain ⟨r, h3, h4⟩ := h'
  exact ⟨r, h.bind h3, h4⟩
theorem EvP.ite {α : Type} {f g : Nat → Option α} {c : Bool} {P : α → Prop} (h1 : c = true → EvP f P) (h0 : c = false → EvP g P) : EvP (fun k => cond c (f k) (g k)) P := by
  cases c with
  | true => exact h1 rfl
  | false => exact h0 rfl
theorem EvP.mono {α : Type} {f : Nat → Option α} {P Q : α → Prop} (h : EvP f P) (hq : ∀ r, P r → Q r) : EvP f Q := by
  obtain ⟨r, h1, h2⟩ := h
  exact ⟨r, h1, hq r h2⟩
theorem EvP.succ {α : Type} {f : Nat → Option α} {P : α → Prop} (h : EvP (fun k => f (k + 1)) P) : EvP f P := by
  obtain ⟨r, h1, h2⟩ := h
  exact ⟨r, h1.succ, h2⟩
theorem EvP.at? {α β : Type} {xs : List α} {i : Nat} {b : α} {g : Nat → α → Option β} {P : β → Prop} (h : xs[i]? = some b) (h' : EvP (fun k => g k b) P) : EvP (fun k => (Go.MG.at? xs (i : Int)).bind (g k)) P := by
  obtain ⟨r, h1, h2⟩ := h'
  exact ⟨r, Ev.at? h h1, h2⟩
theorem EvP.shift {α : Type} {f : Nat → Option α} {P : α → Prop} (h : EvP f P) : EvP (fun k => f (k + 1)) P := by
  obtain ⟨r, h1, h2⟩ := h
  exact ⟨r, h1.shift, h2⟩
theorem EvP.ev {α : Type} {f : Nat → Option α} {r : α} (h : EvP f (fun x => x = r)) : Ev f r := by
  obtain ⟨x, h1, rfl⟩ := h
  exact h1
def isIn (x a b : Int) : Bool := decide (a ≤ x ∧ x ≤ b)
theorem sIn (k : Nat) (x a b : Int) : Fspec_l1In k x a b = some (isIn x a b) := by
  unfold Fspec_l1In isIn
  simp only [Bool.cond_decide]
  split
  all_goals
    refine congrArg some (Bool.eq_iff_iff.mpr ?_)
    simp only [decide_eq_true_eq, Bool.false_eq_true, false_iff]
    omega
theorem iIn (k : Nat) (x a b : Int) : Fimpl_within k x a b = some (isIn x a b) := sIn k x a b
theorem bvNat (n : Nat) (h : n < 18446744073709551616) : (BitVec.ofInt 64 (n : Int)).toNat = n := by
  rw [BitVec.ofInt_natCast, BitVec.toNat_ofNat]; exact Nat.mod_eq_of_lt (by omega)
theorem and127 (n : Nat) (h : n < 9223372036854775808) : Go.bits .and .i64 (n : Int) 127 = ((n % 128 : Nat) : Int) := by
  show IntKind.i64.wrap ((BitVec.ofInt 64 (n : Int) &&& BitVec.ofInt 64 ((127 : Nat) : Int)).toNat : Int) = _
  rw [BitVec.toNat_and, bvNat n (by omega), bvNat 127 (by omega), Nat.and_two_pow_sub_one_eq_mod n 7, wid (by omega) (by omega)]
theorem orNat (a b : Nat) (ha : a < 9223372036854775808) (hb : b < 9223372036854775808) : Go.bits .or .i64 (a : Int) (b : Int) = ((a ||| b : Nat) : Int) := by
  show IntKind.i64.wrap ((BitVec.ofInt 64 (a : Int) ||| BitVec.ofInt 64 (b : Int)).toNat : Int) = _
  have : a ||| b < 2 ^ 63 := Nat.or_lt_two_pow ha hb
  rw [BitVec.toNat_or, bvNat a (by omega), bvNat b (by omega), wid (by omega) (by omega)]
theorem orLow (a b i : Nat) (ha : a < 2 ^ i) : a ||| (b * 2 ^ i) = a + b * 2 ^ i := by
  rw [Nat.or_comm, Nat.mul_comm, ← Nat.two_pow_add_eq_or_of_lt ha, Nat.add_comm]
theorem or128 (m : Nat) (h : m < 128) : Go.bits .or .i64 (m : Int) 128 = ((128 + m : Nat) : Int) := by
  have := orNat m 128 (by omega) (by omega)
  rw [show ((128 : Nat) : Int) = 128 from rfl] at this
  rw [this, show 128 = 1 * 2 ^ 7 from rfl, orLow m 1 7 (by omega)]
  congr 1; omega
theorem highI (n : Nat) : shrI .i64 (n : Int) 7 = ((n / 128 : Nat) : Int) := by
  show Int.fdiv (n : Int) 128 = _
  rw [Int.fdiv_eq_ediv_of_nonneg _ (by omega)]; omega
theorem lowI (n : Nat) (h : n < 9223372036854775808) : Go.bits .or .i64 (Go.bits .and .i64 (n : Int) 127) 128 = ((128 + n % 128 : Nat) : Int) := by
  rw [and127 n h, or128 _ (Nat.mod_lt _ (by omega))]
theorem lowS (n : Nat) : IntKind.i64.wrap (128 + Int.tmod (n : Int) 128) = ((128 + n % 128 : Nat) : Int) := by
  rw [show Int.tmod (n : Int) 128 = ((n % 128 : Nat) : Int) from rfl, wid (by omega) (by omega)]; omega
theorem highS (n : Nat) (h : n < 9223372036854775808) : IntKind.i64.wrap (Int.tdiv (n : Int) 128) = ((n / 128 : Nat) : Int) := by
  rw [show Int.tdiv (n : Int) 128 = ((n / 128 : Nat) : Int) from rfl, wid (by omega) (by omega)]
theorem ofI_nat (n : Nat) (h : n < 256) : ofI (n : Int) = UInt8.ofNat n := by
  unfold ofI
  have : ((n : Int) % 256).toNat = n := by omega
  rw [this]
def varE (n : Nat) : List UInt8 := if h : n < 128 then [UInt8.ofNat n] else UInt8.ofNat (128 + n % 128) :: varE (n / 128)
termination_by n
decreasing_by omega
theorem varE_lt {n : Nat} (h : n < 128) : varE n = [UInt8.ofNat n] := by rw [varE, dif_pos h]
theorem varE_ge {n : Nat} (h : 128 ≤ n) : varE n = UInt8.ofNat (128 + n % 128) :: varE (n / 128) := by rw [varE, dif_neg (by omega)]
theorem varE_len : ∀ (m n : Nat), n < 128 ^ (m + 1) → (varE n).length ≤ m + 1
  | m, n, h => by
    by_cases hn : n < 128
    · rw [varE_lt hn]; simp
    · rw [varE_ge (by omega)]
      cases m with
      | zero => omega
      | succ m =>
        have := varE_len m (n / 128) (by rw [Nat.pow_succ] at h; omega)
        simp; omega
theorem varE_pos (n : Nat) : 0 < (varE n).length := by
  by_cases hn : n < 128
  · rw [varE_lt hn]; simp
  · rw [varE_ge (by omega)]; simp
theorem varE_ne (n : Nat) : varE n ≠ [] := fun h => by have := varE_pos n; rw [h] at this; simp at this
def varI (a : Int) : List UInt8 := if 0 ≤ a ∧ a ≤ 562949953421311 then varE a.toNat else []
theorem varI_nat (n : Nat) (h : n ≤ 562949953421311) : varI (n : Int) = varE n := by
  unfold varI; rw [if_pos (by omega)]; simp
theorem varI_len (a : Int) : (varI a).length ≤ 7 := by
  unfold varI
  split
  · exact varE_len 6 _ (by omega)
  · simp
theorem sVarL : ∀ (m n : Nat) (acc : List UInt8), n < 128 ^ (m + 1) → m ≤ 8 → acc.length + m ≤ 1000 → Ev (fun k => Fspec_Var.l2 k (n : Int) acc) (acc ++ varE n) := by
  intro m
  induction m with
  | zero =>
    intro n acc h hm ha
    refine Ev.succ ?_
    simp only [Fspec_Var.l2]
    rw [decide_eq_false (p := (n : Int) ≥ 128) (by omega), decide_eq_true (p := (2 * (acc.length + [ofI (n : Int)].length) + 192) * 1 ≤ 281474976710656) (by simp; omega), ofI_nat n (by omega), varE_lt (by omega)]
    exact Ev.pure _
  | succ m ih =>
    intro n acc h hm ha
    have h9 : n < 9223372036854775808 := Nat.lt_of_lt_of_le h (Nat.le_trans (Nat.pow_le_pow_right (by omega) (show m + 1 + 1 ≤ 9 by omega)) (by decide))
    refine Ev.succ ?_
    simp only [Fspec_Var.l2]
    by_cases hn : n < 128
    · rw [decide_eq_false (p := (n : Int) ≥ 128) (by omega), decide_eq_true (p := (2 * (acc.length + [ofI (n : Int)].length) + 192) * 1 ≤ 281474976710656) (by simp; omega), ofI_nat n (by omega), varE_lt hn]
      exact Ev.pure _
    · rw [decide_eq_true (p := (n : Int) ≥ 128) (by omega), lowS, highS n h9, ofI_nat (128 + n % 128) (by omega), decide_eq_true (p := (2 * (acc.length + [UInt8.ofNat (128 + n % 128)].length) + 192) * 1 ≤ 281474976710656) (by simp; omega)]
      simp only [cond_true]
      refine (ih (n / 128) _ (by rw [Nat.pow_succ] at h; omega) (by omega) (by rw [List.length_append]; simp only [List.length_cons, List.length_nil]; omega)).to ?_
      rw [varE_ge (n := n) (by omega), List.append_assoc]; rfl
theorem iVarL : ∀ (m n : Nat) (acc : List UInt8), n < 128 ^ (m + 1) → m ≤ 8 → acc.length + m ≤ 1000 → Ev (fun k => Fimpl_Var.l2 k (n : Int) acc) (acc ++ varE n) := by
  intro m
  induction m with
  | zero =>
    intro n acc h hm ha
    refine Ev.succ ?_
    simp only [Fimpl_Var.l2]
    rw [decide_eq_false (p := (n : Int) > 127) (by omega), decide_eq_true (p := (2 * (acc.length + [ofI (n : Int)].length) + 192) * 1 ≤ 281474976710656) (by simp; omega), ofI_nat n (by omega), varE_lt (by omega)]
    exact Ev.pure _
  | succ m ih =>
    intro n acc h hm ha
    have h9 : n < 9223372036854775808 := Nat.lt_of_lt_of_le h (Nat.le_trans (Nat.pow_le_pow_right (by omega) (show m + 1 + 1 ≤ 9 by omega)) (by decide))
    refine Ev.succ ?_
    simp only [Fimpl_Var.l2]
    by_cases hn : n < 128
    · rw [decide_eq_false (p := (n : Int) > 127) (by omega), decide_eq_true (p := (2 * (acc.length + [ofI (n : Int)].length) + 192) * 1 ≤ 281474976710656) (by simp; omega), ofI_nat n (by omega), varE_lt hn]
      exact Ev.pure _
    · rw [decide_eq_true (p := (n : Int) > 127) (by omega), lowI n h9, highI n, ofI_nat (128 + n % 128) (by omega), decide_eq_true (p := (2 * (acc.length + [UInt8.ofNat (128 + n % 128)].length) + 192) * 1 ≤ 281474976710656) (by simp; omega)]
      simp only [cond_true]
      refine (ih (n / 128) _ (by rw [Nat.pow_succ] at h; omega) (by omega) (by rw [List.length_append]; simp only [List.length_cons, List.length_nil]; omega)).to ?_
      rw [varE_ge (n := n) (by omega), List.append_assoc]; rfl
theorem sVar (a : Int) : Ev (fun k => Fspec_Var k a) (varI a) := by
  simp only [Fspec_Var, sIn, Option.bind_some]
  refine Ev.ite (fun hc => ?_) (fun hc => ?_)
  · refine (Ev.pure _).to ?_
    unfold varI; rw [if_neg (fun h => by unfold isIn at hc; rw [decide_eq_true h] at hc; cases hc)]
  · have h : 0 ≤ a ∧ a ≤ 562949953421311 := by simpa [isIn] using hc
    obtain ⟨n, rfl⟩ : ∃ n : Nat, a = n := ⟨a.toNat, by omega⟩
    refine (sVarL 6 n [] (by omega) (by omega) (by simp)).to ?_
    rw [varI_nat n (by omega)]; rfl
theorem iVar (a : Int) : Ev (fun k => Fimpl_Var k a) (varI a) := by
  simp only [Fimpl_Var, iIn, Option.bind_some]
  refine Ev.ite (fun hc => ?_) (fun hc => ?_)
  · refine (Ev.pure _).to ?_
    unfold varI; rw [if_neg (fun h => by unfold isIn at hc; rw [decide_eq_true h] at hc; cases hc)]
  · have h : 0 ≤ a ∧ a ≤ 562949953421311 := by simpa [isIn] using hc
    obtain ⟨n, rfl⟩ : ∃ n : Nat, a = n := ⟨a.toNat, by omega⟩
    refine (iVarL 6 n [] (by omega) (by omega) (by simp)).to ?_
    rw [varI_nat n (by omega)]; rfl
/-- The number at the begin of a text, of at most f bytes, and how many they are. -/
def dv : Nat → List UInt8 → Option (Nat × Nat)
  | 0, _ => none
  | _ + 1, [] => none
  | f + 1, b :: bs => if b.toNat < 128 then some (b.toNat, 1) else match dv f bs with
    | some (n, s) => if n = 0 then none else some (b.toNat % 128 + 128 * n, s + 1)
    | none => none
def rvP (s : List UInt8) : Int × Int := match dv 7 s with
  | some (n, z) => ((n : Int), (z : Int))
  | none => (0, 0)
theorem u8eta (b : UInt8) : UInt8.ofNat b.toNat = b := by simp
theorem dv_ok : ∀ {f : Nat} {s : List UInt8} {n z : Nat}, dv f s = some (n, z) → z ≤ s.length ∧ z ≤ f ∧ 0 < z ∧ s.take z = varE n ∧ n < 128 ^ z
  | 0, s, n, z, h => by simp [dv] at h
  | f + 1, [], n, z, h => by simp [dv] at h
  | f + 1, b :: bs, n, z, h => by
    simp only [dv] at h
    split at h
    · rename_i hb
      cases h
      exact ⟨by simp, by omega, by omega, by rw [varE_lt hb]; simp, by simpa using hb⟩
    · rename_i hb
      split at h
      · rename_i m t hm
        split at h
        · cases h
        · rename_i hm0
          cases h
          obtain ⟨h1, h2, h3, h4, h5⟩ := dv_ok hm
          have hb2 := b.toNat_lt
          refine ⟨by simp; omega, by omega, by omega, ?_, ?_⟩
          · rw [List.take_succ_cons, h4, varE_ge (n := b.toNat % 128 + 128 * m) (by omega)]
            have e1 : (b.toNat % 128 + 128 * m) % 128 = b.toNat % 128 := by omega
            have e2 : (b.toNat % 128 + 128 * m) / 128 = m := by omega
            rw [e1, e2, show 128 + b.toNat % 128 = b.toNat by omega, u8eta]
          · rw [Nat.pow_succ]; omega
      · cases h
theorem varE_dv : ∀ {f : Nat} {n : Nat} {t : List UInt8}, n < 128 ^ (f + 1) → dv (f + 1) (varE n ++ t) = some (n, (varE n).length)
  | f, n, t, h => by
    by_cases hn : n < 128
    · rw [varE_lt hn]
      have : (UInt8.ofNat n).toNat = n := by rw [UInt8.toNat_ofNat']; omega
      simp [dv, this, hn]
    · have h1 : (UInt8.ofNat (128 + n % 128)).toNat = 128 + n % 128 := by rw [UInt8.toNat_ofNat']; omega
      rw [varE_ge (n := n) (by omega)]
      cases f with
      | zero => omega
      | succ f =>
        have ih := varE_dv (f := f) (n := n / 128) (t := t) (by rw [Nat.pow_succ] at h; omega)
        simp only [List.cons_append, dv.eq_3 (f + 1), h1]
        rw [if_neg (by omega), ih]
        simp only
        rw [if_neg (by omega)]
        simp only [List.length_cons]
        congr 2; omega
theorem rvP_var {n : Nat} {t : List UInt8} (h : n ≤ 562949953421311) : rvP (varE n ++ t) = ((n : Int), ((varE n).length : Int)) := by
  unfold rvP; rw [varE_dv (by omega)]
/-- The sum of the digits, the lowest first. -/
def digs : List UInt8 → Nat
  | [] => 0
  | b :: bs => b.toNat % 128 + 128 * digs bs
theorem digs_lt : ∀ (s : List UInt8), digs s < 128 ^ s.length
  | [] => by simp [digs]
  | b :: bs => by have := digs_lt bs; simp only [digs, List.length_cons, Nat.pow_succ]; omega
theorem digs_snoc : ∀ (s : List UInt8) (b : UInt8), digs (s ++ [b]) = digs s + b.toNat % 128 * 128 ^ s.length
  | [], b => by simp [digs]
  | c :: s, b => by
    simp only [List.cons_append, digs, List.length_cons, digs_snoc s b, Nat.pow_succ]
    rw [Nat.mul_add, Nat.mul_comm (128 ^ s.length) 128, ← Nat.mul_assoc, ← Nat.mul_assoc, Nat.mul_comm (b.toNat % 128) 128]
    omega
theorem digs_varE : ∀ (m n : Nat), n < 128 ^ (m + 1) → digs (varE n) = n
  | m, n, h => by
    by_cases hn : n < 128
    · rw [varE_lt hn]; simp [digs, UInt8.toNat_ofNat']; omega
    · rw [varE_ge (by omega)]
      have h1 : (UInt8.ofNat (128 + n % 128)).toNat = 128 + n % 128 := by rw [UInt8.toNat_ofNat']; omega
      cases m with
      | zero => omega
      | succ m =>
        simp only [digs, h1, digs_varE m (n / 128) (by rw [Nat.pow_succ] at h; omega)]; omega
/-- Whether the first bytes are a number's, of just this size. -/
theorem dv_take {s : List UInt8} {z : Nat} (hz : z ≤ s.length) (h7 : z ≤ 7) (h0 : 0 < z) (h : varE (digs (s.take z)) = s.take z) : dv 7 s = some (digs (s.take z), z) := by
  have h1 : digs (s.take z) < 128 ^ 7 := by
    have := digs_lt (s.take z)
    rw [List.length_take, Nat.min_eq_left hz] at this
    exact Nat.lt_of_lt_of_le this (Nat.pow_le_pow_right (by omega) h7)
  have h2 := varE_dv (f := 6) (n := digs (s.take z)) (t := s.drop z) h1
  rw [h, List.take_append_drop, List.length_take, Nat.min_eq_left hz] at h2
  exact h2
theorem dv_take' {s : List UInt8} {n z : Nat} (h : dv 7 s = some (n, z)) : digs (s.take z) = n ∧ varE (digs (s.take z)) = s.take z := by
  obtain ⟨h1, h2, h3, h4, h5⟩ := dv_ok h
  have h6 : n < 128 ^ (6 + 1) := Nat.lt_of_lt_of_le h5 (Nat.pow_le_pow_right (by omega) h2)
  have e : digs (s.take z) = n := by rw [h4]; exact digs_varE 6 n h6
  exact ⟨e, by rw [e, h4]⟩
theorem cutN {α : Type} {xs : List α} {a b : Nat} (h : a ≤ b) (h2 : b ≤ xs.length) : cut? xs (a : Int) (b : Int) = some ((xs.drop a).take (b - a)) := by
  unfold cut?
  rw [if_pos (by omega)]
  congr 2; omega
theorem cut0 {α : Type} {xs : List α} {b : Nat} (h2 : b ≤ xs.length) : cut? xs 0 (b : Int) = some (xs.take b) := by
  have := cutN (xs := xs) (a := 0) (b := b) (by omega) h2
  simpa using this
theorem cutEnd {α : Type} {xs : List α} {a : Nat} (h : a ≤ xs.length) : cut? xs (a : Int) (xs.length : Int) = some (xs.drop a) := by
  rw [cutN h (Nat.le_refl _)]
  congr 1
  exact List.take_of_length_le (by simp)
theorem varE_bytes : ∀ (m n : Nat), n < 128 ^ (m + 1) → ∀ (j : Nat) (b : UInt8), (varE n)[j]? = some b → if j + 1 < (varE n).length then 128 ≤ b.toNat else b.toNat < 128
  | m, n, h, j, b, hj => by
    by_cases hn : n < 128
    · rw [varE_lt hn] at hj ⊢
      cases j with
      | zero => simp at hj; subst hj; simp [UInt8.toNat_ofNat']; omega
      | succ j => simp at hj
    · rw [varE_ge (n := n) (by omega)] at hj ⊢
      have h1 : (UInt8.ofNat (128 + n % 128)).toNat = 128 + n % 128 := by rw [UInt8.toNat_ofNat']; omega
      have hp := varE_pos (n / 128)
      cases j with
      | zero => simp only [List.getElem?_cons_zero, Option.some.injEq] at hj; subst hj; rw [if_pos (by simp; omega), h1]; omega
      | succ j =>
        cases m with
        | zero => omega
        | succ m =>
          simp only [List.getElem?_cons_succ] at hj
          have := varE_bytes m (n / 128) (by rw [Nat.pow_succ] at h; omega) j b hj
          simp only [List.length_cons]
          by_cases hl : j + 1 < (varE (n / 128)).length
          · rw [if_pos (by omega)]; rwa [if_pos hl] at this
          · rw [if_neg (by omega)]; rwa [if_neg hl] at this
theorem dv_bytes {s : List UInt8} {n z : Nat} (h : dv 7 s = some (n, z)) {j : Nat} {b : UInt8} (hj : s[j]? = some b) : (j + 1 < z → 128 ≤ b.toNat) ∧ (j + 1 = z → b.toNat < 128) := by
  obtain ⟨h1, h2, h3, h4, h5⟩ := dv_ok h
  have h6 : n < 128 ^ (6 + 1) := Nat.lt_of_lt_of_le h5 (Nat.pow_le_pow_right (by omega) h2)
  have hlen : (varE n).length = z := by rw [← h4, List.length_take]; omega
  have get : j < z → (varE n)[j]? = some b := fun hjz => by rw [← h4, List.getElem?_take, if_pos hjz]; exact hj
  refine ⟨fun hl => ?_, fun hl => ?_⟩
  · have := varE_bytes 6 n h6 j b (get (by omega))
    rwa [if_pos (by omega)] at this
  · have := varE_bytes 6 n h6 j b (get (by omega))
    rwa [if_neg (by omega)] at this
theorem sRV26 (s : List UInt8) (z : Nat) (hz : z ≤ s.length) (h7 : z ≤ 7) (h0 : 0 < z) (len : Int) (fl : Bool) (r2 : Int × Int) : ∀ (j : Nat) (cl : Nat → List UInt8 → Int → Option (Int × Int)), j ≤ z → Ev (fun k => cl k s (IntKind.i64.wrap ((z : Int) + 1))) r2 →
    Ev (fun k => Fspec_ReadVar.l26 (cl k) k s (z : Int) (digs ((s.take z).drop j) : Int) ((j : Int) - 1) len fl) (if varE (digs (s.take z)) = s.take z then ((digs (s.take z) : Int), (z : Int)) else r2) := by
  have hlt : digs (s.take z) < 128 ^ 7 := by
    have := digs_lt (s.take z)
    rw [List.length_take, Nat.min_eq_left hz] at this
    exact Nat.lt_of_lt_of_le this (Nat.pow_le_pow_right (by omega) h7)
  intro j
  induction j with
  | zero =>
    intro cl hj hcl
    refine Ev.succ ?_
    simp only [Fspec_ReadVar.l26]
    rw [decide_eq_false (by omega)]
    simp only [cond_false, List.drop_zero]
    refine Ev.bind (sVar _) ?_
    rw [varI_nat _ (by omega), cut0 hz]
    simp only [Option.bind_some]
    refine Ev.ite (fun hc => ?_) (fun hc => ?_)
    · rw [if_pos (eq_of_beq hc)]; exact Ev.pure _
    · rw [if_neg (fun h => by rw [h] at hc; simp at hc)]; exact hcl.shift
  | succ j ih =>
    intro cl hj hcl
    refine Ev.succ ?_
    simp only [Fspec_ReadVar.l26]
    obtain ⟨b, hb⟩ := atLt (xs := s) (i := j) (by omega)
    rw [decide_eq_true (by omega)]
    rw [show ((j + 1 : Nat) : Int) - 1 = (j : Int) by omega]
    simp only [cond_true]
    refine Ev.at? hb ?_
    have e : (s.take z).drop j = b :: (s.take z).drop (j + 1) := by
      have hl : j < (s.take z).length := by rw [List.length_take]; omega
      rw [List.drop_eq_getElem_cons hl]
      congr 1
      rw [List.getElem_take]
      rw [List.getElem?_eq_getElem (by omega)] at hb
      exact Option.some.inj hb
    have hd : digs ((s.take z).drop (j + 1)) < 128 ^ 7 := by
      have h1 := digs_lt ((s.take z).drop (j + 1))
      have h2 : ((s.take z).drop (j + 1)).length ≤ 7 := by simp; omega
      exact Nat.lt_of_lt_of_le h1 (Nat.pow_le_pow_right (by omega) h2)
    have e2 : IntKind.i64.wrap (IntKind.i64.wrap ((digs ((s.take z).drop (j + 1)) : Int) * 128) + Int.tmod (b.toNat : Int) 128) = (digs ((s.take z).drop j) : Int) := by
      rw [show Int.tmod (b.toNat : Int) 128 = ((b.toNat % 128 : Nat) : Int) from rfl, e]
      simp only [digs]
      rw [wid (n := (digs ((s.take z).drop (j + 1)) : Int) * 128) (by omega) (by omega), wid (by omega) (by omega)]
      omega
    rw [e2, wid (n := (j : Int) - 1) (by omega) (by omega)]
    exact ih (fun k => cl (k + 1)) (by omega) hcl.shift
theorem sReadVar (s : List UInt8) (hs : s.length ≤ 1048576) : Ev (fun k => Fspec_ReadVar k s) (rvP s) := by
  have key : ∀ (m z : Nat), z + m = 8 → 0 < z → Ev (fun k => Fspec_ReadVar.l22 k s (z : Int)) (match dv 7 s with | some (n, t) => if z ≤ t then ((n : Int), (t : Int)) else (0, 0) | none => (0, 0)) := by
    intro m
    induction m with
    | zero =>
      intro z hz h0
      refine Ev.succ ?_
      simp only [Fspec_ReadVar.l22]
      rw [decide_eq_false (by omega)]
      refine (Ev.pure _).to ?_
      cases hd : dv 7 s with
      | none => rfl
      | some p => obtain ⟨n, t⟩ := p; have := (dv_ok hd).2.1; simp only; rw [if_neg (by omega)]
    | succ m ih =>
      intro z hz h0
      refine Ev.succ ?_
      simp only [Fspec_ReadVar.l22]
      rw [decide_eq_true (p := (z : Int) ≤ 7) (by omega)]
      simp only [cond_true]
      by_cases hl : z ≤ s.length
      · rw [decide_eq_true (p := (z : Int) ≤ (s.length : Int)) (by omega)]
        simp only [cond_true]
        have hn := ih (z + 1) (by omega) (by omega)
        have h26 := sRV26 s z hl (by omega) h0 (s.length : Int) true _ z (fun k => Fspec_ReadVar.l22 k) (Nat.le_refl _) (by rw [wid1 (by omega)]; exact hn)
        rw [show (s.take z).drop z = [] from List.drop_of_length_le (by rw [List.length_take]; omega)] at h26
        rw [wid (n := (z : Int) - 1) (by omega) (by omega)]
        refine h26.to ?_
        by_cases he : varE (digs (s.take z)) = s.take z
        · rw [if_pos he, dv_take hl (by omega) h0 he]; simp
        · rw [if_neg he]
          cases hd : dv 7 s with
          | none => rfl
          | some p =>
            obtain ⟨n, t⟩ := p
            have : t ≠ z := fun e => by subst e; exact he (dv_take' hd).2
            simp only
            by_cases h : z ≤ t
            · rw [if_pos h, if_pos (by omega)]
            · rw [if_neg h, if_neg (by omega)]
      · rw [decide_eq_false (p := (z : Int) ≤ (s.length : Int)) (by omega)]
        refine (Ev.pure _).to ?_
        cases hd : dv 7 s with
        | none => rfl
        | some p => obtain ⟨n, t⟩ := p; have := (dv_ok hd).1; simp only; rw [if_neg (by omega)]
  simp only [Fspec_ReadVar]
  refine (key 7 1 (by omega) (by omega)).to ?_
  unfold rvP
  cases hd : dv 7 s with
  | none => rfl
  | some p => obtain ⟨n, t⟩ := p; have := (dv_ok hd).2.2.1; simp only; rw [if_pos (by omega)]
theorem pow7 (i : Nat) : 2 ^ (7 * i) = 128 ^ i := by rw [Nat.pow_mul]
theorem iReadVar (s : List UInt8) (hs : s.length ≤ 1048576) : Ev (fun k => Fimpl_ReadVar k s) (rvP s) := by
  have none7 : ∀ i, (∀ j b, j < i → s[j]? = some b → 128 ≤ b.toNat) → (7 ≤ i ∨ s.length ≤ i) → rvP s = (0, 0) := by
    intro i hb hi
    unfold rvP
    cases hd : dv 7 s with
    | none => rfl
    | some p =>
      obtain ⟨n, z⟩ := p
      obtain ⟨h1, h2, h3, _, _⟩ := dv_ok hd
      obtain ⟨b, hb'⟩ := atLt (xs := s) (i := z - 1) (by omega)
      have := (dv_bytes hd hb').2 (by omega)
      have := hb (z - 1) b (by omega) hb'
      omega
  have key : ∀ (m i : Nat), i + m = s.length → i ≤ 7 → (∀ j b, j < i → s[j]? = some b → 128 ≤ b.toNat) → Ev (fun k => Fimpl_ReadVar.l2 k s (digs (s.take i) : Int) (i : Int)) (rvP s) := by
    intro m
    induction m with
    | zero =>
      intro i hi h7 hb
      refine Ev.succ ?_
      simp only [Fimpl_ReadVar.l2]
      rw [decide_eq_false (by omega)]
      exact (Ev.pure _).to (none7 i hb (.inr (by omega))).symm
    | succ m ih =>
      intro i hi h7 hb
      refine Ev.succ ?_
      simp only [Fimpl_ReadVar.l2]
      rw [decide_eq_true (p := (i : Int) < (s.length : Int)) (by omega)]
      simp only [cond_true]
      by_cases hi7 : i = 7
      · subst hi7
        rw [decide_eq_false (p := ((7 : Nat) : Int) < 7) (by omega)]
        exact (Ev.pure _).to (none7 7 hb (.inl (by omega))).symm
      rw [decide_eq_true (p := (i : Int) < 7) (by omega)]
      simp only [cond_true]
      obtain ⟨b, hb'⟩ := atLt (xs := s) (i := i) (by omega)
      have hbl := b.toNat_lt
      have e7 : IntKind.i64.wrap ((7 : Int) * (i : Int)) = ((7 * i : Nat) : Int) := by rw [wid (by omega) (by omega)]; omega
      refine Ev.at? hb' ?_
      rw [e7, decide_eq_false (by omega)]
      simp only [Bool.not_false, cond_true]
      refine Ev.at? hb' ?_
      have hand : ((b &&& 127).toNat : Nat) = b.toNat % 128 := by
        rw [UInt8.toNat_and]; exact Nat.and_two_pow_sub_one_eq_mod b.toNat 7
      have hdl : digs (s.take i) < 128 ^ i := by
        have := digs_lt (s.take i)
        rwa [List.length_take, Nat.min_eq_left (by omega)] at this
      have hp : 128 ^ i ≤ 128 ^ 6 := Nat.pow_le_pow_right (by omega) (by omega)
      have hm : b.toNat % 128 * 128 ^ i < 562949953421312 := by
        have h1 : b.toNat % 128 * 128 ^ i ≤ 127 * 128 ^ 6 := Nat.mul_le_mul (by omega) hp
        omega
      have eshl : shlI .i64 ((b.toNat % 128 : Nat) : Int) ((7 * i : Nat) : Int) = ((b.toNat % 128 * 128 ^ i : Nat) : Int) := by
        unfold shlI
        have e : min (((7 * i : Nat) : Int)).toNat IntKind.i64.bits = 7 * i := by
          have : IntKind.i64.bits = 64 := rfl
          rw [Int.toNat_natCast, this]; omega
        rw [e]
        have e2 : ((b.toNat % 128 : Nat) : Int) * 2 ^ (7 * i) = ((b.toNat % 128 * 128 ^ i : Nat) : Int) := by
          rw [← pow7, Int.natCast_mul, Int.natCast_pow]; rfl
        rw [e2]
        exact wid (by omega) (by omega)
      have eor : Go.bits .or .i64 (digs (s.take i) : Int) (shlI .i64 (((b &&& 127).toNat : Nat) : Int) ((7 * i : Nat) : Int)) = (digs (s.take (i + 1)) : Int) := by
        rw [hand, eshl, orNat _ _ (by omega) (by omega), ← pow7, orLow _ _ _ (by rw [pow7]; exact hdl), take_succ_get hb', digs_snoc, List.length_take, Nat.min_eq_left (by omega), pow7]
      rw [eor, wid1 (by omega)]
      have hd7 : digs (s.take (i + 1)) ≤ 562949953421311 := by
        have := digs_lt (s.take (i + 1))
        rw [List.length_take, Nat.min_eq_left (by omega)] at this
        have h2 : 128 ^ (i + 1) ≤ 128 ^ 7 := Nat.pow_le_pow_right (by omega) (by omega)
        omega
      refine Ev.ite (fun hc => ?_) (fun hc => ?_)
      · have hlt : b.toNat < 128 := by
          have := of_decide_eq_true hc
          simpa [UInt8.lt_iff_toNat_lt] using this
        refine Ev.bind (iVar _) ?_
        rw [varI_nat _ hd7, cut0 (by omega)]
        simp only [Option.bind_some]
        refine Ev.ite (fun hne => ?_) (fun hne => ?_)
        · refine (Ev.pure _).to ?_
          unfold rvP
          cases hd : dv 7 s with
          | none => rfl
          | some p =>
            obtain ⟨n, z⟩ := p
            obtain ⟨h1, h2, h3, _, _⟩ := dv_ok hd
            have hz : z = i + 1 := by
              obtain ⟨c, hc'⟩ := atLt (xs := s) (i := z - 1) (by omega)
              have l1 := (dv_bytes hd hc').2 (by omega)
              have l2 : ¬ z - 1 < i := fun h => by have := hb (z - 1) c h hc'; omega
              have l3 : ¬ i + 1 < z := fun h => by have := (dv_bytes hd hb').1 h; omega
              omega
            subst hz
            have := (dv_take' hd).2
            rw [this] at hne; simp at hne
        · refine (Ev.pure _).to ?_
          have he : varE (digs (s.take (i + 1))) = s.take (i + 1) := by simpa using hne
          unfold rvP
          rw [dv_take (by omega) (by omega) (by omega) he]
      · refine ih (i + 1) (by omega) (by omega) (fun j c hj hc' => ?_)
        by_cases hji : j < i
        · exact hb j c hji hc'
        · have : j = i := by omega
          subst this
          rw [hb'] at hc'; cases hc'
          have := of_decide_eq_false hc
          simpa [UInt8.lt_iff_toNat_lt] using this
  simp only [Fimpl_ReadVar]
  exact key s.length 0 (by omega) (by omega) (fun j b hj => by omega)
def tmsOf (f : List UInt8 → Option Nat) : Nat → List UInt8 → Option Nat
  | 0, _ => some 0
  | n + 1, s => match f s with
    | some m => match tmsOf f n (s.drop m) with
      | some r => some (m + r)
      | none => none
    | none => none
/-- How long the term is with which a text begins, of at most this depth. -/
def tm : Nat → List UInt8 → Option Nat
  | 0, _ => none
  | _ + 1, [] => none
  | d + 1, c :: s => match dv 7 s with
    | none => none
    | some (n, z) =>
      if c = 97 then (if n ≤ 40 ∧ z + n ≤ s.length then some (1 + z + n) else none)
      else if c = 107 then (if 1 ≤ n ∧ n ≤ 1000000 then some (1 + z) else none)
      else if c = 115 then (if 1 ≤ n ∧ n ≤ 1000000 then (match tm d (s.drop z) with | some m => some (1 + z + m) | none => none) else none)
      else if c = 108 then (if n ≤ 12 then (match tmsOf (tm d) n (s.drop z) with | some m => some (1 + z + m) | none => none) else none)
      else none
def szI : Option Nat → Int
  | some m => (m : Int)
  | none => 0
theorem tmsOf_le {f : List UInt8 → Option Nat} (hf : ∀ s m, f s = some m → m ≤ s.length) : ∀ (n : Nat) (s : List UInt8) (m : Nat), tmsOf f n s = some m → m ≤ s.length
  | 0, s, m, h => by simp [tmsOf] at h; omega
  | n + 1, s, m, h => by
    simp only [tmsOf] at h
    split at h
    · rename_i a ha
      split at h
      · rename_i b hb
        cases h
        have h1 := hf s a ha
        have h2 := tmsOf_le hf n (s.drop a) b hb
        rw [List.length_drop] at h2
        omega
      · cases h
    · cases h
theorem tm_le : ∀ (d : Nat) (s : List UInt8) (m : Nat), tm d s = some m → 0 < m ∧ m ≤ s.length
  | 0, s, m, h => by simp [tm] at h
  | d + 1, [], m, h => by simp [tm] at h
  | d + 1, c :: s, m, h => by
    simp only [tm] at h
    split at h
    · cases h
    · rename_i n z hd
      have hz := (dv_ok hd).1
      repeat' split at h
      all_goals first | cases h; done | skip
      · cases h; rename_i h1; simp; omega
      · cases h; simp; omega
      · rename_i a ha
        cases h
        have := tm_le d _ _ ha
        rw [List.length_drop] at this
        simp; omega
      · rename_i a ha
        cases h
        have := tmsOf_le (fun s m hm => (tm_le d s m hm).2) n _ _ ha
        rw [List.length_drop] at this
        simp; omega
theorem at?_drop {s : List UInt8} {i : Nat} {c : UInt8} {t : List UInt8} (h : s.drop i = c :: t) : s[i]? = some c ∧ s.drop (i + 1) = t ∧ i < s.length := by
  have h1 : (s.drop i)[0]? = some c := by rw [h]; rfl
  rw [List.getElem?_drop, Nat.add_zero] at h1
  refine ⟨h1, ?_, (List.getElem?_eq_some_iff.1 h1).1⟩
  rw [← List.drop_drop, h]; rfl
theorem drop_cons_ex {s : List UInt8} {i : Nat} (h : i < s.length) : ∃ c t, s.drop i = c :: t := by
  cases hd : s.drop i with
  | nil => have := congrArg List.length hd; simp at this; omega
  | cons c t => exact ⟨c, t, rfl⟩
theorem sTermL (s : List UInt8) (hs : s.length ≤ 1048576) (d : Nat) (hd8 : d ≤ 100) (at0 : Nat) (a2 : Int) (ha2 : IntKind.i64.wrap (a2 - 1) = (d : Int)) (n : Nat) (hn : n ≤ 12) : ∀ (m j : Nat) (cl : Nat → List UInt8 → Int → Int → Option (Int × Int)) (p : Nat) (dd : Int), j + m = n → at0 ≤ p → p ≤ s.length →
    (∀ i, i ≤ s.length → EvP (fun k => cl k s (i : Int) (d : Int)) (fun r => r.1 = szI (tm d (s.drop i)))) →
    EvP (fun k => Fspec_l2Term.l15 (cl k) k s (at0 : Int) a2 (n : Int) (p : Int) dd (j : Int)) (fun r => r.1 = match tmsOf (tm d) m (s.drop p) with | some q => (((p + q : Nat) : Int) - (at0 : Int)) | none => 0) := by
  intro m
  induction m with
  | zero =>
    intro j cl p dd hj hap hp hcl
    refine EvP.succ ?_
    simp only [Fspec_l2Term.l15]
    rw [decide_eq_false (by omega)]
    refine EvP.pure ?_
    simp only [tmsOf, Nat.add_zero]
    exact wid (by omega) (by omega)
  | succ m ih =>
    intro j cl p dd hj hap hp hcl
    refine EvP.succ ?_
    simp only [Fspec_l2Term.l15]
    rw [decide_eq_true (by omega)]
    simp only [cond_true, ha2]
    refine EvP.bind ((hcl p hp).shift) (fun r hr => ?_)
    cases ht : tm d (s.drop p) with
    | none =>
      rw [ht] at hr
      simp only [szI] at hr
      rw [hr]
      refine EvP.pure ?_
      simp [tmsOf, ht]
    | some q =>
      rw [ht] at hr
      simp only [szI] at hr
      obtain ⟨q0, q1⟩ := tm_le d _ _ ht
      rw [List.length_drop] at q1
      rw [hr, show ((q : Int) == 0) = false by simp; omega]
      simp only [cond_false]
      have e : IntKind.i64.wrap ((p : Int) + (q : Int)) = ((p + q : Nat) : Int) := by rw [wid (by omega) (by omega)]; omega
      have post : ∀ dd', EvP (fun k => Fspec_l2Term.j16 (Fspec_l2Term.l15 (cl (k + 1)) k) k s (at0 : Int) a2 (n : Int) (IntKind.i64.wrap ((p : Int) + (q : Int))) dd' (j : Int)) (fun r => r.1 = match tmsOf (tm d) (m + 1) (s.drop p) with | some q => (((p + q : Nat) : Int) - (at0 : Int)) | none => 0) := by
        intro dd'
        simp only [Fspec_l2Term.j16]
        rw [e, wid1 (by omega)]
        refine (ih (j + 1) (fun k => cl (k + 1)) (p + q) dd' (by omega) (by omega) (by omega) (fun i hi => (hcl i hi).shift)).mono fun r hr => ?_
        rw [hr]
        simp only [tmsOf, ht]
        rw [List.drop_drop]
        cases tmsOf (tm d) m (s.drop (p + q)) with
        | none => rfl
        | some q2 => simp only; omega
      refine EvP.ite (fun _ => post _) (fun _ => post _)
theorem sTerm (s : List UInt8) (hs : s.length ≤ 1048576) : ∀ (d : Nat) (i : Nat), d ≤ 100 → i ≤ s.length → EvP (fun k => Fspec_l2Term k s (i : Int) (d : Int)) (fun r => r.1 = szI (tm d (s.drop i))) := by
  intro d
  induction d with
  | zero =>
    intro i _ hi
    refine EvP.succ ?_
    simp only [Fspec_l2Term]
    refine EvP.ite (fun _ => EvP.pure (by simp [tm, szI])) (fun _ => ?_)
    rw [decide_eq_true (by omega)]
    exact EvP.pure (by simp [tm, szI])
  | succ d ih =>
    intro i hd hi
    refine EvP.succ ?_
    simp only [Fspec_l2Term]
    by_cases hl : i < s.length
    · obtain ⟨c, t, hct⟩ := drop_cons_ex hl
      obtain ⟨hc, ht, _⟩ := at?_drop hct
      have htl : t.length = s.length - (i + 1) := by rw [← ht, List.length_drop]
      rw [decide_eq_false (p := (i : Int) ≥ (s.length : Int)) (by omega), decide_eq_false (p := ((d + 1 : Nat) : Int) < 1) (by omega), wid1 (by omega), cutEnd (by omega), ht]
      simp only [cond_false, Option.bind_some]
      refine EvP.bindE (sReadVar t (by omega)) ?_
      rw [hct]
      cases hdv : dv 7 t with
      | none => simp only [rvP, tm, hdv]; exact EvP.pure rfl
      | some q =>
        obtain ⟨n, z⟩ := q
        simp only [rvP, tm, hdv]
        obtain ⟨z1, z2, z3, _, zn⟩ := dv_ok hdv
        have hn : n < 562949953421312 := Nat.lt_of_lt_of_le zn (by have := Nat.pow_le_pow_right (n := 128) (by omega) z2; omega)
        rw [show ((z : Int) == 0) = false by simp; omega]
        simp only [cond_false]
        refine EvP.at? hc ?_
        have e1 : IntKind.i64.wrap (((i + 1 : Nat) : Int) + (z : Int)) = ((i + 1 + z : Nat) : Int) := by rw [wid (by omega) (by omega)]; omega
        have e2 : IntKind.i64.wrap (1 + (z : Int)) = ((1 + z : Nat) : Int) := by rw [wid (by omega) (by omega)]; omega
        have e3 : IntKind.i64.wrap (((d + 1 : Nat) : Int) - 1) = (d : Int) := by rw [wid (by omega) (by omega)]; omega
        have e4 : IntKind.i64.wrap ((s.length : Int) - ((i + 1 + z : Nat) : Int)) = ((s.length - (i + 1 + z) : Nat) : Int) := by rw [wid (by omega) (by omega)]; omega
        have ed : t.drop z = s.drop (i + 1 + z) := by rw [← ht, List.drop_drop]
        rw [e1, e2, e3, e4]
        refine EvP.ite (fun ha => ?_) (fun ha => ?_)
        · have ha := eq_of_beq ha
          rw [if_pos ha]
          refine EvP.ite (fun h1 => EvP.pure ?_) (fun h1 => ?_)
          · have := of_decide_eq_true h1
            rw [if_neg (by omega)]; rfl
          · have h1 := of_decide_eq_false h1
            refine EvP.ite (fun h2 => EvP.pure ?_) (fun h2 => EvP.pure ?_)
            · have := of_decide_eq_true h2
              rw [if_neg (by omega)]; rfl
            · have := of_decide_eq_false h2
              rw [if_pos (by omega)]
              simp only [szI]
              rw [wid (by omega) (by omega)]; omega
        rw [if_neg (fun e => by rw [e] at ha; simp at ha)]
        refine EvP.ite (fun hk => ?_) (fun hk => ?_)
        · have hk := eq_of_beq hk
          rw [if_pos hk]
          simp only [sIn, Option.bind_some, isIn]
          refine EvP.ite (fun h1 => EvP.pure ?_) (fun h1 => EvP.pure ?_)
          · rw [if_neg (fun h => by rw [decide_eq_true (by omega)] at h1; cases h1)]; rfl
          · have := of_decide_eq_true (by simpa using h1 : decide ((1 : Int) ≤ (n : Int) ∧ (n : Int) ≤ 1000000) = true)
            rw [if_pos (by omega)]; rfl
        rw [if_neg (fun e => by rw [e] at hk; simp at hk)]
        refine EvP.ite (fun hss => ?_) (fun hss => ?_)
        · have hss := eq_of_beq hss
          rw [if_pos hss, ed]
          refine EvP.bind (ih (i + 1 + z) (by omega) (by omega)) (fun r hr => ?_)
          cases ht2 : tm d (s.drop (i + 1 + z)) with
          | none =>
            rw [ht2] at hr; simp only [szI] at hr
            rw [hr]
            refine EvP.pure ?_
            split <;> rfl
          | some q =>
            rw [ht2] at hr; simp only [szI] at hr
            obtain ⟨q0, q1⟩ := tm_le d _ _ ht2
            rw [List.length_drop] at q1
            rw [hr, show ((q : Int) == 0) = false by simp; omega]
            simp only [cond_false, sIn, Option.bind_some, isIn]
            refine EvP.ite (fun h1 => EvP.pure ?_) (fun h1 => EvP.pure ?_)
            · rw [if_neg (fun h => by rw [decide_eq_true (by omega)] at h1; cases h1)]; rfl
            · have := of_decide_eq_true (by simpa using h1 : decide ((1 : Int) ≤ (n : Int) ∧ (n : Int) ≤ 1000000) = true)
              rw [if_pos (by omega)]
              simp only [szI]
              rw [wid (by omega) (by omega)]; omega
        rw [if_neg (fun e => by rw [e] at hss; simp at hss)]
        refine EvP.ite (fun hli => ?_) (fun hli => ?_)
        · have hli := eq_of_beq hli
          rw [if_pos hli, ed]
          refine EvP.ite (fun h1 => EvP.pure ?_) (fun h1 => ?_)
          · have := of_decide_eq_true h1
            rw [if_neg (by omega)]; rfl
          · have h1 := of_decide_eq_false h1
            rw [if_pos (by omega)]
            refine (sTermL s hs d (by omega) i ((d + 1 : Nat) : Int) e3 n (by omega) n 0 (fun k => Fspec_l2Term k) (i + 1 + z) 0 (by omega) (by omega) (by omega) (fun j hj => ih j (by omega) hj)).mono fun r hr => ?_
            rw [hr]
            cases tmsOf (tm d) n (s.drop (i + 1 + z)) with
            | none => rfl
            | some q => simp only [szI]; omega
        · rw [if_neg (fun e => by rw [e] at hli; simp at hli)]
          exact EvP.pure rfl
    · rw [decide_eq_true (p := (i : Int) ≥ (s.length : Int)) (by omega)]
      refine EvP.pure ?_
      have : s.drop i = [] := List.drop_of_length_le (by omega)
      rw [this]; simp [tm, szI]
def tmOk (s : List UInt8) : Bool := match tm 8 s with
  | some m => decide (m = s.length ∧ m ≤ 900)
  | none => false
theorem sTermOk (s : List UInt8) (hs : s.length ≤ 1048576) : Ev (fun k => Fspec_TermOk k s) (tmOk s) := by
  simp only [Fspec_TermOk]
  refine EvP.ev (EvP.bind (sTerm s hs 8 0 (by omega) (by omega)) (fun r hr => ?_))
  rw [List.drop_zero] at hr
  unfold tmOk
  cases ht : tm 8 s with
  | none =>
    rw [ht] at hr; simp only [szI] at hr
    rw [hr]; exact EvP.pure rfl
  | some m =>
    rw [ht] at hr; simp only [szI] at hr
    obtain ⟨h0, h1⟩ := tm_le 8 s m ht
    rw [hr, decide_eq_true (by omega)]
    simp only [cond_true]
    refine EvP.ite (fun h => EvP.pure ?_) (fun h => EvP.pure ?_)
    · have h := eq_of_beq h
      exact decide_eq_decide.2 (by omega)
    · have h : (m : Int) ≠ (s.length : Int) := fun e => by rw [e] at h; simp at h
      rw [decide_eq_false (by omega)]
theorem iVarAt (s : List UInt8) (hs : s.length ≤ 1048576) (i : Nat) (hi : i ≤ s.length) : Ev (fun k => Fimpl_varAt k s (i : Int)) (match dv 7 (s.drop i) with | some (n, z) => ((n : Int), ((i + z : Nat) : Int)) | none => (-1, (i : Int))) := by
  simp only [Fimpl_varAt]
  rw [cutEnd hi]
  simp only [Option.bind_some]
  refine Ev.bind (iReadVar _ (by rw [List.length_drop]; omega)) ?_
  simp only [rvP]
  cases hdv : dv 7 (s.drop i) with
  | none => exact Ev.pure _
  | some q =>
    obtain ⟨n, z⟩ := q
    obtain ⟨z1, z2, z3, _, _⟩ := dv_ok hdv
    simp only
    rw [show ((z : Int) == 0) = false by simp; omega, show IntKind.i64.wrap ((i : Int) + (z : Int)) = ((i + z : Nat) : Int) by rw [wid (by omega) (by omega)]; omega]
    exact Ev.pure _
def endI (i : Nat) : Option Nat → Int
  | some m => ((i + m : Nat) : Int)
  | none => -1
theorem iTermL (s : List UInt8) (d : Nat) (hd : d ≤ 100) (a2 : Int) (ha2 : IntKind.i64.wrap (a2 - 1) = (d : Int)) (n : Nat) (hn : n ≤ 12) (hs : s.length ≤ 1048576) : ∀ (m j : Nat) (cl : Nat → List UInt8 → Int → Int → Option Int) (p : Nat), j + m = n → p ≤ s.length →
    (∀ i, i ≤ s.length → Ev (fun k => cl k s (i : Int) (d : Int)) (endI i (tm d (s.drop i)))) →
    Ev (fun k => Fimpl_termAt.l4 (cl k) k s a2 (n : Int) (p : Int) (j : Int)) (endI p (tmsOf (tm d) m (s.drop p))) := by
  intro m
  induction m with
  | zero =>
    intro j cl p hj hp hcl
    refine Ev.succ ?_
    simp only [Fimpl_termAt.l4]
    rw [decide_eq_false (by omega)]
    exact Ev.pure _
  | succ m ih =>
    intro j cl p hj hp hcl
    refine Ev.succ ?_
    simp only [Fimpl_termAt.l4]
    rw [decide_eq_true (p := (j : Int) < (n : Int)) (by omega), decide_eq_true (p := (p : Int) ≥ 0) (by omega)]
    simp only [cond_true, ha2]
    refine Ev.bind (hcl p hp).shift ?_
    cases ht : tm d (s.drop p) with
    | none =>
      simp only [endI]
      refine Ev.succ ?_
      simp only [Fimpl_termAt.l4]
      refine Ev.ite (fun _ => ?_) (fun _ => (Ev.pure _).to ?_)
      · rw [decide_eq_false (by omega)]
        refine (Ev.pure _).to ?_
        simp [tmsOf, ht]
      · simp [tmsOf, ht]
    | some q =>
      obtain ⟨q0, q1⟩ := tm_le d _ _ ht
      rw [List.length_drop] at q1
      simp only [endI]
      rw [wid1 (by omega)]
      refine (ih (j + 1) (fun k => cl (k + 1)) (p + q) (by omega) (by omega) (fun i hi => (hcl i hi).shift)).to ?_
      simp only [tmsOf, ht]
      rw [List.drop_drop]
      cases tmsOf (tm d) m (s.drop (p + q)) with
      | none => rfl
      | some q2 => simp only [endI]; omega
theorem iKey (k : Nat) (n : Int) : Fimpl_isKey k n = some (isIn n 1 1000000) := by
  simp only [Fimpl_isKey, iIn, Option.bind_some]
theorem iTerm (s : List UInt8) (hs : s.length ≤ 1048576) : ∀ (d : Nat) (i : Nat), d ≤ 100 → i ≤ s.length → Ev (fun k => Fimpl_termAt k s (i : Int) (d : Int)) (endI i (tm d (s.drop i))) := by
  intro d
  induction d with
  | zero =>
    intro i _ hi
    refine Ev.succ ?_
    simp only [Fimpl_termAt]
    refine Ev.ite (fun _ => (Ev.pure _).to (by simp [tm, endI])) (fun _ => ?_)
    rw [decide_eq_true (by omega)]
    exact (Ev.pure _).to (by simp [tm, endI])
  | succ d ih =>
    intro i hd hi
    refine Ev.succ ?_
    simp only [Fimpl_termAt]
    by_cases hl : i < s.length
    · obtain ⟨c, t, hct⟩ := drop_cons_ex hl
      obtain ⟨hc, ht, _⟩ := at?_drop hct
      have htl : t.length = s.length - (i + 1) := by rw [← ht, List.length_drop]
      rw [decide_eq_false (p := (i : Int) ≥ (s.length : Int)) (by omega), decide_eq_false (p := ((d + 1 : Nat) : Int) < 1) (by omega), wid1 (by omega)]
      simp only [cond_false]
      refine Ev.bind (iVarAt s hs (i + 1) (by omega)) ?_
      refine Ev.at? hc ?_
      rw [ht, hct]
      simp only [iIn, iKey, Option.bind_some]
      have e3 : IntKind.i64.wrap (((d + 1 : Nat) : Int) - 1) = (d : Int) := by rw [wid (by omega) (by omega)]; omega
      cases hdv : dv 7 t with
      | none =>
        simp only [tm, hdv, show isIn (-1) 0 40 = false from rfl, show isIn (-1) 1 1000000 = false from rfl, show isIn (-1) 0 12 = false from rfl, Bool.not_false, cond_true]
        refine Ev.ite (fun _ => Ev.pure _) (fun _ => Ev.ite (fun _ => Ev.pure _) (fun _ => Ev.ite (fun _ => Ev.pure _) (fun _ => Ev.ite (fun _ => Ev.pure _) (fun _ => Ev.pure _))))
      | some q =>
        obtain ⟨n, z⟩ := q
        obtain ⟨z1, z2, z3, _, zn⟩ := dv_ok hdv
        have hn : n < 562949953421312 := Nat.lt_of_lt_of_le zn (by have := Nat.pow_le_pow_right (n := 128) (by omega) z2; omega)
        simp only [tm, hdv]
        have e4 : IntKind.i64.wrap ((s.length : Int) - ((i + 1 + z : Nat) : Int)) = ((s.length - (i + 1 + z) : Nat) : Int) := by rw [wid (by omega) (by omega)]; omega
        have ed : t.drop z = s.drop (i + 1 + z) := by rw [← ht, List.drop_drop]
        rw [e3, e4]
        refine Ev.ite (fun ha => ?_) (fun ha => ?_)
        · have ha := eq_of_beq ha
          rw [if_pos ha]
          simp only [isIn]
          refine Ev.ite (fun h1 => (Ev.pure _).to ?_) (fun h1 => ?_)
          · rw [if_neg (fun h => by rw [decide_eq_true (by omega)] at h1; cases h1)]; rfl
          · have h1 := of_decide_eq_true (by simpa using h1 : decide ((0 : Int) ≤ (n : Int) ∧ (n : Int) ≤ 40) = true)
            refine Ev.ite (fun h2 => (Ev.pure _).to ?_) (fun h2 => (Ev.pure _).to ?_)
            · have := of_decide_eq_true h2
              rw [if_neg (by omega)]; rfl
            · have := of_decide_eq_false h2
              rw [if_pos (by omega)]
              simp only [endI]
              rw [wid (by omega) (by omega)]; omega
        rw [if_neg (fun e => by rw [e] at ha; simp at ha)]
        refine Ev.ite (fun hk => ?_) (fun hk => ?_)
        · have hk := eq_of_beq hk
          rw [if_pos hk]
          simp only [isIn]
          refine Ev.ite (fun h1 => (Ev.pure _).to ?_) (fun h1 => (Ev.pure _).to ?_)
          · rw [if_neg (fun h => by rw [decide_eq_true (by omega)] at h1; cases h1)]; rfl
          · have := of_decide_eq_true (by simpa using h1 : decide ((1 : Int) ≤ (n : Int) ∧ (n : Int) ≤ 1000000) = true)
            rw [if_pos (by omega)]; simp only [endI]; omega
        rw [if_neg (fun e => by rw [e] at hk; simp at hk)]
        have swap : ∀ (x y : Option Nat), (if c = 115 then x else if c = 108 then y else none) = (if c = 108 then y else if c = 115 then x else none) := by
          intro x y
          by_cases h1 : c = 115
          · subst h1; rfl
          · rw [if_neg h1, if_neg h1]
        rw [swap]
        refine Ev.ite (fun hli => ?_) (fun hli => ?_)
        · have hli := eq_of_beq hli
          rw [if_pos hli, ed]
          simp only [isIn]
          refine Ev.ite (fun h1 => (Ev.pure _).to ?_) (fun h1 => ?_)
          · rw [if_neg (fun h => by rw [decide_eq_true (by omega)] at h1; cases h1)]; rfl
          · have h1 := of_decide_eq_true (by simpa using h1 : decide ((0 : Int) ≤ (n : Int) ∧ (n : Int) ≤ 12) = true)
            rw [if_pos (by omega)]
            refine (iTermL s d (by omega) ((d + 1 : Nat) : Int) e3 n (by omega) hs n 0 (fun k => Fimpl_termAt k) (i + 1 + z) (by omega) (by omega) (fun j hj => ih j (by omega) hj)).to ?_
            cases tmsOf (tm d) n (s.drop (i + 1 + z)) with
            | none => rfl
            | some q => simp only [endI]; omega
        rw [if_neg (fun e => by rw [e] at hli; simp at hli)]
        refine Ev.ite (fun hss => ?_) (fun hss => ?_)
        · have hss := eq_of_beq hss
          rw [if_pos hss, ed]
          simp only [isIn]
          refine Ev.ite (fun h1 => (Ev.pure _).to ?_) (fun h1 => ?_)
          · rw [if_neg (fun h => by rw [decide_eq_true (by omega)] at h1; cases h1)]; rfl
          · have := of_decide_eq_true (by simpa using h1 : decide ((1 : Int) ≤ (n : Int) ∧ (n : Int) ≤ 1000000) = true)
            rw [if_pos (by omega)]
            refine Ev.bind (ih (i + 1 + z) (by omega) (by omega)) ((Ev.pure _).to ?_)
            cases tm d (s.drop (i + 1 + z)) with
            | none => rfl
            | some q => simp only [endI]; omega
        · rw [if_neg (fun e => by rw [e] at hss; simp at hss)]
          exact Ev.pure _
    · rw [decide_eq_true (p := (i : Int) ≥ (s.length : Int)) (by omega)]
      refine (Ev.pure _).to ?_
      have : s.drop i = [] := List.drop_of_length_le (by omega)
      rw [this]; simp [tm, endI]
theorem iTermOk (s : List UInt8) (hs : s.length ≤ 1048576) : Ev (fun k => Fimpl_TermOk k s) (tmOk s) := by
  simp only [Fimpl_TermOk, iIn, Option.bind_some]
  refine Ev.ite (fun h => ?_) (fun h => (Ev.pure _).to ?_)
  · have h := of_decide_eq_true (by simpa [isIn] using h : decide ((1 : Int) ≤ (s.length : Int) ∧ (s.length : Int) ≤ 900) = true)
    refine Ev.bind (iTerm s hs 8 0 (by omega) (by omega)) ((Ev.pure _).to ?_)
    rw [List.drop_zero]
    unfold tmOk
    cases ht : tm 8 s with
    | none =>
      simp only [endI]
      exact beq_eq_false_iff_ne.2 (by omega)
    | some m =>
      simp only [endI, Nat.zero_add]
      by_cases e : m = s.length
      · rw [e, decide_eq_true (by omega)]; simp
      · rw [decide_eq_false (by omega)]; exact beq_eq_false_iff_ne.2 (by omega)
  · unfold tmOk
    cases ht : tm 8 s with
    | none => rfl
    | some m =>
      obtain ⟨h0, h1⟩ := tm_le 8 s m ht
      simp only
      rw [decide_eq_false (fun h2 => by unfold isIn at h; rw [decide_eq_true (by omega)] at h; cases h)]
def okT (s : List UInt8) : List UInt8 := if tmOk s then s else []
theorem iOk (s : List UInt8) (hs : s.length ≤ 1048576) : Ev (fun k => Fimpl_term k s) (okT s) := by
  simp only [Fimpl_term]
  refine Ev.bind (iTermOk s hs) ?_
  unfold okT
  cases tmOk s <;> exact Ev.pure _
theorem tmOk_len {s : List UInt8} (h : tmOk s = true) : s.length ≤ 900 := by
  unfold tmOk at h
  split at h
  · have := of_decide_eq_true h; omega
  · cases h
theorem okT_len (s : List UInt8) : (okT s).length ≤ 900 := by
  unfold okT
  split
  · rename_i h; exact tmOk_len h
  · simp
def atomS (d : List UInt8) : List UInt8 := if d.length ≤ 40 then okT (97 :: (varE d.length ++ d)) else []
theorem atomS_len (d : List UInt8) : (atomS d).length ≤ 900 := by
  unfold atomS
  split
  · exact okT_len _
  · simp
theorem tmOk_nil : tmOk [] = false := by decide +kernel
theorem tmOk_big {d : List UInt8} (h : 40 < d.length) (h2 : d.length ≤ 1048576) : tmOk (97 :: (varE d.length ++ d)) = false := by
  unfold tmOk
  simp only [tm, varE_dv (f := 6) (n := d.length) (t := d) (by omega)]
  rw [if_pos trivial, if_neg (by omega)]
theorem iAtom (d : List UInt8) (hd : d.length ≤ 1000000) : Ev (fun k => Fimpl_Atom k d) (atomS d) := by
  simp only [Fimpl_Atom]
  unfold atomS
  refine Ev.bind (iVar _) ?_
  rw [varI_nat _ (by omega)]
  have hv := varE_len 6 d.length (by omega)
  rw [decide_eq_true (by simp; omega), decide_eq_true (by simp; omega)]
  refine Ev.bind (iOk _ (by simp; omega)) ((Ev.pure _).to ?_)
  have e : [97] ++ varE d.length ++ d = 97 :: (varE d.length ++ d) := by simp
  rw [e]
  split
  · rfl
  · rename_i h
    unfold okT
    rw [tmOk_big (by omega) (by omega)]; rfl
def numS (n : Int) : List UInt8 := if varI n = [] then [] else atomS (varI n)
theorem numS_len (n : Int) : (numS n).length ≤ 900 := by
  unfold numS
  split
  · simp
  · exact atomS_len _
theorem iNum (n : Int) : Ev (fun k => Fimpl_Num k n) (numS n) := by
  simp only [Fimpl_Num]
  unfold numS
  refine Ev.bind (iVar n) (Ev.ite (fun h => (Ev.pure _).to ?_) (fun h => ?_))
  · rw [if_pos (eq_of_beq h)]
  · rw [if_neg (fun e => by rw [e] at h; cases h)]
    exact Ev.bind (iAtom _ (by have := varI_len n; omega)) (Ev.pure _)
def listS (ps : List (List UInt8)) : List UInt8 := if ps.length ≤ 12 ∧ ps.all tmOk = true then okT (108 :: (varE ps.length ++ ps.flatten)) else []
theorem listS_len (ps : List (List UInt8)) : (listS ps).length ≤ 900 := by
  unfold listS
  split
  · exact okT_len _
  · simp
theorem iListL (ps : List (List UInt8)) (hp : ∀ p ∈ ps, p.length ≤ 1048576) (hl : ps.length ≤ 12) (s0 : List UInt8) (h0 : s0.length ≤ 1000) : Ev (fun k => Fimpl_List.l2 k s0 ps (ps.length : Int) 0) (if ps.all tmOk = true then okT (s0 ++ ps.flatten) else []) := by
  refine Ev.forI (xs := ps) (L := fun k s i => Fimpl_List.l2 k s ps (ps.length : Int) i) (f := fun l s => if l.all tmOk = true then okT (s ++ l.flatten) else []) (I := fun i s => s.length ≤ 1000 + 900 * i) (fun s hs => ?_) (fun i b s hb hi hs hr => ?_) s0 (by simpa using h0)
  · simp only [Fimpl_List.l2, ltD0, cond_false]
    refine Ev.bind (iOk s (by have := hs; omega)) ((Ev.pure _).to (by simp))
  · simp only [Fimpl_List.l2, ltD hi, cond_true]
    refine Ev.at? hb (Ev.bind (iTermOk b (hp b (List.mem_of_getElem? hb))) ?_)
    cases hk : tmOk b with
    | false => exact (Ev.pure _).to (by simp [hk])
    | true =>
      simp only [Bool.not_true, cond_false]
      have := tmOk_len hk
      rw [decide_eq_true (by omega), wid1 (by omega)]
      simp only [cond_true]
      refine (hr (s ++ b) (by simp; omega)).to ?_
      simp [hk]
/-- Too many parts: whatever they are, no term comes of them. -/
theorem iListMany (ps : List (List UInt8)) (hp : ∀ p ∈ ps, p.length ≤ 1048576) (hl : ps.length ≤ 1000) (h12 : 12 < ps.length) : Ev (fun k => Fimpl_List.l2 k ([108] ++ varE ps.length) ps (ps.length : Int) 0) [] := by
  have hv := varE_len 6 ps.length (by omega)
  refine Ev.forI (xs := ps) (L := fun k s i => Fimpl_List.l2 k s ps (ps.length : Int) i) (f := fun l s => []) (I := fun i s => s.length ≤ 1000 + 900 * i ∧ ∃ t, s = 108 :: (varE ps.length ++ t)) (fun s hs => ?_) (fun i b s hb hi hs hr => ?_) _ ⟨by simp; omega, [], by simp⟩
  · simp only [Fimpl_List.l2, ltD0, cond_false]
    obtain ⟨h1, t, rfl⟩ := hs
    refine Ev.bind (iOk _ (by omega)) ((Ev.pure _).to ?_)
    unfold okT
    have : tmOk (108 :: (varE ps.length ++ t)) = false := by
      unfold tmOk
      simp only [tm, varE_dv (f := 6) (n := ps.length) (t := t) (by omega)]
      rw [if_neg (by decide), if_neg (by decide), if_neg (by decide), if_pos trivial, if_neg (by omega)]
    rw [this]; rfl
  · simp only [Fimpl_List.l2, ltD hi, cond_true]
    obtain ⟨h1, t, rfl⟩ := hs
    refine Ev.at? hb (Ev.bind (iTermOk b (hp b (List.mem_of_getElem? hb))) ?_)
    cases hk : tmOk b with
    | false => exact Ev.pure _
    | true =>
      simp only [Bool.not_true, cond_false]
      have := tmOk_len hk
      rw [decide_eq_true (by omega), wid1 (by omega)]
      simp only [cond_true]
      exact hr _ ⟨by rw [List.length_append]; omega, t ++ b, by simp⟩
theorem iList (ps : List (List UInt8)) (hp : ∀ p ∈ ps, p.length ≤ 1048576) (hl : ps.length ≤ 1000) : Ev (fun k => Fimpl_List k ps) (listS ps) := by
  simp only [Fimpl_List]
  unfold listS
  refine Ev.bind (iVar _) ?_
  rw [varI_nat _ (by omega)]
  have hv := varE_len 6 ps.length (by omega)
  rw [decide_eq_true (by simp; omega)]
  simp only [cond_true]
  by_cases h : ps.length ≤ 12
  · refine (iListL ps hp h ([108] ++ varE ps.length) (by simp; omega)).to ?_
    by_cases ha : ps.all tmOk = true
    · rw [if_pos ha, if_pos ⟨by omega, ha⟩]; simp
    · rw [if_neg ha, if_neg (fun h => ha h.2)]
  · rw [if_neg (fun h2 => h h2.1)]
    exact iListMany ps hp hl (by omega)
def numsS (l : List Int) : List UInt8 := if l.all (fun n => numS n != []) = true then listS (l.map numS) else []
theorem numsS_len (l : List Int) : (numsS l).length ≤ 900 := by
  unfold numsS
  split
  · exact listS_len _
  · simp
theorem map_num_len {l : List Int} : ∀ p ∈ l.map numS, p.length ≤ 1048576 := by
  intro p hp
  obtain ⟨n, _, rfl⟩ := List.mem_map.1 hp
  have := numS_len n
  omega
theorem iNums (l : List Int) (hl : l.length ≤ 1000) : Ev (fun k => Fimpl_Nums k l) (numsS l) := by
  simp only [Fimpl_Nums]
  have key : ∀ (m i : Nat), i + m = l.length → (l.take i).all (fun n => numS n != []) = true → Ev (fun k => Fimpl_Nums.l2 k ((l.take i).map numS) l (l.length : Int) (i : Int)) (numsS l) := by
    intro m
    induction m with
    | zero =>
      intro i hi ha
      refine Ev.succ ?_
      simp only [Fimpl_Nums.l2]
      rw [decide_eq_false (by omega)]
      simp only [cond_false]
      rw [List.take_of_length_le (by omega)] at ha ⊢
      refine Ev.bind (iList _ map_num_len (by simp; omega)) ((Ev.pure _).to ?_)
      unfold numsS; rw [if_pos ha]
    | succ m ih =>
      intro i hi ha
      refine Ev.succ ?_
      simp only [Fimpl_Nums.l2]
      rw [decide_eq_true (p := (i : Int) < (l.length : Int)) (by omega)]
      simp only [cond_true]
      obtain ⟨b, hb⟩ := atLt (xs := l) (i := i) (by omega)
      refine Ev.at? hb (Ev.bind (iNum b) (Ev.ite (fun he => (Ev.pure _).to ?_) (fun he => ?_)))
      · unfold numsS
        rw [if_neg]
        intro h2
        have := List.all_eq_true.1 h2 b (List.mem_of_getElem? hb)
        simp [eq_of_beq he] at this
      · rw [decide_eq_true (by simp; omega), wid1 (by omega)]
        simp only [cond_true]
        have e : (l.take i).map numS ++ [numS b] = (l.take (i + 1)).map numS := by rw [take_succ_get hb]; simp
        rw [e]
        refine ih (i + 1) (by omega) ?_
        rw [take_succ_get hb, List.all_append, ha]
        simp only [List.all_cons, List.all_nil, Bool.and_true, Bool.true_and]
        unfold bne; rw [he]; rfl
  exact key l.length 0 (by omega) (by simp)
theorem tmsOf_mono {f g : List UInt8 → Option Nat} (h : ∀ s m, f s = some m → g s = some m) : ∀ (n : Nat) (s : List UInt8) (m : Nat), tmsOf f n s = some m → tmsOf g n s = some m
  | 0, s, m, h1 => h1
  | n + 1, s, m, h1 => by
    simp only [tmsOf] at h1 ⊢
    split at h1
    · rename_i a ha
      rw [h s a ha]
      simp only
      split at h1
      · rename_i b hb
        rw [tmsOf_mono h n _ b hb]; exact h1
      · cases h1
    · cases h1
theorem tm_mono : ∀ (d : Nat) (s : List UInt8) (m : Nat), tm d s = some m → tm (d + 1) s = some m
  | 0, s, m, h => by simp [tm] at h
  | d + 1, [], m, h => by simp [tm] at h
  | d + 1, c :: s, m, h => by
    rw [tm] at h ⊢
    cases hd : dv 7 s with
    | none => rw [hd] at h; cases h
    | some p =>
      obtain ⟨n, z⟩ := p
      rw [hd] at h
      simp only at h ⊢
      by_cases h1 : c = 97
      · rw [if_pos h1] at h ⊢; exact h
      rw [if_neg h1] at h ⊢
      by_cases h2 : c = 107
      · rw [if_pos h2] at h ⊢; exact h
      rw [if_neg h2] at h ⊢
      by_cases h3 : c = 115
      · rw [if_pos h3] at h ⊢
        by_cases h5 : 1 ≤ n ∧ n ≤ 1000000
        · rw [if_pos h5] at h ⊢
          cases ht : tm d (s.drop z) with
          | none => rw [ht] at h; cases h
          | some q => rw [ht] at h; rw [tm_mono d _ q ht]; exact h
        · rw [if_neg h5] at h; cases h
      rw [if_neg h3] at h ⊢
      by_cases h4 : c = 108
      · rw [if_pos h4] at h ⊢
        by_cases h5 : n ≤ 12
        · rw [if_pos h5] at h ⊢
          cases ht : tmsOf (tm d) n (s.drop z) with
          | none => rw [ht] at h; cases h
          | some q => rw [ht] at h; rw [tmsOf_mono (tm_mono d) n _ q ht]; exact h
        · rw [if_neg h5] at h; cases h
      · rw [if_neg h4] at h; cases h
/-- The first parts of a text. -/
def partsF (f : List UInt8 → Option Nat) : Nat → List UInt8 → List (List UInt8)
  | 0, _ => []
  | n + 1, s => match f s with
    | some m => s.take m :: partsF f n (s.drop m)
    | none => []
theorem tmOk_cons {s : List UInt8} (h : tmOk s = true) : ∃ c t n z, s = c :: t ∧ dv 7 t = some (n, z) ∧ tm 8 s = some s.length ∧ s.length ≤ 900 := by
  unfold tmOk at h
  split at h
  · rename_i m hm
    have h := of_decide_eq_true h
    cases s with
    | nil => simp [tm] at hm
    | cons c t =>
      cases hd : dv 7 t with
      | none => rw [tm, hd] at hm; cases hm
      | some p => exact ⟨c, t, p.1, p.2, rfl, hd, by rw [hm, h.1], by omega⟩
  · cases h
/-- A list: how its parts follow. -/
theorem tmOk_list {t : List UInt8} {n z : Nat} (h : tmOk (108 :: t) = true) (hd : dv 7 t = some (n, z)) : n ≤ 12 ∧ tmsOf (tm 8) n (t.drop z) = some (t.length - z) := by
  obtain ⟨c, t', n', z', e, hd', hm, _⟩ := tmOk_cons h
  simp only [List.cons.injEq] at e
  obtain ⟨rfl, rfl⟩ := e
  rw [hd] at hd'
  simp only [Option.some.injEq, Prod.mk.injEq] at hd'
  obtain ⟨rfl, rfl⟩ := hd'
  rw [tm, hd] at hm
  simp only at hm
  rw [if_neg (by decide), if_neg (by decide), if_neg (by decide), if_pos trivial] at hm
  by_cases h5 : n ≤ 12
  · rw [if_pos h5] at hm
    refine ⟨h5, ?_⟩
    cases ht : tmsOf (tm 7) n (t.drop z) with
    | none => rw [ht] at hm; cases hm
    | some q =>
      rw [ht] at hm
      simp only [Option.some.injEq, List.length_cons] at hm
      rw [tmsOf_mono (tm_mono 7) n _ q ht]
      congr 1; omega
  · rw [if_neg h5] at hm; cases hm
def partsS (s : List UInt8) : List (List UInt8) × Bool :=
  if tmOk s = true then match s with
    | [] => ([], false)
    | c :: t => if c = 108 then match dv 7 t with
      | some (n, z) => (partsF (tm 8) n (t.drop z), true)
      | none => ([], false) else ([], false)
  else ([], false)
theorem sPartsL (s : List UInt8) (hs : s.length ≤ 1048576) : ∀ (m j n p q : Nat) (out : List (List UInt8)), j + m = n → n ≤ 12 → p ≤ s.length → out.length = j → tmsOf (tm 8) m (s.drop p) = some q → Ev (fun k => Fspec_Parts.l4 k s out (n : Int) (p : Int) (j : Int)) (out ++ partsF (tm 8) m (s.drop p), true) := by
  intro m
  induction m with
  | zero =>
    intro j n p q out hj hn hp ho ht
    refine Ev.succ ?_
    simp only [Fspec_Parts.l4]
    rw [decide_eq_false (by omega)]
    exact (Ev.pure _).to (by simp [partsF])
  | succ m ih =>
    intro j n p q out hj hn hp ho ht
    refine Ev.succ ?_
    simp only [Fspec_Parts.l4]
    rw [decide_eq_true (p := (j : Int) < (n : Int)) (by omega)]
    simp only [cond_true]
    simp only [tmsOf] at ht
    cases h1 : tm 8 (s.drop p) with
    | none => rw [h1] at ht; cases ht
    | some a =>
      rw [h1] at ht
      simp only at ht
      obtain ⟨a0, a1⟩ := tm_le 8 _ _ h1
      rw [List.length_drop] at a1
      refine EvP.ev (EvP.bind (sTerm s hs 8 p (by omega) hp) (fun r hr => ?_))
      rw [h1] at hr
      simp only [szI] at hr
      have e : IntKind.i64.wrap ((p : Int) + (a : Int)) = ((p + a : Nat) : Int) := by rw [wid (by omega) (by omega)]; omega
      rw [hr, e, cutN (by omega) (by omega), wid1 (by omega)]
      simp only [Option.bind_some]
      rw [decide_eq_true (by simp; omega)]
      simp only [cond_true]
      cases h2 : tmsOf (tm 8) m ((s.drop p).drop a) with
      | none => rw [h2] at ht; cases ht
      | some b =>
        rw [List.drop_drop] at h2
        refine (ih (j + 1) n (p + a) b _ (by omega) hn (by omega) (by simp; omega) h2).p ?_
        simp only [partsF, h1, List.drop_drop]
        rw [show p + a - p = a by omega]
        simp
theorem sParts (s : List UInt8) (hs : s.length ≤ 1048576) : Ev (fun k => Fspec_Parts k s) (partsS s) := by
  simp only [Fspec_Parts, Fspec_Parts.j2]
  refine Ev.bind (sTermOk s hs) ?_
  unfold partsS
  cases hk : tmOk s with
  | false => exact Ev.pure _
  | true =>
    obtain ⟨c, t, n, z, rfl, hd, hm, _⟩ := tmOk_cons hk
    simp only [Bool.not_true, cond_false, if_true]
    refine Ev.at? (i := 0) (b := c) rfl ?_
    refine Ev.ite (fun hc => (Ev.pure _).to ?_) (fun hc => ?_)
    · rw [if_neg (fun e => by rw [e] at hc; cases hc)]
    · have hc : c = 108 := by simpa using hc
      subst hc
      obtain ⟨h12, htm⟩ := tmOk_list hk hd
      obtain ⟨z1, z2, z3, _, _⟩ := dv_ok hd
      have hcut : cut? ((108 : UInt8) :: t) 1 (((108 : UInt8) :: t).length : Int) = some t := by
        have := cutEnd (xs := (108 : UInt8) :: t) (a := 1) (by simp)
        simpa using this
      rw [hcut, if_pos rfl, hd]
      simp only [Option.bind_some]
      refine Ev.bind (sReadVar t (by simp at hs; omega)) ?_
      simp only [rvP, hd]
      rw [show IntKind.i64.wrap (1 + (z : Int)) = ((1 + z : Nat) : Int) by rw [wid (by omega) (by omega)]; omega]
      have e : ((108 : UInt8) :: t).drop (1 + z) = t.drop z := by rw [Nat.add_comm]; rfl
      have := sPartsL (108 :: t) hs n 0 n (1 + z) (t.length - z) [] (by omega) h12 (by simp; omega) rfl (by rw [e]; exact htm)
      rw [e] at this
      exact this
theorem iIsOf (s : List UInt8) (hs : s.length ≤ 1048576) (c : UInt8) : Ev (fun k => Fimpl_isOf k s c) (tmOk s && s.head? == some c) := by
  simp only [Fimpl_isOf]
  refine Ev.bind (iTermOk s hs) ?_
  cases hk : tmOk s with
  | false => exact Ev.pure _
  | true =>
    obtain ⟨x, t, n, z, rfl, _, _, _⟩ := tmOk_cons hk
    simp only [cond_true]
    refine Ev.at? (i := 0) (b := x) rfl ((Ev.pure _).to ?_)
    simp
theorem iPartsL (s : List UInt8) (hs : s.length ≤ 1048576) : ∀ (m j n p q : Nat) (out : List (List UInt8)), j + m = n → n ≤ 12 → p ≤ s.length → out.length = j → tmsOf (tm 8) m (s.drop p) = some q → Ev (fun k => Fimpl_Parts.l2 k s (p : Int) out (n : Int) (j : Int)) (out ++ partsF (tm 8) m (s.drop p), true) := by
  intro m
  induction m with
  | zero =>
    intro j n p q out hj hn hp ho ht
    refine Ev.succ ?_
    simp only [Fimpl_Parts.l2]
    rw [decide_eq_false (by omega)]
    exact (Ev.pure _).to (by simp [partsF])
  | succ m ih =>
    intro j n p q out hj hn hp ho ht
    refine Ev.succ ?_
    simp only [Fimpl_Parts.l2]
    rw [decide_eq_true (p := (j : Int) < (n : Int)) (by omega)]
    simp only [cond_true]
    simp only [tmsOf] at ht
    cases h1 : tm 8 (s.drop p) with
    | none => rw [h1] at ht; cases ht
    | some a =>
      rw [h1] at ht
      simp only at ht
      obtain ⟨a0, a1⟩ := tm_le 8 _ _ h1
      rw [List.length_drop] at a1
      refine Ev.bind (iTerm s hs 8 p (by omega) hp) ?_
      rw [h1]
      simp only [endI]
      rw [cutN (by omega) (by omega), wid1 (by omega)]
      simp only [Option.bind_some]
      rw [decide_eq_true (by simp; omega)]
      simp only [cond_true]
      cases h2 : tmsOf (tm 8) m ((s.drop p).drop a) with
      | none => rw [h2] at ht; cases ht
      | some b =>
        rw [List.drop_drop] at h2
        refine (ih (j + 1) n (p + a) b _ (by omega) hn (by omega) (by simp; omega) h2).to ?_
        simp only [partsF, h1, List.drop_drop]
        rw [show p + a - p = a by omega]
        simp
theorem iParts (s : List UInt8) (hs : s.length ≤ 1048576) : Ev (fun k => Fimpl_Parts k s) (partsS s) := by
  simp only [Fimpl_Parts]
  refine Ev.bind (iIsOf s hs 108) ?_
  unfold partsS
  cases hk : tmOk s with
  | false => exact Ev.pure _
  | true =>
    obtain ⟨c, t, n, z, rfl, hd, hm, _⟩ := tmOk_cons hk
    simp only [if_true, Bool.true_and, List.head?_cons]
    refine Ev.ite (fun hc => (Ev.pure _).to ?_) (fun hc => ?_)
    · rw [if_neg (fun e => by rw [e] at hc; simp at hc)]
    · have hc : c = 108 := by simpa using hc
      subst hc
      obtain ⟨h12, htm⟩ := tmOk_list hk hd
      obtain ⟨z1, z2, z3, _, _⟩ := dv_ok hd
      have hv := iVarAt ((108 : UInt8) :: t) hs 1 (by simp)
      refine Ev.bind hv ?_
      rw [show ((108 : UInt8) :: t).drop 1 = t from rfl, hd, if_pos rfl]
      simp only
      have e : ((108 : UInt8) :: t).drop (1 + z) = t.drop z := by rw [Nat.add_comm]; rfl
      have := iPartsL (108 :: t) hs n 0 n (1 + z) (t.length - z) [] (by omega) h12 (by simp; omega) rfl (by rw [e]; exact htm)
      rw [e] at this
      exact this
theorem partsF_len (f : List UInt8 → Option Nat) : ∀ (n : Nat) (s : List UInt8), (partsF f n s).length ≤ n ∧ ∀ p ∈ partsF f n s, p.length ≤ s.length
  | 0, s => by simp [partsF]
  | n + 1, s => by
    simp only [partsF]
    split
    · rename_i m _
      obtain ⟨h1, h2⟩ := partsF_len f n (s.drop m)
      refine ⟨by simp; omega, fun p hp => ?_⟩
      rcases List.mem_cons.1 hp with rfl | hp
      · rw [List.length_take]; omega
      · have := h2 p hp; rw [List.length_drop] at this; omega
    · simp
theorem partsS_len (s : List UInt8) : (partsS s).1.length ≤ 12 ∧ ∀ p ∈ (partsS s).1, p.length ≤ 900 := by
  unfold partsS
  by_cases hk : tmOk s = true
  · rw [if_pos hk]
    obtain ⟨c, t, n, z, rfl, hd, hm, hl⟩ := tmOk_cons hk
    simp only
    by_cases hc : c = 108
    · subst hc
      rw [if_pos rfl, hd]
      obtain ⟨h12, _⟩ := tmOk_list hk hd
      obtain ⟨h1, h2⟩ := partsF_len (tm 8) n (t.drop z)
      refine ⟨by simp only; omega, fun p hp => ?_⟩
      have := h2 p hp
      rw [List.length_drop] at this
      simp at hl
      omega
    · rw [if_neg hc]; simp
  · rw [if_neg hk]; simp
theorem partsS_nil {s : List UInt8} (h : (partsS s).2 = false) : (partsS s).1 = [] := by
  unfold partsS at h ⊢
  by_cases hk : tmOk s = true
  · rw [if_pos hk] at h ⊢
    obtain ⟨c, t, n, z, rfl, hd, hm, hl⟩ := tmOk_cons hk
    simp only at h ⊢
    by_cases hc : c = 108
    · rw [if_pos hc, hd] at h; cases h
    · rw [if_neg hc]
  · rw [if_neg hk]
def readAtomS (s : List UInt8) : List UInt8 × Bool :=
  if tmOk s = true then match s with
    | [] => ([], false)
    | c :: t => if c = 97 then match dv 7 t with
      | some (_, z) => (t.drop z, true)
      | none => ([], false) else ([], false)
  else ([], false)
theorem readAtomS_len (s : List UInt8) : (readAtomS s).1.length ≤ s.length := by
  unfold readAtomS
  split
  · split
    · simp
    · split
      · split
        · simp; omega
        · simp
      · simp
  · simp
theorem sReadAtom (s : List UInt8) (hs : s.length ≤ 1048576) : Ev (fun k => Fspec_ReadAtom k s) (readAtomS s) := by
  simp only [Fspec_ReadAtom]
  refine Ev.bind (sTermOk s hs) ?_
  unfold readAtomS
  cases hk : tmOk s with
  | false => exact Ev.pure _
  | true =>
    obtain ⟨c, t, n, z, rfl, hd, hm, _⟩ := tmOk_cons hk
    simp only [Bool.not_true, cond_false, if_true]
    refine Ev.at? (i := 0) (b := c) rfl ?_
    refine Ev.ite (fun hc => (Ev.pure _).to ?_) (fun hc => ?_)
    · rw [if_neg (fun e => by rw [e] at hc; cases hc)]
    · have hc : c = 97 := by simpa using hc
      subst hc
      obtain ⟨z1, z2, z3, _, _⟩ := dv_ok hd
      have hcut : cut? ((97 : UInt8) :: t) 1 (((97 : UInt8) :: t).length : Int) = some t := by
        have := cutEnd (xs := (97 : UInt8) :: t) (a := 1) (by simp)
        simpa using this
      rw [hcut, if_pos rfl, hd]
      simp only [Option.bind_some]
      refine Ev.bind (sReadVar t (by simp at hs; omega)) ?_
      simp only [rvP, hd]
      rw [show IntKind.i64.wrap (1 + (z : Int)) = ((1 + z : Nat) : Int) by rw [wid (by omega) (by omega)]; omega, cutEnd (by simp; omega)]
      refine (Ev.pure _).to ?_
      have e : ((97 : UInt8) :: t).drop (1 + z) = t.drop z := by rw [Nat.add_comm]; rfl
      rw [e]
theorem iReadAtom (s : List UInt8) (hs : s.length ≤ 1048576) : Ev (fun k => Fimpl_ReadAtom k s) (readAtomS s) := by
  simp only [Fimpl_ReadAtom]
  refine Ev.bind (iIsOf s hs 97) ?_
  unfold readAtomS
  cases hk : tmOk s with
  | false => exact Ev.pure _
  | true =>
    obtain ⟨c, t, n, z, rfl, hd, hm, _⟩ := tmOk_cons hk
    simp only [if_true, Bool.true_and, List.head?_cons]
    refine Ev.ite (fun hc => (Ev.pure _).to ?_) (fun hc => ?_)
    · rw [if_neg (fun e => by rw [e] at hc; simp at hc)]
    · have hc : c = 97 := by simpa using hc
      subst hc
      obtain ⟨z1, z2, z3, _, _⟩ := dv_ok hd
      refine Ev.bind (iVarAt ((97 : UInt8) :: t) hs 1 (by simp)) ?_
      rw [show ((97 : UInt8) :: t).drop 1 = t from rfl, hd, if_pos rfl]
      simp only
      rw [cutEnd (by simp; omega)]
      refine (Ev.pure _).to ?_
      have e : ((97 : UInt8) :: t).drop (1 + z) = t.drop z := by rw [Nat.add_comm]; rfl
      rw [e]
def readNumS (s : List UInt8) : Int × Bool := if (readAtomS s).2 = true ∧ (rvP (readAtomS s).1).2 ≠ 0 ∧ (rvP (readAtomS s).1).2 = ((readAtomS s).1.length : Int) then ((rvP (readAtomS s).1).1, true) else (0, false)
theorem sReadNum (s : List UInt8) (hs : s.length ≤ 1048576) : Ev (fun k => Fspec_ReadNum k s) (readNumS s) := by
  simp only [Fspec_ReadNum]
  have hl := readAtomS_len s
  refine Ev.bind (sReadAtom s hs) (Ev.bind (sReadVar _ (by omega)) ?_)
  unfold readNumS
  refine Ev.ite (fun h => (Ev.pure _).to ?_) (fun h => Ev.ite (fun h2 => (Ev.pure _).to ?_) (fun h2 => Ev.ite (fun h3 => (Ev.pure _).to ?_) (fun h3 => (Ev.pure _).to ?_)))
  · rw [if_neg (fun e => by rw [e.1] at h; cases h)]
  · rw [if_neg (fun e => e.2.1 (by simpa using h2))]
  · rw [if_neg (fun e => by rw [e.2.2] at h3; simp at h3)]
  · rw [if_pos ⟨by simpa using h, by simpa using h2, by simpa using h3⟩]
theorem iReadNum (s : List UInt8) (hs : s.length ≤ 1048576) : Ev (fun k => Fimpl_ReadNum k s) (readNumS s) := by
  simp only [Fimpl_ReadNum]
  have hl := readAtomS_len s
  refine Ev.bind (iReadAtom s hs) (Ev.bind (iReadVar _ (by omega)) ?_)
  unfold readNumS
  refine Ev.ite (fun h => (Ev.pure _).to ?_) (fun h => Ev.ite (fun h2 => (Ev.pure _).to ?_) (fun h2 => Ev.ite (fun h3 => (Ev.pure _).to ?_) (fun h3 => (Ev.pure _).to ?_)))
  · rw [if_neg (fun e => by rw [e.1] at h; cases h)]
  · rw [if_neg (fun e => e.2.1 (by simpa using h2))]
  · rw [if_neg (fun e => by rw [e.2.2] at h3; simp at h3)]
  · rw [if_pos ⟨by simpa using h, by simpa using h2, by simpa using h3⟩]
def readNumsS (s : List UInt8) : List Int × Bool := if (partsS s).2 = true ∧ (partsS s).1.all (fun p => (readNumS p).2) = true then ((partsS s).1.map (fun p => (readNumS p).1), true) else ([], false)
theorem readNumsS_nil {s : List UInt8} (h : (readNumsS s).2 = false) : (readNumsS s).1 = [] := by
  unfold readNumsS at h ⊢
  split at h
  · cases h
  · rename_i h2; rw [if_neg h2]
theorem sReadNums (s : List UInt8) (hs : s.length ≤ 1048576) : Ev (fun k => Fspec_ReadNums k s) (readNumsS s) := by
  simp only [Fspec_ReadNums]
  refine Ev.bind (sParts s hs) ?_
  obtain ⟨pl, pe⟩ := partsS_len s
  unfold readNumsS
  generalize (partsS s).2 = ok
  generalize (partsS s).1 = ps at pl pe
  refine (Ev.forI (xs := ps) (L := fun k (st : List Int × Bool) i => Fspec_ReadNums.l12 k st.1 ps st.2 i) (f := fun l st => if st.2 = true ∧ l.all (fun p => (readNumS p).2) = true then (st.1 ++ l.map (fun p => (readNumS p).1), true) else ([], false)) (I := fun i st => st.1.length = i) (fun st hst => ?_) (fun i b st hb hi hst hr => ?_) ([], ok) rfl).to (by simp)
  · simp only [Fspec_ReadNums.l12, ltD0, cond_false]
    cases h : st.2 with
    | false => exact (Ev.pure _).to (by simp)
    | true => exact (Ev.pure _).to (by simp)
  · simp only [Fspec_ReadNums.l12, Fspec_ReadNums.j14, ltD hi, cond_true]
    refine Ev.at? hb (Ev.bind (sReadNum b (by have := pe b (List.mem_of_getElem? hb); omega)) ?_)
    rw [decide_eq_true (by simp; omega), wid1 (by omega)]
    simp only [cond_true]
    refine Ev.ite (fun h => ?_) (fun h => ?_)
    · refine (hr (st.1 ++ [(readNumS b).1], (readNumS b).2) (by simp [hst])).to ?_
      simp [h]
    · refine (hr (st.1 ++ [(readNumS b).1], false) (by simp [hst])).to ?_
      simp [h]
theorem iReadNums (s : List UInt8) (hs : s.length ≤ 1048576) : Ev (fun k => Fimpl_ReadNums k s) (readNumsS s) := by
  simp only [Fimpl_ReadNums]
  refine Ev.bind (iParts s hs) ?_
  obtain ⟨pl, pe⟩ := partsS_len s
  unfold readNumsS
  generalize (partsS s).2 = ok
  generalize (partsS s).1 = ps at pl pe
  refine Ev.ite (fun h => (Ev.pure _).to ?_) (fun h => ?_)
  · rw [if_neg (fun e => by rw [e.1] at h; cases h)]
  · have hok : ok = true := by simpa using h
    subst hok
    refine (Ev.forI (xs := ps) (L := fun k (st : List Int) i => Fimpl_ReadNums.l2 k st ps (ps.length : Int) i) (f := fun l st => if l.all (fun p => (readNumS p).2) = true then (st ++ l.map (fun p => (readNumS p).1), true) else ([], false)) (I := fun i st => st.length = i) (fun st hst => ?_) (fun i b st hb hi hst hr => ?_) [] rfl).to (by simp)
    · simp only [Fimpl_ReadNums.l2, ltD0, cond_false]
      exact (Ev.pure _).to (by simp)
    · simp only [Fimpl_ReadNums.l2, ltD hi, cond_true]
      refine Ev.at? hb (Ev.bind (iReadNum b (by have := pe b (List.mem_of_getElem? hb); omega)) ?_)
      rw [decide_eq_true (by simp; omega), wid1 (by omega)]
      simp only [cond_true]
      cases h : (readNumS b).2 with
      | false => exact (Ev.pure _).to (by simp [h])
      | true =>
        refine (hr (st ++ [(readNumS b).1]) (by simp [hst])).to ?_
        simp [h]
theorem dv_agree {x y : List UInt8} {n z : Nat} (h : dv 7 x = some (n, z)) (e : y.take z = x.take z) : dv 7 y = some (n, z) := by
  obtain ⟨h1, h2, h3, h4, h5⟩ := dv_ok h
  have hn : n < 128 ^ (6 + 1) := Nat.lt_of_lt_of_le h5 (Nat.pow_le_pow_right (by omega) h2)
  have hl : (varE n).length = z := by rw [← h4, List.length_take]; omega
  have := varE_dv (f := 6) (n := n) (t := y.drop z) hn
  rw [← h4, ← e, List.take_append_drop] at this
  rw [this, e, h4, hl]
theorem drop_take_eq {α : Type} {x y : List α} {z q m : Nat} (e : y.take m = x.take m) (h : z + q = m) : (y.drop z).take q = (x.drop z).take q := by
  subst h
  have := congrArg (List.drop z) e
  rw [List.drop_take, List.drop_take] at this
  simpa using this
theorem tmsOf_agree {f : List UInt8 → Option Nat} (hf : ∀ x y m, f x = some m → y.take m = x.take m → f y = some m) : ∀ (n : Nat) (x y : List UInt8) (m : Nat), tmsOf f n x = some m → y.take m = x.take m → tmsOf f n y = some m
  | 0, x, y, m, h, e => h
  | n + 1, x, y, m, h, e => by
    simp only [tmsOf] at h ⊢
    cases h1 : f x with
    | none => rw [h1] at h; cases h
    | some a =>
      rw [h1] at h
      simp only at h
      cases h2 : tmsOf f n (x.drop a) with
      | none => rw [h2] at h; cases h
      | some b =>
        rw [h2] at h
        simp only [Option.some.injEq] at h
        have e1 : y.take a = x.take a := by
          have := congrArg (List.take a) e
          rw [List.take_take, List.take_take, Nat.min_eq_left (by omega)] at this
          exact this
        rw [hf x y a h1 e1]
        simp only
        rw [tmsOf_agree hf n _ (y.drop a) b h2 (drop_take_eq e (by omega))]
        simp only [Option.some.injEq]; omega
theorem tm_agree : ∀ (d : Nat) (x y : List UInt8) (m : Nat), tm d x = some m → y.take m = x.take m → tm d y = some m
  | 0, x, y, m, h, e => by simp [tm] at h
  | d + 1, [], y, m, h, e => by simp [tm] at h
  | d + 1, c :: s, y, m, h, e => by
    obtain ⟨m0, m1⟩ := tm_le _ _ _ h
    obtain ⟨m, rfl⟩ : ∃ j, m = j + 1 := ⟨m - 1, by omega⟩
    cases y with
    | nil => simp at e
    | cons c' y =>
      simp only [List.take_succ_cons, List.cons.injEq] at e
      obtain ⟨rfl, e⟩ := e
      rw [tm] at h ⊢
      have tk : ∀ a, a ≤ m → y.take a = s.take a := fun a ha => by
        have := congrArg (List.take a) e
        rw [List.take_take, List.take_take, Nat.min_eq_left ha] at this
        exact this
      have hyl : m ≤ y.length := by
        have := congrArg List.length e
        simp only [List.length_take, List.length_cons] at this m1
        omega
      cases hd : dv 7 s with
      | none => rw [hd] at h; cases h
      | some p =>
        obtain ⟨n, z⟩ := p
        rw [hd] at h
        simp only at h
        have fin : z ≤ m → dv 7 y = some (n, z) := fun hz => dv_agree hd (tk z hz)
        by_cases h1 : c' = 97
        · rw [if_pos h1] at h
          by_cases h5 : n ≤ 40 ∧ z + n ≤ s.length
          · rw [if_pos h5] at h
            simp only [Option.some.injEq] at h
            rw [fin (by omega)]
            simp only
            rw [if_pos h1, if_pos (by omega)]; congr 1
          · rw [if_neg h5] at h; cases h
        rw [if_neg h1] at h
        by_cases h2 : c' = 107
        · rw [if_pos h2] at h
          by_cases h5 : 1 ≤ n ∧ n ≤ 1000000
          · rw [if_pos h5] at h
            simp only [Option.some.injEq] at h
            rw [fin (by omega)]
            simp only
            rw [if_neg h1, if_pos h2, if_pos h5]; congr 1
          · rw [if_neg h5] at h; cases h
        rw [if_neg h2] at h
        by_cases h3 : c' = 115
        · rw [if_pos h3] at h
          by_cases h5 : 1 ≤ n ∧ n ≤ 1000000
          · rw [if_pos h5] at h
            cases ht : tm d (s.drop z) with
            | none => rw [ht] at h; cases h
            | some q =>
              rw [ht] at h
              simp only [Option.some.injEq] at h
              rw [fin (by omega)]
              simp only
              rw [if_neg h1, if_neg h2, if_pos h3, if_pos h5, tm_agree d _ (y.drop z) q ht (drop_take_eq e (by omega))]
              simp only [Option.some.injEq]; omega
          · rw [if_neg h5] at h; cases h
        rw [if_neg h3] at h
        by_cases h4 : c' = 108
        · rw [if_pos h4] at h
          by_cases h5 : n ≤ 12
          · rw [if_pos h5] at h
            cases ht : tmsOf (tm d) n (s.drop z) with
            | none => rw [ht] at h; cases h
            | some q =>
              rw [ht] at h
              simp only [Option.some.injEq] at h
              rw [fin (by omega)]
              simp only
              rw [if_neg h1, if_neg h2, if_neg h3, if_pos h4, if_pos h5, tmsOf_agree (fun x y m => tm_agree d x y m) n _ (y.drop z) q ht (drop_take_eq e (by omega))]
              simp only [Option.some.injEq]; omega
          · rw [if_neg h5] at h; cases h
        · rw [if_neg h4] at h; cases h
theorem tm8 {s : List UInt8} (h : tmOk s = true) : tm 8 s = some s.length := by obtain ⟨_, _, _, _, _, _, h, _⟩ := tmOk_cons h; exact h
theorem tmOk_of {s : List UInt8} (h : tm 8 s = some s.length) (hl : s.length ≤ 900) : tmOk s = true := by
  unfold tmOk; rw [h]; exact decide_eq_true ⟨rfl, hl⟩
theorem tm_app {p r : List UInt8} (h : tmOk p = true) : tm 8 (p ++ r) = some p.length := tm_agree 8 p (p ++ r) _ (tm8 h) (by simp)
theorem okT_ne {s : List UInt8} (h : okT s ≠ []) : tmOk s = true ∧ okT s = s := by
  unfold okT at h ⊢
  split at h
  · rename_i h1; rw [if_pos h1]; exact ⟨h1, rfl⟩
  · exact absurd rfl h
theorem okT_ok {s : List UInt8} (h : tmOk s = true) : okT s = s := if_pos h
theorem tmOk_ne {s : List UInt8} (h : tmOk s = true) : s ≠ [] := fun e => by rw [e, tmOk_nil] at h; cases h
theorem dv_split {t : List UInt8} {n z : Nat} (h : dv 7 t = some (n, z)) : t = varE n ++ t.drop z ∧ n ≤ 562949953421311 ∧ (varE n).length = z := by
  obtain ⟨h1, h2, h3, h4, h5⟩ := dv_ok h
  have := Nat.lt_of_lt_of_le h5 (Nat.pow_le_pow_right (n := 128) (by omega) h2)
  exact ⟨by rw [← h4, List.take_append_drop], by omega, by rw [← h4, List.length_take]; omega⟩
theorem atom_of {s d : List UInt8} (h : readAtomS s = (d, true)) : atomS d = s ∧ tmOk s = true := by
  unfold readAtomS at h
  by_cases hk : tmOk s = true
  · rw [if_pos hk] at h
    obtain ⟨c, t, n, z, rfl, hd, hm, _⟩ := tmOk_cons hk
    simp only at h
    by_cases hc : c = 97
    · subst hc
      rw [if_pos rfl, hd] at h
      simp only [Prod.mk.injEq, and_true] at h
      subst h
      rw [tm, hd] at hm
      simp only [if_true] at hm
      by_cases h5 : n ≤ 40 ∧ z + n ≤ t.length
      · rw [if_pos h5] at hm
        simp only [Option.some.injEq, List.length_cons] at hm
        have hl : (t.drop z).length = n := by rw [List.length_drop]; omega
        unfold atomS
        rw [if_pos (by omega), hl, ← (dv_split hd).1]
        exact ⟨okT_ok hk, hk⟩
      · rw [if_neg h5] at hm; cases hm
    · rw [if_neg hc] at h; cases h
  · rw [if_neg hk] at h; cases h
theorem readAtom_of {d : List UInt8} (h : atomS d ≠ []) : readAtomS (atomS d) = (d, true) := by
  unfold atomS at h ⊢
  by_cases hd : d.length ≤ 40
  · rw [if_pos hd] at h ⊢
    obtain ⟨h1, h2⟩ := okT_ne h
    rw [h2]
    unfold readAtomS
    rw [if_pos h1]
    simp only [if_true]
    rw [varE_dv (f := 6) (n := d.length) (t := d) (by omega)]
    simp
  · rw [if_neg hd] at h; exact absurd rfl h
theorem partsF_join {f : List UInt8 → Option Nat} : ∀ (n : Nat) (s : List UInt8) (m : Nat), tmsOf f n s = some m → (∀ s m, f s = some m → m ≤ s.length) → (partsF f n s).flatten = s.take m ∧ (partsF f n s).length = n ∧ ∀ p ∈ partsF f n s, ∃ x a, f x = some a ∧ p = x.take a ∧ a ≤ x.length
  | 0, s, m, h, _ => by simp [tmsOf] at h; subst h; simp [partsF]
  | n + 1, s, m, h, hf => by
    simp only [tmsOf] at h
    cases h1 : f s with
    | none => rw [h1] at h; cases h
    | some a =>
      rw [h1] at h
      simp only at h
      cases h2 : tmsOf f n (s.drop a) with
      | none => rw [h2] at h; cases h
      | some b =>
        rw [h2] at h
        simp only [Option.some.injEq] at h
        subst h
        obtain ⟨i1, i2, i3⟩ := partsF_join n _ b h2 hf
        simp only [partsF, h1, List.flatten_cons, List.length_cons, i1, i2]
        refine ⟨?_, trivial, fun p hp => ?_⟩
        · rw [List.take_add]
        · rcases List.mem_cons.1 hp with rfl | hp
          · exact ⟨s, a, h1, rfl, hf s a h1⟩
          · exact i3 p hp
theorem parts_ok {s : List UInt8} {ps : List (List UInt8)} (h : partsS s = (ps, true)) : listS ps = s ∧ tmOk s = true ∧ (∀ p ∈ ps, tmOk p = true) ∧ ps.length ≤ 12 := by
  unfold partsS at h
  by_cases hk : tmOk s = true
  · rw [if_pos hk] at h
    obtain ⟨c, t, n, z, rfl, hd, hm, hl⟩ := tmOk_cons hk
    simp only at h
    by_cases hc : c = 108
    · subst hc
      rw [if_pos rfl, hd] at h
      simp only [Prod.mk.injEq, and_true] at h
      obtain ⟨h12, htm⟩ := tmOk_list hk hd
      obtain ⟨z1, _, _, _, _⟩ := dv_ok hd
      obtain ⟨i1, i2, i3⟩ := partsF_join n (t.drop z) _ htm (fun s m h => (tm_le 8 s m h).2)
      rw [h] at i1 i2 i3
      rw [List.take_of_length_le (by rw [List.length_drop]; omega)] at i1
      have hall : ∀ p ∈ ps, tmOk p = true := fun p hp => by
        obtain ⟨x, a, h1, h2, h3⟩ := i3 p hp
        have hpl : p.length = a := by rw [h2, List.length_take]; omega
        have hfl : p.length ≤ ps.flatten.length := by
          obtain ⟨u, v, huv⟩ := List.append_of_mem hp
          rw [huv]; simp; omega
        refine tmOk_of ?_ (by rw [i1, List.length_drop] at hfl; simp at hl; omega)
        rw [hpl]
        exact tm_agree 8 x p a h1 (by rw [h2, List.take_take]; simp)
      refine ⟨?_, hk, hall, by omega⟩
      unfold listS
      rw [if_pos ⟨by omega, List.all_eq_true.2 hall⟩, i2, i1, ← (dv_split hd).1]
      exact okT_ok hk
    · rw [if_neg hc] at h; cases h
  · rw [if_neg hk] at h; cases h
theorem partsF_of : ∀ (ps : List (List UInt8)), ps.all tmOk = true → partsF (tm 8) ps.length ps.flatten = ps
  | [], _ => rfl
  | p :: ps, h => by
    simp only [List.all_cons, Bool.and_eq_true] at h
    simp only [List.length_cons, partsF, List.flatten_cons, tm_app h.1]
    rw [List.take_left' rfl, List.drop_left' rfl, partsF_of ps h.2]
theorem parts_of {ps : List (List UInt8)} (h : listS ps ≠ []) : partsS (listS ps) = (ps, true) := by
  unfold listS at h ⊢
  by_cases hc : ps.length ≤ 12 ∧ ps.all tmOk = true
  · rw [if_pos hc] at h ⊢
    obtain ⟨h1, h2⟩ := okT_ne h
    rw [h2]
    unfold partsS
    rw [if_pos h1]
    simp only [if_true]
    rw [varE_dv (f := 6) (n := ps.length) (t := ps.flatten) (by omega)]
    simp only
    rw [List.drop_left' rfl, partsF_of ps hc.2]
  · rw [if_neg hc] at h; exact absurd rfl h
theorem num_of {s : List UInt8} {n : Int} (h : readNumS s = (n, true)) : numS n = s ∧ tmOk s = true := by
  unfold readNumS at h
  split at h
  · rename_i hc
    obtain ⟨h1, h2, h3⟩ := hc
    simp only [Prod.mk.injEq, and_true] at h
    have ha : readAtomS s = ((readAtomS s).1, true) := by rw [← h1]
    obtain ⟨a1, a2⟩ := atom_of ha
    generalize (readAtomS s).1 = d at *
    unfold rvP at h h2 h3
    cases hd : dv 7 d with
    | none => rw [hd] at h2; exact absurd rfl h2
    | some p =>
      obtain ⟨m, z⟩ := p
      rw [hd] at h h3
      simp only at h h3
      subst h
      obtain ⟨e1, e2, e3⟩ := dv_split hd
      rw [List.drop_of_length_le (by omega), List.append_nil] at e1
      unfold numS
      rw [varI_nat m e2, if_neg (varE_ne m), ← e1]
      exact ⟨a1, a2⟩
  · cases h
theorem readNum_of {n : Int} (h : numS n ≠ []) : readNumS (numS n) = (n, true) := by
  unfold numS at h ⊢
  by_cases hv : varI n = []
  · rw [if_pos hv] at h; exact absurd rfl h
  · rw [if_neg hv] at h ⊢
    unfold readNumS
    rw [readAtom_of h]
    simp only [true_and]
    unfold varI at hv ⊢
    by_cases hn : 0 ≤ n ∧ n ≤ 562949953421311
    · rw [if_pos hn]
      have := rvP_var (n := n.toNat) (t := []) (by omega)
      rw [List.append_nil] at this
      rw [this]
      simp only
      have := varE_pos n.toNat
      rw [if_pos ⟨by omega, trivial⟩, Int.toNat_of_nonneg hn.1]
    · rw [if_neg hn] at hv; exact absurd rfl hv
theorem nums_of {s : List UInt8} {l : List Int} (h : readNumsS s = (l, true)) : numsS l = s ∧ tmOk s = true := by
  unfold readNumsS at h
  split at h
  · rename_i hc
    obtain ⟨h1, h2⟩ := hc
    simp only [Prod.mk.injEq, and_true] at h
    have hp : partsS s = ((partsS s).1, true) := by rw [← h1]
    obtain ⟨p1, p2, p3, p4⟩ := parts_ok hp
    generalize (partsS s).1 = ps at *
    have e : l.map numS = ps := by
      rw [← h, List.map_map]
      have : ∀ p ∈ ps, (numS ∘ fun p => (readNumS p).1) p = p := fun p hp => by
        have := List.all_eq_true.1 h2 p hp
        exact (num_of (s := p) (n := (readNumS p).1) (by rw [← this])).1
      rw [List.map_congr_left this]; simp
    unfold numsS
    rw [if_pos, e]
    · exact ⟨p1, p2⟩
    · have e2 : (l.all fun n => numS n != []) = (l.map numS).all (fun x => x != []) := by rw [List.all_map]; rfl
      rw [e2, e]
      refine List.all_eq_true.2 fun p hp => ?_
      have := tmOk_ne (p3 p hp)
      simpa using this
  · cases h
theorem readNums_of {l : List Int} (h : numsS l ≠ []) : readNumsS (numsS l) = (l, true) := by
  unfold numsS at h ⊢
  by_cases hc : l.all (fun n => numS n != []) = true
  · rw [if_pos hc] at h ⊢
    unfold readNumsS
    rw [parts_of h]
    simp only [true_and]
    have hr : ∀ n ∈ l, readNumS (numS n) = (n, true) := fun n hn => readNum_of (by have := List.all_eq_true.1 hc n hn; simpa using this)
    rw [if_pos]
    · congr 1
      rw [List.map_map]
      have : ∀ n ∈ l, ((fun p => (readNumS p).1) ∘ numS) n = n := fun n hn => by simp only [Function.comp]; rw [hr n hn]
      rw [List.map_congr_left this]; simp
    · refine List.all_eq_true.2 fun p hp => ?_
      obtain ⟨n, hn, rfl⟩ := List.mem_map.1 hp
      rw [hr n hn]
  · rw [if_neg hc] at h; exact absurd rfl h
def readKeyS (s : List UInt8) : Int × Bool :=
  if tmOk s = true then match s with
    | [] => (0, false)
    | c :: t => if c = 107 then match dv 7 t with
      | some (n, _) => ((n : Int), true)
      | none => (0, false) else (0, false)
  else (0, false)
def openS (s : List UInt8) (k : Int) : List UInt8 × Bool :=
  if tmOk s = true then match s with
    | [] => ([], false)
    | c :: t => if c = 115 then match dv 7 t with
      | some (n, z) => if (n : Int) = k then (t.drop z, true) else ([], false)
      | none => ([], false) else ([], false)
  else ([], false)
def keyS (k : Int) : List UInt8 := okT (107 :: varI k)
def sealS (k : Int) (t : List UInt8) : List UInt8 := if tmOk t = true ∧ 1 ≤ k ∧ k ≤ 1000000 then okT (115 :: (varI k ++ t)) else []
theorem keyS_len (k : Int) : (keyS k).length ≤ 900 := okT_len _
theorem openS_len (s : List UInt8) (k : Int) : (openS s k).1.length ≤ s.length := by
  unfold openS
  split
  · split
    · simp
    · split
      · split
        · split
          · simp; omega
          · simp
        · simp
      · simp
  · simp
theorem openS_nil {s : List UInt8} {k : Int} (h : (openS s k).2 = false) : (openS s k).1 = [] := by
  unfold openS at h ⊢
  split
  · rename_i hk
    rw [if_pos hk] at h
    obtain ⟨c, t, n, z, rfl, hd, hm, _⟩ := tmOk_cons hk
    simp only at h ⊢
    split
    · rename_i hc
      rw [if_pos hc, hd] at h
      rw [hd]
      simp only at h ⊢
      split
      · rename_i hn; rw [if_pos hn] at h; cases h
      · rfl
    · rfl
  · rfl
theorem sReadKey (s : List UInt8) (hs : s.length ≤ 1048576) : Ev (fun k => Fspec_ReadKey k s) (readKeyS s) := by
  simp only [Fspec_ReadKey]
  refine Ev.bind (sTermOk s hs) ?_
  unfold readKeyS
  cases hk : tmOk s with
  | false => exact Ev.pure _
  | true =>
    obtain ⟨c, t, n, z, rfl, hd, hm, _⟩ := tmOk_cons hk
    simp only [Bool.not_true, cond_false, if_true]
    refine Ev.at? (i := 0) (b := c) rfl ?_
    refine Ev.ite (fun hc => (Ev.pure _).to ?_) (fun hc => ?_)
    · rw [if_neg (fun e => by rw [e] at hc; cases hc)]
    · have hc : c = 107 := by simpa using hc
      subst hc
      have hcut : cut? ((107 : UInt8) :: t) 1 (((107 : UInt8) :: t).length : Int) = some t := by
        have := cutEnd (xs := (107 : UInt8) :: t) (a := 1) (by simp)
        simpa using this
      rw [hcut, if_pos rfl, hd]
      simp only [Option.bind_some]
      refine Ev.bind (sReadVar t (by simp at hs; omega)) ?_
      simp only [rvP, hd]
      exact Ev.pure _
theorem iReadKey (s : List UInt8) (hs : s.length ≤ 1048576) : Ev (fun k => Fimpl_ReadKey k s) (readKeyS s) := by
  simp only [Fimpl_ReadKey]
  refine Ev.bind (iIsOf s hs 107) ?_
  unfold readKeyS
  cases hk : tmOk s with
  | false => exact Ev.pure _
  | true =>
    obtain ⟨c, t, n, z, rfl, hd, hm, _⟩ := tmOk_cons hk
    simp only [if_true, Bool.true_and, List.head?_cons]
    refine Ev.ite (fun hc => (Ev.pure _).to ?_) (fun hc => ?_)
    · rw [if_neg (fun e => by rw [e] at hc; simp at hc)]
    · have hc : c = 107 := by simpa using hc
      subst hc
      refine Ev.bind (iVarAt ((107 : UInt8) :: t) hs 1 (by simp)) ?_
      rw [show ((107 : UInt8) :: t).drop 1 = t from rfl, hd, if_pos rfl]
      exact Ev.pure _
theorem sOpen (s : List UInt8) (hs : s.length ≤ 1048576) (key : Int) : Ev (fun k => Fspec_Open k s key) (openS s key) := by
  simp only [Fspec_Open]
  refine Ev.bind (sTermOk s hs) ?_
  unfold openS
  cases hk : tmOk s with
  | false => exact Ev.pure _
  | true =>
    obtain ⟨c, t, n, z, rfl, hd, hm, _⟩ := tmOk_cons hk
    simp only [Bool.not_true, cond_false, if_true]
    refine Ev.at? (i := 0) (b := c) rfl ?_
    refine Ev.ite (fun hc => (Ev.pure _).to ?_) (fun hc => ?_)
    · rw [if_neg (fun e => by rw [e] at hc; cases hc)]
    · have hc : c = 115 := by simpa using hc
      subst hc
      obtain ⟨z1, z2, z3, _, _⟩ := dv_ok hd
      have hcut : cut? ((115 : UInt8) :: t) 1 (((115 : UInt8) :: t).length : Int) = some t := by
        have := cutEnd (xs := (115 : UInt8) :: t) (a := 1) (by simp)
        simpa using this
      rw [hcut, if_pos rfl, hd]
      simp only [Option.bind_some]
      refine Ev.bind (sReadVar t (by simp at hs; omega)) ?_
      simp only [rvP, hd]
      refine Ev.ite (fun hc => (Ev.pure _).to ?_) (fun hc => ?_)
      · exact (if_neg (fun e => by rw [e] at hc; simp at hc)).symm
      · rw [show IntKind.i64.wrap (1 + (z : Int)) = ((1 + z : Nat) : Int) by rw [wid (by omega) (by omega)]; omega, cutEnd (by simp; omega)]
        refine (Ev.pure _).to ?_
        have e : ((115 : UInt8) :: t).drop (1 + z) = t.drop z := by rw [Nat.add_comm]; rfl
        rw [e]
        exact (if_pos (by simpa using hc)).symm
theorem iOpen (s : List UInt8) (hs : s.length ≤ 1048576) (key : Int) : Ev (fun k => Fimpl_Open k s key) (openS s key) := by
  simp only [Fimpl_Open, Fimpl_sealed]
  unfold openS
  cases hk : tmOk s with
  | false =>
    have h := iIsOf s hs 115
    rw [hk] at h
    exact Ev.bind (Ev.bind h (Ev.pure _)) (Ev.pure _)
  | true =>
    obtain ⟨c, t, n, z, rfl, hd, hm, _⟩ := tmOk_cons hk
    have h := iIsOf (c :: t) hs 115
    rw [hk] at h
    simp only [Bool.true_and, List.head?_cons] at h
    simp only [if_true]
    by_cases hc : c = 115
    · subst hc
      obtain ⟨z1, z2, z3, _, _⟩ := dv_ok hd
      have hv := iVarAt ((115 : UInt8) :: t) hs 1 (by simp)
      rw [show ((115 : UInt8) :: t).drop 1 = t from rfl, hd] at hv
      simp only at hv
      rw [if_pos rfl, hd]
      have hb : Ev (fun k => (Fimpl_isOf k ((115 : UInt8) :: t) 115).bind fun r2 => cond (!r2) (some ((0 : Int), ([] : List UInt8), false)) ((Fimpl_varAt k ((115 : UInt8) :: t) 1).bind fun r3 => (cut? ((115 : UInt8) :: t) r3.2 (((115 : UInt8) :: t).length : Int)).bind fun b4 => some (r3.1, b4, true))) ((n : Int), t.drop z, true) := by
        refine Ev.bind h ?_
        simp only [BEq.rfl, Bool.not_true, cond_false]
        refine Ev.bind hv ?_
        simp only
        rw [cutEnd (by simp; omega)]
        refine (Ev.pure _).to ?_
        have e : ((115 : UInt8) :: t).drop (1 + z) = t.drop z := by rw [Nat.add_comm]; rfl
        rw [e]
      refine Ev.bind hb ?_
      simp only [Bool.not_true, cond_false]
      refine Ev.ite (fun hc => (Ev.pure _).to ?_) (fun hc => (Ev.pure _).to ?_)
      · exact (if_neg (fun e => by rw [e] at hc; simp at hc)).symm
      · exact (if_pos (by simpa using hc)).symm
    · rw [if_neg hc]
      rw [show (some c == some 115) = false by simpa using hc] at h
      exact Ev.bind (Ev.bind h (Ev.pure _)) (Ev.pure _)
theorem iKeyTerm (key : Int) : Ev (fun k => Fimpl_KeyTerm k key) (keyS key) := by
  simp only [Fimpl_KeyTerm]
  refine Ev.bind (iVar key) ?_
  have := varI_len key
  rw [decide_eq_true (by simp; omega)]
  exact Ev.bind (iOk _ (by simp; omega)) (Ev.pure _)
theorem iSeal (key : Int) (t : List UInt8) (ht : t.length ≤ 1000000) : Ev (fun k => Fimpl_Seal k key t) (sealS key t) := by
  simp only [Fimpl_Seal, iKey, Option.bind_some]
  refine Ev.bind (iTermOk t (by omega)) ?_
  unfold sealS
  refine Ev.ite (fun h => (Ev.pure _).to ?_) (fun h => Ev.ite (fun h2 => (Ev.pure _).to ?_) (fun h2 => ?_))
  · rw [if_neg (fun e => by rw [e.1] at h; cases h)]
  · rw [if_neg (fun e => by unfold isIn at h2; rw [decide_eq_true e.2] at h2; cases h2)]
  · rw [if_pos ⟨by simpa using h, of_decide_eq_true (by simpa [isIn] using h2 : decide (1 ≤ key ∧ key ≤ 1000000) = true)⟩]
    refine Ev.bind (iVar key) ?_
    have := varI_len key
    rw [decide_eq_true (by simp; omega), decide_eq_true (by simp; omega)]
    refine Ev.bind (iOk _ (by simp; omega)) ((Ev.pure _).to ?_)
    simp
theorem key_of {s : List UInt8} {k : Int} (h : readKeyS s = (k, true)) : keyS k = s ∧ tmOk s = true := by
  unfold readKeyS at h
  by_cases hk : tmOk s = true
  · rw [if_pos hk] at h
    obtain ⟨c, t, n, z, rfl, hd, hm, _⟩ := tmOk_cons hk
    simp only at h
    by_cases hc : c = 107
    · subst hc
      rw [if_pos rfl, hd] at h
      simp only [Prod.mk.injEq, and_true] at h
      subst h
      rw [tm, hd] at hm
      simp only [if_true] at hm
      rw [if_neg (by decide)] at hm
      by_cases h5 : 1 ≤ n ∧ n ≤ 1000000
      · rw [if_pos h5] at hm
        simp only [Option.some.injEq, List.length_cons] at hm
        obtain ⟨e1, e2, e3⟩ := dv_split hd
        rw [List.drop_of_length_le (by omega), List.append_nil] at e1
        unfold keyS
        rw [varI_nat n e2, ← e1]
        exact ⟨okT_ok hk, hk⟩
      · rw [if_neg h5] at hm; cases hm
    · rw [if_neg hc] at h; cases h
  · rw [if_neg hk] at h; cases h
theorem varI_dv {k : Int} (hk : 0 ≤ k ∧ k ≤ 562949953421311) (t : List UInt8) : dv 7 (varI k ++ t) = some (k.toNat, (varI k).length) := by
  unfold varI
  rw [if_pos hk]
  exact varE_dv (f := 6) (by omega)
theorem readKey_of {k : Int} (h : keyS k ≠ []) : readKeyS (keyS k) = (k, true) := by
  unfold keyS at h ⊢
  obtain ⟨h1, h2⟩ := okT_ne h
  rw [h2]
  have hk : 0 ≤ k ∧ k ≤ 562949953421311 := by
    refine Classical.byContradiction fun hn => ?_
    have : varI k = [] := if_neg hn
    rw [this] at h1
    exact absurd h1 (by decide +kernel)
  have hd := varI_dv hk []
  rw [List.append_nil] at hd
  unfold readKeyS
  rw [if_pos h1]
  simp only [if_true, hd]
  congr 1; omega
theorem open_of {s t : List UInt8} {k : Int} (h : openS s k = (t, true)) : sealS k t = s ∧ tmOk s = true ∧ tmOk t = true := by
  unfold openS at h
  by_cases hk : tmOk s = true
  · rw [if_pos hk] at h
    obtain ⟨c, x, n, z, rfl, hd, hm, hl⟩ := tmOk_cons hk
    simp only at h
    by_cases hc : c = 115
    · subst hc
      rw [if_pos rfl, hd] at h
      simp only at h
      by_cases hn : (n : Int) = k
      · rw [if_pos hn] at h
        simp only [Prod.mk.injEq, and_true] at h
        subst h
        rw [tm, hd] at hm
        simp only [if_true] at hm
        rw [if_neg (by decide), if_neg (by decide)] at hm
        by_cases h5 : 1 ≤ n ∧ n ≤ 1000000
        · rw [if_pos h5] at hm
          cases ht : tm 7 (x.drop z) with
          | none => rw [ht] at hm; cases hm
          | some q =>
            rw [ht] at hm
            simp only [Option.some.injEq, List.length_cons] at hm
            obtain ⟨e1, e2, e3⟩ := dv_split hd
            obtain ⟨z1, _, _, _, _⟩ := dv_ok hd
            have hq : q = (x.drop z).length := by rw [List.length_drop]; omega
            have htk : tmOk (x.drop z) = true := by
              refine tmOk_of ?_ (by rw [List.length_drop]; simp at hl; omega)
              rw [← hq]; exact tm_mono 7 _ q ht
            unfold sealS
            rw [← hn, if_pos ⟨htk, by omega, by omega⟩, varI_nat n e2, ← e1]
            exact ⟨okT_ok hk, hk, htk⟩
        · rw [if_neg h5] at hm; cases hm
      · rw [if_neg hn] at h; cases h
    · rw [if_neg hc] at h; cases h
  · rw [if_neg hk] at h; cases h
theorem openSeal {k : Int} {t : List UInt8} (h : sealS k t ≠ []) : openS (sealS k t) k = (t, true) := by
  unfold sealS at h ⊢
  by_cases hc : tmOk t = true ∧ 1 ≤ k ∧ k ≤ 1000000
  · rw [if_pos hc] at h ⊢
    obtain ⟨h1, h2⟩ := okT_ne h
    rw [h2]
    unfold openS
    rw [if_pos h1]
    simp only [if_true]
    rw [varI_dv ⟨by omega, by omega⟩ t]
    simp only
    rw [if_pos (by omega), List.drop_left' rfl]
  · rw [if_neg hc] at h; exact absurd rfl h
def pick2 {α β : Type} (f : α → α → β) (e : β) : List α → β
  | [a, b] => f a b
  | _ => e
def pick3 {α β : Type} (f : α → α → α → β) (e : β) : List α → β
  | [a, b, c] => f a b c
  | _ => e
theorem two {α : Type} {l : List α} (h : l.length = 2) : ∃ a b, l = [a, b] :=
  match l, h with
  | [a, b], _ => ⟨a, b, rfl⟩
theorem three {α : Type} {l : List α} (h : l.length = 3) : ∃ a b c, l = [a, b, c] :=
  match l, h with
  | [a, b, c], _ => ⟨a, b, c, rfl⟩
theorem notTwo {α β : Type} {f : α → α → β} {e : β} : ∀ {l : List α}, l.length ≠ 2 → pick2 f e l = e
  | [], _ => rfl
  | [_], _ => rfl
  | [_, _], h => absurd rfl h
  | _ :: _ :: _ :: _, _ => rfl
theorem notThree {α β : Type} {f : α → α → α → β} {e : β} : ∀ {l : List α}, l.length ≠ 3 → pick3 f e l = e
  | [], _ => rfl
  | [_], _ => rfl
  | [_, _], _ => rfl
  | [_, _, _], h => absurd rfl h
  | _ :: _ :: _ :: _ :: _, _ => rfl
theorem lenNe2 {α : Type} {l : List α} (h : l.length ≠ 2) : ((l.length : Int) != 2) = true := by simp; omega
theorem lenNe3 {α : Type} {l : List α} (h : l.length ≠ 3) : ((l.length : Int) != 3) = true := by simp; omega
def restOk (r : Timpl_Rest) : Bool := isIn r.Servers 0 7 && (isIn r.Ops 0 255 && isIn r.End 0 100000)
theorem sRestOk (k : Nat) (r : Timpl_Rest) : Fspec_RestOk k r = some (restOk r) := by
  simp only [Fspec_RestOk, sIn, Option.bind_some, restOk]
  cases isIn r.Servers 0 7 <;> cases isIn r.Ops 0 255 <;> rfl
theorem iRestOk (k : Nat) (r : Timpl_Rest) : Fimpl_RestOk k r = some (restOk r) := by
  simp only [Fimpl_RestOk, Fimpl_isTime, iIn, Option.bind_some, restOk]
  cases isIn r.Servers 0 7 <;> cases isIn r.Ops 0 255 <;> rfl
def readRestS (s : List UInt8) : Timpl_Rest × Bool := pick3 (fun a b c => if restOk ⟨a, b, c⟩ = true then (⟨a, b, c⟩, true) else (⟨0, 0, 0⟩, false)) (⟨0, 0, 0⟩, false) (readNumsS s).1
def showRestS (r : Timpl_Rest) : List UInt8 := if restOk r = true then numsS [r.Servers, r.Ops, r.End] else []
theorem showRestS_len (r : Timpl_Rest) : (showRestS r).length ≤ 900 := by
  unfold showRestS
  split
  · exact numsS_len _
  · simp
theorem iReadRest (s : List UInt8) (hs : s.length ≤ 1048576) : Ev (fun k => Fimpl_ReadRest k s) (readRestS s) := by
  simp only [Fimpl_ReadRest]
  refine Ev.bind (iReadNums s hs) ?_
  have fin : Ev (fun k => Fimpl_ReadRest.j2 k (readNumsS s).1 (((readNumsS s).1.length : Int) != (3 : Int))) (readRestS s) := by
    unfold readRestS
    simp only [Fimpl_ReadRest.j2]
    by_cases h3 : (readNumsS s).1.length = 3
    · obtain ⟨a, b, c, h⟩ := three h3
      rw [h]
      simp only [pick3]
      refine Ev.ite (fun h => by cases h) (fun _ => ?_)
      refine Ev.at? (i := 0) (b := a) rfl (Ev.at? (i := 1) (b := b) rfl (Ev.at? (i := 2) (b := c) rfl ?_))
      simp only [iRestOk, Option.bind_some]
      refine Ev.ite (fun h => (Ev.pure _).to ?_) (fun h => (Ev.pure _).to ?_)
      · exact (if_neg (fun e => by rw [e] at h; cases h)).symm
      · exact (if_pos (by simpa using h)).symm
    · rw [notThree h3, lenNe3 h3]
      exact Ev.pure _
  refine Ev.ite (fun h => ?_) (fun _ => fin)
  have hn := readNumsS_nil (s := s) (by simpa using h)
  simp only [Fimpl_ReadRest.j2, readRestS]
  rw [hn]
  exact Ev.pure _
theorem sReadRest (s : List UInt8) (hs : s.length ≤ 1048576) : Ev (fun k => Fspec_ReadRest k s) (readRestS s) := by
  simp only [Fspec_ReadRest]
  refine Ev.bind (sReadNums s hs) ?_
  have fin : Ev (fun k => Fspec_ReadRest.j2 k (readNumsS s).1 (((readNumsS s).1.length : Int) != (3 : Int))) (readRestS s) := by
    unfold readRestS
    simp only [Fspec_ReadRest.j2]
    by_cases h3 : (readNumsS s).1.length = 3
    · obtain ⟨a, b, c, h⟩ := three h3
      rw [h]
      simp only [pick3]
      refine Ev.ite (fun h => by cases h) (fun _ => ?_)
      refine Ev.at? (i := 0) (b := a) rfl (Ev.at? (i := 1) (b := b) rfl (Ev.at? (i := 2) (b := c) rfl ?_))
      simp only [sRestOk, Option.bind_some]
      refine Ev.ite (fun h => (Ev.pure _).to ?_) (fun h => (Ev.pure _).to ?_)
      · exact (if_neg (fun e => by rw [e] at h; cases h)).symm
      · exact (if_pos (by simpa using h)).symm
    · rw [notThree h3, lenNe3 h3]
      exact Ev.pure _
  refine Ev.ite (fun h => ?_) (fun _ => fin)
  have hn := readNumsS_nil (s := s) (by simpa using h)
  simp only [Fspec_ReadRest.j2, readRestS]
  rw [hn]
  exact Ev.pure _
theorem iShowRest (r : Timpl_Rest) : Ev (fun k => Fimpl_ShowRest k r) (showRestS r) := by
  simp only [Fimpl_ShowRest, iRestOk, Option.bind_some]
  unfold showRestS
  cases restOk r
  · exact Ev.pure _
  · exact Ev.bind (iNums _ (by simp)) (Ev.pure _)
theorem rest_of {s : List UInt8} {r : Timpl_Rest} (h : readRestS s = (r, true)) : showRestS r = s ∧ tmOk s = true := by
  unfold readRestS at h
  by_cases h3 : (readNumsS s).1.length = 3
  · obtain ⟨a, b, c, e⟩ := three h3
    rw [e] at h
    simp only [pick3] at h
    split at h
    · rename_i hr
      simp only [Prod.mk.injEq, and_true] at h
      subst h
      have h2 : (readNumsS s).2 = true := by
        cases h2 : (readNumsS s).2 with
        | true => rfl
        | false => rw [readNumsS_nil h2] at e; cases e
      have := nums_of (s := s) (l := [a, b, c]) (by rw [← e, ← h2])
      unfold showRestS
      rw [if_pos hr]; exact this
    · cases h
  · rw [notThree h3] at h; cases h
theorem readRest_of {r : Timpl_Rest} (h : showRestS r ≠ []) : readRestS (showRestS r) = (r, true) := by
  unfold showRestS at h ⊢
  by_cases hr : restOk r = true
  · rw [if_pos hr] at h ⊢
    unfold readRestS
    rw [readNums_of h]
    simp only [pick3]
    exact if_pos hr
  · rw [if_neg hr] at h; exact absurd rfl h
def forOk (n : Int) : Bool := isIn n 0 2 || isIn n 10 12
theorem iFor (k : Nat) (n : Int) (w : -9223372036854775808 ≤ n ∧ n ≤ 9223372036854775807) : Fimpl_isFor k n = some (forOk n) := by
  simp only [Fimpl_isFor, Fimpl_isService, Fimpl_isRealm, iIn, Option.bind_some, forOk]
  have e : isIn (IntKind.i64.wrap (n - 10)) 0 2 = isIn n 10 12 := by
    unfold isIn
    by_cases h : -9223372036854775808 ≤ n - 10
    · rw [wid h (by omega)]; exact decide_eq_decide.2 (by omega)
    · rw [IntKind.wrap_i64]; exact decide_eq_decide.2 (by omega)
  rw [e]
  cases isIn n 0 2 <;> rfl
def grantOk (g : Timpl_Grant) : Bool := isIn g.Key 1 1000000 && (forOk g.Service && (isIn g.Nonce 0 1000000 && restOk g.Rest))
theorem sGrantOk (k : Nat) (g : Timpl_Grant) : Fspec_l5GrantOk k g = some (grantOk g) := by
  have hs : Fspec_l5Service k g.Service = some (forOk g.Service) := by
    simp only [Fspec_l5Service, sIn, Option.bind_some, forOk]
    cases isIn g.Service 0 2 <;> rfl
  have hr : Fspec_RestOk k ⟨g.Rest.Servers, g.Rest.Ops, g.Rest.End⟩ = some (restOk g.Rest) := sRestOk k _
  simp only [Fspec_l5GrantOk, sIn, hs, hr, Option.bind_some, grantOk]
  cases isIn g.Key 1 1000000 <;> cases forOk g.Service <;> cases isIn g.Nonce 0 1000000 <;> rfl
theorem iGrantOk (k : Nat) (g : Timpl_Grant) (w : -9223372036854775808 ≤ g.Service ∧ g.Service ≤ 9223372036854775807) : Fimpl_grantOk k g = some (grantOk g) := by
  have hr : Fimpl_RestOk k ⟨g.Rest.Servers, g.Rest.Ops, g.Rest.End⟩ = some (restOk g.Rest) := iRestOk k _
  simp only [Fimpl_grantOk, iKey, iIn, iFor k _ w, hr, Option.bind_some, grantOk]
  cases isIn g.Key 1 1000000 <;> cases forOk g.Service <;> cases isIn g.Nonce 0 1000000 <;> rfl
def showGrantS (g : Timpl_Grant) (key : Int) : List UInt8 := if grantOk g = true then sealS key (listS [keyS g.Key, numsS [g.Service, g.Nonce], showRestS g.Rest]) else []
theorem iShowGrant (g : Timpl_Grant) (key : Int) (w : -9223372036854775808 ≤ g.Service ∧ g.Service ≤ 9223372036854775807) : Ev (fun k => Fimpl_ShowGrant k g key) (showGrantS g key) := by
  simp only [Fimpl_ShowGrant, iGrantOk _ g w, Option.bind_some]
  unfold showGrantS
  cases grantOk g
  · exact Ev.pure _
  · simp only [Bool.not_true, cond_false, if_true]
    refine Ev.bind (iKeyTerm _) (Ev.bind (iNums _ (by simp)) (Ev.bind (iShowRest _) (Ev.bind (iList _ ?_ (by simp)) (Ev.bind (iSeal _ _ ?_) (Ev.pure _)))))
    · intro p hp
      have h1 := keyS_len g.Key
      have h2 := numsS_len [g.Service, g.Nonce]
      have h3 := showRestS_len g.Rest
      simp only [List.mem_cons, List.not_mem_nil, or_false] at hp
      rcases hp with rfl | rfl | rfl
      · omega
      · omega
      · exact Nat.le_trans h3 (by omega)
    · have := listS_len [keyS g.Key, numsS [g.Service, g.Nonce], showRestS g.Rest]
      exact Nat.le_trans this (by omega)
abbrev zGrant : Timpl_Grant := ⟨0, 0, 0, ⟨0, 0, 0⟩⟩
def readGrantS (s : List UInt8) (key : Int) : Timpl_Grant × Bool :=
  pick3 (fun p0 p1 p2 => if (readKeyS p0).2 = true ∧ (readNumsS p1).2 = true ∧ (readRestS p2).2 = true then
    pick2 (fun a b => if grantOk ⟨(readKeyS p0).1, a, b, (readRestS p2).1⟩ = true then (⟨(readKeyS p0).1, a, b, (readRestS p2).1⟩, true) else (zGrant, false)) (zGrant, false) (readNumsS p1).1
    else (zGrant, false)) (zGrant, false) (partsS (openS s key).1).1
theorem sReadGrant (s : List UInt8) (hs : s.length ≤ 1048576) (key : Int) : Ev (fun k => Fspec_ReadGrant k s key) (readGrantS s key) := by
  simp only [Fspec_ReadGrant]
  have ho := openS_len s key
  refine Ev.bind (sOpen s hs key) (Ev.bind (sParts _ (by omega)) ?_)
  obtain ⟨_, pe⟩ := partsS_len (openS s key).1
  unfold readGrantS
  by_cases h3 : (partsS (openS s key).1).1.length = 3
  · obtain ⟨p0, p1, p2, h⟩ := three h3
    rw [h] at pe ⊢
    simp only [pick3]
    have l0 := pe p0 (by simp); have l1 := pe p1 (by simp); have l2 := pe p2 (by simp)
    refine Ev.ite (fun h => by cases h) (fun _ => ?_)
    refine Ev.at? (i := 0) (b := p0) rfl (Ev.bind (sReadKey p0 (by omega)) (Ev.at? (i := 1) (b := p1) rfl (Ev.bind (sReadNums p1 (by omega)) (Ev.at? (i := 2) (b := p2) rfl (Ev.bind (sReadRest p2 (by omega)) ?_)))))
    refine Ev.ite (fun h => ?_) (fun h => Ev.ite (fun h2 => ?_) (fun h2 => Ev.ite (fun h3 => ?_) (fun h3 => ?_)))
    · rw [if_neg (fun e => by rw [e.1] at h; cases h)]; simp only [Fspec_ReadGrant.j2]; exact Ev.pure _
    · rw [if_neg (fun e => by rw [e.2.1] at h2; cases h2)]; simp only [Fspec_ReadGrant.j2]; exact Ev.pure _
    · rw [if_neg (fun e => by rw [e.2.2] at h3; cases h3)]; simp only [Fspec_ReadGrant.j2]; exact Ev.pure _
    · rw [if_pos ⟨by simpa using h, by simpa using h2, by simpa using h3⟩]
      simp only [Fspec_ReadGrant.j2]
      by_cases h2l : (readNumsS p1).1.length = 2
      · obtain ⟨a, b, e⟩ := two h2l
        rw [e]
        simp only [pick2]
        refine Ev.ite (fun h => by cases h) (fun _ => ?_)
        refine Ev.at? (i := 0) (b := a) rfl (Ev.at? (i := 1) (b := b) rfl ?_)
        simp only [sGrantOk, Option.bind_some]
        refine Ev.ite (fun h => (Ev.pure _).to ?_) (fun h => (Ev.pure _).to ?_)
        · exact (if_neg (fun e => by rw [e] at h; cases h)).symm
        · exact (if_pos (by simpa using h)).symm
      · rw [notTwo h2l, lenNe2 h2l]
        exact Ev.pure _
  · rw [notThree h3, lenNe3 h3]
    exact Ev.pure _
theorem readNums_bnd {s : List UInt8} {n : Int} (h : n ∈ (readNumsS s).1) : 0 ≤ n ∧ n ≤ 562949953421311 := by
  unfold readNumsS at h
  split at h
  · obtain ⟨p, _, rfl⟩ := List.mem_map.1 h
    simp only [readNumS]
    split
    · simp only [rvP]
      split
      · rename_i n z hd
        have := (dv_split hd).2.1
        simp only; omega
      · simp
    · simp
  · cases h
/-- Of what a text is read, of that it is made. -/
theorem grant_of {s : List UInt8} {key : Int} {p0 p1 p2 : List UInt8} {a b : Int} (hp : (partsS (openS s key).1).1 = [p0, p1, p2]) (hn : (readNumsS p1).1 = [a, b]) :
    showGrantS ⟨(readKeyS p0).1, a, b, (readRestS p2).1⟩ key = s ↔ ((readKeyS p0).2 = true ∧ (readNumsS p1).2 = true ∧ (readRestS p2).2 = true) ∧ grantOk ⟨(readKeyS p0).1, a, b, (readRestS p2).1⟩ = true := by
  have hp2 : (partsS (openS s key).1).2 = true := by
    cases h : (partsS (openS s key).1).2 with
    | true => rfl
    | false => rw [partsS_nil h] at hp; cases hp
  obtain ⟨q1, q2, q3, _⟩ := parts_ok (s := (openS s key).1) (ps := [p0, p1, p2]) (by rw [← hp, ← hp2])
  have ho2 : (openS s key).2 = true := by
    cases h : (openS s key).2 with
    | true => rfl
    | false => rw [openS_nil h, tmOk_nil] at q2; cases q2
  obtain ⟨o1, o2, _⟩ := open_of (s := s) (k := key) (t := (openS s key).1) (by rw [← ho2])
  constructor
  · intro h
    unfold showGrantS at h
    by_cases hg : grantOk ⟨(readKeyS p0).1, a, b, (readRestS p2).1⟩ = true
    · rw [if_pos hg] at h
      have hs : sealS key (listS [keyS (readKeyS p0).1, numsS [a, b], showRestS (readRestS p2).1]) ≠ [] := by rw [h]; exact tmOk_ne o2
      have e1 := openSeal hs
      rw [h] at e1
      have hl : listS [keyS (readKeyS p0).1, numsS [a, b], showRestS (readRestS p2).1] ≠ [] := by
        have := (open_of e1).2.2
        exact tmOk_ne this
      have e2 := parts_of hl
      rw [e1] at hp q1
      simp only at hp q1
      rw [e2] at hp
      simp only [List.cons.injEq, and_true] at hp
      obtain ⟨g0, g1, g2⟩ := hp
      have n0 := tmOk_ne (q3 p0 (by simp)); have n1 := tmOk_ne (q3 p1 (by simp)); have n2 := tmOk_ne (q3 p2 (by simp))
      refine ⟨⟨?_, ?_, ?_⟩, hg⟩
      · have := readKey_of (k := (readKeyS p0).1) (by rw [g0]; exact n0)
        rw [g0] at this; rw [this]
      · have := readNums_of (l := [a, b]) (by rw [g1]; exact n1)
        rw [g1] at this; rw [this]
      · have := readRest_of (r := (readRestS p2).1) (by rw [g2]; exact n2)
        rw [g2] at this; rw [this]
    · rw [if_neg hg] at h
      exact absurd h.symm (tmOk_ne o2)
  · rintro ⟨⟨f0, f1, f2⟩, hg⟩
    unfold showGrantS
    rw [if_pos hg]
    simp only
    rw [(key_of (s := p0) (k := (readKeyS p0).1) (by rw [← f0])).1, (nums_of (s := p1) (l := [a, b]) (by rw [← hn, ← f1])).1, (rest_of (s := p2) (r := (readRestS p2).1) (by rw [← f2])).1, q1]
    exact o1
theorem iReadGrant (s : List UInt8) (hs : s.length ≤ 1048576) (key : Int) : Ev (fun k => Fimpl_ReadGrant k s key) (readGrantS s key) := by
  simp only [Fimpl_ReadGrant]
  have ho := openS_len s key
  refine Ev.bind (iOpen s hs key) (Ev.bind (iParts _ (by omega)) ?_)
  obtain ⟨_, pe⟩ := partsS_len (openS s key).1
  unfold readGrantS
  by_cases h3 : (partsS (openS s key).1).1.length = 3
  · obtain ⟨p0, p1, p2, h⟩ := three h3
    rw [h] at pe ⊢
    simp only [pick3]
    have l0 := pe p0 (by simp); have l1 := pe p1 (by simp); have l2 := pe p2 (by simp)
    refine Ev.ite (fun h => by cases h) (fun _ => ?_)
    refine Ev.at? (i := 1) (b := p1) rfl (Ev.bind (iReadNums p1 (by omega)) ?_)
    by_cases h2l : (readNumsS p1).1.length = 2
    · obtain ⟨a, b, e⟩ := two h2l
      have ba : 0 ≤ a ∧ a ≤ 562949953421311 := readNums_bnd (s := p1) (by rw [e]; simp)
      have key2 := grant_of (s := s) (key := key) h e
      rw [e]
      simp only [pick2]
      refine Ev.ite (fun h => by cases h) (fun _ => ?_)
      refine Ev.at? (i := 0) (b := a) rfl (Ev.at? (i := 1) (b := b) rfl (Ev.at? (i := 0) (b := p0) rfl (Ev.bind (iReadKey p0 (by omega)) (Ev.at? (i := 2) (b := p2) rfl (Ev.bind (iReadRest p2 (by omega)) (Ev.bind (iShowGrant _ _ (by simp only; omega)) ?_))))))
      refine Ev.ite (fun h => (Ev.pure _).to ?_) (fun h => (Ev.pure _).to ?_)
      · by_cases hf : (readKeyS p0).2 = true ∧ (readNumsS p1).2 = true ∧ (readRestS p2).2 = true
        · rw [if_pos hf, if_neg (fun hg => by rw [key2.2 ⟨hf, hg⟩] at h; simp at h)]
        · rw [if_neg hf]
      · obtain ⟨hf, hg⟩ := key2.1 (by simpa using h)
        rw [if_pos hf, if_pos hg]
    · rw [notTwo h2l, lenNe2 h2l]
      refine (Ev.pure _).to ?_
      split <;> rfl
  · rw [notThree h3, lenNe3 h3]
    exact Ev.pure _
theorem eqRest_ev (a : Timpl_Rest) : Ev (fun k => Flaws_eqRest k a a) true := by
  simp only [Flaws_eqRest, bne_self_eq_false, cond_false]
  exact Ev.pure _
theorem eqCred_ev (a : Timpl_Cred) : Ev (fun k => Flaws_eqCred k a a) true := by
  simp only [Flaws_eqCred, bne_self_eq_false, cond_false]
  refine Ev.bind (eqRest_ev _) ?_
  simp only [Bool.not_true, cond_false]
  exact Ev.pure _
abbrev zCred : Timpl_Cred := ⟨0, 0, 0, 0, ⟨0, 0, 0⟩, []⟩
def takeReplyS (owner client key nonce : Int) (s : List UInt8) : Timpl_Cred × Bool :=
  if isIn owner 0 5 = true ∧ isIn client 0 5 = true then pick3 (fun p0 p1 p2 => if (readGrantS p2 key).2 = true ∧ (readGrantS p2 key).1.Nonce = nonce then
    pick2 (fun a b => if a = 3 ∧ b = nonce then (⟨owner, client, (readGrantS p2 key).1.Service, (readGrantS p2 key).1.Key, (readGrantS p2 key).1.Rest, p1⟩, true) else (zCred, false)) (zCred, false) (readNumsS p0).1 else (zCred, false)) (zCred, false) (partsS s).1
  else (zCred, false)
theorem sPrin (k : Nat) (n : Int) : Fspec_l5Principal k n = some (isIn n 0 5) := by
  simp only [Fspec_l5Principal, isIn]
  by_cases h : n ≥ 0
  · rw [decide_eq_true h]; exact congrArg some (decide_eq_decide.2 (by omega))
  · rw [decide_eq_false h, decide_eq_false (p := 0 ≤ n ∧ n ≤ 5) (by omega)]; rfl
theorem iPrin (k : Nat) (n : Int) : Fimpl_isPrincipal k n = some (isIn n 0 5) := by
  simp only [Fimpl_isPrincipal, iIn, Option.bind_some]
theorem sTake (owner client key nonce : Int) (s : List UInt8) (hs : s.length ≤ 1048576) : Ev (fun k => Fspec_TakeReply k owner client key nonce s) (takeReplyS owner client key nonce s) := by
  simp only [Fspec_TakeReply, sPrin, Option.bind_some]
  refine Ev.bind (sParts s hs) ?_
  obtain ⟨_, pe⟩ := partsS_len s
  unfold takeReplyS
  refine Ev.ite (fun h => ?_) (fun h => Ev.ite (fun h2 => ?_) (fun h2 => ?_))
  · rw [if_neg (fun e => by rw [e.1] at h; cases h)]; simp only [Fspec_TakeReply.j2]; exact Ev.pure _
  · rw [if_neg (fun e => by rw [e.2] at h2; cases h2)]; simp only [Fspec_TakeReply.j2]; exact Ev.pure _
  · rw [if_pos ⟨by simpa using h, by simpa using h2⟩]
    simp only [Fspec_TakeReply.j2]
    by_cases h3 : (partsS s).1.length = 3
    · obtain ⟨p0, p1, p2, hp⟩ := three h3
      rw [hp] at pe ⊢
      simp only [pick3]
      have l0 := pe p0 (by simp); have l1 := pe p1 (by simp); have l2 := pe p2 (by simp)
      refine Ev.ite (fun h => by cases h) (fun _ => ?_)
      refine Ev.at? (i := 0) (b := p0) rfl (Ev.bind (sReadNums p0 (by omega)) (Ev.at? (i := 2) (b := p2) rfl (Ev.bind (sReadGrant p2 (by omega) key) ?_)))
      simp only [Fspec_TakeReply.j4, cond_true]
      have bad : ∀ {x : Timpl_Cred × Bool}, x = (zCred, false) → Ev (fun _ => some (zCred, false)) x := fun h => h ▸ Ev.pure _
      refine Ev.ite (fun h => ?_) (fun h => Ev.ite (fun h2 => ?_) (fun h2 => ?_))
      · refine bad ?_
        have := readNumsS_nil (s := p0) (by simpa using h)
        rw [this]
        split <;> rfl
      · exact bad (if_neg (fun e => by rw [e.1] at h2; cases h2))
      · by_cases h2l : (readNumsS p0).1.length = 2
        · obtain ⟨a, b, e⟩ := two h2l
          rw [e]
          simp only [pick2]
          refine Ev.ite (fun h => by cases h) (fun _ => ?_)
          refine Ev.at? (i := 0) (b := a) rfl (Ev.ite (fun h3 => bad ?_) (fun h3 => Ev.at? (i := 1) (b := b) rfl (Ev.ite (fun h4 => bad ?_) (fun h4 => Ev.ite (fun h5 => bad ?_) (fun h5 => Ev.at? (i := 1) (b := p1) rfl ((Ev.pure _).to ?_))))))
          · split
            · exact if_neg (fun e => by rw [e.1] at h3; simp at h3)
            · rfl
          · split
            · exact if_neg (fun e => by rw [e.2] at h4; simp at h4)
            · rfl
          · exact if_neg (fun e => by rw [e.2] at h5; simp at h5)
          · rw [if_pos ⟨by simpa using h2, by simpa using h5⟩, if_pos ⟨by simpa using h3, by simpa using h4⟩]
        · rw [notTwo h2l, lenNe2 h2l]
          refine bad ?_
          split <;> rfl
    · rw [notThree h3, lenNe3 h3]
      exact Ev.pure _
theorem iTake (owner client key nonce : Int) (s : List UInt8) (hs : s.length ≤ 1048576) : Ev (fun k => Fimpl_TakeReply k owner client key nonce s) (takeReplyS owner client key nonce s) := by
  simp only [Fimpl_TakeReply, iPrin, Option.bind_some]
  refine Ev.bind (iParts s hs) ?_
  obtain ⟨_, pe⟩ := partsS_len s
  unfold takeReplyS
  refine Ev.ite (fun h => ?_) (fun h => Ev.ite (fun h2 => ?_) (fun h2 => ?_))
  · rw [if_neg (fun e => by rw [e.1] at h; cases h)]; simp only [Fimpl_TakeReply.j2]; exact Ev.pure _
  · rw [if_neg (fun e => by rw [e.2] at h2; cases h2)]; simp only [Fimpl_TakeReply.j2]; exact Ev.pure _
  · rw [if_pos ⟨by simpa using h, by simpa using h2⟩]
    simp only [Fimpl_TakeReply.j2]
    by_cases h3 : (partsS s).1.length = 3
    · obtain ⟨p0, p1, p2, hp⟩ := three h3
      rw [hp] at pe ⊢
      simp only [pick3]
      have l0 := pe p0 (by simp); have l1 := pe p1 (by simp); have l2 := pe p2 (by simp)
      refine Ev.ite (fun h => by cases h) (fun _ => ?_)
      refine Ev.at? (i := 0) (b := p0) rfl (Ev.bind (iReadNums p0 (by omega)) (Ev.at? (i := 2) (b := p2) rfl (Ev.bind (iReadGrant p2 (by omega) key) ?_)))
      simp only [Fimpl_TakeReply.j4, cond_true]
      have bad : ∀ {x : Timpl_Cred × Bool}, x = (zCred, false) → Ev (fun _ => some (zCred, false)) x := fun h => h ▸ Ev.pure _
      by_cases h2l : (readNumsS p0).1.length = 2
      · obtain ⟨a, b, e⟩ := two h2l
        rw [e]
        simp only [pick2]
        refine Ev.ite (fun h => by cases h) (fun _ => ?_)
        refine Ev.at? (i := 0) (b := a) rfl (Ev.ite (fun h3 => bad ?_) (fun h3 => Ev.at? (i := 1) (b := b) rfl (Ev.ite (fun h4 => bad ?_) (fun h4 => Ev.ite (fun h2 => bad ?_) (fun h2 => Ev.ite (fun h5 => bad ?_) (fun h5 => Ev.at? (i := 1) (b := p1) rfl ((Ev.pure _).to ?_)))))))
        · split
          · exact if_neg (fun e => by rw [e.1] at h3; simp at h3)
          · rfl
        · split
          · exact if_neg (fun e => by rw [e.2] at h4; simp at h4)
          · rfl
        · exact if_neg (fun e => by rw [e.1] at h2; cases h2)
        · exact if_neg (fun e => by rw [e.2] at h5; simp at h5)
        · rw [if_pos ⟨by simpa using h2, by simpa using h5⟩, if_pos ⟨by simpa using h3, by simpa using h4⟩]
      · rw [notTwo h2l, lenNe2 h2l]
        refine bad ?_
        split <;> rfl
    · rw [notThree h3, lenNe3 h3]
      exact Ev.pure _
theorem coreTakeReply (a0 a1 a2 a3 : Int) (a4 : List UInt8) (w0 : wfI a0) (w1 : wfI a1) (w2 : wfI a2) (w3 : wfI a3) (w4 : wfS a4) (s4 : a4.length ≤ 1048576) : ∃ r, Ev (fun k => Fspec_TakeReply k a0 a1 a2 a3 a4) r ∧ Ev (fun k => Fimpl_TakeReply k a0 a1 a2 a3 a4) r ∧ True :=
  ⟨_, sTake a0 a1 a2 a3 a4 s4, iTake a0 a1 a2 a3 a4 s4, trivial⟩
theorem lawExactTakeReply (a0 : Int) (a1 : Int) (a2 : Int) (a3 : Int) (a4 : List UInt8) (w0 : Go.MG.wfI a0) (w1 : Go.MG.wfI a1) (w2 : Go.MG.wfI a2) (w3 : Go.MG.wfI a3) (w4 : Go.MG.wfS a4) : ∃ k, Flaws_FnExactTakeReply k a0 a1 a2 a3 a4 = some true := by
  refine Ev.get (f := fun k => Flaws_FnExactTakeReply k a0 a1 a2 a3 a4) ?_
  simp only [Flaws_FnExactTakeReply]
  refine Ev.ite (fun _ => Ev.pure _) (fun hc => ?_)
  have s4 : a4.length ≤ 1048576 := by simp at hc; omega
  obtain ⟨r, hs, hi, hr⟩ := coreTakeReply a0 a1 a2 a3 a4 w0 w1 w2 w3 w4 s4
  refine Ev.bind hs ?_
  refine Ev.bind hi ?_
  refine Ev.bind (eqCred_ev _) ?_
  simp only [Bool.not_true, cond_false]
  simp only [bne_self_eq_false, cond_false]
  exact Ev.pure _

end Go.Proofs.Ytcolcmjcjpikcaa.M
