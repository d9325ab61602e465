/- What a centre gives is good for no more than what it was shown and asked; it is sealed for who it is for -/
import Derived.Test.YtbjbagemlclgcaaGreatFCeL
namespace Go.Proofs.YtbjbagemlclgcaaGreat.M
open Go Go.MG
set_option linter.unusedVariables false
set_option linter.unusedSimpArgs false
theorem wid {n : Int} (h1 : -9223372036854775808 ≤ n) (h2 : n ≤ 9223372036854775807) : IntKind.i64.wrap n = n := by
 rw [IntKind.wrap_i64]; omega
theorem atN {α : Type} {xs : List α} {i : Nat} {b : α} (h : xs[i]? = some b) : at? xs (i : Int) = some b := by
 simp [at?, h]
theorem atLt {α : Type} {xs : List α} {i : Nat} (h : i < xs.length) : ∃ b, xs[i]? = some b := ⟨xs[i], List.getElem?_eq_getElem h⟩
theorem wid1 {i : Nat} (h : i ≤ 4611686018427387904) : IntKind.i64.wrap ((i : Int) + 1) = ((i + 1 : Nat) : Int) := by
 rw [wid (by omega) (by omega)]; omega
theorem ltD {i n : Nat} (h : i < n) : decide ((i : Int) < (n : Int)) = true := by simp; omega
theorem ltD0 {n : Nat} : decide ((n : Int) < (n : Int)) = false := by simp
theorem take_succ_get {α : Type} {xs : List α} {i : Nat} {b : α} (h : xs[i]? = some b) : xs.take (i + 1) = xs.take i ++ [b] := by
 rw [List.take_add_one, h]; rfl
/-- From some fuel on it answers so. -/
def Ev {α : Type} (f : Nat → Option α) (r : α) : Prop := ∃ n, ∀ k, n ≤ k → f k = some r
theorem Ev.pure {α : Type} (r : α) : Ev (fun _ => some r) r := ⟨0, fun _ _ => rfl⟩
theorem Ev.of {α : Type} {f : Nat → Option α} {r : α} (h : ∀ k, f k = some r) : Ev f r := ⟨0, fun k _ => h k⟩
theorem Ev.bind {α β : Type} {f : Nat → Option α} {g : Nat → α → Option β} {a : α} {r : β} (h : Ev f a) (h' : Ev (fun k => g k a) r) : Ev (fun k => (f k).bind (g k)) r := by
 obtain ⟨n, h⟩ := h
 obtain ⟨m, h'⟩ := h'
 refine ⟨max n m, fun k hk => ?_⟩
 show (f k).bind (g k) = some r
 rw [h k (by omega), Option.bind_some]
 exact h' k (by omega)
theorem Ev.succ {α : Type} {f : Nat → Option α} {r : α} (h : Ev (fun k => f (k + 1)) r) : Ev f r := by
 obtain ⟨n, h⟩ := h
 refine ⟨n + 1, fun k hk => ?_⟩
 obtain ⟨j, rfl⟩ : ∃ j, k = j + 1 := ⟨k - 1, by omega⟩
 exact h j (by omega)
theorem Ev.shift {α : Type} {f : Nat → Option α} {r : α} (h : Ev f r) : Ev (fun k => f (k + 1)) r := by
 obtain ⟨n, h⟩ := h
 exact ⟨n, fun k hk => h (k + 1) (by omega)⟩
theorem Ev.get {α : Type} {f : Nat → Option α} {r : α} (h : Ev f r) : ∃ k, f k = some r := by
 obtain ⟨n, h⟩ := h
 exact ⟨n, h n (Nat.le_refl _)⟩
theorem Ev.congr {α : Type} {f g : Nat → Option α} {r : α} (h : Ev f r) (e : ∀ k, g k = f k) : Ev g r := by
 obtain ⟨n, h⟩ := h
 exact ⟨n, fun k hk => (e k).trans (h k hk)⟩
theorem Ev.to {α : Type} {f : Nat → Option α} {a b : α} (h : Ev f a) (e : a = b) : Ev f b := e ▸ h
theorem Ev.ite {α : Type} {f g : Nat → Option α} {c : Bool} {r : α} (h1 : c = true → Ev f r) (h0 : c = false → Ev g r) : Ev (fun k => cond c (f k) (g k)) r := by
 cases c with
 | true => exact h1 rfl
 | false => exact h0 rfl
theorem Ev.at? {α β : Type} {xs : List α} {i : Nat} {b : α} {g : Nat → α → Option β} {r : β} (h : xs[i]? = some b) (h' : Ev (fun k => g k b) r) : Ev (fun k => (Go.MG.at? xs (i : Int)).bind (g k)) r := by
 have e := atN h
 simp only [e, Option.bind_some]
 exact h'
/-- A loop over a list: what it answers, told over what is left of it. -/
theorem Ev.forI {α S R : Type} {xs : List α} {L : Nat → S → Int → Option R} {f : List α → S → R} {I : Nat → S → Prop}
  (hnil : ∀ s, I xs.length s → Ev (fun k => L (k + 1) s (xs.length : Int)) (f [] s))
  (hcons : ∀ (i : Nat) (b : α) (s : S), xs[i]? = some b → i < xs.length → I i s → (∀ s', I (i + 1) s' → Ev (fun k => L k s' ((i + 1 : Nat) : Int)) (f (xs.drop (i + 1)) s')) → Ev (fun k => L (k + 1) s (i : Int)) (f (b :: xs.drop (i + 1)) s)) :
  ∀ (s : S), I 0 s → Ev (fun k => L k s 0) (f xs s) := by
 have key : ∀ (m i : Nat) (s : S), i + m = xs.length → I i s → Ev (fun k => L k s (i : Int)) (f (xs.drop i) s) := by
  intro m
  induction m with
  | zero =>
   intro i s hi hI
   have : i = xs.length := by omega
   subst this
   rw [List.drop_length]
   exact Ev.succ (hnil s hI)
  | succ m ih =>
   intro i s hi hI
   obtain ⟨b, hb⟩ := atLt (xs := xs) (i := i) (by omega)
   have hlt : i < xs.length := by omega
   have e : xs.drop i = b :: xs.drop (i + 1) := by
    rw [List.drop_eq_getElem_cons hlt]
    rw [List.getElem?_eq_getElem hlt] at hb
    cases hb; rfl
   rw [e]
   exact Ev.succ (hcons i b s hb hlt hI fun s' hs' => ih (i + 1) s' (by omega) hs')
 intro s hs
 have := key xs.length 0 s (by omega) hs
 simpa using this
theorem Ev.for {α S R : Type} {xs : List α} {L : Nat → S → Int → Option R} {f : List α → S → R}
  (hnil : ∀ s, Ev (fun k => L (k + 1) s (xs.length : Int)) (f [] s))
  (hcons : ∀ (i : Nat) (b : α) (s : S), xs[i]? = some b → i < xs.length → (∀ s', Ev (fun k => L k s' ((i + 1 : Nat) : Int)) (f (xs.drop (i + 1)) s')) → Ev (fun k => L (k + 1) s (i : Int)) (f (b :: xs.drop (i + 1)) s)) :
  ∀ (s : S), Ev (fun k => L k s 0) (f xs s) := fun s => Ev.forI (I := fun _ _ => True) (fun s _ => hnil s) (fun i b s hb hi _ h => hcons i b s hb hi fun s' => h s' trivial) s trivial
/-- It answers, and what it answers is so. -/
def EvP {α : Type} (f : Nat → Option α) (P : α → Prop) : Prop := ∃ r, Ev f r ∧ P r
theorem Ev.p {α : Type} {f : Nat → Option α} {r : α} {P : α → Prop} (h : Ev f r) (hp : P r) : EvP f P := ⟨r, h, hp⟩
theorem EvP.pure {α : Type} {r : α} {P : α → Prop} (h : P r) : EvP (fun _ => some r) P := ⟨r, Ev.pure r, h⟩
theorem EvP.bind {α β : Type} {f : Nat → Option α} {g : Nat → α → Option β} {P : α → Prop} {Q : β → Prop} (h : EvP f P) (h' : ∀ a, P a → EvP (fun k => g k a) Q) : EvP (fun k => (f k).bind (g k)) Q := by
 obtain ⟨a, h1, h2⟩ := h
 obtain ⟨r, h3, h4⟩ := h' a h2
 exact ⟨r, h1.bind h3, h4⟩
theorem EvP.bindE {α β : Type} {f : Nat → Option α} {g : Nat → α → Option β} {a : α} {Q : β → Prop} (h : Ev f a) (h' : EvP (fun k => g k a) Q) : EvP (fun k => (f k).bind (g k)) Q := by
 obtain ⟨r, h3, h4⟩ := h'
 exact ⟨r, h.bind h3, h4⟩
theorem EvP.ite {α : Type} {f g : Nat → Option α} {c : Bool} {P : α → Prop} (h1 : c = true → EvP f P) (h0 : c = false → EvP g P) : EvP (fun k => cond c (f k) (g k)) P := by
 cases c with
 | true => exact h1 rfl
 | false => exact h0 rfl
theorem EvP.mono {α : Type} {f : Nat → Option α} {P Q : α → Prop} (h : EvP f P) (hq : ∀ r, P r → Q r) : EvP f Q := by
 obtain ⟨r, h1, h2⟩ := h
 exact ⟨r, h1, hq r h2⟩
theorem EvP.succ {α : Type} {f : Nat → Option α} {P : α → Prop} (h : EvP (fun k => f (k + 1)) P) : EvP f P := by
 obtain ⟨r, h1, h2⟩ := h
 exact ⟨r, h1.succ, h2⟩
theorem EvP.at? {α β : Type} {xs : List α} {i : Nat} {b : α} {g : Nat → α → Option β} {P : β → Prop} (h : xs[i]? = some b) (h' : EvP (fun k => g k b) P) : EvP (fun k => (Go.MG.at? xs (i : Int)).bind (g k)) P := by
 obtain ⟨r, h1, h2⟩ := h'
 exact ⟨r, Ev.at? h h1, h2⟩
/-- A loop over a list, by an invariant. -/
theorem EvP.for {α S R : Type} {xs : List α} {L : Nat → S → Int → Option R} {P : R → Prop} (I : Nat → S → Prop)
  (hnil : ∀ s, I xs.length s → EvP (fun k => L (k + 1) s (xs.length : Int)) P)
  (hcons : ∀ (i : Nat) (b : α) (s : S), xs[i]? = some b → i < xs.length → I i s → (∀ s', I (i + 1) s' → EvP (fun k => L k s' ((i + 1 : Nat) : Int)) P) → EvP (fun k => L (k + 1) s (i : Int)) P) :
  ∀ (s : S), I 0 s → EvP (fun k => L k s 0) P := by
 have key : ∀ (m i : Nat) (s : S), i + m = xs.length → I i s → EvP (fun k => L k s (i : Int)) P := by
  intro m
  induction m with
  | zero =>
   intro i s hi hI
   have : i = xs.length := by omega
   subst this
   exact EvP.succ (hnil s hI)
  | succ m ih =>
   intro i s hi hI
   obtain ⟨b, hb⟩ := atLt (xs := xs) (i := i) (by omega)
   exact EvP.succ (hcons i b s hb (by omega) hI fun s' hs' => ih (i + 1) s' (by omega) hs')
 intro s hs
 simpa using key xs.length 0 s (by omega) hs
/-- What is found first. -/
def firstOf {α R : Type} (p : α → Bool) (g : Nat → R) (e : R) : Nat → List α → R
 | _, [] => e
 | i, x :: xs => if p x then g i else firstOf p g e (i + 1) xs
theorem Ev.find {α R : Type} {xs : List α} {L : Nat → Int → Option R} {p : α → Bool} {g : Nat → R} {e : R}
  (hnil : Ev (fun k => L (k + 1) (xs.length : Int)) e)
  (hcons : ∀ (i : Nat) (b : α) (r : R), xs[i]? = some b → i < xs.length → (p b = true → r = g i) → (p b = false → Ev (fun k => L k ((i + 1 : Nat) : Int)) r) → Ev (fun k => L (k + 1) (i : Int)) r) :
  Ev (fun k => L k 0) (firstOf p g e 0 xs) := by
 have := Ev.for (xs := xs) (L := fun k (_ : Unit) i => L k i) (f := fun l _ => firstOf p g e (xs.length - l.length) l) (fun _ => by simpa [firstOf] using hnil) (fun i b _ hb hi h => by
  refine hcons i b _ hb hi (fun hp => ?_) (fun hp => ?_)
  ·have : xs.length - (b :: List.drop (i + 1) xs).length = i := by simp; omega
   rw [this]; simp [firstOf, hp]
  ·refine (h ()).to ?_
   have e1 : xs.length - (b :: List.drop (i + 1) xs).length = i := by simp; omega
   have e2 : xs.length - (List.drop (i + 1) xs).length = i + 1 := by simp; omega
   rw [e1, e2]; simp [firstOf, hp]) ()
 simpa using this
theorem firstOf_some {α R : Type} {p : α → Bool} {g : Nat → R} {e : R} : ∀ {i : Nat} {xs : List α}, (∃ j b, xs[j]? = some b ∧ p b = true ∧ firstOf p g e i xs = g (i + j)) ∨ ((∀ b ∈ xs, p b = false) ∧ firstOf p g e i xs = e)
 | i, [] => .inr ⟨by simp, rfl⟩
 | i, x :: xs => by
  cases hp : p x with
  | true => exact .inl ⟨0, x, rfl, hp, by simp [firstOf, hp]⟩
  | false =>
   rcases firstOf_some (p := p) (g := g) (e := e) (i := i + 1) (xs := xs) with ⟨j, b, h1, h2, h3⟩ | ⟨h1, h2⟩
   ·exact .inl ⟨j + 1, b, by simpa using h1, h2, by simp only [firstOf, hp]; rw [show i + (j + 1) = i + 1 + j by omega]; exact h3⟩
   ·refine .inr ⟨fun b hb => ?_, by simpa [firstOf, hp] using h2⟩
    rcases List.mem_cons.1 hb with rfl | hb
    ·exact hp
    ·exact h1 b hb
theorem EvP.shift {α : Type} {f : Nat → Option α} {P : α → Prop} (h : EvP f P) : EvP (fun k => f (k + 1)) P := by
 obtain ⟨r, h1, h2⟩ := h
 exact ⟨r, h1.shift, h2⟩
theorem EvP.ev {α : Type} {f : Nat → Option α} {r : α} (h : EvP f (fun x => x = r)) : Ev f r := by
 obtain ⟨x, h1, rfl⟩ := h
 exact h1
def isIn (x a b : Int) : Bool := decide (a ≤ x ∧ x ≤ b)
theorem sIn (k : Nat) (x a b : Int) : S_l1In k x a b = some (isIn x a b) := by
 unfold S_l1In isIn
 simp only [Bool.cond_decide]
 split
 all_goals
  refine congrArg some (Bool.eq_iff_iff.mpr ?_)
  simp only [decide_eq_true_eq, Bool.false_eq_true, false_iff]
  omega
theorem iIn (k : Nat) (x a b : Int) : I_within k x a b = some (isIn x a b) := sIn k x a b
theorem bvNat (n : Nat) (h : n < 18446744073709551616) : (BitVec.ofInt 64 (n : Int)).toNat = n := by
 rw [BitVec.ofInt_natCast, BitVec.toNat_ofNat]; exact Nat.mod_eq_of_lt (by omega)
theorem and127 (n : Nat) (h : n < 9223372036854775808) : Go.bits .and .i64 (n : Int) 127 = ((n % 128 : Nat) : Int) := by
 show IntKind.i64.wrap ((BitVec.ofInt 64 (n : Int) &&& BitVec.ofInt 64 ((127 : Nat) : Int)).toNat : Int) = _
 rw [BitVec.toNat_and, bvNat n (by omega), bvNat 127 (by omega), Nat.and_two_pow_sub_one_eq_mod n 7, wid (by omega) (by omega)]
theorem orNat (a b : Nat) (ha : a < 9223372036854775808) (hb : b < 9223372036854775808) : Go.bits .or .i64 (a : Int) (b : Int) = ((a ||| b : Nat) : Int) := by
 show IntKind.i64.wrap ((BitVec.ofInt 64 (a : Int) ||| BitVec.ofInt 64 (b : Int)).toNat : Int) = _
 have : a ||| b < 2 ^ 63 := Nat.or_lt_two_pow ha hb
 rw [BitVec.toNat_or, bvNat a (by omega), bvNat b (by omega), wid (by omega) (by omega)]
theorem orLow (a b i : Nat) (ha : a < 2 ^ i) : a ||| (b * 2 ^ i) = a + b * 2 ^ i := by
 rw [Nat.or_comm, Nat.mul_comm, ← Nat.two_pow_add_eq_or_of_lt ha, Nat.add_comm]
theorem or128 (m : Nat) (h : m < 128) : Go.bits .or .i64 (m : Int) 128 = ((128 + m : Nat) : Int) := by
 have := orNat m 128 (by omega) (by omega)
 rw [show ((128 : Nat) : Int) = 128 from rfl] at this
 rw [this, show 128 = 1 * 2 ^ 7 from rfl, orLow m 1 7 (by omega)]
 congr 1; omega
theorem highI (n : Nat) : shrI .i64 (n : Int) 7 = ((n / 128 : Nat) : Int) := by
 show Int.fdiv (n : Int) 128 = _
 rw [Int.fdiv_eq_ediv_of_nonneg _ (by omega)]; omega
theorem lowI (n : Nat) (h : n < 9223372036854775808) : Go.bits .or .i64 (Go.bits .and .i64 (n : Int) 127) 128 = ((128 + n % 128 : Nat) : Int) := by
 rw [and127 n h, or128 _ (Nat.mod_lt _ (by omega))]
theorem lowS (n : Nat) : IntKind.i64.wrap (128 + Int.tmod (n : Int) 128) = ((128 + n % 128 : Nat) : Int) := by
 rw [show Int.tmod (n : Int) 128 = ((n % 128 : Nat) : Int) from rfl, wid (by omega) (by omega)]; omega
theorem highS (n : Nat) (h : n < 9223372036854775808) : IntKind.i64.wrap (Int.tdiv (n : Int) 128) = ((n / 128 : Nat) : Int) := by
 rw [show Int.tdiv (n : Int) 128 = ((n / 128 : Nat) : Int) from rfl, wid (by omega) (by omega)]
theorem ofI_nat (n : Nat) (h : n < 256) : ofI (n : Int) = UInt8.ofNat n := by
 unfold ofI
 have : ((n : Int) % 256).toNat = n := by omega
 rw [this]
def varE (n : Nat) : List UInt8 := if h : n < 128 then [UInt8.ofNat n] else UInt8.ofNat (128 + n % 128) :: varE (n / 128)
termination_by n
decreasing_by omega
theorem varE_lt {n : Nat} (h : n < 128) : varE n = [UInt8.ofNat n] := by rw [varE, dif_pos h]
theorem varE_ge {n : Nat} (h : 128 ≤ n) : varE n = UInt8.ofNat (128 + n % 128) :: varE (n / 128) := by rw [varE, dif_neg (by omega)]
theorem varE_len : ∀ (m n : Nat), n < 128 ^ (m + 1) → (varE n).length ≤ m + 1
 | m, n, h => by
  by_cases hn : n < 128
  ·rw [varE_lt hn]; simp
  ·rw [varE_ge (by omega)]
   cases m with
   | zero => omega
   | succ m =>
    have := varE_len m (n / 128) (by rw [Nat.pow_succ] at h; omega)
    simp; omega
theorem varE_pos (n : Nat) : 0 < (varE n).length := by
 by_cases hn : n < 128
 ·rw [varE_lt hn]; simp
 ·rw [varE_ge (by omega)]; simp
theorem varE_ne (n : Nat) : varE n ≠ [] := fun h => by have := varE_pos n; rw [h] at this; simp at this
def varI (a : Int) : List UInt8 := if 0 ≤ a ∧ a ≤ 562949953421311 then varE a.toNat else []
theorem varI_nat (n : Nat) (h : n ≤ 562949953421311) : varI (n : Int) = varE n := by
 unfold varI; rw [if_pos (by omega)]; simp
theorem varI_len (a : Int) : (varI a).length ≤ 7 := by
 unfold varI
 split
 ·exact varE_len 6 _ (by omega)
 ·simp
theorem sVarL : ∀ (m n : Nat) (acc : List UInt8), n < 128 ^ (m + 1) → m ≤ 8 → acc.length + m ≤ 1000 → Ev (fun k => S_Var.l2 k (n : Int) acc) (acc ++ varE n) := by
 intro m
 induction m with
 | zero =>
  intro n acc h hm ha
  refine Ev.succ ?_
  simp only [S_Var.l2]
  rw [decide_eq_false (p := (n : Int) ≥ 128) (by omega), decide_eq_true (p := (2 * (acc.length + [ofI (n : Int)].length) + 192) * 1 ≤ 281474976710656) (by simp; omega), ofI_nat n (by omega), varE_lt (by omega)]
  exact Ev.pure _
 | succ m ih =>
  intro n acc h hm ha
  have h9 : n < 9223372036854775808 := Nat.lt_of_lt_of_le h (Nat.le_trans (Nat.pow_le_pow_right (by omega) (show m + 1 + 1 ≤ 9 by omega)) (by decide))
  refine Ev.succ ?_
  simp only [S_Var.l2]
  by_cases hn : n < 128
  ·rw [decide_eq_false (p := (n : Int) ≥ 128) (by omega), decide_eq_true (p := (2 * (acc.length + [ofI (n : Int)].length) + 192) * 1 ≤ 281474976710656) (by simp; omega), ofI_nat n (by omega), varE_lt hn]
   exact Ev.pure _
  ·rw [decide_eq_true (p := (n : Int) ≥ 128) (by omega), lowS, highS n h9, ofI_nat (128 + n % 128) (by omega), decide_eq_true (p := (2 * (acc.length + [UInt8.ofNat (128 + n % 128)].length) + 192) * 1 ≤ 281474976710656) (by simp; omega)]
   simp only [cond_true]
   refine (ih (n / 128) _ (by rw [Nat.pow_succ] at h; omega) (by omega) (by rw [List.length_append]; simp only [List.length_cons, List.length_nil]; omega)).to ?_
   rw [varE_ge (n := n) (by omega), List.append_assoc]; rfl
theorem iVarL : ∀ (m n : Nat) (acc : List UInt8), n < 128 ^ (m + 1) → m ≤ 8 → acc.length + m ≤ 1000 → Ev (fun k => I_Var.l2 k (n : Int) acc) (acc ++ varE n) := by
 intro m
 induction m with
 | zero =>
  intro n acc h hm ha
  refine Ev.succ ?_
  simp only [I_Var.l2]
  rw [decide_eq_false (p := (n : Int) > 127) (by omega), decide_eq_true (p := (2 * (acc.length + [ofI (n : Int)].length) + 192) * 1 ≤ 281474976710656) (by simp; omega), ofI_nat n (by omega), varE_lt (by omega)]
  exact Ev.pure _
 | succ m ih =>
  intro n acc h hm ha
  have h9 : n < 9223372036854775808 := Nat.lt_of_lt_of_le h (Nat.le_trans (Nat.pow_le_pow_right (by omega) (show m + 1 + 1 ≤ 9 by omega)) (by decide))
  refine Ev.succ ?_
  simp only [I_Var.l2]
  by_cases hn : n < 128
  ·rw [decide_eq_false (p := (n : Int) > 127) (by omega), decide_eq_true (p := (2 * (acc.length + [ofI (n : Int)].length) + 192) * 1 ≤ 281474976710656) (by simp; omega), ofI_nat n (by omega), varE_lt hn]
   exact Ev.pure _
  ·rw [decide_eq_true (p := (n : Int) > 127) (by omega), lowI n h9, highI n, ofI_nat (128 + n % 128) (by omega), decide_eq_true (p := (2 * (acc.length + [UInt8.ofNat (128 + n % 128)].length) + 192) * 1 ≤ 281474976710656) (by simp; omega)]
   simp only [cond_true]
   refine (ih (n / 128) _ (by rw [Nat.pow_succ] at h; omega) (by omega) (by rw [List.length_append]; simp only [List.length_cons, List.length_nil]; omega)).to ?_
   rw [varE_ge (n := n) (by omega), List.append_assoc]; rfl
theorem sVar (a : Int) : Ev (fun k => S_Var k a) (varI a) := by
 simp only [S_Var, sIn, Option.bind_some]
 refine Ev.ite (fun hc => ?_) (fun hc => ?_)
 ·refine (Ev.pure _).to ?_
  unfold varI; rw [if_neg (fun h => by unfold isIn at hc; rw [decide_eq_true h] at hc; cases hc)]
 ·have h : 0 ≤ a ∧ a ≤ 562949953421311 := by simpa [isIn] using hc
  obtain ⟨n, rfl⟩ : ∃ n : Nat, a = n := ⟨a.toNat, by omega⟩
  refine (sVarL 6 n [] (by omega) (by omega) (by simp)).to ?_
  rw [varI_nat n (by omega)]; rfl
theorem iVar (a : Int) : Ev (fun k => I_Var k a) (varI a) := by
 simp only [I_Var, iIn, Option.bind_some]
 refine Ev.ite (fun hc => ?_) (fun hc => ?_)
 ·refine (Ev.pure _).to ?_
  unfold varI; rw [if_neg (fun h => by unfold isIn at hc; rw [decide_eq_true h] at hc; cases hc)]
 ·have h : 0 ≤ a ∧ a ≤ 562949953421311 := by simpa [isIn] using hc
  obtain ⟨n, rfl⟩ : ∃ n : Nat, a = n := ⟨a.toNat, by omega⟩
  refine (iVarL 6 n [] (by omega) (by omega) (by simp)).to ?_
  rw [varI_nat n (by omega)]; rfl
/-- The number at the begin of a text, of at most f bytes, and how many they are. -/
def dv : Nat → List UInt8 → Option (Nat × Nat)
 | 0, _ => none
 | _ + 1, [] => none
 | f + 1, b :: bs => if b.toNat < 128 then some (b.toNat, 1) else match dv f bs with
  | some (n, s) => if n = 0 then none else some (b.toNat % 128 + 128 * n, s + 1)
  | none => none
def rvP (s : List UInt8) : Int × Int := match dv 7 s with
 | some (n, z) => ((n : Int), (z : Int))
 | none => (0, 0)
theorem u8eta (b : UInt8) : UInt8.ofNat b.toNat = b := by simp
theorem dv_ok : ∀ {f : Nat} {s : List UInt8} {n z : Nat}, dv f s = some (n, z) → z ≤ s.length ∧ z ≤ f ∧ 0 < z ∧ s.take z = varE n ∧ n < 128 ^ z
 | 0, s, n, z, h => by simp [dv] at h
 | f + 1, [], n, z, h => by simp [dv] at h
 | f + 1, b :: bs, n, z, h => by
  simp only [dv] at h
  split at h
  ·rename_i hb
   cases h
   exact ⟨by simp, by omega, by omega, by rw [varE_lt hb]; simp, by simpa using hb⟩
  ·rename_i hb
   split at h
   ·rename_i m t hm
    split at h
    ·cases h
    ·rename_i hm0
     cases h
     obtain ⟨h1, h2, h3, h4, h5⟩ := dv_ok hm
     have hb2 := b.toNat_lt
     refine ⟨by simp; omega, by omega, by omega, ?_, ?_⟩
     ·rw [List.take_succ_cons, h4, varE_ge (n := b.toNat % 128 + 128 * m) (by omega)]
      have e1 : (b.toNat % 128 + 128 * m) % 128 = b.toNat % 128 := by omega
      have e2 : (b.toNat % 128 + 128 * m) / 128 = m := by omega
      rw [e1, e2, show 128 + b.toNat % 128 = b.toNat by omega, u8eta]
     ·rw [Nat.pow_succ]; omega
   ·cases h
theorem varE_dv : ∀ {f : Nat} {n : Nat} {t : List UInt8}, n < 128 ^ (f + 1) → dv (f + 1) (varE n ++ t) = some (n, (varE n).length)
 | f, n, t, h => by
  by_cases hn : n < 128
  ·rw [varE_lt hn]
   have : (UInt8.ofNat n).toNat = n := by rw [UInt8.toNat_ofNat']; omega
   simp [dv, this, hn]
  ·have h1 : (UInt8.ofNat (128 + n % 128)).toNat = 128 + n % 128 := by rw [UInt8.toNat_ofNat']; omega
   rw [varE_ge (n := n) (by omega)]
   cases f with
   | zero => omega
   | succ f =>
    have ih := varE_dv (f := f) (n := n / 128) (t := t) (by rw [Nat.pow_succ] at h; omega)
    simp only [List.cons_append, dv.eq_3 (f + 1), h1]
    rw [if_neg (by omega), ih]
    simp only
    rw [if_neg (by omega)]
    simp only [List.length_cons]
    congr 2; omega
theorem rvP_var {n : Nat} {t : List UInt8} (h : n ≤ 562949953421311) : rvP (varE n ++ t) = ((n : Int), ((varE n).length : Int)) := by
 unfold rvP; rw [varE_dv (by omega)]
/-- The sum of the digits, the lowest first. -/
def digs : List UInt8 → Nat
 | [] => 0
 | b :: bs => b.toNat % 128 + 128 * digs bs
theorem digs_lt : ∀ (s : List UInt8), digs s < 128 ^ s.length
 | [] => by simp [digs]
 | b :: bs => by have := digs_lt bs; simp only [digs, List.length_cons, Nat.pow_succ]; omega
theorem digs_snoc : ∀ (s : List UInt8) (b : UInt8), digs (s ++ [b]) = digs s + b.toNat % 128 * 128 ^ s.length
 | [], b => by simp [digs]
 | c :: s, b => by
  simp only [List.cons_append, digs, List.length_cons, digs_snoc s b, Nat.pow_succ]
  rw [Nat.mul_add, Nat.mul_comm (128 ^ s.length) 128, ← Nat.mul_assoc, ← Nat.mul_assoc, Nat.mul_comm (b.toNat % 128) 128]
  omega
theorem digs_varE : ∀ (m n : Nat), n < 128 ^ (m + 1) → digs (varE n) = n
 | m, n, h => by
  by_cases hn : n < 128
  ·rw [varE_lt hn]; simp [digs, UInt8.toNat_ofNat']; omega
  ·rw [varE_ge (by omega)]
   have h1 : (UInt8.ofNat (128 + n % 128)).toNat = 128 + n % 128 := by rw [UInt8.toNat_ofNat']; omega
   cases m with
   | zero => omega
   | succ m =>
    simp only [digs, h1, digs_varE m (n / 128) (by rw [Nat.pow_succ] at h; omega)]; omega
/-- Whether the first bytes are a number's, of just this size. -/
theorem dv_take {s : List UInt8} {z : Nat} (hz : z ≤ s.length) (h7 : z ≤ 7) (h0 : 0 < z) (h : varE (digs (s.take z)) = s.take z) : dv 7 s = some (digs (s.take z), z) := by
 have h1 : digs (s.take z) < 128 ^ 7 := by
  have := digs_lt (s.take z)
  rw [List.length_take, Nat.min_eq_left hz] at this
  exact Nat.lt_of_lt_of_le this (Nat.pow_le_pow_right (by omega) h7)
 have h2 := varE_dv (f := 6) (n := digs (s.take z)) (t := s.drop z) h1
 rw [h, List.take_append_drop, List.length_take, Nat.min_eq_left hz] at h2
 exact h2
theorem dv_take' {s : List UInt8} {n z : Nat} (h : dv 7 s = some (n, z)) : digs (s.take z) = n ∧ varE (digs (s.take z)) = s.take z := by
 obtain ⟨h1, h2, h3, h4, h5⟩ := dv_ok h
 have h6 : n < 128 ^ (6 + 1) := Nat.lt_of_lt_of_le h5 (Nat.pow_le_pow_right (by omega) h2)
 have e : digs (s.take z) = n := by rw [h4]; exact digs_varE 6 n h6
 exact ⟨e, by rw [e, h4]⟩
theorem cutN {α : Type} {xs : List α} {a b : Nat} (h : a ≤ b) (h2 : b ≤ xs.length) : cut? xs (a : Int) (b : Int) = some ((xs.drop a).take (b - a)) := by
 unfold cut?
 rw [if_pos (by omega)]
 congr 2; omega
theorem cut0 {α : Type} {xs : List α} {b : Nat} (h2 : b ≤ xs.length) : cut? xs 0 (b : Int) = some (xs.take b) := by
 have := cutN (xs := xs) (a := 0) (b := b) (by omega) h2
 simpa using this
theorem cutEnd {α : Type} {xs : List α} {a : Nat} (h : a ≤ xs.length) : cut? xs (a : Int) (xs.length : Int) = some (xs.drop a) := by
 rw [cutN h (Nat.le_refl _)]
 congr 1
 exact List.take_of_length_le (by simp)
theorem varE_bytes : ∀ (m n : Nat), n < 128 ^ (m + 1) → ∀ (j : Nat) (b : UInt8), (varE n)[j]? = some b → if j + 1 < (varE n).length then 128 ≤ b.toNat else b.toNat < 128
 | m, n, h, j, b, hj => by
  by_cases hn : n < 128
  ·rw [varE_lt hn] at hj ⊢
   cases j with
   | zero => simp at hj; subst hj; simp [UInt8.toNat_ofNat']; omega
   | succ j => simp at hj
  ·rw [varE_ge (n := n) (by omega)] at hj ⊢
   have h1 : (UInt8.ofNat (128 + n % 128)).toNat = 128 + n % 128 := by rw [UInt8.toNat_ofNat']; omega
   have hp := varE_pos (n / 128)
   cases j with
   | zero => simp only [List.getElem?_cons_zero, Option.some.injEq] at hj; subst hj; rw [if_pos (by simp; omega), h1]; omega
   | succ j =>
    cases m with
    | zero => omega
    | succ m =>
     simp only [List.getElem?_cons_succ] at hj
     have := varE_bytes m (n / 128) (by rw [Nat.pow_succ] at h; omega) j b hj
     simp only [List.length_cons]
     by_cases hl : j + 1 < (varE (n / 128)).length
     ·rw [if_pos (by omega)]; rwa [if_pos hl] at this
     ·rw [if_neg (by omega)]; rwa [if_neg hl] at this
theorem dv_bytes {s : List UInt8} {n z : Nat} (h : dv 7 s = some (n, z)) {j : Nat} {b : UInt8} (hj : s[j]? = some b) : (j + 1 < z → 128 ≤ b.toNat) ∧ (j + 1 = z → b.toNat < 128) := by
 obtain ⟨h1, h2, h3, h4, h5⟩ := dv_ok h
 have h6 : n < 128 ^ (6 + 1) := Nat.lt_of_lt_of_le h5 (Nat.pow_le_pow_right (by omega) h2)
 have hlen : (varE n).length = z := by rw [← h4, List.length_take]; omega
 have get : j < z → (varE n)[j]? = some b := fun hjz => by rw [← h4, List.getElem?_take, if_pos hjz]; exact hj
 refine ⟨fun hl => ?_, fun hl => ?_⟩
 ·have := varE_bytes 6 n h6 j b (get (by omega))
  rwa [if_pos (by omega)] at this
 ·have := varE_bytes 6 n h6 j b (get (by omega))
  rwa [if_neg (by omega)] at this
theorem sRV26 (s : List UInt8) (z : Nat) (hz : z ≤ s.length) (h7 : z ≤ 7) (h0 : 0 < z) (r2 : Int × Int) : ∀ (j : Nat) (cl : Nat → List UInt8 → Int → Option (Int × Int)), j ≤ z → Ev (fun k => cl k s (IntKind.i64.wrap ((z : Int) + 1))) r2 →
  Ev (fun k => S_ReadVar.l26 (cl k) k s (z : Int) (digs ((s.take z).drop j) : Int) ((j : Int) - 1)) (if varE (digs (s.take z)) = s.take z then ((digs (s.take z) : Int), (z : Int)) else r2) := by
 have hlt : digs (s.take z) < 128 ^ 7 := by
  have := digs_lt (s.take z)
  rw [List.length_take, Nat.min_eq_left hz] at this
  exact Nat.lt_of_lt_of_le this (Nat.pow_le_pow_right (by omega) h7)
 intro j
 induction j with
 | zero =>
  intro cl hj hcl
  refine Ev.succ ?_
  simp only [S_ReadVar.l26]
  rw [decide_eq_false (by omega)]
  simp only [cond_false, List.drop_zero]
  refine Ev.bind (sVar _) ?_
  rw [varI_nat _ (by omega), cut0 hz]
  simp only [Option.bind_some]
  refine Ev.ite (fun hc => ?_) (fun hc => ?_)
  ·rw [if_pos (eq_of_beq hc)]; exact Ev.pure _
  ·rw [if_neg (fun h => by rw [h] at hc; simp at hc)]; exact hcl.shift
 | succ j ih =>
  intro cl hj hcl
  refine Ev.succ ?_
  simp only [S_ReadVar.l26]
  obtain ⟨b, hb⟩ := atLt (xs := s) (i := j) (by omega)
  rw [decide_eq_true (by omega)]
  rw [show ((j + 1 : Nat) : Int) - 1 = (j : Int) by omega]
  simp only [cond_true]
  refine Ev.at? hb ?_
  have e : (s.take z).drop j = b :: (s.take z).drop (j + 1) := by
   have hl : j < (s.take z).length := by rw [List.length_take]; omega
   rw [List.drop_eq_getElem_cons hl]
   congr 1
   rw [List.getElem_take]
   rw [List.getElem?_eq_getElem (by omega)] at hb
   exact Option.some.inj hb
  have hd : digs ((s.take z).drop (j + 1)) < 128 ^ 7 := by
   have h1 := digs_lt ((s.take z).drop (j + 1))
   have h2 : ((s.take z).drop (j + 1)).length ≤ 7 := by simp; omega
   exact Nat.lt_of_lt_of_le h1 (Nat.pow_le_pow_right (by omega) h2)
  have e2 : IntKind.i64.wrap (IntKind.i64.wrap ((digs ((s.take z).drop (j + 1)) : Int) * 128) + Int.tmod (b.toNat : Int) 128) = (digs ((s.take z).drop j) : Int) := by
   rw [show Int.tmod (b.toNat : Int) 128 = ((b.toNat % 128 : Nat) : Int) from rfl, e]
   simp only [digs]
   rw [wid (n := (digs ((s.take z).drop (j + 1)) : Int) * 128) (by omega) (by omega), wid (by omega) (by omega)]
   omega
  rw [e2, wid (n := (j : Int) - 1) (by omega) (by omega)]
  exact ih (fun k => cl (k + 1)) (by omega) hcl.shift
theorem sReadVar (s : List UInt8) (hs : s.length ≤ 1048576) : Ev (fun k => S_ReadVar k s) (rvP s) := by
 have key : ∀ (m z : Nat), z + m = 8 → 0 < z → Ev (fun k => S_ReadVar.l22 k s (z : Int)) (match dv 7 s with | some (n, t) => if z ≤ t then ((n : Int), (t : Int)) else (0, 0) | none => (0, 0)) := by
  intro m
  induction m with
  | zero =>
   intro z hz h0
   refine Ev.succ ?_
   simp only [S_ReadVar.l22]
   rw [decide_eq_false (by omega)]
   refine (Ev.pure _).to ?_
   cases hd : dv 7 s with
   | none => rfl
   | some p => obtain ⟨n, t⟩ := p; have := (dv_ok hd).2.1; simp only; rw [if_neg (by omega)]
  | succ m ih =>
   intro z hz h0
   refine Ev.succ ?_
   simp only [S_ReadVar.l22]
   rw [decide_eq_true (p := (z : Int) ≤ 7) (by omega)]
   simp only [cond_true]
   by_cases hl : z ≤ s.length
   ·rw [decide_eq_true (p := (z : Int) ≤ (s.length : Int)) (by omega)]
    simp only [cond_true]
    have hn := ih (z + 1) (by omega) (by omega)
    have h26 := sRV26 s z hl (by omega) h0 _ z (fun k => S_ReadVar.l22 k) (Nat.le_refl _) (by rw [wid1 (by omega)]; exact hn)
    rw [show (s.take z).drop z = [] from List.drop_of_length_le (by rw [List.length_take]; omega)] at h26
    rw [wid (n := (z : Int) - 1) (by omega) (by omega)]
    refine h26.to ?_
    by_cases he : varE (digs (s.take z)) = s.take z
    ·rw [if_pos he, dv_take hl (by omega) h0 he]; simp
    ·rw [if_neg he]
     cases hd : dv 7 s with
     | none => rfl
     | some p =>
      obtain ⟨n, t⟩ := p
      have : t ≠ z := fun e => by subst e; exact he (dv_take' hd).2
      simp only
      by_cases h : z ≤ t
      ·rw [if_pos h, if_pos (by omega)]
      ·rw [if_neg h, if_neg (by omega)]
   ·rw [decide_eq_false (p := (z : Int) ≤ (s.length : Int)) (by omega)]
    refine (Ev.pure _).to ?_
    cases hd : dv 7 s with
    | none => rfl
    | some p => obtain ⟨n, t⟩ := p; have := (dv_ok hd).1; simp only; rw [if_neg (by omega)]
 simp only [S_ReadVar]
 refine (key 7 1 (by omega) (by omega)).to ?_
 unfold rvP
 cases hd : dv 7 s with
 | none => rfl
 | some p => obtain ⟨n, t⟩ := p; have := (dv_ok hd).2.2.1; simp only; rw [if_pos (by omega)]
theorem pow7 (i : Nat) : 2 ^ (7 * i) = 128 ^ i := by rw [Nat.pow_mul]
theorem iReadVar (s : List UInt8) (hs : s.length ≤ 1048576) : Ev (fun k => I_ReadVar k s) (rvP s) := by
 have none7 : ∀ i, (∀ j b, j < i → s[j]? = some b → 128 ≤ b.toNat) → (7 ≤ i ∨ s.length ≤ i) → rvP s = (0, 0) := by
  intro i hb hi
  unfold rvP
  cases hd : dv 7 s with
  | none => rfl
  | some p =>
   obtain ⟨n, z⟩ := p
   obtain ⟨h1, h2, h3, _, _⟩ := dv_ok hd
   obtain ⟨b, hb'⟩ := atLt (xs := s) (i := z - 1) (by omega)
   have := (dv_bytes hd hb').2 (by omega)
   have := hb (z - 1) b (by omega) hb'
   omega
 have key : ∀ (m i : Nat), i + m = s.length → i ≤ 7 → (∀ j b, j < i → s[j]? = some b → 128 ≤ b.toNat) → Ev (fun k => I_ReadVar.l2 k s (digs (s.take i) : Int) (i : Int)) (rvP s) := by
  intro m
  induction m with
  | zero =>
   intro i hi h7 hb
   refine Ev.succ ?_
   simp only [I_ReadVar.l2]
   rw [decide_eq_false (by omega)]
   exact (Ev.pure _).to (none7 i hb (.inr (by omega))).symm
  | succ m ih =>
   intro i hi h7 hb
   refine Ev.succ ?_
   simp only [I_ReadVar.l2]
   rw [decide_eq_true (p := (i : Int) < (s.length : Int)) (by omega)]
   simp only [cond_true]
   by_cases hi7 : i = 7
   ·subst hi7
    rw [decide_eq_false (p := ((7 : Nat) : Int) < 7) (by omega)]
    exact (Ev.pure _).to (none7 7 hb (.inl (by omega))).symm
   rw [decide_eq_true (p := (i : Int) < 7) (by omega)]
   simp only [cond_true]
   obtain ⟨b, hb'⟩ := atLt (xs := s) (i := i) (by omega)
   have hbl := b.toNat_lt
   have e7 : IntKind.i64.wrap ((7 : Int) * (i : Int)) = ((7 * i : Nat) : Int) := by rw [wid (by omega) (by omega)]; omega
   refine Ev.at? hb' ?_
   rw [e7, decide_eq_false (by omega)]
   simp only [Bool.not_false, cond_true]
   refine Ev.at? hb' ?_
   have hand : ((b &&& 127).toNat : Nat) = b.toNat % 128 := by
    rw [UInt8.toNat_and]; exact Nat.and_two_pow_sub_one_eq_mod b.toNat 7
   have hdl : digs (s.take i) < 128 ^ i := by
    have := digs_lt (s.take i)
    rwa [List.length_take, Nat.min_eq_left (by omega)] at this
   have hp : 128 ^ i ≤ 128 ^ 6 := Nat.pow_le_pow_right (by omega) (by omega)
   have hm : b.toNat % 128 * 128 ^ i < 562949953421312 := by
    have h1 : b.toNat % 128 * 128 ^ i ≤ 127 * 128 ^ 6 := Nat.mul_le_mul (by omega) hp
    omega
   have eshl : shlI .i64 ((b.toNat % 128 : Nat) : Int) ((7 * i : Nat) : Int) = ((b.toNat % 128 * 128 ^ i : Nat) : Int) := by
    unfold shlI
    have e : min (((7 * i : Nat) : Int)).toNat IntKind.i64.bits = 7 * i := by
     have : IntKind.i64.bits = 64 := rfl
     rw [Int.toNat_natCast, this]; omega
    rw [e]
    have e2 : ((b.toNat % 128 : Nat) : Int) * 2 ^ (7 * i) = ((b.toNat % 128 * 128 ^ i : Nat) : Int) := by
     rw [← pow7, Int.natCast_mul, Int.natCast_pow]; rfl
    rw [e2]
    exact wid (by omega) (by omega)
   have eor : Go.bits .or .i64 (digs (s.take i) : Int) (shlI .i64 (((b &&& 127).toNat : Nat) : Int) ((7 * i : Nat) : Int)) = (digs (s.take (i + 1)) : Int) := by
    rw [hand, eshl, orNat _ _ (by omega) (by omega), ← pow7, orLow _ _ _ (by rw [pow7]; exact hdl), take_succ_get hb', digs_snoc, List.length_take, Nat.min_eq_left (by omega), pow7]
   rw [eor, wid1 (by omega)]
   have hd7 : digs (s.take (i + 1)) ≤ 562949953421311 := by
    have := digs_lt (s.take (i + 1))
    rw [List.length_take, Nat.min_eq_left (by omega)] at this
    have h2 : 128 ^ (i + 1) ≤ 128 ^ 7 := Nat.pow_le_pow_right (by omega) (by omega)
    omega
   refine Ev.ite (fun hc => ?_) (fun hc => ?_)
   ·have hlt : b.toNat < 128 := by
     have := of_decide_eq_true hc
     simpa [UInt8.lt_iff_toNat_lt] using this
    refine Ev.bind (iVar _) ?_
    rw [varI_nat _ hd7, cut0 (by omega)]
    simp only [Option.bind_some]
    refine Ev.ite (fun hne => ?_) (fun hne => ?_)
    ·refine (Ev.pure _).to ?_
     unfold rvP
     cases hd : dv 7 s with
     | none => rfl
     | some p =>
      obtain ⟨n, z⟩ := p
      obtain ⟨h1, h2, h3, _, _⟩ := dv_ok hd
      have hz : z = i + 1 := by
       obtain ⟨c, hc'⟩ := atLt (xs := s) (i := z - 1) (by omega)
       have l1 := (dv_bytes hd hc').2 (by omega)
       have l2 : ¬ z - 1 < i := fun h => by have := hb (z - 1) c h hc'; omega
       have l3 : ¬ i + 1 < z := fun h => by have := (dv_bytes hd hb').1 h; omega
       omega
      subst hz
      have := (dv_take' hd).2
      rw [this] at hne; simp at hne
    ·refine (Ev.pure _).to ?_
     have he : varE (digs (s.take (i + 1))) = s.take (i + 1) := by simpa using hne
     unfold rvP
     rw [dv_take (by omega) (by omega) (by omega) he]
   ·refine ih (i + 1) (by omega) (by omega) (fun j c hj hc' => ?_)
    by_cases hji : j < i
    ·exact hb j c hji hc'
    ·have : j = i := by omega
     subst this
     rw [hb'] at hc'; cases hc'
     have := of_decide_eq_false hc
     simpa [UInt8.lt_iff_toNat_lt] using this
 simp only [I_ReadVar]
 exact key s.length 0 (by omega) (by omega) (fun j b hj => by omega)
theorem at?_drop {s : List UInt8} {i : Nat} {c : UInt8} {t : List UInt8} (h : s.drop i = c :: t) : s[i]? = some c ∧ s.drop (i + 1) = t ∧ i < s.length := by
 have h1 : (s.drop i)[0]? = some c := by rw [h]; rfl
 rw [List.getElem?_drop, Nat.add_zero] at h1
 refine ⟨h1, ?_, (List.getElem?_eq_some_iff.1 h1).1⟩
 rw [← List.drop_drop, h]; rfl
theorem drop_cons_ex {s : List UInt8} {i : Nat} (h : i < s.length) : ∃ c t, s.drop i = c :: t := by
 cases hd : s.drop i with
 | nil => have := congrArg List.length hd; simp at this; omega
 | cons c t => exact ⟨c, t, rfl⟩
theorem drop_at {α : Type} {l : List α} {j : Nat} {k : α} {ks : List α} (h : l.drop j = k :: ks) : j < l.length ∧ l[j]? = some k ∧ l.drop (j + 1) = ks := by
 have hk : l[j]? = some k := by
  have : (l.drop j)[0]? = some k := by rw [h]; rfl
  rwa [List.getElem?_drop, Nat.add_zero] at this
 exact ⟨(List.getElem?_eq_some_iff.1 hk).1, hk, by rw [← List.drop_drop, h]; rfl⟩
def tmsOf (f : List UInt8 → Option Nat) : Nat → List UInt8 → Option Nat
 | 0, _ => some 0
 | n + 1, s => match f s with
  | some m => match tmsOf f n (s.drop m) with
   | some r => some (m + r)
   | none => none
  | none => none
/-- How long the term is with which a text begins, of at most this depth. -/
def tm : Nat → List UInt8 → Option Nat
 | 0, _ => none
 | _ + 1, [] => none
 | d + 1, c :: s => match dv 7 s with
  | none => none
  | some (n, z) =>
   if c = 97 then (if n ≤ 40 ∧ z + n ≤ s.length then some (1 + z + n) else none)
   else if c = 107 then (if 1 ≤ n ∧ n ≤ 1000000 then some (1 + z) else none)
   else if c = 115 then (if 1 ≤ n ∧ n ≤ 1000000 then (match tm d (s.drop z) with | some m => some (1 + z + m) | none => none) else none)
   else if c = 108 then (if n ≤ 12 then (match tmsOf (tm d) n (s.drop z) with | some m => some (1 + z + m) | none => none) else none)
   else none
def szI : Option Nat → Int
 | some m => (m : Int)
 | none => 0
theorem tmsOf_le {f : List UInt8 → Option Nat} (hf : ∀ s m, f s = some m → m ≤ s.length) : ∀ (n : Nat) (s : List UInt8) (m : Nat), tmsOf f n s = some m → m ≤ s.length
 | 0, s, m, h => by simp [tmsOf] at h; omega
 | n + 1, s, m, h => by
  simp only [tmsOf] at h
  split at h
  ·rename_i a ha
   split at h
   ·rename_i b hb
    cases h
    have h1 := hf s a ha
    have h2 := tmsOf_le hf n (s.drop a) b hb
    rw [List.length_drop] at h2
    omega
   ·cases h
  ·cases h
theorem tm_le : ∀ (d : Nat) (s : List UInt8) (m : Nat), tm d s = some m → 0 < m ∧ m ≤ s.length
 | 0, s, m, h => by simp [tm] at h
 | d + 1, [], m, h => by simp [tm] at h
 | d + 1, c :: s, m, h => by
  simp only [tm] at h
  split at h
  ·cases h
  ·rename_i n z hd
   have hz := (dv_ok hd).1
   repeat' split at h
   all_goals first | cases h; done | skip
   ·cases h; rename_i h1; simp; omega
   ·cases h; simp; omega
   ·rename_i a ha
    cases h
    have := tm_le d _ _ ha
    rw [List.length_drop] at this
    simp; omega
   ·rename_i a ha
    cases h
    have := tmsOf_le (fun s m hm => (tm_le d s m hm).2) n _ _ ha
    rw [List.length_drop] at this
    simp; omega
theorem sTermL (s : List UInt8) (hs : s.length ≤ 1048576) (d : Nat) (hd8 : d ≤ 100) (at0 : Nat) (a2 : Int) (ha2 : IntKind.i64.wrap (a2 - 1) = (d : Int)) (n : Nat) (hn : n ≤ 12) : ∀ (m j : Nat) (cl : Nat → List UInt8 → Int → Int → Option (Int × Int)) (p : Nat) (dd : Int), j + m = n → at0 ≤ p → p ≤ s.length →
  (∀ i, i ≤ s.length → EvP (fun k => cl k s (i : Int) (d : Int)) (fun r => r.1 = szI (tm d (s.drop i)))) →
  EvP (fun k => S_l2Term.l15 (cl k) k s (at0 : Int) a2 (n : Int) (p : Int) dd (j : Int)) (fun r => r.1 = match tmsOf (tm d) m (s.drop p) with | some q => (((p + q : Nat) : Int) - (at0 : Int)) | none => 0) := by
 intro m
 induction m with
 | zero =>
  intro j cl p dd hj hap hp hcl
  refine EvP.succ ?_
  simp only [S_l2Term.l15]
  rw [decide_eq_false (by omega)]
  refine EvP.pure ?_
  simp only [tmsOf, Nat.add_zero]
  exact wid (by omega) (by omega)
 | succ m ih =>
  intro j cl p dd hj hap hp hcl
  refine EvP.succ ?_
  simp only [S_l2Term.l15]
  rw [decide_eq_true (by omega)]
  simp only [cond_true, ha2]
  refine EvP.bind ((hcl p hp).shift) (fun r hr => ?_)
  cases ht : tm d (s.drop p) with
  | none =>
   rw [ht] at hr
   simp only [szI] at hr
   rw [hr]
   refine EvP.pure ?_
   simp [tmsOf, ht]
  | some q =>
   rw [ht] at hr
   simp only [szI] at hr
   obtain ⟨q0, q1⟩ := tm_le d _ _ ht
   rw [List.length_drop] at q1
   rw [hr, show ((q : Int) == 0) = false by simp; omega]
   simp only [cond_false]
   have e : IntKind.i64.wrap ((p : Int) + (q : Int)) = ((p + q : Nat) : Int) := by rw [wid (by omega) (by omega)]; omega
   have post : ∀ dd', EvP (fun k => S_l2Term.j16 (S_l2Term.l15 (cl (k + 1)) k) k s (at0 : Int) a2 (n : Int) (IntKind.i64.wrap ((p : Int) + (q : Int))) dd' (j : Int)) (fun r => r.1 = match tmsOf (tm d) (m + 1) (s.drop p) with | some q => (((p + q : Nat) : Int) - (at0 : Int)) | none => 0) := by
    intro dd'
    simp only [S_l2Term.j16]
    rw [e, wid1 (by omega)]
    refine (ih (j + 1) (fun k => cl (k + 1)) (p + q) dd' (by omega) (by omega) (by omega) (fun i hi => (hcl i hi).shift)).mono fun r hr => ?_
    rw [hr]
    simp only [tmsOf, ht]
    rw [List.drop_drop]
    cases tmsOf (tm d) m (s.drop (p + q)) with
    | none => rfl
    | some q2 => simp only; omega
   refine EvP.ite (fun _ => post _) (fun _ => post _)
theorem sTerm (s : List UInt8) (hs : s.length ≤ 1048576) : ∀ (d : Nat) (i : Nat), d ≤ 100 → i ≤ s.length → EvP (fun k => S_l2Term k s (i : Int) (d : Int)) (fun r => r.1 = szI (tm d (s.drop i))) := by
 intro d
 induction d with
 | zero =>
  intro i _ hi
  refine EvP.succ ?_
  simp only [S_l2Term]
  refine EvP.ite (fun _ => EvP.pure (by simp [tm, szI])) (fun _ => ?_)
  rw [decide_eq_true (by omega)]
  exact EvP.pure (by simp [tm, szI])
 | succ d ih =>
  intro i hd hi
  refine EvP.succ ?_
  simp only [S_l2Term]
  by_cases hl : i < s.length
  ·obtain ⟨c, t, hct⟩ := drop_cons_ex hl
   obtain ⟨hc, ht, _⟩ := at?_drop hct
   have htl : t.length = s.length - (i + 1) := by rw [← ht, List.length_drop]
   rw [decide_eq_false (p := (i : Int) ≥ (s.length : Int)) (by omega), decide_eq_false (p := ((d + 1 : Nat) : Int) < 1) (by omega), wid1 (by omega), cutEnd (by omega), ht]
   simp only [cond_false, Option.bind_some]
   refine EvP.bindE (sReadVar t (by omega)) ?_
   rw [hct]
   cases hdv : dv 7 t with
   | none => simp only [rvP, tm, hdv]; exact EvP.pure rfl
   | some q =>
    obtain ⟨n, z⟩ := q
    simp only [rvP, tm, hdv]
    obtain ⟨z1, z2, z3, _, zn⟩ := dv_ok hdv
    have hn : n < 562949953421312 := Nat.lt_of_lt_of_le zn (by have := Nat.pow_le_pow_right (n := 128) (by omega) z2; omega)
    rw [show ((z : Int) == 0) = false by simp; omega]
    simp only [cond_false]
    refine EvP.at? hc ?_
    have e1 : IntKind.i64.wrap (((i + 1 : Nat) : Int) + (z : Int)) = ((i + 1 + z : Nat) : Int) := by rw [wid (by omega) (by omega)]; omega
    have e2 : IntKind.i64.wrap (1 + (z : Int)) = ((1 + z : Nat) : Int) := by rw [wid (by omega) (by omega)]; omega
    have e3 : IntKind.i64.wrap (((d + 1 : Nat) : Int) - 1) = (d : Int) := by rw [wid (by omega) (by omega)]; omega
    have e4 : IntKind.i64.wrap ((s.length : Int) - ((i + 1 + z : Nat) : Int)) = ((s.length - (i + 1 + z) : Nat) : Int) := by rw [wid (by omega) (by omega)]; omega
    have ed : t.drop z = s.drop (i + 1 + z) := by rw [← ht, List.drop_drop]
    rw [e1, e2, e3, e4]
    refine EvP.ite (fun ha => ?_) (fun ha => ?_)
    ·have ha := eq_of_beq ha
     rw [if_pos ha]
     refine EvP.ite (fun h1 => EvP.pure ?_) (fun h1 => ?_)
     ·have := of_decide_eq_true h1
      rw [if_neg (by omega)]; rfl
     ·have h1 := of_decide_eq_false h1
      refine EvP.ite (fun h2 => EvP.pure ?_) (fun h2 => EvP.pure ?_)
      ·have := of_decide_eq_true h2
       rw [if_neg (by omega)]; rfl
      ·have := of_decide_eq_false h2
       rw [if_pos (by omega)]
       simp only [szI]
       rw [wid (by omega) (by omega)]; omega
    rw [if_neg (fun e => by rw [e] at ha; simp at ha)]
    refine EvP.ite (fun hk => ?_) (fun hk => ?_)
    ·have hk := eq_of_beq hk
     rw [if_pos hk]
     simp only [sIn, Option.bind_some, isIn]
     refine EvP.ite (fun h1 => EvP.pure ?_) (fun h1 => EvP.pure ?_)
     ·rw [if_neg (fun h => by rw [decide_eq_true (by omega)] at h1; cases h1)]; rfl
     ·have := of_decide_eq_true (by simpa using h1 : decide ((1 : Int) ≤ (n : Int) ∧ (n : Int) ≤ 1000000) = true)
      rw [if_pos (by omega)]; rfl
    rw [if_neg (fun e => by rw [e] at hk; simp at hk)]
    refine EvP.ite (fun hss => ?_) (fun hss => ?_)
    ·have hss := eq_of_beq hss
     rw [if_pos hss, ed]
     refine EvP.bind (ih (i + 1 + z) (by omega) (by omega)) (fun r hr => ?_)
     cases ht2 : tm d (s.drop (i + 1 + z)) with
     | none =>
      rw [ht2] at hr; simp only [szI] at hr
      rw [hr]
      refine EvP.pure ?_
      split <;> rfl
     | some q =>
      rw [ht2] at hr; simp only [szI] at hr
      obtain ⟨q0, q1⟩ := tm_le d _ _ ht2
      rw [List.length_drop] at q1
      rw [hr, show ((q : Int) == 0) = false by simp; omega]
      simp only [cond_false, sIn, Option.bind_some, isIn]
      refine EvP.ite (fun h1 => EvP.pure ?_) (fun h1 => EvP.pure ?_)
      ·rw [if_neg (fun h => by rw [decide_eq_true (by omega)] at h1; cases h1)]; rfl
      ·have := of_decide_eq_true (by simpa using h1 : decide ((1 : Int) ≤ (n : Int) ∧ (n : Int) ≤ 1000000) = true)
       rw [if_pos (by omega)]
       simp only [szI]
       rw [wid (by omega) (by omega)]; omega
    rw [if_neg (fun e => by rw [e] at hss; simp at hss)]
    refine EvP.ite (fun hli => ?_) (fun hli => ?_)
    ·have hli := eq_of_beq hli
     rw [if_pos hli, ed]
     refine EvP.ite (fun h1 => EvP.pure ?_) (fun h1 => ?_)
     ·have := of_decide_eq_true h1
      rw [if_neg (by omega)]; rfl
     ·have h1 := of_decide_eq_false h1
      rw [if_pos (by omega)]
      refine (sTermL s hs d (by omega) i ((d + 1 : Nat) : Int) e3 n (by omega) n 0 (fun k => S_l2Term k) (i + 1 + z) 0 (by omega) (by omega) (by omega) (fun j hj => ih j (by omega) hj)).mono fun r hr => ?_
      rw [hr]
      cases tmsOf (tm d) n (s.drop (i + 1 + z)) with
      | none => rfl
      | some q => simp only [szI]; omega
    ·rw [if_neg (fun e => by rw [e] at hli; simp at hli)]
     exact EvP.pure rfl
  ·rw [decide_eq_true (p := (i : Int) ≥ (s.length : Int)) (by omega)]
   refine EvP.pure ?_
   have : s.drop i = [] := List.drop_of_length_le (by omega)
   rw [this]; simp [tm, szI]
def tmOk (s : List UInt8) : Bool := match tm 8 s with
 | some m => decide (m = s.length ∧ m ≤ 900)
 | none => false
theorem sTermOk (s : List UInt8) (hs : s.length ≤ 1048576) : Ev (fun k => S_TermOk k s) (tmOk s) := by
 simp only [S_TermOk]
 refine EvP.ev (EvP.bind (sTerm s hs 8 0 (by omega) (by omega)) (fun r hr => ?_))
 rw [List.drop_zero] at hr
 unfold tmOk
 cases ht : tm 8 s with
 | none =>
  rw [ht] at hr; simp only [szI] at hr
  rw [hr]; exact EvP.pure rfl
 | some m =>
  rw [ht] at hr; simp only [szI] at hr
  obtain ⟨h0, h1⟩ := tm_le 8 s m ht
  rw [hr, decide_eq_true (by omega)]
  simp only [cond_true]
  refine EvP.ite (fun h => EvP.pure ?_) (fun h => EvP.pure ?_)
  ·have h := eq_of_beq h
   exact decide_eq_decide.2 (by omega)
  ·have h : (m : Int) ≠ (s.length : Int) := fun e => by rw [e] at h; simp at h
   rw [decide_eq_false (by omega)]
theorem iVarAt (s : List UInt8) (hs : s.length ≤ 1048576) (i : Nat) (hi : i ≤ s.length) : Ev (fun k => I_varAt k s (i : Int)) (match dv 7 (s.drop i) with | some (n, z) => ((n : Int), ((i + z : Nat) : Int)) | none => (-1, (i : Int))) := by
 simp only [I_varAt]
 rw [cutEnd hi]
 simp only [Option.bind_some]
 refine Ev.bind (iReadVar _ (by rw [List.length_drop]; omega)) ?_
 simp only [rvP]
 cases hdv : dv 7 (s.drop i) with
 | none => exact Ev.pure _
 | some q =>
  obtain ⟨n, z⟩ := q
  obtain ⟨z1, z2, z3, _, _⟩ := dv_ok hdv
  simp only
  rw [show ((z : Int) == 0) = false by simp; omega, show IntKind.i64.wrap ((i : Int) + (z : Int)) = ((i + z : Nat) : Int) by rw [wid (by omega) (by omega)]; omega]
  exact Ev.pure _
def endI (i : Nat) : Option Nat → Int
 | some m => ((i + m : Nat) : Int)
 | none => -1
theorem iTermL (s : List UInt8) (d : Nat) (hd : d ≤ 100) (a2 : Int) (ha2 : IntKind.i64.wrap (a2 - 1) = (d : Int)) (n : Nat) (hn : n ≤ 12) (hs : s.length ≤ 1048576) : ∀ (m j : Nat) (cl : Nat → List UInt8 → Int → Int → Option Int) (p : Nat), j + m = n → p ≤ s.length →
  (∀ i, i ≤ s.length → Ev (fun k => cl k s (i : Int) (d : Int)) (endI i (tm d (s.drop i)))) →
  Ev (fun k => I_termAt.l4 (cl k) k s a2 (n : Int) (p : Int) (j : Int)) (endI p (tmsOf (tm d) m (s.drop p))) := by
 intro m
 induction m with
 | zero =>
  intro j cl p hj hp hcl
  refine Ev.succ ?_
  simp only [I_termAt.l4]
  rw [decide_eq_false (by omega)]
  exact Ev.pure _
 | succ m ih =>
  intro j cl p hj hp hcl
  refine Ev.succ ?_
  simp only [I_termAt.l4]
  rw [decide_eq_true (p := (j : Int) < (n : Int)) (by omega), decide_eq_true (p := (p : Int) ≥ 0) (by omega)]
  simp only [cond_true, ha2]
  refine Ev.bind (hcl p hp).shift ?_
  cases ht : tm d (s.drop p) with
  | none =>
   simp only [endI]
   refine Ev.succ ?_
   simp only [I_termAt.l4]
   refine Ev.ite (fun _ => ?_) (fun _ => (Ev.pure _).to ?_)
   ·rw [decide_eq_false (by omega)]
    refine (Ev.pure _).to ?_
    simp [tmsOf, ht]
   ·simp [tmsOf, ht]
  | some q =>
   obtain ⟨q0, q1⟩ := tm_le d _ _ ht
   rw [List.length_drop] at q1
   simp only [endI]
   rw [wid1 (by omega)]
   refine (ih (j + 1) (fun k => cl (k + 1)) (p + q) (by omega) (by omega) (fun i hi => (hcl i hi).shift)).to ?_
   simp only [tmsOf, ht]
   rw [List.drop_drop]
   cases tmsOf (tm d) m (s.drop (p + q)) with
   | none => rfl
   | some q2 => simp only [endI]; omega
theorem iKey (k : Nat) (n : Int) : I_isKey k n = some (isIn n 1 1000000) := by
 simp only [I_isKey, iIn, Option.bind_some]
theorem iTerm (s : List UInt8) (hs : s.length ≤ 1048576) : ∀ (d : Nat) (i : Nat), d ≤ 100 → i ≤ s.length → Ev (fun k => I_termAt k s (i : Int) (d : Int)) (endI i (tm d (s.drop i))) := by
 intro d
 induction d with
 | zero =>
  intro i _ hi
  refine Ev.succ ?_
  simp only [I_termAt]
  refine Ev.ite (fun _ => (Ev.pure _).to (by simp [tm, endI])) (fun _ => ?_)
  rw [decide_eq_true (by omega)]
  exact (Ev.pure _).to (by simp [tm, endI])
 | succ d ih =>
  intro i hd hi
  refine Ev.succ ?_
  simp only [I_termAt]
  by_cases hl : i < s.length
  ·obtain ⟨c, t, hct⟩ := drop_cons_ex hl
   obtain ⟨hc, ht, _⟩ := at?_drop hct
   have htl : t.length = s.length - (i + 1) := by rw [← ht, List.length_drop]
   rw [decide_eq_false (p := (i : Int) ≥ (s.length : Int)) (by omega), decide_eq_false (p := ((d + 1 : Nat) : Int) < 1) (by omega), wid1 (by omega)]
   simp only [cond_false]
   refine Ev.bind (iVarAt s hs (i + 1) (by omega)) ?_
   refine Ev.at? hc ?_
   rw [ht, hct]
   simp only [iIn, iKey, Option.bind_some]
   have e3 : IntKind.i64.wrap (((d + 1 : Nat) : Int) - 1) = (d : Int) := by rw [wid (by omega) (by omega)]; omega
   cases hdv : dv 7 t with
   | none =>
    simp only [tm, hdv, show isIn (-1) 0 40 = false from rfl, show isIn (-1) 1 1000000 = false from rfl, show isIn (-1) 0 12 = false from rfl, Bool.not_false, cond_true]
    refine Ev.ite (fun _ => Ev.pure _) (fun _ => Ev.ite (fun _ => Ev.pure _) (fun _ => Ev.ite (fun _ => Ev.pure _) (fun _ => Ev.ite (fun _ => Ev.pure _) (fun _ => Ev.pure _))))
   | some q =>
    obtain ⟨n, z⟩ := q
    obtain ⟨z1, z2, z3, _, zn⟩ := dv_ok hdv
    have hn : n < 562949953421312 := Nat.lt_of_lt_of_le zn (by have := Nat.pow_le_pow_right (n := 128) (by omega) z2; omega)
    simp only [tm, hdv]
    have e4 : IntKind.i64.wrap ((s.length : Int) - ((i + 1 + z : Nat) : Int)) = ((s.length - (i + 1 + z) : Nat) : Int) := by rw [wid (by omega) (by omega)]; omega
    have ed : t.drop z = s.drop (i + 1 + z) := by rw [← ht, List.drop_drop]
    rw [e3, e4]
    refine Ev.ite (fun ha => ?_) (fun ha => ?_)
    ·have ha := eq_of_beq ha
     rw [if_pos ha]
     simp only [isIn]
     refine Ev.ite (fun h1 => (Ev.pure _).to ?_) (fun h1 => ?_)
     ·rw [if_neg (fun h => by rw [decide_eq_true (by omega)] at h1; cases h1)]; rfl
     ·have h1 := of_decide_eq_true (by simpa using h1 : decide ((0 : Int) ≤ (n : Int) ∧ (n : Int) ≤ 40) = true)
      refine Ev.ite (fun h2 => (Ev.pure _).to ?_) (fun h2 => (Ev.pure _).to ?_)
      ·have := of_decide_eq_true h2
       rw [if_neg (by omega)]; rfl
      ·have := of_decide_eq_false h2
       rw [if_pos (by omega)]
       simp only [endI]
       rw [wid (by omega) (by omega)]; omega
    rw [if_neg (fun e => by rw [e] at ha; simp at ha)]
    refine Ev.ite (fun hk => ?_) (fun hk => ?_)
    ·have hk := eq_of_beq hk
     rw [if_pos hk]
     simp only [isIn]
     refine Ev.ite (fun h1 => (Ev.pure _).to ?_) (fun h1 => (Ev.pure _).to ?_)
     ·rw [if_neg (fun h => by rw [decide_eq_true (by omega)] at h1; cases h1)]; rfl
     ·have := of_decide_eq_true (by simpa using h1 : decide ((1 : Int) ≤ (n : Int) ∧ (n : Int) ≤ 1000000) = true)
      rw [if_pos (by omega)]; simp only [endI]; omega
    rw [if_neg (fun e => by rw [e] at hk; simp at hk)]
    have swap : ∀ (x y : Option Nat), (if c = 115 then x else if c = 108 then y else none) = (if c = 108 then y else if c = 115 then x else none) := by
     intro x y
     by_cases h1 : c = 115
     ·subst h1; rfl
     ·rw [if_neg h1, if_neg h1]
    rw [swap]
    refine Ev.ite (fun hli => ?_) (fun hli => ?_)
    ·have hli := eq_of_beq hli
     rw [if_pos hli, ed]
     simp only [isIn]
     refine Ev.ite (fun h1 => (Ev.pure _).to ?_) (fun h1 => ?_)
     ·rw [if_neg (fun h => by rw [decide_eq_true (by omega)] at h1; cases h1)]; rfl
     ·have h1 := of_decide_eq_true (by simpa using h1 : decide ((0 : Int) ≤ (n : Int) ∧ (n : Int) ≤ 12) = true)
      rw [if_pos (by omega)]
      refine (iTermL s d (by omega) ((d + 1 : Nat) : Int) e3 n (by omega) hs n 0 (fun k => I_termAt k) (i + 1 + z) (by omega) (by omega) (fun j hj => ih j (by omega) hj)).to ?_
      cases tmsOf (tm d) n (s.drop (i + 1 + z)) with
      | none => rfl
      | some q => simp only [endI]; omega
    rw [if_neg (fun e => by rw [e] at hli; simp at hli)]
    refine Ev.ite (fun hss => ?_) (fun hss => ?_)
    ·have hss := eq_of_beq hss
     rw [if_pos hss, ed]
     simp only [isIn]
     refine Ev.ite (fun h1 => (Ev.pure _).to ?_) (fun h1 => ?_)
     ·rw [if_neg (fun h => by rw [decide_eq_true (by omega)] at h1; cases h1)]; rfl
     ·have := of_decide_eq_true (by simpa using h1 : decide ((1 : Int) ≤ (n : Int) ∧ (n : Int) ≤ 1000000) = true)
      rw [if_pos (by omega)]
      refine Ev.bind (ih (i + 1 + z) (by omega) (by omega)) ((Ev.pure _).to ?_)
      cases tm d (s.drop (i + 1 + z)) with
      | none => rfl
      | some q => simp only [endI]; omega
    ·rw [if_neg (fun e => by rw [e] at hss; simp at hss)]
     exact Ev.pure _
  ·rw [decide_eq_true (p := (i : Int) ≥ (s.length : Int)) (by omega)]
   refine (Ev.pure _).to ?_
   have : s.drop i = [] := List.drop_of_length_le (by omega)
   rw [this]; simp [tm, endI]
theorem iTermOk (s : List UInt8) (hs : s.length ≤ 1048576) : Ev (fun k => I_TermOk k s) (tmOk s) := by
 simp only [I_TermOk, iIn, Option.bind_some]
 refine Ev.ite (fun h => ?_) (fun h => (Ev.pure _).to ?_)
 ·have h := of_decide_eq_true (by simpa [isIn] using h : decide ((1 : Int) ≤ (s.length : Int) ∧ (s.length : Int) ≤ 900) = true)
  refine Ev.bind (iTerm s hs 8 0 (by omega) (by omega)) ((Ev.pure _).to ?_)
  rw [List.drop_zero]
  unfold tmOk
  cases ht : tm 8 s with
  | none =>
   simp only [endI]
   exact beq_eq_false_iff_ne.2 (by omega)
  | some m =>
   simp only [endI, Nat.zero_add]
   by_cases e : m = s.length
   ·rw [e, decide_eq_true (by omega)]; simp
   ·rw [decide_eq_false (by omega)]; exact beq_eq_false_iff_ne.2 (by omega)
 ·unfold tmOk
  cases ht : tm 8 s with
  | none => rfl
  | some m =>
   obtain ⟨h0, h1⟩ := tm_le 8 s m ht
   simp only
   rw [decide_eq_false (fun h2 => by unfold isIn at h; rw [decide_eq_true (by omega)] at h; cases h)]
def okT (s : List UInt8) : List UInt8 := if tmOk s then s else []
theorem sOk (s : List UInt8) (hs : s.length ≤ 1048576) : Ev (fun k => S_l2Ok k s) (okT s) := by
 simp only [S_l2Ok]
 refine Ev.bind (sTermOk s hs) ?_
 unfold okT
 cases tmOk s <;> exact Ev.pure _
theorem iOk (s : List UInt8) (hs : s.length ≤ 1048576) : Ev (fun k => I_term k s) (okT s) := by
 simp only [I_term]
 refine Ev.bind (iTermOk s hs) ?_
 unfold okT
 cases tmOk s <;> exact Ev.pure _
theorem tmOk_len {s : List UInt8} (h : tmOk s = true) : s.length ≤ 900 := by
 unfold tmOk at h
 split at h
 ·have := of_decide_eq_true h; omega
 ·cases h
theorem okT_len (s : List UInt8) : (okT s).length ≤ 900 := by
 unfold okT
 split
 ·rename_i h; exact tmOk_len h
 ·simp
def atomS (d : List UInt8) : List UInt8 := if d.length ≤ 40 then okT (97 :: (varE d.length ++ d)) else []
theorem atomS_len (d : List UInt8) : (atomS d).length ≤ 900 := by
 unfold atomS
 split
 ·exact okT_len _
 ·simp
theorem tmOk_nil : tmOk [] = false := by decide +kernel
theorem tmOk_big {d : List UInt8} (h : 40 < d.length) (h2 : d.length ≤ 1048576) : tmOk (97 :: (varE d.length ++ d)) = false := by
 unfold tmOk
 simp only [tm, varE_dv (f := 6) (n := d.length) (t := d) (by omega)]
 rw [if_pos trivial, if_neg (by omega)]
theorem sAtom (d : List UInt8) (hd : d.length ≤ 1000000) : Ev (fun k => S_Atom k d) (atomS d) := by
 simp only [S_Atom]
 unfold atomS
 refine Ev.ite (fun h => (Ev.pure _).to ?_) (fun h => ?_)
 ·have := of_decide_eq_true h; rw [if_neg (by omega)]
 ·have h := of_decide_eq_false h
  refine Ev.bind (sVar _) ?_
  rw [varI_nat _ (by omega), if_pos (by omega)]
  have hv := varE_len 6 d.length (by omega)
  rw [decide_eq_true (by simp; omega), decide_eq_true (by simp; omega)]
  refine Ev.bind (sOk _ (by simp; omega)) ((Ev.pure _).to ?_)
  simp
theorem iAtom (d : List UInt8) (hd : d.length ≤ 1000000) : Ev (fun k => I_Atom k d) (atomS d) := by
 simp only [I_Atom]
 unfold atomS
 refine Ev.bind (iVar _) ?_
 rw [varI_nat _ (by omega)]
 have hv := varE_len 6 d.length (by omega)
 rw [decide_eq_true (by simp; omega), decide_eq_true (by simp; omega)]
 refine Ev.bind (iOk _ (by simp; omega)) ((Ev.pure _).to ?_)
 have e : [97] ++ varE d.length ++ d = 97 :: (varE d.length ++ d) := by simp
 rw [e]
 split
 ·rfl
 ·rename_i h
  unfold okT
  rw [tmOk_big (by omega) (by omega)]; rfl
def numS (n : Int) : List UInt8 := if varI n = [] then [] else atomS (varI n)
theorem numS_len (n : Int) : (numS n).length ≤ 900 := by
 unfold numS
 split
 ·simp
 ·exact atomS_len _
theorem sNum (n : Int) : Ev (fun k => S_Num k n) (numS n) := by
 simp only [S_Num]
 unfold numS
 refine Ev.bind (sVar n) (Ev.ite (fun h => (Ev.pure _).to ?_) (fun h => ?_))
 ·rw [if_pos (eq_of_beq h)]
 ·rw [if_neg (fun e => by rw [e] at h; cases h)]
  exact Ev.bind (sAtom _ (by have := varI_len n; omega)) (Ev.pure _)
theorem iNum (n : Int) : Ev (fun k => I_Num k n) (numS n) := by
 simp only [I_Num]
 unfold numS
 refine Ev.bind (iVar n) (Ev.ite (fun h => (Ev.pure _).to ?_) (fun h => ?_))
 ·rw [if_pos (eq_of_beq h)]
 ·rw [if_neg (fun e => by rw [e] at h; cases h)]
  exact Ev.bind (iAtom _ (by have := varI_len n; omega)) (Ev.pure _)
def listS (ps : List (List UInt8)) : List UInt8 := if ps.length ≤ 12 ∧ ps.all tmOk = true then okT (108 :: (varE ps.length ++ ps.flatten)) else []
theorem listS_len (ps : List (List UInt8)) : (listS ps).length ≤ 900 := by
 unfold listS
 split
 ·exact okT_len _
 ·simp
theorem sListL (ps : List (List UInt8)) (hp : ∀ p ∈ ps, p.length ≤ 1048576) (hl : ps.length ≤ 12) (s0 : List UInt8) (h0 : s0.length ≤ 1000) : Ev (fun k => S_List.l2 k ps s0 0) (if ps.all tmOk = true then okT (s0 ++ ps.flatten) else []) := by
 refine Ev.forI (xs := ps) (L := fun k s i => S_List.l2 k ps s i) (f := fun l s => if l.all tmOk = true then okT (s ++ l.flatten) else []) (I := fun i s => s.length ≤ 1000 + 900 * i) (fun s hs => ?_) (fun i b s hb hi hs hr => ?_) s0 (by simpa using h0)
 ·simp only [S_List.l2, ltD0, cond_false]
  refine Ev.bind (sOk s (by have := hs; omega)) ((Ev.pure _).to (by simp))
 ·simp only [S_List.l2, ltD hi, cond_true]
  refine Ev.at? hb (Ev.bind (sTermOk b (hp b (List.mem_of_getElem? hb))) ?_)
  cases hk : tmOk b with
  | false => exact (Ev.pure _).to (by simp [hk])
  | true =>
   simp only [Bool.not_true, cond_false]
   have := tmOk_len hk
   refine Ev.at? hb ?_
   rw [decide_eq_true (by omega), wid1 (by omega)]
   simp only [cond_true]
   refine (hr (s ++ b) (by simp; omega)).to ?_
   simp [hk]
theorem sList (ps : List (List UInt8)) (hp : ∀ p ∈ ps, p.length ≤ 1048576) (hl : ps.length ≤ 1048576) : Ev (fun k => S_List k ps) (listS ps) := by
 simp only [S_List]
 unfold listS
 refine Ev.ite (fun h => (Ev.pure _).to ?_) (fun h => ?_)
 ·have := of_decide_eq_true h; rw [if_neg (by omega)]
 ·have h := of_decide_eq_false h
  refine Ev.bind (sVar _) ?_
  rw [varI_nat _ (by omega)]
  have hv := varE_len 6 ps.length (by omega)
  rw [decide_eq_true (by simp; omega)]
  refine (sListL ps hp (by omega) ([108] ++ varE ps.length) (by simp; omega)).to ?_
  by_cases ha : ps.all tmOk = true
  ·rw [if_pos ha, if_pos ⟨by omega, ha⟩]; simp
  ·rw [if_neg ha, if_neg (fun h => ha h.2)]
theorem iListL (ps : List (List UInt8)) (hp : ∀ p ∈ ps, p.length ≤ 1048576) (hl : ps.length ≤ 12) (s0 : List UInt8) (h0 : s0.length ≤ 1000) : Ev (fun k => I_List.l2 k s0 ps (ps.length : Int) 0) (if ps.all tmOk = true then okT (s0 ++ ps.flatten) else []) := by
 refine Ev.forI (xs := ps) (L := fun k s i => I_List.l2 k s ps (ps.length : Int) i) (f := fun l s => if l.all tmOk = true then okT (s ++ l.flatten) else []) (I := fun i s => s.length ≤ 1000 + 900 * i) (fun s hs => ?_) (fun i b s hb hi hs hr => ?_) s0 (by simpa using h0)
 ·simp only [I_List.l2, ltD0, cond_false]
  refine Ev.bind (iOk s (by have := hs; omega)) ((Ev.pure _).to (by simp))
 ·simp only [I_List.l2, ltD hi, cond_true]
  refine Ev.at? hb (Ev.bind (iTermOk b (hp b (List.mem_of_getElem? hb))) ?_)
  cases hk : tmOk b with
  | false => exact (Ev.pure _).to (by simp [hk])
  | true =>
   simp only [Bool.not_true, cond_false]
   have := tmOk_len hk
   rw [decide_eq_true (by omega), wid1 (by omega)]
   simp only [cond_true]
   refine (hr (s ++ b) (by simp; omega)).to ?_
   simp [hk]
/-- Too many parts: whatever they are, no term comes of them. -/
theorem iListMany (ps : List (List UInt8)) (hp : ∀ p ∈ ps, p.length ≤ 1048576) (hl : ps.length ≤ 1000) (h12 : 12 < ps.length) : Ev (fun k => I_List.l2 k ([108] ++ varE ps.length) ps (ps.length : Int) 0) [] := by
 have hv := varE_len 6 ps.length (by omega)
 refine Ev.forI (xs := ps) (L := fun k s i => I_List.l2 k s ps (ps.length : Int) i) (f := fun l s => []) (I := fun i s => s.length ≤ 1000 + 900 * i ∧ ∃ t, s = 108 :: (varE ps.length ++ t)) (fun s hs => ?_) (fun i b s hb hi hs hr => ?_) _ ⟨by simp; omega, [], by simp⟩
 ·simp only [I_List.l2, ltD0, cond_false]
  obtain ⟨h1, t, rfl⟩ := hs
  refine Ev.bind (iOk _ (by omega)) ((Ev.pure _).to ?_)
  unfold okT
  have : tmOk (108 :: (varE ps.length ++ t)) = false := by
   unfold tmOk
   simp only [tm, varE_dv (f := 6) (n := ps.length) (t := t) (by omega)]
   rw [if_neg (by decide), if_neg (by decide), if_neg (by decide), if_pos trivial, if_neg (by omega)]
  rw [this]; rfl
 ·simp only [I_List.l2, ltD hi, cond_true]
  obtain ⟨h1, t, rfl⟩ := hs
  refine Ev.at? hb (Ev.bind (iTermOk b (hp b (List.mem_of_getElem? hb))) ?_)
  cases hk : tmOk b with
  | false => exact Ev.pure _
  | true =>
   simp only [Bool.not_true, cond_false]
   have := tmOk_len hk
   rw [decide_eq_true (by omega), wid1 (by omega)]
   simp only [cond_true]
   exact hr _ ⟨by rw [List.length_append]; omega, t ++ b, by simp⟩
theorem iList (ps : List (List UInt8)) (hp : ∀ p ∈ ps, p.length ≤ 1048576) (hl : ps.length ≤ 1000) : Ev (fun k => I_List k ps) (listS ps) := by
 simp only [I_List]
 unfold listS
 refine Ev.bind (iVar _) ?_
 rw [varI_nat _ (by omega)]
 have hv := varE_len 6 ps.length (by omega)
 rw [decide_eq_true (by simp; omega)]
 simp only [cond_true]
 by_cases h : ps.length ≤ 12
 ·refine (iListL ps hp h ([108] ++ varE ps.length) (by simp; omega)).to ?_
  by_cases ha : ps.all tmOk = true
  ·rw [if_pos ha, if_pos ⟨by omega, ha⟩]; simp
  ·rw [if_neg ha, if_neg (fun h => ha h.2)]
 ·rw [if_neg (fun h2 => h h2.1)]
  exact iListMany ps hp hl (by omega)
def numsS (l : List Int) : List UInt8 := if l.all (fun n => numS n != []) = true then listS (l.map numS) else []
theorem numsS_len (l : List Int) : (numsS l).length ≤ 900 := by
 unfold numsS
 split
 ·exact listS_len _
 ·simp
theorem numsS_big {l : List Int} (h : 12 < l.length) : numsS l = [] := by
 unfold numsS listS
 split
 ·rw [if_neg (fun h2 => by have := h2.1; simp at this; omega)]
 ·rfl
theorem map_num_len {l : List Int} : ∀ p ∈ l.map numS, p.length ≤ 1048576 := by
 intro p hp
 obtain ⟨n, _, rfl⟩ := List.mem_map.1 hp
 have := numS_len n
 omega
theorem sNums (l : List Int) (hl : l.length ≤ 1048576) : Ev (fun k => S_Nums k l) (numsS l) := by
 simp only [S_Nums]
 have key : ∀ (m i : Nat), i + m = l.length → i ≤ 13 → (l.take i).all (fun n => numS n != []) = true → Ev (fun k => S_Nums.l3 k l ((l.take i).map numS) (i : Int)) (numsS l) := by
  intro m
  induction m with
  | zero =>
   intro i hi h13 ha
   refine Ev.succ ?_
   simp only [S_Nums.l3, S_Nums.j2]
   rw [decide_eq_false (by omega)]
   simp only [cond_false]
   rw [List.take_of_length_le (by omega)] at ha ⊢
   refine Ev.bind (sList _ map_num_len (by simp; omega)) ((Ev.pure _).to ?_)
   unfold numsS; rw [if_pos ha]
  | succ m ih =>
   intro i hi h13 ha
   refine Ev.succ ?_
   simp only [S_Nums.l3, S_Nums.j2]
   rw [decide_eq_true (p := (i : Int) < (l.length : Int)) (by omega)]
   simp only [cond_true]
   obtain ⟨b, hb⟩ := atLt (xs := l) (i := i) (by omega)
   refine Ev.ite (fun h => ?_) (fun h => ?_)
   ·have h := of_decide_eq_true h
    refine Ev.at? hb (Ev.bind (sNum b) (Ev.ite (fun he => (Ev.pure _).to ?_) (fun he => ?_)))
    ·unfold numsS
     rw [if_neg]
     intro h2
     have := List.all_eq_true.1 h2 b (List.mem_of_getElem? hb)
     simp [eq_of_beq he] at this
    ·rw [decide_eq_true (by simp; omega), wid1 (by omega)]
     simp only [cond_true]
     have e : (l.take i).map numS ++ [numS b] = (l.take (i + 1)).map numS := by rw [take_succ_get hb]; simp
     rw [e]
     refine ih (i + 1) (by omega) (by omega) ?_
     rw [take_succ_get hb, List.all_append, ha]
     simp only [List.all_cons, List.all_nil, Bool.and_true, Bool.true_and]
     unfold bne; rw [he]; rfl
   ·have h := of_decide_eq_false h
    rw [numsS_big (by omega)]
    have hl13 : ((l.take i).map numS).length = i := by simp; omega
    refine Ev.bind (sList _ map_num_len (by omega)) ((Ev.pure _).to ?_)
    unfold listS
    rw [if_neg (fun h2 => by have := h2.1; omega)]
 exact key l.length 0 (by omega) (by omega) (by simp)
theorem iNums (l : List Int) (hl : l.length ≤ 1000) : Ev (fun k => I_Nums k l) (numsS l) := by
 simp only [I_Nums]
 have key : ∀ (m i : Nat), i + m = l.length → (l.take i).all (fun n => numS n != []) = true → Ev (fun k => I_Nums.l2 k ((l.take i).map numS) l (l.length : Int) (i : Int)) (numsS l) := by
  intro m
  induction m with
  | zero =>
   intro i hi ha
   refine Ev.succ ?_
   simp only [I_Nums.l2]
   rw [decide_eq_false (by omega)]
   simp only [cond_false]
   rw [List.take_of_length_le (by omega)] at ha ⊢
   refine Ev.bind (iList _ map_num_len (by simp; omega)) ((Ev.pure _).to ?_)
   unfold numsS; rw [if_pos ha]
  | succ m ih =>
   intro i hi ha
   refine Ev.succ ?_
   simp only [I_Nums.l2]
   rw [decide_eq_true (p := (i : Int) < (l.length : Int)) (by omega)]
   simp only [cond_true]
   obtain ⟨b, hb⟩ := atLt (xs := l) (i := i) (by omega)
   refine Ev.at? hb (Ev.bind (iNum b) (Ev.ite (fun he => (Ev.pure _).to ?_) (fun he => ?_)))
   ·unfold numsS
    rw [if_neg]
    intro h2
    have := List.all_eq_true.1 h2 b (List.mem_of_getElem? hb)
    simp [eq_of_beq he] at this
   ·rw [decide_eq_true (by simp; omega), wid1 (by omega)]
    simp only [cond_true]
    have e : (l.take i).map numS ++ [numS b] = (l.take (i + 1)).map numS := by rw [take_succ_get hb]; simp
    rw [e]
    refine ih (i + 1) (by omega) ?_
    rw [take_succ_get hb, List.all_append, ha]
    simp only [List.all_cons, List.all_nil, Bool.and_true, Bool.true_and]
    unfold bne; rw [he]; rfl
 exact key l.length 0 (by omega) (by simp)
theorem tmsOf_mono {f g : List UInt8 → Option Nat} (h : ∀ s m, f s = some m → g s = some m) : ∀ (n : Nat) (s : List UInt8) (m : Nat), tmsOf f n s = some m → tmsOf g n s = some m
 | 0, s, m, h1 => h1
 | n + 1, s, m, h1 => by
  simp only [tmsOf] at h1 ⊢
  split at h1
  ·rename_i a ha
   rw [h s a ha]
   simp only
   split at h1
   ·rename_i b hb
    rw [tmsOf_mono h n _ b hb]; exact h1
   ·cases h1
  ·cases h1
theorem tm_mono : ∀ (d : Nat) (s : List UInt8) (m : Nat), tm d s = some m → tm (d + 1) s = some m
 | 0, s, m, h => by simp [tm] at h
 | d + 1, [], m, h => by simp [tm] at h
 | d + 1, c :: s, m, h => by
  rw [tm] at h ⊢
  cases hd : dv 7 s with
  | none => rw [hd] at h; cases h
  | some p =>
   obtain ⟨n, z⟩ := p
   rw [hd] at h
   simp only at h ⊢
   by_cases h1 : c = 97
   ·rw [if_pos h1] at h ⊢; exact h
   rw [if_neg h1] at h ⊢
   by_cases h2 : c = 107
   ·rw [if_pos h2] at h ⊢; exact h
   rw [if_neg h2] at h ⊢
   by_cases h3 : c = 115
   ·rw [if_pos h3] at h ⊢
    by_cases h5 : 1 ≤ n ∧ n ≤ 1000000
    ·rw [if_pos h5] at h ⊢
     cases ht : tm d (s.drop z) with
     | none => rw [ht] at h; cases h
     | some q => rw [ht] at h; rw [tm_mono d _ q ht]; exact h
    ·rw [if_neg h5] at h; cases h
   rw [if_neg h3] at h ⊢
   by_cases h4 : c = 108
   ·rw [if_pos h4] at h ⊢
    by_cases h5 : n ≤ 12
    ·rw [if_pos h5] at h ⊢
     cases ht : tmsOf (tm d) n (s.drop z) with
     | none => rw [ht] at h; cases h
     | some q => rw [ht] at h; rw [tmsOf_mono (tm_mono d) n _ q ht]; exact h
    ·rw [if_neg h5] at h; cases h
   ·rw [if_neg h4] at h; cases h
/-- The first parts of a text. -/
def partsF (f : List UInt8 → Option Nat) : Nat → List UInt8 → List (List UInt8)
 | 0, _ => []
 | n + 1, s => match f s with
  | some m => s.take m :: partsF f n (s.drop m)
  | none => []
theorem tmOk_cons {s : List UInt8} (h : tmOk s = true) : ∃ c t n z, s = c :: t ∧ dv 7 t = some (n, z) ∧ tm 8 s = some s.length ∧ s.length ≤ 900 := by
 unfold tmOk at h
 split at h
 ·rename_i m hm
  have h := of_decide_eq_true h
  cases s with
  | nil => simp [tm] at hm
  | cons c t =>
   cases hd : dv 7 t with
   | none => rw [tm, hd] at hm; cases hm
   | some p => exact ⟨c, t, p.1, p.2, rfl, hd, by rw [hm, h.1], by omega⟩
 ·cases h
/-- A list: how its parts follow. -/
theorem tmOk_list {t : List UInt8} {n z : Nat} (h : tmOk (108 :: t) = true) (hd : dv 7 t = some (n, z)) : n ≤ 12 ∧ tmsOf (tm 8) n (t.drop z) = some (t.length - z) := by
 obtain ⟨c, t', n', z', e, hd', hm, _⟩ := tmOk_cons h
 simp only [List.cons.injEq] at e
 obtain ⟨rfl, rfl⟩ := e
 rw [hd] at hd'
 simp only [Option.some.injEq, Prod.mk.injEq] at hd'
 obtain ⟨rfl, rfl⟩ := hd'
 rw [tm, hd] at hm
 simp only at hm
 rw [if_neg (by decide), if_neg (by decide), if_neg (by decide), if_pos trivial] at hm
 by_cases h5 : n ≤ 12
 ·rw [if_pos h5] at hm
  refine ⟨h5, ?_⟩
  cases ht : tmsOf (tm 7) n (t.drop z) with
  | none => rw [ht] at hm; cases hm
  | some q =>
   rw [ht] at hm
   simp only [Option.some.injEq, List.length_cons] at hm
   rw [tmsOf_mono (tm_mono 7) n _ q ht]
   congr 1; omega
 ·rw [if_neg h5] at hm; cases hm
def partsS (s : List UInt8) : List (List UInt8) × Bool :=
 if tmOk s = true then match s with
  | [] => ([], false)
  | c :: t => if c = 108 then match dv 7 t with
   | some (n, z) => (partsF (tm 8) n (t.drop z), true)
   | none => ([], false) else ([], false)
 else ([], false)
theorem sPartsL (s : List UInt8) (hs : s.length ≤ 1048576) : ∀ (m j n p q : Nat) (out : List (List UInt8)), j + m = n → n ≤ 12 → p ≤ s.length → out.length = j → tmsOf (tm 8) m (s.drop p) = some q → Ev (fun k => S_Parts.l4 k s out (n : Int) (p : Int) (j : Int)) (out ++ partsF (tm 8) m (s.drop p), true) := by
 intro m
 induction m with
 | zero =>
  intro j n p q out hj hn hp ho ht
  refine Ev.succ ?_
  simp only [S_Parts.l4]
  rw [decide_eq_false (by omega)]
  exact (Ev.pure _).to (by simp [partsF])
 | succ m ih =>
  intro j n p q out hj hn hp ho ht
  refine Ev.succ ?_
  simp only [S_Parts.l4]
  rw [decide_eq_true (p := (j : Int) < (n : Int)) (by omega)]
  simp only [cond_true]
  simp only [tmsOf] at ht
  cases h1 : tm 8 (s.drop p) with
  | none => rw [h1] at ht; cases ht
  | some a =>
   rw [h1] at ht
   simp only at ht
   obtain ⟨a0, a1⟩ := tm_le 8 _ _ h1
   rw [List.length_drop] at a1
   refine EvP.ev (EvP.bind (sTerm s hs 8 p (by omega) hp) (fun r hr => ?_))
   rw [h1] at hr
   simp only [szI] at hr
   have e : IntKind.i64.wrap ((p : Int) + (a : Int)) = ((p + a : Nat) : Int) := by rw [wid (by omega) (by omega)]; omega
   rw [hr, e, cutN (by omega) (by omega), wid1 (by omega)]
   simp only [Option.bind_some]
   rw [decide_eq_true (by simp; omega)]
   simp only [cond_true]
   cases h2 : tmsOf (tm 8) m ((s.drop p).drop a) with
   | none => rw [h2] at ht; cases ht
   | some b =>
    rw [List.drop_drop] at h2
    refine (ih (j + 1) n (p + a) b _ (by omega) hn (by omega) (by simp; omega) h2).p ?_
    simp only [partsF, h1, List.drop_drop]
    rw [show p + a - p = a by omega]
    simp
theorem sParts (s : List UInt8) (hs : s.length ≤ 1048576) : Ev (fun k => S_Parts k s) (partsS s) := by
 simp only [S_Parts, S_Parts.j2]
 refine Ev.bind (sTermOk s hs) ?_
 unfold partsS
 cases hk : tmOk s with
 | false => exact Ev.pure _
 | true =>
  obtain ⟨c, t, n, z, rfl, hd, hm, _⟩ := tmOk_cons hk
  simp only [Bool.not_true, cond_false, if_true]
  refine Ev.at? (i := 0) (b := c) rfl ?_
  refine Ev.ite (fun hc => (Ev.pure _).to ?_) (fun hc => ?_)
  ·rw [if_neg (fun e => by rw [e] at hc; cases hc)]
  ·have hc : c = 108 := by simpa using hc
   subst hc
   obtain ⟨h12, htm⟩ := tmOk_list hk hd
   obtain ⟨z1, z2, z3, _, _⟩ := dv_ok hd
   have hcut : cut? ((108 : UInt8) :: t) 1 (((108 : UInt8) :: t).length : Int) = some t := by
    have := cutEnd (xs := (108 : UInt8) :: t) (a := 1) (by simp)
    simpa using this
   rw [hcut, if_pos rfl, hd]
   simp only [Option.bind_some]
   refine Ev.bind (sReadVar t (by simp at hs; omega)) ?_
   simp only [rvP, hd]
   rw [show IntKind.i64.wrap (1 + (z : Int)) = ((1 + z : Nat) : Int) by rw [wid (by omega) (by omega)]; omega]
   have e : ((108 : UInt8) :: t).drop (1 + z) = t.drop z := by rw [Nat.add_comm]; rfl
   have := sPartsL (108 :: t) hs n 0 n (1 + z) (t.length - z) [] (by omega) h12 (by simp; omega) rfl (by rw [e]; exact htm)
   rw [e] at this
   exact this
theorem iIsOf (s : List UInt8) (hs : s.length ≤ 1048576) (c : UInt8) : Ev (fun k => I_isOf k s c) (tmOk s && s.head? == some c) := by
 simp only [I_isOf]
 refine Ev.bind (iTermOk s hs) ?_
 cases hk : tmOk s with
 | false => exact Ev.pure _
 | true =>
  obtain ⟨x, t, n, z, rfl, _, _, _⟩ := tmOk_cons hk
  simp only [cond_true]
  refine Ev.at? (i := 0) (b := x) rfl ((Ev.pure _).to ?_)
  simp
theorem iPartsL (s : List UInt8) (hs : s.length ≤ 1048576) : ∀ (m j n p q : Nat) (out : List (List UInt8)), j + m = n → n ≤ 12 → p ≤ s.length → out.length = j → tmsOf (tm 8) m (s.drop p) = some q → Ev (fun k => I_Parts.l2 k s (p : Int) out (n : Int) (j : Int)) (out ++ partsF (tm 8) m (s.drop p), true) := by
 intro m
 induction m with
 | zero =>
  intro j n p q out hj hn hp ho ht
  refine Ev.succ ?_
  simp only [I_Parts.l2]
  rw [decide_eq_false (by omega)]
  exact (Ev.pure _).to (by simp [partsF])
 | succ m ih =>
  intro j n p q out hj hn hp ho ht
  refine Ev.succ ?_
  simp only [I_Parts.l2]
  rw [decide_eq_true (p := (j : Int) < (n : Int)) (by omega)]
  simp only [cond_true]
  simp only [tmsOf] at ht
  cases h1 : tm 8 (s.drop p) with
  | none => rw [h1] at ht; cases ht
  | some a =>
   rw [h1] at ht
   simp only at ht
   obtain ⟨a0, a1⟩ := tm_le 8 _ _ h1
   rw [List.length_drop] at a1
   refine Ev.bind (iTerm s hs 8 p (by omega) hp) ?_
   rw [h1]
   simp only [endI]
   rw [cutN (by omega) (by omega), wid1 (by omega)]
   simp only [Option.bind_some]
   rw [decide_eq_true (by simp; omega)]
   simp only [cond_true]
   cases h2 : tmsOf (tm 8) m ((s.drop p).drop a) with
   | none => rw [h2] at ht; cases ht
   | some b =>
    rw [List.drop_drop] at h2
    refine (ih (j + 1) n (p + a) b _ (by omega) hn (by omega) (by simp; omega) h2).to ?_
    simp only [partsF, h1, List.drop_drop]
    rw [show p + a - p = a by omega]
    simp
theorem iParts (s : List UInt8) (hs : s.length ≤ 1048576) : Ev (fun k => I_Parts k s) (partsS s) := by
 simp only [I_Parts]
 refine Ev.bind (iIsOf s hs 108) ?_
 unfold partsS
 cases hk : tmOk s with
 | false => exact Ev.pure _
 | true =>
  obtain ⟨c, t, n, z, rfl, hd, hm, _⟩ := tmOk_cons hk
  simp only [if_true, Bool.true_and, List.head?_cons]
  refine Ev.ite (fun hc => (Ev.pure _).to ?_) (fun hc => ?_)
  ·rw [if_neg (fun e => by rw [e] at hc; simp at hc)]
  ·have hc : c = 108 := by simpa using hc
   subst hc
   obtain ⟨h12, htm⟩ := tmOk_list hk hd
   obtain ⟨z1, z2, z3, _, _⟩ := dv_ok hd
   have hv := iVarAt ((108 : UInt8) :: t) hs 1 (by simp)
   refine Ev.bind hv ?_
   rw [show ((108 : UInt8) :: t).drop 1 = t from rfl, hd, if_pos rfl]
   simp only
   have e : ((108 : UInt8) :: t).drop (1 + z) = t.drop z := by rw [Nat.add_comm]; rfl
   have := iPartsL (108 :: t) hs n 0 n (1 + z) (t.length - z) [] (by omega) h12 (by simp; omega) rfl (by rw [e]; exact htm)
   rw [e] at this
   exact this
theorem partsF_len (f : List UInt8 → Option Nat) : ∀ (n : Nat) (s : List UInt8), (partsF f n s).length ≤ n ∧ ∀ p ∈ partsF f n s, p.length ≤ s.length
 | 0, s => by simp [partsF]
 | n + 1, s => by
  simp only [partsF]
  split
  ·rename_i m _
   obtain ⟨h1, h2⟩ := partsF_len f n (s.drop m)
   refine ⟨by simp; omega, fun p hp => ?_⟩
   rcases List.mem_cons.1 hp with rfl | hp
   ·rw [List.length_take]; omega
   ·have := h2 p hp; rw [List.length_drop] at this; omega
  ·simp
theorem partsS_len (s : List UInt8) : (partsS s).1.length ≤ 12 ∧ ∀ p ∈ (partsS s).1, p.length ≤ 900 := by
 unfold partsS
 by_cases hk : tmOk s = true
 ·rw [if_pos hk]
  obtain ⟨c, t, n, z, rfl, hd, hm, hl⟩ := tmOk_cons hk
  simp only
  by_cases hc : c = 108
  ·subst hc
   rw [if_pos rfl, hd]
   obtain ⟨h12, _⟩ := tmOk_list hk hd
   obtain ⟨h1, h2⟩ := partsF_len (tm 8) n (t.drop z)
   refine ⟨by simp only; omega, fun p hp => ?_⟩
   have := h2 p hp
   rw [List.length_drop] at this
   simp at hl
   omega
  ·rw [if_neg hc]; simp
 ·rw [if_neg hk]; simp
theorem partsS_nil {s : List UInt8} (h : (partsS s).2 = false) : (partsS s).1 = [] := by
 unfold partsS at h ⊢
 by_cases hk : tmOk s = true
 ·rw [if_pos hk] at h ⊢
  obtain ⟨c, t, n, z, rfl, hd, hm, hl⟩ := tmOk_cons hk
  simp only at h ⊢
  by_cases hc : c = 108
  ·rw [if_pos hc, hd] at h; cases h
  ·rw [if_neg hc]
 ·rw [if_neg hk]
def readAtomS (s : List UInt8) : List UInt8 × Bool :=
 if tmOk s = true then match s with
  | [] => ([], false)
  | c :: t => if c = 97 then match dv 7 t with
   | some (_, z) => (t.drop z, true)
   | none => ([], false) else ([], false)
 else ([], false)
theorem readAtomS_len (s : List UInt8) : (readAtomS s).1.length ≤ s.length := by
 unfold readAtomS
 split
 ·split
  ·simp
  ·split
   ·split
    ·simp; omega
    ·simp
   ·simp
 ·simp
theorem sReadAtom (s : List UInt8) (hs : s.length ≤ 1048576) : Ev (fun k => S_ReadAtom k s) (readAtomS s) := by
 simp only [S_ReadAtom]
 refine Ev.bind (sTermOk s hs) ?_
 unfold readAtomS
 cases hk : tmOk s with
 | false => exact Ev.pure _
 | true =>
  obtain ⟨c, t, n, z, rfl, hd, hm, _⟩ := tmOk_cons hk
  simp only [Bool.not_true, cond_false, if_true]
  refine Ev.at? (i := 0) (b := c) rfl ?_
  refine Ev.ite (fun hc => (Ev.pure _).to ?_) (fun hc => ?_)
  ·rw [if_neg (fun e => by rw [e] at hc; cases hc)]
  ·have hc : c = 97 := by simpa using hc
   subst hc
   obtain ⟨z1, z2, z3, _, _⟩ := dv_ok hd
   have hcut : cut? ((97 : UInt8) :: t) 1 (((97 : UInt8) :: t).length : Int) = some t := by
    have := cutEnd (xs := (97 : UInt8) :: t) (a := 1) (by simp)
    simpa using this
   rw [hcut, if_pos rfl, hd]
   simp only [Option.bind_some]
   refine Ev.bind (sReadVar t (by simp at hs; omega)) ?_
   simp only [rvP, hd]
   rw [show IntKind.i64.wrap (1 + (z : Int)) = ((1 + z : Nat) : Int) by rw [wid (by omega) (by omega)]; omega, cutEnd (by simp; omega)]
   refine (Ev.pure _).to ?_
   have e : ((97 : UInt8) :: t).drop (1 + z) = t.drop z := by rw [Nat.add_comm]; rfl
   rw [e]
theorem iReadAtom (s : List UInt8) (hs : s.length ≤ 1048576) : Ev (fun k => I_ReadAtom k s) (readAtomS s) := by
 simp only [I_ReadAtom]
 refine Ev.bind (iIsOf s hs 97) ?_
 unfold readAtomS
 cases hk : tmOk s with
 | false => exact Ev.pure _
 | true =>
  obtain ⟨c, t, n, z, rfl, hd, hm, _⟩ := tmOk_cons hk
  simp only [if_true, Bool.true_and, List.head?_cons]
  refine Ev.ite (fun hc => (Ev.pure _).to ?_) (fun hc => ?_)
  ·rw [if_neg (fun e => by rw [e] at hc; simp at hc)]
  ·have hc : c = 97 := by simpa using hc
   subst hc
   obtain ⟨z1, z2, z3, _, _⟩ := dv_ok hd
   refine Ev.bind (iVarAt ((97 : UInt8) :: t) hs 1 (by simp)) ?_
   rw [show ((97 : UInt8) :: t).drop 1 = t from rfl, hd, if_pos rfl]
   simp only
   rw [cutEnd (by simp; omega)]
   refine (Ev.pure _).to ?_
   have e : ((97 : UInt8) :: t).drop (1 + z) = t.drop z := by rw [Nat.add_comm]; rfl
   rw [e]
def readNumS (s : List UInt8) : Int × Bool := if (readAtomS s).2 = true ∧ (rvP (readAtomS s).1).2 ≠ 0 ∧ (rvP (readAtomS s).1).2 = ((readAtomS s).1.length : Int) then ((rvP (readAtomS s).1).1, true) else (0, false)
theorem sReadNum (s : List UInt8) (hs : s.length ≤ 1048576) : Ev (fun k => S_ReadNum k s) (readNumS s) := by
 simp only [S_ReadNum]
 have hl := readAtomS_len s
 refine Ev.bind (sReadAtom s hs) (Ev.bind (sReadVar _ (by omega)) ?_)
 unfold readNumS
 refine Ev.ite (fun h => (Ev.pure _).to ?_) (fun h => Ev.ite (fun h2 => (Ev.pure _).to ?_) (fun h2 => Ev.ite (fun h3 => (Ev.pure _).to ?_) (fun h3 => (Ev.pure _).to ?_)))
 ·rw [if_neg (fun e => by rw [e.1] at h; cases h)]
 ·rw [if_neg (fun e => e.2.1 (by simpa using h2))]
 ·rw [if_neg (fun e => by rw [e.2.2] at h3; simp at h3)]
 ·rw [if_pos ⟨by simpa using h, by simpa using h2, by simpa using h3⟩]
theorem iReadNum (s : List UInt8) (hs : s.length ≤ 1048576) : Ev (fun k => I_ReadNum k s) (readNumS s) := by
 simp only [I_ReadNum]
 have hl := readAtomS_len s
 refine Ev.bind (iReadAtom s hs) (Ev.bind (iReadVar _ (by omega)) ?_)
 unfold readNumS
 refine Ev.ite (fun h => (Ev.pure _).to ?_) (fun h => Ev.ite (fun h2 => (Ev.pure _).to ?_) (fun h2 => Ev.ite (fun h3 => (Ev.pure _).to ?_) (fun h3 => (Ev.pure _).to ?_)))
 ·rw [if_neg (fun e => by rw [e.1] at h; cases h)]
 ·rw [if_neg (fun e => e.2.1 (by simpa using h2))]
 ·rw [if_neg (fun e => by rw [e.2.2] at h3; simp at h3)]
 ·rw [if_pos ⟨by simpa using h, by simpa using h2, by simpa using h3⟩]
def readNumsS (s : List UInt8) : List Int × Bool := if (partsS s).2 = true ∧ (partsS s).1.all (fun p => (readNumS p).2) = true then ((partsS s).1.map (fun p => (readNumS p).1), true) else ([], false)
theorem readNumsS_len (s : List UInt8) : (readNumsS s).1.length ≤ 12 := by
 unfold readNumsS
 split
 ·have := (partsS_len s).1; simpa using this
 ·simp
theorem readNumsS_nil {s : List UInt8} (h : (readNumsS s).2 = false) : (readNumsS s).1 = [] := by
 unfold readNumsS at h ⊢
 split at h
 ·cases h
 ·rename_i h2; rw [if_neg h2]
theorem sReadNums (s : List UInt8) (hs : s.length ≤ 1048576) : Ev (fun k => S_ReadNums k s) (readNumsS s) := by
 simp only [S_ReadNums]
 refine Ev.bind (sParts s hs) ?_
 obtain ⟨pl, pe⟩ := partsS_len s
 unfold readNumsS
 generalize (partsS s).2 = ok
 generalize (partsS s).1 = ps at pl pe
 refine (Ev.forI (xs := ps) (L := fun k (st : List Int × Bool) i => S_ReadNums.l12 k st.1 ps st.2 i) (f := fun l st => if st.2 = true ∧ l.all (fun p => (readNumS p).2) = true then (st.1 ++ l.map (fun p => (readNumS p).1), true) else ([], false)) (I := fun i st => st.1.length = i) (fun st hst => ?_) (fun i b st hb hi hst hr => ?_) ([], ok) rfl).to (by simp)
 ·simp only [S_ReadNums.l12, ltD0, cond_false]
  cases h : st.2 with
  | false => exact (Ev.pure _).to (by simp)
  | true => exact (Ev.pure _).to (by simp)
 ·simp only [S_ReadNums.l12, S_ReadNums.j14, ltD hi, cond_true]
  refine Ev.at? hb (Ev.bind (sReadNum b (by have := pe b (List.mem_of_getElem? hb); omega)) ?_)
  rw [decide_eq_true (by simp; omega), wid1 (by omega)]
  simp only [cond_true]
  refine Ev.ite (fun h => ?_) (fun h => ?_)
  ·refine (hr (st.1 ++ [(readNumS b).1], (readNumS b).2) (by simp [hst])).to ?_
   simp [h]
  ·refine (hr (st.1 ++ [(readNumS b).1], false) (by simp [hst])).to ?_
   simp [h]
theorem iReadNums (s : List UInt8) (hs : s.length ≤ 1048576) : Ev (fun k => I_ReadNums k s) (readNumsS s) := by
 simp only [I_ReadNums]
 refine Ev.bind (iParts s hs) ?_
 obtain ⟨pl, pe⟩ := partsS_len s
 unfold readNumsS
 generalize (partsS s).2 = ok
 generalize (partsS s).1 = ps at pl pe
 refine Ev.ite (fun h => (Ev.pure _).to ?_) (fun h => ?_)
 ·rw [if_neg (fun e => by rw [e.1] at h; cases h)]
 ·have hok : ok = true := by simpa using h
  subst hok
  refine (Ev.forI (xs := ps) (L := fun k (st : List Int) i => I_ReadNums.l2 k st ps (ps.length : Int) i) (f := fun l st => if l.all (fun p => (readNumS p).2) = true then (st ++ l.map (fun p => (readNumS p).1), true) else ([], false)) (I := fun i st => st.length = i) (fun st hst => ?_) (fun i b st hb hi hst hr => ?_) [] rfl).to (by simp)
  ·simp only [I_ReadNums.l2, ltD0, cond_false]
   exact (Ev.pure _).to (by simp)
  ·simp only [I_ReadNums.l2, ltD hi, cond_true]
   refine Ev.at? hb (Ev.bind (iReadNum b (by have := pe b (List.mem_of_getElem? hb); omega)) ?_)
   rw [decide_eq_true (by simp; omega), wid1 (by omega)]
   simp only [cond_true]
   cases h : (readNumS b).2 with
   | false => exact (Ev.pure _).to (by simp [h])
   | true =>
    refine (hr (st ++ [(readNumS b).1]) (by simp [hst])).to ?_
    simp [h]
theorem dv_agree {x y : List UInt8} {n z : Nat} (h : dv 7 x = some (n, z)) (e : y.take z = x.take z) : dv 7 y = some (n, z) := by
 obtain ⟨h1, h2, h3, h4, h5⟩ := dv_ok h
 have hn : n < 128 ^ (6 + 1) := Nat.lt_of_lt_of_le h5 (Nat.pow_le_pow_right (by omega) h2)
 have hl : (varE n).length = z := by rw [← h4, List.length_take]; omega
 have := varE_dv (f := 6) (n := n) (t := y.drop z) hn
 rw [← h4, ← e, List.take_append_drop] at this
 rw [this, e, h4, hl]
theorem drop_take_eq {α : Type} {x y : List α} {z q m : Nat} (e : y.take m = x.take m) (h : z + q = m) : (y.drop z).take q = (x.drop z).take q := by
 subst h
 have := congrArg (List.drop z) e
 rw [List.drop_take, List.drop_take] at this
 simpa using this
theorem tmsOf_agree {f : List UInt8 → Option Nat} (hf : ∀ x y m, f x = some m → y.take m = x.take m → f y = some m) : ∀ (n : Nat) (x y : List UInt8) (m : Nat), tmsOf f n x = some m → y.take m = x.take m → tmsOf f n y = some m
 | 0, x, y, m, h, e => h
 | n + 1, x, y, m, h, e => by
  simp only [tmsOf] at h ⊢
  cases h1 : f x with
  | none => rw [h1] at h; cases h
  | some a =>
   rw [h1] at h
   simp only at h
   cases h2 : tmsOf f n (x.drop a) with
   | none => rw [h2] at h; cases h
   | some b =>
    rw [h2] at h
    simp only [Option.some.injEq] at h
    have e1 : y.take a = x.take a := by
     have := congrArg (List.take a) e
     rw [List.take_take, List.take_take, Nat.min_eq_left (by omega)] at this
     exact this
    rw [hf x y a h1 e1]
    simp only
    rw [tmsOf_agree hf n _ (y.drop a) b h2 (drop_take_eq e (by omega))]
    simp only [Option.some.injEq]; omega
theorem tm_agree : ∀ (d : Nat) (x y : List UInt8) (m : Nat), tm d x = some m → y.take m = x.take m → tm d y = some m
 | 0, x, y, m, h, e => by simp [tm] at h
 | d + 1, [], y, m, h, e => by simp [tm] at h
 | d + 1, c :: s, y, m, h, e => by
  obtain ⟨m0, m1⟩ := tm_le _ _ _ h
  obtain ⟨m, rfl⟩ : ∃ j, m = j + 1 := ⟨m - 1, by omega⟩
  cases y with
  | nil => simp at e
  | cons c' y =>
   simp only [List.take_succ_cons, List.cons.injEq] at e
   obtain ⟨rfl, e⟩ := e
   rw [tm] at h ⊢
   have tk : ∀ a, a ≤ m → y.take a = s.take a := fun a ha => by
    have := congrArg (List.take a) e
    rw [List.take_take, List.take_take, Nat.min_eq_left ha] at this
    exact this
   have hyl : m ≤ y.length := by
    have := congrArg List.length e
    simp only [List.length_take, List.length_cons] at this m1
    omega
   cases hd : dv 7 s with
   | none => rw [hd] at h; cases h
   | some p =>
    obtain ⟨n, z⟩ := p
    rw [hd] at h
    simp only at h
    have fin : z ≤ m → dv 7 y = some (n, z) := fun hz => dv_agree hd (tk z hz)
    by_cases h1 : c' = 97
    ·rw [if_pos h1] at h
     by_cases h5 : n ≤ 40 ∧ z + n ≤ s.length
     ·rw [if_pos h5] at h
      simp only [Option.some.injEq] at h
      rw [fin (by omega)]
      simp only
      rw [if_pos h1, if_pos (by omega)]; congr 1
     ·rw [if_neg h5] at h; cases h
    rw [if_neg h1] at h
    by_cases h2 : c' = 107
    ·rw [if_pos h2] at h
     by_cases h5 : 1 ≤ n ∧ n ≤ 1000000
     ·rw [if_pos h5] at h
      simp only [Option.some.injEq] at h
      rw [fin (by omega)]
      simp only
      rw [if_neg h1, if_pos h2, if_pos h5]; congr 1
     ·rw [if_neg h5] at h; cases h
    rw [if_neg h2] at h
    by_cases h3 : c' = 115
    ·rw [if_pos h3] at h
     by_cases h5 : 1 ≤ n ∧ n ≤ 1000000
     ·rw [if_pos h5] at h
      cases ht : tm d (s.drop z) with
      | none => rw [ht] at h; cases h
      | some q =>
       rw [ht] at h
       simp only [Option.some.injEq] at h
       rw [fin (by omega)]
       simp only
       rw [if_neg h1, if_neg h2, if_pos h3, if_pos h5, tm_agree d _ (y.drop z) q ht (drop_take_eq e (by omega))]
       simp only [Option.some.injEq]; omega
     ·rw [if_neg h5] at h; cases h
    rw [if_neg h3] at h
    by_cases h4 : c' = 108
    ·rw [if_pos h4] at h
     by_cases h5 : n ≤ 12
     ·rw [if_pos h5] at h
      cases ht : tmsOf (tm d) n (s.drop z) with
      | none => rw [ht] at h; cases h
      | some q =>
       rw [ht] at h
       simp only [Option.some.injEq] at h
       rw [fin (by omega)]
       simp only
       rw [if_neg h1, if_neg h2, if_neg h3, if_pos h4, if_pos h5, tmsOf_agree (fun x y m => tm_agree d x y m) n _ (y.drop z) q ht (drop_take_eq e (by omega))]
       simp only [Option.some.injEq]; omega
     ·rw [if_neg h5] at h; cases h
    ·rw [if_neg h4] at h; cases h
theorem tm8 {s : List UInt8} (h : tmOk s = true) : tm 8 s = some s.length := by obtain ⟨_, _, _, _, _, _, h, _⟩ := tmOk_cons h; exact h
theorem tmOk_of {s : List UInt8} (h : tm 8 s = some s.length) (hl : s.length ≤ 900) : tmOk s = true := by
 unfold tmOk; rw [h]; exact decide_eq_true ⟨rfl, hl⟩
theorem tm_app {p r : List UInt8} (h : tmOk p = true) : tm 8 (p ++ r) = some p.length := tm_agree 8 p (p ++ r) _ (tm8 h) (by simp)
theorem okT_ne {s : List UInt8} (h : okT s ≠ []) : tmOk s = true ∧ okT s = s := by
 unfold okT at h ⊢
 split at h
 ·rename_i h1; rw [if_pos h1]; exact ⟨h1, rfl⟩
 ·exact absurd rfl h
theorem okT_ok {s : List UInt8} (h : tmOk s = true) : okT s = s := if_pos h
theorem tmOk_ne {s : List UInt8} (h : tmOk s = true) : s ≠ [] := fun e => by rw [e, tmOk_nil] at h; cases h
theorem dv_split {t : List UInt8} {n z : Nat} (h : dv 7 t = some (n, z)) : t = varE n ++ t.drop z ∧ n ≤ 562949953421311 ∧ (varE n).length = z := by
 obtain ⟨h1, h2, h3, h4, h5⟩ := dv_ok h
 have := Nat.lt_of_lt_of_le h5 (Nat.pow_le_pow_right (n := 128) (by omega) h2)
 exact ⟨by rw [← h4, List.take_append_drop], by omega, by rw [← h4, List.length_take]; omega⟩
theorem atom_of {s d : List UInt8} (h : readAtomS s = (d, true)) : atomS d = s ∧ tmOk s = true := by
 unfold readAtomS at h
 by_cases hk : tmOk s = true
 ·rw [if_pos hk] at h
  obtain ⟨c, t, n, z, rfl, hd, hm, _⟩ := tmOk_cons hk
  simp only at h
  by_cases hc : c = 97
  ·subst hc
   rw [if_pos rfl, hd] at h
   simp only [Prod.mk.injEq, and_true] at h
   subst h
   rw [tm, hd] at hm
   simp only [if_true] at hm
   by_cases h5 : n ≤ 40 ∧ z + n ≤ t.length
   ·rw [if_pos h5] at hm
    simp only [Option.some.injEq, List.length_cons] at hm
    have hl : (t.drop z).length = n := by rw [List.length_drop]; omega
    unfold atomS
    rw [if_pos (by omega), hl, ← (dv_split hd).1]
    exact ⟨okT_ok hk, hk⟩
   ·rw [if_neg h5] at hm; cases hm
  ·rw [if_neg hc] at h; cases h
 ·rw [if_neg hk] at h; cases h
theorem readAtom_of {d : List UInt8} (h : atomS d ≠ []) : readAtomS (atomS d) = (d, true) := by
 unfold atomS at h ⊢
 by_cases hd : d.length ≤ 40
 ·rw [if_pos hd] at h ⊢
  obtain ⟨h1, h2⟩ := okT_ne h
  rw [h2]
  unfold readAtomS
  rw [if_pos h1]
  simp only [if_true]
  rw [varE_dv (f := 6) (n := d.length) (t := d) (by omega)]
  simp
 ·rw [if_neg hd] at h; exact absurd rfl h
theorem partsF_join {f : List UInt8 → Option Nat} : ∀ (n : Nat) (s : List UInt8) (m : Nat), tmsOf f n s = some m → (∀ s m, f s = some m → m ≤ s.length) → (partsF f n s).flatten = s.take m ∧ (partsF f n s).length = n ∧ ∀ p ∈ partsF f n s, ∃ x a, f x = some a ∧ p = x.take a ∧ a ≤ x.length
 | 0, s, m, h, _ => by simp [tmsOf] at h; subst h; simp [partsF]
 | n + 1, s, m, h, hf => by
  simp only [tmsOf] at h
  cases h1 : f s with
  | none => rw [h1] at h; cases h
  | some a =>
   rw [h1] at h
   simp only at h
   cases h2 : tmsOf f n (s.drop a) with
   | none => rw [h2] at h; cases h
   | some b =>
    rw [h2] at h
    simp only [Option.some.injEq] at h
    subst h
    obtain ⟨i1, i2, i3⟩ := partsF_join n _ b h2 hf
    simp only [partsF, h1, List.flatten_cons, List.length_cons, i1, i2]
    refine ⟨?_, trivial, fun p hp => ?_⟩
    ·rw [List.take_add]
    ·rcases List.mem_cons.1 hp with rfl | hp
     ·exact ⟨s, a, h1, rfl, hf s a h1⟩
     ·exact i3 p hp
theorem parts_ok {s : List UInt8} {ps : List (List UInt8)} (h : partsS s = (ps, true)) : listS ps = s ∧ tmOk s = true ∧ (∀ p ∈ ps, tmOk p = true) ∧ ps.length ≤ 12 := by
 unfold partsS at h
 by_cases hk : tmOk s = true
 ·rw [if_pos hk] at h
  obtain ⟨c, t, n, z, rfl, hd, hm, hl⟩ := tmOk_cons hk
  simp only at h
  by_cases hc : c = 108
  ·subst hc
   rw [if_pos rfl, hd] at h
   simp only [Prod.mk.injEq, and_true] at h
   obtain ⟨h12, htm⟩ := tmOk_list hk hd
   obtain ⟨z1, _, _, _, _⟩ := dv_ok hd
   obtain ⟨i1, i2, i3⟩ := partsF_join n (t.drop z) _ htm (fun s m h => (tm_le 8 s m h).2)
   rw [h] at i1 i2 i3
   rw [List.take_of_length_le (by rw [List.length_drop]; omega)] at i1
   have hall : ∀ p ∈ ps, tmOk p = true := fun p hp => by
    obtain ⟨x, a, h1, h2, h3⟩ := i3 p hp
    have hpl : p.length = a := by rw [h2, List.length_take]; omega
    have hfl : p.length ≤ ps.flatten.length := by
     obtain ⟨u, v, huv⟩ := List.append_of_mem hp
     rw [huv]; simp; omega
    refine tmOk_of ?_ (by rw [i1, List.length_drop] at hfl; simp at hl; omega)
    rw [hpl]
    exact tm_agree 8 x p a h1 (by rw [h2, List.take_take]; simp)
   refine ⟨?_, hk, hall, by omega⟩
   unfold listS
   rw [if_pos ⟨by omega, List.all_eq_true.2 hall⟩, i2, i1, ← (dv_split hd).1]
   exact okT_ok hk
  ·rw [if_neg hc] at h; cases h
 ·rw [if_neg hk] at h; cases h
theorem partsF_of : ∀ (ps : List (List UInt8)), ps.all tmOk = true → partsF (tm 8) ps.length ps.flatten = ps
 | [], _ => rfl
 | p :: ps, h => by
  simp only [List.all_cons, Bool.and_eq_true] at h
  simp only [List.length_cons, partsF, List.flatten_cons, tm_app h.1]
  rw [List.take_left' rfl, List.drop_left' rfl, partsF_of ps h.2]
theorem parts_of {ps : List (List UInt8)} (h : listS ps ≠ []) : partsS (listS ps) = (ps, true) := by
 unfold listS at h ⊢
 by_cases hc : ps.length ≤ 12 ∧ ps.all tmOk = true
 ·rw [if_pos hc] at h ⊢
  obtain ⟨h1, h2⟩ := okT_ne h
  rw [h2]
  unfold partsS
  rw [if_pos h1]
  simp only [if_true]
  rw [varE_dv (f := 6) (n := ps.length) (t := ps.flatten) (by omega)]
  simp only
  rw [List.drop_left' rfl, partsF_of ps hc.2]
 ·rw [if_neg hc] at h; exact absurd rfl h
theorem num_of {s : List UInt8} {n : Int} (h : readNumS s = (n, true)) : numS n = s ∧ tmOk s = true := by
 unfold readNumS at h
 split at h
 ·rename_i hc
  obtain ⟨h1, h2, h3⟩ := hc
  simp only [Prod.mk.injEq, and_true] at h
  have ha : readAtomS s = ((readAtomS s).1, true) := by rw [← h1]
  obtain ⟨a1, a2⟩ := atom_of ha
  generalize (readAtomS s).1 = d at *
  unfold rvP at h h2 h3
  cases hd : dv 7 d with
  | none => rw [hd] at h2; exact absurd rfl h2
  | some p =>
   obtain ⟨m, z⟩ := p
   rw [hd] at h h3
   simp only at h h3
   subst h
   obtain ⟨e1, e2, e3⟩ := dv_split hd
   rw [List.drop_of_length_le (by omega), List.append_nil] at e1
   unfold numS
   rw [varI_nat m e2, if_neg (varE_ne m), ← e1]
   exact ⟨a1, a2⟩
 ·cases h
theorem readNum_of {n : Int} (h : numS n ≠ []) : readNumS (numS n) = (n, true) := by
 unfold numS at h ⊢
 by_cases hv : varI n = []
 ·rw [if_pos hv] at h; exact absurd rfl h
 ·rw [if_neg hv] at h ⊢
  unfold readNumS
  rw [readAtom_of h]
  simp only [true_and]
  unfold varI at hv ⊢
  by_cases hn : 0 ≤ n ∧ n ≤ 562949953421311
  ·rw [if_pos hn]
   have := rvP_var (n := n.toNat) (t := []) (by omega)
   rw [List.append_nil] at this
   rw [this]
   simp only
   have := varE_pos n.toNat
   rw [if_pos ⟨by omega, trivial⟩, Int.toNat_of_nonneg hn.1]
  ·rw [if_neg hn] at hv; exact absurd rfl hv
theorem nums_of {s : List UInt8} {l : List Int} (h : readNumsS s = (l, true)) : numsS l = s ∧ tmOk s = true := by
 unfold readNumsS at h
 split at h
 ·rename_i hc
  obtain ⟨h1, h2⟩ := hc
  simp only [Prod.mk.injEq, and_true] at h
  have hp : partsS s = ((partsS s).1, true) := by rw [← h1]
  obtain ⟨p1, p2, p3, p4⟩ := parts_ok hp
  generalize (partsS s).1 = ps at *
  have e : l.map numS = ps := by
   rw [← h, List.map_map]
   have : ∀ p ∈ ps, (numS ∘ fun p => (readNumS p).1) p = p := fun p hp => by
    have := List.all_eq_true.1 h2 p hp
    exact (num_of (s := p) (n := (readNumS p).1) (by rw [← this])).1
   rw [List.map_congr_left this]; simp
  unfold numsS
  rw [if_pos, e]
  ·exact ⟨p1, p2⟩
  ·have e2 : (l.all fun n => numS n != []) = (l.map numS).all (fun x => x != []) := by rw [List.all_map]; rfl
   rw [e2, e]
   refine List.all_eq_true.2 fun p hp => ?_
   have := tmOk_ne (p3 p hp)
   simpa using this
 ·cases h
theorem readNums_of {l : List Int} (h : numsS l ≠ []) : readNumsS (numsS l) = (l, true) := by
 unfold numsS at h ⊢
 by_cases hc : l.all (fun n => numS n != []) = true
 ·rw [if_pos hc] at h ⊢
  unfold readNumsS
  rw [parts_of h]
  simp only [true_and]
  have hr : ∀ n ∈ l, readNumS (numS n) = (n, true) := fun n hn => readNum_of (by have := List.all_eq_true.1 hc n hn; simpa using this)
  rw [if_pos]
  ·congr 1
   rw [List.map_map]
   have : ∀ n ∈ l, ((fun p => (readNumS p).1) ∘ numS) n = n := fun n hn => by simp only [Function.comp]; rw [hr n hn]
   rw [List.map_congr_left this]; simp
  ·refine List.all_eq_true.2 fun p hp => ?_
   obtain ⟨n, hn, rfl⟩ := List.mem_map.1 hp
   rw [hr n hn]
 ·rw [if_neg hc] at h; exact absurd rfl h
def readKeyS (s : List UInt8) : Int × Bool :=
 if tmOk s = true then match s with
  | [] => (0, false)
  | c :: t => if c = 107 then match dv 7 t with
   | some (n, _) => ((n : Int), true)
   | none => (0, false) else (0, false)
 else (0, false)
def openS (s : List UInt8) (k : Int) : List UInt8 × Bool :=
 if tmOk s = true then match s with
  | [] => ([], false)
  | c :: t => if c = 115 then match dv 7 t with
   | some (n, z) => if (n : Int) = k then (t.drop z, true) else ([], false)
   | none => ([], false) else ([], false)
 else ([], false)
def keyS (k : Int) : List UInt8 := okT (107 :: varI k)
def sealS (k : Int) (t : List UInt8) : List UInt8 := if tmOk t = true ∧ 1 ≤ k ∧ k ≤ 1000000 then okT (115 :: (varI k ++ t)) else []
theorem keyS_len (k : Int) : (keyS k).length ≤ 900 := okT_len _
theorem sealS_len (k : Int) (t : List UInt8) : (sealS k t).length ≤ 900 := by
 unfold sealS
 split
 ·exact okT_len _
 ·simp
theorem openS_len (s : List UInt8) (k : Int) : (openS s k).1.length ≤ s.length := by
 unfold openS
 split
 ·split
  ·simp
  ·split
   ·split
    ·split
     ·simp; omega
     ·simp
    ·simp
   ·simp
 ·simp
theorem openS_nil {s : List UInt8} {k : Int} (h : (openS s k).2 = false) : (openS s k).1 = [] := by
 unfold openS at h ⊢
 split
 ·rename_i hk
  rw [if_pos hk] at h
  obtain ⟨c, t, n, z, rfl, hd, hm, _⟩ := tmOk_cons hk
  simp only at h ⊢
  split
  ·rename_i hc
   rw [if_pos hc, hd] at h
   rw [hd]
   simp only at h ⊢
   split
   ·rename_i hn; rw [if_pos hn] at h; cases h
   ·rfl
  ·rfl
 ·rfl
theorem sReadKey (s : List UInt8) (hs : s.length ≤ 1048576) : Ev (fun k => S_ReadKey k s) (readKeyS s) := by
 simp only [S_ReadKey]
 refine Ev.bind (sTermOk s hs) ?_
 unfold readKeyS
 cases hk : tmOk s with
 | false => exact Ev.pure _
 | true =>
  obtain ⟨c, t, n, z, rfl, hd, hm, _⟩ := tmOk_cons hk
  simp only [Bool.not_true, cond_false, if_true]
  refine Ev.at? (i := 0) (b := c) rfl ?_
  refine Ev.ite (fun hc => (Ev.pure _).to ?_) (fun hc => ?_)
  ·rw [if_neg (fun e => by rw [e] at hc; cases hc)]
  ·have hc : c = 107 := by simpa using hc
   subst hc
   have hcut : cut? ((107 : UInt8) :: t) 1 (((107 : UInt8) :: t).length : Int) = some t := by
    have := cutEnd (xs := (107 : UInt8) :: t) (a := 1) (by simp)
    simpa using this
   rw [hcut, if_pos rfl, hd]
   simp only [Option.bind_some]
   refine Ev.bind (sReadVar t (by simp at hs; omega)) ?_
   simp only [rvP, hd]
   exact Ev.pure _
theorem iReadKey (s : List UInt8) (hs : s.length ≤ 1048576) : Ev (fun k => I_ReadKey k s) (readKeyS s) := by
 simp only [I_ReadKey]
 refine Ev.bind (iIsOf s hs 107) ?_
 unfold readKeyS
 cases hk : tmOk s with
 | false => exact Ev.pure _
 | true =>
  obtain ⟨c, t, n, z, rfl, hd, hm, _⟩ := tmOk_cons hk
  simp only [if_true, Bool.true_and, List.head?_cons]
  refine Ev.ite (fun hc => (Ev.pure _).to ?_) (fun hc => ?_)
  ·rw [if_neg (fun e => by rw [e] at hc; simp at hc)]
  ·have hc : c = 107 := by simpa using hc
   subst hc
   refine Ev.bind (iVarAt ((107 : UInt8) :: t) hs 1 (by simp)) ?_
   rw [show ((107 : UInt8) :: t).drop 1 = t from rfl, hd, if_pos rfl]
   exact Ev.pure _
theorem sOpen (s : List UInt8) (hs : s.length ≤ 1048576) (key : Int) : Ev (fun k => S_Open k s key) (openS s key) := by
 simp only [S_Open]
 refine Ev.bind (sTermOk s hs) ?_
 unfold openS
 cases hk : tmOk s with
 | false => exact Ev.pure _
 | true =>
  obtain ⟨c, t, n, z, rfl, hd, hm, _⟩ := tmOk_cons hk
  simp only [Bool.not_true, cond_false, if_true]
  refine Ev.at? (i := 0) (b := c) rfl ?_
  refine Ev.ite (fun hc => (Ev.pure _).to ?_) (fun hc => ?_)
  ·rw [if_neg (fun e => by rw [e] at hc; cases hc)]
  ·have hc : c = 115 := by simpa using hc
   subst hc
   obtain ⟨z1, z2, z3, _, _⟩ := dv_ok hd
   have hcut : cut? ((115 : UInt8) :: t) 1 (((115 : UInt8) :: t).length : Int) = some t := by
    have := cutEnd (xs := (115 : UInt8) :: t) (a := 1) (by simp)
    simpa using this
   rw [hcut, if_pos rfl, hd]
   simp only [Option.bind_some]
   refine Ev.bind (sReadVar t (by simp at hs; omega)) ?_
   simp only [rvP, hd]
   refine Ev.ite (fun hc => (Ev.pure _).to ?_) (fun hc => ?_)
   ·exact (if_neg (fun e => by rw [e] at hc; simp at hc)).symm
   ·rw [show IntKind.i64.wrap (1 + (z : Int)) = ((1 + z : Nat) : Int) by rw [wid (by omega) (by omega)]; omega, cutEnd (by simp; omega)]
    refine (Ev.pure _).to ?_
    have e : ((115 : UInt8) :: t).drop (1 + z) = t.drop z := by rw [Nat.add_comm]; rfl
    rw [e]
    exact (if_pos (by simpa using hc)).symm
theorem iOpen (s : List UInt8) (hs : s.length ≤ 1048576) (key : Int) : Ev (fun k => I_Open k s key) (openS s key) := by
 simp only [I_Open, I_sealed]
 unfold openS
 cases hk : tmOk s with
 | false =>
  have h := iIsOf s hs 115
  rw [hk] at h
  exact Ev.bind (Ev.bind h (Ev.pure _)) (Ev.pure _)
 | true =>
  obtain ⟨c, t, n, z, rfl, hd, hm, _⟩ := tmOk_cons hk
  have h := iIsOf (c :: t) hs 115
  rw [hk] at h
  simp only [Bool.true_and, List.head?_cons] at h
  simp only [if_true]
  by_cases hc : c = 115
  ·subst hc
   obtain ⟨z1, z2, z3, _, _⟩ := dv_ok hd
   have hv := iVarAt ((115 : UInt8) :: t) hs 1 (by simp)
   rw [show ((115 : UInt8) :: t).drop 1 = t from rfl, hd] at hv
   simp only at hv
   rw [if_pos rfl, hd]
   have hb : Ev (fun k => (I_isOf k ((115 : UInt8) :: t) 115).bind fun r2 => cond (!r2) (some ((0 : Int), ([] : List UInt8), false)) ((I_varAt k ((115 : UInt8) :: t) 1).bind fun r3 => (cut? ((115 : UInt8) :: t) r3.2 (((115 : UInt8) :: t).length : Int)).bind fun b4 => some (r3.1, b4, true))) ((n : Int), t.drop z, true) := by
    refine Ev.bind h ?_
    simp only [BEq.rfl, Bool.not_true, cond_false]
    refine Ev.bind hv ?_
    simp only
    rw [cutEnd (by simp; omega)]
    refine (Ev.pure _).to ?_
    have e : ((115 : UInt8) :: t).drop (1 + z) = t.drop z := by rw [Nat.add_comm]; rfl
    rw [e]
   refine Ev.bind hb ?_
   simp only [Bool.not_true, cond_false]
   refine Ev.ite (fun hc => (Ev.pure _).to ?_) (fun hc => (Ev.pure _).to ?_)
   ·exact (if_neg (fun e => by rw [e] at hc; simp at hc)).symm
   ·exact (if_pos (by simpa using hc)).symm
  ·rw [if_neg hc]
   rw [show (some c == some 115) = false by simpa using hc] at h
   exact Ev.bind (Ev.bind h (Ev.pure _)) (Ev.pure _)
theorem iKeyTerm (key : Int) : Ev (fun k => I_KeyTerm k key) (keyS key) := by
 simp only [I_KeyTerm]
 refine Ev.bind (iVar key) ?_
 have := varI_len key
 rw [decide_eq_true (by simp; omega)]
 exact Ev.bind (iOk _ (by simp; omega)) (Ev.pure _)
theorem iSeal (key : Int) (t : List UInt8) (ht : t.length ≤ 1000000) : Ev (fun k => I_Seal k key t) (sealS key t) := by
 simp only [I_Seal, iKey, Option.bind_some]
 refine Ev.bind (iTermOk t (by omega)) ?_
 unfold sealS
 refine Ev.ite (fun h => (Ev.pure _).to ?_) (fun h => Ev.ite (fun h2 => (Ev.pure _).to ?_) (fun h2 => ?_))
 ·rw [if_neg (fun e => by rw [e.1] at h; cases h)]
 ·rw [if_neg (fun e => by unfold isIn at h2; rw [decide_eq_true e.2] at h2; cases h2)]
 ·rw [if_pos ⟨by simpa using h, of_decide_eq_true (by simpa [isIn] using h2 : decide (1 ≤ key ∧ key ≤ 1000000) = true)⟩]
  refine Ev.bind (iVar key) ?_
  have := varI_len key
  rw [decide_eq_true (by simp; omega), decide_eq_true (by simp; omega)]
  refine Ev.bind (iOk _ (by simp; omega)) ((Ev.pure _).to ?_)
  simp
theorem key_of {s : List UInt8} {k : Int} (h : readKeyS s = (k, true)) : keyS k = s ∧ tmOk s = true := by
 unfold readKeyS at h
 by_cases hk : tmOk s = true
 ·rw [if_pos hk] at h
  obtain ⟨c, t, n, z, rfl, hd, hm, _⟩ := tmOk_cons hk
  simp only at h
  by_cases hc : c = 107
  ·subst hc
   rw [if_pos rfl, hd] at h
   simp only [Prod.mk.injEq, and_true] at h
   subst h
   rw [tm, hd] at hm
   simp only [if_true] at hm
   rw [if_neg (by decide)] at hm
   by_cases h5 : 1 ≤ n ∧ n ≤ 1000000
   ·rw [if_pos h5] at hm
    simp only [Option.some.injEq, List.length_cons] at hm
    obtain ⟨e1, e2, e3⟩ := dv_split hd
    rw [List.drop_of_length_le (by omega), List.append_nil] at e1
    unfold keyS
    rw [varI_nat n e2, ← e1]
    exact ⟨okT_ok hk, hk⟩
   ·rw [if_neg h5] at hm; cases hm
  ·rw [if_neg hc] at h; cases h
 ·rw [if_neg hk] at h; cases h
theorem varI_dv {k : Int} (hk : 0 ≤ k ∧ k ≤ 562949953421311) (t : List UInt8) : dv 7 (varI k ++ t) = some (k.toNat, (varI k).length) := by
 unfold varI
 rw [if_pos hk]
 exact varE_dv (f := 6) (by omega)
theorem readKey_of {k : Int} (h : keyS k ≠ []) : readKeyS (keyS k) = (k, true) := by
 unfold keyS at h ⊢
 obtain ⟨h1, h2⟩ := okT_ne h
 rw [h2]
 have hk : 0 ≤ k ∧ k ≤ 562949953421311 := by
  refine Classical.byContradiction fun hn => ?_
  have : varI k = [] := if_neg hn
  rw [this] at h1
  exact absurd h1 (by decide +kernel)
 have hd := varI_dv hk []
 rw [List.append_nil] at hd
 unfold readKeyS
 rw [if_pos h1]
 simp only [if_true, hd]
 congr 1; omega
theorem open_of {s t : List UInt8} {k : Int} (h : openS s k = (t, true)) : sealS k t = s ∧ tmOk s = true ∧ tmOk t = true := by
 unfold openS at h
 by_cases hk : tmOk s = true
 ·rw [if_pos hk] at h
  obtain ⟨c, x, n, z, rfl, hd, hm, hl⟩ := tmOk_cons hk
  simp only at h
  by_cases hc : c = 115
  ·subst hc
   rw [if_pos rfl, hd] at h
   simp only at h
   by_cases hn : (n : Int) = k
   ·rw [if_pos hn] at h
    simp only [Prod.mk.injEq, and_true] at h
    subst h
    rw [tm, hd] at hm
    simp only [if_true] at hm
    rw [if_neg (by decide), if_neg (by decide)] at hm
    by_cases h5 : 1 ≤ n ∧ n ≤ 1000000
    ·rw [if_pos h5] at hm
     cases ht : tm 7 (x.drop z) with
     | none => rw [ht] at hm; cases hm
     | some q =>
      rw [ht] at hm
      simp only [Option.some.injEq, List.length_cons] at hm
      obtain ⟨e1, e2, e3⟩ := dv_split hd
      obtain ⟨z1, _, _, _, _⟩ := dv_ok hd
      have hq : q = (x.drop z).length := by rw [List.length_drop]; omega
      have htk : tmOk (x.drop z) = true := by
       refine tmOk_of ?_ (by rw [List.length_drop]; simp at hl; omega)
       rw [← hq]; exact tm_mono 7 _ q ht
      unfold sealS
      rw [← hn, if_pos ⟨htk, by omega, by omega⟩, varI_nat n e2, ← e1]
      exact ⟨okT_ok hk, hk, htk⟩
    ·rw [if_neg h5] at hm; cases hm
   ·rw [if_neg hn] at h; cases h
  ·rw [if_neg hc] at h; cases h
 ·rw [if_neg hk] at h; cases h
theorem openSeal {k : Int} {t : List UInt8} (h : sealS k t ≠ []) : openS (sealS k t) k = (t, true) := by
 unfold sealS at h ⊢
 by_cases hc : tmOk t = true ∧ 1 ≤ k ∧ k ≤ 1000000
 ·rw [if_pos hc] at h ⊢
  obtain ⟨h1, h2⟩ := okT_ne h
  rw [h2]
  unfold openS
  rw [if_pos h1]
  simp only [if_true]
  rw [varI_dv ⟨by omega, by omega⟩ t]
  simp only
  rw [if_pos (by omega), List.drop_left' rfl]
 ·rw [if_neg hc] at h; exact absurd rfl h
theorem tm7 {k : Int} (hk : 0 ≤ k ∧ k ≤ 562949953421311) : tm 8 (107 :: varI k) = if 1 ≤ k.toNat ∧ k.toNat ≤ 1000000 then some (1 + (varI k).length) else none := by
 have hd := varI_dv hk []
 rw [List.append_nil] at hd
 show (match dv 7 (varI k) with | none => none | some (n, z) => _) = _
 rw [hd]
 rfl
theorem keyS_in {k : Int} (h : 1 ≤ k ∧ k ≤ 1000000) : keyS k = 107 :: varI k := by
 have e := tm7 (k := k) (by omega)
 rw [if_pos (by omega)] at e
 have l := varI_len k
 exact okT_ok (tmOk_of (by rw [e, List.length_cons, Nat.add_comm]) (by rw [List.length_cons]; omega))
theorem keyS_out {k : Int} (h : ¬ (1 ≤ k ∧ k ≤ 1000000)) : keyS k = [] := by
 refine Classical.byContradiction fun hn => ?_
 have h1 := (okT_ne hn).1
 by_cases hk : 0 ≤ k ∧ k ≤ 562949953421311
 ·have e := tm7 hk
  rw [if_neg (by omega)] at e
  unfold tmOk at h1
  rw [e] at h1
  cases h1
 ·have e : varI k = [] := if_neg hk
  rw [e] at h1
  exact absurd h1 (by decide +kernel)
theorem sKeyTerm (key : Int) : Ev (fun k => S_KeyTerm k key) (keyS key) := by
 simp only [S_KeyTerm, sIn, Option.bind_some]
 have := varI_len key
 refine Ev.ite (fun h => (Ev.pure _).to ?_) (fun h => Ev.bind (sVar key) ?_)
 ·rw [keyS_out (fun e => by unfold isIn at h; rw [decide_eq_true e] at h; cases h)]
 ·rw [decide_eq_true (by simp; omega), keyS_in (of_decide_eq_true (by simpa [isIn] using h : decide (1 ≤ key ∧ key ≤ 1000000) = true))]
  exact Ev.pure _
theorem sSeal (key : Int) (t : List UInt8) (ht : t.length ≤ 1000000) : Ev (fun k => S_Seal k key t) (sealS key t) := by
 simp only [S_Seal, sIn, Option.bind_some]
 unfold sealS
 refine Ev.ite (fun h2 => (Ev.pure _).to ?_) (fun h2 => Ev.bind (sTermOk t (by omega)) (Ev.ite (fun h => (Ev.pure _).to ?_) (fun h => ?_)))
 ·rw [if_neg (fun e => by unfold isIn at h2; rw [decide_eq_true e.2] at h2; cases h2)]
 ·rw [if_neg (fun e => by rw [e.1] at h; cases h)]
 ·rw [if_pos ⟨by simpa using h, of_decide_eq_true (by simpa [isIn] using h2 : decide (1 ≤ key ∧ key ≤ 1000000) = true)⟩]
  refine Ev.bind (sVar key) ?_
  have := varI_len key
  rw [decide_eq_true (by simp; omega), decide_eq_true (by simp; omega)]
  simp only [cond_true]
  refine Ev.bind (sOk _ (by simp; omega)) ((Ev.pure _).to ?_)
  simp
def pick2 {α β : Type} (f : α → α → β) (e : β) : List α → β
 | [a, b] => f a b
 | _ => e
def pick3 {α β : Type} (f : α → α → α → β) (e : β) : List α → β
 | [a, b, c] => f a b c
 | _ => e
theorem two {α : Type} {l : List α} (h : l.length = 2) : ∃ a b, l = [a, b] :=
 match l, h with
 | [a, b], _ => ⟨a, b, rfl⟩
theorem three {α : Type} {l : List α} (h : l.length = 3) : ∃ a b c, l = [a, b, c] :=
 match l, h with
 | [a, b, c], _ => ⟨a, b, c, rfl⟩
theorem notTwo {α β : Type} {f : α → α → β} {e : β} : ∀ {l : List α}, l.length ≠ 2 → pick2 f e l = e
 | [], _ => rfl
 | [_], _ => rfl
 | [_, _], h => absurd rfl h
 | _ :: _ :: _ :: _, _ => rfl
theorem notThree {α β : Type} {f : α → α → α → β} {e : β} : ∀ {l : List α}, l.length ≠ 3 → pick3 f e l = e
 | [], _ => rfl
 | [_], _ => rfl
 | [_, _], _ => rfl
 | [_, _, _], h => absurd rfl h
 | _ :: _ :: _ :: _ :: _, _ => rfl
theorem lenNe2 {α : Type} {l : List α} (h : l.length ≠ 2) : ((l.length : Int) != 2) = true := by simp; omega
theorem lenNe3 {α : Type} {l : List α} (h : l.length ≠ 3) : ((l.length : Int) != 3) = true := by simp; omega
def restOk (r : T_Rest) : Bool := isIn r.Servers 0 7 && (isIn r.Ops 0 255 && isIn r.End 0 100000)
theorem sRestOk (k : Nat) (r : T_Rest) : S_RestOk k r = some (restOk r) := by
 simp only [S_RestOk, sIn, Option.bind_some, restOk]
 cases isIn r.Servers 0 7 <;> cases isIn r.Ops 0 255 <;> rfl
theorem iRestOk (k : Nat) (r : T_Rest) : I_RestOk k r = some (restOk r) := by
 simp only [I_RestOk, I_isTime, iIn, Option.bind_some, restOk]
 cases isIn r.Servers 0 7 <;> cases isIn r.Ops 0 255 <;> rfl
def readRestS (s : List UInt8) : T_Rest × Bool := pick3 (fun a b c => if restOk ⟨a, b, c⟩ = true then (⟨a, b, c⟩, true) else (⟨0, 0, 0⟩, false)) (⟨0, 0, 0⟩, false) (readNumsS s).1
def showRestS (r : T_Rest) : List UInt8 := if restOk r = true then numsS [r.Servers, r.Ops, r.End] else []
theorem showRestS_len (r : T_Rest) : (showRestS r).length ≤ 900 := by
 unfold showRestS
 split
 ·exact numsS_len _
 ·simp
theorem iReadRest (s : List UInt8) (hs : s.length ≤ 1048576) : Ev (fun k => I_ReadRest k s) (readRestS s) := by
 simp only [I_ReadRest]
 refine Ev.bind (iReadNums s hs) ?_
 have fin : Ev (fun k => I_ReadRest.j2 k (readNumsS s).1 (((readNumsS s).1.length : Int) != (3 : Int))) (readRestS s) := by
  unfold readRestS
  simp only [I_ReadRest.j2]
  by_cases h3 : (readNumsS s).1.length = 3
  ·obtain ⟨a, b, c, h⟩ := three h3
   rw [h]
   simp only [pick3]
   refine Ev.ite (fun h => by cases h) (fun _ => ?_)
   refine Ev.at? (i := 0) (b := a) rfl (Ev.at? (i := 1) (b := b) rfl (Ev.at? (i := 2) (b := c) rfl ?_))
   simp only [iRestOk, Option.bind_some]
   refine Ev.ite (fun h => (Ev.pure _).to ?_) (fun h => (Ev.pure _).to ?_)
   ·exact (if_neg (fun e => by rw [e] at h; cases h)).symm
   ·exact (if_pos (by simpa using h)).symm
  ·rw [notThree h3, lenNe3 h3]
   exact Ev.pure _
 refine Ev.ite (fun h => ?_) (fun _ => fin)
 have hn := readNumsS_nil (s := s) (by simpa using h)
 simp only [I_ReadRest.j2, readRestS]
 rw [hn]
 exact Ev.pure _
theorem sReadRest (s : List UInt8) (hs : s.length ≤ 1048576) : Ev (fun k => S_ReadRest k s) (readRestS s) := by
 simp only [S_ReadRest]
 refine Ev.bind (sReadNums s hs) ?_
 have fin : Ev (fun k => S_ReadRest.j2 k (readNumsS s).1 (((readNumsS s).1.length : Int) != (3 : Int))) (readRestS s) := by
  unfold readRestS
  simp only [S_ReadRest.j2]
  by_cases h3 : (readNumsS s).1.length = 3
  ·obtain ⟨a, b, c, h⟩ := three h3
   rw [h]
   simp only [pick3]
   refine Ev.ite (fun h => by cases h) (fun _ => ?_)
   refine Ev.at? (i := 0) (b := a) rfl (Ev.at? (i := 1) (b := b) rfl (Ev.at? (i := 2) (b := c) rfl ?_))
   simp only [sRestOk, Option.bind_some]
   refine Ev.ite (fun h => (Ev.pure _).to ?_) (fun h => (Ev.pure _).to ?_)
   ·exact (if_neg (fun e => by rw [e] at h; cases h)).symm
   ·exact (if_pos (by simpa using h)).symm
  ·rw [notThree h3, lenNe3 h3]
   exact Ev.pure _
 refine Ev.ite (fun h => ?_) (fun _ => fin)
 have hn := readNumsS_nil (s := s) (by simpa using h)
 simp only [S_ReadRest.j2, readRestS]
 rw [hn]
 exact Ev.pure _
theorem iShowRest (r : T_Rest) : Ev (fun k => I_ShowRest k r) (showRestS r) := by
 simp only [I_ShowRest, iRestOk, Option.bind_some]
 unfold showRestS
 cases restOk r
 ·exact Ev.pure _
 ·exact Ev.bind (iNums _ (by simp)) (Ev.pure _)
theorem sShowRest (r : T_Rest) : Ev (fun k => S_ShowRest k r) (showRestS r) := by
 simp only [S_ShowRest, sRestOk, Option.bind_some]
 unfold showRestS
 cases restOk r
 ·exact Ev.pure _
 ·exact Ev.bind (sNums _ (by simp)) (Ev.pure _)
theorem rest_of {s : List UInt8} {r : T_Rest} (h : readRestS s = (r, true)) : showRestS r = s ∧ tmOk s = true := by
 unfold readRestS at h
 by_cases h3 : (readNumsS s).1.length = 3
 ·obtain ⟨a, b, c, e⟩ := three h3
  rw [e] at h
  simp only [pick3] at h
  split at h
  ·rename_i hr
   simp only [Prod.mk.injEq, and_true] at h
   subst h
   have h2 : (readNumsS s).2 = true := by
    cases h2 : (readNumsS s).2 with
    | true => rfl
    | false => rw [readNumsS_nil h2] at e; cases e
   have := nums_of (s := s) (l := [a, b, c]) (by rw [← e, ← h2])
   unfold showRestS
   rw [if_pos hr]; exact this
  ·cases h
 ·rw [notThree h3] at h; cases h
theorem readRest_of {r : T_Rest} (h : showRestS r ≠ []) : readRestS (showRestS r) = (r, true) := by
 unfold showRestS at h ⊢
 by_cases hr : restOk r = true
 ·rw [if_pos hr] at h ⊢
  unfold readRestS
  rw [readNums_of h]
  simp only [pick3]
  exact if_pos hr
 ·rw [if_neg hr] at h; exact absurd rfl h
def forOk (n : Int) : Bool := isIn n 0 2 || isIn n 10 12
theorem iFor (k : Nat) (n : Int) (w : -9223372036854775808 ≤ n ∧ n ≤ 9223372036854775807) : I_isFor k n = some (forOk n) := by
 simp only [I_isFor, I_isService, I_isRealm, iIn, Option.bind_some, forOk]
 have e : isIn (IntKind.i64.wrap (n - 10)) 0 2 = isIn n 10 12 := by
  unfold isIn
  by_cases h : -9223372036854775808 ≤ n - 10
  ·rw [wid h (by omega)]; exact decide_eq_decide.2 (by omega)
  ·rw [IntKind.wrap_i64]; exact decide_eq_decide.2 (by omega)
 rw [e]
 cases isIn n 0 2 <;> rfl
def grantOk (g : T_Grant) : Bool := isIn g.Key 1 1000000 && (forOk g.Service && (isIn g.Nonce 0 1000000 && restOk g.Rest))
theorem sGrantOk (k : Nat) (g : T_Grant) : S_l5GrantOk k g = some (grantOk g) := by
 have hs : S_l5Service k g.Service = some (forOk g.Service) := by
  simp only [S_l5Service, sIn, Option.bind_some, forOk]
  cases isIn g.Service 0 2 <;> rfl
 have hr : S_RestOk k ⟨g.Rest.Servers, g.Rest.Ops, g.Rest.End⟩ = some (restOk g.Rest) := sRestOk k _
 simp only [S_l5GrantOk, sIn, hs, hr, Option.bind_some, grantOk]
 cases isIn g.Key 1 1000000 <;> cases forOk g.Service <;> cases isIn g.Nonce 0 1000000 <;> rfl
theorem iGrantOk (k : Nat) (g : T_Grant) (w : -9223372036854775808 ≤ g.Service ∧ g.Service ≤ 9223372036854775807) : I_grantOk k g = some (grantOk g) := by
 have hr : I_RestOk k ⟨g.Rest.Servers, g.Rest.Ops, g.Rest.End⟩ = some (restOk g.Rest) := iRestOk k _
 simp only [I_grantOk, iKey, iIn, iFor k _ w, hr, Option.bind_some, grantOk]
 cases isIn g.Key 1 1000000 <;> cases forOk g.Service <;> cases isIn g.Nonce 0 1000000 <;> rfl
def showGrantS (g : T_Grant) (key : Int) : List UInt8 := if grantOk g = true then sealS key (listS [keyS g.Key, numsS [g.Service, g.Nonce], showRestS g.Rest]) else []
theorem iShowGrant (g : T_Grant) (key : Int) (w : -9223372036854775808 ≤ g.Service ∧ g.Service ≤ 9223372036854775807) : Ev (fun k => I_ShowGrant k g key) (showGrantS g key) := by
 simp only [I_ShowGrant, iGrantOk _ g w, Option.bind_some]
 unfold showGrantS
 cases grantOk g
 ·exact Ev.pure _
 ·simp only [Bool.not_true, cond_false, if_true]
  refine Ev.bind (iKeyTerm _) (Ev.bind (iNums _ (by simp)) (Ev.bind (iShowRest _) (Ev.bind (iList _ ?_ (by simp)) (Ev.bind (iSeal _ _ ?_) (Ev.pure _)))))
  ·intro p hp
   have h1 := keyS_len g.Key
   have h2 := numsS_len [g.Service, g.Nonce]
   have h3 := showRestS_len g.Rest
   simp only [List.mem_cons, List.not_mem_nil, or_false] at hp
   rcases hp with rfl | rfl | rfl
   ·omega
   ·omega
   ·exact Nat.le_trans h3 (by omega)
  ·have := listS_len [keyS g.Key, numsS [g.Service, g.Nonce], showRestS g.Rest]
   exact Nat.le_trans this (by omega)
abbrev zGrant : T_Grant := ⟨0, 0, 0, ⟨0, 0, 0⟩⟩
def readGrantS (s : List UInt8) (key : Int) : T_Grant × Bool :=
 pick3 (fun p0 p1 p2 => if (readKeyS p0).2 = true ∧ (readNumsS p1).2 = true ∧ (readRestS p2).2 = true then
  pick2 (fun a b => if grantOk ⟨(readKeyS p0).1, a, b, (readRestS p2).1⟩ = true then (⟨(readKeyS p0).1, a, b, (readRestS p2).1⟩, true) else (zGrant, false)) (zGrant, false) (readNumsS p1).1
  else (zGrant, false)) (zGrant, false) (partsS (openS s key).1).1
theorem sReadGrant (s : List UInt8) (hs : s.length ≤ 1048576) (key : Int) : Ev (fun k => S_ReadGrant k s key) (readGrantS s key) := by
 simp only [S_ReadGrant]
 have ho := openS_len s key
 refine Ev.bind (sOpen s hs key) (Ev.bind (sParts _ (by omega)) ?_)
 obtain ⟨_, pe⟩ := partsS_len (openS s key).1
 unfold readGrantS
 by_cases h3 : (partsS (openS s key).1).1.length = 3
 ·obtain ⟨p0, p1, p2, h⟩ := three h3
  rw [h] at pe ⊢
  simp only [pick3]
  have l0 := pe p0 (by simp); have l1 := pe p1 (by simp); have l2 := pe p2 (by simp)
  refine Ev.ite (fun h => by cases h) (fun _ => ?_)
  refine Ev.at? (i := 0) (b := p0) rfl (Ev.bind (sReadKey p0 (by omega)) (Ev.at? (i := 1) (b := p1) rfl (Ev.bind (sReadNums p1 (by omega)) (Ev.at? (i := 2) (b := p2) rfl (Ev.bind (sReadRest p2 (by omega)) ?_)))))
  refine Ev.ite (fun h => ?_) (fun h => Ev.ite (fun h2 => ?_) (fun h2 => Ev.ite (fun h3 => ?_) (fun h3 => ?_)))
  ·rw [if_neg (fun e => by rw [e.1] at h; cases h)]; simp only [S_ReadGrant.j2]; exact Ev.pure _
  ·rw [if_neg (fun e => by rw [e.2.1] at h2; cases h2)]; simp only [S_ReadGrant.j2]; exact Ev.pure _
  ·rw [if_neg (fun e => by rw [e.2.2] at h3; cases h3)]; simp only [S_ReadGrant.j2]; exact Ev.pure _
  ·rw [if_pos ⟨by simpa using h, by simpa using h2, by simpa using h3⟩]
   simp only [S_ReadGrant.j2]
   by_cases h2l : (readNumsS p1).1.length = 2
   ·obtain ⟨a, b, e⟩ := two h2l
    rw [e]
    simp only [pick2]
    refine Ev.ite (fun h => by cases h) (fun _ => ?_)
    refine Ev.at? (i := 0) (b := a) rfl (Ev.at? (i := 1) (b := b) rfl ?_)
    simp only [sGrantOk, Option.bind_some]
    refine Ev.ite (fun h => (Ev.pure _).to ?_) (fun h => (Ev.pure _).to ?_)
    ·exact (if_neg (fun e => by rw [e] at h; cases h)).symm
    ·exact (if_pos (by simpa using h)).symm
   ·rw [notTwo h2l, lenNe2 h2l]
    exact Ev.pure _
 ·rw [notThree h3, lenNe3 h3]
  exact Ev.pure _
theorem readNums_bnd {s : List UInt8} {n : Int} (h : n ∈ (readNumsS s).1) : 0 ≤ n ∧ n ≤ 562949953421311 := by
 unfold readNumsS at h
 split at h
 ·obtain ⟨p, _, rfl⟩ := List.mem_map.1 h
  simp only [readNumS]
  split
  ·simp only [rvP]
   split
   ·rename_i n z hd
    have := (dv_split hd).2.1
    simp only; omega
   ·simp
  ·simp
 ·cases h
def hasP (l : List T_Pair) (p : T_Pair) : Bool := l.any fun q => q.A == p.A && q.B == p.B
theorem partI {α : Type} {l : List α} {i : Nat} (h : i ≤ l.length) : part? l 0 (i : Int) = some (l.take i) := by
 unfold part?
 rw [if_pos (by omega)]; simp
theorem sHas (l : List T_Pair) (p : T_Pair) (hl : l.length ≤ 1048576) : Ev (fun k => S_l6Has k l p) (hasP l p) := by
 simp only [S_l6Has]
 refine Ev.for (xs := l) (L := fun k (_ : Unit) i => S_l6Has.l2 k l i p) (f := fun l _ => hasP l p) (fun _ => by simp only [S_l6Has.l2, ltD0, cond_false]; exact Ev.pure _) (fun i b _ hb hi h => ?_) ()
 simp only [S_l6Has.l2, ltD hi, cond_true, Bool.and_true]
 refine Ev.at? hb ?_
 simp only [hasP, List.any_cons]
 refine Ev.ite (fun hc => ?_) (fun hc => ?_)
 ·rw [hc]; exact Ev.pure _
 ·rw [hc, wid1 (by omega)]; exact h ()
theorem iHas (l : List T_Pair) (p : T_Pair) (hl : l.length ≤ 1048576) : Ev (fun k => V_Contains_Pair k l p) (hasP l p) := by
 simp only [V_Contains_Pair, V_Index_Pair]
 have : EvP (fun k => V_Index_Pair.l2 k l (l.length : Int) (0 : Int) p) (fun r => decide (r ≥ 0) = hasP l p) := by
  have := Ev.find (xs := l) (L := fun k i => V_Index_Pair.l2 k l (l.length : Int) i p) (p := fun b => (p.A == b.A) && (p.B == b.B)) (g := fun i => (i : Int)) (e := -1) (by simp only [V_Index_Pair.l2, ltD0, cond_false]; exact Ev.pure _) (fun i b r hb hi h1 h0 => by
   simp only [V_Index_Pair.l2, ltD hi, cond_true, Bool.and_true]
   refine Ev.at? hb (Ev.ite (fun hc => (Ev.pure _).to (h1 hc).symm) (fun hc => ?_))
   rw [wid1 (by omega)]; exact h0 hc)
  refine ⟨_, this, ?_⟩
  rcases firstOf_some (p := fun b : T_Pair => (p.A == b.A) && (p.B == b.B)) (g := fun i => (i : Int)) (e := (-1 : Int)) (i := 0) (xs := l) with ⟨j, b, h1, h2, h3⟩ | ⟨h1, h2⟩
  ·rw [h3, decide_eq_true (by omega)]
   symm
   unfold hasP
   rw [List.any_eq_true]
   refine ⟨b, List.mem_of_getElem? h1, ?_⟩
   simp only [Bool.and_eq_true, beq_iff_eq] at h2 ⊢
   exact ⟨h2.1.symm, h2.2.symm⟩
  ·rw [h2, decide_eq_false (by omega)]
   symm
   unfold hasP
   rw [List.any_eq_false]
   intro b hb
   have := h1 b hb
   simp only [Bool.and_eq_false_iff, beq_eq_false_iff_ne, ne_eq] at this
   simp only [Bool.and_eq_true, beq_iff_eq, not_and]
   intro e1 e2
   rcases this with h | h
   ·exact h e1.symm
   ·exact h e2.symm
 obtain ⟨r, h1, h2⟩ := this
 exact Ev.bind h1 ((Ev.pure _).to h2)
def isR (x : Int) : Bool := isIn x 0 2
def linkB (p : T_Pair) : Bool := isR p.A && (isR p.B && p.A != p.B)
def proxB (p : T_Pair) : Bool := isR p.A && isR p.B
def prF (is : T_Pair → Bool) : List T_Pair → List T_Pair → Bool
 | _, [] => true
 | seen, p :: r => is p && (!hasP seen p && prF is (seen ++ [p]) r)
def prOk (is : T_Pair → Bool) (l : List T_Pair) : Bool := decide (l.length ≤ 6) && prF is [] l
theorem isR_iff {x : Int} : isR x = true ↔ 0 ≤ x ∧ x ≤ 2 := by simp [isR, isIn]
theorem sPairs (l : List T_Pair) (u : Bool) (hl : l.length ≤ 1048576) : Ev (fun k => S_l6Pairs k l 3 u) (prOk (if u then linkB else proxB) l) := by
 simp only [S_l6Pairs]
 unfold prOk
 refine Ev.ite (fun hc => ?_) (fun hc => ?_)
 ·rw [decide_eq_false (by simp at hc; omega)]; exact Ev.pure _
 rw [decide_eq_true (by simp at hc; omega), Bool.true_and]
 have key : ∀ (g i : Nat), i + g = l.length → Ev (fun k => S_l6Pairs.l7 k l 3 u (i : Int)) (prF (if u then linkB else proxB) (l.take i) (l.drop i)) := by
  intro g
  induction g with
  | zero =>
   intro i hi
   have : i = l.length := by omega
   subst this
   refine Ev.succ ?_
   simp only [S_l6Pairs.l7, ltD0, cond_false, List.drop_length, prF]
   exact Ev.pure _
  | succ g ih =>
   intro i hi
   have hi2 : i < l.length := by omega
   obtain ⟨b, hb⟩ := atLt hi2
   have e : l.drop i = b :: l.drop (i + 1) := by
    obtain ⟨h1, h2⟩ := List.getElem?_eq_some_iff.1 hb
    rw [List.drop_eq_getElem_cons h1, h2]
   refine Ev.succ ?_
   simp only [S_l6Pairs.l7, S_l6Pairs.j8, ltD hi2, cond_true]
   rw [e]
   refine Ev.at? hb ?_
   simp only [prF]
   have hA : isR b.A = (!decide (b.A < 0) && !decide (b.A ≥ 3)) := by
    refine Bool.eq_iff_iff.2 ?_
    rw [isR_iff]; simp; omega
   have hB : isR b.B = (!decide (b.B < 0) && !decide (b.B ≥ 3)) := by
    refine Bool.eq_iff_iff.2 ?_
    rw [isR_iff]; simp; omega
   have hgo : Ev (fun k => (part? l 0 (i : Int)).bind fun b211 => (S_l6Has k b211 b).bind fun r212 => cond r212 (some false) (S_l6Pairs.l7 k l 3 u (IntKind.i64.wrap ((i : Int) + 1)))) (!hasP (l.take i) b && prF (if u then linkB else proxB) (l.take i ++ [b]) (l.drop (i + 1))) := by
    rw [partI (by omega)]
    simp only [Option.bind_some]
    refine Ev.bind (sHas _ _ (by rw [List.length_take]; omega)) (Ev.ite (fun hc => ?_) (fun hc => ?_))
    ·rw [hc]; exact Ev.pure _
    ·rw [hc, wid1 (by omega), ← take_succ_get hb]; exact ih (i + 1) (by omega)
   cases u with
   | true =>
    simp only [if_true, linkB, hA, hB] at hgo ⊢
    refine Ev.ite (fun hc => ?_) (fun hc => ?_)
    ·rw [hc]; exact Ev.pure _
    refine Ev.ite (fun hc2 => ?_) (fun hc2 => ?_)
    ·rw [hc, hc2]; exact Ev.pure _
    refine Ev.ite (fun hc3 => ?_) (fun hc3 => ?_)
    ·rw [hc, hc2, hc3]; exact Ev.pure _
    refine Ev.ite (fun hc4 => ?_) (fun hc4 => ?_)
    ·rw [hc, hc2, hc3, hc4]; exact Ev.pure _
    rw [hc, hc2, hc3, hc4]
    simp only [cond_true, Bool.not_false, Bool.true_and]
    refine Ev.ite (fun hc5 => ?_) (fun hc5 => ?_)
    ·rw [show (b.A != b.B) = false by simpa using hc5]; exact Ev.pure _
    ·rw [show (b.A != b.B) = true by simpa using hc5, Bool.true_and]; exact hgo
   | false =>
    simp only [Bool.false_eq_true, if_false, proxB, hA, hB] at hgo ⊢
    refine Ev.ite (fun hc => ?_) (fun hc => ?_)
    ·rw [hc]; exact Ev.pure _
    refine Ev.ite (fun hc2 => ?_) (fun hc2 => ?_)
    ·rw [hc, hc2]; exact Ev.pure _
    refine Ev.ite (fun hc3 => ?_) (fun hc3 => ?_)
    ·rw [hc, hc2, hc3]; exact Ev.pure _
    refine Ev.ite (fun hc4 => ?_) (fun hc4 => ?_)
    ·rw [hc, hc2, hc3, hc4]; exact Ev.pure _
    rw [hc, hc2, hc3, hc4]
    simp only [cond_false, Bool.not_false, Bool.true_and]
    exact hgo
 simpa using key l.length 0 (by omega)
theorem iPairs1 (l : List T_Pair) (hl : l.length ≤ 1048576) : Ev (fun k => I_arePairs__impl_ConfigOk_1 k l) (prOk linkB l) := by
 simp only [I_arePairs__impl_ConfigOk_1]
 unfold prOk
 rw [Bool.and_comm]
 have key : ∀ (g i : Nat), i + g = l.length → Ev (fun k => I_arePairs__impl_ConfigOk_1.l2 k l (l.length : Int) (i : Int)) (prF linkB (l.take i) (l.drop i) && decide (l.length ≤ 6)) := by
  intro g
  induction g with
  | zero =>
   intro i hi
   have : i = l.length := by omega
   subst this
   refine Ev.succ ?_
   simp only [I_arePairs__impl_ConfigOk_1.l2, ltD0, cond_false, List.drop_length, prF, Bool.true_and]
   refine (Ev.pure _).to (Bool.eq_iff_iff.2 ?_)
   simp; omega
  | succ g ih =>
   intro i hi
   have hi2 : i < l.length := by omega
   obtain ⟨b, hb⟩ := atLt hi2
   have e : l.drop i = b :: l.drop (i + 1) := by
    obtain ⟨h1, h2⟩ := List.getElem?_eq_some_iff.1 hb
    rw [List.drop_eq_getElem_cons h1, h2]
   refine Ev.succ ?_
   simp only [I_arePairs__impl_ConfigOk_1.l2, ltD hi2, cond_true]
   rw [e]
   refine Ev.at? hb ?_
   simp only [prF]
   have hb1 : Ev (fun k => I_ConfigOk_1 k b) (linkB b) := by
    simp only [I_ConfigOk_1, I_isRealm, iIn, Option.bind_some]
    unfold linkB isR
    refine Ev.ite (fun hc => ?_) (fun hc => ?_)
    ·rw [hc, Bool.true_and]
     refine Ev.ite (fun hc => ?_) (fun hc => ?_)
     ·rw [hc]; exact Ev.pure _
     ·rw [hc]; exact Ev.pure _
    ·rw [hc]; exact Ev.pure _
   refine Ev.bind hb1 (Ev.ite (fun hc => ?_) (fun hc => ?_))
   ·rw [show linkB b = false by simpa using hc]; exact Ev.pure _
   rw [show linkB b = true by simpa using hc, Bool.true_and, partI (by omega)]
   simp only [Option.bind_some]
   refine Ev.bind (iHas _ _ (by rw [List.length_take]; omega)) (Ev.ite (fun hc => ?_) (fun hc => ?_))
   ·rw [hc]; exact Ev.pure _
   ·rw [hc, wid1 (by omega), ← take_succ_get hb, Bool.not_false, Bool.true_and]; exact ih (i + 1) (by omega)
 simpa using key l.length 0 (by omega)
theorem iPairs2 (l : List T_Pair) (hl : l.length ≤ 1048576) : Ev (fun k => I_arePairs__impl_ConfigOk_2 k l) (prOk proxB l) := by
 simp only [I_arePairs__impl_ConfigOk_2]
 unfold prOk
 rw [Bool.and_comm]
 have key : ∀ (g i : Nat), i + g = l.length → Ev (fun k => I_arePairs__impl_ConfigOk_2.l2 k l (l.length : Int) (i : Int)) (prF proxB (l.take i) (l.drop i) && decide (l.length ≤ 6)) := by
  intro g
  induction g with
  | zero =>
   intro i hi
   have : i = l.length := by omega
   subst this
   refine Ev.succ ?_
   simp only [I_arePairs__impl_ConfigOk_2.l2, ltD0, cond_false, List.drop_length, prF, Bool.true_and]
   refine (Ev.pure _).to (Bool.eq_iff_iff.2 ?_)
   simp; omega
  | succ g ih =>
   intro i hi
   have hi2 : i < l.length := by omega
   obtain ⟨b, hb⟩ := atLt hi2
   have e : l.drop i = b :: l.drop (i + 1) := by
    obtain ⟨h1, h2⟩ := List.getElem?_eq_some_iff.1 hb
    rw [List.drop_eq_getElem_cons h1, h2]
   refine Ev.succ ?_
   simp only [I_arePairs__impl_ConfigOk_2.l2, ltD hi2, cond_true]
   rw [e]
   refine Ev.at? hb ?_
   simp only [prF]
   have hb1 : Ev (fun k => I_ConfigOk_2 k b) (proxB b) := by
    simp only [I_ConfigOk_2, I_isService, iIn, Option.bind_some]
    unfold proxB isR
    refine Ev.ite (fun hc => ?_) (fun hc => ?_)
    ·rw [hc, Bool.true_and]; exact Ev.pure _
    ·rw [hc]; exact Ev.pure _
   refine Ev.bind hb1 (Ev.ite (fun hc => ?_) (fun hc => ?_))
   ·rw [show proxB b = false by simpa using hc]; exact Ev.pure _
   rw [show proxB b = true by simpa using hc, Bool.true_and, partI (by omega)]
   simp only [Option.bind_some]
   refine Ev.bind (iHas _ _ (by rw [List.length_take]; omega)) (Ev.ite (fun hc => ?_) (fun hc => ?_))
   ·rw [hc]; exact Ev.pure _
   ·rw [hc, wid1 (by omega), ← take_succ_get hb, Bool.not_false, Bool.true_and]; exact ih (i + 1) (by omega)
 simpa using key l.length 0 (by omega)
def CfgSm (c : T_Config) : Prop := c.UserRealm.length ≤ 1048576 ∧ c.ServiceRealm.length ≤ 1048576 ∧ c.Links.length ≤ 1048576 ∧ c.Proxy.length ≤ 1048576
theorem sAll (l : List Int) (hl : l.length = 3) : Ev (fun k => S_l5All k l 3 3) (l.all isR) := by
 simp only [S_l5All]
 rw [decide_eq_false (by omega)]
 simp only [cond_false]
 refine Ev.for (xs := l) (L := fun k (_ : Unit) i => S_l5All.l2 k l 3 i) (f := fun l _ => l.all isR) (fun _ => by simp only [S_l5All.l2, ltD0, cond_false]; exact Ev.pure _) (fun i b _ hb hi h => ?_) ()
 simp only [S_l5All.l2, ltD hi, cond_true, List.all_cons]
 have hA : isR b = (!decide (b < 0) && !decide (b ≥ 3)) := by
  refine Bool.eq_iff_iff.2 ?_
  rw [isR_iff]; simp; omega
 rw [hA]
 refine Ev.at? hb (Ev.ite (fun hc => ?_) (fun hc => Ev.at? hb (Ev.ite (fun hc2 => ?_) (fun hc2 => ?_))))
 ·rw [hc]; exact Ev.pure _
 ·rw [hc, hc2]; exact Ev.pure _
 ·rw [hc, hc2, wid1 (by omega)]; exact h ()
theorem iAll (l : List Int) (hl : l.length = 3) : Ev (fun k => I_areAll__impl_isRealm k l 3) (l.all isR) := by
 simp only [I_areAll__impl_isRealm]
 refine Ev.for (xs := l) (L := fun k (_ : Unit) i => I_areAll__impl_isRealm.l2 k l 3 (l.length : Int) i) (f := fun l _ => l.all isR) (fun _ => by simp only [I_areAll__impl_isRealm.l2, ltD0, cond_false]; rw [decide_eq_true (by omega)]; exact Ev.pure _) (fun i b _ hb hi h => ?_) ()
 simp only [I_areAll__impl_isRealm.l2, ltD hi, cond_true, I_isRealm, iIn, Option.bind_some, List.all_cons]
 refine Ev.at? hb (Ev.ite (fun hc => ?_) (fun hc => ?_))
 ·rw [show isR b = false by simpa [isR] using hc]; exact Ev.pure _
 ·rw [show isR b = true by simpa [isR] using hc, wid1 (by omega)]; exact h ()
def cfgOk (c : T_Config) : Bool := decide (c.UserRealm.length = 3) && (c.UserRealm.all isR && (decide (c.ServiceRealm.length = 3) && (c.ServiceRealm.all isR && (prOk linkB c.Links && (prOk proxB c.Proxy && isIn c.Skew 0 20)))))
theorem beq3 (n : Nat) : (((n : Int) == 3) = decide (n = 3)) := by
 refine Bool.eq_iff_iff.2 ?_
 simp; omega
theorem sConfigOk {c : T_Config} (h : CfgSm c) : Ev (fun k => S_ConfigOk k c) (cfgOk c) := by
 obtain ⟨h1, h2, h3, h4⟩ := h
 simp only [S_ConfigOk, sIn, Option.bind_some, beq3]
 unfold cfgOk
 refine Ev.ite (fun hc => ?_) (fun hc => by rw [hc]; exact Ev.pure _)
 rw [hc, Bool.true_and]
 refine Ev.bind (sAll _ (of_decide_eq_true hc)) (Ev.ite (fun hc => ?_) (fun hc => by rw [hc]; exact Ev.pure _))
 rw [hc, Bool.true_and]
 refine Ev.ite (fun hc => ?_) (fun hc => by rw [hc]; exact Ev.pure _)
 rw [hc, Bool.true_and]
 refine Ev.bind (sAll _ (of_decide_eq_true hc)) (Ev.ite (fun hc => ?_) (fun hc => by rw [hc]; exact Ev.pure _))
 rw [hc, Bool.true_and]
 refine Ev.bind (sPairs _ true h3) (Ev.ite (fun hc => ?_) (fun hc => ?_))
 ·rw [show prOk linkB c.Links = true from hc, Bool.true_and]
  refine Ev.bind (sPairs _ false h4) (Ev.ite (fun hc => ?_) (fun hc => ?_))
  ·rw [show prOk proxB c.Proxy = true from hc, Bool.true_and]; exact Ev.pure _
  ·rw [show prOk proxB c.Proxy = false from hc]; exact Ev.pure _
 ·rw [show prOk linkB c.Links = false from hc]; exact Ev.pure _
theorem iConfigOk {c : T_Config} (h : CfgSm c) : Ev (fun k => I_ConfigOk k c) (cfgOk c) := by
 obtain ⟨h1, h2, h3, h4⟩ := h
 simp only [I_ConfigOk, iIn, Option.bind_some, beq3]
 refine Ev.bind (iPairs1 _ h3) (Ev.bind (iPairs2 _ h4) ?_)
 unfold cfgOk
 refine Ev.ite (fun ha => Ev.ite (fun hb => ?_) (fun hb => ?_)) (fun ha => ?_)
 ·rw [ha, hb, Bool.true_and, Bool.true_and]
  refine Ev.ite (fun hc => ?_) (fun hc => by rw [hc]; exact Ev.pure _)
  rw [hc, Bool.true_and]
  refine Ev.bind (iAll _ (of_decide_eq_true hc)) (Ev.ite (fun hc => ?_) (fun hc => by rw [hc]; exact Ev.pure _))
  rw [hc, Bool.true_and]
  refine Ev.ite (fun hc => ?_) (fun hc => by rw [hc]; exact Ev.pure _)
  rw [hc, Bool.true_and]
  refine Ev.bind (iAll _ (of_decide_eq_true hc)) (Ev.ite (fun hc => ?_) (fun hc => by rw [hc]; exact Ev.pure _))
  rw [hc, Bool.true_and]
  exact Ev.pure _
 ·rw [hb]; simp only [Bool.false_and, Bool.and_false]; exact Ev.pure _
 ·rw [ha]; simp only [Bool.false_and, Bool.and_false]; exact Ev.pure _
structure CfgV (c : T_Config) : Prop where
 ul : c.UserRealm.length = 3
 ur : ∀ x ∈ c.UserRealm, 0 ≤ x ∧ x ≤ 2
 sl : c.ServiceRealm.length = 3
 sr : ∀ x ∈ c.ServiceRealm, 0 ≤ x ∧ x ≤ 2
 ll : c.Links.length ≤ 6
 lk : ∀ p ∈ c.Links, (0 ≤ p.A ∧ p.A ≤ 2) ∧ (0 ≤ p.B ∧ p.B ≤ 2) ∧ p.A ≠ p.B
 pl : c.Proxy.length ≤ 6
 px : ∀ p ∈ c.Proxy, (0 ≤ p.A ∧ p.A ≤ 2) ∧ (0 ≤ p.B ∧ p.B ≤ 2)
 sk : 0 ≤ c.Skew ∧ c.Skew ≤ 20
theorem prF_all {is : T_Pair → Bool} : ∀ {l seen : List T_Pair}, prF is seen l = true → ∀ p ∈ l, is p = true
 | q :: l, seen, h, p, hp => by
  simp only [prF, Bool.and_eq_true] at h
  rcases List.mem_cons.1 hp with rfl | hp
  ·exact h.1
  ·exact prF_all h.2.2 p hp
theorem cfgV {c : T_Config} (h : cfgOk c = true) : CfgV c := by
 unfold cfgOk prOk at h
 simp only [Bool.and_eq_true, decide_eq_true_eq, List.all_eq_true] at h
 obtain ⟨h1, h2, h3, h4, ⟨h5, h6⟩, ⟨h7, h8⟩, h9⟩ := h
 refine ⟨h1, fun x hx => isR_iff.1 (h2 x hx), h3, fun x hx => isR_iff.1 (h4 x hx), h5, fun p hp => ?_, h7, fun p hp => ?_, by simpa [isIn] using h9⟩
 ·have := prF_all h6 p hp
  simp only [linkB, Bool.and_eq_true, bne_iff_ne, ne_eq] at this
  exact ⟨isR_iff.1 this.1, isR_iff.1 this.2.1, this.2.2⟩
 ·have := prF_all h8 p hp
  simp only [proxB, Bool.and_eq_true] at this
  exact ⟨isR_iff.1 this.1, isR_iff.1 this.2⟩
def prin (p : Int) : Bool := isIn p 0 5
theorem sPrin (k : Nat) (p : Int) : S_l5Principal k p = some (prin p) := by
 unfold S_l5Principal prin isIn
 simp only [Bool.cond_decide]
 split
 all_goals
  refine congrArg some (Bool.eq_iff_iff.mpr ?_)
  simp only [decide_eq_true_eq, Bool.false_eq_true, false_iff]
  omega
theorem sRealm (k : Nat) (p : Int) : S_l6Realm k p = some (isR p) := by
 unfold S_l6Realm isR isIn
 simp only [Bool.cond_decide]
 split
 all_goals
  refine congrArg some (Bool.eq_iff_iff.mpr ?_)
  simp only [decide_eq_true_eq, Bool.false_eq_true, false_iff]
  omega
def realmOf (c : T_Config) (p : Int) : Int := if cfgOk c = true ∧ prin p = true then (if p < 3 then c.UserRealm.getD p.toNat 0 else c.ServiceRealm.getD (p - 3).toNat 0) else -1
theorem atD {l : List Int} {i : Int} (h0 : 0 ≤ i) (h : i < l.length) : at? l i = some (l.getD i.toNat 0) := by
 obtain ⟨n, rfl⟩ : ∃ n : Nat, i = n := ⟨i.toNat, by omega⟩
 have hl : n < l.length := by omega
 rw [atN (List.getElem?_eq_getElem hl), Int.toNat_natCast, List.getD_eq_getElem?_getD, List.getElem?_eq_getElem hl]; rfl
theorem sRealmOf {c : T_Config} (h : CfgSm c) (p : Int) : Ev (fun k => S_RealmOf k c p) (realmOf c p) := by
 simp only [S_RealmOf, sPrin, Option.bind_some]
 refine Ev.bind (sConfigOk h) ?_
 unfold realmOf
 refine Ev.ite (fun hc => ?_) (fun hc => ?_)
 ·rw [if_neg (by simp at hc; simp [hc])]; exact Ev.pure _
 have hc : cfgOk c = true := by simpa using hc
 have hv := cfgV hc
 refine Ev.ite (fun hp => ?_) (fun hp => ?_)
 ·rw [if_neg (by simp at hp; simp [hp])]; exact Ev.pure _
 have hp : prin p = true := by simpa using hp
 have hp' : 0 ≤ p ∧ p ≤ 5 := by simpa [prin, isIn] using hp
 rw [if_pos ⟨hc, hp⟩]
 refine Ev.ite (fun h3 => ?_) (fun h3 => ?_)
 ·rw [if_pos (of_decide_eq_true h3), atD (by omega) (by rw [hv.ul]; have := of_decide_eq_true h3; omega)]; exact Ev.pure _
 ·have h3 : ¬ p < 3 := of_decide_eq_false h3
  rw [if_neg h3, wid (n := p - 3) (by omega) (by omega), atD (by omega) (by rw [hv.sl]; omega)]; exact Ev.pure _
theorem iRealmOf {c : T_Config} (h : CfgSm c) (p : Int) : Ev (fun k => I_RealmOf k c p) (realmOf c p) := by
 simp only [I_RealmOf, I_RealmOf.j2, I_isPrincipal, iIn, Option.bind_some]
 refine Ev.bind (iConfigOk h) ?_
 unfold realmOf
 refine Ev.ite (fun hc => ?_) (fun hc => ?_)
 ·rw [if_neg (by simp at hc; simp [hc])]; exact Ev.pure _
 have hc : cfgOk c = true := by simpa using hc
 have hv := cfgV hc
 refine Ev.ite (fun hp => ?_) (fun hp => ?_)
 ·rw [if_neg (by simp at hp; simp [prin, hp])]; exact Ev.pure _
 have hp : prin p = true := by simpa [prin] using hp
 have hp' : 0 ≤ p ∧ p ≤ 5 := by simpa [prin, isIn] using hp
 rw [if_pos ⟨hc, hp⟩]
 refine Ev.ite (fun h3 => ?_) (fun h3 => ?_)
 ·rw [if_pos (of_decide_eq_true h3), atD (by omega) (by rw [hv.ul]; have := of_decide_eq_true h3; omega)]; exact Ev.pure _
 ·have h3 : ¬ p < 3 := of_decide_eq_false h3
  rw [if_neg h3, wid (n := p - 3) (by omega) (by omega), atD (by omega) (by rw [hv.sl]; omega)]; exact Ev.pure _
/-- Which realm is linked to which, by six answers. -/
def gB (a b c d e f : Bool) (x y : Nat) : Bool := match x, y with
 | 0, 1 => a
 | 0, 2 => b
 | 1, 0 => c
 | 1, 2 => d
 | 2, 0 => e
 | 2, 1 => f
 | _, _ => false
/-- How far it is, at most three. -/
def dB (g : Nat → Nat → Bool) (t x : Nat) : Nat := if x = t then 0 else if g x t then 1 else if (g x 0 && g 0 t) || ((g x 1 && g 1 t) || (g x 2 && g 2 t)) then 2 else 3
def mn (g : Nat → Nat → Bool) (f : Nat → Nat) (x : Nat) : Nat := min 3 (min (if g x 0 then 1 + f 0 else 3) (min (if g x 1 then 1 + f 1 else 3) (if g x 2 then 1 + f 2 else 3)))
def fr (g : Nat → Nat → Bool) (t : Nat) : Nat → Nat → Nat
 | 0, x => if x = t then 0 else 3
 | m + 1, x => if x = t then 0 else mn g (fr g t m) x
def nhL (g : Nat → Nat → Bool) (t x : Nat) : Nat → Nat → Int → Nat → Int
 | 0, _, b, _ => b
 | n + 1, r, b, l => if g x r && decide (dB g t r < l) then nhL g t x n (r + 1) (r : Int) (dB g t r) else nhL g t x n (r + 1) b l
def nh (g : Nat → Nat → Bool) (t x : Nat) : Int := nhL g t x 3 0 (-1) 3
set_option maxRecDepth 20000 in
theorem fr_dB : ∀ (a b c d e f : Bool) (t x : Fin 3), fr (gB a b c d e f) t.1 3 x.1 = dB (gB a b c d e f) t.1 x.1 := by decide
set_option maxRecDepth 20000 in
theorem nh_dB : ∀ (a b c d e f : Bool) (t x : Fin 3), x ≠ t → nh (gB a b c d e f) t.1 x.1 = -1 ∨ (∃ r : Fin 3, nh (gB a b c d e f) t.1 x.1 = (r.1 : Int) ∧ dB (gB a b c d e f) t.1 r.1 < dB (gB a b c d e f) t.1 x.1) := by decide
set_option maxRecDepth 20000 in
theorem tri_dB : ∀ (a b c d e f : Bool) (t x y : Fin 3), gB a b c d e f x.1 y.1 = true → dB (gB a b c d e f) t.1 x.1 ≤ dB (gB a b c d e f) t.1 y.1 + 1 := by decide
set_option maxRecDepth 20000 in
theorem two_dB : ∀ (a b c d e f : Bool) (t x : Fin 3), dB (gB a b c d e f) t.1 x.1 = 3 ∨ dB (gB a b c d e f) t.1 x.1 = 0 ∧ x = t ∨ gB a b c d e f x.1 t.1 = true ∧ dB (gB a b c d e f) t.1 x.1 = 1 ∨ (∃ y : Fin 3, gB a b c d e f x.1 y.1 = true ∧ gB a b c d e f y.1 t.1 = true ∧ dB (gB a b c d e f) t.1 x.1 = 2) := by decide
def gl (c : T_Config) : Nat → Nat → Bool := gB (hasP c.Links ⟨0, 1⟩) (hasP c.Links ⟨0, 2⟩) (hasP c.Links ⟨1, 0⟩) (hasP c.Links ⟨1, 2⟩) (hasP c.Links ⟨2, 0⟩) (hasP c.Links ⟨2, 1⟩)
theorem hasP_iff {l : List T_Pair} {p : T_Pair} : hasP l p = true ↔ p ∈ l := by
 unfold hasP
 rw [List.any_eq_true]
 constructor
 ·rintro ⟨q, hq, h⟩
  simp only [Bool.and_eq_true, beq_iff_eq] at h
  cases q; cases p
  simp only at h
  rw [← h.1, ← h.2]; exact hq
 ·intro h; exact ⟨p, h, by simp⟩
theorem gl_has {c : T_Config} (hv : CfgV c) {x y : Nat} (hx : x < 3) (hy : y < 3) : gl c x y = hasP c.Links ⟨(x : Int), (y : Int)⟩ := by
 have hd : ∀ z : Int, hasP c.Links ⟨z, z⟩ = false := fun z => by
  rw [← Bool.not_eq_true]
  intro h
  exact (hv.lk _ (hasP_iff.1 h)).2.2 rfl
 obtain rfl | rfl | rfl : x = 0 ∨ x = 1 ∨ x = 2 := by omega
 all_goals obtain rfl | rfl | rfl : y = 0 ∨ y = 1 ∨ y = 2 := by omega
 all_goals first | rfl | (exact (hd _).symm)
/-- The least over the links from a realm. -/
def lnk (x : Int) (f : Int → Int) : List T_Pair → Int → Int
 | [], v => v
 | p :: l, v => lnk x f l (if p.A == x then (if 1 + f p.B < v then 1 + f p.B else v) else v)
theorem lnk_le {x : Int} {f : Int → Int} : ∀ {l : List T_Pair} {v : Int}, lnk x f l v ≤ v ∧ (∀ p ∈ l, p.A = x → lnk x f l v ≤ 1 + f p.B) ∧ (lnk x f l v = v ∨ ∃ p ∈ l, p.A = x ∧ lnk x f l v = 1 + f p.B)
 | [], v => ⟨Int.le_refl _, by simp, .inl rfl⟩
 | p :: l, v => by
  simp only [lnk]
  obtain ⟨h1, h2, h3⟩ := lnk_le (x := x) (f := f) (l := l) (v := if p.A == x then (if 1 + f p.B < v then 1 + f p.B else v) else v)
  generalize lnk x f l _ = r at h1 h2 h3 ⊢
  by_cases hp : p.A = x
  ·rw [if_pos (by simpa using hp)] at h1 h3
   refine ⟨by split at h1 <;> omega, fun q hq hx => ?_, ?_⟩
   ·rcases List.mem_cons.1 hq with rfl | hq
    ·split at h1 <;> omega
    ·exact h2 q hq hx
   ·rcases h3 with h3 | ⟨q, hq, h3⟩
    ·split at h3
     ·exact .inr ⟨p, List.mem_cons_self, hp, h3⟩
     ·exact .inl h3
    ·exact .inr ⟨q, List.mem_cons_of_mem _ hq, h3⟩
  ·rw [if_neg (by simpa using hp)] at h1 h3
   refine ⟨h1, fun q hq hx => ?_, ?_⟩
   ·rcases List.mem_cons.1 hq with rfl | hq
    ·exact absurd hx hp
    ·exact h2 q hq hx
   ·rcases h3 with h3 | ⟨q, hq, h3⟩
    ·exact .inl h3
    ·exact .inr ⟨q, List.mem_cons_of_mem _ hq, h3⟩
theorem lnk_mn {c : T_Config} (hv : CfgV c) {x : Nat} (hx : x < 3) {f : Nat → Nat} : lnk (x : Int) (fun b => (f b.toNat : Int)) c.Links 3 = (mn (gl c) f x : Int) := by
 obtain ⟨h1, h2, h3⟩ := lnk_le (x := (x : Int)) (f := fun b => (f b.toNat : Int)) (l := c.Links) (v := 3)
 have hb : ∀ b, b < 3 → gl c x b = true → lnk (x : Int) (fun b => (f b.toNat : Int)) c.Links 3 ≤ 1 + (f b : Int) := fun b hb hg => by
  rw [gl_has hv hx hb] at hg
  have := h2 _ (hasP_iff.1 hg) rfl
  simpa using this
 have hm : lnk (x : Int) (fun b => (f b.toNat : Int)) c.Links 3 = 3 ∨ ∃ b, b < 3 ∧ gl c x b = true ∧ lnk (x : Int) (fun b => (f b.toNat : Int)) c.Links 3 = 1 + (f b : Int) := by
  rcases h3 with h3 | ⟨p, hp, hA, h3⟩
  ·exact .inl h3
  ·have := hv.lk p hp
   refine .inr ⟨p.B.toNat, by omega, ?_, h3⟩
   rw [gl_has hv hx (by omega), hasP_iff]
   have e1 : ((x : Nat) : Int) = p.A := hA.symm
   have e2 : ((p.B.toNat : Nat) : Int) = p.B := by omega
   rw [e1, e2]; exact hp
 generalize lnk (x : Int) (fun b => (f b.toNat : Int)) c.Links 3 = r at h1 hb hm
 have b0 := hb 0 (by omega)
 have b1 := hb 1 (by omega)
 have b2 := hb 2 (by omega)
 unfold mn
 have hm' : r = 3 ∨ (gl c x 0 = true ∧ r = 1 + (f 0 : Int)) ∨ (gl c x 1 = true ∧ r = 1 + (f 1 : Int)) ∨ (gl c x 2 = true ∧ r = 1 + (f 2 : Int)) := by
  rcases hm with h | ⟨b, hb, hg, he⟩
  ·exact .inl h
  ·obtain rfl | rfl | rfl : b = 0 ∨ b = 1 ∨ b = 2 := by omega
   ·exact .inr (.inl ⟨hg, he⟩)
   ·exact .inr (.inr (.inl ⟨hg, he⟩))
   ·exact .inr (.inr (.inr ⟨hg, he⟩))
 clear hm hb h2 h3
 cases g0 : gl c x 0 <;> cases g1 : gl c x 1 <;> cases g2 : gl c x 2 <;> simp only [g0, g1, g2, if_true, Bool.false_eq_true, if_false, false_and, true_and, forall_const, false_or, or_false, true_implies, false_implies] at b0 b1 b2 hm' ⊢ <;> omega
theorem fr_le {g : Nat → Nat → Bool} {t : Nat} : ∀ (m x : Nat), fr g t m x ≤ 3
 | 0, x => by simp only [fr]; split <;> omega
 | m + 1, x => by simp only [fr, mn]; split <;> omega
theorem iFarL {c : T_Config} {x t m : Nat} {f : Nat → Nat} (hf : ∀ b, f b ≤ 3) (hm : 0 < m) (hm2 : m ≤ 10) (hl : c.Links.length ≤ 1048576) : ∀ (ps : List T_Pair) (i : Nat) (cl : Nat → T_Config → Int → Int → Int → Option Int) (v : Int), c.Links.drop i = ps → 0 ≤ v → v ≤ 3 → (∀ p ∈ ps, Ev (fun n => cl n c p.B (t : Int) ((m : Int) - 1)) (f p.B.toNat : Int)) →
  Ev (fun n => I_far.l17 (cl n) n (x : Int) (t : Int) (m : Int) v c (c.Links.length : Int) (i : Int)) (lnk (x : Int) (fun b => (f b.toNat : Int)) ps v) := by
 intro ps
 induction ps with
 | nil =>
  intro i cl v hd h0 h3 hcl
  have : c.Links.length ≤ i := by simpa using hd
  refine Ev.succ ?_
  simp only [I_far.l17]
  rw [decide_eq_false (by omega)]
  exact Ev.pure _
 | cons p ps ih =>
  intro i cl v hd h0 h3 hcl
  obtain ⟨q1, q2, q3⟩ := drop_at hd
  refine Ev.succ ?_
  simp only [I_far.l17, I_far.j20, I_far.j19, lnk]
  rw [decide_eq_true (by omega)]
  simp only [cond_true]
  have hcl' : ∀ p ∈ ps, Ev (fun n => cl (n + 1) c p.B (t : Int) ((m : Int) - 1)) (f p.B.toNat : Int) := fun p hp => (hcl p (List.mem_cons_of_mem _ hp)).shift
  refine Ev.at? q2 ?_
  rw [decide_eq_true (by omega), wid1 (by omega), wid (n := (m : Int) - 1) (by omega) (by omega)]
  simp only [cond_true, cond_false]
  have hfb := hf p.B.toNat
  refine Ev.ite (fun hc => ?_) (fun hc => ?_)
  ·rw [if_pos hc]
   refine Ev.bind (hcl p List.mem_cons_self).shift ?_
   rw [wid (n := 1 + (f p.B.toNat : Int)) (by omega) (by omega)]
   exact ih (i + 1) (fun n => cl (n + 1)) _ q3 (by split <;> omega) (by split <;> omega) hcl'
  ·rw [if_neg (by rw [hc]; simp)]
   exact ih (i + 1) (fun n => cl (n + 1)) _ q3 h0 h3 hcl'
theorem iFar0L {c : T_Config} {x t : Nat} (hl : c.Links.length ≤ 1048576) : ∀ (ps : List T_Pair) (i : Nat) (cl : Nat → T_Config → Int → Int → Int → Option Int), c.Links.drop i = ps →
  Ev (fun n => I_far.l17 (cl n) n (x : Int) (t : Int) 0 3 c (c.Links.length : Int) (i : Int)) 3 := by
 intro ps
 induction ps with
 | nil =>
  intro i cl hd
  have : c.Links.length ≤ i := by simpa using hd
  refine Ev.succ ?_
  simp only [I_far.l17]
  rw [decide_eq_false (by omega)]
  exact Ev.pure _
 | cons p ps ih =>
  intro i cl hd
  obtain ⟨q1, q2, q3⟩ := drop_at hd
  refine Ev.succ ?_
  simp only [I_far.l17, I_far.j20, I_far.j19]
  rw [decide_eq_true (by omega)]
  simp only [cond_true]
  refine Ev.at? q2 ?_
  rw [wid1 (by omega)]
  have e : decide ((0 : Int) > 0) = false := by decide
  rw [e]
  simp only [cond_false]
  exact Ev.ite (fun _ => ih (i + 1) (fun n => cl (n + 1)) q3) (fun _ => ih (i + 1) (fun n => cl (n + 1)) q3)
theorem iFar {c : T_Config} (hv : CfgV c) {t : Nat} (ht : t < 3) : ∀ (m x : Nat), m ≤ 10 → x < 3 → Ev (fun k => I_far k c (x : Int) (t : Int) (m : Int)) (fr (gl c) t m x : Int) := by
 have hl := hv.ll
 intro m
 induction m with
 | zero =>
  intro x _ hx
  refine Ev.succ ?_
  simp only [I_far, fr]
  refine Ev.ite (fun hc => ?_) (fun hc => ?_)
  ·rw [if_pos (by simp at hc; omega)]; exact Ev.pure _
  ·rw [if_neg (by simp at hc; omega)]
   exact iFar0L (by omega) c.Links 0 (fun k => I_far k) rfl
 | succ m ih =>
  intro x hm hx
  refine Ev.succ ?_
  simp only [I_far, fr]
  refine Ev.ite (fun hc => ?_) (fun hc => ?_)
  ·rw [if_pos (by simp at hc; omega)]; exact Ev.pure _
  ·rw [if_neg (by simp at hc; omega), ← lnk_mn hv hx]
   refine iFarL (m := m + 1) (fun b => fr_le m b) (by omega) hm (by omega) c.Links 0 (fun k => I_far k) 3 rfl (by omega) (by omega) (fun p hp => ?_)
   have hB := (hv.lk p hp).2.1
   have := ih p.B.toNat (by omega) (by omega)
   rw [show ((p.B.toNat : Nat) : Int) = p.B by omega] at this
   rw [show ((m + 1 : Nat) : Int) - 1 = (m : Int) by omega]
   exact this
def il (f : Nat → Nat) : List Int := [(f 0 : Int), (f 1 : Int), (f 2 : Int)]
def up (f : Nat → Nat) (a v : Nat) : Nat → Nat := fun x => if x = a then v else f x
theorem il_get {f : Nat → Nat} {x : Nat} (h : x < 3) : (il f)[x]? = some (f x : Int) := by
 obtain rfl | rfl | rfl : x = 0 ∨ x = 1 ∨ x = 2 := by omega
 all_goals rfl
theorem il_set {f : Nat → Nat} {a v : Nat} (h : a < 3) : (il f).set a (v : Int) = il (up f a v) := by
 obtain rfl | rfl | rfl : a = 0 ∨ a = 1 ∨ a = 2 := by omega
 all_goals rfl
def relax (f : Nat → Nat) (p : T_Pair) : Nat → Nat := if f p.B.toNat + 1 < f p.A.toNat then up f p.A.toNat (f p.B.toNat + 1) else f
def pass : List T_Pair → (Nat → Nat) → Nat → Nat
 | [], f => f
 | p :: l, f => pass l (relax f p)
theorem relax_le {f : Nat → Nat} {p : T_Pair} (x : Nat) : relax f p x ≤ f x := by
 unfold relax up
 split
 ·simp only; split
  ·rename_i h e; subst e; omega
  ·omega
 ·exact Nat.le_refl _
theorem relax_at {f : Nat → Nat} {p : T_Pair} : relax f p p.A.toNat ≤ f p.B.toNat + 1 := by
 unfold relax up
 split
 ·simp
 ·omega
theorem pass_le : ∀ {l : List T_Pair} {f : Nat → Nat} (x : Nat), pass l f x ≤ f x
 | [], f, x => Nat.le_refl _
 | p :: l, f, x => Nat.le_trans (pass_le (l := l) (f := relax f p) x) (relax_le x)
theorem pass_at : ∀ {l : List T_Pair} {f : Nat → Nat} {p : T_Pair}, p ∈ l → pass l f p.A.toNat ≤ f p.B.toNat + 1
 | q :: l, f, p, h => by
  simp only [pass]
  rcases List.mem_cons.1 h with rfl | h
  ·exact Nat.le_trans (pass_le _) relax_at
  ·exact Nat.le_trans (pass_at h) (by have := relax_le (f := f) (p := q) p.B.toNat; omega)
theorem pass_ge {d : Nat → Nat} : ∀ {l : List T_Pair} {f : Nat → Nat}, (∀ p ∈ l, d p.A.toNat ≤ d p.B.toNat + 1 ∧ p.B.toNat < 3) → (∀ x, x < 3 → d x ≤ f x) → ∀ x, x < 3 → d x ≤ pass l f x
 | [], f, _, h, x, hx => h x hx
 | p :: l, f, hl, h, x, hx => by
  simp only [pass]
  refine pass_ge (fun q hq => hl q (List.mem_cons_of_mem _ hq)) (fun y hy => ?_) x hx
  have hp := hl p List.mem_cons_self
  have h1 := h y hy
  have h2 := h p.B.toNat hp.2
  unfold relax up
  split
  ·simp only
   split
   ·rename_i e; subst e; omega
   ·exact h1
  ·exact h1
def FarP (c : T_Config) (t : Nat) (r : List Int) : Prop := ∀ x, x < 3 → r[x]? = some (dB (gl c) t x : Int)
theorem sFarIn {c : T_Config} (hv : CfgV c) {j : Nat} (hj : j < 3) {P : List Int → Prop} : ∀ (ps : List T_Pair) (i : Nat) (cl : Nat → List Int → Int → T_Config → Option (List Int)) (f : Nat → Nat), c.Links.drop i = ps → (∀ x, x < 3 → f x ≤ 3) →
  EvP (fun n => cl n (il (pass ps f)) ((j + 1 : Nat) : Int) c) P →
  EvP (fun n => S_l6Far.l51 (cl n) n (il f) (j : Int) (i : Int) c) P := by
 have hl := hv.ll
 intro ps
 induction ps with
 | nil =>
  intro i cl f hd hf h
  have : c.Links.length ≤ i := by simpa using hd
  refine EvP.succ ?_
  simp only [S_l6Far.l51]
  rw [decide_eq_false (by omega)]
  simp only [cond_false]
  rw [wid1 (by omega)]
  exact h.shift
 | cons p ps ih =>
  intro i cl f hd hf h
  obtain ⟨q1, q2, q3⟩ := drop_at hd
  have hp := hv.lk p (List.mem_of_getElem? q2)
  obtain ⟨a, ha⟩ : ∃ a : Nat, p.A = a := ⟨p.A.toNat, by omega⟩
  obtain ⟨b, hb⟩ : ∃ b : Nat, p.B = b := ⟨p.B.toNat, by omega⟩
  have ha3 : a < 3 := by omega
  have hb3 : b < 3 := by omega
  have fa := hf a ha3
  have fb := hf b hb3
  refine EvP.succ ?_
  simp only [S_l6Far.l51, S_l6Far.j52]
  rw [decide_eq_true (by omega)]
  simp only [cond_true]
  refine EvP.at? q2 ?_
  rw [hb]
  refine EvP.at? (il_get hb3) (EvP.at? q2 ?_)
  rw [ha]
  refine EvP.at? (il_get ha3) ?_
  rw [wid (n := (f b : Int) + 1) (by omega) (by omega), wid1 (by omega)]
  simp only [pass] at h
  have hfr : ∀ x, x < 3 → relax f p x ≤ 3 := fun x hx => Nat.le_trans (relax_le x) (hf x hx)
  refine EvP.ite (fun hc => ?_) (fun hc => ?_)
  ·have hc : f b + 1 < f a := by simp at hc; omega
   refine EvP.at? q2 (EvP.at? q2 ?_)
   rw [hb, ha]
   refine EvP.at? (il_get hb3) (EvP.at? (il_get ha3) ?_)
   rw [wid (n := (f b : Int) + 1) (by omega) (by omega), Int.toNat_natCast, show (f b : Int) + 1 = ((f b + 1 : Nat) : Int) by omega, il_set ha3]
   have e : relax f p = up f a (f b + 1) := by unfold relax; rw [ha, hb]; simp only [Int.toNat_natCast]; rw [if_pos hc]
   rw [e] at h hfr
   exact ih (i + 1) (fun n => cl (n + 1)) _ q3 hfr h.shift
  ·have hc : ¬ f b + 1 < f a := by simp at hc; omega
   have e : relax f p = f := by unfold relax; rw [ha, hb]; simp only [Int.toNat_natCast]; rw [if_neg hc]
   rw [e] at h hfr
   exact ih (i + 1) (fun n => cl (n + 1)) _ q3 hfr h.shift
theorem tri3 {c : T_Config} {t x y : Nat} (ht : t < 3) (hx : x < 3) (hy : y < 3) (h : gl c x y = true) : dB (gl c) t x ≤ dB (gl c) t y + 1 := tri_dB _ _ _ _ _ _ ⟨t, ht⟩ ⟨x, hx⟩ ⟨y, hy⟩ h
theorem sFarOut {c : T_Config} (hv : CfgV c) {t : Nat} (ht : t < 3) : ∀ (g j : Nat) (f : Nat → Nat), j + g = 3 → (∀ x, x < 3 → f x ≤ 3) → (∀ x, x < 3 → dB (gl c) t x ≤ f x) → f t = 0 → (1 ≤ j → ∀ x, x < 3 → gl c x t = true → f x ≤ 1) → (2 ≤ j → ∀ x y, x < 3 → y < 3 → gl c x y = true → gl c y t = true → f x ≤ 2) →
  EvP (fun n => S_l6Far.l44 n (il f) (j : Int) c) (FarP c t) := by
 have hmem : ∀ x y, x < 3 → y < 3 → gl c x y = true → (⟨(x : Int), (y : Int)⟩ : T_Pair) ∈ c.Links := fun x y hx hy h => by
  rw [gl_has hv hx hy] at h; exact hasP_iff.1 h
 intro g
 induction g with
 | zero =>
  intro j f hj h3 hd h0 h1 h2
  have : j = 3 := by omega
  subst this
  refine EvP.succ ?_
  simp only [S_l6Far.l44]
  rw [decide_eq_false (by omega)]
  refine EvP.pure fun x hx => ?_
  rw [il_get hx]
  congr 2
  have hge := hd x hx
  have hle := h3 x hx
  rcases two_dB (hasP c.Links ⟨0, 1⟩) (hasP c.Links ⟨0, 2⟩) (hasP c.Links ⟨1, 0⟩) (hasP c.Links ⟨1, 2⟩) (hasP c.Links ⟨2, 0⟩) (hasP c.Links ⟨2, 1⟩) ⟨t, ht⟩ ⟨x, hx⟩ with h | ⟨h, e⟩ | ⟨e, h⟩ | ⟨y, e1, e2, h⟩
  ·have h : dB (gl c) t x = 3 := h
   omega
  ·have h : dB (gl c) t x = 0 := h
   have e : x = t := congrArg Fin.val e
   subst e; omega
  ·have h : dB (gl c) t x = 1 := h
   have := h1 (by omega) x hx e
   omega
  ·have h : dB (gl c) t x = 2 := h
   have := h2 (by omega) x y.1 hx y.2 e1 e2
   omega
 | succ g ih =>
  intro j f hj h3 hd h0 h1 h2
  refine EvP.succ ?_
  simp only [S_l6Far.l44]
  rw [decide_eq_true (by omega)]
  simp only [cond_true]
  refine sFarIn hv (by omega) c.Links 0 (fun n => S_l6Far.l44 n) f rfl h3 ?_
  have hat : ∀ x y, x < 3 → y < 3 → gl c x y = true → pass c.Links f x ≤ f y + 1 := fun x y hx hy h => by
   have := pass_at (f := f) (hmem x y hx hy h)
   simpa using this
  refine ih (j + 1) (pass c.Links f) (by omega) (fun x hx => Nat.le_trans (pass_le x) (h3 x hx)) (pass_ge (fun p hp => ?_) hd) (by have := pass_le (l := c.Links) (f := f) t; omega) (fun _ x hx h => ?_) (fun hj2 x y hx hy e1 e2 => ?_)
  ·have := hv.lk p hp
   refine ⟨tri3 ht (by omega) (by omega) ?_, by omega⟩
   rw [gl_has hv (by omega) (by omega), hasP_iff, show ((p.A.toNat : Nat) : Int) = p.A by omega, show ((p.B.toNat : Nat) : Int) = p.B by omega]
   exact hp
  ·have := hat x t hx ht h; omega
  ·have := hat x y hx hy e1
   have := h1 (by omega) y hy e2
   omega
theorem sFar {c : T_Config} (hv : CfgV c) {t : Nat} (ht : t < 3) : EvP (fun k => S_l6Far k c (t : Int)) (FarP c t) := by
 simp only [S_l6Far]
 have key : ∀ (g j : Nat), j + g = 3 → EvP (fun k => S_l6Far.l2 k (t : Int) (List.replicate j 3) (j : Int) c) (FarP c t) := by
  intro g
  induction g with
  | zero =>
   intro j hj
   have : j = 3 := by omega
   subst this
   refine EvP.succ ?_
   simp only [S_l6Far.l2]
   rw [decide_eq_false (by omega)]
   simp only [cond_false]
   have e : List.replicate 3 (3 : Int) = il fun _ => 3 := rfl
   rw [e]
   refine EvP.at? (il_get ht) ?_
   rw [Int.toNat_natCast, show (0 : Int) = ((0 : Nat) : Int) from rfl, il_set ht]
   refine sFarOut hv ht 3 0 _ rfl (fun x hx => by unfold up; simp only; split <;> omega) (fun x hx => ?_) (by simp [up]) (by omega) (by omega)
   unfold up
   simp only
   split
   ·rename_i e; subst e; simp [dB]
   ·unfold dB; split
    ·omega
    ·split
     ·omega
     ·split <;> omega
  | succ g ih =>
   intro j hj
   refine EvP.succ ?_
   simp only [S_l6Far.l2]
   rw [decide_eq_true (by omega), decide_eq_true (by simp only [List.length_replicate, List.length_cons, List.length_nil]; omega)]
   simp only [cond_true]
   rw [wid1 (by omega), ← List.replicate_succ']
   exact ih (j + 1) (by omega)
 exact key 3 0 rfl
theorem dB_le {g : Nat → Nat → Bool} {t x : Nat} : dB g t x ≤ 3 := by
 unfold dB; split
 ·omega
 ·split
  ·omega
  ·split <;> omega
theorem sNextL {c : T_Config} (hv : CfgV c) {t x : Nat} (ht : t < 3) (hx : x < 3) {far : List Int} (hf : FarP c t far) : ∀ (n r : Nat) (b : Int) (l : Nat), r + n = 3 → ((b = -1 ∧ l = 3) ∨ ∃ q : Nat, q < 3 ∧ b = (q : Int) ∧ l = dB (gl c) t q ∧ l < 3) → Ev (fun k => S_NextHop.l17 k (x : Int) far b (r : Int) c) (nhL (gl c) t x n r b l) := by
 have hl := hv.ll
 intro n
 induction n with
 | zero =>
  intro r b l hr hb
  refine Ev.succ ?_
  simp only [S_NextHop.l17, nhL]
  rw [decide_eq_false (by omega)]
  exact Ev.pure _
 | succ n ih =>
  intro r b l hr hb
  refine Ev.succ ?_
  simp only [S_NextHop.l17, S_NextHop.j20, S_NextHop.j19, nhL]
  rw [decide_eq_true (by omega)]
  simp only [cond_true, cond_false]
  rw [wid1 (by omega)]
  refine Ev.bind (sHas c.Links ⟨(x : Int), (r : Int)⟩ (by omega)) ?_
  rw [← gl_has hv hx (by omega)]
  have hd := dB_le (g := gl c) (t := t) (x := r)
  refine Ev.ite (fun hc => ?_) (fun hc => ?_)
  ·rw [hc, Bool.true_and]
   refine Ev.at? (hf r (by omega)) ?_
   by_cases h3 : dB (gl c) t r < 3
   ·rw [decide_eq_true (p := (dB (gl c) t r : Int) < 3) (by omega)]
    simp only [cond_true]
    rcases hb with ⟨rfl, rfl⟩ | ⟨q, hq, rfl, hl2, hl3⟩
    ·rw [if_pos (by simpa using h3)]
     exact ih (r + 1) (r : Int) (dB (gl c) t r) (by omega) (.inr ⟨r, by omega, rfl, rfl, h3⟩)
    ·rw [decide_eq_false (by omega)]
     simp only [cond_false]
     refine Ev.at? (hf r (by omega)) (Ev.at? (hf q hq) (Ev.ite (fun hc2 => ?_) (fun hc2 => ?_)))
     ·rw [if_pos (by simp at hc2 ⊢; omega)]
      exact ih (r + 1) (r : Int) (dB (gl c) t r) (by omega) (.inr ⟨r, by omega, rfl, rfl, h3⟩)
     ·rw [if_neg (by simp at hc2 ⊢; omega)]
      exact ih (r + 1) (q : Int) l (by omega) (.inr ⟨q, hq, rfl, hl2, hl3⟩)
   ·rw [decide_eq_false (p := (dB (gl c) t r : Int) < 3) (by omega)]
    simp only [cond_false]
    rw [if_neg (by
     simp only [decide_eq_true_eq]
     rcases hb with ⟨_, rfl⟩ | ⟨q, _, _, _, h⟩ <;> omega)]
    exact ih (r + 1) b l (by omega) hb
  ·rw [hc, Bool.false_and, if_neg (by simp)]
   exact ih (r + 1) b l (by omega) hb
theorem iNextL {c : T_Config} (hv : CfgV c) {t x : Nat} (ht : t < 3) (hx : x < 3) : ∀ (n r : Nat) (b : Int) (l : Nat), r + n = 3 → Ev (fun k => I_NextHop.l17 k (x : Int) (t : Int) b (l : Int) (r : Int) c) (nhL (gl c) t x n r b l) := by
 have hl := hv.ll
 intro n
 induction n with
 | zero =>
  intro r b l hr
  refine Ev.succ ?_
  simp only [I_NextHop.l17, nhL]
  rw [decide_eq_false (by omega)]
  exact Ev.pure _
 | succ n ih =>
  intro r b l hr
  refine Ev.succ ?_
  simp only [I_NextHop.l17, I_NextHop.j20, I_NextHop.j19, nhL]
  rw [decide_eq_true (by omega)]
  simp only [cond_true, cond_false]
  rw [wid1 (by omega)]
  have h := iFar hv ht 3 r (by omega) (by omega)
  have e : fr (gl c) t 3 r = dB (gl c) t r := fr_dB _ _ _ _ _ _ ⟨t, ht⟩ ⟨r, by omega⟩
  rw [e] at h
  refine Ev.bind h (Ev.bind (iHas c.Links ⟨(x : Int), (r : Int)⟩ (by omega)) ?_)
  rw [← gl_has hv hx (by omega)]
  refine Ev.ite (fun hc => ?_) (fun hc => ?_)
  ·rw [hc, Bool.true_and]
   refine Ev.ite (fun hc2 => ?_) (fun hc2 => ?_)
   ·rw [if_pos (by simp at hc2 ⊢; omega)]; exact ih (r + 1) (r : Int) (dB (gl c) t r) (by omega)
   ·rw [if_neg (by simp at hc2 ⊢; omega)]; exact ih (r + 1) b l (by omega)
  ·rw [hc, Bool.false_and, if_neg (by simp)]
   exact ih (r + 1) b l (by omega)
/-- The realm that comes next on the way. -/
def nextHop (c : T_Config) (x t : Int) : Int := if cfgOk c = true ∧ isR x = true ∧ isR t = true ∧ x ≠ t then nh (gl c) t.toNat x.toNat else -1
theorem isR_nat {x : Int} (h : isR x = true) : ∃ n : Nat, x = n ∧ n < 3 := by
 have := isR_iff.1 h
 exact ⟨x.toNat, by omega, by omega⟩
theorem sNextHop {c : T_Config} (h : CfgSm c) (x t : Int) : Ev (fun k => S_NextHop k c x t) (nextHop c x t) := by
 simp only [S_NextHop, sRealm, Option.bind_some]
 refine Ev.bind (sConfigOk h) ?_
 unfold nextHop
 refine Ev.ite (fun hc => ?_) (fun hc => ?_)
 ·rw [if_neg (by simp at hc; simp [hc])]; exact Ev.pure _
 have hc : cfgOk c = true := by simpa using hc
 refine Ev.ite (fun hx => ?_) (fun hx => ?_)
 ·rw [if_neg (by simp at hx; simp [hx])]; exact Ev.pure _
 have hx : isR x = true := by simpa using hx
 refine Ev.ite (fun ht => ?_) (fun ht => ?_)
 ·rw [if_neg (by simp at ht; simp [ht])]; exact Ev.pure _
 have ht : isR t = true := by simpa using ht
 refine Ev.ite (fun he => ?_) (fun he => ?_)
 ·rw [if_neg (by simp at he; simp [he])]; exact Ev.pure _
 have he : x ≠ t := by simpa using he
 rw [if_pos ⟨hc, hx, ht, he⟩]
 obtain ⟨x, rfl, hx3⟩ := isR_nat hx
 obtain ⟨t, rfl, ht3⟩ := isR_nat ht
 obtain ⟨far, h1, h2⟩ := sFar (cfgV hc) ht3
 exact Ev.bind h1 (sNextL (cfgV hc) ht3 hx3 h2 3 0 (-1) 3 rfl (.inl ⟨rfl, rfl⟩))
theorem iNextHop {c : T_Config} (h : CfgSm c) (x t : Int) : Ev (fun k => I_NextHop k c x t) (nextHop c x t) := by
 simp only [I_NextHop, I_isRealm, iIn, Option.bind_some]
 refine Ev.bind (iConfigOk h) ?_
 unfold nextHop
 refine Ev.ite (fun hc => ?_) (fun hc => ?_)
 ·rw [if_neg (by simp at hc; simp [hc])]; exact Ev.pure _
 have hc : cfgOk c = true := by simpa using hc
 refine Ev.ite (fun hx => ?_) (fun hx => ?_)
 ·rw [if_neg (by simp at hx; simp [isR, hx])]; exact Ev.pure _
 have hx : isR x = true := by simpa [isR] using hx
 refine Ev.ite (fun ht => ?_) (fun ht => ?_)
 ·rw [if_neg (by simp at ht; simp [isR, ht])]; exact Ev.pure _
 have ht : isR t = true := by simpa [isR] using ht
 refine Ev.ite (fun he => ?_) (fun he => ?_)
 ·rw [if_neg (by simp at he; simp [he])]; exact Ev.pure _
 have he : x ≠ t := by simpa using he
 rw [if_pos ⟨hc, hx, ht, he⟩]
 obtain ⟨x, rfl, hx3⟩ := isR_nat hx
 obtain ⟨t, rfl, ht3⟩ := isR_nat ht
 exact iNextL (cfgV hc) ht3 hx3 3 0 (-1) 3 rfl
theorem nextHop_lt {c : T_Config} {x t : Int} (hc : cfgOk c = true) (hx : isR x = true) (ht : isR t = true) (he : x ≠ t) : nextHop c x t = -1 ∨ (isR (nextHop c x t) = true ∧ dB (gl c) t.toNat (nextHop c x t).toNat < dB (gl c) t.toNat x.toNat) := by
 unfold nextHop
 rw [if_pos ⟨hc, hx, ht, he⟩]
 obtain ⟨x, rfl, hx3⟩ := isR_nat hx
 obtain ⟨t, rfl, ht3⟩ := isR_nat ht
 simp only [Int.toNat_natCast]
 rcases nh_dB (hasP c.Links ⟨0, 1⟩) (hasP c.Links ⟨0, 2⟩) (hasP c.Links ⟨1, 0⟩) (hasP c.Links ⟨1, 2⟩) (hasP c.Links ⟨2, 0⟩) (hasP c.Links ⟨2, 1⟩) ⟨t, ht3⟩ ⟨x, hx3⟩ (fun h => he (by have := congrArg Fin.val h; simp only at this; omega)) with h | ⟨r, h1, h2⟩
 ·exact .inl h
 ·have h1 : nh (gl c) t x = (r.1 : Int) := h1
  rw [h1, Int.toNat_natCast]
  exact .inr ⟨isR_iff.2 (by have := r.2; omega), h2⟩
def pk (p : Int) : Int := if prin p = true then (if p < 3 then 1 + p else 8 + p) else 0
def ck (r : Int) : Int := if isR r = true then 21 + r else 0
def lk (a b : Int) : Int := if isR a = true ∧ isR b = true then 31 + 3 * a + b else 0
theorem prin_iff {p : Int} : prin p = true ↔ 0 ≤ p ∧ p ≤ 5 := by simp [prin, isIn]
theorem sPK (k : Nat) (p : Int) : S_PrincipalKey k p = some (pk p) := by
 simp only [S_PrincipalKey, sPrin, Option.bind_some]
 unfold pk
 by_cases h : prin p = true
 ·have := prin_iff.1 h
  rw [h, if_pos rfl]
  by_cases h3 : p < 3
  ·rw [decide_eq_true h3, if_pos h3, wid (by omega) (by omega)]; rfl
  ·rw [decide_eq_false h3, if_neg h3, wid (n := 11 + p) (by omega) (by omega), wid (n := 11 + p - 3) (by omega) (by omega)]
   simp only [Bool.not_true, cond_false]
   congr 1; omega
 ·rw [if_neg h, show prin p = false by simpa using h]; rfl
theorem iPK (k : Nat) (p : Int) : I_PrincipalKey k p = some (pk p) := by
 simp only [I_PrincipalKey, I_isPrincipal, iIn, Option.bind_some]
 unfold pk
 by_cases h : prin p = true
 ·have := prin_iff.1 h
  rw [if_pos h, show isIn p 0 5 = true from h]
  by_cases h3 : p < 3
  ·rw [show isIn p 0 2 = true by simp [isIn]; omega, if_pos h3, wid (by omega) (by omega)]; rfl
  ·rw [show isIn p 0 2 = false by simp [isIn]; omega, if_neg h3, wid (n := 11 + p) (by omega) (by omega), wid (n := 11 + p - 3) (by omega) (by omega)]
   simp only [cond_true, cond_false]
   congr 1; omega
 ·rw [if_neg h, show isIn p 0 5 = false by simpa [prin] using h, show isIn p 0 2 = false by rw [prin_iff] at h; simp [isIn]; omega]; rfl
theorem sCK (k : Nat) (r : Int) : S_CentreKey k r = some (ck r) := by
 simp only [S_CentreKey, sRealm, Option.bind_some]
 unfold ck
 by_cases h : isR r = true
 ·have := isR_iff.1 h
  rw [h, if_pos rfl, wid (by omega) (by omega)]; rfl
 ·rw [if_neg h, show isR r = false by simpa using h]; rfl
theorem iCK (k : Nat) (r : Int) : I_CentreKey k r = some (ck r) := by
 simp only [I_CentreKey, I_isRealm, iIn, Option.bind_some]
 unfold ck
 by_cases h : isR r = true
 ·have := isR_iff.1 h
  rw [if_pos h, show isIn r 0 2 = true from h, wid (by omega) (by omega)]; rfl
 ·rw [if_neg h, show isIn r 0 2 = false by simpa [isR] using h]; rfl
theorem lkE {a b : Int} (ha : isR a = true) (hb : isR b = true) : IntKind.i64.wrap (IntKind.i64.wrap (31 + IntKind.i64.wrap (3 * a)) + b) = 31 + 3 * a + b := by
 have := isR_iff.1 ha
 have := isR_iff.1 hb
 rw [wid (n := 3 * a) (by omega) (by omega), wid (n := 31 + 3 * a) (by omega) (by omega), wid (by omega) (by omega)]
theorem sLK (k : Nat) (a b : Int) : S_LinkKey k a b = some (lk a b) := by
 simp only [S_LinkKey, sRealm, Option.bind_some]
 unfold lk
 by_cases ha : isR a = true
 ·by_cases hb : isR b = true
  ·rw [if_pos ⟨ha, hb⟩, ha, hb, lkE ha hb]; rfl
  ·rw [if_neg fun h => hb h.2, ha, show isR b = false by simpa using hb]; rfl
 ·rw [if_neg fun h => ha h.1, show isR a = false by simpa using ha]; rfl
theorem iLK (k : Nat) (a b : Int) : I_LinkKey k a b = some (lk a b) := by
 simp only [I_LinkKey, I_isRealm, iIn, Option.bind_some]
 unfold lk
 by_cases ha : isR a = true
 ·by_cases hb : isR b = true
  ·rw [if_pos ⟨ha, hb⟩, show isIn a 0 2 = true from ha, show isIn b 0 2 = true from hb, lkE ha hb]; rfl
  ·rw [if_neg fun h => hb h.2, show isIn a 0 2 = true from ha, show isIn b 0 2 = false by simpa [isR] using hb]; rfl
 ·rw [if_neg fun h => ha h.1, show isIn a 0 2 = false by simpa [isR] using ha]; rfl
theorem Ev.andY {f g : Nat → Option Bool} {p q : Bool} (h : Ev f p) (h' : Ev g q) : Ev (fun k => (f k).bind fun r => cond r (g k) (some false)) (p && q) := by
 refine Ev.bind h ?_
 cases p with
 | true => simpa using h'
 | false => exact Ev.pure _
theorem Ev.andC {g : Nat → Option Bool} {c q : Bool} (h' : Ev g q) : Ev (fun k => cond c (some false) (g k)) (!c && q) := by
 cases c with
 | false => simpa using h'
 | true => exact Ev.pure _
theorem Ev.andC' {g : Nat → Option Bool} {c q : Bool} (h' : Ev g q) : Ev (fun k => cond (!c) (some false) (g k)) (c && q) := by
 cases c with
 | true => simpa using h'
 | false => exact Ev.pure _
theorem Ev.andD {g : Nat → Option Bool} {c q : Bool} (h' : Ev g q) : Ev (fun k => cond c (g k) (some false)) (c && q) := by
 cases c with
 | true => simpa using h'
 | false => exact Ev.pure _
theorem Ev.fin {f : Nat → Option Bool} {p : Bool} (h : Ev f p) : Ev (fun k => (f k).bind fun r => some r) p := Ev.bind h (Ev.pure _)
theorem Ev.allL {α : Type} {xs : List α} {L : Nat → Int → Option Bool} {p : α → Bool} {c : Bool} (h0 : Ev (fun k => L (k + 1) (xs.length : Int)) c)
  (hs : ∀ (i : Nat) (b : α) (r : Bool), xs[i]? = some b → i < xs.length → Ev (fun k => L k ((i + 1 : Nat) : Int)) r → Ev (fun k => L (k + 1) (i : Int)) (p b && r)) : Ev (fun k => L k 0) (xs.all p && c) :=
 Ev.for (xs := xs) (L := fun k (_ : Unit) i => L k i) (f := fun l _ => l.all p && c) (fun _ => by simpa using h0) (fun i b _ hb hi h => by
  rw [List.all_cons, Bool.and_assoc]
  exact hs i b _ hb hi (h ())) ()
theorem wPrin (k : Nat) (x : Int) : S_l5Principal k x = some (isIn x 0 5) := by
 unfold S_l5Principal isIn
 by_cases h : x ≥ 0
 ·rw [decide_eq_true h]; simp only [cond_true]
  congr 1
  exact decide_eq_decide.2 ⟨fun h' => ⟨h, by omega⟩, fun h' => by omega⟩
 ·rw [decide_eq_false h]; simp only [cond_false]
  rw [decide_eq_false (by omega)]
theorem iPrin (k : Nat) (x : Int) : I_isPrincipal k x = some (isIn x 0 5) := by simp only [I_isPrincipal, iIn, Option.bind_some]
theorem iNon (k : Nat) (x : Int) : I_isNonce k x = some (isIn x 0 1000000) := by simp only [I_isNonce, iIn, Option.bind_some]
theorem iKeyI (k : Nat) (x : Int) : I_isKey k x = some (isIn x 1 1000000) := by simp only [I_isKey, iIn, Option.bind_some]
theorem iSvc (k : Nat) (x : Int) : I_isService k x = some (isIn x 0 2) := by simp only [I_isService, iIn, Option.bind_some]
theorem iRlm (k : Nat) (x : Int) : I_isRealm k x = some (isIn x 0 2) := by simp only [I_isRealm, iIn, Option.bind_some]
theorem iTim (k : Nat) (x : Int) : I_isTime k x = some (isIn x 0 100000) := by simp only [I_isTime, iIn, Option.bind_some]
def forB (x : Int) : Bool := isIn x 0 2 || isIn x 10 12
theorem condOr {a b : Bool} : (cond a (some true) (some b)) = some (a || b) := by cases a <;> rfl
theorem sFor (k : Nat) (x : Int) : S_l5Service k x = some (forB x) := by simp only [S_l5Service, sIn, Option.bind_some, condOr, forB]
def i64 (x : Int) : Prop := -9223372036854775808 ≤ x ∧ x ≤ 9223372036854775807
theorem wkFor (k : Nat) {x : Int} (h : i64 x) : I_isFor k x = some (forB x) := by
 simp only [I_isFor, iSvc, iRlm, Option.bind_some, condOr, forB]
 congr 1
 unfold i64 at h
 have : isIn (IntKind.i64.wrap (x - 10)) 0 2 = isIn x 10 12 := by
  by_cases h2 : x - 10 < -9223372036854775808
  ·have e : IntKind.i64.wrap (x - 10) = x - 10 + 18446744073709551616 := by
    unfold IntKind.wrap
    simp [IntKind.signed, IntKind.bits]
    omega
   rw [e]; unfold isIn
   rw [decide_eq_false (by omega), decide_eq_false (by omega)]
  ·rw [wid (by omega) (by omega)]; unfold isIn
   exact decide_eq_decide.2 (by omega)
 rw [this]
theorem condF' {a b : Bool} : cond a (some b) (some false) = some (a && b) := by cases a <;> rfl
def authB (x : T_Auth) : Bool := isIn x.Client 0 5 && (isIn x.Time 0 100000 && isIn x.Seq 0 1000000)
theorem sAuth (k : Nat) (x : T_Auth) : S_l5AuthOk k x = some (authB x) := by simp only [S_l5AuthOk, sIn, wPrin, Option.bind_some, condF', authB]
theorem iAuth (k : Nat) (x : T_Auth) : I_authOk k x = some (authB x) := by simp only [I_authOk, iIn, iPrin, iTim, Option.bind_some, condF', authB]
def allB (l : List Int) (m : Nat) : Bool := l.all (fun x => isIn x 0 2) && decide (l.length ≤ m)
theorem sAll3 {l : List Int} (m : Nat) (hl : l.length ≤ 1048576) : Ev (fun k => S_l5All k l (m : Int) 3) (allB l m) := by
 simp only [S_l5All]
 refine (Ev.andC (Ev.allL (xs := l) (L := fun k i => S_l5All.l2 k l 3 i) (p := fun x => isIn x 0 2) (c := true) (by simp only [S_l5All.l2, ltD0, cond_false]; exact Ev.pure _) (fun i b r hb hi hr => ?_))).to ?_
 ·simp only [S_l5All.l2, ltD hi, cond_true]
  rw [wid1 (by omega)]
  refine (Ev.at? hb (Ev.andC (Ev.at? hb (Ev.andC hr)))).to ?_
  rw [← Bool.and_assoc]
  congr 1
  rw [← decide_not, ← decide_not, ← Bool.decide_and]
  exact decide_eq_decide.2 (by omega)
 ·unfold allB
  have e : (!decide ((l.length : Int) > (m : Int))) = decide (l.length ≤ m) := by rw [← decide_not]; exact decide_eq_decide.2 (by omega)
  rw [e, Bool.and_true, Bool.and_comm]
theorem iAllR {l : List Int} (m : Nat) (hl : l.length ≤ 1048576) : Ev (fun k => I_areAll__impl_isRealm k l (m : Int)) (allB l m) := by
 simp only [I_areAll__impl_isRealm, allB]
 refine Ev.allL (xs := l) (L := fun k i => I_areAll__impl_isRealm.l2 k l (m : Int) (l.length : Int) i) (by
  simp only [I_areAll__impl_isRealm.l2, ltD0, cond_false]
  refine (Ev.pure _).to (decide_eq_decide.2 (by omega))) (fun i b r hb hi hr => ?_)
 simp only [I_areAll__impl_isRealm.l2, ltD hi, cond_true, iRlm, Option.bind_some]
 rw [wid1 (by omega)]
 exact Ev.at? hb (Ev.andC' hr)
theorem iAllS {l : List Int} (m : Nat) (hl : l.length ≤ 1048576) : Ev (fun k => I_areAll__impl_isService k l (m : Int)) (allB l m) := by
 simp only [I_areAll__impl_isService, allB]
 refine Ev.allL (xs := l) (L := fun k i => I_areAll__impl_isService.l2 k l (m : Int) (l.length : Int) i) (by
  simp only [I_areAll__impl_isService.l2, ltD0, cond_false]
  refine (Ev.pure _).to (decide_eq_decide.2 (by omega))) (fun i b r hb hi hr => ?_)
 simp only [I_areAll__impl_isService.l2, ltD hi, cond_true, iSvc, Option.bind_some]
 rw [wid1 (by omega)]
 exact Ev.at? hb (Ev.andC' hr)
theorem and255 (x : Int) : 0 ≤ Go.bits .and .i64 x 255 ∧ Go.bits .and .i64 x 255 ≤ 255 := by
 have h : (BitVec.ofInt 64 x &&& BitVec.ofInt 64 255).toNat ≤ 255 := by
  rw [BitVec.toNat_and]; exact Nat.and_le_right
 show 0 ≤ IntKind.i64.wrap ((BitVec.ofInt 64 x &&& BitVec.ofInt 64 255).toNat : Int) ∧ IntKind.i64.wrap ((BitVec.ofInt 64 x &&& BitVec.ofInt 64 255).toNat : Int) ≤ 255
 rw [wid (by omega) (by omega)]; omega
/-- A cursor stands within its text. -/
def Good (c : U_l1Cur) : Prop := 0 ≤ c.i ∧ c.b.length ≤ 1048576
theorem byteE (c : U_l1Cur) (h : Good c) : EvP (fun k => S_l1Byte k c) (fun r => 0 ≤ r.1 ∧ r.1 ≤ 255 ∧ Good r.2) := by
 obtain ⟨b, i, hh⟩ := c
 obtain ⟨h1, h2⟩ := h
 simp only at h1 h2
 simp only [S_l1Byte]
 refine EvP.ite (fun hl => ?_) (fun _ => EvP.pure ⟨(and255 _).1, (and255 _).2, h1, h2⟩)
 have hl := of_decide_eq_true hl
 obtain ⟨n, rfl⟩ : ∃ n : Nat, i = n := ⟨i.toNat, by omega⟩
 obtain ⟨x, hx⟩ := atLt (xs := b) (i := n) (by omega)
 refine EvP.at? hx (EvP.pure ⟨(and255 _).1, (and255 _).2, ?_, h2⟩)
 show 0 ≤ IntKind.i64.wrap ((n : Int) + 1)
 rw [wid1 (by omega)]; omega
theorem tmodIn {v n : Int} (h : 0 ≤ v) (hn : 0 < n) : 0 ≤ Int.tmod v n ∧ Int.tmod v n < n := ⟨Int.tmod_nonneg n h, Int.tmod_lt_of_pos v hn⟩
theorem belowE (n : Int) (c : U_l1Cur) (hn : 0 < n) (h : Good c) : EvP (fun k => S_l1Below k n c) (fun r => 0 ≤ r.1 ∧ r.1 < n ∧ Good r.2) := by
 simp only [S_l1Below]
 rw [decide_eq_false (p := n ≤ 0) (by omega)]
 have hz : (!(n == 0)) = true := by simp; omega
 simp only [cond_false, hz, cond_true]
 refine EvP.ite (fun _ => ?_) (fun _ => ?_)
 ·exact (byteE c h).bind fun r hr => EvP.pure ⟨(tmodIn hr.1 hn).1, (tmodIn hr.1 hn).2, hr.2.2⟩
 ·refine (byteE c h).bind fun r1 h1 => (byteE r1.2 h1.2.2).bind fun r2 h2 => (byteE r2.2 h2.2.2).bind fun r3 h3 => (byteE r3.2 h3.2.2).bind fun r4 h4 => EvP.pure ?_
  have a1 := h1.1; have b1 := h1.2.1; have a2 := h2.1; have b2 := h2.2.1; have a3 := h3.1; have b3 := h3.2.1; have a4 := h4.1; have b4 := h4.2.1
  generalize r1.1 = v1 at *; generalize r2.1 = v2 at *; generalize r3.1 = v3 at *; generalize r4.1 = v4 at *
  have hs : 0 ≤ IntKind.i64.wrap ((IntKind.i64.wrap ((IntKind.i64.wrap ((IntKind.i64.wrap (v1 * (16777216 : Int))) + (IntKind.i64.wrap (v2 * (65536 : Int))))) + (IntKind.i64.wrap (v3 * (256 : Int))))) + v4) := by
   rw [wid (n := v1 * 16777216) (by omega) (by omega), wid (n := v2 * 65536) (by omega) (by omega), wid (n := v3 * 256) (by omega) (by omega)]
   rw [wid (n := v1 * 16777216 + v2 * 65536) (by omega) (by omega), wid (n := v1 * 16777216 + v2 * 65536 + v3 * 256) (by omega) (by omega), wid (by omega) (by omega)]
   omega
  exact ⟨(tmodIn hs hn).1, (tmodIn hs hn).2, h4.2.2⟩
theorem onceE (n : Int) (c : U_l1Cur) (hn : 0 < n) (h : Good c) : EvP (fun k => S_l1Once k n c) (fun r => Good r.2) := by
 simp only [S_l1Once]
 exact (belowE n c hn h).bind fun r hr => EvP.pure hr.2.2
theorem newE (a : List UInt8) (ha : a.length ≤ 1048576) : EvP (fun k => S_l1New k a) Good := by
 simp only [S_l1New]
 have go : ∀ m (i : Nat) (h : Int), i + m = 4000 → EvP (fun k => S_l1New.l3 k a h (i : Int)) Good := by
  intro m
  induction m with
  | zero =>
   intro i h hi
   refine EvP.succ ?_
   simp only [S_l1New.l3, S_l1New.j2]
   rw [decide_eq_false (p := (i : Int) < 4000) (by omega)]
   refine EvP.ite (fun _ => EvP.pure ⟨by simp, ha⟩) (fun _ => EvP.pure ⟨by simp, ha⟩)
  | succ m ih =>
   intro i h hi
   refine EvP.succ ?_
   simp only [S_l1New.l3, S_l1New.j2]
   refine EvP.ite (fun hl => ?_) (fun _ => EvP.pure ⟨by simp, ha⟩)
   have hl := of_decide_eq_true hl
   obtain ⟨x, hx⟩ := atLt (xs := a) (i := i) (by omega)
   rw [decide_eq_true (p := (i : Int) < 4000) (by omega), wid1 (by omega)]
   exact EvP.at? hx (ih (i + 1) _ (by omega))
 exact go 4000 0 _ (by omega)
theorem pickE (l : List Int) (c : U_l1Cur) (hn : 0 < l.length) (h : Good c) : EvP (fun k => S_l1PickInt k l c) (fun r => r.1 ∈ l ∧ Good r.2) := by
 simp only [S_l1PickInt]
 refine (belowE (l.length : Int) c (by omega) h).bind fun r hr => ?_
 obtain ⟨n, hn'⟩ : ∃ n : Nat, r.1 = n := ⟨r.1.toNat, by have := hr.1; omega⟩
 have := hr.2.1
 obtain ⟨x, hx⟩ := atLt (xs := l) (i := n) (by omega)
 rw [hn']
 exact EvP.at? hx (EvP.pure ⟨List.mem_of_getElem? hx, hr.2.2⟩)
theorem bigE (k : Nat) (a : List UInt8) : W_big k a = some (decide (1048576 < a.length)) := by
 unfold W_big
 congr 1
 exact decide_eq_decide.2 (by omega)
theorem textE (n : Int) (c : U_l1Cur) (hn : 0 ≤ n) (hn2 : n ≤ 1048576) (h : Good c) : EvP (fun k => S_l1Text k n c) (fun r => r.1.length ≤ n.toNat ∧ Good r.2) := by
 have go : ∀ (m : Nat) (out : List UInt8) (q : Int) (c : U_l1Cur), out.length + m ≤ 2097152 → Good c → EvP (fun k => S_l1Text.l22 k out q (m : Int) c.b c.i c.h) (fun r => r.1.length = out.length + m ∧ Good r.2) := by
  intro m
  induction m with
  | zero =>
   intro out q c ho hc
   refine EvP.succ ?_
   simp only [S_l1Text.l22]
   exact EvP.pure ⟨rfl, hc⟩
  | succ m ih =>
   intro out q c ho hc
   refine EvP.succ ?_
   have key : ∀ (z : Int) (c' : U_l1Cur), Good c' → EvP (fun k => S_l1Text.j26 (S_l1Text.l22 k) k out q ((m + 1 : Nat) : Int) z c'.b c'.i c'.h) (fun r => r.1.length = out.length + (m + 1) ∧ Good r.2) := by
    intro z c' g
    simp only [S_l1Text.j26]
    rw [decide_eq_true (by simp; omega), wid (by omega) (by omega), show ((m + 1 : Nat) : Int) - 1 = (m : Int) by omega]
    exact (ih (out ++ [ofI z]) q c' (by simp; omega) g).mono fun r hr => ⟨by rw [hr.1]; simp; omega, hr.2⟩
   simp only [S_l1Text.l22, S_l1Text.j25]
   rw [decide_eq_true (by omega), show (⟨c.b, c.i, c.h⟩ : U_l1Cur) = c from rfl]
   simp only [cond_true]
   refine (byteE c hc).bind fun r hr => ?_
   refine EvP.ite (fun _ => EvP.ite (fun _ => key _ r.2 hr.2.2) (fun _ => key _ r.2 hr.2.2)) (fun _ => EvP.ite (fun _ => key _ r.2 hr.2.2) (fun _ => key _ r.2 hr.2.2))
 simp only [S_l1Text]
 rw [wid (n := n + 1) (by omega) (by omega)]
 refine (belowE 4 c (by omega) h).bind fun r1 h1 => (belowE (n + 1) r1.2 (by omega) h1.2.2).bind fun r2 h2 => ?_
 obtain ⟨m, hm⟩ : ∃ m : Nat, r2.1 = m := ⟨r2.1.toNat, by have := h2.1; omega⟩
 have := h2.2.1
 rw [hm]
 exact (go m [] r1.1 r2.2 (by simp; omega) h2.2.2).mono fun r hr => ⟨by rw [hr.1]; simp; omega, hr.2⟩
theorem cutT {l : List UInt8} {a b : Int} (ha : 0 ≤ a) (hab : a ≤ b) (hb : b ≤ l.length) : ∃ v, cut? l a b = some v ∧ v.length = (b - a).toNat := by
 refine ⟨_, if_pos ⟨ha, hab, hb⟩, ?_⟩
 simp; omega
theorem spoilE (a : List UInt8) (c : U_l1Cur) (ha : a.length ≤ 1048573) (h : Good c) : EvP (fun k => S_l1Spoil k a c) (fun r => r.1.length ≤ a.length + 3 ∧ Good r.2) := by
 simp only [S_l1Spoil]
 refine EvP.ite (fun _ => ?_) (fun h0 => ?_)
 ·exact (textE 3 c (by omega) (by omega) h).bind fun r hr => EvP.pure ⟨by have := hr.1; simp only; omega, hr.2⟩
 ·have h0 : (a.length : Int) ≠ 0 := fun e => by rw [e] at h0; cases h0
  refine (belowE (a.length : Int) c (by omega) h).bind fun r1 h1 => (belowE 4 r1.2 (by omega) h1.2.2).bind fun r2 h2 => ?_
  obtain ⟨i1, i2, _⟩ := h1
  obtain ⟨p, hp, lp⟩ := cutT (l := a) (a := 0) (b := r1.1) (by omega) (by omega) (by omega)
  obtain ⟨q, hq, lq⟩ := cutT (l := a) (a := r1.1 + 1) (b := (a.length : Int)) (by omega) (by omega) (by omega)
  obtain ⟨r, hr, lr⟩ := cutT (l := a) (a := r1.1) (b := (a.length : Int)) (by omega) (by omega) (by omega)
  obtain ⟨n, hn⟩ : ∃ n : Nat, r1.1 = n := ⟨r1.1.toNat, by omega⟩
  obtain ⟨x, hx⟩ := atLt (xs := a) (i := n) (by omega)
  rw [wid (n := r1.1 + 1) (by omega) (by omega)]
  simp only [hp, hq, hr, Option.bind_some]
  refine EvP.ite (fun _ => ?_) (fun _ => EvP.ite (fun _ => ?_) (fun _ => EvP.ite (fun _ => ?_) (fun _ => ?_)))
  ·rw [decide_eq_true (by omega)]
   exact EvP.pure ⟨by simp; omega, h2.2.2⟩
  ·refine (byteE r2.2 h2.2.2).bind fun r3 h3 => ?_
   rw [decide_eq_true (by simp; omega)]
   simp only [cond_true]
   rw [decide_eq_true (by simp; omega)]
   exact EvP.pure ⟨by simp; omega, h3.2.2⟩
  ·exact EvP.pure ⟨by simp only; omega, h2.2.2⟩
  ·rw [hn]
   refine EvP.at? hx ((belowE 255 r2.2 (by omega) h2.2.2).bind fun r3 h3 => ?_)
   rw [decide_eq_true (by simp; omega)]
   simp only [cond_true]
   rw [decide_eq_true (by simp; omega)]
   exact EvP.pure ⟨by simp; omega, h3.2.2⟩
def pick4 {α β : Type} (f : α → α → α → α → β) (e : β) : List α → β
 | [a, b, c, d] => f a b c d
 | _ => e
def pick5 {α β : Type} (f : α → α → α → α → α → β) (e : β) : List α → β
 | [a, b, c, d, g] => f a b c d g
 | _ => e
theorem four {α : Type} {l : List α} (h : l.length = 4) : ∃ a b c d, l = [a, b, c, d] :=
 match l, h with
 | [a, b, c, d], _ => ⟨a, b, c, d, rfl⟩
theorem five {α : Type} {l : List α} (h : l.length = 5) : ∃ a b c d g, l = [a, b, c, d, g] :=
 match l, h with
 | [a, b, c, d, g], _ => ⟨a, b, c, d, g, rfl⟩
theorem notFour {α β : Type} {f : α → α → α → α → β} {e : β} : ∀ {l : List α}, l.length ≠ 4 → pick4 f e l = e
 | [], _ => rfl
 | [_], _ => rfl
 | [_, _], _ => rfl
 | [_, _, _], _ => rfl
 | [_, _, _, _], h => absurd rfl h
 | _ :: _ :: _ :: _ :: _ :: _, _ => rfl
theorem notFive {α β : Type} {f : α → α → α → α → α → β} {e : β} : ∀ {l : List α}, l.length ≠ 5 → pick5 f e l = e
 | [], _ => rfl
 | [_], _ => rfl
 | [_, _], _ => rfl
 | [_, _, _], _ => rfl
 | [_, _, _, _], _ => rfl
 | [_, _, _, _, _], h => absurd rfl h
 | _ :: _ :: _ :: _ :: _ :: _ :: _, _ => rfl
theorem lenNe4 {α : Type} {l : List α} (h : l.length ≠ 4) : ((l.length : Int) != 4) = true := by simp; omega
theorem lenNe5 {α : Type} {l : List α} (h : l.length ≠ 5) : ((l.length : Int) != 5) = true := by simp; omega
def ticketB (t : T_Ticket) : Bool := isIn t.Client 0 5 && (forB t.Service && (isIn t.Key 1 1000000 && (restOk t.Rest && (allB t.Path 6 && allB t.Via 4))))
def showTicketS (t : T_Ticket) (key : Int) : List UInt8 := if ticketB t = true then sealS key (listS [numsS [t.Client, t.Service], keyS t.Key, showRestS t.Rest, numsS t.Path, numsS t.Via]) else []
abbrev zTicket : T_Ticket := ⟨0, 0, 0, ⟨0, 0, 0⟩, [], []⟩
def tkOf (p1 p2 p3 p4 : List UInt8) (a b : Int) : T_Ticket := ⟨a, b, (readKeyS p1).1, (readRestS p2).1, (readNumsS p3).1, (readNumsS p4).1⟩
def readTicketS (s : List UInt8) (key : Int) : T_Ticket × Bool :=
 pick5 (fun p0 p1 p2 p3 p4 => pick2 (fun a b => if ((readNumsS p0).2 = true ∧ (readKeyS p1).2 = true ∧ (readRestS p2).2 = true ∧ (readNumsS p3).2 = true ∧ (readNumsS p4).2 = true) ∧ ticketB (tkOf p1 p2 p3 p4 a b) = true then (tkOf p1 p2 p3 p4 a b, true) else (zTicket, false)) (zTicket, false) (readNumsS p0).1)
  (zTicket, false) (partsS (openS s key).1).1
/-- Of what a text is read, of that it is made. -/
theorem ticket_of {s : List UInt8} {key : Int} {p0 p1 p2 p3 p4 : List UInt8} {a b : Int} (hp : (partsS (openS s key).1).1 = [p0, p1, p2, p3, p4]) (hn : (readNumsS p0).1 = [a, b]) :
  showTicketS (tkOf p1 p2 p3 p4 a b) key = s ↔ ((readNumsS p0).2 = true ∧ (readKeyS p1).2 = true ∧ (readRestS p2).2 = true ∧ (readNumsS p3).2 = true ∧ (readNumsS p4).2 = true) ∧ ticketB (tkOf p1 p2 p3 p4 a b) = true := by
 have hp2 : (partsS (openS s key).1).2 = true := by
  cases h : (partsS (openS s key).1).2 with
  | true => rfl
  | false => rw [partsS_nil h] at hp; cases hp
 obtain ⟨q1, q2, q3, _⟩ := parts_ok (s := (openS s key).1) (ps := [p0, p1, p2, p3, p4]) (by rw [← hp, ← hp2])
 have ho2 : (openS s key).2 = true := by
  cases h : (openS s key).2 with
  | true => rfl
  | false => rw [openS_nil h, tmOk_nil] at q2; cases q2
 obtain ⟨o1, o2, _⟩ := open_of (s := s) (k := key) (t := (openS s key).1) (by rw [← ho2])
 constructor
 ·intro h
  unfold showTicketS at h
  by_cases hg : ticketB (tkOf p1 p2 p3 p4 a b) = true
  ·rw [if_pos hg] at h
   simp only [tkOf] at h
   have hs : sealS key (listS [numsS [a, b], keyS (readKeyS p1).1, showRestS (readRestS p2).1, numsS (readNumsS p3).1, numsS (readNumsS p4).1]) ≠ [] := by rw [h]; exact tmOk_ne o2
   have e1 := openSeal hs
   rw [h] at e1
   have hl : listS [numsS [a, b], keyS (readKeyS p1).1, showRestS (readRestS p2).1, numsS (readNumsS p3).1, numsS (readNumsS p4).1] ≠ [] := by
    have := (open_of e1).2.2
    exact tmOk_ne this
   have e2 := parts_of hl
   rw [e1] at hp q1
   simp only at hp q1
   rw [e2] at hp
   simp only [List.cons.injEq, and_true] at hp
   obtain ⟨g0, g1, g2, g3, g4⟩ := hp
   have n0 := tmOk_ne (q3 p0 (by simp)); have n1 := tmOk_ne (q3 p1 (by simp)); have n2 := tmOk_ne (q3 p2 (by simp))
   have n3 := tmOk_ne (q3 p3 (by simp)); have n4 := tmOk_ne (q3 p4 (by simp))
   refine ⟨⟨?_, ?_, ?_, ?_, ?_⟩, hg⟩
   ·have := readNums_of (l := [a, b]) (by rw [g0]; exact n0)
    rw [g0] at this; rw [this]
   ·have := readKey_of (k := (readKeyS p1).1) (by rw [g1]; exact n1)
    rw [g1] at this; rw [this]
   ·have := readRest_of (r := (readRestS p2).1) (by rw [g2]; exact n2)
    rw [g2] at this; rw [this]
   ·have := readNums_of (l := (readNumsS p3).1) (by rw [g3]; exact n3)
    rw [g3] at this; rw [this]
   ·have := readNums_of (l := (readNumsS p4).1) (by rw [g4]; exact n4)
    rw [g4] at this; rw [this]
  ·rw [if_neg hg] at h
   exact absurd h.symm (tmOk_ne o2)
 ·rintro ⟨⟨f0, f1, f2, f3, f4⟩, hg⟩
  unfold showTicketS
  rw [if_pos hg]
  simp only [tkOf]
  rw [(nums_of (s := p0) (l := [a, b]) (by rw [← hn, ← f0])).1, (key_of (s := p1) (k := (readKeyS p1).1) (by rw [← f1])).1, (rest_of (s := p2) (r := (readRestS p2).1) (by rw [← f2])).1, (nums_of (s := p3) (l := (readNumsS p3).1) (by rw [← f3])).1, (nums_of (s := p4) (l := (readNumsS p4).1) (by rw [← f4])).1, q1]
  exact o1
def showAuthS (a : T_Auth) (key : Int) : List UInt8 := if authB a = true then sealS key (numsS [7, a.Client, a.Time, a.Seq]) else []
abbrev zAuth : T_Auth := ⟨0, 0, 0⟩
def readAuthS (s : List UInt8) (key : Int) : T_Auth × Bool :=
 pick4 (fun x b c d => if x = 7 ∧ authB ⟨b, c, d⟩ = true then (⟨b, c, d⟩, true) else (zAuth, false)) (zAuth, false) (readNumsS (openS s key).1).1
theorem auth_of {s : List UInt8} {key : Int} {x b c d : Int} (hn : (readNumsS (openS s key).1).1 = [x, b, c, d]) :
  showAuthS ⟨b, c, d⟩ key = s ↔ x = 7 ∧ authB ⟨b, c, d⟩ = true := by
 have hn2 : (readNumsS (openS s key).1).2 = true := by
  cases h : (readNumsS (openS s key).1).2 with
  | true => rfl
  | false => rw [readNumsS_nil h] at hn; cases hn
 obtain ⟨q1, q2⟩ := nums_of (s := (openS s key).1) (l := [x, b, c, d]) (by rw [← hn, ← hn2])
 have ho2 : (openS s key).2 = true := by
  cases h : (openS s key).2 with
  | true => rfl
  | false => rw [openS_nil h, tmOk_nil] at q2; cases q2
 obtain ⟨o1, o2, _⟩ := open_of (s := s) (k := key) (t := (openS s key).1) (by rw [← ho2])
 constructor
 ·intro h
  unfold showAuthS at h
  by_cases hg : authB ⟨b, c, d⟩ = true
  ·rw [if_pos hg] at h
   simp only at h
   have hs : sealS key (numsS [7, b, c, d]) ≠ [] := by rw [h]; exact tmOk_ne o2
   have e1 := openSeal hs
   rw [h] at e1
   have e2 := readNums_of (l := [7, b, c, d]) (tmOk_ne (open_of e1).2.2)
   rw [e1] at hn
   simp only at hn
   rw [e2] at hn
   simp only [List.cons.injEq] at hn
   exact ⟨hn.1.symm, hg⟩
  ·rw [if_neg hg] at h
   exact absurd h.symm (tmOk_ne o2)
 ·rintro ⟨rfl, hg⟩
  unfold showAuthS
  rw [if_pos hg]
  simp only
  rw [q1]
  exact o1
theorem sTicketOk {t : T_Ticket} (h1 : t.Path.length ≤ 1048576) (h2 : t.Via.length ≤ 1048576) : Ev (fun k => S_l5TicketOk k t) (ticketB t) := by
 simp only [S_l5TicketOk, wPrin, sFor, sIn, sRestOk, Option.bind_some]
 exact Ev.andD (Ev.andD (Ev.andD (Ev.andD (Ev.andY (sAll3 6 h1) (Ev.fin (sAll3 4 h2))))))
theorem iTicketOk {t : T_Ticket} (w : i64 t.Service) (h1 : t.Path.length ≤ 1048576) (h2 : t.Via.length ≤ 1048576) : Ev (fun k => I_ticketOk k t) (ticketB t) := by
 simp only [I_ticketOk, iPrin, wkFor _ w, iKeyI, iRestOk, Option.bind_some]
 exact Ev.andD (Ev.andD (Ev.andD (Ev.andD (Ev.andY (iAllR 6 h1) (Ev.fin (iAllS 4 h2))))))
theorem iShowTicket {t : T_Ticket} (key : Int) (w : i64 t.Service) (h1 : t.Path.length ≤ 1000) (h2 : t.Via.length ≤ 1000) : Ev (fun k => I_ShowTicket k t key) (showTicketS t key) := by
 simp only [I_ShowTicket]
 refine Ev.bind (iTicketOk w (by omega) (by omega)) ?_
 unfold showTicketS
 cases ticketB t
 ·exact Ev.pure _
 ·simp only [Bool.not_true, cond_false, if_true]
  refine Ev.bind (iNums _ (by simp)) (Ev.bind (iKeyTerm _) (Ev.bind (iShowRest _) (Ev.bind (iNums _ h1) (Ev.bind (iNums _ h2) (Ev.bind (iList _ ?_ (by simp)) (Ev.bind (iSeal _ _ ?_) (Ev.pure _)))))))
  ·intro p hp
   have g1 := keyS_len t.Key
   have g2 := numsS_len [t.Client, t.Service]
   have g3 := showRestS_len t.Rest
   have g4 := numsS_len t.Path
   have g5 := numsS_len t.Via
   simp only [List.mem_cons, List.not_mem_nil, or_false] at hp
   rcases hp with rfl | rfl | rfl | rfl | rfl
   ·omega
   ·omega
   ·exact Nat.le_trans g3 (by omega)
   ·omega
   ·omega
  ·have := listS_len [numsS [t.Client, t.Service], keyS t.Key, showRestS t.Rest, numsS t.Path, numsS t.Via]
   exact Nat.le_trans this (by omega)
theorem sReadTicket (s : List UInt8) (hs : s.length ≤ 1048576) (key : Int) : Ev (fun k => S_ReadTicket k s key) (readTicketS s key) := by
 simp only [S_ReadTicket]
 have ho := openS_len s key
 refine Ev.bind (sOpen s hs key) (Ev.bind (sParts _ (by omega)) ?_)
 obtain ⟨_, pe⟩ := partsS_len (openS s key).1
 unfold readTicketS
 by_cases h5 : (partsS (openS s key).1).1.length = 5
 ·obtain ⟨p0, p1, p2, p3, p4, h⟩ := five h5
  rw [h] at pe ⊢
  simp only [pick5]
  have l0 := pe p0 (by simp); have l1 := pe p1 (by simp); have l2 := pe p2 (by simp); have l3 := pe p3 (by simp); have l4 := pe p4 (by simp)
  refine Ev.ite (fun h => by cases h) (fun _ => ?_)
  refine Ev.at? (i := 0) (b := p0) rfl (Ev.bind (sReadNums p0 (by omega)) (Ev.at? (i := 1) (b := p1) rfl (Ev.bind (sReadKey p1 (by omega)) (Ev.at? (i := 2) (b := p2) rfl (Ev.bind (sReadRest p2 (by omega)) (Ev.at? (i := 3) (b := p3) rfl (Ev.bind (sReadNums p3 (by omega)) (Ev.at? (i := 4) (b := p4) rfl (Ev.bind (sReadNums p4 (by omega)) ?_)))))))))
  by_cases hf : (readNumsS p0).2 = true ∧ (readKeyS p1).2 = true ∧ (readRestS p2).2 = true ∧ (readNumsS p3).2 = true ∧ (readNumsS p4).2 = true
  ·have hf' := hf
   obtain ⟨f0, f1, f2, f3, f4⟩ := hf'
   rw [f0, f1, f2, f3, f4]
   simp only [Bool.not_true, cond_false, S_ReadTicket.j2]
   by_cases h2 : (readNumsS p0).1.length = 2
   ·obtain ⟨a, b, e⟩ := two h2
    rw [e]
    simp only [pick2]
    refine Ev.ite (fun h => by cases h) (fun _ => ?_)
    refine Ev.at? (i := 0) (b := a) rfl (Ev.at? (i := 1) (b := b) rfl (Ev.bind (sTicketOk (t := tkOf p1 p2 p3 p4 a b) ?_ ?_) ?_))
    ·exact Nat.le_trans (readNumsS_len p3) (by omega)
    ·exact Nat.le_trans (readNumsS_len p4) (by omega)
    refine Ev.ite (fun h => (Ev.pure _).to ?_) (fun h => (Ev.pure _).to ?_)
    ·exact (if_neg (fun e => by rw [e.2] at h; cases h)).symm
    ·exact (if_pos ⟨⟨by trivial, by trivial, by trivial, by trivial, by trivial⟩, by simpa using h⟩).symm
   ·rw [notTwo h2, lenNe2 h2]
    exact Ev.pure _
  ·have e : pick2 (fun a b => if ((readNumsS p0).2 = true ∧ (readKeyS p1).2 = true ∧ (readRestS p2).2 = true ∧ (readNumsS p3).2 = true ∧ (readNumsS p4).2 = true) ∧ ticketB (tkOf p1 p2 p3 p4 a b) = true then (tkOf p1 p2 p3 p4 a b, true) else (zTicket, false)) (zTicket, false) (readNumsS p0).1 = (zTicket, false) := by
    by_cases h2 : (readNumsS p0).1.length = 2
    ·obtain ⟨a, b, e⟩ := two h2
     rw [e]
     exact if_neg (fun h => hf h.1)
    ·exact notTwo h2
   refine Ev.to ?_ e.symm
   simp only [S_ReadTicket.j2]
   refine Ev.ite (fun _ => Ev.pure _) (fun g0 => Ev.ite (fun _ => Ev.pure _) (fun g1 => Ev.ite (fun _ => Ev.pure _) (fun g2 => Ev.ite (fun _ => Ev.pure _) (fun g3 => Ev.ite (fun _ => Ev.pure _) (fun g4 => ?_)))))
   exact absurd ⟨by simpa using g0, by simpa using g1, by simpa using g2, by simpa using g3, by simpa using g4⟩ hf
 ·rw [notFive h5, lenNe5 h5]
  exact Ev.pure _
theorem iReadTicket (s : List UInt8) (hs : s.length ≤ 1048576) (key : Int) : Ev (fun k => I_ReadTicket k s key) (readTicketS s key) := by
 simp only [I_ReadTicket]
 have ho := openS_len s key
 refine Ev.bind (iOpen s hs key) (Ev.bind (iParts _ (by omega)) ?_)
 obtain ⟨_, pe⟩ := partsS_len (openS s key).1
 unfold readTicketS
 by_cases h5 : (partsS (openS s key).1).1.length = 5
 ·obtain ⟨p0, p1, p2, p3, p4, h⟩ := five h5
  rw [h] at pe ⊢
  simp only [pick5]
  have l0 := pe p0 (by simp); have l1 := pe p1 (by simp); have l2 := pe p2 (by simp); have l3 := pe p3 (by simp); have l4 := pe p4 (by simp)
  refine Ev.ite (fun h => by cases h) (fun _ => ?_)
  refine Ev.at? (i := 0) (b := p0) rfl (Ev.bind (iReadNums p0 (by omega)) ?_)
  by_cases h2l : (readNumsS p0).1.length = 2
  ·obtain ⟨a, b, e⟩ := two h2l
   have ba : 0 ≤ b ∧ b ≤ 562949953421311 := readNums_bnd (s := p0) (by rw [e]; simp)
   have key2 := ticket_of (s := s) (key := key) h e
   rw [e]
   simp only [pick2]
   refine Ev.ite (fun h => by cases h) (fun _ => ?_)
   refine Ev.at? (i := 0) (b := a) rfl (Ev.at? (i := 1) (b := b) rfl (Ev.at? (i := 1) (b := p1) rfl (Ev.bind (iReadKey p1 (by omega)) (Ev.at? (i := 2) (b := p2) rfl (Ev.bind (iReadRest p2 (by omega)) (Ev.at? (i := 3) (b := p3) rfl (Ev.bind (iReadNums p3 (by omega)) (Ev.at? (i := 4) (b := p4) rfl (Ev.bind (iReadNums p4 (by omega)) (Ev.bind (iShowTicket (t := tkOf p1 p2 p3 p4 a b) key ?_ ?_ ?_) ?_))))))))))
   ·exact ⟨by simp only [tkOf]; omega, by simp only [tkOf]; omega⟩
   ·exact Nat.le_trans (readNumsS_len p3) (by omega)
   ·exact Nat.le_trans (readNumsS_len p4) (by omega)
   refine Ev.ite (fun h => (Ev.pure _).to ?_) (fun h => (Ev.pure _).to ?_)
   ·rw [if_neg (fun hg => by rw [key2.2 hg] at h; simp at h)]
   ·rw [if_pos (key2.1 (by simpa using h))]; rfl
  ·rw [notTwo h2l, lenNe2 h2l]
   exact Ev.pure _
 ·rw [notFive h5, lenNe5 h5]
  exact Ev.pure _
theorem sReadAuth (s : List UInt8) (hs : s.length ≤ 1048576) (key : Int) : Ev (fun k => S_ReadAuth k s key) (readAuthS s key) := by
 simp only [S_ReadAuth]
 have ho := openS_len s key
 refine Ev.bind (sOpen s hs key) (Ev.bind (sReadNums _ (by omega)) ?_)
 unfold readAuthS
 by_cases h4 : (readNumsS (openS s key).1).1.length = 4
 ·obtain ⟨x, b, c, d, e⟩ := four h4
  have h2 : (readNumsS (openS s key).1).2 = true := by
   cases h : (readNumsS (openS s key).1).2 with
   | true => rfl
   | false => rw [readNumsS_nil h] at e; cases e
  rw [h2, e]
  simp only [pick4, Bool.not_true, cond_false]
  refine Ev.ite (fun h => by cases h) (fun _ => Ev.at? (i := 0) (b := x) rfl ?_)
  simp only [S_ReadAuth.j2]
  refine Ev.ite (fun h => ?_) (fun h => Ev.at? (i := 1) (b := b) rfl (Ev.at? (i := 2) (b := c) rfl (Ev.at? (i := 3) (b := d) rfl ?_)))
  ·rw [if_neg (fun e => by rw [e.1] at h; cases h)]; exact Ev.pure _
  ·simp only [sAuth, Option.bind_some]
   refine Ev.ite (fun g => (Ev.pure _).to ?_) (fun g => (Ev.pure _).to ?_)
   ·exact (if_neg (fun e => by rw [e.2] at g; cases g)).symm
   ·exact (if_pos ⟨by simpa using h, by simpa using g⟩).symm
 ·rw [notFour h4, lenNe4 h4]
  simp only [S_ReadAuth.j2]
  exact Ev.ite (fun _ => Ev.pure _) (fun _ => Ev.pure _)
theorem iShowAuth (a : T_Auth) (key : Int) : Ev (fun k => I_ShowAuth k a key) (showAuthS a key) := by
 simp only [I_ShowAuth, iAuth, Option.bind_some]
 unfold showAuthS
 cases authB a
 ·exact Ev.pure _
 ·exact Ev.bind (iNums _ (by simp)) (Ev.bind (iSeal _ _ (Nat.le_trans (numsS_len _) (by omega))) (Ev.pure _))
theorem iReadAuth (s : List UInt8) (hs : s.length ≤ 1048576) (key : Int) : Ev (fun k => I_ReadAuth k s key) (readAuthS s key) := by
 simp only [I_ReadAuth]
 have ho := openS_len s key
 refine Ev.bind (iOpen s hs key) (Ev.bind (iReadNums _ (by omega)) ?_)
 unfold readAuthS
 by_cases h4 : (readNumsS (openS s key).1).1.length = 4
 ·obtain ⟨x, b, c, d, e⟩ := four h4
  have key2 := auth_of (s := s) (key := key) e
  rw [e]
  simp only [pick4]
  refine Ev.ite (fun h => by cases h) (fun _ => Ev.at? (i := 1) (b := b) rfl (Ev.at? (i := 2) (b := c) rfl (Ev.at? (i := 3) (b := d) rfl (Ev.bind (iShowAuth _ key) ?_))))
  refine Ev.ite (fun h => (Ev.pure _).to ?_) (fun h => (Ev.pure _).to ?_)
  ·rw [if_neg (fun hg => by rw [key2.2 hg] at h; simp at h)]
  ·rw [if_pos (key2.1 (by simpa using h))]
 ·rw [notFour h4, lenNe4 h4]
  exact Ev.pure _
theorem ticketS_len {s : List UInt8} {key : Int} : (readTicketS s key).1.Path.length ≤ 12 ∧ (readTicketS s key).1.Via.length ≤ 12 := by
 unfold readTicketS
 by_cases h5 : (partsS (openS s key).1).1.length = 5
 ·obtain ⟨p0, p1, p2, p3, p4, h⟩ := five h5
  rw [h]
  simp only [pick5]
  by_cases h2 : (readNumsS p0).1.length = 2
  ·obtain ⟨a, b, e⟩ := two h2
   rw [e]
   simp only [pick2]
   split
   ·exact ⟨readNumsS_len p3, readNumsS_len p4⟩
   ·exact ⟨by simp, by simp⟩
  ·rw [notTwo h2]; exact ⟨by simp, by simp⟩
 ·rw [notFive h5]; exact ⟨by simp, by simp⟩
theorem iCopyI' {l : List Int} (h : l.length ≤ 1048576) : Ev (fun k => I_copyInts k l) l := by
 simp only [I_copyInts, List.length_nil, Nat.zero_add, List.nil_append]
 rw [decide_eq_true (by omega)]
 exact Ev.pure _
theorem sShowTicket {t : T_Ticket} (key : Int) (h1 : t.Path.length ≤ 1000) (h2 : t.Via.length ≤ 1000) : Ev (fun k => S_ShowTicket k t key) (showTicketS t key) := by
 simp only [S_ShowTicket]
 refine Ev.bind (sTicketOk (by omega) (by omega)) ?_
 unfold showTicketS
 cases ticketB t
 ·exact Ev.pure _
 ·simp only [Bool.not_true, cond_false, if_true]
  refine Ev.bind (sNums _ (by simp)) (Ev.bind (sKeyTerm _) (Ev.bind (sShowRest _) (Ev.bind (sNums _ (by omega)) (Ev.bind (sNums _ (by omega)) (Ev.bind (sList _ ?_ (by simp)) (Ev.bind (sSeal _ _ ?_) (Ev.pure _)))))))
  ·intro p hp
   have g1 := keyS_len t.Key
   have g2 := numsS_len [t.Client, t.Service]
   have g3 := showRestS_len t.Rest
   have g4 := numsS_len t.Path
   have g5 := numsS_len t.Via
   simp only [List.mem_cons, List.not_mem_nil, or_false] at hp
   rcases hp with rfl | rfl | rfl | rfl | rfl
   ·omega
   ·omega
   ·exact Nat.le_trans g3 (by omega)
   ·omega
   ·omega
  ·have := listS_len [numsS [t.Client, t.Service], keyS t.Key, showRestS t.Rest, numsS t.Path, numsS t.Via]
   exact Nat.le_trans this (by omega)
theorem showTicketS_len (t : T_Ticket) (key : Int) : (showTicketS t key).length ≤ 900 := by
 unfold showTicketS
 split
 ·exact sealS_len _ _
 ·simp
theorem sShowAuth (a : T_Auth) (key : Int) : Ev (fun k => S_ShowAuth k a key) (showAuthS a key) := by
 simp only [S_ShowAuth, sAuth, Option.bind_some]
 unfold showAuthS
 cases authB a
 ·exact Ev.pure _
 ·exact Ev.bind (sNums _ (by simp)) (Ev.bind (sSeal _ _ (Nat.le_trans (numsS_len _) (by omega))) (Ev.pure _))
theorem showAuthS_len (a : T_Auth) (key : Int) : (showAuthS a key).length ≤ 900 := by
 unfold showAuthS
 split
 ·exact sealS_len _ _
 ·simp
theorem EvP.cap {α : Type} {f : Nat → Option α} {P : α → Prop} {p : Prop} [Decidable p] (hp : p) (h : EvP f P) : EvP (fun k => cond (decide p) (f k) none) P := by
 rw [decide_eq_true hp]; exact h
def CfgD (c : T_Config) : Prop := c.UserRealm.length = 3 ∧ c.ServiceRealm.length = 3 ∧ c.Links.length ≤ 9 ∧ c.Proxy.length ≤ 9
theorem cfgX (n : Nat) : ∀ (cl : Nat → Int → List UInt8 → Int → Int → List Int → List Int → List T_Pair → List T_Pair → Int → Option (T_Config × U_l1Cur)) (P : T_Config × U_l1Cur → Prop) (a m : Nat) (U S : List Int) (L : List T_Pair) (q : Int) (j : Nat) (X : List T_Pair) (b : List UInt8) (i h : Int), a < 3 → m ≤ 9 →
  (∀ b i h X, Good ⟨b, i, h⟩ → X.length ≤ m + 3 → EvP (fun k => cl k ((a + 1 : Nat) : Int) b i h U S L X q) P) → j + n = 3 → X.length ≤ m + j → Good ⟨b, i, h⟩ →
  EvP (fun k => S_l6Config.l245 (cl k) k (a : Int) (j : Int) b i h U S L X q) P := by
 induction n with
 | zero =>
  intro cl P a m U S L q j X b i h ha hm hcl hj hX hg
  refine EvP.succ ?_
  simp only [S_l6Config.l245]
  rw [decide_eq_false (p := (j : Int) < 3) (by omega), wid1 (by omega)]
  exact (hcl b i h X hg (by omega)).shift
 | succ n ih =>
  intro cl P a m U S L q j X b i h ha hm hcl hj hX hg
  refine EvP.succ ?_
  simp only [S_l6Config.l245, S_l6Config.j248, S_l6Config.j247]
  rw [decide_eq_true (p := (j : Int) < 3) (by omega), wid1 (by omega)]
  simp only [cond_true, cond_false]
  have rk : ∀ b i h X, Good ⟨b, i, h⟩ → X.length ≤ m + (j + 1) → EvP (fun k => S_l6Config.l245 (cl (k + 1)) k (a : Int) ((j + 1 : Nat) : Int) b i h U S L X q) P := fun b i h X hg hX =>
   ih (fun k => cl (k + 1)) P a m U S L q (j + 1) X b i h ha hm (fun b i h X hg hX => (hcl b i h X hg hX).shift) (by omega) hX hg
  refine EvP.ite (fun _ => ?_) (fun _ => rk _ _ _ _ hg (by omega))
  refine (onceE 3 _ (by decide) hg).bind fun r hr => EvP.ite (fun _ => EvP.cap (by simp only [List.length_cons, List.length_nil]; omega) (rk _ _ _ _ hr (by simp only [List.length_append, List.length_cons, List.length_nil]; omega))) (fun _ => rk _ _ _ _ hr (by omega))
theorem cfgL (n : Nat) : ∀ (cl : Nat → Int → List UInt8 → Int → Int → List Int → List Int → List T_Pair → Int → Option (T_Config × U_l1Cur)) (P : T_Config × U_l1Cur → Prop) (a m : Nat) (U S : List Int) (q : Int) (j : Nat) (X : List T_Pair) (b : List UInt8) (i h : Int), a < 3 → m ≤ 9 →
  (∀ b i h X, Good ⟨b, i, h⟩ → X.length ≤ m + 3 → EvP (fun k => cl k ((a + 1 : Nat) : Int) b i h U S X q) P) → j + n = 3 → X.length ≤ m + j → Good ⟨b, i, h⟩ →
  EvP (fun k => S_l6Config.l123 (cl k) k (a : Int) (j : Int) b i h U S X q) P := by
 induction n with
 | zero =>
  intro cl P a m U S q j X b i h ha hm hcl hj hX hg
  refine EvP.succ ?_
  simp only [S_l6Config.l123]
  rw [decide_eq_false (p := (j : Int) < 3) (by omega), wid1 (by omega)]
  exact (hcl b i h X hg (by omega)).shift
 | succ n ih =>
  intro cl P a m U S q j X b i h ha hm hcl hj hX hg
  refine EvP.succ ?_
  simp only [S_l6Config.l123, S_l6Config.j126, S_l6Config.j125]
  rw [decide_eq_true (p := (j : Int) < 3) (by omega), wid1 (by omega)]
  simp only [cond_true, cond_false]
  have rk : ∀ b i h X, Good ⟨b, i, h⟩ → X.length ≤ m + (j + 1) → EvP (fun k => S_l6Config.l123 (cl (k + 1)) k (a : Int) ((j + 1 : Nat) : Int) b i h U S X q) P := fun b i h X hg hX =>
   ih (fun k => cl (k + 1)) P a m U S q (j + 1) X b i h ha hm (fun b i h X hg hX => (hcl b i h X hg hX).shift) (by omega) hX hg
  refine EvP.ite (fun _ => ?_) (fun _ => rk _ _ _ _ hg (by omega))
  refine (onceE 3 _ (by decide) hg).bind fun r hr => EvP.ite (fun _ => EvP.cap (by simp only [List.length_cons, List.length_nil]; omega) (rk _ _ _ _ hr (by simp only [List.length_append, List.length_cons, List.length_nil]; omega))) (fun _ => rk _ _ _ _ hr (by omega))
theorem cfgX2 (U S : List Int) (L : List T_Pair) (q : Int) (hU : U.length = 3) (hS : S.length = 3) (hL : L.length ≤ 9) (n : Nat) : ∀ (a : Nat) (X : List T_Pair) (b : List UInt8) (i h : Int), a + n = 3 → X.length ≤ 3 * a → Good ⟨b, i, h⟩ → EvP (fun k => S_l6Config.l228 k (a : Int) b i h U S L X q) (fun r => CfgD r.1 ∧ Good r.2) := by
 induction n with
 | zero =>
  intro a X b i h ha hX hg
  refine EvP.succ ?_
  simp only [S_l6Config.l228]
  rw [decide_eq_false (p := (a : Int) < 3) (by omega)]
  simp only [cond_false]
  refine (onceE 3 _ (by decide) hg).bind fun r hr => EvP.ite (fun _ => ?_) (fun _ => EvP.pure ⟨⟨hU, hS, hL, by show X.length ≤ 9; omega⟩, hr⟩)
  obtain ⟨u, hu⟩ := atLt (xs := U) (i := 0) (by omega)
  obtain ⟨s, hs⟩ := atLt (xs := S) (i := 2) (by omega)
  exact EvP.at? (i := 0) hu (EvP.at? (i := 0) hu (EvP.at? (i := 2) hs (EvP.pure ⟨⟨hU, rfl, hL, by show X.length ≤ 9; omega⟩, hr⟩)))
 | succ n ih =>
  intro a X b i h ha hX hg
  refine EvP.succ ?_
  simp only [S_l6Config.l228]
  rw [decide_eq_true (p := (a : Int) < 3) (by omega)]
  simp only [cond_true]
  exact cfgX 3 (fun k => S_l6Config.l228 k) _ a (3 * a) U S L q 0 X b i h (by omega) (by omega) (fun b i h X hg hX => ih (a + 1) X b i h (by omega) (by omega) hg) (by omega) (by omega) hg
theorem cfgL2 (U S : List Int) (q : Int) (hU : U.length = 3) (hS : S.length = 3) (n : Nat) : ∀ (a : Nat) (X : List T_Pair) (b : List UInt8) (i h : Int), a + n = 3 → X.length ≤ 3 * a → Good ⟨b, i, h⟩ → EvP (fun k => S_l6Config.l106 k (a : Int) b i h U S X q) (fun r => CfgD r.1 ∧ Good r.2) := by
 induction n with
 | zero =>
  intro a X b i h ha hX hg
  refine EvP.succ ?_
  simp only [S_l6Config.l106]
  rw [decide_eq_false (p := (a : Int) < 3) (by omega)]
  simp only [cond_false]
  exact cfgX2 U S X q hU hS (by omega) 3 0 [] b i h (by omega) (by simp) hg
 | succ n ih =>
  intro a X b i h ha hX hg
  refine EvP.succ ?_
  simp only [S_l6Config.l106]
  rw [decide_eq_true (p := (a : Int) < 3) (by omega)]
  simp only [cond_true]
  exact cfgL 3 (fun k => S_l6Config.l106 k) _ a (3 * a) U S q 0 X b i h (by omega) (by omega) (fun b i h X hg hX => ih (a + 1) X b i h (by omega) (by omega) hg) (by omega) (by omega) hg
theorem cfgS (U : List Int) (q : Int) (hU : U.length = 3) (n : Nat) : ∀ (a : Nat) (S : List Int) (b : List UInt8) (i h : Int), a + n = 3 → S.length = a → Good ⟨b, i, h⟩ → EvP (fun k => S_l6Config.l4 k (a : Int) b i h U S q) (fun r => CfgD r.1 ∧ Good r.2) := by
 induction n with
 | zero =>
  intro a S b i h ha hS hg
  refine EvP.succ ?_
  simp only [S_l6Config.l4]
  rw [decide_eq_false (p := (a : Int) < 3) (by omega)]
  exact cfgL2 U S q hU (by omega) 3 0 [] b i h (by omega) (by simp) hg
 | succ n ih =>
  intro a S b i h ha hS hg
  refine EvP.succ ?_
  simp only [S_l6Config.l4]
  rw [decide_eq_true (p := (a : Int) < 3) (by omega), wid1 (by omega)]
  exact (belowE 3 _ (by decide) hg).bind fun r hr => EvP.cap (by simp only [List.length_cons, List.length_nil]; omega) (ih (a + 1) _ _ _ _ (by omega) (by simp only [List.length_append, List.length_cons, List.length_nil]; omega) hr.2.2)
theorem cfgU (q : Int) (n : Nat) : ∀ (a : Nat) (U : List Int) (b : List UInt8) (i h : Int), a + n = 3 → U.length = a → Good ⟨b, i, h⟩ → EvP (fun k => S_l6Config.l2 k (a : Int) b i h U q) (fun r => CfgD r.1 ∧ Good r.2) := by
 induction n with
 | zero =>
  intro a U b i h ha hU hg
  refine EvP.succ ?_
  simp only [S_l6Config.l2]
  rw [decide_eq_false (p := (a : Int) < 3) (by omega)]
  exact cfgS U q (by omega) 3 0 [] b i h (by omega) (by simp) hg
 | succ n ih =>
  intro a U b i h ha hU hg
  refine EvP.succ ?_
  simp only [S_l6Config.l2]
  rw [decide_eq_true (p := (a : Int) < 3) (by omega), wid1 (by omega)]
  exact (belowE 3 _ (by decide) hg).bind fun r hr => EvP.cap (by simp only [List.length_cons, List.length_nil]; omega) (ih (a + 1) _ _ _ _ (by omega) (by simp only [List.length_append, List.length_cons, List.length_nil]; omega) hr.2.2)
theorem configE (c : U_l1Cur) (h : Good c) : EvP (fun k => S_l6Config k c) (fun r => CfgD r.1 ∧ Good r.2) := by
 simp only [S_l6Config]
 exact (pickE _ c (by simp) h).bind fun r hr => cfgU r.1 3 0 [] _ _ _ (by omega) rfl hr.2
theorem anyE (c : U_l1Cur) (h : Good c) : EvP (fun k => S_l6Any k c) (fun r => CfgSm r.1 ∧ Good r.2) := by
 simp only [S_l6Any]
 refine (configE c h).bind fun r hr => (onceE 8 _ (by decide) hr.2).bind fun o ho => ?_
 obtain ⟨⟨u1, u2, u3, u4⟩, _⟩ := hr
 have sm : CfgSm r.1 := ⟨by omega, by omega, by omega, by omega⟩
 refine EvP.ite (fun _ => (belowE 5 _ (by decide) ho).bind fun s hs => ?_) (fun _ => EvP.pure ⟨sm, ho⟩)
 have hs := hs.2.2
 refine EvP.ite (fun _ => (pickE _ _ (by simp) hs).bind fun t ht => ?_) (fun _ => EvP.ite (fun _ => ?_) (fun _ => EvP.ite (fun _ => ?_) (fun _ => EvP.ite (fun _ => ?_) (fun _ => ?_))))
 ·obtain ⟨u, hu⟩ := atLt (xs := r.1.UserRealm) (i := 0) (by omega)
  exact EvP.at? (i := 0) hu (EvP.pure ⟨⟨by rw [List.length_set]; exact sm.1, sm.2⟩, ht.2⟩)
 ·exact EvP.cap (by simp only [List.length_cons, List.length_nil]; omega) (EvP.pure ⟨⟨sm.1, by simp only [List.length_append, List.length_cons, List.length_nil]; omega, sm.2.2⟩, hs⟩)
 ·exact (belowE 4 _ (by decide) hs).bind fun x hx => (belowE 4 _ (by decide) hx.2.2).bind fun y hy => EvP.cap (by simp only [List.length_cons, List.length_nil]; omega) (EvP.pure ⟨⟨sm.1, sm.2.1, by simp only [List.length_append, List.length_cons, List.length_nil]; omega, sm.2.2.2⟩, hy.2.2⟩)
 ·exact (belowE 4 _ (by decide) hs).bind fun x hx => (belowE 4 _ (by decide) hx.2.2).bind fun y hy => EvP.cap (by simp only [List.length_cons, List.length_nil]; omega) (EvP.pure ⟨⟨sm.1, sm.2.1, sm.2.2.1, by simp only [List.length_append, List.length_cons, List.length_nil]; omega⟩, hy.2.2⟩)
 ·exact (pickE _ _ (by simp) hs).bind fun t ht => EvP.pure ⟨sm, ht.2⟩
theorem drRestE (c : U_l1Cur) (h : Good c) : EvP (fun k => S_l4Rest k c) (fun r => Good r.2) := by
 simp only [S_l4Rest, S_l4Rest.j1]
 refine (belowE 8 _ (by decide) h).bind fun a ha => (belowE 256 _ (by decide) ha.2.2).bind fun b hb => (belowE 90 _ (by decide) hb.2.2).bind fun d hd => (onceE 3 _ (by decide) hd.2.2).bind fun o ho => ?_
 exact EvP.ite (fun _ => (onceE 3 _ (by decide) ho).bind fun s hs => EvP.ite (fun _ => EvP.pure hs) (fun _ => EvP.pure hs)) (fun _ => (onceE 3 _ (by decide) ho).bind fun s hs => EvP.ite (fun _ => EvP.pure hs) (fun _ => EvP.pure hs))
theorem spoiltE (a : List UInt8) (c : U_l1Cur) (ha : a.length ≤ 1048573) (h : Good c) : EvP (fun k => S_l5Spoilt k a c) (fun r => r.1.length ≤ a.length + 3 ∧ Good r.2) := by
 simp only [S_l5Spoilt]
 exact (onceE 4 c (by decide) h).bind fun o ho => EvP.ite (fun _ => (spoilE a _ ha ho).bind fun r hr => EvP.pure hr) (fun _ => EvP.pure ⟨by simp only; omega, ho⟩)
abbrev zEv : T_Event := ⟨0, 0, 0, 0, 0, 0, 0, 0, ⟨0, 0, 0⟩⟩
def failS (n : Int) : T_Reply := ⟨n, [], zEv⟩
def replyS (nonce : Int) (tick grant : List UInt8) (e : T_Event) : T_Reply := if listS [numsS [3, nonce], tick, grant] = [] then failS 1 else ⟨0, listS [numsS [3, nonce], tick, grant], e⟩
def givenS (realm nonce kind pby client parent evid : Int) (t : T_Ticket) (key wth : Int) : T_Reply :=
 replyS nonce (showTicketS t key) (showGrantS ⟨t.Key, t.Service, nonce, t.Rest⟩ wth) ⟨kind, realm, pby, client, t.Service, t.Key, parent, evid, t.Rest⟩
theorem showGrantS_len (g : T_Grant) (key : Int) : (showGrantS g key).length ≤ 900 := by
 unfold showGrantS
 split
 ·exact sealS_len _ _
 ·simp
theorem three_len {a b c : List UInt8} (h1 : a.length ≤ 900) (h2 : b.length ≤ 900) (h3 : c.length ≤ 900) : ∀ p ∈ [a, b, c], p.length ≤ 1048576 := by
 intro p hp
 simp only [List.mem_cons, List.not_mem_nil, or_false] at hp
 rcases hp with rfl | rfl | rfl <;> omega
theorem sReply (nonce : Int) {tick grant : List UInt8} (e : T_Event) (h1 : tick.length ≤ 900) (h2 : grant.length ≤ 900) : Ev (fun k => S_l8Reply k nonce tick grant e) (replyS nonce tick grant e) := by
 simp only [S_l8Reply, S_l8Fail, Option.bind_some]
 refine Ev.bind (sNums _ (by simp)) (Ev.bind (sList _ (three_len (numsS_len _) h1 h2) (by simp)) ?_)
 unfold replyS
 refine Ev.ite (fun h => ?_) (fun h => ?_)
 ·rw [if_pos (by simpa using h)]; exact Ev.pure _
 ·rw [if_neg (by simpa using h)]; exact Ev.pure _
theorem sShowGrant (g : T_Grant) (key : Int) : Ev (fun k => S_ShowGrant k g key) (showGrantS g key) := by
 simp only [S_ShowGrant, sGrantOk, Option.bind_some]
 unfold showGrantS
 cases grantOk g
 ·exact Ev.pure _
 ·simp only [Bool.not_true, cond_false, if_true]
  refine Ev.bind (sKeyTerm _) (Ev.bind (sNums _ (by simp)) (Ev.bind (sShowRest _) (Ev.bind (sList _ (three_len (keyS_len _) (numsS_len _) (showRestS_len _)) (by simp)) (Ev.bind (sSeal _ _ (Nat.le_trans (listS_len _) (by omega))) (Ev.pure _)))))
theorem iGiven (a : T_asked) (e : T_Event) {t : T_Ticket} (key wth : Int) (w : i64 t.Service) (h1 : t.Path.length ≤ 1000) (h2 : t.Via.length ≤ 1000) : Ev (fun k => I_asked_given k a e t key wth) (givenS a.realm a.nonce e.Kind e.By e.Client e.Parent e.Evid t key wth) := by
 simp only [I_asked_given]
 refine Ev.bind (iNums _ (by simp)) (Ev.bind (iShowTicket key w h1 h2) (Ev.bind (iShowGrant ⟨t.Key, t.Service, a.nonce, t.Rest⟩ wth w) (Ev.bind (iList _ (three_len (numsS_len _) (showTicketS_len _ _) (showGrantS_len _ _)) (by simp)) ?_)))
 unfold givenS replyS
 refine Ev.ite (fun h => ?_) (fun h => ?_)
 ·rw [if_pos (by simpa using h)]; exact Ev.pure _
 ·rw [if_neg (by simpa using h)]; exact Ev.pure _
def meetS (a b : T_Rest) : T_Rest := if restOk a = true ∧ restOk b = true then ⟨Go.bits .and .i64 a.Servers b.Servers, Go.bits .and .i64 a.Ops b.Ops, if b.End < a.End then b.End else a.End⟩ else ⟨0, 0, 0⟩
theorem iMeet (k : Nat) (a b : T_Rest) : I_Meet k a b = some (meetS a b) := by
 simp only [I_Meet, iRestOk, Option.bind_some, meetS]
 cases restOk a <;> cases restOk b <;> rfl
theorem sMeet (k : Nat) (a b : T_Rest) : S_Meet k a b = some (meetS a b) := by
 simp only [S_Meet, sRestOk, Option.bind_some, meetS]
 cases restOk a
 ·rfl
 cases restOk b
 ·rfl
 by_cases h : b.End < a.End
 ·rw [decide_eq_true h]; simp [h]
 ·rw [decide_eq_false h]; simp [h]
theorem tk_z {s : List UInt8} {key : Int} (h : (readTicketS s key).2 = false) : (readTicketS s key).1 = zTicket := by
 unfold readTicketS at h ⊢
 by_cases h5 : (partsS (openS s key).1).1.length = 5
 ·obtain ⟨p0, p1, p2, p3, p4, e⟩ := five h5
  rw [e] at h ⊢
  simp only [pick5] at h ⊢
  by_cases h2 : (readNumsS p0).1.length = 2
  ·obtain ⟨a, b, e2⟩ := two h2
   rw [e2] at h ⊢
   simp only [pick2] at h ⊢
   split at h
   ·cases h
   ·rename_i g
    rw [if_neg g]
  ·rw [notTwo h2]
 ·rw [notFive h5]
theorem tk_ok {s : List UInt8} {key : Int} (h : (readTicketS s key).2 = true) : ticketB (readTicketS s key).1 = true ∧ (openS s key).2 = true := by
 have ho : (openS s key).2 = true := by
  cases g : (openS s key).2 with
  | true => rfl
  | false =>
   have e := openS_nil g
   have : readTicketS s key = (zTicket, false) := by
    unfold readTicketS
    rw [e]
    rfl
   rw [this] at h; cases h
 refine ⟨?_, ho⟩
 unfold readTicketS at h ⊢
 by_cases h5 : (partsS (openS s key).1).1.length = 5
 ·obtain ⟨p0, p1, p2, p3, p4, e⟩ := five h5
  rw [e] at h ⊢
  simp only [pick5] at h ⊢
  by_cases h2 : (readNumsS p0).1.length = 2
  ·obtain ⟨a, b, e2⟩ := two h2
   rw [e2] at h ⊢
   simp only [pick2] at h ⊢
   split at h
   ·rename_i g
    rw [if_pos g]; exact g.2
   ·cases h
  ·rw [notTwo h2] at h; cases h
 ·rw [notFive h5] at h; cases h
theorem open_key {s : List UInt8} {a : Int} (h : (openS s a).2 = true) : ∃ c t n z, s = c :: t ∧ dv 7 t = some (n, z) ∧ (n : Int) = a := by
 cases s with
 | nil => unfold openS at h; split at h <;> cases h
 | cons c t =>
  unfold openS at h
  split at h
  ·simp only at h
   split at h
   ·split at h
    ·rename_i n z hd
     split at h
     ·rename_i e; exact ⟨c, t, n, z, rfl, hd, e⟩
     ·cases h
    ·cases h
   ·cases h
  ·cases h
theorem open_one {s : List UInt8} {a b : Int} (h1 : (openS s a).2 = true) (h2 : (openS s b).2 = true) : a = b := by
 obtain ⟨c, t, n, z, e, hd, rfl⟩ := open_key h1
 obtain ⟨c', t', n', z', e', hd', rfl⟩ := open_key h2
 rw [e] at e'
 obtain ⟨rfl, rfl⟩ := List.cons.inj e'
 rw [hd] at hd'
 cases hd'
 rfl
theorem tk_one {s : List UInt8} {a b : Int} (h1 : (readTicketS s a).2 = true) (h : a ≠ b) : readTicketS s b = (zTicket, false) := by
 have : (readTicketS s b).2 = false := by
  cases g : (readTicketS s b).2 with
  | false => rfl
  | true => exact absurd (open_one (tk_ok h1).2 (tk_ok g).2) h
 exact Prod.ext (tk_z this) this
def svcOk (realm : Int) (t : T_Ticket) : Bool := t.Service == 10 + realm
def addP (t : T_Ticket) (q : Int) : T_Ticket := ⟨t.Client, t.Service, t.Key, t.Rest, t.Path ++ [q], t.Via⟩
def shownL (c : T_Config) (realm : Int) (s : List UInt8) : List Int → T_Ticket × Bool
 | [] => (zTicket, false)
 | q :: qs => if hasP c.Links ⟨q, realm⟩ = true ∧ (readTicketS s (lk q realm)).2 = true then (addP (readTicketS s (lk q realm)).1 q, svcOk realm (readTicketS s (lk q realm)).1) else shownL c realm s qs
def shownS (c : T_Config) (realm : Int) (s : List UInt8) : T_Ticket × Bool :=
 if (readTicketS s (ck realm)).2 = true then ((readTicketS s (ck realm)).1, svcOk realm (readTicketS s (ck realm)).1) else shownL c realm s [0, 1, 2]
def shownR (c : T_Config) (realm : Int) (s : List UInt8) : List Int → T_Ticket × Int × Bool
 | [] => (zTicket, -1, false)
 | q :: qs => if hasP c.Links ⟨q, realm⟩ = true ∧ (readTicketS s (lk q realm)).2 = true ∧ svcOk realm (readTicketS s (lk q realm)).1 = true then ((readTicketS s (lk q realm)).1, q, true) else shownR c realm s qs
def shownQ (c : T_Config) (realm : Int) (s : List UInt8) : T_Ticket × Int × Bool :=
 if (readTicketS s (ck realm)).2 = true ∧ svcOk realm (readTicketS s (ck realm)).1 = true then ((readTicketS s (ck realm)).1, -1, true) else shownR c realm s [0, 1, 2]
theorem shownR_no {c : T_Config} {realm : Int} {s : List UInt8} : ∀ {l : List Int}, (∀ q ∈ l, (readTicketS s (lk q realm)).2 = false) → shownR c realm s l = (zTicket, -1, false)
 | [], _ => rfl
 | q :: qs, h => by
  simp only [shownR]
  rw [if_neg (fun e => by rw [h q (by simp)] at e; cases e.2.1)]
  exact shownR_no fun x hx => h x (by simp [hx])
theorem shownR_eq {c : T_Config} {realm : Int} {s : List UInt8} (hr : isR realm = true) : ∀ {l : List Int}, l.Nodup → (∀ q ∈ l, isR q = true) → (shownR c realm s l).2.2 = (shownL c realm s l).2 ∧ ((shownL c realm s l).2 = true → 0 ≤ (shownR c realm s l).2.1 ∧ (shownL c realm s l).1 = addP (shownR c realm s l).1 (shownR c realm s l).2.1)
 | [], _, _ => ⟨rfl, fun h => by cases h⟩
 | q :: qs, hn, hq => by
  have hn' := List.nodup_cons.1 hn
  have hq0 := hq q (by simp)
  simp only [shownR, shownL]
  by_cases h : hasP c.Links ⟨q, realm⟩ = true ∧ (readTicketS s (lk q realm)).2 = true
  ·rw [if_pos h]
   by_cases g : svcOk realm (readTicketS s (lk q realm)).1 = true
   ·rw [if_pos ⟨h.1, h.2, g⟩]
    exact ⟨g.symm, fun _ => ⟨(isR_iff.1 hq0).1, rfl⟩⟩
   ·rw [if_neg (fun e => g e.2.2), shownR_no (fun x hx => ?_)]
    ·exact ⟨(by simpa using g : _ = false).symm, fun e => absurd e g⟩
    ·have hx0 := hq x (by simp [hx])
     have hne : x ≠ q := fun e => hn'.1 (e ▸ hx)
     rw [tk_one h.2 (b := lk x realm) (by
      unfold lk
      rw [if_pos (show isR q = true ∧ isR realm = true from ⟨hq0, hr⟩), if_pos (show isR x = true ∧ isR realm = true from ⟨hx0, hr⟩)]
      omega)]
  ·rw [if_neg h, if_neg (fun e => h ⟨e.1, e.2.1⟩)]
   exact shownR_eq hr hn'.2 fun x hx => hq x (by simp [hx])
def addF (t : T_Ticket) (f : Int) : T_Ticket := if f ≥ 0 then addP t f else t
theorem shown_eq {c : T_Config} {realm : Int} {s : List UInt8} (hr : isR realm = true) : (shownQ c realm s).2.2 = (shownS c realm s).2 ∧ ((shownS c realm s).2 = true → (shownS c realm s).1 = addF (shownQ c realm s).1 (shownQ c realm s).2.1) := by
 unfold shownQ shownS
 by_cases h : (readTicketS s (ck realm)).2 = true
 ·rw [if_pos h]
  by_cases g : svcOk realm (readTicketS s (ck realm)).1 = true
  ·rw [if_pos ⟨h, g⟩]
   exact ⟨g.symm, fun _ => (if_neg (show ¬ ((-1 : Int) ≥ 0) by decide)).symm⟩
  ·rw [if_neg (fun e => g e.2), shownR_no (fun x hx => ?_)]
   ·exact ⟨(by simpa using g : _ = false).symm, fun e => absurd e g⟩
   ·have hx0 : isR x = true := by simp at hx; rcases hx with rfl | rfl | rfl <;> rfl
    rw [tk_one h (b := lk x realm) (by
     unfold lk ck
     rw [if_pos hr, if_pos (show isR x = true ∧ isR realm = true from ⟨hx0, hr⟩)]
     have := isR_iff.1 hr; have := isR_iff.1 hx0
     omega)]
 ·rw [if_neg h, if_neg (fun e => h e.1)]
  obtain ⟨e1, e2⟩ := shownR_eq (c := c) (s := s) hr (l := [0, 1, 2]) (by decide) (by decide)
  exact ⟨e1, fun g => by rw [(e2 g).2]; exact (if_pos (e2 g).1).symm⟩
theorem shownS_ok {c : T_Config} {realm : Int} {s : List UInt8} (h : (shownS c realm s).2 = true) : ∃ t q, ticketB t = true ∧ ((shownS c realm s).1 = t ∨ (shownS c realm s).1 = addP t q) := by
 unfold shownS at h ⊢
 by_cases g : (readTicketS s (ck realm)).2 = true
 ·rw [if_pos g]; exact ⟨_, 0, (tk_ok g).1, .inl rfl⟩
 ·rw [if_neg g] at h ⊢
  have go : ∀ l : List Int, (shownL c realm s l).2 = true → ∃ t q, ticketB t = true ∧ ((shownL c realm s l).1 = t ∨ (shownL c realm s l).1 = addP t q) := by
   intro l
   induction l with
   | nil => intro h; cases h
   | cons q qs ih =>
    intro h
    simp only [shownL] at h ⊢
    by_cases e : hasP c.Links ⟨q, realm⟩ = true ∧ (readTicketS s (lk q realm)).2 = true
    ·rw [if_pos e]; exact ⟨_, q, (tk_ok e.2).1, .inr rfl⟩
    ·rw [if_neg e] at h ⊢; exact ih h
  exact go _ h
theorem sShown {c : T_Config} (hc : CfgSm c) {realm : Int} (hr : isR realm = true) {s : List UInt8} (hs : s.length ≤ 1048576) : Ev (fun k => S_l8Shown k c realm s) (shownQ c realm s) := by
 have br := isR_iff.1 hr
 have lp : ∀ (n q : Nat), q + n = 3 → Ev (fun k => S_l8Shown.l19 k realm s (q : Int) c) (shownR c realm s ((List.range' q n).map fun i : Nat => (i : Int))) := by
  intro n
  induction n with
  | zero =>
   intro q hq
   refine Ev.succ ?_
   simp only [S_l8Shown.l19]
   rw [decide_eq_false (by omega)]
   exact Ev.pure _
  | succ n ih =>
   intro q hq
   refine Ev.succ ?_
   simp only [S_l8Shown.l19, S_l8Shown.j22, S_l8Shown.j21, sLK, Option.bind_some]
   rw [decide_eq_true (by omega), wid1 (by omega), wid (n := 10 + realm) (by omega) (by omega)]
   simp only [List.range'_succ, List.map_cons, shownR, cond_true, cond_false]
   refine Ev.bind (sHas _ _ hc.2.2.1) (Ev.ite (fun h => ?_) (fun h => ?_))
   ·rw [if_neg (fun e => by rw [e.1] at h; cases h)]
    exact ih (q + 1) (by omega)
   ·refine Ev.bind (sReadTicket s hs _) (Ev.ite (fun g => Ev.ite (fun f => ?_) (fun f => ?_)) (fun g => ?_))
    ·rw [if_pos ⟨by simpa using h, g, f⟩]; exact Ev.pure _
    ·rw [if_neg (fun e => by have := e.2.2; unfold svcOk at this; rw [f] at this; cases this)]; exact ih (q + 1) (by omega)
    ·rw [if_neg (fun e => by rw [e.2.1] at g; cases g)]; exact ih (q + 1) (by omega)
 simp only [S_l8Shown, S_l8Shown.j2, sCK, Option.bind_some, cond_false]
 refine Ev.bind (sReadTicket s hs _) ?_
 rw [wid (n := 10 + realm) (by omega) (by omega)]
 unfold shownQ
 refine Ev.ite (fun g => Ev.ite (fun f => ?_) (fun f => ?_)) (fun g => ?_)
 ·rw [if_pos ⟨g, f⟩]; exact Ev.pure _
 ·rw [if_neg (fun e => by have := e.2; unfold svcOk at this; rw [f] at this; cases this)]; exact lp 3 0 rfl
 ·rw [if_neg (fun e => by rw [e.1] at g; cases g)]; exact lp 3 0 rfl
theorem iTicket {a : T_asked} (hc : CfgSm a.c) (hr : isR a.realm = true) {s : List UInt8} (hp : a.parts[1]? = some s) (hs : s.length ≤ 1048576) : Ev (fun k => I_asked_ticket k a) (shownS a.c a.realm s) := by
 have br := isR_iff.1 hr
 have done : ∀ (q : Nat) (t : T_Ticket), q ≤ 3 → Ev (fun k => I_asked_ticket.l8 k true (q : Int) a t.Client t.Service t.Key t.Rest.Servers t.Rest.Ops t.Rest.End t.Path t.Via) (t, svcOk a.realm t) := by
  intro q t hq
  refine Ev.succ ?_
  simp only [I_asked_ticket.l8, I_asked_ticket.j5, Bool.not_true, cond_false, cond_true]
  rw [wid (n := 10 + a.realm) (by omega) (by omega)]
  exact Ev.ite (fun _ => Ev.pure _) (fun _ => Ev.pure _)
 have lp : ∀ (n q : Nat), q + n = 3 → Ev (fun k => I_asked_ticket.l8 k false (q : Int) a 0 0 0 0 0 0 [] []) (shownL a.c a.realm s ((List.range' q n).map fun i : Nat => (i : Int))) := by
  intro n
  induction n with
  | zero =>
   intro q hq
   refine Ev.succ ?_
   simp only [I_asked_ticket.l8, I_asked_ticket.j5]
   rw [decide_eq_false (by omega)]
   exact Ev.pure _
  | succ n ih =>
   intro q hq
   refine Ev.succ ?_
   simp only [I_asked_ticket.l8, I_asked_ticket.j9, iLK, Option.bind_some]
   rw [decide_eq_true (by omega), wid1 (by omega)]
   simp only [List.range'_succ, List.map_cons, shownL, cond_true, Bool.not_false]
   refine Ev.bind (iHas _ _ hc.2.2.1) (Ev.ite (fun h => ?_) (fun h => ?_))
   ·refine Ev.at? (i := 1) hp (Ev.bind (iReadTicket s hs _) ?_)
    have ln := (ticketS_len (s := s) (key := lk q a.realm)).1
    refine Ev.ite (fun g => ?_) (fun g => ?_)
    ·rw [if_pos ⟨h, g⟩, decide_eq_true (by simp only [List.length_cons, List.length_nil]; omega)]
     rw [g]
     exact done (q + 1) (addP (readTicketS s (lk q a.realm)).1 q) (by omega)
    ·rw [if_neg (fun e => by rw [e.2] at g; cases g), tk_z g, g]
     exact ih (q + 1) (by omega)
   ·rw [if_neg (fun e => by rw [e.1] at h; cases h)]
    exact ih (q + 1) (by omega)
 simp only [I_asked_ticket, iCK, Option.bind_some]
 refine Ev.at? (i := 1) hp (Ev.bind (iReadTicket s hs _) ?_)
 unfold shownS
 cases g : (readTicketS s (ck a.realm)).2
 ·rw [if_neg (by decide), tk_z g]
  exact lp 3 0 rfl
 ·rw [if_pos rfl]
  exact done 0 _ (by omega)
def svR (c : T_Config) (i : Int) : Int := c.ServiceRealm.getD i.toNat 0
theorem svAt {c : T_Config} (hv : CfgV c) {i : Int} (h : 0 ≤ i ∧ i ≤ 2) : Go.MG.at? c.ServiceRealm i = some (svR c i) := atD (by omega) (by rw [hv.sl]; omega)
theorem svR_in {c : T_Config} (hv : CfgV c) {i : Int} (h : 0 ≤ i ∧ i ≤ 2) : isR (svR c i) = true := by
 unfold svR
 have hl := hv.sl
 have : i.toNat < c.ServiceRealm.length := by omega
 rw [List.getD_eq_getElem?_getD, List.getElem?_eq_getElem this]
 exact isR_iff.2 (hv.sr _ (List.getElem_mem this))
theorem tk_cl {t : T_Ticket} (h : ticketB t = true) : (0 ≤ t.Client ∧ t.Client ≤ 5) ∧ t.Path.length ≤ 6 ∧ t.Via.length ≤ 4 := by
 unfold ticketB allB at h
 simp only [Bool.and_eq_true] at h
 obtain ⟨h1, _, _, _, ⟨_, h2⟩, ⟨_, h3⟩⟩ := h
 exact ⟨of_decide_eq_true h1, of_decide_eq_true h2, of_decide_eq_true h3⟩
def farB (now x sk : Int) : Bool := decide (now - x > sk ∨ x - now > sk)
theorem sFarB (k : Nat) {now x sk : Int} (h1 : 0 ≤ now ∧ now ≤ 100000) (h2 : 0 ≤ x ∧ x ≤ 562949953421311) : S_l7Apart k now x sk = some (farB now x sk) := by
 simp only [S_l7Apart, farB]
 rw [wid (by omega) (by omega), wid (by omega) (by omega)]
 by_cases e1 : now - x > sk
 ·rw [decide_eq_true e1, decide_eq_true (Or.inl e1)]; rfl
 ·rw [decide_eq_false e1]; exact congrArg some (decide_eq_decide.2 ⟨Or.inr, fun h => h.resolve_left e1⟩)
theorem iFarB {now x sk : Int} (h1 : 0 ≤ now ∧ now ≤ 100000) (h2 : 0 ≤ x ∧ x ≤ 562949953421311) : decide ((if IntKind.i64.wrap (now - x) > IntKind.i64.wrap (x - now) then IntKind.i64.wrap (now - x) else IntKind.i64.wrap (x - now)) > sk) = farB now x sk := by
 rw [wid (by omega) (by omega), wid (by omega) (by omega)]
 unfold farB
 exact decide_eq_decide.2 (by split <;> omega)
def evidS (c : T_Config) (realm now : Int) (t : T_Ticket) (target : Int) (rest : T_Rest) (evid : List UInt8) (n : T_Ticket) : T_Ticket × Int :=
 if 0 ≤ t.Client - 3 ∧ svR c (t.Client - 3) = realm ∧ svR c target = realm then
  if (readTicketS evid (pk t.Client)).2 = true ∧ (readTicketS evid (pk t.Client)).1.Service = t.Client - 3 then
   if now > (readTicketS evid (pk t.Client)).1.Rest.End then (n, 4)
   else if hasP c.Proxy ⟨t.Client - 3, target⟩ = true ∧ (readTicketS evid (pk t.Client)).1.Via.length < 4 then
    (⟨(readTicketS evid (pk t.Client)).1.Client, n.Service, n.Key, meetS (readTicketS evid (pk t.Client)).1.Rest rest, (readTicketS evid (pk t.Client)).1.Path, (readTicketS evid (pk t.Client)).1.Via ++ [t.Client - 3]⟩, 0)
   else (n, 6)
  else (n, 1)
 else (n, 6)
theorem sEvid {c : T_Config} (hc : CfgSm c) (hv : CfgV c) {realm now target : Int} (hg : 0 ≤ target ∧ target ≤ 2) {t : T_Ticket} (ht : 0 ≤ t.Client ∧ t.Client ≤ 5) (rest : T_Rest) {evid : List UInt8} (he : evid.length ≤ 1048576) (n : T_Ticket) :
  Ev (fun k => S_l8Evid k c realm now t target rest evid n) (evidS c realm now t target rest evid n) := by
 simp only [S_l8Evid, S_l8Evid.j2, S_l8Evid.j4, S_l8Evid.j6, cond_true]
 rw [wid (n := t.Client - 3) (by omega) (by omega)]
 unfold evidS
 by_cases hs : 0 ≤ t.Client - 3
 rotate_left
 ·rw [decide_eq_true (by omega), if_neg (fun e => hs e.1)]; exact Ev.pure _
 rw [decide_eq_false (by omega), svAt hv (i := t.Client - 3) (by omega), svAt hv hg]
 simp only [cond_false, Option.bind_some]
 refine Ev.ite (fun h => ?_) (fun h1 => Ev.ite (fun h => ?_) (fun h2 => ?_))
 ·rw [if_neg (fun e => by rw [e.2.1] at h; simp at h)]; exact Ev.pure _
 ·rw [if_neg (fun e => by rw [e.2.2] at h; simp at h)]; exact Ev.pure _
 rw [if_pos ⟨hs, by simpa using h1, by simpa using h2⟩]
 simp only [sPK, Option.bind_some]
 refine Ev.bind (sReadTicket evid he _) ?_
 have ln := ticketS_len (s := evid) (key := pk t.Client)
 generalize readTicketS evid (pk t.Client) = x at *
 refine Ev.ite (fun h => ?_) (fun h3 => Ev.ite (fun h => ?_) (fun h4 => ?_))
 ·rw [if_neg (fun e => by rw [e.1] at h; cases h)]; exact Ev.pure _
 ·rw [if_neg (fun e => by rw [e.2] at h; simp at h)]; exact Ev.pure _
 rw [if_pos ⟨by simpa using h3, by simpa using h4⟩]
 refine Ev.ite (fun h => ?_) (fun h5 => ?_)
 ·rw [if_pos (of_decide_eq_true h)]; exact Ev.pure _
 rw [if_neg (of_decide_eq_false h5)]
 refine Ev.bind (sHas _ _ hc.2.2.2) (Ev.ite (fun h => ?_) (fun h6 => Ev.ite (fun h => ?_) (fun h7 => ?_)))
 ·rw [if_neg (fun e => by rw [e.1] at h; cases h)]; exact Ev.pure _
 ·rw [if_neg (fun e => by have := of_decide_eq_true h; omega)]; exact Ev.pure _
 rw [if_pos ⟨by simpa using h6, by have := of_decide_eq_false h7; omega⟩]
 simp only [sMeet, Option.bind_some, List.nil_append, List.length_nil, Nat.zero_add]
 rw [decide_eq_true (by omega), decide_eq_true (by simp only [List.length_cons, List.length_nil]; omega)]
 exact Ev.pure _
theorem evid_n {c : T_Config} {realm now target : Int} {t : T_Ticket} {rest : T_Rest} {evid : List UInt8} {n : T_Ticket} (h1 : n.Path.length ≤ 1000) (h2 : n.Via.length ≤ 1000) :
  (evidS c realm now t target rest evid n).1.Key = n.Key ∧ (evidS c realm now t target rest evid n).1.Service = n.Service ∧ (evidS c realm now t target rest evid n).1.Path.length ≤ 1000 ∧ (evidS c realm now t target rest evid n).1.Via.length ≤ 1000 := by
 have ln := ticketS_len (s := evid) (key := pk t.Client)
 unfold evidS
 repeat' split
 all_goals first | exact ⟨rfl, rfl, h1, h2⟩ | exact ⟨rfl, rfl, by simp only; omega, by simp only [List.length_append, List.length_cons, List.length_nil]; omega⟩
def newT (fresh service : Int) (t : T_Ticket) (rest : T_Rest) : T_Ticket := ⟨t.Client, service, fresh, meetS t.Rest rest, t.Path, t.Via⟩
def delegS (c : T_Config) (realm now fresh target nonce : Int) (t : T_Ticket) (rest : T_Rest) (p4 : List UInt8) : T_Reply :=
 if (evidS c realm now t target rest p4 (newT fresh target t rest)).2 = 0 then
  givenS realm nonce 4 t.Client (evidS c realm now t target rest p4 (newT fresh target t rest)).1.Client t.Key (readTicketS p4 (pk t.Client)).1.Key (evidS c realm now t target rest p4 (newT fresh target t rest)).1 (pk (3 + target)) t.Key
 else failS (evidS c realm now t target rest p4 (newT fresh target t rest)).2
def issueS (c : T_Config) (realm fresh target nonce : Int) (t : T_Ticket) (rest : T_Rest) : T_Reply :=
 if svR c target = realm then givenS realm nonce 2 t.Client t.Client t.Key 0 (newT fresh target t rest) (pk (3 + target)) t.Key
 else if nextHop c realm (svR c target) < 0 then failS 5
 else givenS realm nonce 3 t.Client t.Client t.Key 0 (newT fresh (10 + nextHop c realm (svR c target)) t rest) (lk realm (nextHop c realm (svR c target))) t.Key
def askU (c : T_Config) (realm now fresh target nonce : Int) (t : T_Ticket) (rest : T_Rest) (p4 : List UInt8) : T_Reply :=
 if 6 < t.Path.length then failS 5
 else if p4 = atomS [] then issueS c realm fresh target nonce t rest
 else delegS c realm now fresh target nonce t rest p4
def askT (c : T_Config) (realm now fresh target nonce : Int) (t : T_Ticket) (rest : T_Rest) (p2 p4 : List UInt8) : T_Reply :=
 if (readAuthS p2 t.Key).2 = true ∧ (readAuthS p2 t.Key).1.Client = t.Client then
  if farB now (readAuthS p2 t.Key).1.Time c.Skew = true then failS 3
  else if now > t.Rest.End then failS 4
  else askU c realm now fresh target nonce t rest p4
 else failS 2
def askS (c : T_Config) (realm now fresh target nonce : Int) (p1 p2 p3 p4 : List UInt8) : T_Reply :=
 if isIn target 0 2 = true ∧ (readRestS p3).2 = true ∧ (shownS c realm p1).2 = true then askT c realm now fresh target nonce (shownS c realm p1).1 (readRestS p3).1 p2 p4 else failS 1
theorem auth_ok {s : List UInt8} {key : Int} (h : (readAuthS s key).2 = true) : authB (readAuthS s key).1 = true := by
 unfold readAuthS at h ⊢
 by_cases h4 : (readNumsS (openS s key).1).1.length = 4
 ·obtain ⟨x, b, c, d, e⟩ := four h4
  rw [e] at h ⊢
  simp only [pick4] at h ⊢
  split at h
  ·rename_i g
   rw [if_pos g]; exact g.2
  ·cases h
 ·rw [notFour h4] at h; cases h
theorem auth_t {a : T_Auth} (h : authB a = true) : 0 ≤ a.Time ∧ a.Time ≤ 100000 := by
 unfold authB at h
 simp only [Bool.and_eq_true] at h
 exact of_decide_eq_true h.2.1
theorem sJ2 {n : T_Ticket} {fresh : Int} (hf : n.Key = fresh) (nonce key cl sv tk a b d : Int) (P V : List Int) (kind realm evid : Int) (h1 : n.Path.length ≤ 1000) (h2 : n.Via.length ≤ 1000) :
  Ev (fun k => S_l8Ask.j2 k fresh nonce key cl sv tk a b d P V n.Client n.Service n.Key n.Rest.Servers n.Rest.Ops n.Rest.End n.Path n.Via kind realm evid) (givenS realm nonce kind cl n.Client tk evid n key tk) := by
 subst hf
 simp only [S_l8Ask.j2]
 exact Ev.bind (sShowTicket key h1 h2) (Ev.bind (sShowGrant _ tk) (Ev.bind (sReply nonce _ (showTicketS_len _ _) (showGrantS_len _ _)) (Ev.pure _)))
theorem sAskJ {c : T_Config} (hc : CfgSm c) (hk : cfgOk c = true) {realm now fresh target nonce : Int} (hr : isR realm = true) (hg : 0 ≤ target ∧ target ≤ 2) {t : T_Ticket} {path : List Int} (ht : 0 ≤ t.Client ∧ t.Client ≤ 5) (hp : path.length ≤ 100) (hw : t.Via.length ≤ 100) (rest : T_Rest) {p1 p2 p3 p4 : List UInt8} (h4 : p4.length ≤ 1048576) :
  Ev (fun k => S_l8Ask.j1 k realm now fresh target nonce [p1, p2, p3, p4] path c rest.Servers rest.Ops rest.End t.Client t.Service t.Key t.Rest.Servers t.Rest.Ops t.Rest.End t.Path t.Via) (askU c realm now fresh target nonce ⟨t.Client, t.Service, t.Key, t.Rest, path, t.Via⟩ rest p4) := by
 have hv := cfgV hk
 have br := isR_iff.1 hr
 simp only [S_l8Ask.j1, S_l8Fail, sMeet, sPK, sLK, Option.bind_some]
 unfold askU
 refine Ev.ite (fun h => ?_) (fun h => ?_)
 ·rw [if_pos (show 6 < path.length by have := of_decide_eq_true h; omega)]; exact Ev.pure _
 rw [if_neg (show ¬ 6 < path.length by have := of_decide_eq_false h; omega), wid (n := 3 + target) (by omega) (by omega)]
 refine Ev.at? (i := 3) (b := p4) rfl (Ev.bind (sAtom [] (by simp)) (Ev.ite (fun h => ?_) (fun h => ?_)))
 ·rw [if_neg (by simpa using h)]
  refine Ev.at? (i := 3) (b := p4) rfl (Ev.bind (sEvid hc hv hg ht rest h4 (newT fresh target ⟨t.Client, t.Service, t.Key, t.Rest, path, t.Via⟩ rest)) ?_)
  show Ev _ (delegS c realm now fresh target nonce ⟨t.Client, t.Service, t.Key, t.Rest, path, t.Via⟩ rest p4)
  have en := evid_n (c := c) (realm := realm) (now := now) (target := target) (t := t) (rest := rest) (evid := p4) (n := newT fresh target ⟨t.Client, t.Service, t.Key, t.Rest, path, t.Via⟩ rest) (by simp only [newT]; omega) (by simp only [newT]; omega)
  unfold delegS
  have ee : evidS c realm now ⟨t.Client, t.Service, t.Key, t.Rest, path, t.Via⟩ target rest p4 (newT fresh target ⟨t.Client, t.Service, t.Key, t.Rest, path, t.Via⟩ rest) = evidS c realm now t target rest p4 (newT fresh target ⟨t.Client, t.Service, t.Key, t.Rest, path, t.Via⟩ rest) := rfl
  rw [ee]
  generalize evidS c realm now t target rest p4 (newT fresh target ⟨t.Client, t.Service, t.Key, t.Rest, path, t.Via⟩ rest) = R at en ⊢
  refine Ev.ite (fun e => ?_) (fun e => ?_)
  ·rw [if_neg (by simpa using e)]; exact Ev.pure _
  rw [if_pos (by simpa using e)]
  refine Ev.at? (i := 3) (b := p4) rfl (Ev.bind (sReadTicket p4 h4 _) ?_)
  have := sJ2 (n := R.1) en.1 nonce (pk (3 + target)) t.Client t.Service t.Key t.Rest.Servers t.Rest.Ops t.Rest.End t.Path t.Via 4 realm (readTicketS p4 (pk t.Client)).1.Key en.2.2.1 en.2.2.2
  exact this
 ·rw [if_pos (by simpa using h), svAt hv hg]
  simp only [Option.bind_some]
  unfold issueS
  have hS := svR_in hv hg
  refine Ev.ite (fun e => ?_) (fun e => ?_)
  ·have e : svR c target ≠ realm := by simpa using e
   rw [if_neg e]
   refine Ev.bind (sNextHop hc realm (svR c target)) (Ev.ite (fun f => ?_) (fun f => ?_))
   ·rw [if_pos (of_decide_eq_true f)]; exact Ev.pure _
   rw [if_neg (of_decide_eq_false f)]
   have bn : nextHop c realm (svR c target) ≤ 2 := by
    rcases nextHop_lt hk hr hS (fun e' => e e'.symm) with g | ⟨g, _⟩
    ·omega
    ·exact (isR_iff.1 g).2
   have := of_decide_eq_false f
   rw [wid (n := 10 + nextHop c realm (svR c target)) (by omega) (by omega)]
   exact sJ2 (n := newT fresh (10 + nextHop c realm (svR c target)) ⟨t.Client, t.Service, t.Key, t.Rest, path, t.Via⟩ rest) rfl nonce _ t.Client t.Service t.Key t.Rest.Servers t.Rest.Ops t.Rest.End t.Path t.Via 3 realm 0 (by simp only [newT]; omega) (by simp only [newT]; omega)
  ·rw [if_pos (by simpa using e)]
   exact sJ2 (n := newT fresh target ⟨t.Client, t.Service, t.Key, t.Rest, path, t.Via⟩ rest) rfl nonce _ t.Client t.Service t.Key t.Rest.Servers t.Rest.Ops t.Rest.End t.Path t.Via 2 realm 0 (by simp only [newT]; omega) (by simp only [newT]; omega)
theorem sAsk {c : T_Config} (hc : CfgSm c) (hk : cfgOk c = true) {realm now : Int} (hr : isR realm = true) (hn : 0 ≤ now ∧ now ≤ 100000) (fresh target nonce : Int) {p1 p2 p3 p4 : List UInt8} (h1 : p1.length ≤ 900) (h2 : p2.length ≤ 900) (h3 : p3.length ≤ 900) (h4 : p4.length ≤ 900) :
  Ev (fun k => S_l8Ask k c realm now fresh target nonce [p1, p2, p3, p4]) (askS c realm now fresh target nonce p1 p2 p3 p4) := by
 simp only [S_l8Ask, S_l8Fail, Option.bind_some]
 refine Ev.at? (i := 2) (b := p3) rfl (Ev.bind (sReadRest p3 (by omega)) (Ev.at? (i := 0) (b := p1) rfl (Ev.bind (sShown hc hr (by omega)) ?_)))
 obtain ⟨q1, q2⟩ := shown_eq (c := c) (s := p1) hr
 have q3 := shownS_ok (c := c) (realm := realm) (s := p1)
 unfold askS
 generalize shownQ c realm p1 = R at q1 q2 ⊢
 generalize shownS c realm p1 = T at q1 q2 q3 ⊢
 obtain ⟨t, f, ok⟩ := R
 obtain ⟨T, ok'⟩ := T
 simp only at q1 q2 q3 ⊢
 subst q1
 by_cases g : isIn target 0 2 = true ∧ (readRestS p3).2 = true ∧ ok = true
 rotate_left
 ·rw [if_neg g]
  refine Ev.ite (fun _ => Ev.pure _) (fun f1 => Ev.ite (fun _ => Ev.pure _) (fun f2 => Ev.ite (fun _ => Ev.pure _) (fun f3 => Ev.ite (fun _ => Ev.pure _) (fun f4 => ?_))))
  refine absurd ⟨decide_eq_true ?_, by simpa using f3, by simpa using f4⟩ g
  have := of_decide_eq_false f1; have := of_decide_eq_false f2; omega
 rw [if_pos g]
 obtain ⟨g1, g2, g3⟩ := g
 have bt := of_decide_eq_true g1
 subst g3
 rw [decide_eq_false (show ¬ target < 0 by omega), decide_eq_false (show ¬ target ≥ 3 by omega), g2]
 simp only [Bool.not_true, cond_false]
 obtain ⟨t0, q, tb, hT⟩ := q3 rfl
 have e := q2 rfl
 have bT : (0 ≤ T.Client ∧ T.Client ≤ 5) ∧ T.Path.length ≤ 7 ∧ T.Via.length ≤ 4 := by
  obtain ⟨a1, a2, a3⟩ := tk_cl tb
  rcases hT with rfl | rfl
  ·exact ⟨a1, by omega, a3⟩
  ·exact ⟨a1, by simp only [addP, List.length_append, List.length_cons, List.length_nil]; omega, a3⟩
 obtain ⟨b1, b2, b3⟩ := bT
 have key : ∀ path : List Int, path.length ≤ 7 → T = ⟨t.Client, t.Service, t.Key, t.Rest, path, t.Via⟩ → Ev (fun k => S_l8Ask.j1 k realm now fresh target nonce [p1, p2, p3, p4] path c (readRestS p3).1.Servers (readRestS p3).1.Ops (readRestS p3).1.End t.Client t.Service t.Key t.Rest.Servers t.Rest.Ops t.Rest.End t.Path t.Via) (askU c realm now fresh target nonce T (readRestS p3).1 p4) := by
  intro path hl eT
  rw [eT] at b1 b3 ⊢
  exact sAskJ hc hk hr bt b1 (by omega) (Nat.le_trans b3 (by omega)) _ (by omega)
 have ek : T.Key = t.Key ∧ T.Client = t.Client ∧ T.Rest = t.Rest := by
  rw [e]; unfold addF; split
  ·exact ⟨rfl, rfl, rfl⟩
  ·exact ⟨rfl, rfl, rfl⟩
 obtain ⟨e1, e2, e3⟩ := ek
 refine Ev.at? (i := 1) (b := p2) rfl (Ev.bind (sReadAuth p2 (by omega) _) ?_)
 unfold askT
 rw [e1, e2, e3]
 by_cases a : (readAuthS p2 t.Key).2 = true ∧ (readAuthS p2 t.Key).1.Client = t.Client
 rotate_left
 ·rw [if_neg a]
  refine Ev.ite (fun _ => Ev.pure _) (fun f1 => Ev.ite (fun _ => Ev.pure _) (fun f2 => ?_))
  exact absurd ⟨by simpa using f1, by simpa using f2⟩ a
 rw [if_pos a]
 have at1 := auth_t (auth_ok a.1)
 refine Ev.ite (fun h => by rw [a.1] at h; cases h) (fun _ => Ev.ite (fun h => by rw [a.2] at h; simp at h) (fun _ => ?_))
 simp only [sFarB _ hn (show 0 ≤ (readAuthS p2 t.Key).1.Time ∧ (readAuthS p2 t.Key).1.Time ≤ 562949953421311 by omega), Option.bind_some]
 refine Ev.ite (fun h => ?_) (fun h => Ev.ite (fun h' => ?_) (fun h' => ?_))
 ·rw [if_pos h]; exact Ev.pure _
 ·rw [if_neg (by rw [h]; simp), if_pos (of_decide_eq_true h')]; exact Ev.pure _
 rw [if_neg (by rw [h]; simp), if_neg (of_decide_eq_false h')]
 have pl : t.Path.length ≤ 7 := by
  have := b2
  rw [e] at this
  unfold addF at this
  split at this
  ·simp only [addP, List.length_append, List.length_cons, List.length_nil] at this; omega
  ·exact this
 simp only [List.nil_append, List.length_nil, Nat.zero_add]
 rw [decide_eq_true (by omega)]
 simp only [cond_true]
 refine Ev.ite (fun hf => ?_) (fun hf => ?_)
 ·rw [decide_eq_true (by simp only [List.length_cons, List.length_nil]; omega)]
  have eT : T = addP t f := by rw [e]; exact if_pos (of_decide_eq_true hf)
  refine key _ ?_ eT
  rw [eT] at b2; exact b2
 ·have eT : T = t := by rw [e]; exact if_neg (of_decide_eq_false hf)
  exact key _ pl eT
theorem iDeleg {a : T_asked} (hc : CfgSm a.c) (hk : cfgOk a.c = true) {target : Int} (hg : 0 ≤ target ∧ target ≤ 2) {t : T_Ticket} (ht : 0 ≤ t.Client ∧ t.Client ≤ 5) (hp : t.Path.length ≤ 100) (hw : t.Via.length ≤ 100) (rest : T_Rest) {p4 : List UInt8} (hq : a.parts[4]? = some p4) (h4 : p4.length ≤ 1048576) :
  Ev (fun k => I_asked_delegate k a t target rest) (delegS a.c a.realm a.now a.fresh target a.nonce t rest p4) := by
 have hv := cfgV hk
 simp only [I_asked_delegate, I_asked_delegate.j2, iSvc, iPK, iMeet, Option.bind_some, cond_true]
 rw [wid (n := t.Client - 3) (by omega) (by omega), wid (n := 3 + target) (by omega) (by omega)]
 unfold delegS evidS
 by_cases hs : 0 ≤ t.Client - 3
 rotate_left
 ·rw [if_neg (c := 0 ≤ t.Client - 3 ∧ svR a.c (t.Client - 3) = a.realm ∧ svR a.c target = a.realm) (fun e => hs e.1), show isIn (t.Client - 3) 0 2 = false from decide_eq_false (by omega)]
  exact Ev.pure _
 rw [show isIn (t.Client - 3) 0 2 = true from decide_eq_true (by omega), svAt hv (i := t.Client - 3) (by omega), svAt hv hg]
 simp only [Bool.not_true, cond_false, Option.bind_some]
 refine Ev.ite (fun h => ?_) (fun h1 => Ev.ite (fun h => ?_) (fun h2 => ?_))
 ·rw [if_neg (c := 0 ≤ t.Client - 3 ∧ svR a.c (t.Client - 3) = a.realm ∧ svR a.c target = a.realm) (fun e => by rw [e.2.1] at h; simp at h)]; exact Ev.pure _
 ·rw [if_neg (c := 0 ≤ t.Client - 3 ∧ svR a.c (t.Client - 3) = a.realm ∧ svR a.c target = a.realm) (fun e => by rw [e.2.2] at h; simp at h)]; exact Ev.pure _
 rw [if_pos (c := 0 ≤ t.Client - 3 ∧ svR a.c (t.Client - 3) = a.realm ∧ svR a.c target = a.realm) ⟨hs, by simpa using h1, by simpa using h2⟩]
 refine Ev.at? (i := 4) hq (Ev.bind (iReadTicket p4 h4 _) ?_)
 have ln := ticketS_len (s := p4) (key := pk t.Client)
 generalize readTicketS p4 (pk t.Client) = x at *
 refine Ev.ite (fun h => ?_) (fun h3 => Ev.ite (fun h => ?_) (fun h4 => ?_))
 ·rw [if_neg (c := x.2 = true ∧ x.1.Service = t.Client - 3) (fun e => by rw [e.1] at h; cases h)]; exact Ev.pure _
 ·rw [if_neg (c := x.2 = true ∧ x.1.Service = t.Client - 3) (fun e => by rw [e.2] at h; simp at h)]; exact Ev.pure _
 rw [if_pos (c := x.2 = true ∧ x.1.Service = t.Client - 3) ⟨by simpa using h3, by simpa using h4⟩]
 refine Ev.ite (fun h => ?_) (fun h5 => ?_)
 ·rw [if_pos (c := a.now > x.1.Rest.End) (of_decide_eq_true h)]; exact Ev.pure _
 rw [if_neg (c := a.now > x.1.Rest.End) (of_decide_eq_false h5)]
 refine Ev.bind (iHas _ _ hc.2.2.2) (Ev.ite (fun h => ?_) (fun h6 => Ev.ite (fun h => ?_) (fun h7 => ?_)))
 ·rw [if_neg (c := hasP a.c.Proxy ⟨t.Client - 3, target⟩ = true ∧ x.1.Via.length < 4) (fun e => by rw [e.1] at h; cases h)]; exact Ev.pure _
 ·rw [if_neg (c := hasP a.c.Proxy ⟨t.Client - 3, target⟩ = true ∧ x.1.Via.length < 4) (fun e => by have := of_decide_eq_true h; omega)]; exact Ev.pure _
 rw [if_pos (c := hasP a.c.Proxy ⟨t.Client - 3, target⟩ = true ∧ x.1.Via.length < 4) ⟨by simpa using h6, by have := of_decide_eq_false h7; omega⟩]
 refine Ev.bind (iCopyI' (by omega)) ?_
 rw [decide_eq_true (by simp only [List.length_cons, List.length_nil]; omega)]
 exact Ev.bind (iGiven a _ (t := ⟨x.1.Client, target, a.fresh, meetS x.1.Rest rest, x.1.Path, x.1.Via ++ [t.Client - 3]⟩) (pk (3 + target)) t.Key ⟨by simp only; omega, by simp only; omega⟩ (by simp only; omega) (by simp only [List.length_append, List.length_cons, List.length_nil]; omega)) (Ev.pure _)
theorem iAsk {a : T_asked} (hc : CfgSm a.c) (hk : cfgOk a.c = true) (hr : isR a.realm = true) (hn : 0 ≤ a.now ∧ a.now ≤ 100000) (target : Int) {p0 p1 p2 p3 p4 : List UInt8} (hp : a.parts = [p0, p1, p2, p3, p4]) (h1 : p1.length ≤ 900) (h2 : p2.length ≤ 900) (h3 : p3.length ≤ 900) (h4 : p4.length ≤ 900) :
  Ev (fun k => I_asked_ask k a target) (askS a.c a.realm a.now a.fresh target a.nonce p1 p2 p3 p4) := by
 have hv := cfgV hk
 have br := isR_iff.1 hr
 simp only [I_asked_ask, iSvc, Option.bind_some]
 refine Ev.at? (i := 3) (b := p3) (by rw [hp]; rfl) (Ev.bind (iReadRest p3 (by omega)) (Ev.bind (iTicket hc hr (s := p1) (by rw [hp]; rfl) (by omega)) ?_))
 have q3 := shownS_ok (c := a.c) (realm := a.realm) (s := p1)
 unfold askS
 generalize shownS a.c a.realm p1 = T at q3 ⊢
 obtain ⟨t, ok⟩ := T
 simp only at q3 ⊢
 by_cases g : isIn target 0 2 = true ∧ (readRestS p3).2 = true ∧ ok = true
 rotate_left
 ·rw [if_neg g]
  refine Ev.ite (fun _ => Ev.pure _) (fun f1 => Ev.ite (fun _ => Ev.pure _) (fun f2 => Ev.ite (fun _ => Ev.pure _) (fun f3 => ?_)))
  exact absurd ⟨by simpa using f1, by simpa using f2, by simpa using f3⟩ g
 rw [if_pos g]
 obtain ⟨g1, g2, g3⟩ := g
 have bt := of_decide_eq_true g1
 rw [g1, g2, g3]
 simp only [Bool.not_true, cond_false]
 obtain ⟨t0, q, tb, hT⟩ := q3 g3
 have bT : (0 ≤ t.Client ∧ t.Client ≤ 5) ∧ t.Path.length ≤ 7 ∧ t.Via.length ≤ 4 := by
  obtain ⟨a1, a2, a3⟩ := tk_cl tb
  rcases hT with rfl | rfl
  ·exact ⟨a1, by omega, a3⟩
  ·exact ⟨a1, by simp only [addP, List.length_append, List.length_cons, List.length_nil]; omega, a3⟩
 obtain ⟨b1, b2, b3⟩ := bT
 refine Ev.at? (i := 2) (b := p2) (by rw [hp]; rfl) (Ev.bind (iReadAuth p2 (by omega) _) ?_)
 unfold askT
 simp only [I_asked_ask.j2, I_asked_ask.j3, I_apart, iMeet, iPK, iLK, Option.bind_some, cond_true]
 by_cases au : (readAuthS p2 t.Key).2 = true ∧ (readAuthS p2 t.Key).1.Client = t.Client
 rotate_left
 ·rw [if_neg au]
  refine Ev.ite (fun _ => Ev.pure _) (fun f1 => Ev.ite (fun _ => Ev.pure _) (fun f2 => ?_))
  exact absurd ⟨by simpa using f1, by simpa using f2⟩ au
 rw [if_pos au]
 have at1 := auth_t (auth_ok au.1)
 refine Ev.ite (fun h => by rw [au.1] at h; cases h) (fun _ => Ev.ite (fun h => by rw [au.2] at h; simp at h) (fun _ => ?_))
 rw [iFarB hn (show 0 ≤ (readAuthS p2 t.Key).1.Time ∧ (readAuthS p2 t.Key).1.Time ≤ 562949953421311 by omega), wid (n := 3 + target) (by omega) (by omega)]
 refine Ev.ite (fun h => ?_) (fun h => Ev.ite (fun h' => ?_) (fun h' => ?_))
 ·rw [if_pos h]; exact Ev.pure _
 ·rw [if_neg (by rw [h]; simp), if_pos (of_decide_eq_true h')]; exact Ev.pure _
 rw [if_neg (by rw [h]; simp), if_neg (of_decide_eq_false h')]
 unfold askU
 refine Ev.ite (fun e => ?_) (fun e => ?_)
 ·rw [if_pos (show 6 < t.Path.length by have := of_decide_eq_true e; omega)]; exact Ev.pure _
 rw [if_neg (show ¬ 6 < t.Path.length by have := of_decide_eq_false e; omega)]
 refine Ev.at? (i := 4) (b := p4) (by rw [hp]; rfl) (Ev.bind (iAtom [] (by simp)) (Ev.ite (fun e => ?_) (fun e => ?_)))
 ·rw [if_neg (by simpa using e)]
  exact Ev.bind (iDeleg hc hk bt b1 (by omega) (by omega) _ (by rw [hp]; rfl) (by omega)) (Ev.pure _)
 ·rw [if_pos (by simpa using e), svAt hv bt]
  simp only [Option.bind_some]
  unfold issueS
  have hS := svR_in hv bt
  refine Ev.ite (fun e => ?_) (fun e => ?_)
  ·have e : svR a.c target ≠ a.realm := by simpa using e
   rw [if_neg e]
   refine Ev.bind (iNextHop hc a.realm (svR a.c target)) (Ev.ite (fun f => ?_) (fun f => ?_))
   ·rw [if_pos (of_decide_eq_true f)]; exact Ev.pure _
   rw [if_neg (of_decide_eq_false f)]
   have bn : nextHop a.c a.realm (svR a.c target) ≤ 2 := by
    rcases nextHop_lt hk hr hS (fun e' => e e'.symm) with g | ⟨g, _⟩
    ·omega
    ·exact (isR_iff.1 g).2
   have := of_decide_eq_false f
   rw [wid (n := 10 + nextHop a.c a.realm (svR a.c target)) (by omega) (by omega)]
   exact Ev.bind (iGiven a _ (t := newT a.fresh (10 + nextHop a.c a.realm (svR a.c target)) t (readRestS p3).1) _ t.Key ⟨by simp only [newT]; omega, by simp only [newT]; omega⟩ (by simp only [newT]; omega) (by simp only [newT]; omega)) (Ev.pure _)
  ·rw [if_pos (by simpa using e)]
   exact Ev.bind (iGiven a _ (t := newT a.fresh target t (readRestS p3).1) _ t.Key ⟨by simp only [newT]; omega, by simp only [newT]; omega⟩ (by simp only [newT]; omega) (by simp only [newT]; omega)) (Ev.pure _)
def loginT (c : T_Config) (realm now fresh nonce p y : Int) : T_Reply :=
 if farB now y c.Skew = true then failS 3 else if now + 50 > 100000 then failS 4 else givenS realm nonce 1 p p 0 0 ⟨p, 10 + realm, fresh, ⟨7, 255, now + 50⟩, [], []⟩ (ck realm) (pk p)
def loginS (c : T_Config) (realm now fresh p nonce : Int) (pre : List UInt8) : T_Reply :=
 if realmOf c p = realm then pick2 (fun x y => if x = 8 then loginT c realm now fresh nonce p y else failS 2) (failS 2) (readNumsS (openS pre (pk p)).1).1 else failS 1
theorem sLogin {c : T_Config} (hc : CfgSm c) {realm now : Int} (hr : isR realm = true) (hn : 0 ≤ now ∧ now ≤ 100000) (fresh p nonce : Int) {pre : List UInt8} (h1 : pre.length ≤ 900) : Ev (fun k => S_l8Login k c realm now fresh p nonce pre) (loginS c realm now fresh p nonce pre) := by
 have br := isR_iff.1 hr
 have ho := openS_len pre (pk p)
 simp only [S_l8Login, S_l8Fail, sPK, sCK, Option.bind_some]
 refine Ev.bind (sRealmOf hc p) ?_
 unfold loginS
 refine Ev.ite (fun h => ?_) (fun h => ?_)
 ·rw [if_neg (by simpa using h)]; exact Ev.pure _
 rw [if_pos (by simpa using h)]
 refine Ev.bind (sOpen pre (by omega) _) (Ev.bind (sReadNums _ (by omega)) ?_)
 by_cases h2 : (readNumsS (openS pre (pk p)).1).1.length = 2
 ·obtain ⟨x, y, e⟩ := two h2
  have e2 : (readNumsS (openS pre (pk p)).1).2 = true := by
   cases h : (readNumsS (openS pre (pk p)).1).2 with
   | true => rfl
   | false => rw [readNumsS_nil h] at e; cases e
  have by2 : 0 ≤ y ∧ y ≤ 562949953421311 := readNums_bnd (s := (openS pre (pk p)).1) (by rw [e]; simp)
  rw [e, e2]
  simp only [pick2, Bool.not_true, cond_false]
  refine Ev.ite (fun h => by cases h) (fun _ => Ev.at? (i := 0) (b := x) rfl (Ev.ite (fun h => ?_) (fun h => Ev.at? (i := 1) (b := y) rfl ?_)))
  ·rw [if_neg (by simpa using h)]; exact Ev.pure _
  rw [if_pos (by simpa using h)]
  simp only [sFarB _ hn by2, Option.bind_some]
  unfold loginT
  rw [wid (n := now + 50) (by omega) (by omega), wid (n := 10 + realm) (by omega) (by omega)]
  refine Ev.ite (fun h => ?_) (fun h => Ev.ite (fun h' => ?_) (fun h' => ?_))
  ·rw [if_pos h]; exact Ev.pure _
  ·rw [if_neg (by rw [h]; simp), if_pos (of_decide_eq_true h')]; exact Ev.pure _
  rw [if_neg (by rw [h]; simp), if_neg (of_decide_eq_false h')]
  exact Ev.bind (sShowTicket _ (by simp) (by simp)) (Ev.bind (sShowGrant _ _) (Ev.bind (sReply nonce _ (showTicketS_len _ _) (showGrantS_len _ _)) (Ev.pure _)))
 ·rw [notTwo h2, lenNe2 h2]
  exact Ev.ite (fun _ => Ev.pure _) (fun _ => Ev.pure _)
theorem iLogin {a : T_asked} (hc : CfgSm a.c) (hr : isR a.realm = true) (hn : 0 ≤ a.now ∧ a.now ≤ 100000) (p : Int) {p0 pre : List UInt8} (hp : a.parts = [p0, pre]) (h1 : pre.length ≤ 900) : Ev (fun k => I_asked_login k a p) (loginS a.c a.realm a.now a.fresh p a.nonce pre) := by
 have br := isR_iff.1 hr
 have ho := openS_len pre (pk p)
 simp only [I_asked_login, I_asked_login.j2, I_apart, iPK, iCK, Option.bind_some, cond_true]
 refine Ev.at? (i := 1) (b := pre) (by rw [hp]; rfl) (Ev.bind (iOpen pre (by omega) _) (Ev.bind (iReadNums _ (by omega)) (Ev.bind (iRealmOf hc p) ?_)))
 unfold loginS
 refine Ev.ite (fun h => ?_) (fun h => ?_)
 ·rw [if_neg (by simpa using h)]; exact Ev.pure _
 rw [if_pos (by simpa using h)]
 by_cases h2 : (readNumsS (openS pre (pk p)).1).1.length = 2
 ·obtain ⟨x, y, e⟩ := two h2
  have e2 : (readNumsS (openS pre (pk p)).1).2 = true := by
   cases h : (readNumsS (openS pre (pk p)).1).2 with
   | true => rfl
   | false => rw [readNumsS_nil h] at e; cases e
  have e3 : (openS pre (pk p)).2 = true := by
   cases h : (openS pre (pk p)).2 with
   | true => rfl
   | false =>
    rw [openS_nil h, show (readNumsS []).1 = [] from by decide +kernel] at e
    cases e
  have by2 : 0 ≤ y ∧ y ≤ 562949953421311 := readNums_bnd (s := (openS pre (pk p)).1) (by rw [e]; simp)
  rw [e, e2, e3]
  simp only [pick2, Bool.not_true, cond_false]
  refine Ev.ite (fun h => by cases h) (fun _ => Ev.at? (i := 0) (b := x) rfl (Ev.ite (fun h => ?_) (fun h => Ev.at? (i := 1) (b := y) rfl ?_)))
  ·rw [if_neg (c := x = 8) (by simpa using h)]; exact Ev.pure _
  rw [if_pos (c := x = 8) (by simpa using h)]
  have fb : decide ((if IntKind.i64.wrap (a.now - y) > IntKind.i64.wrap (y - a.now) then IntKind.i64.wrap (a.now - y) else IntKind.i64.wrap (y - a.now)) > a.c.Skew) = farB a.now y a.c.Skew := iFarB hn by2
  rw [fb]
  unfold loginT
  rw [wid (n := a.now + 50) (by omega) (by omega), wid (n := 10 + a.realm) (by omega) (by omega)]
  refine Ev.ite (fun h => ?_) (fun h => Ev.ite (fun h' => ?_) (fun h' => ?_))
  ·rw [if_pos h]; exact Ev.pure _
  ·rw [if_neg (by rw [h]; simp), if_pos (of_decide_eq_true h')]; exact Ev.pure _
  rw [if_neg (by rw [h]; simp), if_neg (of_decide_eq_false h')]
  exact Ev.bind (iGiven a _ (t := ⟨p, 10 + a.realm, a.fresh, ⟨7, 255, a.now + 50⟩, [], []⟩) _ _ ⟨by simp only; omega, by simp only; omega⟩ (by simp) (by simp)) (Ev.pure _)
 ·rw [notTwo h2, lenNe2 h2]
  exact Ev.ite (fun _ => Ev.pure _) (fun _ => Ev.ite (fun _ => Ev.pure _) (fun _ => Ev.pure _))
def bodyS (c : T_Config) (realm now fresh h0 h1 h2 : Int) : List (List UInt8) → T_Reply
 | [_, q] => if h0 = 1 then loginS c realm now fresh h1 h2 q else failS 1
 | [_, p1, p2, p3, p4] => if h0 = 2 then askS c realm now fresh h1 h2 p1 p2 p3 p4 else failS 1
 | _ => failS 1
theorem bodyN {c : T_Config} {realm now fresh h0 h1 h2 : Int} : ∀ {l : List (List UInt8)}, l.length ≠ 2 → l.length ≠ 5 → bodyS c realm now fresh h0 h1 h2 l = failS 1
 | [], _, _ => rfl
 | [_], _, _ => rfl
 | [_, _], h, _ => absurd rfl h
 | [_, _, _], _, _ => rfl
 | [_, _, _, _], _, _ => rfl
 | [_, _, _, _, _], _, h => absurd rfl h
 | _ :: _ :: _ :: _ :: _ :: _ :: _, _, _ => rfl
def headS (c : T_Config) (realm now fresh : Int) (l : List (List UInt8)) (n : List Int) : T_Reply := pick3 (fun h0 h1 h2 => if isIn h2 0 1000000 = true then bodyS c realm now fresh h0 h1 h2 l else failS 1) (failS 1) n
def centreS (c : T_Config) (realm now fresh : Int) (req : List UInt8) : T_Reply :=
 if cfgOk c = true ∧ isR realm = true ∧ isIn now 0 100000 = true ∧ isIn fresh 101 1000000 = true then headS c realm now fresh (partsS req).1 (readNumsS ((partsS req).1.headD [])).1 else failS 1
theorem sNo (k : Nat) (n : Int) : S_l8No k n = some (!isIn n 0 1000000) := by
 unfold S_l8No isIn
 simp only [Bool.cond_decide]
 split
 ·rw [decide_eq_false (by omega)]; rfl
 ·rw [← decide_not]; exact congrArg some (decide_eq_decide.2 (by omega))
theorem sCentre {c : T_Config} (hc : CfgSm c) (realm now fresh : Int) {req : List UInt8} (hq : req.length ≤ 1048576) : Ev (fun k => S_Centre k c realm now fresh req) (centreS c realm now fresh req) := by
 simp only [S_Centre, S_Centre.j2, S_Centre.j4, S_l8Fail, sRealm, sIn, sNo, Option.bind_some, cond_false]
 refine Ev.bind (sParts req hq) (Ev.bind (sConfigOk hc) ?_)
 unfold centreS
 by_cases g : cfgOk c = true ∧ isR realm = true ∧ isIn now 0 100000 = true ∧ isIn fresh 101 1000000 = true
 rotate_left
 ·rw [if_neg g]
  refine Ev.ite (fun _ => Ev.pure _) (fun f1 => Ev.ite (fun _ => Ev.pure _) (fun f2 => Ev.ite (fun _ => Ev.pure _) (fun f3 => Ev.ite (fun _ => Ev.pure _) (fun f4 => ?_))))
  exact absurd ⟨by simpa using f1, by simpa using f2, by simpa using f3, by simpa using f4⟩ g
 rw [if_pos g]
 obtain ⟨g1, g2, g3, g4⟩ := g
 have bn := of_decide_eq_true g3
 rw [g1, g2, g3, g4]
 simp only [Bool.not_true, cond_false]
 obtain ⟨_, pe⟩ := partsS_len req
 generalize (partsS req).1 = L at pe ⊢
 cases L with
 | nil =>
  rw [show (readNumsS (([] : List (List UInt8)).headD [])).1 = [] from by decide +kernel]
  exact Ev.pure _
 | cons p0 ps =>
  refine Ev.ite (fun h => ?_) (fun _ => Ev.at? (i := 0) (b := p0) rfl (Ev.bind (sReadNums p0 (by have := pe p0 (by simp); omega)) ?_))
  ·simp at h; omega
  show Ev _ (headS c realm now fresh (p0 :: ps) (readNumsS p0).1)
  unfold headS
  by_cases h3 : (readNumsS p0).1.length = 3
  rotate_left
  ·rw [notThree h3, lenNe3 h3]
   exact Ev.ite (fun _ => Ev.pure _) (fun _ => Ev.pure _)
  obtain ⟨h0, h1, h2, e⟩ := three h3
  have e2 : (readNumsS p0).2 = true := by
   cases h : (readNumsS p0).2 with
   | true => rfl
   | false => rw [readNumsS_nil h] at e; cases e
  rw [e, e2]
  simp only [pick3, Bool.not_true, cond_false]
  refine Ev.ite (fun h => by cases h) (fun _ => Ev.at? (i := 2) (b := h2) rfl (Ev.ite (fun h => ?_) (fun h => Ev.at? (i := 0) (b := h0) rfl ?_)))
  ·rw [if_neg (by simpa using h)]; exact Ev.pure _
  rw [if_pos (by simpa using h)]
  by_cases l2 : (p0 :: ps).length = 2
  ·obtain ⟨x, q, el⟩ := two l2
   rw [el] at pe ⊢
   have lq := pe q (by simp)
   show Ev _ (if h0 = 1 then loginS c realm now fresh h1 h2 q else failS 1)
   refine Ev.ite (fun h => ?_) (fun h => ?_)
   ·rw [if_pos (by simpa using h)]
    refine Ev.ite (fun _ => ?_) (fun h => by cases h)
    exact Ev.at? (i := 1) (b := h1) rfl (Ev.at? (i := 2) (b := h2) rfl (Ev.at? (i := 1) (b := q) rfl (Ev.bind (sLogin hc g2 bn fresh h1 h2 lq) (Ev.pure _))))
   ·rw [if_neg (by simpa using h)]
    exact Ev.at? (i := 0) (b := h0) rfl (Ev.ite (fun _ => Ev.pure _) (fun _ => Ev.pure _))
  by_cases l5 : (p0 :: ps).length = 5
  ·obtain ⟨x, p1, p2, p3, p4, el⟩ := five l5
   rw [el] at pe ⊢
   have y1 := pe p1 (by simp); have y2 := pe p2 (by simp); have y3 := pe p3 (by simp); have y4 := pe p4 (by simp)
   show Ev _ (if h0 = 2 then askS c realm now fresh h1 h2 p1 p2 p3 p4 else failS 1)
   have fin : Ev (fun k => (Go.MG.at? [h0, h1, h2] 0).bind fun b95 => bif b95 == 2 then bif (([x, p1, p2, p3, p4] : List (List UInt8)).length : Int) == 5 then (Go.MG.at? [h0, h1, h2] 1).bind fun b90 => (Go.MG.at? [h0, h1, h2] 2).bind fun b91 => (part? [x, p1, p2, p3, p4] 1 (([x, p1, p2, p3, p4] : List (List UInt8)).length : Int)).bind fun b92 => (S_l8Ask k c realm now fresh b90 b91 b92).bind fun r93 => some r93 else some (failS 1) else some (failS 1)) (if h0 = 2 then askS c realm now fresh h1 h2 p1 p2 p3 p4 else failS 1) := by
    refine Ev.at? (i := 0) (b := h0) rfl (Ev.ite (fun h => ?_) (fun h => ?_))
    ·rw [if_pos (by simpa using h)]
     refine Ev.ite (fun _ => ?_) (fun h => by cases h)
     exact Ev.at? (i := 1) (b := h1) rfl (Ev.at? (i := 2) (b := h2) rfl (Ev.bind (Ev.of (r := [p1, p2, p3, p4]) fun _ => rfl) (Ev.bind (sAsk hc g1 g2 bn fresh h1 h2 y1 y2 y3 y4) (Ev.pure _))))
    ·rw [if_neg (by simpa using h)]; exact Ev.pure _
   exact Ev.ite (fun h => Ev.ite (fun h => by cases h) (fun _ => fin)) (fun h => fin)
  rw [bodyN l2 l5]
  have n2 : (((p0 :: ps).length : Int) == 2) = false := beq_eq_false_iff_ne.2 (by omega)
  have n5 : (((p0 :: ps).length : Int) == 5) = false := beq_eq_false_iff_ne.2 (by omega)
  rw [n2, n5]
  have fin : ∀ {f : Nat → Option T_Reply}, Ev (fun k => (Go.MG.at? [h0, h1, h2] 0).bind fun b95 => bif b95 == 2 then bif false then f k else some (failS 1) else some (failS 1)) (failS 1) := fun {f} => Ev.at? (i := 0) (b := h0) rfl (Ev.ite (fun _ => Ev.pure _) (fun _ => Ev.pure _))
  exact Ev.ite (fun h => Ev.ite (fun h => by cases h) (fun _ => fin)) (fun h => fin)
theorem iCentre {c : T_Config} (hc : CfgSm c) (realm now fresh : Int) {req : List UInt8} (hq : req.length ≤ 1048576) : Ev (fun k => I_Centre k c realm now fresh req) (centreS c realm now fresh req) := by
 simp only [I_Centre, I_Centre.j3, I_Centre.j4, iRlm, iTim, iIn, iNon, Option.bind_some, cond_false]
 refine Ev.bind (iParts req hq) (Ev.bind (iConfigOk hc) ?_)
 unfold centreS
 by_cases g : cfgOk c = true ∧ isR realm = true ∧ isIn now 0 100000 = true ∧ isIn fresh 101 1000000 = true
 rotate_left
 ·rw [if_neg g]
  refine Ev.ite (fun _ => Ev.pure _) (fun f1 => Ev.ite (fun _ => Ev.pure _) (fun f2 => Ev.ite (fun _ => Ev.pure _) (fun f3 => Ev.ite (fun _ => Ev.pure _) (fun f4 => ?_))))
  exact absurd ⟨by simpa using f1, by simpa [isR] using f2, by simpa using f3, by simpa using f4⟩ g
 rw [if_pos g]
 obtain ⟨g1, g2, g3, g4⟩ := g
 have bn := of_decide_eq_true g3
 rw [g1, show isIn realm 0 2 = true from g2, g3, g4]
 simp only [Bool.not_true, cond_false]
 obtain ⟨_, pe⟩ := partsS_len req
 have pn : (partsS req).2 = false → (partsS req).1 = [] := fun h => partsS_nil h
 generalize partsS req = R at pe pn ⊢
 obtain ⟨L, b⟩ := R
 simp only at pe pn ⊢
 cases L with
 | nil =>
  rw [show (readNumsS (([] : List (List UInt8)).headD [])).1 = [] from by decide +kernel]
  exact Ev.ite (fun _ => Ev.pure _) (fun _ => Ev.pure _)
 | cons p0 ps =>
  refine Ev.ite (fun h => ?_) (fun _ => Ev.ite (fun h => ?_) (fun _ => Ev.at? (i := 0) (b := p0) rfl (Ev.bind (iReadNums p0 (by have := pe p0 (by simp); omega)) ?_)))
  ·have := pn (by simpa using h); cases this
  ·simp at h; omega
  show Ev _ (headS c realm now fresh (p0 :: ps) (readNumsS p0).1)
  unfold headS
  by_cases h3 : (readNumsS p0).1.length = 3
  rotate_left
  ·rw [notThree h3, lenNe3 h3]
   exact Ev.ite (fun _ => Ev.pure _) (fun _ => Ev.pure _)
  obtain ⟨h0, h1, h2, e⟩ := three h3
  have e2 : (readNumsS p0).2 = true := by
   cases h : (readNumsS p0).2 with
   | true => rfl
   | false => rw [readNumsS_nil h] at e; cases e
  rw [e, e2]
  simp only [pick3, Bool.not_true, cond_false]
  refine Ev.ite (fun h => by cases h) (fun _ => Ev.at? (i := 2) (b := h2) rfl (Ev.ite (fun h => ?_) (fun h => Ev.at? (i := 2) (b := h2) rfl (Ev.at? (i := 0) (b := h0) rfl ?_))))
  ·rw [if_neg (by simpa using h)]; exact Ev.pure _
  rw [if_pos (by simpa using h)]
  by_cases l2 : (p0 :: ps).length = 2
  ·obtain ⟨x, q, el⟩ := two l2
   rw [el] at pe ⊢
   have lq := pe q (by simp)
   show Ev _ (if h0 = 1 then loginS c realm now fresh h1 h2 q else failS 1)
   refine Ev.ite (fun h => ?_) (fun h => ?_)
   ·rw [if_pos (by simpa using h)]
    refine Ev.ite (fun _ => ?_) (fun h => by cases h)
    exact Ev.at? (i := 1) (b := h1) rfl (Ev.bind (iLogin (a := ⟨c, realm, now, fresh, h2, [x, q]⟩) hc g2 bn h1 rfl lq) (Ev.pure _))
   ·rw [if_neg (by simpa using h)]
    exact Ev.at? (i := 0) (b := h0) rfl (Ev.ite (fun _ => Ev.pure _) (fun _ => Ev.pure _))
  by_cases l5 : (p0 :: ps).length = 5
  ·obtain ⟨x, p1, p2, p3, p4, el⟩ := five l5
   rw [el] at pe ⊢
   have y1 := pe p1 (by simp); have y2 := pe p2 (by simp); have y3 := pe p3 (by simp); have y4 := pe p4 (by simp)
   show Ev _ (if h0 = 2 then askS c realm now fresh h1 h2 p1 p2 p3 p4 else failS 1)
   have fin : Ev (fun k => (Go.MG.at? [h0, h1, h2] 0).bind fun b95 => bif b95 == 2 then bif (([x, p1, p2, p3, p4] : List (List UInt8)).length : Int) == 5 then (Go.MG.at? [h0, h1, h2] 1).bind fun b90 => (I_asked_ask k ⟨c, realm, now, fresh, h2, [x, p1, p2, p3, p4]⟩ b90).bind fun r93 => some r93 else some (failS 1) else some (failS 1)) (if h0 = 2 then askS c realm now fresh h1 h2 p1 p2 p3 p4 else failS 1) := by
    refine Ev.at? (i := 0) (b := h0) rfl (Ev.ite (fun h => ?_) (fun h => ?_))
    ·rw [if_pos (by simpa using h)]
     refine Ev.ite (fun _ => ?_) (fun h => by cases h)
     exact Ev.at? (i := 1) (b := h1) rfl (Ev.bind (iAsk (a := ⟨c, realm, now, fresh, h2, [x, p1, p2, p3, p4]⟩) hc g1 g2 bn h1 rfl y1 y2 y3 y4) (Ev.pure _))
    ·rw [if_neg (by simpa using h)]; exact Ev.pure _
   exact Ev.ite (fun h => Ev.ite (fun h => by cases h) (fun _ => fin)) (fun h => fin)
  rw [bodyN l2 l5]
  have n2 : (((p0 :: ps).length : Int) == 2) = false := beq_eq_false_iff_ne.2 (by omega)
  have n5 : (((p0 :: ps).length : Int) == 5) = false := beq_eq_false_iff_ne.2 (by omega)
  rw [n2, n5]
  have fin : ∀ {f : Nat → Option T_Reply}, Ev (fun k => (Go.MG.at? [h0, h1, h2] 0).bind fun b95 => bif b95 == 2 then bif false then f k else some (failS 1) else some (failS 1)) (failS 1) := fun {f} => Ev.at? (i := 0) (b := h0) rfl (Ev.ite (fun _ => Ev.pure _) (fun _ => Ev.pure _))
  exact Ev.ite (fun h => Ev.ite (fun h => by cases h) (fun _ => fin)) (fun h => fin)

theorem readTicket_of {t : T_Ticket} {key : Int} (h : showTicketS t key ≠ []) : readTicketS (showTicketS t key) key = (t, true) ∧ ticketB t = true := by
 unfold showTicketS at h ⊢
 by_cases hg : ticketB t = true
 rotate_left
 ·rw [if_neg hg] at h; exact absurd rfl h
 rw [if_pos hg] at h ⊢
 have e1 := openSeal h
 have e2 := parts_of (tmOk_ne (open_of e1).2.2)
 have q3 := (parts_ok e2).2.2.1
 have r0 := readNums_of (tmOk_ne (q3 (numsS [t.Client, t.Service]) (by simp)))
 have r1 := readKey_of (tmOk_ne (q3 (keyS t.Key) (by simp)))
 have r2 := readRest_of (tmOk_ne (q3 (showRestS t.Rest) (by simp)))
 have r3 := readNums_of (tmOk_ne (q3 (numsS t.Path) (by simp)))
 have r4 := readNums_of (tmOk_ne (q3 (numsS t.Via) (by simp)))
 refine ⟨?_, hg⟩
 unfold readTicketS
 rw [e1]
 simp only
 rw [e2]
 simp only [pick5]
 rw [r0]
 simp only [pick2, tkOf]
 rw [r1, r2, r3, r4]
 exact if_pos ⟨⟨by trivial, by trivial, by trivial, by trivial, by trivial⟩, hg⟩
theorem readGrant_of {g : T_Grant} {key : Int} (h : showGrantS g key ≠ []) : readGrantS (showGrantS g key) key = (g, true) := by
 unfold showGrantS at h ⊢
 by_cases hg : grantOk g = true
 rotate_left
 ·rw [if_neg hg] at h; exact absurd rfl h
 rw [if_pos hg] at h ⊢
 have e1 := openSeal h
 have e2 := parts_of (tmOk_ne (open_of e1).2.2)
 have q3 := (parts_ok e2).2.2.1
 have r0 := readKey_of (tmOk_ne (q3 (keyS g.Key) (by simp)))
 have r1 := readNums_of (tmOk_ne (q3 (numsS [g.Service, g.Nonce]) (by simp)))
 have r2 := readRest_of (tmOk_ne (q3 (showRestS g.Rest) (by simp)))
 unfold readGrantS
 rw [e1]
 simp only
 rw [e2]
 simp only [pick3]
 rw [r0, r1, r2]
 simp only [pick2]
 rw [if_pos ⟨trivial, trivial, trivial⟩]
 exact if_pos hg
def Ask (req : List UInt8) (r : T_Rest) : Prop := ∃ p0 p1 p2 p3 p4 x, (partsS req).1 = [p0, p1, p2, p3, p4] ∧ (readRestS p3).2 = true ∧ restOk x = true ∧ r = meetS x (readRestS p3).1
structure Giv (realm fresh : Int) (req : List UInt8) (kind pby client parent evid : Int) (t : T_Ticket) (key wth : Int) : Prop where
 tk : t.Key = fresh
 tc : t.Client = client
 ks : (kind = 1 ∧ key = ck realm ∧ wth = pk pby ∧ evid = 0 ∧ t.Rest.Servers = 7 ∧ t.Rest.Ops = 255) ∨ ((kind = 2 ∧ evid = 0 ∨ kind = 4 ∧ evid ≠ 0) ∧ key = pk (3 + t.Service) ∧ wth = parent ∧ Ask req t.Rest) ∨ (kind = 3 ∧ key = lk realm (t.Service - 10) ∧ wth = parent ∧ evid = 0 ∧ Ask req t.Rest)
def GoodR (realm fresh : Int) (req : List UInt8) (r : T_Reply) : Prop := (∃ n, n ≠ 0 ∧ r = failS n) ∨ ∃ nonce kind pby client parent evid t key wth, Giv realm fresh req kind pby client parent evid t key wth ∧ r = givenS realm nonce kind pby client parent evid t key wth
theorem gF {realm fresh : Int} {req : List UInt8} (n : Int) (h : n ≠ 0) : GoodR realm fresh req (failS n) := .inl ⟨n, h, rfl⟩
theorem evid_ok {c : T_Config} {realm now target : Int} {t n : T_Ticket} {rest : T_Rest} {evid : List UInt8} (h : (evidS c realm now t target rest evid n).2 = 0) : (readTicketS evid (pk t.Client)).2 = true ∧ (evidS c realm now t target rest evid n).1.Service = n.Service ∧ (evidS c realm now t target rest evid n).1.Key = n.Key ∧ (evidS c realm now t target rest evid n).1.Rest = meetS (readTicketS evid (pk t.Client)).1.Rest rest := by
 unfold evidS at h ⊢
 by_cases h1 : 0 ≤ t.Client - 3 ∧ svR c (t.Client - 3) = realm ∧ svR c target = realm
 rotate_left
 ·rw [if_neg h1] at h; cases h
 by_cases h2 : (readTicketS evid (pk t.Client)).2 = true ∧ (readTicketS evid (pk t.Client)).1.Service = t.Client - 3
 rotate_left
 ·rw [if_pos h1, if_neg h2] at h; cases h
 by_cases h3 : now > (readTicketS evid (pk t.Client)).1.Rest.End
 ·rw [if_pos h1, if_pos h2, if_pos h3] at h; cases h
 by_cases h4 : hasP c.Proxy ⟨t.Client - 3, target⟩ = true ∧ (readTicketS evid (pk t.Client)).1.Via.length < 4
 rotate_left
 ·rw [if_pos h1, if_pos h2, if_neg h3, if_neg h4] at h; cases h
 rw [if_pos h1, if_pos h2, if_neg h3, if_pos h4]
 exact ⟨h2.1, rfl, rfl, rfl⟩
theorem tk_more {t : T_Ticket} (h : ticketB t = true) : restOk t.Rest = true ∧ 1 ≤ t.Key := by
 unfold ticketB at h
 simp only [Bool.and_eq_true] at h
 exact ⟨h.2.2.2.1, (of_decide_eq_true h.2.2.1).1⟩
theorem askG {c : T_Config} {realm now fresh h1 h2 : Int} {req p0 p1 p2 p3 p4 : List UInt8} (hp : (partsS req).1 = [p0, p1, p2, p3, p4]) : GoodR realm fresh req (askS c realm now fresh h1 h2 p1 p2 p3 p4) := by
 unfold askS
 split
 rotate_left
 ·exact gF 1 (by decide)
 rename_i g
 obtain ⟨t0, q, tb, hT⟩ := shownS_ok g.2.2
 have hr : restOk (shownS c realm p1).1.Rest = true := by
  rcases hT with e | e <;> rw [e] <;> exact (tk_more tb).1
 have ask : Ask req (meetS (shownS c realm p1).1.Rest (readRestS p3).1) := ⟨_, _, _, _, _, _, hp, g.2.1, hr, rfl⟩
 generalize (shownS c realm p1).1 = T at hr ask ⊢
 unfold askT
 split
 rotate_left
 ·exact gF 2 (by decide)
 split
 ·exact gF 3 (by decide)
 split
 ·exact gF 4 (by decide)
 unfold askU
 split
 ·exact gF 5 (by decide)
 split
 ·unfold issueS
  split
  ·exact .inr ⟨_, _, _, _, _, _, _, _, _, ⟨rfl, rfl, .inr (.inl ⟨.inl ⟨rfl, rfl⟩, rfl, rfl, ask⟩)⟩, rfl⟩
  ·split
   ·exact gF 5 (by decide)
   ·refine .inr ⟨_, _, _, _, _, _, _, _, _, ⟨rfl, rfl, .inr (.inr ⟨rfl, ?_, rfl, rfl, ask⟩)⟩, rfl⟩
    simp only [newT]
    congr 1
    omega
 ·unfold delegS
  split
  ·rename_i e
   obtain ⟨e1, e2, e3, e4⟩ := evid_ok e
   have tb := (tk_ok e1).1
   refine .inr ⟨_, _, _, _, _, _, _, _, _, ⟨e3, rfl, .inr (.inl ⟨.inr ⟨rfl, ?_⟩, ?_, rfl, ?_⟩)⟩, rfl⟩
   ·have := (tk_more tb).2; omega
   ·rw [e2]; rfl
   ·rw [e4]; exact ⟨_, _, _, _, _, _, hp, g.2.1, (tk_more tb).1, rfl⟩
  ·exact .inl ⟨_, by assumption, rfl⟩
theorem centreG {c : T_Config} {realm now fresh : Int} {req : List UInt8} : GoodR realm fresh req (centreS c realm now fresh req) := by
 unfold centreS
 split
 rotate_left
 ·exact gF 1 (by decide)
 unfold headS
 by_cases h3 : (readNumsS ((partsS req).1.headD [])).1.length = 3
 rotate_left
 ·rw [notThree h3]; exact gF 1 (by decide)
 obtain ⟨h0, h1, h2, e⟩ := three h3
 rw [e]
 simp only [pick3]
 split
 rotate_left
 ·exact gF 1 (by decide)
 by_cases l2 : (partsS req).1.length = 2
 ·obtain ⟨x, q, el⟩ := two l2
  rw [el]
  simp only [bodyS]
  split
  rotate_left
  ·exact gF 1 (by decide)
  unfold loginS
  split
  rotate_left
  ·exact gF 1 (by decide)
  by_cases h2l : (readNumsS (openS q (pk h1)).1).1.length = 2
  rotate_left
  ·rw [notTwo h2l]; exact gF 2 (by decide)
  obtain ⟨a, b, e⟩ := two h2l
  rw [e]
  simp only [pick2]
  split
  rotate_left
  ·exact gF 2 (by decide)
  unfold loginT
  split
  ·exact gF 3 (by decide)
  split
  ·exact gF 4 (by decide)
  exact .inr ⟨_, _, _, _, _, _, _, _, _, ⟨rfl, rfl, .inl ⟨rfl, rfl, rfl, rfl, rfl, rfl⟩⟩, rfl⟩
 by_cases l5 : (partsS req).1.length = 5
 ·obtain ⟨x, p1, p2, p3, p4, el⟩ := five l5
  rw [el]
  simp only [bodyS]
  split
  rotate_left
  ·exact gF 1 (by decide)
  exact askG el
 rw [bodyN l2 l5]
 exact gF 1 (by decide)
theorem ofWrap (v : BitVec 64) : BitVec.ofInt 64 (IntKind.i64.wrap (v.toNat : Int)) = v := by
 refine BitVec.eq_of_toNat_eq ?_
 rw [BitVec.toNat_ofInt, IntKind.wrap_i64]
 have := v.isLt
 omega
theorem andE (x y : Int) : Go.bits .and .i64 x y = IntKind.i64.wrap ((BitVec.ofInt 64 x &&& BitVec.ofInt 64 y).toNat : Int) := rfl
theorem and_and (x r : Int) : Go.bits .and .i64 (Go.bits .and .i64 x r) r = Go.bits .and .i64 x r := by
 rw [andE (Go.bits .and .i64 x r) r, andE x r, ofWrap, BitVec.and_assoc, BitVec.and_self]
theorem rest_ok {s : List UInt8} (h : (readRestS s).2 = true) : restOk (readRestS s).1 = true := by
 unfold readRestS at h ⊢
 by_cases h3 : (readNumsS s).1.length = 3
 ·obtain ⟨a, b, c, e⟩ := three h3
  rw [e] at h ⊢
  simp only [pick3] at h ⊢
  split at h
  ·rename_i g
   rw [if_pos g]; exact g
  ·cases h
 ·rw [notThree h3] at h; cases h
theorem entails_meet (k : Nat) {x r : T_Rest} (hx : restOk x = true) (hr : restOk r = true) (hm : restOk (meetS x r) = true) : S_Entails k (meetS x r) r = some true := by
 simp only [S_Entails, sRestOk, hm, hr, Option.bind_some, cond_true]
 unfold meetS
 rw [if_pos ⟨hx, hr⟩]
 simp only [and_and, beq_self_eq_true, cond_true]
 exact congrArg some (decide_eq_true (by split <;> omega))
theorem entails_self (k : Nat) {x : T_Rest} (hx : restOk x = true) (h1 : x.Servers = 7) (h2 : x.Ops = 255) : S_Entails k x x = some true := by
 simp only [S_Entails, sRestOk, hx, Option.bind_some, cond_true]
 rw [h1, h2, show (Go.bits .and .i64 7 7 == 7) = true by decide, show (Go.bits .and .i64 255 255 == 255) = true by decide]
 simp only [cond_true]
 exact congrArg some (decide_eq_true (by omega))
theorem loginReqE (p now nonce : Int) : EvP (fun k => S_LoginReq k p now nonce) (fun r => r.length ≤ 900) := by
 simp only [S_LoginReq, wPrin, sNo, sPK, Option.bind_some]
 refine EvP.ite (fun _ => EvP.pure (by simp)) (fun _ => EvP.ite (fun _ => EvP.pure (by simp)) (fun _ => EvP.ite (fun _ => EvP.pure (by simp)) (fun _ => ?_)))
 refine EvP.bindE (sNums _ (by simp)) (EvP.bindE (sNums _ (by simp)) (EvP.bindE (sSeal _ _ (Nat.le_trans (numsS_len _) (by omega))) (EvP.bindE (sList _ ?_ (by simp)) (EvP.pure (listS_len _)))))
 intro p hp
 simp only [List.mem_cons, List.not_mem_nil, or_false] at hp
 rcases hp with rfl | rfl
 ·exact Nat.le_trans (numsS_len _) (by omega)
 ·exact Nat.le_trans (sealS_len _ _) (by omega)
theorem askReqE (tick : List UInt8) (key : Int) (a : T_Auth) (target : Int) (rest : T_Rest) (nonce : Int) (evid : List UInt8) (h1 : tick.length ≤ 900) (h2 : evid.length ≤ 900) : EvP (fun k => S_AskReq k tick key a target rest nonce evid) (fun r => r.length ≤ 900) := by
 simp only [S_AskReq]
 have go : ∀ e : List UInt8, e.length ≤ 900 → EvP (fun k => S_AskReq.j1 k tick key target nonce e a rest) (fun r => r.length ≤ 900) := by
  intro e he
  simp only [S_AskReq.j1]
  refine EvP.bindE (sNums _ (by simp)) (EvP.bindE (sShowAuth a key) (EvP.bindE (sShowRest rest) (EvP.bindE (sList _ ?_ (by simp)) (EvP.pure (listS_len _)))))
  intro p hp
  have g1 := numsS_len [2, target, nonce]
  have g2 := showAuthS_len a key
  have g3 := showRestS_len rest
  simp only [List.mem_cons, List.not_mem_nil, or_false] at hp
  rcases hp with rfl | rfl | rfl | rfl | rfl
  ·omega
  ·omega
  ·omega
  ·exact Nat.le_trans g3 (by omega)
  ·omega
 exact EvP.ite (fun _ => EvP.bindE (sAtom [] (by simp)) (go _ (atomS_len _))) (fun _ => go _ h2)
theorem reqE {c : T_Config} (hc : CfgSm c) (realm now : Int) (cu : U_l1Cur) (h : Good cu) : EvP (fun k => S_l8Req k c realm now cu) (fun r => r.1.length ≤ 900 ∧ Good r.2) := by
 simp only [S_l8Req]
 have j24 : ∀ (p t key : Int) (tick ev b : List UInt8) (i g : Int), tick.length ≤ 900 → ev.length ≤ 900 → Good ⟨b, i, g⟩ → EvP (fun k => S_l8Req.j24 k p t key tick ev b i g) (fun r => r.1.length ≤ 900 ∧ Good r.2) := by
  intro p t key tick ev b i g h1 h2 hg
  simp only [S_l8Req.j24]
  exact (belowE 3 _ (by decide) hg).bind fun a ha => (drRestE _ ha.2.2).bind fun r hr => (belowE 5 _ (by decide) hr).bind fun d hd => (askReqE _ _ _ _ _ _ _ h1 h2).bind fun x hx => EvP.pure ⟨hx, hd.2.2⟩
 have j25 : ∀ (p t key : Int) (tick : List UInt8) (o : Bool) (b : List UInt8) (i g : Int), tick.length ≤ 900 → Good ⟨b, i, g⟩ → EvP (fun k => S_l8Req.j25 k p t key tick o b i g) (fun r => r.1.length ≤ 900 ∧ Good r.2) := by
  intro p t key tick o b i g h1 hg
  simp only [S_l8Req.j25, sPK, Option.bind_some]
  refine EvP.ite (fun _ => ?_) (fun _ => j24 _ _ _ _ _ _ _ _ h1 (by simp) hg)
  exact (belowE 3 _ (by decide) hg).bind fun a ha => (drRestE _ ha.2.2).bind fun r hr => (belowE 3 _ (by decide) hr).bind fun d hd => EvP.bindE (sShowTicket _ (by simp) (by simp)) (j24 _ _ _ _ _ _ _ _ h1 (showTicketS_len _ _) hd.2.2)
 have j22 : ∀ (p t key : Int) (tick b : List UInt8) (i g : Int), tick.length ≤ 900 → Good ⟨b, i, g⟩ → EvP (fun k => S_l8Req.j22 k p t key tick b i g) (fun r => r.1.length ≤ 900 ∧ Good r.2) := by
  intro p t key tick b i g h1 hg
  simp only [S_l8Req.j22]
  exact EvP.ite (fun _ => (onceE 2 _ (by decide) hg).bind fun o ho => j25 _ _ _ _ _ _ _ _ h1 ho) (fun _ => j25 _ _ _ _ _ _ _ _ h1 hg)
 have j21 : ∀ (p t : Int) (b : List UInt8) (i g : Int), Good ⟨b, i, g⟩ → EvP (fun k => S_l8Req.j21 k realm now p t b i g c) (fun r => r.1.length ≤ 900 ∧ Good r.2) := by
  intro p t b i g hg
  simp only [S_l8Req.j21, S_l8Own, sCK, sLK, Option.bind_some]
  refine (onceE 3 _ (by decide) hg).bind fun o ho => EvP.ite (fun _ => (belowE 5 _ (by decide) ho).bind fun d hd => (loginReqE _ _ _).bind fun x hx => EvP.pure ⟨hx, hd.2.2⟩) (fun _ => ?_)
  refine (belowE 3 _ (by decide) ho).bind fun d hd => (pickE _ _ (by simp) hd.2.2).bind fun e he => EvP.bindE (Ev.bind (sRealmOf hc p) (Ev.bind (sShowTicket _ (by simp) (by simp)) (Ev.pure _))) ?_
  refine (onceE 3 _ (by decide) he.2).bind fun o ho => EvP.ite (fun _ => ?_) (fun _ => j22 _ _ _ _ _ _ _ (showTicketS_len _ _) ho)
  exact (belowE 3 _ (by decide) ho).bind fun a ha => (belowE 256 _ (by decide) ha.2.2).bind fun r hr => EvP.bindE (sShowTicket _ (by simp) (by simp)) (j22 _ _ _ _ _ _ _ (showTicketS_len _ _) hr.2.2)
 have lp : ∀ (n i : Nat), i + n = 6 → ∀ (p : Int) (b : List UInt8) (x g : Int), Good ⟨b, x, g⟩ → EvP (fun k => S_l8Req.l17 k realm now p (i : Int) b x g c) (fun r => r.1.length ≤ 900 ∧ Good r.2) := by
  intro n
  induction n with
  | zero =>
   intro i hi p b x g hg
   refine EvP.succ ?_
   simp only [S_l8Req.l17]
   rw [decide_eq_false (by omega)]
   exact (belowE 3 _ (by decide) hg).bind fun a ha => EvP.ite (fun _ => j21 _ _ _ _ _ ha.2.2) (fun _ => j21 _ _ _ _ _ ha.2.2)
  | succ n ih =>
   intro i hi p b x g hg
   refine EvP.succ ?_
   simp only [S_l8Req.l17, S_l8Req.j20, S_l8Req.j19]
   rw [decide_eq_true (by omega), wid1 (by omega)]
   refine EvP.bindE (sRealmOf hc p) (EvP.ite (fun _ => (onceE 8 _ (by decide) hg).bind fun o ho => EvP.ite (fun _ => ih (i + 1) (by omega) _ _ _ _ ho) (fun _ => ih (i + 1) (by omega) _ _ _ _ ho)) (fun _ => EvP.ite (fun h => by cases h) (fun _ => ih (i + 1) (by omega) _ _ _ _ hg)))
 exact (belowE 6 _ (by decide) h).bind fun p hp => lp 6 0 rfl _ _ _ _ hp.2.2
def CeD (r : T_Config × Int × Int × Int × List UInt8) : Prop := CfgSm r.1 ∧ r.2.2.2.2.length ≤ 903
theorem drawCentreE (a : List UInt8) (ha : a.length ≤ 1048576) : EvP (fun k => S_DrawCentre k a) CeD := by
 simp only [S_DrawCentre]
 refine (newE a ha).bind fun c hc => (anyE c hc).bind fun x hx => (pickE _ _ (by simp) hx.2).bind fun s hs => (belowE 40 _ (by decide) hs.2).bind fun now hn => (onceE 15 _ (by decide) hn.2.2).bind fun o ho => ?_
 have j2 : ∀ (u v : Int) (b : List UInt8) (i g : Int), Good ⟨b, i, g⟩ → EvP (fun k => S_DrawCentre.j2 k s.1 u v b i g x.1.UserRealm x.1.ServiceRealm x.1.Links x.1.Proxy x.1.Skew) CeD := by
  intro u v b i g hg
  simp only [S_DrawCentre.j2]
  exact (reqE hx.1 _ _ _ hg).bind fun r hr => (spoiltE r.1 _ (by omega) hr.2).bind fun q hq => EvP.pure ⟨hx.1, by have := hq.1; show q.1.length ≤ 903; omega⟩
 have j1 : ∀ (u : Int) (b : List UInt8) (i g : Int), Good ⟨b, i, g⟩ → EvP (fun k => S_DrawCentre.j1 k s.1 u b i g x.1.UserRealm x.1.ServiceRealm x.1.Links x.1.Proxy x.1.Skew) CeD := by
  intro u b i g hg
  simp only [S_DrawCentre.j1]
  exact (belowE 9 _ (by decide) hg).bind fun d hd => (onceE 20 _ (by decide) hd.2.2).bind fun q hq => EvP.ite (fun _ => (pickE _ _ (by simp) hq).bind fun w hw => j2 _ _ _ _ _ hw.2) (fun _ => j2 _ _ _ _ _ hq)
 exact EvP.ite (fun _ => (pickE _ _ (by simp) ho).bind fun w hw => j1 _ _ _ _ hw.2) (fun _ => j1 _ _ _ _ ho)
theorem lawCentre (a0 : List UInt8) (w0 : Go.MG.wfR (fun _ => True) a0) : ∃ k, W_FnCentre k a0 = some true := by
 refine Ev.get (f := fun k => W_FnCentre k a0) ?_
 simp only [W_FnCentre, bigE, Option.bind_some]
 refine Ev.ite (fun _ => Ev.pure _) (fun hc => ?_)
 have hlen : a0.length ≤ 1048576 := by simp at hc; omega
 obtain ⟨⟨c, realm, now, fresh, req⟩, hr, d1, d2⟩ := drawCentreE a0 hlen
 simp only at d1 d2
 refine Ev.bind hr (Ev.bind (iCentre d1 realm now fresh (req := req) (by omega)) (Ev.bind (sCentre d1 realm now fresh (req := req) (by omega)) ?_))
 have hG := centreG (c := c) (realm := realm) (now := now) (fresh := fresh) (req := req)
 generalize centreS c realm now fresh req = r at hG ⊢
 simp only [bne_self_eq_false, cond_false]
 have fail : ∀ n : Int, n ≠ 0 → r = failS n → Ev (fun k => some true) true := fun _ _ _ => Ev.pure _
 rcases hG with ⟨n, hn, rfl⟩ | ⟨nonce, kind, pby, client, parent, evid, t, key, wth, hg, rfl⟩
 ·refine Ev.ite (fun _ => ?_) (fun h => absurd (by simpa [failS] using h) hn)
  exact Ev.ite (fun _ => Ev.pure _) (fun h => by simp [failS] at h)
 unfold givenS replyS
 by_cases hl : listS [numsS [3, nonce], showTicketS t key, showGrantS ⟨t.Key, t.Service, nonce, t.Rest⟩ wth] = []
 ·rw [if_pos hl]
  refine Ev.ite (fun _ => ?_) (fun h => by simp [failS] at h)
  exact Ev.ite (fun _ => Ev.pure _) (fun h => by simp [failS] at h)
 rw [if_neg hl]
 have ep := parts_of hl
 have q3 := (parts_ok ep).2.2.1
 obtain ⟨rt, tb⟩ := readTicket_of (tmOk_ne (q3 (showTicketS t key) (by simp)))
 have rg := readGrant_of (tmOk_ne (q3 (showGrantS ⟨t.Key, t.Service, nonce, t.Rest⟩ wth) (by simp)))
 have lt := showTicketS_len t key
 have lg := showGrantS_len ⟨t.Key, t.Service, nonce, t.Rest⟩ wth
 refine Ev.ite (fun h => by cases h) (fun _ => Ev.bind (sParts _ (Nat.le_trans (listS_len _) (by omega))) ?_)
 rw [ep]
 have bs : 0 ≤ t.Service ∧ t.Service ≤ 12 := by
  unfold ticketB forB at tb
  simp only [Bool.and_eq_true] at tb
  rcases Bool.or_eq_true _ _ ▸ tb.2.1 with g | g
  ·have := of_decide_eq_true g; omega
  ·have := of_decide_eq_true g; omega
 obtain ⟨g1, g2, g3⟩ := hg
 simp only [sPK, sCK, sLK, Option.bind_some, W_FnCentre.j1, W_FnCentre.j2, W_FnCentre.j3]
 refine Ev.ite (fun h => by cases h) (fun _ => Ev.ite (fun h => by simp [g1] at h) (fun _ => Ev.ite (fun h => by simp at h) (fun _ => ?_)))
 rw [wid (n := 3 + t.Service) (by omega) (by omega), wid (n := t.Service - 10) (by omega) (by omega)]
 have tr := tk_more tb
 have fin : ∀ (k : Nat) (x : T_Rest), S_Entails k t.Rest x = some true → (((kind == 4) == (evid != 0)) = true) → W_FnCentre.j4 k fresh true true ⟨0, listS [numsS [3, nonce], showTicketS t key, showGrantS ⟨t.Key, t.Service, nonce, t.Rest⟩ wth], ⟨kind, realm, pby, client, t.Service, t.Key, parent, evid, t.Rest⟩⟩ t.Client t.Service t.Key t.Rest.Servers t.Rest.Ops t.Rest.End t.Path t.Via t.Key t.Service nonce t.Rest.Servers t.Rest.Ops t.Rest.End x.Servers x.Ops x.End = some true := by
  intro k x he hk
  simp only [W_FnCentre.j4, g1, g2, he, hk, beq_self_eq_true, Bool.and_true, cond_true, Option.bind_some]
 have rdT : ∀ {g : Nat → T_Ticket × Bool → Option Bool}, Ev (fun k => g k (t, true)) true → Ev (fun k => (Go.MG.at? [numsS [3, nonce], showTicketS t key, showGrantS ⟨t.Key, t.Service, nonce, t.Rest⟩ wth] 1).bind fun b => (S_ReadTicket k b key).bind (g k)) true := fun {g} h =>
  Ev.at? (i := 1) rfl (Ev.bind ((sReadTicket _ (by omega) key).to rt) h)
 have rdG : ∀ {g : Nat → T_Grant × Bool → Option Bool}, Ev (fun k => g k (⟨t.Key, t.Service, nonce, t.Rest⟩, true)) true → Ev (fun k => (Go.MG.at? [numsS [3, nonce], showTicketS t key, showGrantS ⟨t.Key, t.Service, nonce, t.Rest⟩ wth] 2).bind fun b => (S_ReadGrant k b wth).bind (g k)) true := fun {g} h =>
  Ev.at? (i := 2) rfl (Ev.bind ((sReadGrant _ (by omega) wth).to rg) h)
 have asked : ∀ {g : Nat → T_Rest × Bool → Option Bool}, Ask req t.Rest → (∀ x, Ev (fun k => g k x) true ∨ S_Entails 0 t.Rest x.1 ≠ some true) → Ev (fun k => (S_Parts k req).bind fun r => (Go.MG.at? r.1 3).bind fun b => (S_ReadRest k b).bind (g k)) true := by
  intro g ha hx
  obtain ⟨p0, p1, p2, p3, p4, x, e1, e2, e3, e4⟩ := ha
  have pe := (partsS_len req).2
  refine Ev.bind (sParts req (by omega)) ?_
  rw [e1] at pe ⊢
  refine Ev.at? (i := 3) (b := p3) rfl (Ev.bind (sReadRest p3 (by have := pe p3 (by simp); omega)) ?_)
  rcases hx (readRestS p3) with h | h
  ·exact h
  ·refine absurd ?_ h
   rw [e4]
   exact entails_meet 0 e3 (rest_ok e2) (e4 ▸ tr.1)
 have ent : ∀ (k : Nat) (x : T_Rest), S_Entails k t.Rest x = S_Entails 0 t.Rest x := fun k x => by simp only [S_Entails, sRestOk]
 have pick : ∀ x : T_Rest × Bool, (((kind == 4) == (evid != 0)) = true) → Ev (fun k => W_FnCentre.j4 k fresh true true ⟨0, listS [numsS [3, nonce], showTicketS t key, showGrantS ⟨t.Key, t.Service, nonce, t.Rest⟩ wth], ⟨kind, realm, pby, client, t.Service, t.Key, parent, evid, t.Rest⟩⟩ t.Client t.Service t.Key t.Rest.Servers t.Rest.Ops t.Rest.End t.Path t.Via t.Key t.Service nonce t.Rest.Servers t.Rest.Ops t.Rest.End x.1.Servers x.1.Ops x.1.End) true ∨ S_Entails 0 t.Rest x.1 ≠ some true := by
  intro x hk
  by_cases he : S_Entails 0 t.Rest x.1 = some true
  ·exact .inl (Ev.of fun k => fin k x.1 ((ent k _).trans he) hk)
  ·exact .inr he
 rcases g3 with ⟨rfl, rfl, rfl, rfl, s1, s2⟩ | ⟨hk, rfl, rfl, ha⟩ | ⟨rfl, rfl, rfl, rfl, ha⟩
 ·refine Ev.ite (fun _ => ?_) (fun h => by cases h)
  refine Ev.ite (fun h => by cases h) (fun _ => rdT (Ev.ite (fun _ => rdG (Ev.bind (sParts req (by omega)) ?_)) (fun h => by cases h)))
  refine Ev.ite (fun h => by cases h) (fun _ => ?_)
  exact Ev.of fun k => fin k t.Rest (entails_self k tr.1 s1 s2) rfl
 ·have hkk : ((kind == 4) == (evid != 0)) = true := by
   rcases hk with ⟨rfl, rfl⟩ | ⟨rfl, he⟩
   ·rfl
   ·simpa using he
  have hk1 : kind ≠ 1 ∧ kind ≠ 3 := by rcases hk with ⟨rfl, _⟩ | ⟨rfl, _⟩ <;> decide
  refine Ev.ite (fun h => absurd (by simpa using h) hk1.1) (fun _ => ?_)
  refine Ev.ite (fun h => absurd (by simpa using h) hk1.2) (fun _ => rdT (Ev.ite (fun h => absurd (by simpa using h) hk1.1) (fun _ => rdG ?_)))
  rw [show (kind != 1) = true by simpa using hk1.1]
  simp only [cond_true]
  exact asked ha fun x => pick x hkk
 ·refine Ev.ite (fun h => by cases h) (fun _ => ?_)
  refine Ev.ite (fun _ => rdT (Ev.ite (fun h => by cases h) (fun _ => rdG ?_))) (fun h => by cases h)
  exact asked ha fun x => pick x rfl


end Go.Proofs.YtbjbagemlclgcaaGreat.M
