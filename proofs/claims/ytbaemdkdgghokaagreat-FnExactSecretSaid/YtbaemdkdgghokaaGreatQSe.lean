/- The program's Secret returns what the reference's returns, for all arguments. -/
import Derived.Test.YtbaemdkdgghokaaGreatFSe
namespace Go.Proofs.YtbaemdkdgghokaaGreat.M
open Go Go.MG
set_option linter.unusedVariables false
set_option linter.unusedSimpArgs false
theorem wid {n : Int} (h1 : -9223372036854775808 ≤ n) (h2 : n ≤ 9223372036854775807) : IntKind.i64.wrap n = n := by
 rw [IntKind.wrap_i64]; omega
theorem atN {α : Type} {xs : List α} {i : Nat} {b : α} (h : xs[i]? = some b) : at? xs (i : Int) = some b := by
 simp [at?, h]
theorem atLt {α : Type} {xs : List α} {i : Nat} (h : i < xs.length) : ∃ b, xs[i]? = some b := ⟨xs[i], List.getElem?_eq_getElem h⟩
theorem wid1 {i : Nat} (h : i ≤ 4611686018427387904) : IntKind.i64.wrap ((i : Int) + 1) = ((i + 1 : Nat) : Int) := by
 rw [wid (by omega) (by omega)]; omega
theorem ltD {i n : Nat} (h : i < n) : decide ((i : Int) < (n : Int)) = true := by simp; omega
theorem ltD0 {n : Nat} : decide ((n : Int) < (n : Int)) = false := by simp
theorem take_succ_get {α : Type} {xs : List α} {i : Nat} {b : α} (h : xs[i]? = some b) : xs.take (i + 1) = xs.take i ++ [b] := by
 rw [List.take_add_one, h]; rfl
/-- What a copy has become after some rounds. -/
theorem set_copy {α : Type} {xs : List α} {z b : α} {i : Nat} (h : xs[i]? = some b) : (xs.take i ++ List.replicate (xs.length - i) z).set i b = xs.take (i + 1) ++ List.replicate (xs.length - (i + 1)) z := by
 have hi := (List.getElem?_eq_some_iff.1 h).1
 rw [take_succ_get h, List.set_append_right _ _ (by simp; omega)]
 have e : xs.length - i = (xs.length - (i + 1)) + 1 := by omega
 rw [e, List.replicate_succ]
 have e2 : i - (xs.take i).length = 0 := by simp; omega
 rw [e2]
 simp
theorem get_copy {α : Type} {xs : List α} {z : α} {i : Nat} (h : i < xs.length) : (xs.take i ++ List.replicate (xs.length - i) z)[i]? = some z := by
 rw [List.getElem?_append_right (by simp; omega)]
 have : i - (xs.take i).length = 0 := by simp; omega
 rw [this, List.getElem?_replicate]
 simp; omega
/-- From some fuel on it answers so. -/
def Ev {α : Type} (f : Nat → Option α) (r : α) : Prop := ∃ n, ∀ k, n ≤ k → f k = some r
theorem Ev.pure {α : Type} (r : α) : Ev (fun _ => some r) r := ⟨0, fun _ _ => rfl⟩
theorem Ev.of {α : Type} {f : Nat → Option α} {r : α} (h : ∀ k, f k = some r) : Ev f r := ⟨0, fun k _ => h k⟩
theorem Ev.bind {α β : Type} {f : Nat → Option α} {g : Nat → α → Option β} {a : α} {r : β} (h : Ev f a) (h' : Ev (fun k => g k a) r) : Ev (fun k => (f k).bind (g k)) r := by
 obtain ⟨n, h⟩ := h
 obtain ⟨m, h'⟩ := h'
 refine ⟨max n m, fun k hk => ?_⟩
 show (f k).bind (g k) = some r
 rw [h k (by omega), Option.bind_some]
 exact h' k (by omega)
theorem Ev.succ {α : Type} {f : Nat → Option α} {r : α} (h : Ev (fun k => f (k + 1)) r) : Ev f r := by
 obtain ⟨n, h⟩ := h
 refine ⟨n + 1, fun k hk => ?_⟩
 obtain ⟨j, rfl⟩ : ∃ j, k = j + 1 := ⟨k - 1, by omega⟩
 exact h j (by omega)
theorem Ev.shift {α : Type} {f : Nat → Option α} {r : α} (h : Ev f r) : Ev (fun k => f (k + 1)) r := by
 obtain ⟨n, h⟩ := h
 exact ⟨n, fun k hk => h (k + 1) (by omega)⟩
theorem Ev.get {α : Type} {f : Nat → Option α} {r : α} (h : Ev f r) : ∃ k, f k = some r := by
 obtain ⟨n, h⟩ := h
 exact ⟨n, h n (Nat.le_refl _)⟩
theorem Ev.det {α : Type} {f : Nat → Option α} {a b : α} (h : Ev f a) (h' : Ev f b) : a = b := by
 obtain ⟨n, h⟩ := h
 obtain ⟨m, h'⟩ := h'
 have e := h (max n m) (by omega)
 rw [h' (max n m) (by omega)] at e
 exact (Option.some.inj e).symm
theorem Ev.congr {α : Type} {f g : Nat → Option α} {r : α} (h : Ev f r) (e : ∀ k, g k = f k) : Ev g r := by
 obtain ⟨n, h⟩ := h
 exact ⟨n, fun k hk => (e k).trans (h k hk)⟩
theorem Ev.to {α : Type} {f : Nat → Option α} {a b : α} (h : Ev f a) (e : a = b) : Ev f b := e ▸ h
theorem Ev.ite {α : Type} {f g : Nat → Option α} {c : Bool} {r : α} (h1 : c = true → Ev f r) (h0 : c = false → Ev g r) : Ev (fun k => cond c (f k) (g k)) r := by
 cases c with
 | true => exact h1 rfl
 | false => exact h0 rfl
theorem Ev.at? {α β : Type} {xs : List α} {i : Nat} {b : α} {g : Nat → α → Option β} {r : β} (h : xs[i]? = some b) (h' : Ev (fun k => g k b) r) : Ev (fun k => (Go.MG.at? xs (i : Int)).bind (g k)) r := by
 have e := atN h
 simp only [e, Option.bind_some]
 exact h'
/-- A loop over a list: what it answers, told over what is left of it. -/
theorem Ev.forI {α S R : Type} {xs : List α} {L : Nat → S → Int → Option R} {f : List α → S → R} {I : Nat → S → Prop}
  (hnil : ∀ s, I xs.length s → Ev (fun k => L (k + 1) s (xs.length : Int)) (f [] s))
  (hcons : ∀ (i : Nat) (b : α) (s : S), xs[i]? = some b → i < xs.length → I i s → (∀ s', I (i + 1) s' → Ev (fun k => L k s' ((i + 1 : Nat) : Int)) (f (xs.drop (i + 1)) s')) → Ev (fun k => L (k + 1) s (i : Int)) (f (b :: xs.drop (i + 1)) s)) :
  ∀ (s : S), I 0 s → Ev (fun k => L k s 0) (f xs s) := by
 have key : ∀ (m i : Nat) (s : S), i + m = xs.length → I i s → Ev (fun k => L k s (i : Int)) (f (xs.drop i) s) := by
  intro m
  induction m with
  | zero =>
   intro i s hi hI
   have : i = xs.length := by omega
   subst this
   rw [List.drop_length]
   exact Ev.succ (hnil s hI)
  | succ m ih =>
   intro i s hi hI
   obtain ⟨b, hb⟩ := atLt (xs := xs) (i := i) (by omega)
   have hlt : i < xs.length := by omega
   have e : xs.drop i = b :: xs.drop (i + 1) := by
    rw [List.drop_eq_getElem_cons hlt]
    rw [List.getElem?_eq_getElem hlt] at hb
    cases hb; rfl
   rw [e]
   exact Ev.succ (hcons i b s hb hlt hI fun s' hs' => ih (i + 1) s' (by omega) hs')
 intro s hs
 have := key xs.length 0 s (by omega) hs
 simpa using this
theorem Ev.for {α S R : Type} {xs : List α} {L : Nat → S → Int → Option R} {f : List α → S → R}
  (hnil : ∀ s, Ev (fun k => L (k + 1) s (xs.length : Int)) (f [] s))
  (hcons : ∀ (i : Nat) (b : α) (s : S), xs[i]? = some b → i < xs.length → (∀ s', Ev (fun k => L k s' ((i + 1 : Nat) : Int)) (f (xs.drop (i + 1)) s')) → Ev (fun k => L (k + 1) s (i : Int)) (f (b :: xs.drop (i + 1)) s)) :
  ∀ (s : S), Ev (fun k => L k s 0) (f xs s) := fun s => Ev.forI (I := fun _ _ => True) (fun s _ => hnil s) (fun i b s hb hi _ h => hcons i b s hb hi fun s' => h s' trivial) s trivial
/-- A loop that copies by a map. -/
theorem Ev.copy {α β : Type} {xs : List α} {L : Nat → List β → Int → Option (List β)} {f : α → β} {z : β}
  (hnil : ∀ s, Ev (fun k => L (k + 1) s (xs.length : Int)) s)
  (hcons : ∀ (i : Nat) (b : α) (s : List β) (r : List β), xs[i]? = some b → i < xs.length → s[i]? = some z → Ev (fun k => L k (s.set i (f b)) ((i + 1 : Nat) : Int)) r → Ev (fun k => L (k + 1) s (i : Int)) r) :
  Ev (fun k => L k (List.replicate xs.length z) 0) (xs.map f) := by
 have key : ∀ (m i : Nat), i + m = xs.length → Ev (fun k => L k ((xs.map f).take i ++ List.replicate ((xs.map f).length - i) z) (i : Int)) (xs.map f) := by
  intro m
  induction m with
  | zero =>
   intro i hi
   have : i = xs.length := by omega
   subst this
   refine Ev.succ ((hnil _).to ?_)
   rw [List.length_map, Nat.sub_self, List.replicate_zero, List.append_nil]
   exact List.take_of_length_le (by simp)
  | succ m ih =>
   intro i hi
   obtain ⟨b, hb⟩ := atLt (xs := xs) (i := i) (by omega)
   have hb2 : (xs.map f)[i]? = some (f b) := by rw [List.getElem?_map, hb]; rfl
   refine Ev.succ (hcons i b _ _ hb (by omega) (get_copy (by rw [List.length_map]; omega)) ?_)
   rw [set_copy hb2]
   exact ih (i + 1) (by omega)
 have := key xs.length 0 (by omega)
 simpa using this
/-- It answers, and what it answers is so. -/
def EvP {α : Type} (f : Nat → Option α) (P : α → Prop) : Prop := ∃ r, Ev f r ∧ P r
theorem Ev.p {α : Type} {f : Nat → Option α} {r : α} {P : α → Prop} (h : Ev f r) (hp : P r) : EvP f P := ⟨r, h, hp⟩
theorem EvP.pure {α : Type} {r : α} {P : α → Prop} (h : P r) : EvP (fun _ => some r) P := ⟨r, Ev.pure r, h⟩
theorem EvP.bind {α β : Type} {f : Nat → Option α} {g : Nat → α → Option β} {P : α → Prop} {Q : β → Prop} (h : EvP f P) (h' : ∀ a, P a → EvP (fun k => g k a) Q) : EvP (fun k => (f k).bind (g k)) Q := by
 obtain ⟨a, h1, h2⟩ := h
 obtain ⟨r, h3, h4⟩ := h' a h2
 exact ⟨r, h1.bind h3, h4⟩
theorem EvP.bindE {α β : Type} {f : Nat → Option α} {g : Nat → α → Option β} {a : α} {Q : β → Prop} (h : Ev f a) (h' : EvP (fun k => g k a) Q) : EvP (fun k => (f k).bind (g k)) Q := by
 obtain ⟨r, h3, h4⟩ := h'
 exact ⟨r, h.bind h3, h4⟩
theorem EvP.ite {α : Type} {f g : Nat → Option α} {c : Bool} {P : α → Prop} (h1 : c = true → EvP f P) (h0 : c = false → EvP g P) : EvP (fun k => cond c (f k) (g k)) P := by
 cases c with
 | true => exact h1 rfl
 | false => exact h0 rfl
theorem EvP.mono {α : Type} {f : Nat → Option α} {P Q : α → Prop} (h : EvP f P) (hq : ∀ r, P r → Q r) : EvP f Q := by
 obtain ⟨r, h1, h2⟩ := h
 exact ⟨r, h1, hq r h2⟩
theorem EvP.succ {α : Type} {f : Nat → Option α} {P : α → Prop} (h : EvP (fun k => f (k + 1)) P) : EvP f P := by
 obtain ⟨r, h1, h2⟩ := h
 exact ⟨r, h1.succ, h2⟩
theorem EvP.at? {α β : Type} {xs : List α} {i : Nat} {b : α} {g : Nat → α → Option β} {P : β → Prop} (h : xs[i]? = some b) (h' : EvP (fun k => g k b) P) : EvP (fun k => (Go.MG.at? xs (i : Int)).bind (g k)) P := by
 obtain ⟨r, h1, h2⟩ := h'
 exact ⟨r, Ev.at? h h1, h2⟩
/-- A loop over a list, by an invariant. -/
theorem EvP.for {α S R : Type} {xs : List α} {L : Nat → S → Int → Option R} {P : R → Prop} (I : Nat → S → Prop)
  (hnil : ∀ s, I xs.length s → EvP (fun k => L (k + 1) s (xs.length : Int)) P)
  (hcons : ∀ (i : Nat) (b : α) (s : S), xs[i]? = some b → i < xs.length → I i s → (∀ s', I (i + 1) s' → EvP (fun k => L k s' ((i + 1 : Nat) : Int)) P) → EvP (fun k => L (k + 1) s (i : Int)) P) :
  ∀ (s : S), I 0 s → EvP (fun k => L k s 0) P := by
 have key : ∀ (m i : Nat) (s : S), i + m = xs.length → I i s → EvP (fun k => L k s (i : Int)) P := by
  intro m
  induction m with
  | zero =>
   intro i s hi hI
   have : i = xs.length := by omega
   subst this
   exact EvP.succ (hnil s hI)
  | succ m ih =>
   intro i s hi hI
   obtain ⟨b, hb⟩ := atLt (xs := xs) (i := i) (by omega)
   exact EvP.succ (hcons i b s hb (by omega) hI fun s' hs' => ih (i + 1) s' (by omega) hs')
 intro s hs
 simpa using key xs.length 0 s (by omega) hs
/-- What is found first. -/
def firstOf {α R : Type} (p : α → Bool) (g : Nat → R) (e : R) : Nat → List α → R
 | _, [] => e
 | i, x :: xs => if p x then g i else firstOf p g e (i + 1) xs
theorem Ev.find {α R : Type} {xs : List α} {L : Nat → Int → Option R} {p : α → Bool} {g : Nat → R} {e : R}
  (hnil : Ev (fun k => L (k + 1) (xs.length : Int)) e)
  (hcons : ∀ (i : Nat) (b : α) (r : R), xs[i]? = some b → i < xs.length → (p b = true → r = g i) → (p b = false → Ev (fun k => L k ((i + 1 : Nat) : Int)) r) → Ev (fun k => L (k + 1) (i : Int)) r) :
  Ev (fun k => L k 0) (firstOf p g e 0 xs) := by
 have := Ev.for (xs := xs) (L := fun k (_ : Unit) i => L k i) (f := fun l _ => firstOf p g e (xs.length - l.length) l) (fun _ => by simpa [firstOf] using hnil) (fun i b _ hb hi h => by
  refine hcons i b _ hb hi (fun hp => ?_) (fun hp => ?_)
  ·have : xs.length - (b :: List.drop (i + 1) xs).length = i := by simp; omega
   rw [this]; simp [firstOf, hp]
  ·refine (h ()).to ?_
   have e1 : xs.length - (b :: List.drop (i + 1) xs).length = i := by simp; omega
   have e2 : xs.length - (List.drop (i + 1) xs).length = i + 1 := by simp; omega
   rw [e1, e2]; simp [firstOf, hp]) ()
 simpa using this
theorem firstOf_some {α R : Type} {p : α → Bool} {g : Nat → R} {e : R} : ∀ {i : Nat} {xs : List α}, (∃ j b, xs[j]? = some b ∧ p b = true ∧ firstOf p g e i xs = g (i + j)) ∨ ((∀ b ∈ xs, p b = false) ∧ firstOf p g e i xs = e)
 | i, [] => .inr ⟨by simp, rfl⟩
 | i, x :: xs => by
  cases hp : p x with
  | true => exact .inl ⟨0, x, rfl, hp, by simp [firstOf, hp]⟩
  | false =>
   rcases firstOf_some (p := p) (g := g) (e := e) (i := i + 1) (xs := xs) with ⟨j, b, h1, h2, h3⟩ | ⟨h1, h2⟩
   ·exact .inl ⟨j + 1, b, by simpa using h1, h2, by simp only [firstOf, hp]; rw [show i + (j + 1) = i + 1 + j by omega]; exact h3⟩
   ·refine .inr ⟨fun b hb => ?_, by simpa [firstOf, hp] using h2⟩
    rcases List.mem_cons.1 hb with rfl | hb
    ·exact hp
    ·exact h1 b hb
theorem firstOf_map {α R S : Type} {p : α → Bool} {g : Nat → R} {e : R} (h : R → S) : ∀ (i : Nat) (xs : List α), h (firstOf p g e i xs) = firstOf p (fun j => h (g j)) (h e) i xs
 | i, [] => rfl
 | i, x :: xs => by
  simp only [firstOf]
  split
  ·rfl
  ·exact firstOf_map h (i + 1) xs
theorem pigeon : ∀ (n : Nat) (l : List Nat), l.Nodup → (∀ x ∈ l, x < n) → l.length ≤ n
 | 0, l, _, h => by
  cases l with
  | nil => simp
  | cons a l => exact absurd (h a (by simp)) (by omega)
 | n + 1, l, hd, h => by
  have h1 : (l.erase n).length ≤ n := pigeon n (l.erase n) (hd.erase n) (fun x hx => by
   have h2 := h x (List.mem_of_mem_erase hx)
   have h3 : x ≠ n := fun e => by subst e; exact (List.Nodup.not_mem_erase hd) hx
   omega)
  by_cases hn : n ∈ l
  ·rw [List.length_erase_of_mem hn] at h1; omega
  ·rw [List.erase_of_not_mem hn] at h1; omega
theorem EvP.shift {α : Type} {f : Nat → Option α} {P : α → Prop} (h : EvP f P) : EvP (fun k => f (k + 1)) P := by
 obtain ⟨r, h1, h2⟩ := h
 exact ⟨r, h1.shift, h2⟩
theorem EvP.ev {α : Type} {f : Nat → Option α} {r : α} (h : EvP f (fun x => x = r)) : Ev f r := by
 obtain ⟨x, h1, rfl⟩ := h
 exact h1
def isIn (x a b : Int) : Bool := decide (a ≤ x ∧ x ≤ b)
theorem sIn (k : Nat) (x a b : Int) : S_l1In k x a b = some (isIn x a b) := by
 unfold S_l1In isIn
 simp only [Bool.cond_decide]
 split
 all_goals
  refine congrArg some (Bool.eq_iff_iff.mpr ?_)
  simp only [decide_eq_true_eq, Bool.false_eq_true, false_iff]
  omega
theorem iIn (k : Nat) (x a b : Int) : I_within k x a b = some (isIn x a b) := sIn k x a b
theorem bvNat (n : Nat) (h : n < 18446744073709551616) : (BitVec.ofInt 64 (n : Int)).toNat = n := by
 rw [BitVec.ofInt_natCast, BitVec.toNat_ofNat]; exact Nat.mod_eq_of_lt (by omega)
theorem and127 (n : Nat) (h : n < 9223372036854775808) : Go.bits .and .i64 (n : Int) 127 = ((n % 128 : Nat) : Int) := by
 show IntKind.i64.wrap ((BitVec.ofInt 64 (n : Int) &&& BitVec.ofInt 64 ((127 : Nat) : Int)).toNat : Int) = _
 rw [BitVec.toNat_and, bvNat n (by omega), bvNat 127 (by omega), Nat.and_two_pow_sub_one_eq_mod n 7, wid (by omega) (by omega)]
theorem orNat (a b : Nat) (ha : a < 9223372036854775808) (hb : b < 9223372036854775808) : Go.bits .or .i64 (a : Int) (b : Int) = ((a ||| b : Nat) : Int) := by
 show IntKind.i64.wrap ((BitVec.ofInt 64 (a : Int) ||| BitVec.ofInt 64 (b : Int)).toNat : Int) = _
 have : a ||| b < 2 ^ 63 := Nat.or_lt_two_pow ha hb
 rw [BitVec.toNat_or, bvNat a (by omega), bvNat b (by omega), wid (by omega) (by omega)]
theorem orLow (a b i : Nat) (ha : a < 2 ^ i) : a ||| (b * 2 ^ i) = a + b * 2 ^ i := by
 rw [Nat.or_comm, Nat.mul_comm, ← Nat.two_pow_add_eq_or_of_lt ha, Nat.add_comm]
theorem or128 (m : Nat) (h : m < 128) : Go.bits .or .i64 (m : Int) 128 = ((128 + m : Nat) : Int) := by
 have := orNat m 128 (by omega) (by omega)
 rw [show ((128 : Nat) : Int) = 128 from rfl] at this
 rw [this, show 128 = 1 * 2 ^ 7 from rfl, orLow m 1 7 (by omega)]
 congr 1; omega
theorem highI (n : Nat) : shrI .i64 (n : Int) 7 = ((n / 128 : Nat) : Int) := by
 show Int.fdiv (n : Int) 128 = _
 rw [Int.fdiv_eq_ediv_of_nonneg _ (by omega)]; omega
theorem lowI (n : Nat) (h : n < 9223372036854775808) : Go.bits .or .i64 (Go.bits .and .i64 (n : Int) 127) 128 = ((128 + n % 128 : Nat) : Int) := by
 rw [and127 n h, or128 _ (Nat.mod_lt _ (by omega))]
theorem lowS (n : Nat) : IntKind.i64.wrap (128 + Int.tmod (n : Int) 128) = ((128 + n % 128 : Nat) : Int) := by
 rw [show Int.tmod (n : Int) 128 = ((n % 128 : Nat) : Int) from rfl, wid (by omega) (by omega)]; omega
theorem highS (n : Nat) (h : n < 9223372036854775808) : IntKind.i64.wrap (Int.tdiv (n : Int) 128) = ((n / 128 : Nat) : Int) := by
 rw [show Int.tdiv (n : Int) 128 = ((n / 128 : Nat) : Int) from rfl, wid (by omega) (by omega)]
theorem ofI_nat (n : Nat) (h : n < 256) : ofI (n : Int) = UInt8.ofNat n := by
 unfold ofI
 have : ((n : Int) % 256).toNat = n := by omega
 rw [this]
def varE (n : Nat) : List UInt8 := if h : n < 128 then [UInt8.ofNat n] else UInt8.ofNat (128 + n % 128) :: varE (n / 128)
termination_by n
decreasing_by omega
theorem varE_lt {n : Nat} (h : n < 128) : varE n = [UInt8.ofNat n] := by rw [varE, dif_pos h]
theorem varE_ge {n : Nat} (h : 128 ≤ n) : varE n = UInt8.ofNat (128 + n % 128) :: varE (n / 128) := by rw [varE, dif_neg (by omega)]
theorem varE_pos (n : Nat) : 0 < (varE n).length := by
 by_cases hn : n < 128
 ·rw [varE_lt hn]; simp
 ·rw [varE_ge (by omega)]; simp
def varI (a : Int) : List UInt8 := if 0 ≤ a ∧ a ≤ 562949953421311 then varE a.toNat else []
theorem varI_nat (n : Nat) (h : n ≤ 562949953421311) : varI (n : Int) = varE n := by
 unfold varI; rw [if_pos (by omega)]; simp
theorem sVarL : ∀ (m n : Nat) (acc : List UInt8), n < 128 ^ (m + 1) → m ≤ 8 → acc.length + m ≤ 1000 → Ev (fun k => S_Var.l2 k (n : Int) acc) (acc ++ varE n) := by
 intro m
 induction m with
 | zero =>
  intro n acc h hm ha
  refine Ev.succ ?_
  simp only [S_Var.l2]
  rw [decide_eq_false (p := (n : Int) ≥ 128) (by omega), decide_eq_true (p := (2 * (acc.length + [ofI (n : Int)].length) + 192) * 1 ≤ 281474976710656) (by simp; omega), ofI_nat n (by omega), varE_lt (by omega)]
  exact Ev.pure _
 | succ m ih =>
  intro n acc h hm ha
  have h9 : n < 9223372036854775808 := Nat.lt_of_lt_of_le h (Nat.le_trans (Nat.pow_le_pow_right (by omega) (show m + 1 + 1 ≤ 9 by omega)) (by decide))
  refine Ev.succ ?_
  simp only [S_Var.l2]
  by_cases hn : n < 128
  ·rw [decide_eq_false (p := (n : Int) ≥ 128) (by omega), decide_eq_true (p := (2 * (acc.length + [ofI (n : Int)].length) + 192) * 1 ≤ 281474976710656) (by simp; omega), ofI_nat n (by omega), varE_lt hn]
   exact Ev.pure _
  ·rw [decide_eq_true (p := (n : Int) ≥ 128) (by omega), lowS, highS n h9, ofI_nat (128 + n % 128) (by omega), decide_eq_true (p := (2 * (acc.length + [UInt8.ofNat (128 + n % 128)].length) + 192) * 1 ≤ 281474976710656) (by simp; omega)]
   simp only [cond_true]
   refine (ih (n / 128) _ (by rw [Nat.pow_succ] at h; omega) (by omega) (by rw [List.length_append]; simp only [List.length_cons, List.length_nil]; omega)).to ?_
   rw [varE_ge (n := n) (by omega), List.append_assoc]; rfl
theorem iVarL : ∀ (m n : Nat) (acc : List UInt8), n < 128 ^ (m + 1) → m ≤ 8 → acc.length + m ≤ 1000 → Ev (fun k => I_Var.l2 k (n : Int) acc) (acc ++ varE n) := by
 intro m
 induction m with
 | zero =>
  intro n acc h hm ha
  refine Ev.succ ?_
  simp only [I_Var.l2]
  rw [decide_eq_false (p := (n : Int) > 127) (by omega), decide_eq_true (p := (2 * (acc.length + [ofI (n : Int)].length) + 192) * 1 ≤ 281474976710656) (by simp; omega), ofI_nat n (by omega), varE_lt (by omega)]
  exact Ev.pure _
 | succ m ih =>
  intro n acc h hm ha
  have h9 : n < 9223372036854775808 := Nat.lt_of_lt_of_le h (Nat.le_trans (Nat.pow_le_pow_right (by omega) (show m + 1 + 1 ≤ 9 by omega)) (by decide))
  refine Ev.succ ?_
  simp only [I_Var.l2]
  by_cases hn : n < 128
  ·rw [decide_eq_false (p := (n : Int) > 127) (by omega), decide_eq_true (p := (2 * (acc.length + [ofI (n : Int)].length) + 192) * 1 ≤ 281474976710656) (by simp; omega), ofI_nat n (by omega), varE_lt hn]
   exact Ev.pure _
  ·rw [decide_eq_true (p := (n : Int) > 127) (by omega), lowI n h9, highI n, ofI_nat (128 + n % 128) (by omega), decide_eq_true (p := (2 * (acc.length + [UInt8.ofNat (128 + n % 128)].length) + 192) * 1 ≤ 281474976710656) (by simp; omega)]
   simp only [cond_true]
   refine (ih (n / 128) _ (by rw [Nat.pow_succ] at h; omega) (by omega) (by rw [List.length_append]; simp only [List.length_cons, List.length_nil]; omega)).to ?_
   rw [varE_ge (n := n) (by omega), List.append_assoc]; rfl
theorem sVar (a : Int) : Ev (fun k => S_Var k a) (varI a) := by
 simp only [S_Var, sIn, Option.bind_some]
 refine Ev.ite (fun hc => ?_) (fun hc => ?_)
 ·refine (Ev.pure _).to ?_
  unfold varI; rw [if_neg (fun h => by unfold isIn at hc; rw [decide_eq_true h] at hc; cases hc)]
 ·have h : 0 ≤ a ∧ a ≤ 562949953421311 := by simpa [isIn] using hc
  obtain ⟨n, rfl⟩ : ∃ n : Nat, a = n := ⟨a.toNat, by omega⟩
  refine (sVarL 6 n [] (by omega) (by omega) (by simp)).to ?_
  rw [varI_nat n (by omega)]; rfl
theorem iVar (a : Int) : Ev (fun k => I_Var k a) (varI a) := by
 simp only [I_Var, iIn, Option.bind_some]
 refine Ev.ite (fun hc => ?_) (fun hc => ?_)
 ·refine (Ev.pure _).to ?_
  unfold varI; rw [if_neg (fun h => by unfold isIn at hc; rw [decide_eq_true h] at hc; cases hc)]
 ·have h : 0 ≤ a ∧ a ≤ 562949953421311 := by simpa [isIn] using hc
  obtain ⟨n, rfl⟩ : ∃ n : Nat, a = n := ⟨a.toNat, by omega⟩
  refine (iVarL 6 n [] (by omega) (by omega) (by simp)).to ?_
  rw [varI_nat n (by omega)]; rfl
/-- The number at the begin of a text, of at most f bytes, and how many they are. -/
def dv : Nat → List UInt8 → Option (Nat × Nat)
 | 0, _ => none
 | _ + 1, [] => none
 | f + 1, b :: bs => if b.toNat < 128 then some (b.toNat, 1) else match dv f bs with
  | some (n, s) => if n = 0 then none else some (b.toNat % 128 + 128 * n, s + 1)
  | none => none
def rvP (s : List UInt8) : Int × Int := match dv 7 s with
 | some (n, z) => ((n : Int), (z : Int))
 | none => (0, 0)
theorem u8eta (b : UInt8) : UInt8.ofNat b.toNat = b := by simp
theorem dv_ok : ∀ {f : Nat} {s : List UInt8} {n z : Nat}, dv f s = some (n, z) → z ≤ s.length ∧ z ≤ f ∧ 0 < z ∧ s.take z = varE n ∧ n < 128 ^ z
 | 0, s, n, z, h => by simp [dv] at h
 | f + 1, [], n, z, h => by simp [dv] at h
 | f + 1, b :: bs, n, z, h => by
  simp only [dv] at h
  split at h
  ·rename_i hb
   cases h
   exact ⟨by simp, by omega, by omega, by rw [varE_lt hb]; simp, by simpa using hb⟩
  ·rename_i hb
   split at h
   ·rename_i m t hm
    split at h
    ·cases h
    ·rename_i hm0
     cases h
     obtain ⟨h1, h2, h3, h4, h5⟩ := dv_ok hm
     have hb2 := b.toNat_lt
     refine ⟨by simp; omega, by omega, by omega, ?_, ?_⟩
     ·rw [List.take_succ_cons, h4, varE_ge (n := b.toNat % 128 + 128 * m) (by omega)]
      have e1 : (b.toNat % 128 + 128 * m) % 128 = b.toNat % 128 := by omega
      have e2 : (b.toNat % 128 + 128 * m) / 128 = m := by omega
      rw [e1, e2, show 128 + b.toNat % 128 = b.toNat by omega, u8eta]
     ·rw [Nat.pow_succ]; omega
   ·cases h
theorem varE_dv : ∀ {f : Nat} {n : Nat} {t : List UInt8}, n < 128 ^ (f + 1) → dv (f + 1) (varE n ++ t) = some (n, (varE n).length)
 | f, n, t, h => by
  by_cases hn : n < 128
  ·rw [varE_lt hn]
   have : (UInt8.ofNat n).toNat = n := by rw [UInt8.toNat_ofNat']; omega
   simp [dv, this, hn]
  ·have h1 : (UInt8.ofNat (128 + n % 128)).toNat = 128 + n % 128 := by rw [UInt8.toNat_ofNat']; omega
   rw [varE_ge (n := n) (by omega)]
   cases f with
   | zero => omega
   | succ f =>
    have ih := varE_dv (f := f) (n := n / 128) (t := t) (by rw [Nat.pow_succ] at h; omega)
    simp only [List.cons_append, dv.eq_3 (f + 1), h1]
    rw [if_neg (by omega), ih]
    simp only
    rw [if_neg (by omega)]
    simp only [List.length_cons]
    congr 2; omega
/-- The sum of the digits, the lowest first. -/
def digs : List UInt8 → Nat
 | [] => 0
 | b :: bs => b.toNat % 128 + 128 * digs bs
theorem digs_lt : ∀ (s : List UInt8), digs s < 128 ^ s.length
 | [] => by simp [digs]
 | b :: bs => by have := digs_lt bs; simp only [digs, List.length_cons, Nat.pow_succ]; omega
theorem digs_snoc : ∀ (s : List UInt8) (b : UInt8), digs (s ++ [b]) = digs s + b.toNat % 128 * 128 ^ s.length
 | [], b => by simp [digs]
 | c :: s, b => by
  simp only [List.cons_append, digs, List.length_cons, digs_snoc s b, Nat.pow_succ]
  rw [Nat.mul_add, Nat.mul_comm (128 ^ s.length) 128, ← Nat.mul_assoc, ← Nat.mul_assoc, Nat.mul_comm (b.toNat % 128) 128]
  omega
theorem digs_varE : ∀ (m n : Nat), n < 128 ^ (m + 1) → digs (varE n) = n
 | m, n, h => by
  by_cases hn : n < 128
  ·rw [varE_lt hn]; simp [digs, UInt8.toNat_ofNat']; omega
  ·rw [varE_ge (by omega)]
   have h1 : (UInt8.ofNat (128 + n % 128)).toNat = 128 + n % 128 := by rw [UInt8.toNat_ofNat']; omega
   cases m with
   | zero => omega
   | succ m =>
    simp only [digs, h1, digs_varE m (n / 128) (by rw [Nat.pow_succ] at h; omega)]; omega
/-- Whether the first bytes are a number's, of just this size. -/
theorem dv_take {s : List UInt8} {z : Nat} (hz : z ≤ s.length) (h7 : z ≤ 7) (h0 : 0 < z) (h : varE (digs (s.take z)) = s.take z) : dv 7 s = some (digs (s.take z), z) := by
 have h1 : digs (s.take z) < 128 ^ 7 := by
  have := digs_lt (s.take z)
  rw [List.length_take, Nat.min_eq_left hz] at this
  exact Nat.lt_of_lt_of_le this (Nat.pow_le_pow_right (by omega) h7)
 have h2 := varE_dv (f := 6) (n := digs (s.take z)) (t := s.drop z) h1
 rw [h, List.take_append_drop, List.length_take, Nat.min_eq_left hz] at h2
 exact h2
theorem dv_take' {s : List UInt8} {n z : Nat} (h : dv 7 s = some (n, z)) : digs (s.take z) = n ∧ varE (digs (s.take z)) = s.take z := by
 obtain ⟨h1, h2, h3, h4, h5⟩ := dv_ok h
 have h6 : n < 128 ^ (6 + 1) := Nat.lt_of_lt_of_le h5 (Nat.pow_le_pow_right (by omega) h2)
 have e : digs (s.take z) = n := by rw [h4]; exact digs_varE 6 n h6
 exact ⟨e, by rw [e, h4]⟩
theorem cutN {α : Type} {xs : List α} {a b : Nat} (h : a ≤ b) (h2 : b ≤ xs.length) : cut? xs (a : Int) (b : Int) = some ((xs.drop a).take (b - a)) := by
 unfold cut?
 rw [if_pos (by omega)]
 congr 2; omega
theorem cut0 {α : Type} {xs : List α} {b : Nat} (h2 : b ≤ xs.length) : cut? xs 0 (b : Int) = some (xs.take b) := by
 have := cutN (xs := xs) (a := 0) (b := b) (by omega) h2
 simpa using this
theorem cutEnd {α : Type} {xs : List α} {a : Nat} (h : a ≤ xs.length) : cut? xs (a : Int) (xs.length : Int) = some (xs.drop a) := by
 rw [cutN h (Nat.le_refl _)]
 congr 1
 exact List.take_of_length_le (by simp)
theorem varE_bytes : ∀ (m n : Nat), n < 128 ^ (m + 1) → ∀ (j : Nat) (b : UInt8), (varE n)[j]? = some b → if j + 1 < (varE n).length then 128 ≤ b.toNat else b.toNat < 128
 | m, n, h, j, b, hj => by
  by_cases hn : n < 128
  ·rw [varE_lt hn] at hj ⊢
   cases j with
   | zero => simp at hj; subst hj; simp [UInt8.toNat_ofNat']; omega
   | succ j => simp at hj
  ·rw [varE_ge (n := n) (by omega)] at hj ⊢
   have h1 : (UInt8.ofNat (128 + n % 128)).toNat = 128 + n % 128 := by rw [UInt8.toNat_ofNat']; omega
   have hp := varE_pos (n / 128)
   cases j with
   | zero => simp only [List.getElem?_cons_zero, Option.some.injEq] at hj; subst hj; rw [if_pos (by simp; omega), h1]; omega
   | succ j =>
    cases m with
    | zero => omega
    | succ m =>
     simp only [List.getElem?_cons_succ] at hj
     have := varE_bytes m (n / 128) (by rw [Nat.pow_succ] at h; omega) j b hj
     simp only [List.length_cons]
     by_cases hl : j + 1 < (varE (n / 128)).length
     ·rw [if_pos (by omega)]; rwa [if_pos hl] at this
     ·rw [if_neg (by omega)]; rwa [if_neg hl] at this
theorem dv_bytes {s : List UInt8} {n z : Nat} (h : dv 7 s = some (n, z)) {j : Nat} {b : UInt8} (hj : s[j]? = some b) : (j + 1 < z → 128 ≤ b.toNat) ∧ (j + 1 = z → b.toNat < 128) := by
 obtain ⟨h1, h2, h3, h4, h5⟩ := dv_ok h
 have h6 : n < 128 ^ (6 + 1) := Nat.lt_of_lt_of_le h5 (Nat.pow_le_pow_right (by omega) h2)
 have hlen : (varE n).length = z := by rw [← h4, List.length_take]; omega
 have get : j < z → (varE n)[j]? = some b := fun hjz => by rw [← h4, List.getElem?_take, if_pos hjz]; exact hj
 refine ⟨fun hl => ?_, fun hl => ?_⟩
 ·have := varE_bytes 6 n h6 j b (get (by omega))
  rwa [if_pos (by omega)] at this
 ·have := varE_bytes 6 n h6 j b (get (by omega))
  rwa [if_neg (by omega)] at this
theorem sRV26 (s : List UInt8) (z : Nat) (hz : z ≤ s.length) (h7 : z ≤ 7) (h0 : 0 < z) (r2 : Int × Int) : ∀ (j : Nat) (cl : Nat → List UInt8 → Int → Option (Int × Int)), j ≤ z → Ev (fun k => cl k s (IntKind.i64.wrap ((z : Int) + 1))) r2 →
  Ev (fun k => S_ReadVar.l26 (cl k) k s (z : Int) (digs ((s.take z).drop j) : Int) ((j : Int) - 1)) (if varE (digs (s.take z)) = s.take z then ((digs (s.take z) : Int), (z : Int)) else r2) := by
 have hlt : digs (s.take z) < 128 ^ 7 := by
  have := digs_lt (s.take z)
  rw [List.length_take, Nat.min_eq_left hz] at this
  exact Nat.lt_of_lt_of_le this (Nat.pow_le_pow_right (by omega) h7)
 intro j
 induction j with
 | zero =>
  intro cl hj hcl
  refine Ev.succ ?_
  simp only [S_ReadVar.l26]
  rw [decide_eq_false (by omega)]
  simp only [cond_false, List.drop_zero]
  refine Ev.bind (sVar _) ?_
  rw [varI_nat _ (by omega), cut0 hz]
  simp only [Option.bind_some]
  refine Ev.ite (fun hc => ?_) (fun hc => ?_)
  ·rw [if_pos (eq_of_beq hc)]; exact Ev.pure _
  ·rw [if_neg (fun h => by rw [h] at hc; simp at hc)]; exact hcl.shift
 | succ j ih =>
  intro cl hj hcl
  refine Ev.succ ?_
  simp only [S_ReadVar.l26]
  obtain ⟨b, hb⟩ := atLt (xs := s) (i := j) (by omega)
  rw [decide_eq_true (by omega)]
  rw [show ((j + 1 : Nat) : Int) - 1 = (j : Int) by omega]
  simp only [cond_true]
  refine Ev.at? hb ?_
  have e : (s.take z).drop j = b :: (s.take z).drop (j + 1) := by
   have hl : j < (s.take z).length := by rw [List.length_take]; omega
   rw [List.drop_eq_getElem_cons hl]
   congr 1
   rw [List.getElem_take]
   rw [List.getElem?_eq_getElem (by omega)] at hb
   exact Option.some.inj hb
  have hd : digs ((s.take z).drop (j + 1)) < 128 ^ 7 := by
   have h1 := digs_lt ((s.take z).drop (j + 1))
   have h2 : ((s.take z).drop (j + 1)).length ≤ 7 := by simp; omega
   exact Nat.lt_of_lt_of_le h1 (Nat.pow_le_pow_right (by omega) h2)
  have e2 : IntKind.i64.wrap (IntKind.i64.wrap ((digs ((s.take z).drop (j + 1)) : Int) * 128) + Int.tmod (b.toNat : Int) 128) = (digs ((s.take z).drop j) : Int) := by
   rw [show Int.tmod (b.toNat : Int) 128 = ((b.toNat % 128 : Nat) : Int) from rfl, e]
   simp only [digs]
   rw [wid (n := (digs ((s.take z).drop (j + 1)) : Int) * 128) (by omega) (by omega), wid (by omega) (by omega)]
   omega
  rw [e2, wid (n := (j : Int) - 1) (by omega) (by omega)]
  exact ih (fun k => cl (k + 1)) (by omega) hcl.shift
theorem sReadVar (s : List UInt8) (hs : s.length ≤ 1048576) : Ev (fun k => S_ReadVar k s) (rvP s) := by
 have key : ∀ (m z : Nat), z + m = 8 → 0 < z → Ev (fun k => S_ReadVar.l22 k s (z : Int)) (match dv 7 s with | some (n, t) => if z ≤ t then ((n : Int), (t : Int)) else (0, 0) | none => (0, 0)) := by
  intro m
  induction m with
  | zero =>
   intro z hz h0
   refine Ev.succ ?_
   simp only [S_ReadVar.l22]
   rw [decide_eq_false (by omega)]
   refine (Ev.pure _).to ?_
   cases hd : dv 7 s with
   | none => rfl
   | some p => obtain ⟨n, t⟩ := p; have := (dv_ok hd).2.1; simp only; rw [if_neg (by omega)]
  | succ m ih =>
   intro z hz h0
   refine Ev.succ ?_
   simp only [S_ReadVar.l22]
   rw [decide_eq_true (p := (z : Int) ≤ 7) (by omega)]
   simp only [cond_true]
   by_cases hl : z ≤ s.length
   ·rw [decide_eq_true (p := (z : Int) ≤ (s.length : Int)) (by omega)]
    simp only [cond_true]
    have hn := ih (z + 1) (by omega) (by omega)
    have h26 := sRV26 s z hl (by omega) h0 _ z (fun k => S_ReadVar.l22 k) (Nat.le_refl _) (by rw [wid1 (by omega)]; exact hn)
    rw [show (s.take z).drop z = [] from List.drop_of_length_le (by rw [List.length_take]; omega)] at h26
    rw [wid (n := (z : Int) - 1) (by omega) (by omega)]
    refine h26.to ?_
    by_cases he : varE (digs (s.take z)) = s.take z
    ·rw [if_pos he, dv_take hl (by omega) h0 he]; simp
    ·rw [if_neg he]
     cases hd : dv 7 s with
     | none => rfl
     | some p =>
      obtain ⟨n, t⟩ := p
      have : t ≠ z := fun e => by subst e; exact he (dv_take' hd).2
      simp only
      by_cases h : z ≤ t
      ·rw [if_pos h, if_pos (by omega)]
      ·rw [if_neg h, if_neg (by omega)]
   ·rw [decide_eq_false (p := (z : Int) ≤ (s.length : Int)) (by omega)]
    refine (Ev.pure _).to ?_
    cases hd : dv 7 s with
    | none => rfl
    | some p => obtain ⟨n, t⟩ := p; have := (dv_ok hd).1; simp only; rw [if_neg (by omega)]
 simp only [S_ReadVar]
 refine (key 7 1 (by omega) (by omega)).to ?_
 unfold rvP
 cases hd : dv 7 s with
 | none => rfl
 | some p => obtain ⟨n, t⟩ := p; have := (dv_ok hd).2.2.1; simp only; rw [if_pos (by omega)]
theorem pow7 (i : Nat) : 2 ^ (7 * i) = 128 ^ i := by rw [Nat.pow_mul]
theorem iReadVar (s : List UInt8) (hs : s.length ≤ 1048576) : Ev (fun k => I_ReadVar k s) (rvP s) := by
 have none7 : ∀ i, (∀ j b, j < i → s[j]? = some b → 128 ≤ b.toNat) → (7 ≤ i ∨ s.length ≤ i) → rvP s = (0, 0) := by
  intro i hb hi
  unfold rvP
  cases hd : dv 7 s with
  | none => rfl
  | some p =>
   obtain ⟨n, z⟩ := p
   obtain ⟨h1, h2, h3, _, _⟩ := dv_ok hd
   obtain ⟨b, hb'⟩ := atLt (xs := s) (i := z - 1) (by omega)
   have := (dv_bytes hd hb').2 (by omega)
   have := hb (z - 1) b (by omega) hb'
   omega
 have key : ∀ (m i : Nat), i + m = s.length → i ≤ 7 → (∀ j b, j < i → s[j]? = some b → 128 ≤ b.toNat) → Ev (fun k => I_ReadVar.l2 k s (digs (s.take i) : Int) (i : Int)) (rvP s) := by
  intro m
  induction m with
  | zero =>
   intro i hi h7 hb
   refine Ev.succ ?_
   simp only [I_ReadVar.l2]
   rw [decide_eq_false (by omega)]
   exact (Ev.pure _).to (none7 i hb (.inr (by omega))).symm
  | succ m ih =>
   intro i hi h7 hb
   refine Ev.succ ?_
   simp only [I_ReadVar.l2]
   rw [decide_eq_true (p := (i : Int) < (s.length : Int)) (by omega)]
   simp only [cond_true]
   by_cases hi7 : i = 7
   ·subst hi7
    rw [decide_eq_false (p := ((7 : Nat) : Int) < 7) (by omega)]
    exact (Ev.pure _).to (none7 7 hb (.inl (by omega))).symm
   rw [decide_eq_true (p := (i : Int) < 7) (by omega)]
   simp only [cond_true]
   obtain ⟨b, hb'⟩ := atLt (xs := s) (i := i) (by omega)
   have hbl := b.toNat_lt
   have e7 : IntKind.i64.wrap ((7 : Int) * (i : Int)) = ((7 * i : Nat) : Int) := by rw [wid (by omega) (by omega)]; omega
   refine Ev.at? hb' ?_
   rw [e7, decide_eq_false (by omega)]
   simp only [Bool.not_false, cond_true]
   refine Ev.at? hb' ?_
   have hand : ((b &&& 127).toNat : Nat) = b.toNat % 128 := by
    rw [UInt8.toNat_and]; exact Nat.and_two_pow_sub_one_eq_mod b.toNat 7
   have hdl : digs (s.take i) < 128 ^ i := by
    have := digs_lt (s.take i)
    rwa [List.length_take, Nat.min_eq_left (by omega)] at this
   have hp : 128 ^ i ≤ 128 ^ 6 := Nat.pow_le_pow_right (by omega) (by omega)
   have hm : b.toNat % 128 * 128 ^ i < 562949953421312 := by
    have h1 : b.toNat % 128 * 128 ^ i ≤ 127 * 128 ^ 6 := Nat.mul_le_mul (by omega) hp
    omega
   have eshl : shlI .i64 ((b.toNat % 128 : Nat) : Int) ((7 * i : Nat) : Int) = ((b.toNat % 128 * 128 ^ i : Nat) : Int) := by
    unfold shlI
    have e : min (((7 * i : Nat) : Int)).toNat IntKind.i64.bits = 7 * i := by
     have : IntKind.i64.bits = 64 := rfl
     rw [Int.toNat_natCast, this]; omega
    rw [e]
    have e2 : ((b.toNat % 128 : Nat) : Int) * 2 ^ (7 * i) = ((b.toNat % 128 * 128 ^ i : Nat) : Int) := by
     rw [← pow7, Int.natCast_mul, Int.natCast_pow]; rfl
    rw [e2]
    exact wid (by omega) (by omega)
   have eor : Go.bits .or .i64 (digs (s.take i) : Int) (shlI .i64 (((b &&& 127).toNat : Nat) : Int) ((7 * i : Nat) : Int)) = (digs (s.take (i + 1)) : Int) := by
    rw [hand, eshl, orNat _ _ (by omega) (by omega), ← pow7, orLow _ _ _ (by rw [pow7]; exact hdl), take_succ_get hb', digs_snoc, List.length_take, Nat.min_eq_left (by omega), pow7]
   rw [eor, wid1 (by omega)]
   have hd7 : digs (s.take (i + 1)) ≤ 562949953421311 := by
    have := digs_lt (s.take (i + 1))
    rw [List.length_take, Nat.min_eq_left (by omega)] at this
    have h2 : 128 ^ (i + 1) ≤ 128 ^ 7 := Nat.pow_le_pow_right (by omega) (by omega)
    omega
   refine Ev.ite (fun hc => ?_) (fun hc => ?_)
   ·have hlt : b.toNat < 128 := by
     have := of_decide_eq_true hc
     simpa [UInt8.lt_iff_toNat_lt] using this
    refine Ev.bind (iVar _) ?_
    rw [varI_nat _ hd7, cut0 (by omega)]
    simp only [Option.bind_some]
    refine Ev.ite (fun hne => ?_) (fun hne => ?_)
    ·refine (Ev.pure _).to ?_
     unfold rvP
     cases hd : dv 7 s with
     | none => rfl
     | some p =>
      obtain ⟨n, z⟩ := p
      obtain ⟨h1, h2, h3, _, _⟩ := dv_ok hd
      have hz : z = i + 1 := by
       obtain ⟨c, hc'⟩ := atLt (xs := s) (i := z - 1) (by omega)
       have l1 := (dv_bytes hd hc').2 (by omega)
       have l2 : ¬ z - 1 < i := fun h => by have := hb (z - 1) c h hc'; omega
       have l3 : ¬ i + 1 < z := fun h => by have := (dv_bytes hd hb').1 h; omega
       omega
      subst hz
      have := (dv_take' hd).2
      rw [this] at hne; simp at hne
    ·refine (Ev.pure _).to ?_
     have he : varE (digs (s.take (i + 1))) = s.take (i + 1) := by simpa using hne
     unfold rvP
     rw [dv_take (by omega) (by omega) (by omega) he]
   ·refine ih (i + 1) (by omega) (by omega) (fun j c hj hc' => ?_)
    by_cases hji : j < i
    ·exact hb j c hji hc'
    ·have : j = i := by omega
     subst this
     rw [hb'] at hc'; cases hc'
     have := of_decide_eq_false hc
     simpa [UInt8.lt_iff_toNat_lt] using this
 simp only [I_ReadVar]
 exact key s.length 0 (by omega) (by omega) (fun j b hj => by omega)
theorem at?_drop {s : List UInt8} {i : Nat} {c : UInt8} {t : List UInt8} (h : s.drop i = c :: t) : s[i]? = some c ∧ s.drop (i + 1) = t ∧ i < s.length := by
 have h1 : (s.drop i)[0]? = some c := by rw [h]; rfl
 rw [List.getElem?_drop, Nat.add_zero] at h1
 refine ⟨h1, ?_, (List.getElem?_eq_some_iff.1 h1).1⟩
 rw [← List.drop_drop, h]; rfl
theorem drop_cons_ex {s : List UInt8} {i : Nat} (h : i < s.length) : ∃ c t, s.drop i = c :: t := by
 cases hd : s.drop i with
 | nil => have := congrArg List.length hd; simp at this; omega
 | cons c t => exact ⟨c, t, rfl⟩
theorem drop_at {α : Type} {l : List α} {j : Nat} {k : α} {ks : List α} (h : l.drop j = k :: ks) : j < l.length ∧ l[j]? = some k ∧ l.drop (j + 1) = ks := by
 have hk : l[j]? = some k := by
  have : (l.drop j)[0]? = some k := by rw [h]; rfl
  rwa [List.getElem?_drop, Nat.add_zero] at this
 exact ⟨(List.getElem?_eq_some_iff.1 hk).1, hk, by rw [← List.drop_drop, h]; rfl⟩
def tmsOf (f : List UInt8 → Option Nat) : Nat → List UInt8 → Option Nat
 | 0, _ => some 0
 | n + 1, s => match f s with
  | some m => match tmsOf f n (s.drop m) with
   | some r => some (m + r)
   | none => none
  | none => none
/-- How long the term is with which a text begins, of at most this depth. -/
def tm : Nat → List UInt8 → Option Nat
 | 0, _ => none
 | _ + 1, [] => none
 | d + 1, c :: s => match dv 7 s with
  | none => none
  | some (n, z) =>
   if c = 97 then (if n ≤ 40 ∧ z + n ≤ s.length then some (1 + z + n) else none)
   else if c = 107 then (if 1 ≤ n ∧ n ≤ 1000000 then some (1 + z) else none)
   else if c = 115 then (if 1 ≤ n ∧ n ≤ 1000000 then (match tm d (s.drop z) with | some m => some (1 + z + m) | none => none) else none)
   else if c = 108 then (if n ≤ 12 then (match tmsOf (tm d) n (s.drop z) with | some m => some (1 + z + m) | none => none) else none)
   else none
def szI : Option Nat → Int
 | some m => (m : Int)
 | none => 0
theorem tmsOf_le {f : List UInt8 → Option Nat} (hf : ∀ s m, f s = some m → m ≤ s.length) : ∀ (n : Nat) (s : List UInt8) (m : Nat), tmsOf f n s = some m → m ≤ s.length
 | 0, s, m, h => by simp [tmsOf] at h; omega
 | n + 1, s, m, h => by
  simp only [tmsOf] at h
  split at h
  ·rename_i a ha
   split at h
   ·rename_i b hb
    cases h
    have h1 := hf s a ha
    have h2 := tmsOf_le hf n (s.drop a) b hb
    rw [List.length_drop] at h2
    omega
   ·cases h
  ·cases h
theorem tm_le : ∀ (d : Nat) (s : List UInt8) (m : Nat), tm d s = some m → 0 < m ∧ m ≤ s.length
 | 0, s, m, h => by simp [tm] at h
 | d + 1, [], m, h => by simp [tm] at h
 | d + 1, c :: s, m, h => by
  simp only [tm] at h
  split at h
  ·cases h
  ·rename_i n z hd
   have hz := (dv_ok hd).1
   repeat' split at h
   all_goals first | cases h; done | skip
   ·cases h; rename_i h1; simp; omega
   ·cases h; simp; omega
   ·rename_i a ha
    cases h
    have := tm_le d _ _ ha
    rw [List.length_drop] at this
    simp; omega
   ·rename_i a ha
    cases h
    have := tmsOf_le (fun s m hm => (tm_le d s m hm).2) n _ _ ha
    rw [List.length_drop] at this
    simp; omega
theorem sTermL (s : List UInt8) (hs : s.length ≤ 1048576) (d : Nat) (hd8 : d ≤ 100) (at0 : Nat) (a2 : Int) (ha2 : IntKind.i64.wrap (a2 - 1) = (d : Int)) (n : Nat) (hn : n ≤ 12) : ∀ (m j : Nat) (cl : Nat → List UInt8 → Int → Int → Option (Int × Int)) (p : Nat) (dd : Int), j + m = n → at0 ≤ p → p ≤ s.length →
  (∀ i, i ≤ s.length → EvP (fun k => cl k s (i : Int) (d : Int)) (fun r => r.1 = szI (tm d (s.drop i)))) →
  EvP (fun k => S_l2Term.l15 (cl k) k s (at0 : Int) a2 (n : Int) (p : Int) dd (j : Int)) (fun r => r.1 = match tmsOf (tm d) m (s.drop p) with | some q => (((p + q : Nat) : Int) - (at0 : Int)) | none => 0) := by
 intro m
 induction m with
 | zero =>
  intro j cl p dd hj hap hp hcl
  refine EvP.succ ?_
  simp only [S_l2Term.l15]
  rw [decide_eq_false (by omega)]
  refine EvP.pure ?_
  simp only [tmsOf, Nat.add_zero]
  exact wid (by omega) (by omega)
 | succ m ih =>
  intro j cl p dd hj hap hp hcl
  refine EvP.succ ?_
  simp only [S_l2Term.l15]
  rw [decide_eq_true (by omega)]
  simp only [cond_true, ha2]
  refine EvP.bind ((hcl p hp).shift) (fun r hr => ?_)
  cases ht : tm d (s.drop p) with
  | none =>
   rw [ht] at hr
   simp only [szI] at hr
   rw [hr]
   refine EvP.pure ?_
   simp [tmsOf, ht]
  | some q =>
   rw [ht] at hr
   simp only [szI] at hr
   obtain ⟨q0, q1⟩ := tm_le d _ _ ht
   rw [List.length_drop] at q1
   rw [hr, show ((q : Int) == 0) = false by simp; omega]
   simp only [cond_false]
   have e : IntKind.i64.wrap ((p : Int) + (q : Int)) = ((p + q : Nat) : Int) := by rw [wid (by omega) (by omega)]; omega
   have post : ∀ dd', EvP (fun k => S_l2Term.j16 (S_l2Term.l15 (cl (k + 1)) k) k s (at0 : Int) a2 (n : Int) (IntKind.i64.wrap ((p : Int) + (q : Int))) dd' (j : Int)) (fun r => r.1 = match tmsOf (tm d) (m + 1) (s.drop p) with | some q => (((p + q : Nat) : Int) - (at0 : Int)) | none => 0) := by
    intro dd'
    simp only [S_l2Term.j16]
    rw [e, wid1 (by omega)]
    refine (ih (j + 1) (fun k => cl (k + 1)) (p + q) dd' (by omega) (by omega) (by omega) (fun i hi => (hcl i hi).shift)).mono fun r hr => ?_
    rw [hr]
    simp only [tmsOf, ht]
    rw [List.drop_drop]
    cases tmsOf (tm d) m (s.drop (p + q)) with
    | none => rfl
    | some q2 => simp only; omega
   refine EvP.ite (fun _ => post _) (fun _ => post _)
theorem sTerm (s : List UInt8) (hs : s.length ≤ 1048576) : ∀ (d : Nat) (i : Nat), d ≤ 100 → i ≤ s.length → EvP (fun k => S_l2Term k s (i : Int) (d : Int)) (fun r => r.1 = szI (tm d (s.drop i))) := by
 intro d
 induction d with
 | zero =>
  intro i _ hi
  refine EvP.succ ?_
  simp only [S_l2Term]
  refine EvP.ite (fun _ => EvP.pure (by simp [tm, szI])) (fun _ => ?_)
  rw [decide_eq_true (by omega)]
  exact EvP.pure (by simp [tm, szI])
 | succ d ih =>
  intro i hd hi
  refine EvP.succ ?_
  simp only [S_l2Term]
  by_cases hl : i < s.length
  ·obtain ⟨c, t, hct⟩ := drop_cons_ex hl
   obtain ⟨hc, ht, _⟩ := at?_drop hct
   have htl : t.length = s.length - (i + 1) := by rw [← ht, List.length_drop]
   rw [decide_eq_false (p := (i : Int) ≥ (s.length : Int)) (by omega), decide_eq_false (p := ((d + 1 : Nat) : Int) < 1) (by omega), wid1 (by omega), cutEnd (by omega), ht]
   simp only [cond_false, Option.bind_some]
   refine EvP.bindE (sReadVar t (by omega)) ?_
   rw [hct]
   cases hdv : dv 7 t with
   | none => simp only [rvP, tm, hdv]; exact EvP.pure rfl
   | some q =>
    obtain ⟨n, z⟩ := q
    simp only [rvP, tm, hdv]
    obtain ⟨z1, z2, z3, _, zn⟩ := dv_ok hdv
    have hn : n < 562949953421312 := Nat.lt_of_lt_of_le zn (by have := Nat.pow_le_pow_right (n := 128) (by omega) z2; omega)
    rw [show ((z : Int) == 0) = false by simp; omega]
    simp only [cond_false]
    refine EvP.at? hc ?_
    have e1 : IntKind.i64.wrap (((i + 1 : Nat) : Int) + (z : Int)) = ((i + 1 + z : Nat) : Int) := by rw [wid (by omega) (by omega)]; omega
    have e2 : IntKind.i64.wrap (1 + (z : Int)) = ((1 + z : Nat) : Int) := by rw [wid (by omega) (by omega)]; omega
    have e3 : IntKind.i64.wrap (((d + 1 : Nat) : Int) - 1) = (d : Int) := by rw [wid (by omega) (by omega)]; omega
    have e4 : IntKind.i64.wrap ((s.length : Int) - ((i + 1 + z : Nat) : Int)) = ((s.length - (i + 1 + z) : Nat) : Int) := by rw [wid (by omega) (by omega)]; omega
    have ed : t.drop z = s.drop (i + 1 + z) := by rw [← ht, List.drop_drop]
    rw [e1, e2, e3, e4]
    refine EvP.ite (fun ha => ?_) (fun ha => ?_)
    ·have ha := eq_of_beq ha
     rw [if_pos ha]
     refine EvP.ite (fun h1 => EvP.pure ?_) (fun h1 => ?_)
     ·have := of_decide_eq_true h1
      rw [if_neg (by omega)]; rfl
     ·have h1 := of_decide_eq_false h1
      refine EvP.ite (fun h2 => EvP.pure ?_) (fun h2 => EvP.pure ?_)
      ·have := of_decide_eq_true h2
       rw [if_neg (by omega)]; rfl
      ·have := of_decide_eq_false h2
       rw [if_pos (by omega)]
       simp only [szI]
       rw [wid (by omega) (by omega)]; omega
    rw [if_neg (fun e => by rw [e] at ha; simp at ha)]
    refine EvP.ite (fun hk => ?_) (fun hk => ?_)
    ·have hk := eq_of_beq hk
     rw [if_pos hk]
     simp only [sIn, Option.bind_some, isIn]
     refine EvP.ite (fun h1 => EvP.pure ?_) (fun h1 => EvP.pure ?_)
     ·rw [if_neg (fun h => by rw [decide_eq_true (by omega)] at h1; cases h1)]; rfl
     ·have := of_decide_eq_true (by simpa using h1 : decide ((1 : Int) ≤ (n : Int) ∧ (n : Int) ≤ 1000000) = true)
      rw [if_pos (by omega)]; rfl
    rw [if_neg (fun e => by rw [e] at hk; simp at hk)]
    refine EvP.ite (fun hss => ?_) (fun hss => ?_)
    ·have hss := eq_of_beq hss
     rw [if_pos hss, ed]
     refine EvP.bind (ih (i + 1 + z) (by omega) (by omega)) (fun r hr => ?_)
     cases ht2 : tm d (s.drop (i + 1 + z)) with
     | none =>
      rw [ht2] at hr; simp only [szI] at hr
      rw [hr]
      refine EvP.pure ?_
      split <;> rfl
     | some q =>
      rw [ht2] at hr; simp only [szI] at hr
      obtain ⟨q0, q1⟩ := tm_le d _ _ ht2
      rw [List.length_drop] at q1
      rw [hr, show ((q : Int) == 0) = false by simp; omega]
      simp only [cond_false, sIn, Option.bind_some, isIn]
      refine EvP.ite (fun h1 => EvP.pure ?_) (fun h1 => EvP.pure ?_)
      ·rw [if_neg (fun h => by rw [decide_eq_true (by omega)] at h1; cases h1)]; rfl
      ·have := of_decide_eq_true (by simpa using h1 : decide ((1 : Int) ≤ (n : Int) ∧ (n : Int) ≤ 1000000) = true)
       rw [if_pos (by omega)]
       simp only [szI]
       rw [wid (by omega) (by omega)]; omega
    rw [if_neg (fun e => by rw [e] at hss; simp at hss)]
    refine EvP.ite (fun hli => ?_) (fun hli => ?_)
    ·have hli := eq_of_beq hli
     rw [if_pos hli, ed]
     refine EvP.ite (fun h1 => EvP.pure ?_) (fun h1 => ?_)
     ·have := of_decide_eq_true h1
      rw [if_neg (by omega)]; rfl
     ·have h1 := of_decide_eq_false h1
      rw [if_pos (by omega)]
      refine (sTermL s hs d (by omega) i ((d + 1 : Nat) : Int) e3 n (by omega) n 0 (fun k => S_l2Term k) (i + 1 + z) 0 (by omega) (by omega) (by omega) (fun j hj => ih j (by omega) hj)).mono fun r hr => ?_
      rw [hr]
      cases tmsOf (tm d) n (s.drop (i + 1 + z)) with
      | none => rfl
      | some q => simp only [szI]; omega
    ·rw [if_neg (fun e => by rw [e] at hli; simp at hli)]
     exact EvP.pure rfl
  ·rw [decide_eq_true (p := (i : Int) ≥ (s.length : Int)) (by omega)]
   refine EvP.pure ?_
   have : s.drop i = [] := List.drop_of_length_le (by omega)
   rw [this]; simp [tm, szI]
def tmOk (s : List UInt8) : Bool := match tm 8 s with
 | some m => decide (m = s.length ∧ m ≤ 900)
 | none => false
theorem sTermOk (s : List UInt8) (hs : s.length ≤ 1048576) : Ev (fun k => S_TermOk k s) (tmOk s) := by
 simp only [S_TermOk]
 refine EvP.ev (EvP.bind (sTerm s hs 8 0 (by omega) (by omega)) (fun r hr => ?_))
 rw [List.drop_zero] at hr
 unfold tmOk
 cases ht : tm 8 s with
 | none =>
  rw [ht] at hr; simp only [szI] at hr
  rw [hr]; exact EvP.pure rfl
 | some m =>
  rw [ht] at hr; simp only [szI] at hr
  obtain ⟨h0, h1⟩ := tm_le 8 s m ht
  rw [hr, decide_eq_true (by omega)]
  simp only [cond_true]
  refine EvP.ite (fun h => EvP.pure ?_) (fun h => EvP.pure ?_)
  ·have h := eq_of_beq h
   exact decide_eq_decide.2 (by omega)
  ·have h : (m : Int) ≠ (s.length : Int) := fun e => by rw [e] at h; simp at h
   rw [decide_eq_false (by omega)]
theorem iVarAt (s : List UInt8) (hs : s.length ≤ 1048576) (i : Nat) (hi : i ≤ s.length) : Ev (fun k => I_varAt k s (i : Int)) (match dv 7 (s.drop i) with | some (n, z) => ((n : Int), ((i + z : Nat) : Int)) | none => (-1, (i : Int))) := by
 simp only [I_varAt]
 rw [cutEnd hi]
 simp only [Option.bind_some]
 refine Ev.bind (iReadVar _ (by rw [List.length_drop]; omega)) ?_
 simp only [rvP]
 cases hdv : dv 7 (s.drop i) with
 | none => exact Ev.pure _
 | some q =>
  obtain ⟨n, z⟩ := q
  obtain ⟨z1, z2, z3, _, _⟩ := dv_ok hdv
  simp only
  rw [show ((z : Int) == 0) = false by simp; omega, show IntKind.i64.wrap ((i : Int) + (z : Int)) = ((i + z : Nat) : Int) by rw [wid (by omega) (by omega)]; omega]
  exact Ev.pure _
def endI (i : Nat) : Option Nat → Int
 | some m => ((i + m : Nat) : Int)
 | none => -1
theorem iTermL (s : List UInt8) (d : Nat) (hd : d ≤ 100) (a2 : Int) (ha2 : IntKind.i64.wrap (a2 - 1) = (d : Int)) (n : Nat) (hn : n ≤ 12) (hs : s.length ≤ 1048576) : ∀ (m j : Nat) (cl : Nat → List UInt8 → Int → Int → Option Int) (p : Nat), j + m = n → p ≤ s.length →
  (∀ i, i ≤ s.length → Ev (fun k => cl k s (i : Int) (d : Int)) (endI i (tm d (s.drop i)))) →
  Ev (fun k => I_termAt.l4 (cl k) k s a2 (n : Int) (p : Int) (j : Int)) (endI p (tmsOf (tm d) m (s.drop p))) := by
 intro m
 induction m with
 | zero =>
  intro j cl p hj hp hcl
  refine Ev.succ ?_
  simp only [I_termAt.l4]
  rw [decide_eq_false (by omega)]
  exact Ev.pure _
 | succ m ih =>
  intro j cl p hj hp hcl
  refine Ev.succ ?_
  simp only [I_termAt.l4]
  rw [decide_eq_true (p := (j : Int) < (n : Int)) (by omega), decide_eq_true (p := (p : Int) ≥ 0) (by omega)]
  simp only [cond_true, ha2]
  refine Ev.bind (hcl p hp).shift ?_
  cases ht : tm d (s.drop p) with
  | none =>
   simp only [endI]
   refine Ev.succ ?_
   simp only [I_termAt.l4]
   refine Ev.ite (fun _ => ?_) (fun _ => (Ev.pure _).to ?_)
   ·rw [decide_eq_false (by omega)]
    refine (Ev.pure _).to ?_
    simp [tmsOf, ht]
   ·simp [tmsOf, ht]
  | some q =>
   obtain ⟨q0, q1⟩ := tm_le d _ _ ht
   rw [List.length_drop] at q1
   simp only [endI]
   rw [wid1 (by omega)]
   refine (ih (j + 1) (fun k => cl (k + 1)) (p + q) (by omega) (by omega) (fun i hi => (hcl i hi).shift)).to ?_
   simp only [tmsOf, ht]
   rw [List.drop_drop]
   cases tmsOf (tm d) m (s.drop (p + q)) with
   | none => rfl
   | some q2 => simp only [endI]; omega
theorem iKey (k : Nat) (n : Int) : I_isKey k n = some (isIn n 1 1000000) := by
 simp only [I_isKey, iIn, Option.bind_some]
theorem iTerm (s : List UInt8) (hs : s.length ≤ 1048576) : ∀ (d : Nat) (i : Nat), d ≤ 100 → i ≤ s.length → Ev (fun k => I_termAt k s (i : Int) (d : Int)) (endI i (tm d (s.drop i))) := by
 intro d
 induction d with
 | zero =>
  intro i _ hi
  refine Ev.succ ?_
  simp only [I_termAt]
  refine Ev.ite (fun _ => (Ev.pure _).to (by simp [tm, endI])) (fun _ => ?_)
  rw [decide_eq_true (by omega)]
  exact (Ev.pure _).to (by simp [tm, endI])
 | succ d ih =>
  intro i hd hi
  refine Ev.succ ?_
  simp only [I_termAt]
  by_cases hl : i < s.length
  ·obtain ⟨c, t, hct⟩ := drop_cons_ex hl
   obtain ⟨hc, ht, _⟩ := at?_drop hct
   have htl : t.length = s.length - (i + 1) := by rw [← ht, List.length_drop]
   rw [decide_eq_false (p := (i : Int) ≥ (s.length : Int)) (by omega), decide_eq_false (p := ((d + 1 : Nat) : Int) < 1) (by omega), wid1 (by omega)]
   simp only [cond_false]
   refine Ev.bind (iVarAt s hs (i + 1) (by omega)) ?_
   refine Ev.at? hc ?_
   rw [ht, hct]
   simp only [iIn, iKey, Option.bind_some]
   have e3 : IntKind.i64.wrap (((d + 1 : Nat) : Int) - 1) = (d : Int) := by rw [wid (by omega) (by omega)]; omega
   cases hdv : dv 7 t with
   | none =>
    simp only [tm, hdv, show isIn (-1) 0 40 = false from rfl, show isIn (-1) 1 1000000 = false from rfl, show isIn (-1) 0 12 = false from rfl, Bool.not_false, cond_true]
    refine Ev.ite (fun _ => Ev.pure _) (fun _ => Ev.ite (fun _ => Ev.pure _) (fun _ => Ev.ite (fun _ => Ev.pure _) (fun _ => Ev.ite (fun _ => Ev.pure _) (fun _ => Ev.pure _))))
   | some q =>
    obtain ⟨n, z⟩ := q
    obtain ⟨z1, z2, z3, _, zn⟩ := dv_ok hdv
    have hn : n < 562949953421312 := Nat.lt_of_lt_of_le zn (by have := Nat.pow_le_pow_right (n := 128) (by omega) z2; omega)
    simp only [tm, hdv]
    have e4 : IntKind.i64.wrap ((s.length : Int) - ((i + 1 + z : Nat) : Int)) = ((s.length - (i + 1 + z) : Nat) : Int) := by rw [wid (by omega) (by omega)]; omega
    have ed : t.drop z = s.drop (i + 1 + z) := by rw [← ht, List.drop_drop]
    rw [e3, e4]
    refine Ev.ite (fun ha => ?_) (fun ha => ?_)
    ·have ha := eq_of_beq ha
     rw [if_pos ha]
     simp only [isIn]
     refine Ev.ite (fun h1 => (Ev.pure _).to ?_) (fun h1 => ?_)
     ·rw [if_neg (fun h => by rw [decide_eq_true (by omega)] at h1; cases h1)]; rfl
     ·have h1 := of_decide_eq_true (by simpa using h1 : decide ((0 : Int) ≤ (n : Int) ∧ (n : Int) ≤ 40) = true)
      refine Ev.ite (fun h2 => (Ev.pure _).to ?_) (fun h2 => (Ev.pure _).to ?_)
      ·have := of_decide_eq_true h2
       rw [if_neg (by omega)]; rfl
      ·have := of_decide_eq_false h2
       rw [if_pos (by omega)]
       simp only [endI]
       rw [wid (by omega) (by omega)]; omega
    rw [if_neg (fun e => by rw [e] at ha; simp at ha)]
    refine Ev.ite (fun hk => ?_) (fun hk => ?_)
    ·have hk := eq_of_beq hk
     rw [if_pos hk]
     simp only [isIn]
     refine Ev.ite (fun h1 => (Ev.pure _).to ?_) (fun h1 => (Ev.pure _).to ?_)
     ·rw [if_neg (fun h => by rw [decide_eq_true (by omega)] at h1; cases h1)]; rfl
     ·have := of_decide_eq_true (by simpa using h1 : decide ((1 : Int) ≤ (n : Int) ∧ (n : Int) ≤ 1000000) = true)
      rw [if_pos (by omega)]; simp only [endI]; omega
    rw [if_neg (fun e => by rw [e] at hk; simp at hk)]
    have swap : ∀ (x y : Option Nat), (if c = 115 then x else if c = 108 then y else none) = (if c = 108 then y else if c = 115 then x else none) := by
     intro x y
     by_cases h1 : c = 115
     ·subst h1; rfl
     ·rw [if_neg h1, if_neg h1]
    rw [swap]
    refine Ev.ite (fun hli => ?_) (fun hli => ?_)
    ·have hli := eq_of_beq hli
     rw [if_pos hli, ed]
     simp only [isIn]
     refine Ev.ite (fun h1 => (Ev.pure _).to ?_) (fun h1 => ?_)
     ·rw [if_neg (fun h => by rw [decide_eq_true (by omega)] at h1; cases h1)]; rfl
     ·have h1 := of_decide_eq_true (by simpa using h1 : decide ((0 : Int) ≤ (n : Int) ∧ (n : Int) ≤ 12) = true)
      rw [if_pos (by omega)]
      refine (iTermL s d (by omega) ((d + 1 : Nat) : Int) e3 n (by omega) hs n 0 (fun k => I_termAt k) (i + 1 + z) (by omega) (by omega) (fun j hj => ih j (by omega) hj)).to ?_
      cases tmsOf (tm d) n (s.drop (i + 1 + z)) with
      | none => rfl
      | some q => simp only [endI]; omega
    rw [if_neg (fun e => by rw [e] at hli; simp at hli)]
    refine Ev.ite (fun hss => ?_) (fun hss => ?_)
    ·have hss := eq_of_beq hss
     rw [if_pos hss, ed]
     simp only [isIn]
     refine Ev.ite (fun h1 => (Ev.pure _).to ?_) (fun h1 => ?_)
     ·rw [if_neg (fun h => by rw [decide_eq_true (by omega)] at h1; cases h1)]; rfl
     ·have := of_decide_eq_true (by simpa using h1 : decide ((1 : Int) ≤ (n : Int) ∧ (n : Int) ≤ 1000000) = true)
      rw [if_pos (by omega)]
      refine Ev.bind (ih (i + 1 + z) (by omega) (by omega)) ((Ev.pure _).to ?_)
      cases tm d (s.drop (i + 1 + z)) with
      | none => rfl
      | some q => simp only [endI]; omega
    ·rw [if_neg (fun e => by rw [e] at hss; simp at hss)]
     exact Ev.pure _
  ·rw [decide_eq_true (p := (i : Int) ≥ (s.length : Int)) (by omega)]
   refine (Ev.pure _).to ?_
   have : s.drop i = [] := List.drop_of_length_le (by omega)
   rw [this]; simp [tm, endI]
theorem iTermOk (s : List UInt8) (hs : s.length ≤ 1048576) : Ev (fun k => I_TermOk k s) (tmOk s) := by
 simp only [I_TermOk, iIn, Option.bind_some]
 refine Ev.ite (fun h => ?_) (fun h => (Ev.pure _).to ?_)
 ·have h := of_decide_eq_true (by simpa [isIn] using h : decide ((1 : Int) ≤ (s.length : Int) ∧ (s.length : Int) ≤ 900) = true)
  refine Ev.bind (iTerm s hs 8 0 (by omega) (by omega)) ((Ev.pure _).to ?_)
  rw [List.drop_zero]
  unfold tmOk
  cases ht : tm 8 s with
  | none =>
   simp only [endI]
   exact beq_eq_false_iff_ne.2 (by omega)
  | some m =>
   simp only [endI, Nat.zero_add]
   by_cases e : m = s.length
   ·rw [e, decide_eq_true (by omega)]; simp
   ·rw [decide_eq_false (by omega)]; exact beq_eq_false_iff_ne.2 (by omega)
 ·unfold tmOk
  cases ht : tm 8 s with
  | none => rfl
  | some m =>
   obtain ⟨h0, h1⟩ := tm_le 8 s m ht
   simp only
   rw [decide_eq_false (fun h2 => by unfold isIn at h; rw [decide_eq_true (by omega)] at h; cases h)]
def okT (s : List UInt8) : List UInt8 := if tmOk s then s else []
theorem tmOk_len {s : List UInt8} (h : tmOk s = true) : s.length ≤ 900 := by
 unfold tmOk at h
 split at h
 ·have := of_decide_eq_true h; omega
 ·cases h
theorem tmOk_nil : tmOk [] = false := by decide +kernel
def listS (ps : List (List UInt8)) : List UInt8 := if ps.length ≤ 12 ∧ ps.all tmOk = true then okT (108 :: (varE ps.length ++ ps.flatten)) else []
theorem tmsOf_mono {f g : List UInt8 → Option Nat} (h : ∀ s m, f s = some m → g s = some m) : ∀ (n : Nat) (s : List UInt8) (m : Nat), tmsOf f n s = some m → tmsOf g n s = some m
 | 0, s, m, h1 => h1
 | n + 1, s, m, h1 => by
  simp only [tmsOf] at h1 ⊢
  split at h1
  ·rename_i a ha
   rw [h s a ha]
   simp only
   split at h1
   ·rename_i b hb
    rw [tmsOf_mono h n _ b hb]; exact h1
   ·cases h1
  ·cases h1
theorem tm_mono : ∀ (d : Nat) (s : List UInt8) (m : Nat), tm d s = some m → tm (d + 1) s = some m
 | 0, s, m, h => by simp [tm] at h
 | d + 1, [], m, h => by simp [tm] at h
 | d + 1, c :: s, m, h => by
  rw [tm] at h ⊢
  cases hd : dv 7 s with
  | none => rw [hd] at h; cases h
  | some p =>
   obtain ⟨n, z⟩ := p
   rw [hd] at h
   simp only at h ⊢
   by_cases h1 : c = 97
   ·rw [if_pos h1] at h ⊢; exact h
   rw [if_neg h1] at h ⊢
   by_cases h2 : c = 107
   ·rw [if_pos h2] at h ⊢; exact h
   rw [if_neg h2] at h ⊢
   by_cases h3 : c = 115
   ·rw [if_pos h3] at h ⊢
    by_cases h5 : 1 ≤ n ∧ n ≤ 1000000
    ·rw [if_pos h5] at h ⊢
     cases ht : tm d (s.drop z) with
     | none => rw [ht] at h; cases h
     | some q => rw [ht] at h; rw [tm_mono d _ q ht]; exact h
    ·rw [if_neg h5] at h; cases h
   rw [if_neg h3] at h ⊢
   by_cases h4 : c = 108
   ·rw [if_pos h4] at h ⊢
    by_cases h5 : n ≤ 12
    ·rw [if_pos h5] at h ⊢
     cases ht : tmsOf (tm d) n (s.drop z) with
     | none => rw [ht] at h; cases h
     | some q => rw [ht] at h; rw [tmsOf_mono (tm_mono d) n _ q ht]; exact h
    ·rw [if_neg h5] at h; cases h
   ·rw [if_neg h4] at h; cases h
/-- The first parts of a text. -/
def partsF (f : List UInt8 → Option Nat) : Nat → List UInt8 → List (List UInt8)
 | 0, _ => []
 | n + 1, s => match f s with
  | some m => s.take m :: partsF f n (s.drop m)
  | none => []
theorem tmOk_cons {s : List UInt8} (h : tmOk s = true) : ∃ c t n z, s = c :: t ∧ dv 7 t = some (n, z) ∧ tm 8 s = some s.length ∧ s.length ≤ 900 := by
 unfold tmOk at h
 split at h
 ·rename_i m hm
  have h := of_decide_eq_true h
  cases s with
  | nil => simp [tm] at hm
  | cons c t =>
   cases hd : dv 7 t with
   | none => rw [tm, hd] at hm; cases hm
   | some p => exact ⟨c, t, p.1, p.2, rfl, hd, by rw [hm, h.1], by omega⟩
 ·cases h
/-- A list: how its parts follow. -/
theorem tmOk_list {t : List UInt8} {n z : Nat} (h : tmOk (108 :: t) = true) (hd : dv 7 t = some (n, z)) : n ≤ 12 ∧ tmsOf (tm 8) n (t.drop z) = some (t.length - z) := by
 obtain ⟨c, t', n', z', e, hd', hm, _⟩ := tmOk_cons h
 simp only [List.cons.injEq] at e
 obtain ⟨rfl, rfl⟩ := e
 rw [hd] at hd'
 simp only [Option.some.injEq, Prod.mk.injEq] at hd'
 obtain ⟨rfl, rfl⟩ := hd'
 rw [tm, hd] at hm
 simp only at hm
 rw [if_neg (by decide), if_neg (by decide), if_neg (by decide), if_pos trivial] at hm
 by_cases h5 : n ≤ 12
 ·rw [if_pos h5] at hm
  refine ⟨h5, ?_⟩
  cases ht : tmsOf (tm 7) n (t.drop z) with
  | none => rw [ht] at hm; cases hm
  | some q =>
   rw [ht] at hm
   simp only [Option.some.injEq, List.length_cons] at hm
   rw [tmsOf_mono (tm_mono 7) n _ q ht]
   congr 1; omega
 ·rw [if_neg h5] at hm; cases hm
def partsS (s : List UInt8) : List (List UInt8) × Bool :=
 if tmOk s = true then match s with
  | [] => ([], false)
  | c :: t => if c = 108 then match dv 7 t with
   | some (n, z) => (partsF (tm 8) n (t.drop z), true)
   | none => ([], false) else ([], false)
 else ([], false)
theorem sPartsL (s : List UInt8) (hs : s.length ≤ 1048576) : ∀ (m j n p q : Nat) (out : List (List UInt8)), j + m = n → n ≤ 12 → p ≤ s.length → out.length = j → tmsOf (tm 8) m (s.drop p) = some q → Ev (fun k => S_Parts.l4 k s out (n : Int) (p : Int) (j : Int)) (out ++ partsF (tm 8) m (s.drop p), true) := by
 intro m
 induction m with
 | zero =>
  intro j n p q out hj hn hp ho ht
  refine Ev.succ ?_
  simp only [S_Parts.l4]
  rw [decide_eq_false (by omega)]
  exact (Ev.pure _).to (by simp [partsF])
 | succ m ih =>
  intro j n p q out hj hn hp ho ht
  refine Ev.succ ?_
  simp only [S_Parts.l4]
  rw [decide_eq_true (p := (j : Int) < (n : Int)) (by omega)]
  simp only [cond_true]
  simp only [tmsOf] at ht
  cases h1 : tm 8 (s.drop p) with
  | none => rw [h1] at ht; cases ht
  | some a =>
   rw [h1] at ht
   simp only at ht
   obtain ⟨a0, a1⟩ := tm_le 8 _ _ h1
   rw [List.length_drop] at a1
   refine EvP.ev (EvP.bind (sTerm s hs 8 p (by omega) hp) (fun r hr => ?_))
   rw [h1] at hr
   simp only [szI] at hr
   have e : IntKind.i64.wrap ((p : Int) + (a : Int)) = ((p + a : Nat) : Int) := by rw [wid (by omega) (by omega)]; omega
   rw [hr, e, cutN (by omega) (by omega), wid1 (by omega)]
   simp only [Option.bind_some]
   rw [decide_eq_true (by simp; omega)]
   simp only [cond_true]
   cases h2 : tmsOf (tm 8) m ((s.drop p).drop a) with
   | none => rw [h2] at ht; cases ht
   | some b =>
    rw [List.drop_drop] at h2
    refine (ih (j + 1) n (p + a) b _ (by omega) hn (by omega) (by simp; omega) h2).p ?_
    simp only [partsF, h1, List.drop_drop]
    rw [show p + a - p = a by omega]
    simp
theorem sParts (s : List UInt8) (hs : s.length ≤ 1048576) : Ev (fun k => S_Parts k s) (partsS s) := by
 simp only [S_Parts, S_Parts.j2]
 refine Ev.bind (sTermOk s hs) ?_
 unfold partsS
 cases hk : tmOk s with
 | false => exact Ev.pure _
 | true =>
  obtain ⟨c, t, n, z, rfl, hd, hm, _⟩ := tmOk_cons hk
  simp only [Bool.not_true, cond_false, if_true]
  refine Ev.at? (i := 0) (b := c) rfl ?_
  refine Ev.ite (fun hc => (Ev.pure _).to ?_) (fun hc => ?_)
  ·rw [if_neg (fun e => by rw [e] at hc; cases hc)]
  ·have hc : c = 108 := by simpa using hc
   subst hc
   obtain ⟨h12, htm⟩ := tmOk_list hk hd
   obtain ⟨z1, z2, z3, _, _⟩ := dv_ok hd
   have hcut : cut? ((108 : UInt8) :: t) 1 (((108 : UInt8) :: t).length : Int) = some t := by
    have := cutEnd (xs := (108 : UInt8) :: t) (a := 1) (by simp)
    simpa using this
   rw [hcut, if_pos rfl, hd]
   simp only [Option.bind_some]
   refine Ev.bind (sReadVar t (by simp at hs; omega)) ?_
   simp only [rvP, hd]
   rw [show IntKind.i64.wrap (1 + (z : Int)) = ((1 + z : Nat) : Int) by rw [wid (by omega) (by omega)]; omega]
   have e : ((108 : UInt8) :: t).drop (1 + z) = t.drop z := by rw [Nat.add_comm]; rfl
   have := sPartsL (108 :: t) hs n 0 n (1 + z) (t.length - z) [] (by omega) h12 (by simp; omega) rfl (by rw [e]; exact htm)
   rw [e] at this
   exact this
theorem iIsOf (s : List UInt8) (hs : s.length ≤ 1048576) (c : UInt8) : Ev (fun k => I_isOf k s c) (tmOk s && s.head? == some c) := by
 simp only [I_isOf]
 refine Ev.bind (iTermOk s hs) ?_
 cases hk : tmOk s with
 | false => exact Ev.pure _
 | true =>
  obtain ⟨x, t, n, z, rfl, _, _, _⟩ := tmOk_cons hk
  simp only [cond_true]
  refine Ev.at? (i := 0) (b := x) rfl ((Ev.pure _).to ?_)
  simp
theorem iPartsL (s : List UInt8) (hs : s.length ≤ 1048576) : ∀ (m j n p q : Nat) (out : List (List UInt8)), j + m = n → n ≤ 12 → p ≤ s.length → out.length = j → tmsOf (tm 8) m (s.drop p) = some q → Ev (fun k => I_Parts.l2 k s (p : Int) out (n : Int) (j : Int)) (out ++ partsF (tm 8) m (s.drop p), true) := by
 intro m
 induction m with
 | zero =>
  intro j n p q out hj hn hp ho ht
  refine Ev.succ ?_
  simp only [I_Parts.l2]
  rw [decide_eq_false (by omega)]
  exact (Ev.pure _).to (by simp [partsF])
 | succ m ih =>
  intro j n p q out hj hn hp ho ht
  refine Ev.succ ?_
  simp only [I_Parts.l2]
  rw [decide_eq_true (p := (j : Int) < (n : Int)) (by omega)]
  simp only [cond_true]
  simp only [tmsOf] at ht
  cases h1 : tm 8 (s.drop p) with
  | none => rw [h1] at ht; cases ht
  | some a =>
   rw [h1] at ht
   simp only at ht
   obtain ⟨a0, a1⟩ := tm_le 8 _ _ h1
   rw [List.length_drop] at a1
   refine Ev.bind (iTerm s hs 8 p (by omega) hp) ?_
   rw [h1]
   simp only [endI]
   rw [cutN (by omega) (by omega), wid1 (by omega)]
   simp only [Option.bind_some]
   rw [decide_eq_true (by simp; omega)]
   simp only [cond_true]
   cases h2 : tmsOf (tm 8) m ((s.drop p).drop a) with
   | none => rw [h2] at ht; cases ht
   | some b =>
    rw [List.drop_drop] at h2
    refine (ih (j + 1) n (p + a) b _ (by omega) hn (by omega) (by simp; omega) h2).to ?_
    simp only [partsF, h1, List.drop_drop]
    rw [show p + a - p = a by omega]
    simp
theorem iParts (s : List UInt8) (hs : s.length ≤ 1048576) : Ev (fun k => I_Parts k s) (partsS s) := by
 simp only [I_Parts]
 refine Ev.bind (iIsOf s hs 108) ?_
 unfold partsS
 cases hk : tmOk s with
 | false => exact Ev.pure _
 | true =>
  obtain ⟨c, t, n, z, rfl, hd, hm, _⟩ := tmOk_cons hk
  simp only [if_true, Bool.true_and, List.head?_cons]
  refine Ev.ite (fun hc => (Ev.pure _).to ?_) (fun hc => ?_)
  ·rw [if_neg (fun e => by rw [e] at hc; simp at hc)]
  ·have hc : c = 108 := by simpa using hc
   subst hc
   obtain ⟨h12, htm⟩ := tmOk_list hk hd
   obtain ⟨z1, z2, z3, _, _⟩ := dv_ok hd
   have hv := iVarAt ((108 : UInt8) :: t) hs 1 (by simp)
   refine Ev.bind hv ?_
   rw [show ((108 : UInt8) :: t).drop 1 = t from rfl, hd, if_pos rfl]
   simp only
   have e : ((108 : UInt8) :: t).drop (1 + z) = t.drop z := by rw [Nat.add_comm]; rfl
   have := iPartsL (108 :: t) hs n 0 n (1 + z) (t.length - z) [] (by omega) h12 (by simp; omega) rfl (by rw [e]; exact htm)
   rw [e] at this
   exact this
theorem partsF_len (f : List UInt8 → Option Nat) : ∀ (n : Nat) (s : List UInt8), (partsF f n s).length ≤ n ∧ ∀ p ∈ partsF f n s, p.length ≤ s.length
 | 0, s => by simp [partsF]
 | n + 1, s => by
  simp only [partsF]
  split
  ·rename_i m _
   obtain ⟨h1, h2⟩ := partsF_len f n (s.drop m)
   refine ⟨by simp; omega, fun p hp => ?_⟩
   rcases List.mem_cons.1 hp with rfl | hp
   ·rw [List.length_take]; omega
   ·have := h2 p hp; rw [List.length_drop] at this; omega
  ·simp
theorem partsS_len (s : List UInt8) : (partsS s).1.length ≤ 12 ∧ ∀ p ∈ (partsS s).1, p.length ≤ 900 := by
 unfold partsS
 by_cases hk : tmOk s = true
 ·rw [if_pos hk]
  obtain ⟨c, t, n, z, rfl, hd, hm, hl⟩ := tmOk_cons hk
  simp only
  by_cases hc : c = 108
  ·subst hc
   rw [if_pos rfl, hd]
   obtain ⟨h12, _⟩ := tmOk_list hk hd
   obtain ⟨h1, h2⟩ := partsF_len (tm 8) n (t.drop z)
   refine ⟨by simp only; omega, fun p hp => ?_⟩
   have := h2 p hp
   rw [List.length_drop] at this
   simp at hl
   omega
  ·rw [if_neg hc]; simp
 ·rw [if_neg hk]; simp
theorem partsS_nil {s : List UInt8} (h : (partsS s).2 = false) : (partsS s).1 = [] := by
 unfold partsS at h ⊢
 by_cases hk : tmOk s = true
 ·rw [if_pos hk] at h ⊢
  obtain ⟨c, t, n, z, rfl, hd, hm, hl⟩ := tmOk_cons hk
  simp only at h ⊢
  by_cases hc : c = 108
  ·rw [if_pos hc, hd] at h; cases h
  ·rw [if_neg hc]
 ·rw [if_neg hk]
theorem dv_agree {x y : List UInt8} {n z : Nat} (h : dv 7 x = some (n, z)) (e : y.take z = x.take z) : dv 7 y = some (n, z) := by
 obtain ⟨h1, h2, h3, h4, h5⟩ := dv_ok h
 have hn : n < 128 ^ (6 + 1) := Nat.lt_of_lt_of_le h5 (Nat.pow_le_pow_right (by omega) h2)
 have hl : (varE n).length = z := by rw [← h4, List.length_take]; omega
 have := varE_dv (f := 6) (n := n) (t := y.drop z) hn
 rw [← h4, ← e, List.take_append_drop] at this
 rw [this, e, h4, hl]
theorem drop_take_eq {α : Type} {x y : List α} {z q m : Nat} (e : y.take m = x.take m) (h : z + q = m) : (y.drop z).take q = (x.drop z).take q := by
 subst h
 have := congrArg (List.drop z) e
 rw [List.drop_take, List.drop_take] at this
 simpa using this
theorem tmsOf_agree {f : List UInt8 → Option Nat} (hf : ∀ x y m, f x = some m → y.take m = x.take m → f y = some m) : ∀ (n : Nat) (x y : List UInt8) (m : Nat), tmsOf f n x = some m → y.take m = x.take m → tmsOf f n y = some m
 | 0, x, y, m, h, e => h
 | n + 1, x, y, m, h, e => by
  simp only [tmsOf] at h ⊢
  cases h1 : f x with
  | none => rw [h1] at h; cases h
  | some a =>
   rw [h1] at h
   simp only at h
   cases h2 : tmsOf f n (x.drop a) with
   | none => rw [h2] at h; cases h
   | some b =>
    rw [h2] at h
    simp only [Option.some.injEq] at h
    have e1 : y.take a = x.take a := by
     have := congrArg (List.take a) e
     rw [List.take_take, List.take_take, Nat.min_eq_left (by omega)] at this
     exact this
    rw [hf x y a h1 e1]
    simp only
    rw [tmsOf_agree hf n _ (y.drop a) b h2 (drop_take_eq e (by omega))]
    simp only [Option.some.injEq]; omega
theorem tm_agree : ∀ (d : Nat) (x y : List UInt8) (m : Nat), tm d x = some m → y.take m = x.take m → tm d y = some m
 | 0, x, y, m, h, e => by simp [tm] at h
 | d + 1, [], y, m, h, e => by simp [tm] at h
 | d + 1, c :: s, y, m, h, e => by
  obtain ⟨m0, m1⟩ := tm_le _ _ _ h
  obtain ⟨m, rfl⟩ : ∃ j, m = j + 1 := ⟨m - 1, by omega⟩
  cases y with
  | nil => simp at e
  | cons c' y =>
   simp only [List.take_succ_cons, List.cons.injEq] at e
   obtain ⟨rfl, e⟩ := e
   rw [tm] at h ⊢
   have tk : ∀ a, a ≤ m → y.take a = s.take a := fun a ha => by
    have := congrArg (List.take a) e
    rw [List.take_take, List.take_take, Nat.min_eq_left ha] at this
    exact this
   have hyl : m ≤ y.length := by
    have := congrArg List.length e
    simp only [List.length_take, List.length_cons] at this m1
    omega
   cases hd : dv 7 s with
   | none => rw [hd] at h; cases h
   | some p =>
    obtain ⟨n, z⟩ := p
    rw [hd] at h
    simp only at h
    have fin : z ≤ m → dv 7 y = some (n, z) := fun hz => dv_agree hd (tk z hz)
    by_cases h1 : c' = 97
    ·rw [if_pos h1] at h
     by_cases h5 : n ≤ 40 ∧ z + n ≤ s.length
     ·rw [if_pos h5] at h
      simp only [Option.some.injEq] at h
      rw [fin (by omega)]
      simp only
      rw [if_pos h1, if_pos (by omega)]; congr 1
     ·rw [if_neg h5] at h; cases h
    rw [if_neg h1] at h
    by_cases h2 : c' = 107
    ·rw [if_pos h2] at h
     by_cases h5 : 1 ≤ n ∧ n ≤ 1000000
     ·rw [if_pos h5] at h
      simp only [Option.some.injEq] at h
      rw [fin (by omega)]
      simp only
      rw [if_neg h1, if_pos h2, if_pos h5]; congr 1
     ·rw [if_neg h5] at h; cases h
    rw [if_neg h2] at h
    by_cases h3 : c' = 115
    ·rw [if_pos h3] at h
     by_cases h5 : 1 ≤ n ∧ n ≤ 1000000
     ·rw [if_pos h5] at h
      cases ht : tm d (s.drop z) with
      | none => rw [ht] at h; cases h
      | some q =>
       rw [ht] at h
       simp only [Option.some.injEq] at h
       rw [fin (by omega)]
       simp only
       rw [if_neg h1, if_neg h2, if_pos h3, if_pos h5, tm_agree d _ (y.drop z) q ht (drop_take_eq e (by omega))]
       simp only [Option.some.injEq]; omega
     ·rw [if_neg h5] at h; cases h
    rw [if_neg h3] at h
    by_cases h4 : c' = 108
    ·rw [if_pos h4] at h
     by_cases h5 : n ≤ 12
     ·rw [if_pos h5] at h
      cases ht : tmsOf (tm d) n (s.drop z) with
      | none => rw [ht] at h; cases h
      | some q =>
       rw [ht] at h
       simp only [Option.some.injEq] at h
       rw [fin (by omega)]
       simp only
       rw [if_neg h1, if_neg h2, if_neg h3, if_pos h4, if_pos h5, tmsOf_agree (fun x y m => tm_agree d x y m) n _ (y.drop z) q ht (drop_take_eq e (by omega))]
       simp only [Option.some.injEq]; omega
     ·rw [if_neg h5] at h; cases h
    ·rw [if_neg h4] at h; cases h
theorem tmOk_of {s : List UInt8} (h : tm 8 s = some s.length) (hl : s.length ≤ 900) : tmOk s = true := by
 unfold tmOk; rw [h]; exact decide_eq_true ⟨rfl, hl⟩
theorem okT_ne {s : List UInt8} (h : okT s ≠ []) : tmOk s = true ∧ okT s = s := by
 unfold okT at h ⊢
 split at h
 ·rename_i h1; rw [if_pos h1]; exact ⟨h1, rfl⟩
 ·exact absurd rfl h
theorem okT_ok {s : List UInt8} (h : tmOk s = true) : okT s = s := if_pos h
theorem tmOk_ne {s : List UInt8} (h : tmOk s = true) : s ≠ [] := fun e => by rw [e, tmOk_nil] at h; cases h
theorem dv_split {t : List UInt8} {n z : Nat} (h : dv 7 t = some (n, z)) : t = varE n ++ t.drop z ∧ n ≤ 562949953421311 ∧ (varE n).length = z := by
 obtain ⟨h1, h2, h3, h4, h5⟩ := dv_ok h
 have := Nat.lt_of_lt_of_le h5 (Nat.pow_le_pow_right (n := 128) (by omega) h2)
 exact ⟨by rw [← h4, List.take_append_drop], by omega, by rw [← h4, List.length_take]; omega⟩
theorem partsF_join {f : List UInt8 → Option Nat} : ∀ (n : Nat) (s : List UInt8) (m : Nat), tmsOf f n s = some m → (∀ s m, f s = some m → m ≤ s.length) → (partsF f n s).flatten = s.take m ∧ (partsF f n s).length = n ∧ ∀ p ∈ partsF f n s, ∃ x a, f x = some a ∧ p = x.take a ∧ a ≤ x.length
 | 0, s, m, h, _ => by simp [tmsOf] at h; subst h; simp [partsF]
 | n + 1, s, m, h, hf => by
  simp only [tmsOf] at h
  cases h1 : f s with
  | none => rw [h1] at h; cases h
  | some a =>
   rw [h1] at h
   simp only at h
   cases h2 : tmsOf f n (s.drop a) with
   | none => rw [h2] at h; cases h
   | some b =>
    rw [h2] at h
    simp only [Option.some.injEq] at h
    subst h
    obtain ⟨i1, i2, i3⟩ := partsF_join n _ b h2 hf
    simp only [partsF, h1, List.flatten_cons, List.length_cons, i1, i2]
    refine ⟨?_, trivial, fun p hp => ?_⟩
    ·rw [List.take_add]
    ·rcases List.mem_cons.1 hp with rfl | hp
     ·exact ⟨s, a, h1, rfl, hf s a h1⟩
     ·exact i3 p hp
theorem parts_ok {s : List UInt8} {ps : List (List UInt8)} (h : partsS s = (ps, true)) : listS ps = s ∧ tmOk s = true ∧ (∀ p ∈ ps, tmOk p = true) ∧ ps.length ≤ 12 := by
 unfold partsS at h
 by_cases hk : tmOk s = true
 ·rw [if_pos hk] at h
  obtain ⟨c, t, n, z, rfl, hd, hm, hl⟩ := tmOk_cons hk
  simp only at h
  by_cases hc : c = 108
  ·subst hc
   rw [if_pos rfl, hd] at h
   simp only [Prod.mk.injEq, and_true] at h
   obtain ⟨h12, htm⟩ := tmOk_list hk hd
   obtain ⟨z1, _, _, _, _⟩ := dv_ok hd
   obtain ⟨i1, i2, i3⟩ := partsF_join n (t.drop z) _ htm (fun s m h => (tm_le 8 s m h).2)
   rw [h] at i1 i2 i3
   rw [List.take_of_length_le (by rw [List.length_drop]; omega)] at i1
   have hall : ∀ p ∈ ps, tmOk p = true := fun p hp => by
    obtain ⟨x, a, h1, h2, h3⟩ := i3 p hp
    have hpl : p.length = a := by rw [h2, List.length_take]; omega
    have hfl : p.length ≤ ps.flatten.length := by
     obtain ⟨u, v, huv⟩ := List.append_of_mem hp
     rw [huv]; simp; omega
    refine tmOk_of ?_ (by rw [i1, List.length_drop] at hfl; simp at hl; omega)
    rw [hpl]
    exact tm_agree 8 x p a h1 (by rw [h2, List.take_take]; simp)
   refine ⟨?_, hk, hall, by omega⟩
   unfold listS
   rw [if_pos ⟨by omega, List.all_eq_true.2 hall⟩, i2, i1, ← (dv_split hd).1]
   exact okT_ok hk
  ·rw [if_neg hc] at h; cases h
 ·rw [if_neg hk] at h; cases h
def readKeyS (s : List UInt8) : Int × Bool :=
 if tmOk s = true then match s with
  | [] => (0, false)
  | c :: t => if c = 107 then match dv 7 t with
   | some (n, _) => ((n : Int), true)
   | none => (0, false) else (0, false)
 else (0, false)
def openS (s : List UInt8) (k : Int) : List UInt8 × Bool :=
 if tmOk s = true then match s with
  | [] => ([], false)
  | c :: t => if c = 115 then match dv 7 t with
   | some (n, z) => if (n : Int) = k then (t.drop z, true) else ([], false)
   | none => ([], false) else ([], false)
 else ([], false)
def sealS (k : Int) (t : List UInt8) : List UInt8 := if tmOk t = true ∧ 1 ≤ k ∧ k ≤ 1000000 then okT (115 :: (varI k ++ t)) else []
theorem sReadKey (s : List UInt8) (hs : s.length ≤ 1048576) : Ev (fun k => S_ReadKey k s) (readKeyS s) := by
 simp only [S_ReadKey]
 refine Ev.bind (sTermOk s hs) ?_
 unfold readKeyS
 cases hk : tmOk s with
 | false => exact Ev.pure _
 | true =>
  obtain ⟨c, t, n, z, rfl, hd, hm, _⟩ := tmOk_cons hk
  simp only [Bool.not_true, cond_false, if_true]
  refine Ev.at? (i := 0) (b := c) rfl ?_
  refine Ev.ite (fun hc => (Ev.pure _).to ?_) (fun hc => ?_)
  ·rw [if_neg (fun e => by rw [e] at hc; cases hc)]
  ·have hc : c = 107 := by simpa using hc
   subst hc
   have hcut : cut? ((107 : UInt8) :: t) 1 (((107 : UInt8) :: t).length : Int) = some t := by
    have := cutEnd (xs := (107 : UInt8) :: t) (a := 1) (by simp)
    simpa using this
   rw [hcut, if_pos rfl, hd]
   simp only [Option.bind_some]
   refine Ev.bind (sReadVar t (by simp at hs; omega)) ?_
   simp only [rvP, hd]
   exact Ev.pure _
theorem iReadKey (s : List UInt8) (hs : s.length ≤ 1048576) : Ev (fun k => I_ReadKey k s) (readKeyS s) := by
 simp only [I_ReadKey]
 refine Ev.bind (iIsOf s hs 107) ?_
 unfold readKeyS
 cases hk : tmOk s with
 | false => exact Ev.pure _
 | true =>
  obtain ⟨c, t, n, z, rfl, hd, hm, _⟩ := tmOk_cons hk
  simp only [if_true, Bool.true_and, List.head?_cons]
  refine Ev.ite (fun hc => (Ev.pure _).to ?_) (fun hc => ?_)
  ·rw [if_neg (fun e => by rw [e] at hc; simp at hc)]
  ·have hc : c = 107 := by simpa using hc
   subst hc
   refine Ev.bind (iVarAt ((107 : UInt8) :: t) hs 1 (by simp)) ?_
   rw [show ((107 : UInt8) :: t).drop 1 = t from rfl, hd, if_pos rfl]
   exact Ev.pure _
theorem sOpen (s : List UInt8) (hs : s.length ≤ 1048576) (key : Int) : Ev (fun k => S_Open k s key) (openS s key) := by
 simp only [S_Open]
 refine Ev.bind (sTermOk s hs) ?_
 unfold openS
 cases hk : tmOk s with
 | false => exact Ev.pure _
 | true =>
  obtain ⟨c, t, n, z, rfl, hd, hm, _⟩ := tmOk_cons hk
  simp only [Bool.not_true, cond_false, if_true]
  refine Ev.at? (i := 0) (b := c) rfl ?_
  refine Ev.ite (fun hc => (Ev.pure _).to ?_) (fun hc => ?_)
  ·rw [if_neg (fun e => by rw [e] at hc; cases hc)]
  ·have hc : c = 115 := by simpa using hc
   subst hc
   obtain ⟨z1, z2, z3, _, _⟩ := dv_ok hd
   have hcut : cut? ((115 : UInt8) :: t) 1 (((115 : UInt8) :: t).length : Int) = some t := by
    have := cutEnd (xs := (115 : UInt8) :: t) (a := 1) (by simp)
    simpa using this
   rw [hcut, if_pos rfl, hd]
   simp only [Option.bind_some]
   refine Ev.bind (sReadVar t (by simp at hs; omega)) ?_
   simp only [rvP, hd]
   refine Ev.ite (fun hc => (Ev.pure _).to ?_) (fun hc => ?_)
   ·exact (if_neg (fun e => by rw [e] at hc; simp at hc)).symm
   ·rw [show IntKind.i64.wrap (1 + (z : Int)) = ((1 + z : Nat) : Int) by rw [wid (by omega) (by omega)]; omega, cutEnd (by simp; omega)]
    refine (Ev.pure _).to ?_
    have e : ((115 : UInt8) :: t).drop (1 + z) = t.drop z := by rw [Nat.add_comm]; rfl
    rw [e]
    exact (if_pos (by simpa using hc)).symm
theorem open_of {s t : List UInt8} {k : Int} (h : openS s k = (t, true)) : sealS k t = s ∧ tmOk s = true ∧ tmOk t = true := by
 unfold openS at h
 by_cases hk : tmOk s = true
 ·rw [if_pos hk] at h
  obtain ⟨c, x, n, z, rfl, hd, hm, hl⟩ := tmOk_cons hk
  simp only at h
  by_cases hc : c = 115
  ·subst hc
   rw [if_pos rfl, hd] at h
   simp only at h
   by_cases hn : (n : Int) = k
   ·rw [if_pos hn] at h
    simp only [Prod.mk.injEq, and_true] at h
    subst h
    rw [tm, hd] at hm
    simp only [if_true] at hm
    rw [if_neg (by decide), if_neg (by decide)] at hm
    by_cases h5 : 1 ≤ n ∧ n ≤ 1000000
    ·rw [if_pos h5] at hm
     cases ht : tm 7 (x.drop z) with
     | none => rw [ht] at hm; cases hm
     | some q =>
      rw [ht] at hm
      simp only [Option.some.injEq, List.length_cons] at hm
      obtain ⟨e1, e2, e3⟩ := dv_split hd
      obtain ⟨z1, _, _, _, _⟩ := dv_ok hd
      have hq : q = (x.drop z).length := by rw [List.length_drop]; omega
      have htk : tmOk (x.drop z) = true := by
       refine tmOk_of ?_ (by rw [List.length_drop]; simp at hl; omega)
       rw [← hq]; exact tm_mono 7 _ q ht
      unfold sealS
      rw [← hn, if_pos ⟨htk, by omega, by omega⟩, varI_nat n e2, ← e1]
      exact ⟨okT_ok hk, hk, htk⟩
    ·rw [if_neg h5] at hm; cases hm
   ·rw [if_neg hn] at h; cases h
  ·rw [if_neg hc] at h; cases h
 ·rw [if_neg hk] at h; cases h
def hasP (l : List T_Pair) (p : T_Pair) : Bool := l.any fun q => q.A == p.A && q.B == p.B
theorem partI {α : Type} {l : List α} {i : Nat} (h : i ≤ l.length) : part? l 0 (i : Int) = some (l.take i) := by
 unfold part?
 rw [if_pos (by omega)]; simp
theorem sHas (l : List T_Pair) (p : T_Pair) (hl : l.length ≤ 1048576) : Ev (fun k => S_l6Has k l p) (hasP l p) := by
 simp only [S_l6Has]
 refine Ev.for (xs := l) (L := fun k (_ : Unit) i => S_l6Has.l2 k l i p) (f := fun l _ => hasP l p) (fun _ => by simp only [S_l6Has.l2, ltD0, cond_false]; exact Ev.pure _) (fun i b _ hb hi h => ?_) ()
 simp only [S_l6Has.l2, ltD hi, cond_true, Bool.and_true]
 refine Ev.at? hb ?_
 simp only [hasP, List.any_cons]
 refine Ev.ite (fun hc => ?_) (fun hc => ?_)
 ·rw [hc]; exact Ev.pure _
 ·rw [hc, wid1 (by omega)]; exact h ()
theorem iHas (l : List T_Pair) (p : T_Pair) (hl : l.length ≤ 1048576) : Ev (fun k => V_Contains_Pair k l p) (hasP l p) := by
 simp only [V_Contains_Pair, V_Index_Pair]
 have : EvP (fun k => V_Index_Pair.l2 k l (l.length : Int) (0 : Int) p) (fun r => decide (r ≥ 0) = hasP l p) := by
  have := Ev.find (xs := l) (L := fun k i => V_Index_Pair.l2 k l (l.length : Int) i p) (p := fun b => (p.A == b.A) && (p.B == b.B)) (g := fun i => (i : Int)) (e := -1) (by simp only [V_Index_Pair.l2, ltD0, cond_false]; exact Ev.pure _) (fun i b r hb hi h1 h0 => by
   simp only [V_Index_Pair.l2, ltD hi, cond_true, Bool.and_true]
   refine Ev.at? hb (Ev.ite (fun hc => (Ev.pure _).to (h1 hc).symm) (fun hc => ?_))
   rw [wid1 (by omega)]; exact h0 hc)
  refine ⟨_, this, ?_⟩
  rcases firstOf_some (p := fun b : T_Pair => (p.A == b.A) && (p.B == b.B)) (g := fun i => (i : Int)) (e := (-1 : Int)) (i := 0) (xs := l) with ⟨j, b, h1, h2, h3⟩ | ⟨h1, h2⟩
  ·rw [h3, decide_eq_true (by omega)]
   symm
   unfold hasP
   rw [List.any_eq_true]
   refine ⟨b, List.mem_of_getElem? h1, ?_⟩
   simp only [Bool.and_eq_true, beq_iff_eq] at h2 ⊢
   exact ⟨h2.1.symm, h2.2.symm⟩
  ·rw [h2, decide_eq_false (by omega)]
   symm
   unfold hasP
   rw [List.any_eq_false]
   intro b hb
   have := h1 b hb
   simp only [Bool.and_eq_false_iff, beq_eq_false_iff_ne, ne_eq] at this
   simp only [Bool.and_eq_true, beq_iff_eq, not_and]
   intro e1 e2
   rcases this with h | h
   ·exact h e1.symm
   ·exact h e2.symm
 obtain ⟨r, h1, h2⟩ := this
 exact Ev.bind h1 ((Ev.pure _).to h2)
def isR (x : Int) : Bool := isIn x 0 2
def linkB (p : T_Pair) : Bool := isR p.A && (isR p.B && p.A != p.B)
def proxB (p : T_Pair) : Bool := isR p.A && isR p.B
def prF (is : T_Pair → Bool) : List T_Pair → List T_Pair → Bool
 | _, [] => true
 | seen, p :: r => is p && (!hasP seen p && prF is (seen ++ [p]) r)
def prOk (is : T_Pair → Bool) (l : List T_Pair) : Bool := decide (l.length ≤ 6) && prF is [] l
theorem isR_iff {x : Int} : isR x = true ↔ 0 ≤ x ∧ x ≤ 2 := by simp [isR, isIn]
theorem sPairs (l : List T_Pair) (u : Bool) (hl : l.length ≤ 1048576) : Ev (fun k => S_l6Pairs k l 3 u) (prOk (if u then linkB else proxB) l) := by
 simp only [S_l6Pairs]
 unfold prOk
 refine Ev.ite (fun hc => ?_) (fun hc => ?_)
 ·rw [decide_eq_false (by simp at hc; omega)]; exact Ev.pure _
 rw [decide_eq_true (by simp at hc; omega), Bool.true_and]
 have key : ∀ (g i : Nat), i + g = l.length → Ev (fun k => S_l6Pairs.l7 k l 3 u (i : Int)) (prF (if u then linkB else proxB) (l.take i) (l.drop i)) := by
  intro g
  induction g with
  | zero =>
   intro i hi
   have : i = l.length := by omega
   subst this
   refine Ev.succ ?_
   simp only [S_l6Pairs.l7, ltD0, cond_false, List.drop_length, prF]
   exact Ev.pure _
  | succ g ih =>
   intro i hi
   have hi2 : i < l.length := by omega
   obtain ⟨b, hb⟩ := atLt hi2
   have e : l.drop i = b :: l.drop (i + 1) := by
    obtain ⟨h1, h2⟩ := List.getElem?_eq_some_iff.1 hb
    rw [List.drop_eq_getElem_cons h1, h2]
   refine Ev.succ ?_
   simp only [S_l6Pairs.l7, S_l6Pairs.j8, ltD hi2, cond_true]
   rw [e]
   refine Ev.at? hb ?_
   simp only [prF]
   have hA : isR b.A = (!decide (b.A < 0) && !decide (b.A ≥ 3)) := by
    refine Bool.eq_iff_iff.2 ?_
    rw [isR_iff]; simp; omega
   have hB : isR b.B = (!decide (b.B < 0) && !decide (b.B ≥ 3)) := by
    refine Bool.eq_iff_iff.2 ?_
    rw [isR_iff]; simp; omega
   have hgo : Ev (fun k => (part? l 0 (i : Int)).bind fun b211 => (S_l6Has k b211 b).bind fun r212 => cond r212 (some false) (S_l6Pairs.l7 k l 3 u (IntKind.i64.wrap ((i : Int) + 1)))) (!hasP (l.take i) b && prF (if u then linkB else proxB) (l.take i ++ [b]) (l.drop (i + 1))) := by
    rw [partI (by omega)]
    simp only [Option.bind_some]
    refine Ev.bind (sHas _ _ (by rw [List.length_take]; omega)) (Ev.ite (fun hc => ?_) (fun hc => ?_))
    ·rw [hc]; exact Ev.pure _
    ·rw [hc, wid1 (by omega), ← take_succ_get hb]; exact ih (i + 1) (by omega)
   cases u with
   | true =>
    simp only [if_true, linkB, hA, hB] at hgo ⊢
    refine Ev.ite (fun hc => ?_) (fun hc => ?_)
    ·rw [hc]; exact Ev.pure _
    refine Ev.ite (fun hc2 => ?_) (fun hc2 => ?_)
    ·rw [hc, hc2]; exact Ev.pure _
    refine Ev.ite (fun hc3 => ?_) (fun hc3 => ?_)
    ·rw [hc, hc2, hc3]; exact Ev.pure _
    refine Ev.ite (fun hc4 => ?_) (fun hc4 => ?_)
    ·rw [hc, hc2, hc3, hc4]; exact Ev.pure _
    rw [hc, hc2, hc3, hc4]
    simp only [cond_true, Bool.not_false, Bool.true_and]
    refine Ev.ite (fun hc5 => ?_) (fun hc5 => ?_)
    ·rw [show (b.A != b.B) = false by simpa using hc5]; exact Ev.pure _
    ·rw [show (b.A != b.B) = true by simpa using hc5, Bool.true_and]; exact hgo
   | false =>
    simp only [Bool.false_eq_true, if_false, proxB, hA, hB] at hgo ⊢
    refine Ev.ite (fun hc => ?_) (fun hc => ?_)
    ·rw [hc]; exact Ev.pure _
    refine Ev.ite (fun hc2 => ?_) (fun hc2 => ?_)
    ·rw [hc, hc2]; exact Ev.pure _
    refine Ev.ite (fun hc3 => ?_) (fun hc3 => ?_)
    ·rw [hc, hc2, hc3]; exact Ev.pure _
    refine Ev.ite (fun hc4 => ?_) (fun hc4 => ?_)
    ·rw [hc, hc2, hc3, hc4]; exact Ev.pure _
    rw [hc, hc2, hc3, hc4]
    simp only [cond_false, Bool.not_false, Bool.true_and]
    exact hgo
 simpa using key l.length 0 (by omega)
theorem iPairs1 (l : List T_Pair) (hl : l.length ≤ 1048576) : Ev (fun k => I_arePairs__impl_ConfigOk_1 k l) (prOk linkB l) := by
 simp only [I_arePairs__impl_ConfigOk_1]
 unfold prOk
 rw [Bool.and_comm]
 have key : ∀ (g i : Nat), i + g = l.length → Ev (fun k => I_arePairs__impl_ConfigOk_1.l2 k l (l.length : Int) (i : Int)) (prF linkB (l.take i) (l.drop i) && decide (l.length ≤ 6)) := by
  intro g
  induction g with
  | zero =>
   intro i hi
   have : i = l.length := by omega
   subst this
   refine Ev.succ ?_
   simp only [I_arePairs__impl_ConfigOk_1.l2, ltD0, cond_false, List.drop_length, prF, Bool.true_and]
   refine (Ev.pure _).to (Bool.eq_iff_iff.2 ?_)
   simp; omega
  | succ g ih =>
   intro i hi
   have hi2 : i < l.length := by omega
   obtain ⟨b, hb⟩ := atLt hi2
   have e : l.drop i = b :: l.drop (i + 1) := by
    obtain ⟨h1, h2⟩ := List.getElem?_eq_some_iff.1 hb
    rw [List.drop_eq_getElem_cons h1, h2]
   refine Ev.succ ?_
   simp only [I_arePairs__impl_ConfigOk_1.l2, ltD hi2, cond_true]
   rw [e]
   refine Ev.at? hb ?_
   simp only [prF]
   have hb1 : Ev (fun k => I_ConfigOk_1 k b) (linkB b) := by
    simp only [I_ConfigOk_1, I_isRealm, iIn, Option.bind_some]
    unfold linkB isR
    refine Ev.ite (fun hc => ?_) (fun hc => ?_)
    ·rw [hc, Bool.true_and]
     refine Ev.ite (fun hc => ?_) (fun hc => ?_)
     ·rw [hc]; exact Ev.pure _
     ·rw [hc]; exact Ev.pure _
    ·rw [hc]; exact Ev.pure _
   refine Ev.bind hb1 (Ev.ite (fun hc => ?_) (fun hc => ?_))
   ·rw [show linkB b = false by simpa using hc]; exact Ev.pure _
   rw [show linkB b = true by simpa using hc, Bool.true_and, partI (by omega)]
   simp only [Option.bind_some]
   refine Ev.bind (iHas _ _ (by rw [List.length_take]; omega)) (Ev.ite (fun hc => ?_) (fun hc => ?_))
   ·rw [hc]; exact Ev.pure _
   ·rw [hc, wid1 (by omega), ← take_succ_get hb, Bool.not_false, Bool.true_and]; exact ih (i + 1) (by omega)
 simpa using key l.length 0 (by omega)
theorem iPairs2 (l : List T_Pair) (hl : l.length ≤ 1048576) : Ev (fun k => I_arePairs__impl_ConfigOk_2 k l) (prOk proxB l) := by
 simp only [I_arePairs__impl_ConfigOk_2]
 unfold prOk
 rw [Bool.and_comm]
 have key : ∀ (g i : Nat), i + g = l.length → Ev (fun k => I_arePairs__impl_ConfigOk_2.l2 k l (l.length : Int) (i : Int)) (prF proxB (l.take i) (l.drop i) && decide (l.length ≤ 6)) := by
  intro g
  induction g with
  | zero =>
   intro i hi
   have : i = l.length := by omega
   subst this
   refine Ev.succ ?_
   simp only [I_arePairs__impl_ConfigOk_2.l2, ltD0, cond_false, List.drop_length, prF, Bool.true_and]
   refine (Ev.pure _).to (Bool.eq_iff_iff.2 ?_)
   simp; omega
  | succ g ih =>
   intro i hi
   have hi2 : i < l.length := by omega
   obtain ⟨b, hb⟩ := atLt hi2
   have e : l.drop i = b :: l.drop (i + 1) := by
    obtain ⟨h1, h2⟩ := List.getElem?_eq_some_iff.1 hb
    rw [List.drop_eq_getElem_cons h1, h2]
   refine Ev.succ ?_
   simp only [I_arePairs__impl_ConfigOk_2.l2, ltD hi2, cond_true]
   rw [e]
   refine Ev.at? hb ?_
   simp only [prF]
   have hb1 : Ev (fun k => I_ConfigOk_2 k b) (proxB b) := by
    simp only [I_ConfigOk_2, I_isService, iIn, Option.bind_some]
    unfold proxB isR
    refine Ev.ite (fun hc => ?_) (fun hc => ?_)
    ·rw [hc, Bool.true_and]; exact Ev.pure _
    ·rw [hc]; exact Ev.pure _
   refine Ev.bind hb1 (Ev.ite (fun hc => ?_) (fun hc => ?_))
   ·rw [show proxB b = false by simpa using hc]; exact Ev.pure _
   rw [show proxB b = true by simpa using hc, Bool.true_and, partI (by omega)]
   simp only [Option.bind_some]
   refine Ev.bind (iHas _ _ (by rw [List.length_take]; omega)) (Ev.ite (fun hc => ?_) (fun hc => ?_))
   ·rw [hc]; exact Ev.pure _
   ·rw [hc, wid1 (by omega), ← take_succ_get hb, Bool.not_false, Bool.true_and]; exact ih (i + 1) (by omega)
 simpa using key l.length 0 (by omega)
def CfgSm (c : T_Config) : Prop := c.UserRealm.length ≤ 1048576 ∧ c.ServiceRealm.length ≤ 1048576 ∧ c.Links.length ≤ 1048576 ∧ c.Proxy.length ≤ 1048576
theorem sAll (l : List Int) (hl : l.length = 3) : Ev (fun k => S_l5All k l 3 3) (l.all isR) := by
 simp only [S_l5All]
 rw [decide_eq_false (by omega)]
 simp only [cond_false]
 refine Ev.for (xs := l) (L := fun k (_ : Unit) i => S_l5All.l2 k l 3 i) (f := fun l _ => l.all isR) (fun _ => by simp only [S_l5All.l2, ltD0, cond_false]; exact Ev.pure _) (fun i b _ hb hi h => ?_) ()
 simp only [S_l5All.l2, ltD hi, cond_true, List.all_cons]
 have hA : isR b = (!decide (b < 0) && !decide (b ≥ 3)) := by
  refine Bool.eq_iff_iff.2 ?_
  rw [isR_iff]; simp; omega
 rw [hA]
 refine Ev.at? hb (Ev.ite (fun hc => ?_) (fun hc => Ev.at? hb (Ev.ite (fun hc2 => ?_) (fun hc2 => ?_))))
 ·rw [hc]; exact Ev.pure _
 ·rw [hc, hc2]; exact Ev.pure _
 ·rw [hc, hc2, wid1 (by omega)]; exact h ()
theorem iAll (l : List Int) (hl : l.length = 3) : Ev (fun k => I_areAll__impl_isRealm k l 3) (l.all isR) := by
 simp only [I_areAll__impl_isRealm]
 refine Ev.for (xs := l) (L := fun k (_ : Unit) i => I_areAll__impl_isRealm.l2 k l 3 (l.length : Int) i) (f := fun l _ => l.all isR) (fun _ => by simp only [I_areAll__impl_isRealm.l2, ltD0, cond_false]; rw [decide_eq_true (by omega)]; exact Ev.pure _) (fun i b _ hb hi h => ?_) ()
 simp only [I_areAll__impl_isRealm.l2, ltD hi, cond_true, I_isRealm, iIn, Option.bind_some, List.all_cons]
 refine Ev.at? hb (Ev.ite (fun hc => ?_) (fun hc => ?_))
 ·rw [show isR b = false by simpa [isR] using hc]; exact Ev.pure _
 ·rw [show isR b = true by simpa [isR] using hc, wid1 (by omega)]; exact h ()
def cfgOk (c : T_Config) : Bool := decide (c.UserRealm.length = 3) && (c.UserRealm.all isR && (decide (c.ServiceRealm.length = 3) && (c.ServiceRealm.all isR && (prOk linkB c.Links && (prOk proxB c.Proxy && isIn c.Skew 0 20)))))
theorem beq3 (n : Nat) : (((n : Int) == 3) = decide (n = 3)) := by
 refine Bool.eq_iff_iff.2 ?_
 simp; omega
theorem sConfigOk {c : T_Config} (h : CfgSm c) : Ev (fun k => S_ConfigOk k c) (cfgOk c) := by
 obtain ⟨h1, h2, h3, h4⟩ := h
 simp only [S_ConfigOk, sIn, Option.bind_some, beq3]
 unfold cfgOk
 refine Ev.ite (fun hc => ?_) (fun hc => by rw [hc]; exact Ev.pure _)
 rw [hc, Bool.true_and]
 refine Ev.bind (sAll _ (of_decide_eq_true hc)) (Ev.ite (fun hc => ?_) (fun hc => by rw [hc]; exact Ev.pure _))
 rw [hc, Bool.true_and]
 refine Ev.ite (fun hc => ?_) (fun hc => by rw [hc]; exact Ev.pure _)
 rw [hc, Bool.true_and]
 refine Ev.bind (sAll _ (of_decide_eq_true hc)) (Ev.ite (fun hc => ?_) (fun hc => by rw [hc]; exact Ev.pure _))
 rw [hc, Bool.true_and]
 refine Ev.bind (sPairs _ true h3) (Ev.ite (fun hc => ?_) (fun hc => ?_))
 ·rw [show prOk linkB c.Links = true from hc, Bool.true_and]
  refine Ev.bind (sPairs _ false h4) (Ev.ite (fun hc => ?_) (fun hc => ?_))
  ·rw [show prOk proxB c.Proxy = true from hc, Bool.true_and]; exact Ev.pure _
  ·rw [show prOk proxB c.Proxy = false from hc]; exact Ev.pure _
 ·rw [show prOk linkB c.Links = false from hc]; exact Ev.pure _
theorem iConfigOk {c : T_Config} (h : CfgSm c) : Ev (fun k => I_ConfigOk k c) (cfgOk c) := by
 obtain ⟨h1, h2, h3, h4⟩ := h
 simp only [I_ConfigOk, iIn, Option.bind_some, beq3]
 refine Ev.bind (iPairs1 _ h3) (Ev.bind (iPairs2 _ h4) ?_)
 unfold cfgOk
 refine Ev.ite (fun ha => Ev.ite (fun hb => ?_) (fun hb => ?_)) (fun ha => ?_)
 ·rw [ha, hb, Bool.true_and, Bool.true_and]
  refine Ev.ite (fun hc => ?_) (fun hc => by rw [hc]; exact Ev.pure _)
  rw [hc, Bool.true_and]
  refine Ev.bind (iAll _ (of_decide_eq_true hc)) (Ev.ite (fun hc => ?_) (fun hc => by rw [hc]; exact Ev.pure _))
  rw [hc, Bool.true_and]
  refine Ev.ite (fun hc => ?_) (fun hc => by rw [hc]; exact Ev.pure _)
  rw [hc, Bool.true_and]
  refine Ev.bind (iAll _ (of_decide_eq_true hc)) (Ev.ite (fun hc => ?_) (fun hc => by rw [hc]; exact Ev.pure _))
  rw [hc, Bool.true_and]
  exact Ev.pure _
 ·rw [hb]; simp only [Bool.false_and, Bool.and_false]; exact Ev.pure _
 ·rw [ha]; simp only [Bool.false_and, Bool.and_false]; exact Ev.pure _
def prin (p : Int) : Bool := isIn p 0 5
theorem sPrin (k : Nat) (p : Int) : S_l5Principal k p = some (prin p) := by
 unfold S_l5Principal prin isIn
 simp only [Bool.cond_decide]
 split
 all_goals
  refine congrArg some (Bool.eq_iff_iff.mpr ?_)
  simp only [decide_eq_true_eq, Bool.false_eq_true, false_iff]
  omega
theorem sRealm (k : Nat) (p : Int) : S_l6Realm k p = some (isR p) := by
 unfold S_l6Realm isR isIn
 simp only [Bool.cond_decide]
 split
 all_goals
  refine congrArg some (Bool.eq_iff_iff.mpr ?_)
  simp only [decide_eq_true_eq, Bool.false_eq_true, false_iff]
  omega
abbrev SS (l : List Int) : Prop := l.Pairwise (· < ·)
theorem ss_ext : ∀ {a b : List Int}, SS a → SS b → (∀ x, x ∈ a ↔ x ∈ b) → a = b
 | [], [], _, _, _ => rfl
 | [], y :: b, _, _, h => by have := (h y).2 List.mem_cons_self; cases this
 | x :: a, [], _, _, h => by have := (h x).1 List.mem_cons_self; cases this
 | x :: a, y :: b, ha, hb, h => by
  have ha' := List.pairwise_cons.1 ha
  have hb' := List.pairwise_cons.1 hb
  have e : x = y := by
   have h1 := (h x).1 List.mem_cons_self
   have h2 := (h y).2 List.mem_cons_self
   rcases List.mem_cons.1 h1 with e | h1
   ·exact e
   ·rcases List.mem_cons.1 h2 with e | h2
    ·exact e.symm
    ·have := ha'.1 y h2; have := hb'.1 x h1; omega
  subst e
  rw [ss_ext ha'.2 hb'.2 fun z => ?_]
  constructor
  ·intro hz
   rcases List.mem_cons.1 ((h z).1 (List.mem_cons_of_mem _ hz)) with e | h1
   ·subst e; have := ha'.1 z hz; omega
   ·exact h1
  ·intro hz
   rcases List.mem_cons.1 ((h z).2 (List.mem_cons_of_mem _ hz)) with e | h1
   ·subst e; have := hb'.1 z hz; omega
   ·exact h1
def putI (x : Int) : List Int → List Int
 | [] => [x]
 | y :: l => if x < y then x :: y :: l else if x = y then y :: l else y :: putI x l
theorem mem_putI {x z : Int} : ∀ {l : List Int}, z ∈ putI x l ↔ z = x ∨ z ∈ l
 | [] => by simp [putI]
 | y :: l => by
  simp only [putI]
  split
  ·simp
  ·split
   ·rename_i e; subst e; simp
   ·simp only [List.mem_cons, mem_putI (l := l)]
    constructor
    ·rintro (h | h | h)
     ·exact .inr (.inl h)
     ·exact .inl h
     ·exact .inr (.inr h)
    ·rintro (h | h | h)
     ·exact .inr (.inl h)
     ·exact .inl h
     ·exact .inr (.inr h)
theorem ss_putI {x : Int} : ∀ {l : List Int}, SS l → SS (putI x l)
 | [], _ => by simp [putI]
 | y :: l, h => by
  have h' := List.pairwise_cons.1 h
  simp only [putI]
  split
  ·rename_i hx
   refine List.pairwise_cons.2 ⟨fun z hz => ?_, h⟩
   rcases List.mem_cons.1 hz with rfl | hz
   ·exact hx
   ·have := h'.1 z hz; omega
  ·split
   ·exact h
   ·refine List.pairwise_cons.2 ⟨fun z hz => ?_, ss_putI h'.2⟩
    rcases mem_putI.1 hz with rfl | hz
    ·omega
    ·exact h'.1 z hz
theorem putI_len (x : Int) : ∀ (l : List Int), (putI x l).length ≤ l.length + 1
 | [] => by simp [putI]
 | y :: l => by
  simp only [putI]
  have := putI_len x l
  split
  ·simp
  ·split
   ·simp
   ·simp; omega
def putsI (l : List Int) (s : List Int) : List Int := l.foldl (fun s x => putI x s) s
theorem ss_putsI : ∀ {l s : List Int}, SS s → SS (putsI l s)
 | [], _, h => h
 | _ :: l, _, h => ss_putsI (l := l) (ss_putI h)
theorem mem_putsI {z : Int} : ∀ {l s : List Int}, z ∈ putsI l s ↔ z ∈ l ∨ z ∈ s
 | [], s => by simp [putsI]
 | x :: l, s => by
  show z ∈ putsI l (putI x s) ↔ _
  rw [mem_putsI, mem_putI, List.mem_cons]
  constructor
  ·rintro (h | h | h)
   ·exact .inl (.inr h)
   ·exact .inl (.inl h)
   ·exact .inr h
  ·rintro ((h | h) | h)
   ·exact .inr (.inl h)
   ·exact .inl h
   ·exact .inr (.inr h)
theorem putsI_len : ∀ (l s : List Int), (putsI l s).length ≤ l.length + s.length
 | [], s => by simp [putsI]
 | x :: l, s => by
  show (putsI l (putI x s)).length ≤ _
  have := putsI_len l (putI x s)
  have := putI_len x s
  simp; omega
def rsn (l : List Int) : List Int := Go.Lib.compact (l.mergeSort fun x y => decide (x ≤ y))
theorem cpt_mem {l : List Int} {x : Int} : x ∈ Go.Lib.compact l ↔ x ∈ l := by
 unfold Go.Lib.compact Go.Lib.compactUpTo
 simp only [List.mem_map, List.mem_filter, List.mem_range]
 constructor
 ·rintro ⟨j, ⟨hj, _⟩, rfl⟩
  simp [hj]
 ·intro h
  obtain ⟨j, hj, rfl⟩ := List.mem_iff_getElem.1 h
  have key : ∀ j (hj : j < l.length), ∃ a, (a < l.length ∧ Go.Lib.keeps l.toArray a = true) ∧ l.toArray[a]! = l[j] := by
   intro j
   induction j with
   | zero => intro hj; exact ⟨0, ⟨hj, by simp [Go.Lib.keeps]⟩, by simp [hj]⟩
   | succ j ih =>
    intro hj
    by_cases hk : Go.Lib.keeps l.toArray (j + 1) = true
    ·exact ⟨j + 1, ⟨hj, hk⟩, by simp [hj]⟩
    ·obtain ⟨a, ha, e⟩ := ih (by omega)
     refine ⟨a, ha, e.trans ?_⟩
     simp only [Go.Lib.keeps, decide_eq_true_eq, not_or, Nat.add_sub_cancel, ne_eq, Classical.not_not] at hk
     have := hk.2
     simp [hj, show j < l.length by omega] at this
     exact this.symm
  exact key j hj
theorem cpt_ss {l : List Int} (h : l.Pairwise (· ≤ ·)) : SS (Go.Lib.compact l) := by
 unfold Go.Lib.compact Go.Lib.compactUpTo
 rw [SS, List.pairwise_map]
 have h1 : ((List.range l.length).filter (Go.Lib.keeps l.toArray)).Pairwise (· < ·) := List.Pairwise.sublist List.filter_sublist List.pairwise_lt_range
 refine List.Pairwise.imp_of_mem ?_ h1
 intro a b ha hb hab
 simp only [List.mem_filter, List.mem_range] at ha hb
 obtain ⟨hb1, hb2⟩ := hb
 simp only [Go.Lib.keeps, decide_eq_true_eq] at hb2
 have hb3 := hb2.resolve_left (by omega)
 have le : ∀ (i j : Nat) (hi : i < l.length) (hj : j < l.length), i ≤ j → l[i] ≤ l[j] := fun i j hi hj hij => by
  by_cases e : i = j
  ·subst e; exact Int.le_refl _
  ·exact List.pairwise_iff_getElem.1 h i j hi hj (by omega)
 have h2 := le a (b - 1) ha.1 (by omega) (by omega)
 have h3 := le (b - 1) b (by omega) hb1 (by omega)
 simp [ha.1, hb1, show b - 1 < l.length by omega] at hb3 ⊢
 omega
theorem rsn_ss (l : List Int) : SS (rsn l) := by
 refine cpt_ss ?_
 have := List.pairwise_mergeSort (le := fun x y : Int => decide (x ≤ y)) (fun a b c h1 h2 => by simp at h1 h2 ⊢; omega) (fun a b => by simp; omega) l
 simpa using this
theorem rsn_mem {l : List Int} {x : Int} : x ∈ rsn l ↔ x ∈ l := by
 unfold rsn
 rw [cpt_mem, List.mem_mergeSort]
/-- What is put in one by one is what is sorted at the end. -/
theorem rsn_puts (l : List Int) : rsn l = putsI l [] := ss_ext (rsn_ss l) (ss_putsI List.Pairwise.nil) fun x => by rw [rsn_mem, mem_putsI]; simp
theorem iRisen (l : List Int) (h : l.length ≤ 1099511627776) : Ev (fun k => I_risen k l) (rsn l) := by
 simp only [I_risen, V_Sort_int, V_Compact_int]
 rw [decide_eq_true (by omega)]
 simp only [cond_true, Option.bind_some]
 rw [decide_eq_true (by rw [List.length_mergeSort]; omega)]
 exact Ev.pure _
theorem sHasI (l : List Int) (x : Int) (hl : l.length ≤ 1099511627776) : Ev (fun k => S_l3Has k l x) (decide (x ∈ l)) := by
 simp only [S_l3Has]
 refine Ev.for (xs := l) (L := fun k (_ : Unit) i => S_l3Has.l2 k l x i) (f := fun l _ => decide (x ∈ l)) (fun _ => by simp only [S_l3Has.l2, ltD0, cond_false]; exact Ev.pure _) (fun i b _ hb hi h => ?_) ()
 simp only [S_l3Has.l2, ltD hi, cond_true]
 refine Ev.at? hb (Ev.ite (fun hc => ?_) (fun hc => ?_))
 ·have : b = x := by simpa using hc
  rw [decide_eq_true (by rw [this]; exact List.mem_cons_self)]; exact Ev.pure _
 ·have hne : ¬ b = x := by simpa using hc
  rw [wid1 (by omega)]
  refine (h ()).to ?_
  refine Bool.eq_iff_iff.2 ?_
  simp only [decide_eq_true_eq, List.mem_cons]
  exact ⟨.inr, fun h => h.resolve_left fun e => hne e.symm⟩
theorem putI_in {x : Int} : ∀ {l : List Int}, SS l → x ∈ l → putI x l = l
 | y :: l, h, hx => by
  have h' := List.pairwise_cons.1 h
  simp only [putI]
  rcases List.mem_cons.1 hx with rfl | hx
  ·rw [if_neg (by omega), if_pos rfl]
  ·have := h'.1 x hx
   rw [if_neg (by omega), if_neg (by omega), putI_in h'.2 hx]
theorem sPutT {l : List Int} {x : Int} (hl : l.length ≤ 1099511627776) : ∀ (r : List Int) (i : Nat) (out : List Int), l.drop i = r → i ≤ l.length → out.length ≤ i + 1 → Ev (fun k => S_l3Put.l24 k l x out true (i : Int)) (out ++ r) := by
 intro r
 induction r with
 | nil =>
  intro i out hd hi ho
  have : l.length ≤ i := by simpa using hd
  refine Ev.succ ?_
  simp only [S_l3Put.l24]
  rw [decide_eq_false (by omega), List.append_nil]
  exact Ev.pure _
 | cons y r ih =>
  intro i out hd hi ho
  obtain ⟨h1, h2, h3⟩ := drop_at hd
  refine Ev.succ ?_
  simp only [S_l3Put.l24, S_l3Put.j30, S_l3Put.j29]
  rw [decide_eq_true (by omega)]
  simp only [cond_true, Bool.not_true, cond_false]
  refine Ev.at? h2 ?_
  rw [decide_eq_true (by simp only [List.length_cons, List.length_nil]; omega), wid1 (by omega)]
  simp only [cond_true]
  have := ih (i + 1) (out ++ [y]) h3 (by omega) (by simp only [List.length_append, List.length_cons, List.length_nil]; omega)
  rwa [List.append_assoc] at this
theorem sPutF {l : List Int} {x : Int} (hl : l.length ≤ 1099511627776) : ∀ (r : List Int) (i : Nat) (out : List Int), l.drop i = r → x ∉ r → i ≤ l.length → out.length ≤ i → Ev (fun k => S_l3Put.l24 k l x out false (i : Int)) (out ++ putI x r) := by
 intro r
 induction r with
 | nil =>
  intro i out hd _ hi ho
  have : l.length ≤ i := by simpa using hd
  refine Ev.succ ?_
  simp only [S_l3Put.l24]
  rw [decide_eq_false (by omega)]
  simp only [cond_false, Bool.not_false, cond_true]
  rw [decide_eq_true (by simp only [List.length_cons, List.length_nil]; omega)]
  exact Ev.pure _
 | cons y r ih =>
  intro i out hd hx hi ho
  obtain ⟨h1, h2, h3⟩ := drop_at hd
  have hxy : x ≠ y := fun e => hx (e ▸ List.mem_cons_self)
  have hxr : x ∉ r := fun h => hx (List.mem_cons_of_mem _ h)
  refine Ev.succ ?_
  simp only [S_l3Put.l24, S_l3Put.j30, S_l3Put.j29]
  rw [decide_eq_true (by omega)]
  simp only [cond_true, Bool.not_false]
  refine Ev.at? h2 ?_
  simp only [putI]
  refine Ev.ite (fun hc => ?_) (fun hc => ?_)
  ·rw [if_pos (of_decide_eq_true hc), decide_eq_true (by simp only [List.length_cons, List.length_nil]; omega)]
   simp only [cond_true]
   refine Ev.at? h2 ?_
   rw [decide_eq_true (by simp only [List.length_append, List.length_cons, List.length_nil]; omega), wid1 (by omega)]
   simp only [cond_true]
   have := sPutT (x := x) hl r (i + 1) (out ++ [x] ++ [y]) h3 (by omega) (by simp only [List.length_append, List.length_cons, List.length_nil]; omega)
   simpa [List.append_assoc] using this
  ·rw [if_neg (of_decide_eq_false hc), if_neg hxy]
   refine Ev.at? h2 ?_
   rw [decide_eq_true (by simp only [List.length_cons, List.length_nil]; omega), wid1 (by omega)]
   simp only [cond_true]
   have := ih (i + 1) (out ++ [y]) h3 hxr (by omega) (by simp only [List.length_append, List.length_cons, List.length_nil]; omega)
   rwa [List.append_assoc] at this
theorem sPut {l : List Int} (x : Int) (hl : l.length ≤ 1099511627776) (hs : SS l) : Ev (fun k => S_l3Put k l x) (putI x l) := by
 simp only [S_l3Put]
 refine Ev.bind (sHasI l x hl) (Ev.ite (fun hc => ?_) (fun hc => ?_))
 ·rw [putI_in hs (of_decide_eq_true hc)]; exact Ev.pure _
 ·exact sPutF hl l 0 [] rfl (of_decide_eq_false hc) (by omega) (by simp)
theorem putsI_snoc (l : List Int) (y : Int) (s : List Int) : putsI (l ++ [y]) s = putI y (putsI l s) := by simp [putsI]
def pk (p : Int) : Int := if prin p = true then (if p < 3 then 1 + p else 8 + p) else 0
def ck (r : Int) : Int := if isR r = true then 21 + r else 0
def lk (a b : Int) : Int := if isR a = true ∧ isR b = true then 31 + 3 * a + b else 0
theorem prin_iff {p : Int} : prin p = true ↔ 0 ≤ p ∧ p ≤ 5 := by simp [prin, isIn]
theorem sPK (k : Nat) (p : Int) : S_PrincipalKey k p = some (pk p) := by
 simp only [S_PrincipalKey, sPrin, Option.bind_some]
 unfold pk
 by_cases h : prin p = true
 ·have := prin_iff.1 h
  rw [h, if_pos rfl]
  by_cases h3 : p < 3
  ·rw [decide_eq_true h3, if_pos h3, wid (by omega) (by omega)]; rfl
  ·rw [decide_eq_false h3, if_neg h3, wid (n := 11 + p) (by omega) (by omega), wid (n := 11 + p - 3) (by omega) (by omega)]
   simp only [Bool.not_true, cond_false]
   congr 1; omega
 ·rw [if_neg h, show prin p = false by simpa using h]; rfl
theorem iPK (k : Nat) (p : Int) : I_PrincipalKey k p = some (pk p) := by
 simp only [I_PrincipalKey, I_isPrincipal, iIn, Option.bind_some]
 unfold pk
 by_cases h : prin p = true
 ·have := prin_iff.1 h
  rw [if_pos h, show isIn p 0 5 = true from h]
  by_cases h3 : p < 3
  ·rw [show isIn p 0 2 = true by simp [isIn]; omega, if_pos h3, wid (by omega) (by omega)]; rfl
  ·rw [show isIn p 0 2 = false by simp [isIn]; omega, if_neg h3, wid (n := 11 + p) (by omega) (by omega), wid (n := 11 + p - 3) (by omega) (by omega)]
   simp only [cond_true, cond_false]
   congr 1; omega
 ·rw [if_neg h, show isIn p 0 5 = false by simpa [prin] using h, show isIn p 0 2 = false by rw [prin_iff] at h; simp [isIn]; omega]; rfl
theorem sCK (k : Nat) (r : Int) : S_CentreKey k r = some (ck r) := by
 simp only [S_CentreKey, sRealm, Option.bind_some]
 unfold ck
 by_cases h : isR r = true
 ·have := isR_iff.1 h
  rw [h, if_pos rfl, wid (by omega) (by omega)]; rfl
 ·rw [if_neg h, show isR r = false by simpa using h]; rfl
theorem iCK (k : Nat) (r : Int) : I_CentreKey k r = some (ck r) := by
 simp only [I_CentreKey, I_isRealm, iIn, Option.bind_some]
 unfold ck
 by_cases h : isR r = true
 ·have := isR_iff.1 h
  rw [if_pos h, show isIn r 0 2 = true from h, wid (by omega) (by omega)]; rfl
 ·rw [if_neg h, show isIn r 0 2 = false by simpa [isR] using h]; rfl
theorem lkE {a b : Int} (ha : isR a = true) (hb : isR b = true) : IntKind.i64.wrap (IntKind.i64.wrap (31 + IntKind.i64.wrap (3 * a)) + b) = 31 + 3 * a + b := by
 have := isR_iff.1 ha
 have := isR_iff.1 hb
 rw [wid (n := 3 * a) (by omega) (by omega), wid (n := 31 + 3 * a) (by omega) (by omega), wid (by omega) (by omega)]
theorem sLK (k : Nat) (a b : Int) : S_LinkKey k a b = some (lk a b) := by
 simp only [S_LinkKey, sRealm, Option.bind_some]
 unfold lk
 by_cases ha : isR a = true
 ·by_cases hb : isR b = true
  ·rw [if_pos ⟨ha, hb⟩, ha, hb, lkE ha hb]; rfl
  ·rw [if_neg fun h => hb h.2, ha, show isR b = false by simpa using hb]; rfl
 ·rw [if_neg fun h => ha h.1, show isR a = false by simpa using ha]; rfl
theorem iLK (k : Nat) (a b : Int) : I_LinkKey k a b = some (lk a b) := by
 simp only [I_LinkKey, I_isRealm, iIn, Option.bind_some]
 unfold lk
 by_cases ha : isR a = true
 ·by_cases hb : isR b = true
  ·rw [if_pos ⟨ha, hb⟩, show isIn a 0 2 = true from ha, show isIn b 0 2 = true from hb, lkE ha hb]; rfl
  ·rw [if_neg fun h => hb h.2, show isIn a 0 2 = true from ha, show isIn b 0 2 = false by simpa [isR] using hb]; rfl
 ·rw [if_neg fun h => ha h.1, show isIn a 0 2 = false by simpa [isR] using ha]; rfl
theorem pk_ne {p : Int} (h : prin p = true) : pk p ≠ 0 := by
 have := prin_iff.1 h
 unfold pk; rw [if_pos h]; split <;> omega
theorem ck_ne {r : Int} (h : isR r = true) : ck r ≠ 0 := by
 have := isR_iff.1 h
 unfold ck; rw [if_pos h]; omega
theorem lk_ne {a b : Int} (ha : isR a = true) (hb : isR b = true) : lk a b ≠ 0 := by
 have := isR_iff.1 ha
 have := isR_iff.1 hb
 unfold lk; rw [if_pos ⟨ha, hb⟩]; omega
theorem pk_no {p : Int} (h : prin p = false) : pk p = 0 := by unfold pk; rw [if_neg (by rw [h]; simp)]
theorem ck_no {p : Int} (h : isR p = false) : ck p = 0 := by unfold ck; rw [if_neg (by rw [h]; simp)]
def fi (l : List T_Event) (x : Int) : Int := firstOf (fun e => e.Key == x) (fun i => (i : Int)) (-1) 0 l
theorem sFind (l : List T_Event) (x : Int) (hl : l.length ≤ 1048576) : Ev (fun k => S_Find k l x) (fi l x) := by
 simp only [S_Find]
 refine Ev.find (xs := l) (L := fun k i => S_Find.l2 k l x i) (by simp only [S_Find.l2, ltD0, cond_false]; exact Ev.pure _) (fun i b r hb hi h1 h0 => ?_)
 simp only [S_Find.l2, ltD hi, cond_true]
 refine Ev.at? hb (Ev.ite (fun hc => (Ev.pure _).to (h1 hc).symm) (fun hc => ?_))
 rw [wid1 (by omega)]; exact h0 hc
theorem iFind (l : List T_Event) (x : Int) (hl : l.length ≤ 1048576) : Ev (fun k => I_Find k l x) (fi l x) := by
 simp only [I_Find, V_IndexFunc_Event__impl_Find_1]
 have : Ev (fun k => V_IndexFunc_Event__impl_Find_1.l2 k l (l.length : Int) (0 : Int) x) (firstOf (fun e => e.Key == x) (fun i => ((i : Int), x)) (-1, x) 0 l) := by
  refine Ev.find (xs := l) (L := fun k i => V_IndexFunc_Event__impl_Find_1.l2 k l (l.length : Int) i x) (by simp only [V_IndexFunc_Event__impl_Find_1.l2, ltD0, cond_false]; exact Ev.pure _) (fun i b r hb hi h1 h0 => ?_)
  simp only [V_IndexFunc_Event__impl_Find_1.l2, ltD hi, cond_true, I_Find_1, Option.bind_some]
  refine Ev.at? hb (Ev.ite (fun hc => (Ev.pure _).to (h1 hc).symm) (fun hc => ?_))
  rw [wid1 (by omega)]; exact h0 hc
 refine Ev.bind this ?_
 refine (Ev.pure _).to ?_
 rw [firstOf_map (fun r : Int × Int => r.1)]; rfl
theorem fi_cases (l : List T_Event) (x : Int) : (∃ (i : Nat) (e : T_Event), fi l x = i ∧ l[i]? = some e ∧ e.Key = x) ∨ fi l x = -1 := by
 rcases firstOf_some (p := fun e : T_Event => e.Key == x) (g := fun i => (i : Int)) (e := (-1 : Int)) (i := 0) (xs := l) with ⟨j, b, h1, h2, h3⟩ | ⟨_, h2⟩
 ·exact .inl ⟨j, b, by unfold fi; rw [h3]; simp, h1, by simpa using h2⟩
 ·exact .inr h2
inductive RPath (l : List T_Event) : Int → List Nat → Prop where
 | last {x : Int} {i : Nat} {e : T_Event} (h : fi l x = i) (he : l[i]? = some e) (hk : e.Kind = 1) : RPath l x [i]
 | step {x y : Int} {i : Nat} {e : T_Event} {p : List Nat} (h : fi l x = i) (he : l[i]? = some e) (hk : e.Kind ≠ 1) (hy : e.Parent = y) (hp : RPath l y p) : RPath l x (i :: p)
theorem RPath.key {l : List T_Event} {x : Int} {i : Nat} {p : List Nat} (h : RPath l x (i :: p)) : fi l x = i ∧ ∃ e, l[i]? = some e ∧ e.Key = x := by
 have : fi l x = i := by cases h <;> assumption
 refine ⟨this, ?_⟩
 rcases fi_cases l x with ⟨j, e, h1, h2, h3⟩ | h1
 ·rw [this] at h1
  have : i = j := by omega
  subst this
  exact ⟨e, h2, h3⟩
 ·rw [this] at h1; omega
theorem RPath.det {l : List T_Event} : ∀ {p q : List Nat} {x : Int}, RPath l x p → RPath l x q → p = q := by
 intro p q x h
 induction h generalizing q with
 | last h he hk =>
  intro h'
  cases h' with
  | last h2 he2 hk2 => rw [h] at h2; congr 1; omega
  | step h2 he2 hk2 _ _ =>
   rw [h] at h2
   have := Int.ofNat.inj h2; subst this
   rw [he] at he2; cases he2; exact absurd hk hk2
 | step h he hk hy hp ih =>
  intro h'
  cases h' with
  | last h2 he2 hk2 =>
   rw [h] at h2
   have := Int.ofNat.inj h2; subst this
   rw [he] at he2; cases he2; exact absurd hk2 hk
  | step h2 he2 hk2 hy2 hp2 =>
   rw [h] at h2
   have := Int.ofNat.inj h2; subst this
   rw [he] at he2; cases he2
   rw [hy] at hy2; cases hy2
   rw [ih hp2]
theorem RPath.tail {l : List T_Event} : ∀ {p : List Nat} {x : Int} {i : Nat}, RPath l x p → i ∈ p → ∃ z a b, p = a ++ i :: b ∧ RPath l z (i :: b) := by
 intro p x i h
 induction h with
 | last h he hk =>
  intro hi
  have := List.mem_singleton.1 hi
  subst this
  exact ⟨_, [], [], rfl, .last h he hk⟩
 | step h he hk hy hp ih =>
  intro hi
  rcases List.mem_cons.1 hi with rfl | hi
  ·exact ⟨_, [], _, rfl, .step h he hk hy hp⟩
  ·obtain ⟨z, a, b, h1, h2⟩ := ih hi
   exact ⟨z, _ :: a, b, by rw [h1]; rfl, h2⟩
theorem RPath.nodup {l : List T_Event} : ∀ {p : List Nat} {x : Int}, RPath l x p → p.Nodup := by
 intro p x h
 induction h with
 | last h he hk => simp
 | step h he hk hy hp ih =>
  rename_i x y i e p
  refine List.nodup_cons.2 ⟨fun hi => ?_, ih⟩
  obtain ⟨z, a, b, h1, h2⟩ := hp.tail hi
  have hx := (RPath.step h he hk hy hp).key.2
  obtain ⟨e1, h3, h4⟩ := hx
  obtain ⟨e2, h5, h6⟩ := h2.key.2
  rw [h3] at h5; cases h5
  have hzx : z = x := by rw [← h6, h4]
  subst hzx
  have := h2.det (RPath.step h he hk hy hp)
  have e3 := congrArg List.length h1
  simp only [List.cons.injEq, true_and] at this
  rw [this] at e3
  simp at e3
  omega
theorem RPath.lt {l : List T_Event} : ∀ {p : List Nat} {x : Int}, RPath l x p → ∀ i ∈ p, i < l.length := by
 intro p x h i hi
 obtain ⟨z, a, b, _, h2⟩ := h.tail hi
 obtain ⟨e, h3, _⟩ := h2.key.2
 exact (List.getElem?_eq_some_iff.1 h3).1
theorem iHasI (l : List Int) (x : Int) (hl : l.length ≤ 1099511627776) : Ev (fun k => V_Contains_int k l x) (decide (x ∈ l)) := by
 simp only [V_Contains_int, V_Index_int]
 have := Ev.find (xs := l) (L := fun k i => V_Index_int.l2 k l x (l.length : Int) i) (p := fun b => x == b) (g := fun i => (i : Int)) (e := -1) (by simp only [V_Index_int.l2, ltD0, cond_false]; exact Ev.pure _) (fun i b r hb hi h1 h0 => by
  simp only [V_Index_int.l2, ltD hi, cond_true]
  refine Ev.at? hb (Ev.ite (fun hc => (Ev.pure _).to (h1 hc).symm) (fun hc => ?_))
  rw [wid1 (by omega)]; exact h0 hc)
 refine Ev.bind this ((Ev.pure _).to ?_)
 rcases firstOf_some (p := fun b : Int => x == b) (g := fun i => (i : Int)) (e := (-1 : Int)) (i := 0) (xs := l) with ⟨j, b, h1, h2, h3⟩ | ⟨h1, h2⟩
 ·rw [h3, decide_eq_true (by omega)]
  have : x = b := by simpa using h2
  rw [decide_eq_true (by rw [this]; exact List.mem_of_getElem? h1)]
 ·rw [h2, decide_eq_false (by omega), decide_eq_false]
  intro h
  have := h1 x h
  simp at this
def rootedB (e : T_Event) : Bool := if e.Kind = 1 then prin e.By && isR e.Realm else if e.Kind = 2 ∨ e.Kind = 4 then isR e.Service else if e.Kind = 3 then isR e.Realm && isIn e.Service 10 12 else false
def evKey (e : T_Event) : Int := if e.Kind = 2 ∨ e.Kind = 4 then pk (3 + e.Service) else lk e.Realm (e.Service - 10)
theorem iRooted (k : Nat) (e : T_Event) : I_rooted k e = some (rootedB e) := by
 simp only [I_rooted, I_rooted.j2, I_isPrincipal, I_isRealm, I_isService, iIn, Option.bind_some]
 unfold rootedB prin isR
 by_cases h1 : e.Kind = 1
 ·rw [if_pos h1, show (e.Kind == 1) = true by simpa using h1]
  simp only [cond_true]
  cases isIn e.By 0 5 <;> rfl
 ·rw [if_neg h1, show (e.Kind == 1) = false by simpa using h1]
  simp only [cond_false]
  by_cases h2 : e.Kind = 2
  ·rw [if_pos (.inl h2), show (e.Kind == 2) = true by simpa using h2]; rfl
  ·rw [show (e.Kind == 2) = false by simpa using h2]
   simp only [cond_false]
   by_cases h4 : e.Kind = 4
   ·rw [if_pos (.inr h4), show (e.Kind == 4) = true by simpa using h4]; rfl
   ·rw [if_neg (by rintro (h | h) <;> contradiction), show (e.Kind == 4) = false by simpa using h4]
    simp only [cond_false]
    by_cases h3 : e.Kind = 3
    ·rw [if_pos h3, show (e.Kind == 3) = true by simpa using h3]
     simp only [cond_true]
     cases isIn e.Realm 0 2 <;> rfl
    ·rw [if_neg h3, show (e.Kind == 3) = false by simpa using h3]; rfl
def rt (l : List T_Event) : Nat → Int → List Int → Option (List Int)
 | 0, _, _ => none
 | n + 1, x, acc => match l[(fi l x).toNat]? with
  | none => none
  | some e => if fi l x < 0 then none else if rootedB e = false then none else if e.Kind = 1 then some (acc ++ [pk e.By, ck e.Realm]) else rt l n e.Parent (acc ++ [evKey e])
theorem rt_path {l : List T_Event} : ∀ {n : Nat} {x : Int} {acc r : List Int}, rt l n x acc = some r → ∃ p, RPath l x p ∧ ∀ m, p.length ≤ m → rt l m x acc = some r
 | 0, _, _, _, h => by simp [rt] at h
 | n + 1, x, acc, r, h => by
  rcases fi_cases l x with ⟨i, e, h1, h2, h3⟩ | h1
  ·simp only [rt, h1, Int.toNat_natCast, h2] at h
   rw [if_neg (by omega)] at h
   split at h
   ·cases h
   ·rename_i hr
    split at h
    ·rename_i hk
     refine ⟨[i], .last h1 h2 hk, fun m hm => ?_⟩
     obtain ⟨m, rfl⟩ : ∃ j, m = j + 1 := ⟨m - 1, by simp at hm; omega⟩
     simp only [rt, h1, Int.toNat_natCast, h2]
     rw [if_neg (by omega), if_neg hr, if_pos hk]; exact h
    ·rename_i hk
     obtain ⟨p, hp, hm⟩ := rt_path h
     refine ⟨i :: p, .step h1 h2 hk rfl hp, fun m hm' => ?_⟩
     obtain ⟨m, rfl⟩ : ∃ j, m = j + 1 := ⟨m - 1, by simp at hm'; omega⟩
     simp only [rt, h1, Int.toNat_natCast, h2]
     rw [if_neg (by omega), if_neg hr, if_neg hk]
     exact hm m (by simpa using hm')
  ·simp only [rt, h1] at h
   split at h
   ·cases h
   ·rw [if_pos (by omega)] at h; cases h
/-- One round more finds nothing more. -/
theorem rt_more (l : List T_Event) (x : Int) (acc : List Int) : rt l (l.length + 1) x acc = rt l l.length x acc := by
 have key : ∀ n r, rt l n x acc = some r → ∀ m, l.length ≤ m → rt l m x acc = some r := fun n r h m hm => by
  obtain ⟨p, h1, h2⟩ := rt_path h
  have := pigeon l.length p h1.nodup h1.lt
  exact h2 m (by omega)
 cases h : rt l (l.length + 1) x acc with
 | some r => exact (key _ r h _ (Nat.le_refl _)).symm
 | none =>
  cases h2 : rt l l.length x acc with
  | none => rfl
  | some r => have := key _ r h2 (l.length + 1) (by omega); rw [h] at this; cases this
theorem rt_len {l : List T_Event} : ∀ {n : Nat} {x : Int} {acc r : List Int}, rt l n x acc = some r → r.length ≤ acc.length + n + 1
 | 0, _, _, _, h => by simp [rt] at h
 | n + 1, x, acc, r, h => by
  simp only [rt] at h
  split at h
  ·cases h
  ·split at h
   ·cases h
   ·split at h
    ·cases h
    ·split at h
     ·cases h; simp
     ·have := rt_len h
      simp at this; omega
def rtI (l : List T_Event) (n : Nat) (x : Int) (acc : List Int) : List Int := match rt l n x acc with
 | some r => rsn r
 | none => []
theorem iRootsL {l : List T_Event} (hl : l.length ≤ 1048576) : ∀ (n i : Nat) (x : Int) (acc : List Int), i + n = l.length → acc.length ≤ i → Ev (fun k => I_Roots.l17 k l x acc (l.length : Int) (i : Int)) (rtI l n x acc) := by
 intro n
 induction n with
 | zero =>
  intro i x acc hi ha
  refine Ev.succ ?_
  simp only [I_Roots.l17]
  rw [decide_eq_false (by omega)]
  exact Ev.pure _
 | succ n ih =>
  intro i x acc hi ha
  refine Ev.succ ?_
  simp only [I_Roots.l17, I_Roots.j20, I_Roots.j19]
  rw [decide_eq_true (by omega)]
  simp only [cond_true]
  refine Ev.bind (iFind l x hl) ?_
  rcases fi_cases l x with ⟨j, e, h1, h2, h3⟩ | h1
  ·have er : rtI l (n + 1) x acc = if rootedB e = false then [] else if e.Kind = 1 then rsn (acc ++ [pk e.By, ck e.Realm]) else rtI l n e.Parent (acc ++ [evKey e]) := by
    unfold rtI
    simp only [rt, h1, Int.toNat_natCast, h2]
    rw [if_neg (by omega)]
    by_cases hr : rootedB e = false
    ·rw [if_pos hr, if_pos hr]
    ·rw [if_neg hr, if_neg hr]
     by_cases hk : e.Kind = 1
     ·rw [if_pos hk, if_pos hk]
     ·rw [if_neg hk, if_neg hk]
   rw [er, h1, decide_eq_false (by omega)]
   simp only [cond_false, iRooted, Option.bind_some]
   refine Ev.at? h2 ?_
   refine Ev.ite (fun hc => ?_) (fun hc => ?_)
   ·rw [if_pos (by simpa using hc)]; exact Ev.pure _
   have hr : rootedB e = true := by simpa using hc
   rw [if_neg (by rw [hr]; simp)]
   simp only [iPK, iCK, iLK, Option.bind_some]
   refine Ev.ite (fun hc => ?_) (fun hc => ?_)
   ·have hk : e.Kind = 1 := by simpa using hc
    rw [if_pos hk, decide_eq_true (by simp only [List.length_cons, List.length_nil]; omega)]
    simp only [cond_true]
    exact Ev.bind (iRisen _ (by simp; omega)) (Ev.pure _)
   have hk : ¬ e.Kind = 1 := by simpa using hc
   rw [if_neg hk]
   have go : ∀ y, evKey e = y → Ev (fun k => I_Roots.l17 k l e.Parent (acc ++ [y]) (l.length : Int) ((i + 1 : Nat) : Int)) (rtI l n e.Parent (acc ++ [evKey e])) := fun y hy => by
    rw [← hy]; exact ih (i + 1) e.Parent _ (by omega) (by simp; omega)
   rw [wid1 (by omega)]
   have arm : (e.Kind = 2 ∨ e.Kind = 4) → Ev (fun k => cond (decide ((2 * (acc.length + ([pk (IntKind.i64.wrap ((3 : Int) + e.Service))] : List Int).length) + 192) * 8 ≤ 281474976710656)) (I_Roots.l17 k l e.Parent (acc ++ ([pk (IntKind.i64.wrap ((3 : Int) + e.Service))] : List Int)) (l.length : Int) ((i + 1 : Nat) : Int)) none) (rtI l n e.Parent (acc ++ [evKey e])) := fun h => by
    have hs : isR e.Service = true := by
     unfold rootedB at hr
     rwa [if_neg hk, if_pos h] at hr
    have := isR_iff.1 hs
    rw [decide_eq_true (by simp only [List.length_cons, List.length_nil]; omega), wid (n := 3 + e.Service) (by omega) (by omega)]
    exact go _ (by unfold evKey; rw [if_pos h])
   refine Ev.ite (fun hc => ?_) (fun hc => ?_)
   ·have h2 : e.Kind = 2 := by simpa using hc
    rw [hc]
    exact arm (.inl h2)
   have hn2 : ¬ e.Kind = 2 := by simpa using hc
   refine Ev.ite (fun hc => ?_) (fun hc => ?_)
   ·exact arm (.inr (by simpa using hc))
   have hn4 : ¬ e.Kind = 4 := by simpa using hc
   have hn : ¬ (e.Kind = 2 ∨ e.Kind = 4) := by rintro (h | h) <;> contradiction
   refine Ev.ite (fun hc => ?_) (fun hc => ?_)
   ·have h3 : e.Kind = 3 := by simpa using hc
    have hs : isR e.Realm = true ∧ isIn e.Service 10 12 = true := by
     unfold rootedB at hr
     rw [if_neg hk, if_neg hn, if_pos h3] at hr
     simpa using hr
    have : 10 ≤ e.Service ∧ e.Service ≤ 12 := by simpa [isIn] using hs.2
    rw [decide_eq_true (by simp only [List.length_cons, List.length_nil]; omega), wid (n := e.Service - 10) (by omega) (by omega)]
    exact go _ (by unfold evKey; rw [if_neg hn])
   ·exfalso
    unfold rootedB at hr
    rw [if_neg hk, if_neg hn, if_neg (by simpa using hc)] at hr; cases hr
  ·have er : rtI l (n + 1) x acc = [] := by
    unfold rtI
    simp only [rt, h1]
    split
    ·rename_i r h
     split at h
     ·cases h
     ·rw [if_pos (by omega)] at h; cases h
    ·rfl
   rw [er, h1]
   exact Ev.pure _
def rtS (l : List T_Event) (n : Nat) (x : Int) (acc : List Int) : List Int := match rt l n x acc with
 | some r => putsI r []
 | none => []
theorem sRootsL {l : List T_Event} (hl : l.length ≤ 1048576) : ∀ (n i : Nat) (x : Int) (acc : List Int), i + n = l.length + 1 → acc.length ≤ i → Ev (fun k => S_Roots.l32 k l x (putsI acc []) (i : Int)) (rtS l n x acc) := by
 intro n
 induction n with
 | zero =>
  intro i x acc hi ha
  refine Ev.succ ?_
  simp only [S_Roots.l32]
  rw [decide_eq_false (by omega)]
  exact Ev.pure _
 | succ n ih =>
  intro i x acc hi ha
  have hpl := putsI_len acc []
  simp only [List.length_nil, Nat.add_zero] at hpl
  have hss : SS (putsI acc []) := ss_putsI List.Pairwise.nil
  refine Ev.succ ?_
  simp only [S_Roots.l32, S_Roots.j38, S_Roots.j37]
  rw [decide_eq_true (by omega)]
  simp only [cond_true]
  refine Ev.bind (sFind l x hl) ?_
  rcases fi_cases l x with ⟨j, e, h1, h2, h3⟩ | h1
  ·have er : rtS l (n + 1) x acc = if rootedB e = false then [] else if e.Kind = 1 then putsI (acc ++ [pk e.By, ck e.Realm]) [] else rtS l n e.Parent (acc ++ [evKey e]) := by
    unfold rtS
    simp only [rt, h1, Int.toNat_natCast, h2]
    rw [if_neg (by omega)]
    by_cases hr : rootedB e = false
    ·rw [if_pos hr, if_pos hr]
    ·rw [if_neg hr, if_neg hr]
     by_cases hk : e.Kind = 1
     ·rw [if_pos hk, if_pos hk]
     ·rw [if_neg hk, if_neg hk]
   rw [er, h1, decide_eq_false (by omega)]
   simp only [cond_false, sPK, sCK, sLK, sIn, Option.bind_some]
   refine Ev.at? h2 ?_
   refine Ev.ite (fun hc => ?_) (fun hc => ?_)
   ·have hk : e.Kind = 1 := by simpa using hc
    by_cases hp : prin e.By = true
    ·by_cases hR : isR e.Realm = true
     ·have hr : rootedB e = true := by unfold rootedB; rw [if_pos hk, hp, hR]; rfl
      rw [if_neg (by rw [hr]; simp), if_pos hk, show (pk e.By == 0) = false by simpa using pk_ne hp, show (ck e.Realm == 0) = false by simpa using ck_ne hR]
      simp only [cond_false]
      refine Ev.bind (sPut _ (by omega) hss) ?_
      have h5 := putI_len (pk e.By) (putsI acc [])
      refine Ev.bind (sPut _ (by omega) (ss_putI hss)) ((Ev.pure _).to ?_)
      rw [show acc ++ [pk e.By, ck e.Realm] = (acc ++ [pk e.By]) ++ [ck e.Realm] by simp, putsI_snoc, putsI_snoc]
     ·have hR : isR e.Realm = false := by simpa using hR
      rw [if_pos (by unfold rootedB; rw [if_pos hk, hR]; simp), show (pk e.By == 0) = false by simpa using pk_ne hp, show (ck e.Realm == 0) = true by simpa using ck_no hR]
      exact Ev.pure _
    ·have hp : prin e.By = false := by simpa using hp
     rw [if_pos (by unfold rootedB; rw [if_pos hk, hp]; simp), show (pk e.By == 0) = true by simpa using pk_no hp]
     exact Ev.pure _
   have hk : ¬ e.Kind = 1 := by simpa using hc
   have go : ∀ y, rootedB e = true → evKey e = y → y ≠ 0 → Ev (fun k => cond (y == 0) (some ([] : List Int)) ((S_l3Put k (putsI acc []) y).bind fun r743 => S_Roots.l32 k l e.Parent r743 (IntKind.i64.wrap ((i : Int) + 1)))) (if rootedB e = false then [] else if e.Kind = 1 then putsI (acc ++ [pk e.By, ck e.Realm]) [] else rtS l n e.Parent (acc ++ [evKey e])) := fun y hr hy h0 => by
    rw [if_neg (by rw [hr]; simp), if_neg hk, show (y == 0) = false by simpa using h0]
    simp only [cond_false]
    refine Ev.bind (sPut y (by omega) hss) ?_
    rw [wid1 (by omega), ← putsI_snoc, hy]
    exact ih (i + 1) e.Parent _ (by omega) (by simp; omega)
   have no : rootedB e = false → ∀ f : Nat → Option (List Int), Ev (fun k => cond ((0 : Int) == 0) (some ([] : List Int)) (f k)) (if rootedB e = false then [] else if e.Kind = 1 then putsI (acc ++ [pk e.By, ck e.Realm]) [] else rtS l n e.Parent (acc ++ [evKey e])) := fun hr f => by
    rw [if_pos hr]; exact Ev.pure _
   have arm : (e.Kind = 2 ∨ e.Kind = 4) → Ev (fun k => cond (isIn e.Service 0 2) (cond (pk (IntKind.i64.wrap (3 + e.Service)) == 0) (some ([] : List Int)) ((S_l3Put k (putsI acc []) (pk (IntKind.i64.wrap (3 + e.Service)))).bind fun r743 => S_Roots.l32 k l e.Parent r743 (IntKind.i64.wrap ((i : Int) + 1)))) (cond ((0 : Int) == 0) (some ([] : List Int)) ((S_l3Put k (putsI acc []) 0).bind fun r743 => S_Roots.l32 k l e.Parent r743 (IntKind.i64.wrap ((i : Int) + 1))))) (if rootedB e = false then [] else if e.Kind = 1 then putsI (acc ++ [pk e.By, ck e.Realm]) [] else rtS l n e.Parent (acc ++ [evKey e])) := fun h => by
    have hrE : rootedB e = isR e.Service := by unfold rootedB; rw [if_neg hk, if_pos h]
    refine Ev.ite (fun hc => ?_) (fun hc => ?_)
    ·have hs : isR e.Service = true := hc
     have := isR_iff.1 hs
     rw [wid (n := 3 + e.Service) (by omega) (by omega)]
     exact go _ (hrE.trans hs) (by unfold evKey; rw [if_pos h]) (pk_ne (prin_iff.2 (by omega)))
    ·exact no (hrE.trans hc) _
   refine Ev.ite (fun hc => ?_) (fun hc => ?_)
   ·have h2 : e.Kind = 2 := by simpa using hc
    rw [hc]
    exact arm (.inl h2)
   have hn2 : ¬ e.Kind = 2 := by simpa using hc
   refine Ev.ite (fun hc => ?_) (fun hc => ?_)
   ·exact arm (.inr (by simpa using hc))
   have hn4 : ¬ e.Kind = 4 := by simpa using hc
   have hn : ¬ (e.Kind = 2 ∨ e.Kind = 4) := by rintro (h | h) <;> contradiction
   refine Ev.ite (fun hc => ?_) (fun hc => ?_)
   ·have h3 : e.Kind = 3 := by simpa using hc
    have hrE : rootedB e = (isR e.Realm && isIn e.Service 10 12) := by unfold rootedB; rw [if_neg hk, if_neg hn, if_pos h3]
    refine Ev.ite (fun hc => ?_) (fun hc => ?_)
    ·have h10 : 10 ≤ e.Service ∧ e.Service ≤ 12 := by simpa [isIn] using hc
     rw [wid (n := e.Service - 10) (by omega) (by omega)]
     by_cases hR : isR e.Realm = true
     ·exact go _ (by rw [hrE, hR, hc]; rfl) (by unfold evKey; rw [if_neg hn]) (lk_ne hR (isR_iff.2 (by omega)))
     ·rw [if_pos (by rw [hrE, show isR e.Realm = false by simpa using hR]; rfl), show (lk e.Realm (e.Service - 10) == 0) = true by unfold lk; rw [if_neg fun h => hR h.1]; rfl]
      exact Ev.pure _
    ·exact no (by rw [hrE, hc]; simp) _
   ·refine no ?_ _
    unfold rootedB
    rw [if_neg hk, if_neg hn, if_neg (by simpa using hc)]
  ·have er : rtS l (n + 1) x acc = [] := by
    unfold rtS
    simp only [rt, h1]
    split
    ·rename_i r h
     split at h
     ·cases h
     ·rw [if_pos (by omega)] at h; cases h
    ·rfl
   rw [er, h1]
   exact Ev.pure _
theorem roots_both {c : T_Config} (h : CfgSm c) {l : List T_Event} (hl : l.length ≤ 1048576) (x : Int) : ∃ r : List Int, Ev (fun k => S_Roots k c l x) r ∧ Ev (fun k => I_Roots k c l x) r ∧ r.length ≤ 2097152 := by
 have h1 := sConfigOk h
 have h2 := iConfigOk h
 simp only [S_Roots, I_Roots]
 by_cases hc : cfgOk c = true
 case neg =>
  have hc : cfgOk c = false := by simpa using hc
  rw [hc] at h1 h2
  exact ⟨[], Ev.bind h1 (Ev.pure _), Ev.bind h2 (Ev.pure _), by simp⟩
 rw [hc] at h1 h2
 have e : rtS l (l.length + 1) x [] = rtI l l.length x [] := by
  unfold rtS rtI
  rw [rt_more]
  cases rt l l.length x [] with
  | none => rfl
  | some r => exact (rsn_puts r).symm
 refine ⟨rtI l l.length x [], Ev.bind h1 ?_, Ev.bind h2 ?_, ?_⟩
 ·rw [← e]; exact sRootsL hl (l.length + 1) 0 x [] (by omega) (by simp)
 ·exact iRootsL hl l.length 0 x [] (by omega) (by simp)
 ·unfold rtI
  cases hr : rt l l.length x [] with
  | none => simp
  | some r =>
   have := rt_len hr
   simp only [rsn_puts]
   have h3 := putsI_len r []
   simp at this h3
   omega
/-- The key that an event hangs on. -/
def nextKey (e : T_Event) : Option Int := if e.Kind = 2 ∨ e.Kind = 3 then some e.Parent else if e.Kind = 4 then some e.Evid else none
inductive Path (l : List T_Event) : Int → List Nat → Prop where
 | last {x : Int} {i : Nat} {e : T_Event} (h : fi l x = i) (he : l[i]? = some e) (hk : e.Kind = 1) : Path l x [i]
 | step {x y : Int} {i : Nat} {e : T_Event} {p : List Nat} (h : fi l x = i) (he : l[i]? = some e) (hk : e.Kind ≠ 1) (hy : nextKey e = some y) (hp : Path l y p) : Path l x (i :: p)
theorem Path.key {l : List T_Event} {x : Int} {i : Nat} {p : List Nat} (h : Path l x (i :: p)) : fi l x = i ∧ ∃ e, l[i]? = some e ∧ e.Key = x := by
 have : fi l x = i := by cases h <;> assumption
 refine ⟨this, ?_⟩
 rcases fi_cases l x with ⟨j, e, h1, h2, h3⟩ | h1
 ·rw [this] at h1
  have : i = j := by omega
  subst this
  exact ⟨e, h2, h3⟩
 ·rw [this] at h1; omega
theorem Path.det {l : List T_Event} : ∀ {p q : List Nat} {x : Int}, Path l x p → Path l x q → p = q := by
 intro p q x h
 induction h generalizing q with
 | last h he hk =>
  intro h'
  cases h' with
  | last h2 he2 hk2 => rw [h] at h2; congr 1; omega
  | step h2 he2 hk2 _ _ =>
   rw [h] at h2
   have := Int.ofNat.inj h2; subst this
   rw [he] at he2; cases he2; exact absurd hk hk2
 | step h he hk hy hp ih =>
  intro h'
  cases h' with
  | last h2 he2 hk2 =>
   rw [h] at h2
   have := Int.ofNat.inj h2; subst this
   rw [he] at he2; cases he2; exact absurd hk2 hk
  | step h2 he2 hk2 hy2 hp2 =>
   rw [h] at h2
   have := Int.ofNat.inj h2; subst this
   rw [he] at he2; cases he2
   rw [hy] at hy2; cases hy2
   rw [ih hp2]
theorem Path.tail {l : List T_Event} : ∀ {p : List Nat} {x : Int} {i : Nat}, Path l x p → i ∈ p → ∃ z a b, p = a ++ i :: b ∧ Path l z (i :: b) := by
 intro p x i h
 induction h with
 | last h he hk =>
  intro hi
  have := List.mem_singleton.1 hi
  subst this
  exact ⟨_, [], [], rfl, .last h he hk⟩
 | step h he hk hy hp ih =>
  intro hi
  rcases List.mem_cons.1 hi with rfl | hi
  ·exact ⟨_, [], _, rfl, .step h he hk hy hp⟩
  ·obtain ⟨z, a, b, h1, h2⟩ := ih hi
   exact ⟨z, _ :: a, b, by rw [h1]; rfl, h2⟩
theorem Path.nodup {l : List T_Event} : ∀ {p : List Nat} {x : Int}, Path l x p → p.Nodup := by
 intro p x h
 induction h with
 | last h he hk => simp
 | step h he hk hy hp ih =>
  rename_i x y i e p
  refine List.nodup_cons.2 ⟨fun hi => ?_, ih⟩
  obtain ⟨z, a, b, h1, h2⟩ := hp.tail hi
  have hx := (Path.step h he hk hy hp).key.2
  obtain ⟨e1, h3, h4⟩ := hx
  obtain ⟨e2, h5, h6⟩ := h2.key.2
  rw [h3] at h5; cases h5
  have hzx : z = x := by rw [← h6, h4]
  subst hzx
  have := h2.det (Path.step h he hk hy hp)
  have e3 := congrArg List.length h1
  simp only [List.cons.injEq, true_and] at this
  rw [this] at e3
  simp at e3
  omega
theorem Path.lt {l : List T_Event} : ∀ {p : List Nat} {x : Int}, Path l x p → ∀ i ∈ p, i < l.length := by
 intro p x h i hi
 obtain ⟨z, a, b, _, h2⟩ := h.tail hi
 obtain ⟨e, h3, _⟩ := h2.key.2
 exact (List.getElem?_eq_some_iff.1 h3).1
theorem Ev.andN {f g : Nat → Option Bool} {p q : Bool} (h : Ev f p) (h' : Ev g q) : Ev (fun k => (f k).bind fun r => cond (!r) (some false) (g k)) (p && q) := by
 refine Ev.bind h ?_
 cases p with
 | true => simpa using h'
 | false => exact Ev.pure _
theorem Ev.andY {f g : Nat → Option Bool} {p q : Bool} (h : Ev f p) (h' : Ev g q) : Ev (fun k => (f k).bind fun r => cond r (g k) (some false)) (p && q) := by
 refine Ev.bind h ?_
 cases p with
 | true => simpa using h'
 | false => exact Ev.pure _
theorem Ev.andX {f g : Nat → Option Bool} {p q : Bool} (h : Ev f p) (h' : Ev g q) : Ev (fun k => (f k).bind fun r => cond r (some false) (g k)) (!p && q) := by
 refine Ev.bind h ?_
 cases p with
 | false => simpa using h'
 | true => exact Ev.pure _
theorem Ev.andC {g : Nat → Option Bool} {c q : Bool} (h' : Ev g q) : Ev (fun k => cond c (some false) (g k)) (!c && q) := by
 cases c with
 | false => simpa using h'
 | true => exact Ev.pure _
theorem Ev.andC' {g : Nat → Option Bool} {c q : Bool} (h' : Ev g q) : Ev (fun k => cond (!c) (some false) (g k)) (c && q) := by
 cases c with
 | true => simpa using h'
 | false => exact Ev.pure _
theorem Ev.andD {g : Nat → Option Bool} {c q : Bool} (h' : Ev g q) : Ev (fun k => cond c (g k) (some false)) (c && q) := by
 cases c with
 | true => simpa using h'
 | false => exact Ev.pure _
theorem Ev.fin {f : Nat → Option Bool} {p : Bool} (h : Ev f p) : Ev (fun k => (f k).bind fun r => some r) p := Ev.bind h (Ev.pure _)
theorem Ev.allL {α : Type} {xs : List α} {L : Nat → Int → Option Bool} {p : α → Bool} {c : Bool} (h0 : Ev (fun k => L (k + 1) (xs.length : Int)) c)
  (hs : ∀ (i : Nat) (b : α) (r : Bool), xs[i]? = some b → i < xs.length → Ev (fun k => L k ((i + 1 : Nat) : Int)) r → Ev (fun k => L (k + 1) (i : Int)) (p b && r)) : Ev (fun k => L k 0) (xs.all p && c) :=
 Ev.for (xs := xs) (L := fun k (_ : Unit) i => L k i) (f := fun l _ => l.all p && c) (fun _ => by simpa using h0) (fun i b _ hb hi h => by
  rw [List.all_cons, Bool.and_assoc]
  exact hs i b _ hb hi (h ())) ()
theorem Ev.anyL {α : Type} {xs : List α} {L : Nat → Int → Option Bool} {p : α → Bool} (h0 : Ev (fun k => L (k + 1) (xs.length : Int)) false)
  (hs : ∀ (i : Nat) (b : α) (r : Bool), xs[i]? = some b → i < xs.length → Ev (fun k => L k ((i + 1 : Nat) : Int)) r → Ev (fun k => L (k + 1) (i : Int)) (p b || r)) : Ev (fun k => L k 0) (xs.any p) :=
 Ev.for (xs := xs) (L := fun k (_ : Unit) i => L k i) (f := fun l _ => l.any p) (fun _ => by simpa using h0) (fun i b _ hb hi h => by
  rw [List.any_cons]
  exact hs i b _ hb hi (h ())) ()
/-- All, each with what is ahead of it. -/
def allI {α : Type} (g : Nat → α → Bool) : Nat → List α → Bool
 | _, [] => true
 | i, x :: xs => g i x && allI g (i + 1) xs
theorem Ev.allI {α : Type} {xs : List α} {L : Nat → Int → Option Bool} {g : Nat → α → Bool} {c : Bool} (h0 : Ev (fun k => L (k + 1) (xs.length : Int)) c)
  (hs : ∀ (i : Nat) (b : α) (r : Bool), xs[i]? = some b → i < xs.length → Ev (fun k => L k ((i + 1 : Nat) : Int)) r → Ev (fun k => L (k + 1) (i : Int)) (g i b && r)) : Ev (fun k => L k 0) (M.allI g 0 xs && c) := by
 have := Ev.for (xs := xs) (L := fun k (_ : Unit) i => L k i) (f := fun l _ => M.allI g (xs.length - l.length) l && c) (fun _ => by simpa [M.allI] using h0) (fun i b _ hb hi h => by
  have e : xs.length - (b :: xs.drop (i + 1)).length = i := by simp; omega
  have e2 : xs.length - (xs.drop (i + 1)).length = i + 1 := by simp; omega
  rw [e]
  simp only [M.allI]
  rw [Bool.and_assoc]
  refine hs i b _ hb hi ?_
  have := h ()
  rwa [e2] at this) ()
 simpa using this
theorem idxAny {α : Type} {p : α → Bool} {xs : List α} : decide (firstOf p (fun j => (j : Int)) (-1) 0 xs ≥ 0) = xs.any p := by
 rcases firstOf_some (p := p) (g := fun j => (j : Int)) (e := -1) (i := 0) (xs := xs) with ⟨j, b, h1, h2, h3⟩ | ⟨h1, h2⟩
 ·rw [h3, List.any_eq_true.2 ⟨b, List.mem_of_getElem? h1, h2⟩]; simp
 ·rw [h2]
  have : xs.any p = false := by rw [List.any_eq_false]; intro x hx; rw [h1 x hx]; simp
  rw [this]; rfl
theorem wPrin (k : Nat) (x : Int) : S_l5Principal k x = some (isIn x 0 5) := by
 unfold S_l5Principal isIn
 by_cases h : x ≥ 0
 ·rw [decide_eq_true h]; simp only [cond_true]
  congr 1
  exact decide_eq_decide.2 ⟨fun h' => ⟨h, by omega⟩, fun h' => by omega⟩
 ·rw [decide_eq_false h]; simp only [cond_false]
  rw [decide_eq_false (by omega)]
theorem iPrin (k : Nat) (x : Int) : I_isPrincipal k x = some (isIn x 0 5) := by simp only [I_isPrincipal, iIn, Option.bind_some]
theorem iNon (k : Nat) (x : Int) : I_isNonce k x = some (isIn x 0 1000000) := by simp only [I_isNonce, iIn, Option.bind_some]
theorem iKeyI (k : Nat) (x : Int) : I_isKey k x = some (isIn x 1 1000000) := by simp only [I_isKey, iIn, Option.bind_some]
theorem iSvc (k : Nat) (x : Int) : I_isService k x = some (isIn x 0 2) := by simp only [I_isService, iIn, Option.bind_some]
theorem iRlm (k : Nat) (x : Int) : I_isRealm k x = some (isIn x 0 2) := by simp only [I_isRealm, iIn, Option.bind_some]
theorem iTim (k : Nat) (x : Int) : I_isTime k x = some (isIn x 0 100000) := by simp only [I_isTime, iIn, Option.bind_some]
def forB (x : Int) : Bool := isIn x 0 2 || isIn x 10 12
theorem condOr {a b : Bool} : (cond a (some true) (some b)) = some (a || b) := by cases a <;> rfl
theorem sFor (k : Nat) (x : Int) : S_l5Service k x = some (forB x) := by simp only [S_l5Service, sIn, Option.bind_some, condOr, forB]
def i64 (x : Int) : Prop := -9223372036854775808 ≤ x ∧ x ≤ 9223372036854775807
theorem wkFor (k : Nat) {x : Int} (h : i64 x) : I_isFor k x = some (forB x) := by
 simp only [I_isFor, iSvc, iRlm, Option.bind_some, condOr, forB]
 congr 1
 unfold i64 at h
 have : isIn (IntKind.i64.wrap (x - 10)) 0 2 = isIn x 10 12 := by
  by_cases h2 : x - 10 < -9223372036854775808
  ·have e : IntKind.i64.wrap (x - 10) = x - 10 + 18446744073709551616 := by
    unfold IntKind.wrap
    simp [IntKind.signed, IntKind.bits]
    omega
   rw [e]; unfold isIn
   rw [decide_eq_false (by omega), decide_eq_false (by omega)]
  ·rw [wid (by omega) (by omega)]; unfold isIn
   exact decide_eq_decide.2 (by omega)
 rw [this]
def waitB (x : T_Wait) : Bool := cond (!x.On) ((x.On == false) && ((x.Nonce == (0 : Int)) && ((x.Key == (0 : Int)) && ((x.Client == (0 : Int)) && true)))) (isIn x.Nonce 0 1000000 && (isIn x.Key 1 1000000 && isIn x.Client 0 5))
theorem condF' {a b : Bool} : cond a (some b) (some false) = some (a && b) := by cases a <;> rfl
theorem condB {a b : Bool} : cond a b false = (a && b) := by cases a <;> rfl
theorem condS {α : Type} {a : Bool} {b c : α} : cond a (some b) (some c) = some (cond a b c) := by cases a <;> rfl
theorem sWait (k : Nat) (x : T_Wait) : S_l10WaitOk k x = some (waitB x) := by simp only [S_l10WaitOk, sIn, wPrin, Option.bind_some, condS, waitB, condB]
theorem iWait (k : Nat) (x : T_Wait) : I_waitOk k x = some (waitB x) := by simp only [I_waitOk, iNon, iKeyI, iPrin, Option.bind_some, condS, waitB, condB]
def restB (x : T_Rest) : Bool := isIn x.Servers 0 7 && (isIn x.Ops 0 255 && isIn x.End 0 100000)
theorem sRest (k : Nat) (x : T_Rest) : S_RestOk k x = some (restB x) := by simp only [S_RestOk, sIn, Option.bind_some, condF', restB]
theorem iRest (k : Nat) (x : T_Rest) : I_RestOk k x = some (restB x) := by simp only [I_RestOk, iIn, iTim, Option.bind_some, condF', restB]
def credB (x : T_Cred) : Bool := isIn x.Owner 0 5 && (isIn x.Client 0 5 && (forB x.Service && (isIn x.Key 1 1000000 && (restB x.Rest && tmOk x.Ticket))))
theorem sCred {x : T_Cred} (h : x.Ticket.length ≤ 1048576) : Ev (fun k => S_CredOk k x) (credB x) := by
 simp only [S_CredOk, wPrin, sFor, sIn, sRest, Option.bind_some]
 exact Ev.andD (Ev.andD (Ev.andD (Ev.andD (Ev.andD (Ev.fin (sTermOk _ h))))))
theorem iCred {x : T_Cred} (h : x.Ticket.length ≤ 1048576) (h2 : i64 x.Service) : Ev (fun k => I_CredOk k x) (credB x) := by
 simp only [I_CredOk, iPrin, wkFor _ h2, iKeyI, iRest, Option.bind_some]
 exact Ev.andD (Ev.andD (Ev.andD (Ev.andD (Ev.andD (Ev.fin (iTermOk _ h))))))
def authB (x : T_Auth) : Bool := isIn x.Client 0 5 && (isIn x.Time 0 100000 && isIn x.Seq 0 1000000)
theorem sAuth (k : Nat) (x : T_Auth) : S_l5AuthOk k x = some (authB x) := by simp only [S_l5AuthOk, sIn, wPrin, Option.bind_some, condF', authB]
theorem iAuth (k : Nat) (x : T_Auth) : I_authOk k x = some (authB x) := by simp only [I_authOk, iIn, iPrin, iTim, Option.bind_some, condF', authB]
def sameA (b x : T_Auth) : Bool := (b.Client == x.Client) && ((b.Time == x.Time) && ((b.Seq == x.Seq) && true))
theorem sameA_iff {b x : T_Auth} : sameA b x = true ↔ b = x := by
 obtain ⟨b1, b2, b3⟩ := b
 obtain ⟨x1, x2, x3⟩ := x
 simp [sameA]
theorem sameA_comm {b x : T_Auth} : sameA b x = sameA x b := by
 rw [Bool.eq_iff_iff, sameA_iff, sameA_iff]; exact eq_comm
theorem sSaw {l : List T_Auth} (x : T_Auth) (hl : l.length ≤ 1048576) : Ev (fun k => S_l7Saw k l x) (l.any fun b => sameA b x) := by
 simp only [S_l7Saw]
 refine Ev.anyL (xs := l) (L := fun k i => S_l7Saw.l2 k l i x) (by simp only [S_l7Saw.l2, ltD0, cond_false]; exact Ev.pure _) (fun i b r hb hi hr => ?_)
 simp only [S_l7Saw.l2, ltD hi, cond_true]
 refine Ev.at? hb ?_
 rw [wid1 (by omega)]
 refine Ev.ite (fun hc => ?_) (fun hc => ?_)
 ·have : sameA b x = true := hc
  rw [this]; exact Ev.pure _
 ·have : sameA b x = false := hc
  rw [this]; simpa using hr
theorem iSaw {l : List T_Auth} (x : T_Auth) (hl : l.length ≤ 1048576) : Ev (fun k => V_Contains_Auth k l x) (l.any fun b => sameA b x) := by
 simp only [V_Contains_Auth, V_Index_Auth]
 rw [← idxAny]
 refine Ev.bind ?_ (Ev.pure _)
 refine Ev.find (xs := l) (L := fun k i => V_Index_Auth.l2 k l (l.length : Int) i x) (by simp only [V_Index_Auth.l2, ltD0, cond_false]; exact Ev.pure _) (fun i b r hb hi h1 h2 => ?_)
 simp only [V_Index_Auth.l2, ltD hi, cond_true]
 refine Ev.at? hb ?_
 rw [wid1 (by omega)]
 refine Ev.ite (fun hc => ?_) (fun hc => ?_)
 ·have : sameA x b = true := hc
  rw [h1 (by rw [sameA_comm]; exact this)]; exact Ev.pure _
 ·have : sameA x b = false := hc
  exact h2 (by rw [sameA_comm]; exact this)
def cacheB (c : T_Cache) : Bool := allI (fun i x => authB x && !((c.Seen.take i).any fun b => sameA b x)) 0 c.Seen && (isIn c.Quiet (-1) 200000 && decide (c.Seen.length ≤ 6))
theorem sCache {c : T_Cache} (h : c.Seen.length ≤ 1048576) : Ev (fun k => S_CacheOk k c) (cacheB c) := by
 simp only [S_CacheOk, sIn, Option.bind_some]
 refine (Ev.andC (Ev.andC (Ev.allI (xs := c.Seen) (L := fun k i => S_CacheOk.l2 k i c) (c := true) (g := fun i x => authB x && !((c.Seen.take i).any fun b => sameA b x)) (by simp only [S_CacheOk.l2, ltD0, cond_false]; exact Ev.pure _) (fun i b r hb hi hr => ?_)))).to ?_
 ·simp only [S_CacheOk.l2, ltD hi, cond_true, partI (Nat.le_of_lt hi), sAuth, Option.bind_some]
  refine Ev.at? hb ?_
  rw [wid1 (by omega), Bool.and_assoc]
  refine Ev.andC' (Ev.at? hb (Ev.andX (sSaw b (by rw [List.length_take]; omega)) hr))
 ·unfold cacheB
  have e : (!decide ((c.Seen.length : Int) > 6)) = decide (c.Seen.length ≤ 6) := by rw [← decide_not]; exact decide_eq_decide.2 (by omega)
  rw [e]
  simp only [Bool.not_not, Bool.and_true]
  ac_rfl
theorem iCache {c : T_Cache} (h : c.Seen.length ≤ 1048576) : Ev (fun k => I_CacheOk k c) (cacheB c) := by
 simp only [I_CacheOk]
 refine Ev.allI (xs := c.Seen) (L := fun k i => I_CacheOk.l2 k c (c.Seen.length : Int) i) (g := fun i x => authB x && !((c.Seen.take i).any fun b => sameA b x)) ?_ (fun i b r hb hi hr => ?_)
 ·simp only [I_CacheOk.l2, ltD0, cond_false, iIn, Option.bind_some, condF']
  refine (Ev.pure _).to ?_
  congr 1; exact decide_eq_decide.2 (by omega)
 ·simp only [I_CacheOk.l2, ltD hi, cond_true, partI (Nat.le_of_lt hi), iAuth, Option.bind_some]
  refine Ev.at? hb ?_
  rw [wid1 (by omega), Bool.and_assoc]
  refine Ev.andC' (Ev.andX (iSaw b (by rw [List.length_take]; omega)) hr)
def inT (l : List (List UInt8)) (x : List UInt8) : Bool := l.any fun b => b == x
theorem sInT {l : List (List UInt8)} (x : List UInt8) (hl : l.length ≤ 1048576) : Ev (fun k => S_l3In k l x) (inT l x) := by
 simp only [S_l3In, inT]
 refine Ev.anyL (xs := l) (L := fun k i => S_l3In.l2 k l x i) (by simp only [S_l3In.l2, ltD0, cond_false]; exact Ev.pure _) (fun i b r hb hi hr => ?_)
 simp only [S_l3In.l2, ltD hi, cond_true]
 refine Ev.at? hb ?_
 rw [wid1 (by omega)]
 refine Ev.ite (fun hc => ?_) (fun hc => ?_)
 ·rw [hc]; exact Ev.pure _
 ·rw [hc]; simpa using hr
theorem iInT {l : List (List UInt8)} (x : List UInt8) (hl : l.length ≤ 1048576) : Ev (fun k => V_Contains_string k l x) (inT l x) := by
 simp only [V_Contains_string, V_Index_string, inT]
 rw [← idxAny]
 refine Ev.bind ?_ (Ev.pure _)
 refine Ev.find (xs := l) (L := fun k i => V_Index_string.l2 k l x (l.length : Int) i) (by simp only [V_Index_string.l2, ltD0, cond_false]; exact Ev.pure _) (fun i b r hb hi h1 h2 => ?_)
 simp only [V_Index_string.l2, ltD hi, cond_true]
 refine Ev.at? hb ?_
 rw [wid1 (by omega)]
 refine Ev.ite (fun hc => ?_) (fun hc => ?_)
 ·rw [h1 (by rw [eq_of_beq hc]; exact beq_self_eq_true b)]; exact Ev.pure _
 ·exact h2 (by
   rw [beq_eq_false_iff_ne] at hc ⊢
   exact fun e => hc e.symm)
/-- Numbers that rise. -/
def rB : List Int → Bool
 | [] => true
 | [_] => true
 | a :: b :: l => decide (a < b) && rB (b :: l)
theorem drop_two {l : List Int} {i : Nat} {a b : Int} (h1 : l[i - 1]? = some a) (h2 : l[i]? = some b) (hi : 0 < i) : l.drop (i - 1) = a :: b :: l.drop (i + 1) ∧ l.drop i = b :: l.drop (i + 1) := by
 obtain ⟨g1, e1⟩ := List.getElem?_eq_some_iff.1 h1
 obtain ⟨g2, e2⟩ := List.getElem?_eq_some_iff.1 h2
 have hb : l.drop i = b :: l.drop (i + 1) := by rw [List.drop_eq_getElem_cons g2, e2]
 refine ⟨?_, hb⟩
 rw [List.drop_eq_getElem_cons g1, e1, show i - 1 + 1 = i by omega, hb]
theorem iRises {l : List Int} (hl : l.length ≤ 1048576) : Ev (fun k => I_rises k l) (rB l) := by
 simp only [I_rises]
 have key : ∀ (m i : Nat), i + m = max l.length 1 → 0 < i → Ev (fun k => I_rises.l2 k l (i : Int)) (rB (l.drop (i - 1))) := by
  intro m
  induction m with
  | zero =>
   intro i hi h0
   refine Ev.succ ?_
   simp only [I_rises.l2]
   rw [decide_eq_false (by omega)]
   refine (Ev.pure _).to ?_
   have : (l.drop (i - 1)).length ≤ 1 := by rw [List.length_drop]; omega
   match l.drop (i - 1), this with
   | [], _ => rfl
   | [_], _ => rfl
  | succ m ih =>
   intro i hi h0
   obtain ⟨b, hb⟩ := atLt (xs := l) (i := i) (by omega)
   obtain ⟨a, ha⟩ := atLt (xs := l) (i := i - 1) (by omega)
   obtain ⟨e1, e2⟩ := drop_two ha hb h0
   refine Ev.succ ?_
   simp only [I_rises.l2]
   rw [decide_eq_true (by omega), show IntKind.i64.wrap ((i : Int) - 1) = ((i - 1 : Nat) : Int) by rw [wid (by omega) (by omega)]; omega, wid1 (by omega), e1]
   simp only [cond_true, rB]
   refine Ev.at? ha (Ev.at? hb ?_)
   have := ih (i + 1) (by omega) (by omega)
   rw [show i + 1 - 1 = i by omega, e2] at this
   refine (Ev.andC this).to ?_
   congr 1
   rw [← decide_not]; exact decide_eq_decide.2 (by omega)
 exact key (max l.length 1 - 1) 1 (by omega) (by omega)
def knownB (c : T_Known) : Bool := allI (fun i x => tmOk x && !inT (c.Terms.take i) x) 0 c.Terms && (c.Keys.all (fun x => isIn x 1 1000000) && (decide (c.Terms.length ≤ 60) && (decide (c.Keys.length ≤ 40) && rB c.Keys)))
def KnSm (c : T_Known) : Prop := c.Terms.length ≤ 1048576 ∧ c.Keys.length ≤ 1048576 ∧ ∀ x ∈ c.Terms, x.length ≤ 1048576
theorem iKnown {c : T_Known} (h : KnSm c) : Ev (fun k => I_KnownOk k c) (knownB c) := by
 obtain ⟨h1, h2, h3⟩ := h
 simp only [I_KnownOk]
 refine Ev.allI (xs := c.Terms) (L := fun k i => I_KnownOk.l2 k c (c.Terms.length : Int) i) (g := fun i x => tmOk x && !inT (c.Terms.take i) x) ?_ (fun i b r hb hi hr => ?_)
 ·simp only [I_KnownOk.l2, ltD0, cond_false]
  refine Ev.allL (xs := c.Keys) (L := fun k i => I_KnownOk.l4 k c (c.Keys.length : Int) i) ?_ (fun i b r hb hi hr => ?_)
  ·simp only [I_KnownOk.l4, ltD0, cond_false]
   refine (Ev.andD (Ev.andD (Ev.fin (iRises h2)))).to ?_
   congr 1
   ·exact decide_eq_decide.2 (by omega)
   ·congr 1; exact decide_eq_decide.2 (by omega)
  ·simp only [I_KnownOk.l4, ltD hi, cond_true, iKeyI, Option.bind_some]
   refine Ev.at? hb ?_
   rw [wid1 (by omega)]
   exact Ev.andC' hr
 ·simp only [I_KnownOk.l2, ltD hi, cond_true, partI (Nat.le_of_lt hi), Option.bind_some]
  refine Ev.at? hb ?_
  rw [wid1 (by omega), Bool.and_assoc]
  exact Ev.andN (iTermOk b (h3 b (List.mem_of_getElem? hb))) (Ev.andX (iInT b (by rw [List.length_take]; omega)) hr)
theorem sKeysL {c : T_Known} (h2 : c.Keys.length ≤ 1048576) : Ev (fun k => S_KnownOk.l9 k 0 c) (c.Keys.all (fun x => isIn x 1 1000000) && rB c.Keys) := by
 have key : ∀ (m i : Nat), i + m = c.Keys.length → Ev (fun k => S_KnownOk.l9 k (i : Int) c) ((c.Keys.drop i).all (fun x => isIn x 1 1000000) && rB (c.Keys.drop (i - 1))) := by
  intro m
  induction m with
  | zero =>
   intro i hi
   refine Ev.succ ?_
   simp only [S_KnownOk.l9]
   rw [decide_eq_false (by omega), List.drop_of_length_le (by omega)]
   refine (Ev.pure _).to ?_
   have : (c.Keys.drop (i - 1)).length ≤ 1 := by rw [List.length_drop]; omega
   match c.Keys.drop (i - 1), this with
   | [], _ => rfl
   | [_], _ => rfl
  | succ m ih =>
   intro i hi
   obtain ⟨b, hb⟩ := atLt (xs := c.Keys) (i := i) (by omega)
   have hd : c.Keys.drop i = b :: c.Keys.drop (i + 1) := by
    obtain ⟨g1, g2⟩ := List.getElem?_eq_some_iff.1 hb
    rw [List.drop_eq_getElem_cons g1, g2]
   have hn := ih (i + 1) (by omega)
   rw [show i + 1 - 1 = i by omega] at hn
   refine Ev.succ ?_
   simp only [S_KnownOk.l9, S_KnownOk.j10, sIn, Option.bind_some]
   rw [decide_eq_true (by omega), wid1 (by omega)]
   simp only [cond_true]
   refine Ev.at? hb ?_
   by_cases h0 : 0 < i
   ·obtain ⟨a, ha⟩ := atLt (xs := c.Keys) (i := i - 1) (by omega)
    obtain ⟨e1, e2⟩ := drop_two ha hb h0
    rw [decide_eq_true (by omega), show IntKind.i64.wrap ((i : Int) - 1) = ((i - 1 : Nat) : Int) by rw [wid (by omega) (by omega)]; omega]
    simp only [cond_true]
    refine (Ev.andC' (Ev.at? ha (Ev.at? hb (Ev.andC hn)))).to ?_
    rw [e1, e2]
    simp only [rB, List.all_cons]
    have e : (!decide (a ≥ b)) = decide (a < b) := by rw [← decide_not]; exact decide_eq_decide.2 (by omega)
    rw [e]
    ac_rfl
   ·have : i = 0 := by omega
    subst this
    rw [decide_eq_false (by omega)]
    simp only [cond_false]
    refine (Ev.andC' hn).to ?_
    rw [hd]
    simp only [List.all_cons, Nat.zero_sub]
    rw [Bool.and_assoc, ← hd]
 exact (key c.Keys.length 0 (by omega)).to (by simp)
theorem sKnown {c : T_Known} (h : KnSm c) : Ev (fun k => S_KnownOk k c) (knownB c) := by
 obtain ⟨h1, h2, h3⟩ := h
 simp only [S_KnownOk]
 refine (Ev.andC (Ev.andC (Ev.allI (xs := c.Terms) (L := fun k i => S_KnownOk.l2 k i c) (c := c.Keys.all (fun x => isIn x 1 1000000) && rB c.Keys) (g := fun i x => tmOk x && !inT (c.Terms.take i) x) ?_ (fun i b r hb hi hr => ?_)))).to ?_
 ·simp only [S_KnownOk.l2, ltD0, cond_false]
  exact sKeysL h2
 ·simp only [S_KnownOk.l2, ltD hi, cond_true, partI (Nat.le_of_lt hi), Option.bind_some]
  refine Ev.at? hb ?_
  rw [wid1 (by omega), Bool.and_assoc]
  exact Ev.andN (sTermOk b (h3 b (List.mem_of_getElem? hb))) (Ev.at? hb (Ev.andX (sInT b (by rw [List.length_take]; omega)) hr))
 ·unfold knownB
  have e1 : (!decide ((c.Terms.length : Int) > 60)) = decide (c.Terms.length ≤ 60) := by rw [← decide_not]; exact decide_eq_decide.2 (by omega)
  have e2 : (!decide ((c.Keys.length : Int) > 40)) = decide (c.Keys.length ≤ 40) := by rw [← decide_not]; exact decide_eq_decide.2 (by omega)
  rw [e1, e2]
  ac_rfl
def allB (l : List Int) (m : Nat) : Bool := l.all (fun x => isIn x 0 2) && decide (l.length ≤ m)
theorem sAll3 {l : List Int} (m : Nat) (hl : l.length ≤ 1048576) : Ev (fun k => S_l5All k l (m : Int) 3) (allB l m) := by
 simp only [S_l5All]
 refine (Ev.andC (Ev.allL (xs := l) (L := fun k i => S_l5All.l2 k l 3 i) (p := fun x => isIn x 0 2) (c := true) (by simp only [S_l5All.l2, ltD0, cond_false]; exact Ev.pure _) (fun i b r hb hi hr => ?_))).to ?_
 ·simp only [S_l5All.l2, ltD hi, cond_true]
  rw [wid1 (by omega)]
  refine (Ev.at? hb (Ev.andC (Ev.at? hb (Ev.andC hr)))).to ?_
  rw [← Bool.and_assoc]
  congr 1
  rw [← decide_not, ← decide_not, ← Bool.decide_and]
  exact decide_eq_decide.2 (by omega)
 ·unfold allB
  have e : (!decide ((l.length : Int) > (m : Int))) = decide (l.length ≤ m) := by rw [← decide_not]; exact decide_eq_decide.2 (by omega)
  rw [e, Bool.and_true, Bool.and_comm]
theorem iAllR {l : List Int} (m : Nat) (hl : l.length ≤ 1048576) : Ev (fun k => I_areAll__impl_isRealm k l (m : Int)) (allB l m) := by
 simp only [I_areAll__impl_isRealm, allB]
 refine Ev.allL (xs := l) (L := fun k i => I_areAll__impl_isRealm.l2 k l (m : Int) (l.length : Int) i) (by
  simp only [I_areAll__impl_isRealm.l2, ltD0, cond_false]
  refine (Ev.pure _).to (decide_eq_decide.2 (by omega))) (fun i b r hb hi hr => ?_)
 simp only [I_areAll__impl_isRealm.l2, ltD hi, cond_true, iRlm, Option.bind_some]
 rw [wid1 (by omega)]
 exact Ev.at? hb (Ev.andC' hr)
theorem iAllS {l : List Int} (m : Nat) (hl : l.length ≤ 1048576) : Ev (fun k => I_areAll__impl_isService k l (m : Int)) (allB l m) := by
 simp only [I_areAll__impl_isService, allB]
 refine Ev.allL (xs := l) (L := fun k i => I_areAll__impl_isService.l2 k l (m : Int) (l.length : Int) i) (by
  simp only [I_areAll__impl_isService.l2, ltD0, cond_false]
  refine (Ev.pure _).to (decide_eq_decide.2 (by omega))) (fun i b r hb hi hr => ?_)
 simp only [I_areAll__impl_isService.l2, ltD hi, cond_true, iSvc, Option.bind_some]
 rw [wid1 (by omega)]
 exact Ev.at? hb (Ev.andC' hr)
def accB (n : Nat) (a : T_Accept) : Bool := isIn a.Server 0 2 && (isIn a.Client 0 5 && (isIn a.Leaks 0 n && (allB a.Path 6 && allB a.Via 4)))
theorem iAcc {a : T_Accept} (n : Nat) (h1 : a.Path.length ≤ 1048576) (h2 : a.Via.length ≤ 1048576) : Ev (fun k => I_acceptOk k a (n : Int)) (accB n a) := by
 simp only [I_acceptOk, iSvc, iPrin, iIn, Option.bind_some]
 exact Ev.andD (Ev.andD (Ev.andD (Ev.andY (iAllR 6 h1) (Ev.fin (iAllS 4 h2)))))
structure WkSm (w : T_World) : Prop where
 cfg : CfgSm w.Config
 net : w.Net.length ≤ 1048576 ∧ ∀ x ∈ w.Net, x.length ≤ 1048576
 known : KnSm w.Known
 waits : w.Waits.length ≤ 1048576
 creds : w.Creds.length ≤ 1048576 ∧ ∀ x ∈ w.Creds, x.Ticket.length ≤ 1048576 ∧ i64 x.Service
 caches : w.Caches.length ≤ 1048576 ∧ ∀ x ∈ w.Caches, x.Seen.length ≤ 1048576
 accepts : w.Accepts.length ≤ 1048576 ∧ ∀ x ∈ w.Accepts, x.Path.length ≤ 1048576 ∧ x.Via.length ≤ 1048576
def lensB (w : T_World) : Bool := decide (w.Waits.length = 6) && (decide (w.Creds.length ≤ 30) && (decide (w.Caches.length = 3) && (decide (w.Log.length ≤ 40) && (decide (w.Accepts.length ≤ 40) && decide (w.Leaked.length ≤ 40)))))
def worldB (w : T_World) : Bool := w.Waits.all waitB && (w.Creds.all credB && (w.Caches.all cacheB && (w.Accepts.all (accB w.Leaked.length) && (w.Net.all tmOk && (decide (w.Net.length ≤ 50) && (cfgOk w.Config && (isIn w.Now 0 100000 && (isIn w.Fresh 101 1000000 && (knownB w.Known && lensB w)))))))))
theorem iNetL {l : List (List UInt8)} (h : l.length ≤ 1048576) (h2 : ∀ x ∈ l, x.length ≤ 1048576) : Ev (fun k => V_ContainsFunc_string__impl_WorldOk_1 k l) (!l.all tmOk) := by
 simp only [V_ContainsFunc_string__impl_WorldOk_1, V_IndexFunc_string__impl_WorldOk_1]
 have e : (!l.all tmOk) = l.any fun x => !tmOk x := by
  rw [List.all_eq_not_any_not]; simp
 rw [e, ← idxAny]
 refine Ev.bind ?_ (Ev.pure _)
 refine Ev.find (xs := l) (L := fun k i => V_IndexFunc_string__impl_WorldOk_1.l2 k l (l.length : Int) i) (by simp only [V_IndexFunc_string__impl_WorldOk_1.l2, ltD0, cond_false]; exact Ev.pure _) (fun i b r hb hi g1 g2 => ?_)
 simp only [V_IndexFunc_string__impl_WorldOk_1.l2, ltD hi, cond_true, I_WorldOk_1]
 refine Ev.at? hb (Ev.bind (Ev.bind (iTermOk b (h2 b (List.mem_of_getElem? hb))) (Ev.pure _)) ?_)
 rw [wid1 (by omega)]
 refine Ev.ite (fun hc => ?_) (fun hc => ?_)
 ·rw [g1 hc]; exact Ev.pure _
 ·exact g2 hc
theorem iWorld {w : T_World} (h : WkSm w) : Ev (fun k => I_WorldOk k w) (worldB w) := by
 obtain ⟨s1, s2, s3, s4, s5, s6, s7⟩ := h
 simp only [I_WorldOk, worldB]
 refine Ev.allL (xs := w.Waits) (L := fun k i => I_WorldOk.l2 k w (w.Waits.length : Int) i) ?_ (fun i b r hb hi hr => ?_)
 rotate_left
 ·simp only [I_WorldOk.l2, ltD hi, cond_true, iWait, Option.bind_some]
  rw [wid1 (by omega)]
  exact Ev.at? hb (Ev.andC' hr)
 simp only [I_WorldOk.l2, ltD0, cond_false]
 refine Ev.allL (xs := w.Creds) (L := fun k i => I_WorldOk.l4 k w (w.Creds.length : Int) i) ?_ (fun i b r hb hi hr => ?_)
 rotate_left
 ·simp only [I_WorldOk.l4, ltD hi, cond_true]
  rw [wid1 (by omega)]
  have hx := s5.2 b (List.mem_of_getElem? hb)
  exact Ev.at? hb (Ev.andN (iCred hx.1 hx.2) hr)
 simp only [I_WorldOk.l4, ltD0, cond_false]
 refine Ev.allL (xs := w.Caches) (L := fun k i => I_WorldOk.l6 k w (w.Caches.length : Int) i) ?_ (fun i b r hb hi hr => ?_)
 rotate_left
 ·simp only [I_WorldOk.l6, ltD hi, cond_true]
  rw [wid1 (by omega)]
  exact Ev.at? hb (Ev.andN (iCache (s6.2 b (List.mem_of_getElem? hb))) hr)
 simp only [I_WorldOk.l6, ltD0, cond_false]
 refine Ev.allL (xs := w.Accepts) (L := fun k i => I_WorldOk.l8 k w (w.Accepts.length : Int) i) ?_ (fun i b r hb hi hr => ?_)
 rotate_left
 ·simp only [I_WorldOk.l8, ltD hi, cond_true]
  rw [wid1 (by omega)]
  have hx := s7.2 b (List.mem_of_getElem? hb)
  exact Ev.at? hb (Ev.andN (iAcc _ hx.1 hx.2) hr)
 simp only [I_WorldOk.l8, ltD0, cond_false, iTim, iIn, Option.bind_some]
 refine (Ev.andX (iNetL s2.1 s2.2) (Ev.andC (Ev.andY (iConfigOk s1) (Ev.andD (Ev.andD (Ev.andY (iKnown s3) (Ev.andD (Ev.andD (Ev.andD (Ev.andD (Ev.andD (Ev.pure _)))))))))))).to ?_
 have e1 : (!decide ((w.Net.length : Int) > 50)) = decide (w.Net.length ≤ 50) := by rw [← decide_not]; exact decide_eq_decide.2 (by omega)
 rw [Bool.not_not, e1]
 unfold lensB
 have e2 : ((w.Waits.length : Int) == 6) = decide (w.Waits.length = 6) := by rw [Bool.eq_iff_iff]; simp; omega
 have e3 : ((w.Caches.length : Int) == 3) = decide (w.Caches.length = 3) := by rw [Bool.eq_iff_iff]; simp; omega
 rw [e2, e3]
 have e4 : ∀ (n m : Nat), decide ((n : Int) ≤ (m : Int)) = decide (n ≤ m) := fun n m => decide_eq_decide.2 (by omega)
 rw [← e4 w.Creds.length 30, ← e4 w.Log.length 40, ← e4 w.Accepts.length 40, ← e4 w.Leaked.length 40]
 rfl
theorem sWorld {w : T_World} (h : WkSm w) : Ev (fun k => S_WorldOk k w) (worldB w) := by
 obtain ⟨s1, s2, s3, s4, s5, s6, s7⟩ := h
 have l10 : Ev (fun k => S_WorldOk.l10 k 0 w) (w.Accepts.all (accB w.Leaked.length) && true) := by
  refine Ev.allL (xs := w.Accepts) (L := fun k i => S_WorldOk.l10 k i w) (by simp only [S_WorldOk.l10, ltD0, cond_false]; exact Ev.pure _) (fun i b r hb hi hr => ?_)
  simp only [S_WorldOk.l10, ltD hi, cond_true, sIn, wPrin, Option.bind_some]
  rw [wid1 (by omega)]
  have hx := s7.2 b (List.mem_of_getElem? hb)
  refine (Ev.at? hb (Ev.andC' (Ev.andC' (Ev.andC' (Ev.andN (sAll3 6 hx.1) (Ev.andN (sAll3 4 hx.2) hr)))))).to ?_
  unfold accB; ac_rfl
 have l8 : Ev (fun k => S_WorldOk.l8 k 0 w) (w.Caches.all cacheB && (w.Accepts.all (accB w.Leaked.length) && true)) := by
  refine Ev.allL (xs := w.Caches) (L := fun k i => S_WorldOk.l8 k i w) (by simp only [S_WorldOk.l8, ltD0, cond_false]; exact l10) (fun i b r hb hi hr => ?_)
  simp only [S_WorldOk.l8, ltD hi, cond_true]
  rw [wid1 (by omega)]
  exact Ev.at? hb (Ev.andN (sCache (s6.2 b (List.mem_of_getElem? hb))) hr)
 have l6 : Ev (fun k => S_WorldOk.l6 k 0 w) (w.Creds.all credB && (w.Caches.all cacheB && (w.Accepts.all (accB w.Leaked.length) && true))) := by
  refine Ev.allL (xs := w.Creds) (L := fun k i => S_WorldOk.l6 k i w) (by simp only [S_WorldOk.l6, ltD0, cond_false]; exact l8) (fun i b r hb hi hr => ?_)
  simp only [S_WorldOk.l6, ltD hi, cond_true]
  rw [wid1 (by omega)]
  exact Ev.at? hb (Ev.andN (sCred (s5.2 b (List.mem_of_getElem? hb)).1) hr)
 have l4 : Ev (fun k => S_WorldOk.l4 k 0 w) (w.Waits.all waitB && (w.Creds.all credB && (w.Caches.all cacheB && (w.Accepts.all (accB w.Leaked.length) && true)))) := by
  refine Ev.allL (xs := w.Waits) (L := fun k i => S_WorldOk.l4 k i w) (by simp only [S_WorldOk.l4, ltD0, cond_false]; exact l6) (fun i b r hb hi hr => ?_)
  simp only [S_WorldOk.l4, ltD hi, cond_true, sWait, Option.bind_some]
  rw [wid1 (by omega)]
  exact Ev.at? hb (Ev.andC' hr)
 have l2 : Ev (fun k => S_WorldOk.l2 k 0 w) (w.Net.all tmOk && (w.Waits.all waitB && (w.Creds.all credB && (w.Caches.all cacheB && (w.Accepts.all (accB w.Leaked.length) && true))))) := by
  refine Ev.allL (xs := w.Net) (L := fun k i => S_WorldOk.l2 k i w) (by simp only [S_WorldOk.l2, ltD0, cond_false]; exact l4) (fun i b r hb hi hr => ?_)
  simp only [S_WorldOk.l2, ltD hi, cond_true]
  rw [wid1 (by omega)]
  exact Ev.at? hb (Ev.andN (sTermOk b (s2.2 b (List.mem_of_getElem? hb))) hr)
 simp only [S_WorldOk, sIn, Option.bind_some]
 refine (Ev.andN (sConfigOk s1) (Ev.andC' (Ev.andC' (Ev.andC (Ev.andN (sKnown s3) (Ev.andC (Ev.andC (Ev.andC (Ev.andC (Ev.andC (Ev.andC l2))))))))))).to ?_
 unfold worldB lensB
 have e1 : ∀ (n m : Nat), (!decide ((n : Int) > (m : Int))) = decide (n ≤ m) := fun n m => by rw [← decide_not]; exact decide_eq_decide.2 (by omega)
 have e2 : (!((w.Waits.length : Int) != 6)) = decide (w.Waits.length = 6) := by rw [Bool.eq_iff_iff]; simp; omega
 have e3 : (!((w.Caches.length : Int) != 3)) = decide (w.Caches.length = 3) := by rw [Bool.eq_iff_iff]; simp; omega
 rw [← e1 w.Net.length 50, ← e1 w.Creds.length 30, ← e1 w.Log.length 40, ← e1 w.Accepts.length 40, ← e1 w.Leaked.length 40, ← e2, ← e3, Bool.and_true]
 ac_rfl
def KB (l : List Int) : Prop := ∀ x ∈ l, 0 ≤ x ∧ x ≤ 39
theorem KB.map {α : Type} {f : α → Int} (h : ∀ x, 0 ≤ f x ∧ f x ≤ 39) (l : List α) : KB (l.map f) := fun x hx => by
 obtain ⟨y, _, rfl⟩ := List.mem_map.1 hx; exact h y
def sealedS (s : List UInt8) : Int × List UInt8 × Bool :=
 if tmOk s = true then match s with
  | [] => (0, [], false)
  | c :: t => if c = 115 then match dv 7 t with
   | some (n, z) => ((n : Int), t.drop z, true)
   | none => (0, [], false) else (0, [], false)
 else (0, [], false)
theorem openS_eq (s : List UInt8) (k : Int) : openS s k = if (sealedS s).2.2 = true ∧ (sealedS s).1 = k then ((sealedS s).2.1, true) else ([], false) := by
 unfold openS sealedS
 cases tmOk s with
 | false => simp
 | true =>
  cases s with
  | nil => simp
  | cons c t =>
   by_cases hc : c = 115
   ·simp only [if_true, hc]
    cases dv 7 t with
    | none => simp
    | some q => simp
   ·simp [hc]
theorem iSealed (s : List UInt8) (hs : s.length ≤ 1048576) : Ev (fun k => I_sealed k s) (sealedS s) := by
 simp only [I_sealed]
 unfold sealedS
 refine Ev.bind (iIsOf s hs 115) ?_
 cases hk : tmOk s with
 | false => exact Ev.pure _
 | true =>
  obtain ⟨c, t, n, z, rfl, hd, hm, _⟩ := tmOk_cons hk
  simp only [if_true, Bool.true_and, List.head?_cons]
  by_cases hc : c = 115
  ·subst hc
   obtain ⟨z1, z2, z3, _, _⟩ := dv_ok hd
   have hv := iVarAt ((115 : UInt8) :: t) hs 1 (by simp)
   rw [show ((115 : UInt8) :: t).drop 1 = t from rfl, hd] at hv
   simp only [BEq.rfl, Bool.not_true, cond_false, if_true, hd]
   refine Ev.bind hv ?_
   simp only
   rw [cutEnd (by simp; omega)]
   refine (Ev.pure _).to ?_
   have e : ((115 : UInt8) :: t).drop (1 + z) = t.drop z := by rw [Nat.add_comm]; rfl
   rw [e]
  ·rw [if_neg hc, show (some c == some 115) = false by simpa using hc]
   exact Ev.pure _
theorem kd_key {t : List UInt8} (h : (readKeyS t).2 = true) : tmOk t = true ∧ ∃ r, t = 107 :: r := by
 unfold readKeyS at h
 split at h
 ·rename_i hk
  obtain ⟨c, r, n, z, rfl, hd, _, _⟩ := tmOk_cons hk
  simp only at h
  split at h
  ·rename_i hc; exact ⟨hk, r, by rw [hc]⟩
  ·cases h
 ·cases h
theorem kd_list {t : List UInt8} (h : (partsS t).2 = true) : tmOk t = true ∧ ∃ r, t = 108 :: r := by
 unfold partsS at h
 split at h
 ·rename_i hk
  obtain ⟨c, r, n, z, rfl, hd, _, _⟩ := tmOk_cons hk
  simp only at h
  split at h
  ·rename_i hc; exact ⟨hk, r, by rw [hc]⟩
  ·cases h
 ·cases h
theorem kd_seal {t : List UInt8} (h : (sealedS t).2.2 = true) : tmOk t = true ∧ ∃ r, t = 115 :: r := by
 unfold sealedS at h
 split at h
 ·rename_i hk
  obtain ⟨c, r, n, z, rfl, hd, _, _⟩ := tmOk_cons hk
  simp only at h
  split at h
  ·rename_i hc; exact ⟨hk, r, by rw [hc]⟩
  ·cases h
 ·cases h
theorem is_key {r : List UInt8} (h : tmOk (107 :: r) = true) : (readKeyS (107 :: r)).2 = true := by
 obtain ⟨c, t, n, z, e, hd, _, _⟩ := tmOk_cons h
 simp only [List.cons.injEq] at e
 obtain ⟨rfl, rfl⟩ := e
 simp [readKeyS, h, hd]
theorem is_list {r : List UInt8} (h : tmOk (108 :: r) = true) : (partsS (108 :: r)).2 = true := by
 obtain ⟨c, t, n, z, e, hd, _, _⟩ := tmOk_cons h
 simp only [List.cons.injEq] at e
 obtain ⟨rfl, rfl⟩ := e
 simp [partsS, h, hd]
theorem is_seal {r : List UInt8} (h : tmOk (115 :: r) = true) : (sealedS (115 :: r)).2.2 = true := by
 obtain ⟨c, t, n, z, e, hd, _, _⟩ := tmOk_cons h
 simp only [List.cons.injEq] at e
 obtain ⟨rfl, rfl⟩ := e
 simp [sealedS, h, hd]
def sumL (l : List (List UInt8)) : Nat := (l.map List.length).sum
theorem sumL_flat (l : List (List UInt8)) : l.flatten.length = sumL l := by simp [sumL, List.length_flatten]
theorem sumL_mem {l : List (List UInt8)} {p : List UInt8} (h : p ∈ l) : p.length ≤ sumL l := by
 induction l with
 | nil => cases h
 | cons q l ih =>
  simp only [sumL, List.map_cons, List.sum_cons] at ih ⊢
  rcases List.mem_cons.1 h with rfl | h
  ·omega
  ·have := ih h; omega
theorem part_sub {t : List UInt8} {ps : List (List UInt8)} (h : partsS t = (ps, true)) : sumL ps + 2 ≤ t.length ∧ ∀ p ∈ ps, tmOk p = true := by
 obtain ⟨h1, h2, h3, h4⟩ := parts_ok h
 refine ⟨?_, h3⟩
 have e : t = 108 :: (varE ps.length ++ ps.flatten) := by
  rw [← h1]
  unfold listS
  rw [if_pos ⟨h4, List.all_eq_true.2 h3⟩]
  refine (okT_ne ?_).2
  intro hn
  unfold listS at h1
  rw [if_pos ⟨h4, List.all_eq_true.2 h3⟩, hn] at h1
  exact tmOk_ne h2 h1.symm
 rw [e]
 have := varE_pos ps.length
 simp only [List.length_cons, List.length_append, sumL_flat]; omega
theorem inner_sub {t i : List UInt8} {n : Int} (h : sealedS t = (n, i, true)) : i.length + 2 ≤ t.length ∧ tmOk i = true ∧ sealS n i = t := by
 have ho : openS t n = (i, true) := by rw [openS_eq, h]; simp
 obtain ⟨h1, h2, h3⟩ := open_of ho
 refine ⟨?_, h3, h1⟩
 unfold sealedS at h
 rw [if_pos h2] at h
 obtain ⟨c, r, m, z, rfl, hd, _, _⟩ := tmOk_cons h2
 simp only at h
 split at h
 ·rw [hd] at h
  simp only [Prod.mk.injEq] at h
  obtain ⟨z1, z2, z3, _, _⟩ := dv_ok hd
  rw [← h.2.1]
  simp only [List.length_cons, List.length_drop]; omega
 ·cases h
inductive Clo (T : List (List UInt8)) (N : List Int) : List UInt8 ⊕ Int → Prop
 | term {t : List UInt8} (h : t ∈ T) : Clo T N (.inl t)
 | key {n : Int} (h : n ∈ N) : Clo T N (.inr n)
 | read {t : List UInt8} {n : Int} (h : Clo T N (.inl t)) (e : readKeyS t = (n, true)) : Clo T N (.inr n)
 | part {t p : List UInt8} {ps : List (List UInt8)} (h : Clo T N (.inl t)) (e : partsS t = (ps, true)) (m : p ∈ ps) : Clo T N (.inl p)
 | opens {t i : List UInt8} {n : Int} (h : Clo T N (.inl t)) (e : sealedS t = (n, i, true)) (k : Clo T N (.inr n)) : Clo T N (.inl i)
structure Shut (T : List (List UInt8)) (N : List Int) (S : List UInt8 → Prop) (R : Int → Prop) : Prop where
 term : ∀ t ∈ T, S t
 key : ∀ n ∈ N, R n
 read : ∀ t n, S t → readKeyS t = (n, true) → R n
 part : ∀ t ps, S t → partsS t = (ps, true) → ∀ p ∈ ps, S p
 opens : ∀ t n i, S t → sealedS t = (n, i, true) → R n → S i
theorem Clo.sub {T : List (List UInt8)} {N : List Int} {S : List UInt8 → Prop} {R : Int → Prop} (h : Shut T N S R) {x : List UInt8 ⊕ Int} (c : Clo T N x) : match x with | .inl t => S t | .inr n => R n := by
 induction c with
 | term m => exact h.term _ m
 | key m => exact h.key _ m
 | read _ e ih => exact h.read _ _ ih e
 | part _ e m ih => exact h.part _ _ ih e _ m
 | opens _ e _ ih1 ih2 => exact h.opens _ _ _ ih1 e ih2
def subs : Nat → List UInt8 → List (List UInt8)
 | 0, t => [t]
 | d + 1, t => t :: ((partsS t).1.flatMap (subs d) ++ if (sealedS t).2.2 = true then subs d (sealedS t).2.1 else [])
theorem subs_self : ∀ (d : Nat) (t : List UInt8), t ∈ subs d t
 | 0, t => by simp [subs]
 | d + 1, t => by simp [subs]
theorem list_not_seal {t : List UInt8} (h : (partsS t).2 = true) : (sealedS t).2.2 = false := by
 cases hs : (sealedS t).2.2 with
 | false => rfl
 | true =>
  obtain ⟨_, r, e⟩ := kd_list h
  obtain ⟨_, r', e'⟩ := kd_seal hs
  rw [e] at e'; cases e'
theorem subs_len : ∀ (d : Nat) (t : List UInt8), 1 ≤ t.length → (subs d t).length ≤ t.length
 | 0, t, h => by simp [subs]; omega
 | d + 1, t, h => by
  simp only [subs, List.length_cons, List.length_append]
  have key : ∀ l : List (List UInt8), (∀ p ∈ l, 1 ≤ p.length) → (l.flatMap (subs d)).length ≤ sumL l := by
   intro l
   induction l with
   | nil => intro _; simp [sumL]
   | cons p l ih =>
    intro hl
    have h1 := subs_len d p (hl p (by simp))
    have h2 := ih fun q hq => hl q (by simp [hq])
    simp only [List.flatMap_cons, List.length_append, sumL, List.map_cons, List.sum_cons] at h2 ⊢; omega
  have hp : ∀ p, tmOk p = true → 1 ≤ p.length := fun p h => by
   have := tmOk_ne h
   cases p with
   | nil => exact absurd rfl this
   | cons => simp
  cases hl : (partsS t).2 with
  | true =>
   have e : partsS t = ((partsS t).1, true) := by rw [← hl]
   obtain ⟨s1, s2⟩ := part_sub e
   have := key _ fun p hm => hp p (s2 p hm)
   rw [list_not_seal hl]
   simp only [Bool.false_eq_true, if_false, List.length_nil]; omega
  | false =>
   rw [partsS_nil hl]
   cases hs : (sealedS t).2.2 with
   | false => simp; omega
   | true =>
    have e : sealedS t = ((sealedS t).1, (sealedS t).2.1, true) := by rw [← hs]
    obtain ⟨s1, s2, _⟩ := inner_sub e
    have := subs_len d (sealedS t).2.1 (hp _ s2)
    simp; omega
theorem subs_part : ∀ (d : Nat) (t x : List UInt8), t.length ≤ d → x ∈ subs d t → (∀ ps, partsS x = (ps, true) → ∀ p ∈ ps, p ∈ subs d t) ∧ ∀ n i, sealedS x = (n, i, true) → i ∈ subs d t
 | 0, t, x, h, hx => by
  have : t = [] := List.eq_nil_of_length_eq_zero (by omega)
  subst this
  simp only [subs, List.mem_singleton] at hx
  subst hx
  refine ⟨fun ps e => ?_, fun n i e => ?_⟩
  ·have := (part_sub e).1; simp at this
  ·have := (inner_sub e).1; simp at this
 | d + 1, t, x, h, hx => by
  simp only [subs, List.mem_cons, List.mem_append, List.mem_flatMap] at hx
  rcases hx with rfl | ⟨q, hq, hx⟩ | hx
  ·refine ⟨fun ps e p hp => ?_, fun n i e => ?_⟩
   ·simp only [subs, List.mem_cons, List.mem_append, List.mem_flatMap]
    exact .inr (.inl ⟨p, by rw [e]; exact hp, subs_self d p⟩)
   ·simp only [subs, List.mem_cons, List.mem_append, List.mem_flatMap, e]
    exact .inr (.inr (by simpa using subs_self d i))
  ·have hl : (partsS t).2 = true := by
    cases hl : (partsS t).2 with
    | true => rfl
    | false => rw [partsS_nil hl] at hq; cases hq
   have e : partsS t = ((partsS t).1, true) := by rw [← hl]
   have hle : q.length ≤ d := by
    have h1 := (part_sub e).1
    have h2 : q.length ≤ sumL (partsS t).1 := sumL_mem hq
    omega
   obtain ⟨a, b⟩ := subs_part d q x hle hx
   refine ⟨fun ps e p hp => ?_, fun n i e => ?_⟩
   ·simp only [subs, List.mem_cons, List.mem_append, List.mem_flatMap]
    exact .inr (.inl ⟨q, hq, a ps e p hp⟩)
   ·simp only [subs, List.mem_cons, List.mem_append, List.mem_flatMap]
    exact .inr (.inl ⟨q, hq, b n i e⟩)
  ·split at hx
   ·rename_i hs
    have e : sealedS t = ((sealedS t).1, (sealedS t).2.1, true) := by rw [← hs]
    have hle : (sealedS t).2.1.length ≤ d := by have h1 := (inner_sub e).1; omega
    obtain ⟨a, b⟩ := subs_part d _ x hle hx
    refine ⟨fun ps e p hp => ?_, fun n i e => ?_⟩
    ·simp only [subs, List.mem_cons, List.mem_append, List.mem_flatMap]
     exact .inr (.inr (by rw [if_pos hs]; exact a ps e p hp))
    ·simp only [subs, List.mem_cons, List.mem_append, List.mem_flatMap]
     exact .inr (.inr (by rw [if_pos hs]; exact b n i e))
   ·cases hx
def univ (T : List (List UInt8)) : List (List UInt8) := T.flatMap (subs 900)
theorem univ_len {T : List (List UInt8)} (h : ∀ t ∈ T, tmOk t = true) : (univ T).length ≤ 900 * T.length := by
 induction T with
 | nil => simp [univ]
 | cons t T ih =>
  have h1 := ih fun x hx => h x (by simp [hx])
  have h2 := h t (by simp)
  have h3 := tmOk_len h2
  have h4 : 1 ≤ t.length := by
   have := tmOk_ne h2
   cases t with
   | nil => exact absurd rfl this
   | cons => simp
  have h5 := subs_len 900 t h4
  simp only [univ, List.flatMap_cons, List.length_append, List.length_cons] at h1 ⊢; omega
theorem clo_univ {T : List (List UInt8)} {N : List Int} (h : ∀ t ∈ T, tmOk t = true) {t : List UInt8} (c : Clo T N (.inl t)) : t ∈ univ T := by
 have hs : Shut T N (fun t => t ∈ univ T) (fun _ => True) := by
  refine ⟨fun t ht => List.mem_flatMap.2 ⟨t, ht, subs_self _ _⟩, fun _ _ => trivial, fun _ _ _ _ => trivial, fun t ps ht e p hp => ?_, fun t n i ht e _ => ?_⟩
  ·obtain ⟨r, hr, hx⟩ := List.mem_flatMap.1 ht
   exact List.mem_flatMap.2 ⟨r, hr, (subs_part 900 r t (tmOk_len (h r hr)) hx).1 ps e p hp⟩
  ·obtain ⟨r, hr, hx⟩ := List.mem_flatMap.1 ht
   exact List.mem_flatMap.2 ⟨r, hr, (subs_part 900 r t (tmOk_len (h r hr)) hx).2 n i e⟩
 exact Clo.sub hs c
theorem clo_ok {T : List (List UInt8)} {N : List Int} (h : ∀ t ∈ T, tmOk t = true) {t : List UInt8} (c : Clo T N (.inl t)) : tmOk t = true := by
 have hs : Shut T N (fun t => tmOk t = true) (fun _ => True) :=
  ⟨h, fun _ _ => trivial, fun _ _ _ _ => trivial, fun t ps ht e p hp => (part_sub e).2 p hp, fun t n i ht e _ => (inner_sub e).2.1⟩
 exact Clo.sub hs c
theorem nodup_len {α : Type} [BEq α] [LawfulBEq α] : ∀ {l u : List α}, l.Nodup → (∀ x ∈ l, x ∈ u) → l.length ≤ u.length
 | [], _, _, _ => by simp
 | a :: l, u, hn, h => by
  obtain ⟨h1, h2⟩ := List.nodup_cons.1 hn
  have ha := h a (by simp)
  have := nodup_len (l := l) (u := u.erase a) h2 fun x hx => (List.mem_erase_of_ne (fun e : x = a => h1 (by rw [← e]; exact hx))).2 (h x (by simp [hx]))
  rw [List.length_erase_of_mem ha] at this
  have : 0 < u.length := List.length_pos_of_mem ha
  simp only [List.length_cons]; omega
theorem Ev.add {α : Type} {f : Nat → Option α} {r : α} (h : Ev f r) (c : Nat) : Ev (fun k => f (k + c)) r := by
 obtain ⟨n, h⟩ := h
 exact ⟨n, fun k hk => h (k + c) (by omega)⟩
theorem EvP.add {α : Type} {f : Nat → Option α} {P : α → Prop} (h : EvP f P) (c : Nat) : EvP (fun k => f (k + c)) P := by
 obtain ⟨r, h1, h2⟩ := h
 exact ⟨r, h1.add c, h2⟩
def pot (l : List (List UInt8)) : Nat := (l.map fun x => x.length - 1).sum
theorem pot_app (a b : List (List UInt8)) : pot (a ++ b) = pot a + pot b := by simp [pot]
/-- What is told of a term is there. -/
structure HdS (P : List (List UInt8)) (s : Sgt) (x : List UInt8) : Prop where
 key : ∀ n, readKeyS x = (n, true) → n ∈ s.reached
 part : ∀ ps, partsS x = (ps, true) → ∀ p ∈ ps, p ∈ s.seen
 opens : ∀ n i, sealedS x = (n, i, true) → x ∈ s.closed ∨ x ∈ P ∨ i ∈ s.seen
structure SgG (T : List (List UInt8)) (N : List Int) (s : Sgt) : Prop where
 seen : ∀ x ∈ s.seen, Clo T N (.inl x)
 reached : ∀ n ∈ s.reached, Clo T N (.inr n)
 closed : ∀ x ∈ s.closed, x ∈ s.seen ∧ (sealedS x).2.2 = true
 nodup : s.reached.Nodup
structure StpS (s s' : Sgt) (w : Nat) : Prop where
 sn : ∀ x ∈ s.seen, x ∈ s'.seen
 rc : ∀ n ∈ s.reached, n ∈ s'.reached
 cl : ∀ x ∈ s.closed, x ∈ s'.closed
 nw : ∀ x ∈ s'.seen, x ∈ s.seen ∨ HdS [] s' x
 pt : s'.seen.length + pot s'.closed ≤ s.seen.length + pot s.closed + w
 ln : s'.reached.length + s.seen.length ≤ s.reached.length + s'.seen.length
theorem StpS.hd {P : List (List UInt8)} {s s' : Sgt} {w : Nat} (h : StpS s s' w) {x : List UInt8} (hx : HdS P s x) : HdS P s' x :=
 ⟨fun n e => h.rc _ (hx.key n e), fun ps e p hp => h.sn _ (hx.part ps e p hp), fun n i e => (hx.opens n i e).imp (h.cl _) (Or.imp id (h.sn _))⟩
theorem StpS.refl {s : Sgt} : StpS s s 0 := ⟨fun _ h => h, fun _ h => h, fun _ h => h, fun _ h => .inl h, by omega, by omega⟩
theorem StpS.trans {s s' s'' : Sgt} {w w' : Nat} (h : StpS s s' w) (h' : StpS s' s'' w') : StpS s s'' (w + w') := by
 refine ⟨fun x hx => h'.sn x (h.sn x hx), fun x hx => h'.rc x (h.rc x hx), fun x hx => h'.cl x (h.cl x hx), fun x hx => ?_, ?_, ?_⟩
 ·rcases h'.nw x hx with h1 | h1
  ·rcases h.nw x h1 with h2 | h2
   ·exact .inl h2
   ·exact .inr (h'.hd h2)
  ·exact .inr h1
 ·have := h.pt; have := h'.pt; omega
 ·have := h.ln; have := h'.ln; omega
theorem insN_mem {l : List Int} {n x : Int} : x ∈ insN l n ↔ x ∈ l ∨ x = n := by
 unfold insN
 cases h : l.contains n with
 | true =>
  simp only [cond_true]
  exact ⟨.inl, fun e => e.elim id fun e => by rw [e]; simpa using h⟩
 | false => simp
theorem insN_len {l : List Int} {n : Int} : (insN l n).length ≤ l.length + 1 := by
 unfold insN
 cases l.contains n <;> simp
theorem insN_nodup {l : List Int} {n : Int} (h : l.Nodup) : (insN l n).Nodup := by
 unfold insN
 cases hc : l.contains n with
 | true => exact h
 | false =>
  simp only [cond_false]
  refine List.nodup_append.2 ⟨h, by simp, fun a ha b hb => ?_⟩
  rw [List.mem_singleton.1 hb]
  rintro rfl
  have : l.contains a = true := by simpa using ha
  rw [hc] at this; cases this
theorem not_in {l : List (List UInt8)} {t : List UInt8} (h : l.contains t = false) : t ∉ l := fun hm => by
 have : l.contains t = true := by simpa using hm
 rw [h] at this; cases this
def LkP (T : List (List UInt8)) (N : List Int) (s : Sgt) (t : List UInt8) (s' : Sgt) : Prop := StpS s s' t.length ∧ t ∈ s'.seen ∧ SgG T N s'
theorem lookL_ev {T : List (List UInt8)} {N : List Int} {ps : List (List UInt8)} {M : Nat} (hl : ps.length ≤ 1048576)
  (g : Nat → Nat → List UInt8 → Sgt → Option Sgt) (h : ∀ c, ∀ p ∈ ps, ∀ s, SgG T N s → s.seen.length + pot s.closed + p.length ≤ M → EvP (fun k => g c k p s) (LkP T N s p)) (hg : ∀ c k, g c (k + 1) = g (c + 1) k) :
  ∀ (r : List (List UInt8)) (i c : Nat) (s : Sgt), ps.drop i = r → i ≤ ps.length → SgG T N s → s.seen.length + pot s.closed + sumL r ≤ M → EvP (fun k => lookL (g c k) ps k (i : Int) s) (fun s' => StpS s s' (sumL r) ∧ (∀ p ∈ r, p ∈ s'.seen) ∧ SgG T N s') := by
 intro r
 induction r with
 | nil =>
  intro i c s hd hi hs _
  have : ps.length ≤ i := by
   have := congrArg List.length hd
   simp at this; omega
  refine EvP.succ ?_
  simp only [lookL]
  rw [decide_eq_false (by omega)]
  exact EvP.pure ⟨StpS.refl, (fun p hp => by cases hp), hs⟩
 | cons p r ih =>
  intro i c s hd hi hs hM
  have hb : ps[i]? = some p := by
   have : (ps.drop i)[0]? = some p := by rw [hd]; rfl
   rwa [List.getElem?_drop, Nat.add_zero] at this
  have hlt := (List.getElem?_eq_some_iff.1 hb).1
  have hd' : ps.drop (i + 1) = r := by rw [← List.drop_drop, hd]; rfl
  simp only [sumL, List.map_cons, List.sum_cons] at hM ih ⊢
  refine EvP.succ ?_
  simp only [lookL]
  rw [decide_eq_true (by omega), wid1 (by omega)]
  simp only [cond_true, hg]
  refine EvP.at? hb ?_
  refine EvP.bind (h (c + 1) p (List.mem_of_getElem? hb) s hs (by omega)) fun s1 ⟨a1, a2, a3⟩ => ?_
  refine (ih (i + 1) (c + 1) s1 hd' (by omega) a3 (by have := a1.pt; omega)).mono fun s2 ⟨b1, b2, b3⟩ => ⟨?_, ?_, b3⟩
  ·exact a1.trans b1
  ·intro q hq
   rcases List.mem_cons.1 hq with rfl | hq
   ·exact b1.sn _ a2
   ·exact b2 q hq
theorem at?0 {c : UInt8} {t : List UInt8} : at? (c :: t) (0 : Int) = some c := rfl
theorem pot_ge {l : List (List UInt8)} (h : ∀ x ∈ l, (sealedS x).2.2 = true) : l.length ≤ pot l := by
 induction l with
 | nil => simp
 | cons x l ih =>
  have h1 := ih fun y hy => h y (by simp [hy])
  have hx := h x (by simp)
  have e : sealedS x = ((sealedS x).1, (sealedS x).2.1, true) := by rw [← hx]
  have := (inner_sub e).1
  simp only [pot, List.map_cons, List.sum_cons, List.length_cons] at h1 ⊢; omega
theorem look_ev {T : List (List UInt8)} {N : List Int} : ∀ (n : Nat) (t : List UInt8), t.length ≤ n → tmOk t = true → Clo T N (.inl t) → ∀ s, SgG T N s → s.seen.length + pot s.closed + t.length ≤ 1000000 → EvP (fun k => Flook k t s) (LkP T N s t) := by
 intro n
 induction n with
 | zero =>
  intro t hn ht
  exact absurd (List.eq_nil_of_length_eq_zero (by omega)) (tmOk_ne ht)
 | succ n ih =>
 intro t hn ht hc s hs hM
 have hlen := tmOk_len ht
 refine EvP.succ ?_
 simp only [Flook]
 cases hsn : s.seen.contains t with
 | true =>
  simp only [cond_true]
  exact EvP.pure ⟨⟨fun _ h => h, fun _ h => h, fun _ h => h, fun _ h => .inl h, by omega, by omega⟩, by simpa using hsn, hs⟩
 | false =>
 simp only [cond_false]
 have hnot := not_in hsn
 obtain ⟨c, u, m, z, rfl, hd, _, _⟩ := tmOk_cons ht
 rw [at?0]
 simp only [Option.bind_some]
 have pos : 1 ≤ (c :: u).length := by simp
 -- the sides that do not fit
 have noK : c ≠ 107 → ∀ x, readKeyS (c :: u) = (x, true) → False := fun h x e => by
  obtain ⟨_, r, e'⟩ := kd_key (t := c :: u) (by rw [e]); exact h (List.cons.inj e').1
 have noL : c ≠ 108 → ∀ x, partsS (c :: u) = (x, true) → False := fun h x e => by
  obtain ⟨_, r, e'⟩ := kd_list (t := c :: u) (by rw [e]); exact h (List.cons.inj e').1
 have noS : c ≠ 115 → ∀ x y, sealedS (c :: u) = (x, y, true) → False := fun h x y e => by
  obtain ⟨_, r, e'⟩ := kd_seal (t := c :: u) (by rw [e]); exact h (List.cons.inj e').1
 refine EvP.ite (fun hk => ?_) (fun hk => ?_)
 ·have hk : c = 107 := by simpa using hk
  subst hk
  have hr := is_key ht
  have e : readKeyS (107 :: u) = ((readKeyS (107 :: u)).1, true) := by rw [← hr]
  refine EvP.bindE (iReadKey _ (by omega)) (EvP.pure ?_)
  refine ⟨⟨fun x hx => by simp [hx], fun x hx => insN_mem.2 (.inl hx), fun x hx => hx, fun x hx => ?_, ?_, ?_⟩, by simp, ⟨fun x hx => ?_, fun x hx => ?_, fun x hx => ?_, insN_nodup hs.nodup⟩⟩
  ·rcases List.mem_append.1 hx with h | h
   ·exact .inl h
   ·rw [List.mem_singleton.1 h]
    exact .inr ⟨fun x e' => insN_mem.2 (.inr (by rw [e'])), fun ps e' => (noL (by decide) _ e').elim, fun x y e' => (noS (by decide) _ _ e').elim⟩
  ·simp only [List.length_append, List.length_cons, List.length_nil] at pos ⊢; omega
  ·have := insN_len (l := s.reached) (n := (readKeyS (107 :: u)).1)
   simp only [List.length_append, List.length_cons, List.length_nil]; omega
  ·rcases List.mem_append.1 hx with h | h
   ·exact hs.seen x h
   ·rw [List.mem_singleton.1 h]; exact hc
  ·rcases insN_mem.1 hx with h | h
   ·exact hs.reached x h
   ·rw [h]; exact Clo.read hc e
  ·exact ⟨by simp [(hs.closed x hx).1], (hs.closed x hx).2⟩
 have hk : c ≠ 107 := by simpa using hk
 refine EvP.ite (fun hl => ?_) (fun hl => ?_)
 ·have hl : c = 108 := by simpa using hl
  subst hl
  have hr := is_list ht
  have e : partsS (108 :: u) = ((partsS (108 :: u)).1, true) := by rw [← hr]
  obtain ⟨p1, p2⟩ := part_sub e
  refine EvP.bindE (iParts _ (by omega)) ?_
  have hs1 : SgG T N ⟨s.seen ++ [108 :: u], s.reached, s.closed⟩ := ⟨fun x hx => by
   rcases List.mem_append.1 hx with h | h
   ·exact hs.seen x h
   ·rw [List.mem_singleton.1 h]; exact hc, hs.reached, fun x hx => ⟨by simp [(hs.closed x hx).1], (hs.closed x hx).2⟩, hs.nodup⟩
  have := lookL_ev (T := T) (N := N) (ps := (partsS (108 :: u)).1) (M := 1000000) (by have := (partsS_len (108 :: u)).1; omega) (fun c k => Flook (k + c)) (fun c p hp s' hs' hM' => (ih p (by have := sumL_mem hp; omega) (p2 p hp) (Clo.part hc e hp) s' hs' hM').add c) (fun c k => by simp only [Nat.add_assoc, Nat.add_comm 1 c]) _ 0 0 _ rfl (by omega) hs1 (by dsimp only; simp only [List.drop_zero, List.length_append, List.length_cons, List.length_nil] at p1 hM ⊢; omega)
  refine this.mono fun s2 ⟨b1, b2, b3⟩ => ?_
  rw [List.drop_zero] at b1 b2
  refine ⟨⟨fun x hx => b1.sn _ (by simp [hx]), b1.rc, b1.cl, fun x hx => ?_, ?_, ?_⟩, b1.sn _ (by simp), b3⟩
  ·rcases b1.nw x hx with h | h
   ·rcases List.mem_append.1 h with h | h
    ·exact .inl h
    ·rw [List.mem_singleton.1 h]
     exact .inr ⟨fun x e' => (noK (by decide) _ e').elim, fun ps e' p hp => b2 p (by rw [e'] ; exact hp), fun x y e' => (noS (by decide) _ _ e').elim⟩
   ·exact .inr h
  ·have := b1.pt
   dsimp only at this
   simp only [List.length_append, List.length_cons, List.length_nil] at this p1 ⊢; omega
  ·have := b1.ln
   dsimp only at this
   simp only [List.length_append, List.length_cons, List.length_nil] at this ⊢; omega
 have hl : c ≠ 108 := by simpa using hl
 refine EvP.ite (fun hz => ?_) (fun hz => ?_)
 ·have hz : c = 115 := by simpa using hz
  subst hz
  have hr := is_seal ht
  have hp := pot_ge (l := s.closed) fun x hx => (hs.closed x hx).2
  rw [decide_eq_true (by simp only [List.length_cons, List.length_nil]; omega)]
  simp only [cond_true]
  refine EvP.pure ⟨⟨fun x hx => by simp [hx], fun x hx => hx, fun x hx => by simp [hx], fun x hx => ?_, ?_, ?_⟩, by simp, ⟨fun x hx => ?_, hs.reached, fun x hx => ?_, hs.nodup⟩⟩
  ·rcases List.mem_append.1 hx with h | h
   ·exact .inl h
   ·rw [List.mem_singleton.1 h]
    exact .inr ⟨fun x e' => (noK (by decide) _ e').elim, fun ps e' => (noL (by decide) _ e').elim, fun x y e' => .inl (by simp)⟩
  ·have e : pot [115 :: u] = u.length := by simp [pot]
   simp only [List.length_append, List.length_cons, List.length_nil, pot_app, e] at pos ⊢; omega
  ·simp only [List.length_append, List.length_cons, List.length_nil]; omega
  ·rcases List.mem_append.1 hx with h | h
   ·exact hs.seen x h
   ·rw [List.mem_singleton.1 h]; exact hc
  ·rcases List.mem_append.1 hx with h | h
   ·exact ⟨by simp [(hs.closed x h).1], (hs.closed x h).2⟩
   ·rw [List.mem_singleton.1 h]; exact ⟨by simp, hr⟩
 ·have hz : c ≠ 115 := by simpa using hz
  refine EvP.pure ⟨⟨fun x hx => by simp [hx], fun x hx => hx, fun x hx => hx, fun x hx => ?_, ?_, ?_⟩, by simp, ⟨fun x hx => ?_, hs.reached, fun x hx => ⟨by simp [(hs.closed x hx).1], (hs.closed x hx).2⟩, hs.nodup⟩⟩
  ·rcases List.mem_append.1 hx with h | h
   ·exact .inl h
   ·rw [List.mem_singleton.1 h]
    exact .inr ⟨fun x e' => (noK hk _ e').elim, fun ps e' => (noL hl _ e').elim, fun x y e' => (noS hz _ _ e').elim⟩
  ·simp only [List.length_append, List.length_cons, List.length_nil] at pos ⊢; omega
  ·simp only [List.length_append, List.length_cons, List.length_nil]; omega
  ·rcases List.mem_append.1 hx with h | h
   ·exact hs.seen x h
   ·rw [List.mem_singleton.1 h]; exact hc
/-- Within a round: what is closed so far, and what is left. -/
structure RdS (T : List (List UInt8)) (N : List Int) (r0 : List Int) (B : Nat) (rem : List (List UInt8)) (ag : Bool) (s : Sgt) : Prop where
 g : SgG T N s
 rm : ∀ x ∈ rem, x ∈ s.seen ∧ (sealedS x).2.2 = true
 hd : ∀ x ∈ s.seen, HdS rem s x
 tt : ∀ t ∈ T, t ∈ s.seen
 nn : ∀ n ∈ N, n ∈ s.reached
 pt : s.seen.length + pot s.closed + pot rem + (if ag = true then 1 else 0) ≤ B
 ln : s.reached.length ≤ s.seen.length + 1000
 no : ag = false → s.reached = r0 ∧ ∀ x ∈ s.closed, (sealedS x).1 ∉ s.reached
theorem pass_ev {T : List (List UInt8)} {N : List Int} (hT : ∀ t ∈ T, tmOk t = true) {l : List (List UInt8)} {r0 : List Int} {B : Nat} (hB : B ≤ 900000) (hl : l.length ≤ 1048576) :
  ∀ (r : List (List UInt8)) (i c : Nat) (ag : Bool) (s : Sgt), l.drop i = r → i ≤ l.length → RdS T N r0 B r ag s → EvP (fun k => passL (k + c) l k (i : Int) ag s) (fun q => RdS T N r0 B [] q.1 q.2) := by
 intro r
 induction r with
 | nil =>
  intro i c ag s hd hi hs
  have : l.length ≤ i := by
   have := congrArg List.length hd
   simp at this; omega
  refine EvP.succ ?_
  simp only [passL]
  rw [decide_eq_false (by omega)]
  exact EvP.pure hs
 | cons x r ih =>
  intro i c ag s hd hi hs
  have hb : l[i]? = some x := by
   have : (l.drop i)[0]? = some x := by rw [hd]; rfl
   rwa [List.getElem?_drop, Nat.add_zero] at this
  have hlt := (List.getElem?_eq_some_iff.1 hb).1
  have hd' : l.drop (i + 1) = r := by rw [← List.drop_drop, hd]; rfl
  obtain ⟨hx1, hx2⟩ := hs.rm x (by simp)
  have e : sealedS x = ((sealedS x).1, (sealedS x).2.1, true) := by rw [← hx2]
  obtain ⟨i1, i2, _⟩ := inner_sub e
  have hxc := hs.g.seen x hx1
  have hxl := tmOk_len (clo_ok hT hxc)
  have hpt := hs.pt
  have hpc : pot (x :: r) = (x.length - 1) + pot r := by simp [pot]
  rw [hpc] at hpt
  refine EvP.succ ?_
  simp only [passL]
  rw [decide_eq_true (by omega), wid1 (by omega)]
  simp only [cond_true]
  have cc : ∀ k, k + 1 + c = k + (c + 1) := fun k => by omega
  refine EvP.at? hb (EvP.bindE ((iSealed x (by omega)).add (1 + c) |>.congr fun k => by rw [← Nat.add_assoc]) ?_)
  refine EvP.ite (fun hr => ?_) (fun hr => ?_)
  ·have hr : (sealedS x).1 ∈ s.reached := by simpa using hr
   have hcl := Clo.opens hxc e (hs.g.reached _ hr)
   simp only [cc]
   refine EvP.bind ((look_ev (T := T) (N := N) _ (sealedS x).2.1 (Nat.le_refl _) i2 hcl s hs.g (by split at hpt <;> omega)).add (c + 1)) fun s1 ⟨a1, a2, a3⟩ => ?_
   have hp := a1.pt
   have hq := a1.ln
   refine ih (i + 1) (c + 1) true s1 hd' (by omega) ⟨a3, fun y hy => ?_, fun y hy => ?_, fun t ht => a1.sn _ (hs.tt t ht), fun n hn => a1.rc _ (hs.nn n hn), ?_, ?_, fun h => by cases h⟩
   ·obtain ⟨h1, h2⟩ := hs.rm y (by simp [hy])
    exact ⟨a1.sn _ h1, h2⟩
   ·rcases a1.nw y hy with h | h
    ·have h := a1.hd (hs.hd y h)
     refine ⟨h.key, h.part, fun n j e' => ?_⟩
     rcases h.opens n j e' with h1 | h1 | h1
     ·exact .inl h1
     ·rcases List.mem_cons.1 h1 with rfl | h1
      ·rw [e'] at a2; exact .inr (.inr a2)
      ·exact .inr (.inl h1)
     ·exact .inr (.inr h1)
    ·refine ⟨h.key, h.part, fun n j e' => ?_⟩
     rcases h.opens n j e' with h1 | h1 | h1
     ·exact .inl h1
     ·cases h1
     ·exact .inr (.inr h1)
   ·simp only [if_true]; split at hpt <;> omega
   ·have := hs.ln; omega
  ·have hr : (sealedS x).1 ∉ s.reached := by simpa using hr
   have hge := pot_ge (l := s.closed) fun y hy => (hs.g.closed y hy).2
   rw [decide_eq_true (by simp only [List.length_cons, List.length_nil]; split at hpt <;> omega)]
   simp only [cond_true, cc]
   have hpx : pot [x] = x.length - 1 := by simp [pot]
   refine ih (i + 1) (c + 1) ag ⟨s.seen, s.reached, s.closed ++ [x]⟩ hd' (by omega) ⟨⟨hs.g.seen, hs.g.reached, fun y hy => ?_, hs.g.nodup⟩, fun y hy => hs.rm y (by simp [hy]), fun y hy => ?_, hs.tt, hs.nn, ?_, hs.ln, fun h => ⟨(hs.no h).1, fun y hy => ?_⟩⟩
   ·rcases List.mem_append.1 hy with h | h
    ·exact hs.g.closed y h
    ·rw [List.mem_singleton.1 h]; exact ⟨hx1, hx2⟩
   ·have h := hs.hd y hy
    refine ⟨h.key, h.part, fun n j e' => ?_⟩
    rcases h.opens n j e' with h1 | h1 | h1
    ·exact .inl (by simp [h1])
    ·rcases List.mem_cons.1 h1 with rfl | h1
     ·exact .inl (by simp)
     ·exact .inr (.inl h1)
    ·exact .inr (.inr h1)
   ·dsimp only
    rw [pot_app, hpx]; omega
   ·rcases List.mem_append.1 hy with h1 | h1
    ·exact (hs.no h).2 y h1
    ·rw [List.mem_singleton.1 h1]; exact hr
/-- At the end of all rounds. -/
structure EndS (T : List (List UInt8)) (N : List Int) (s : Sgt) : Prop where
 seen : ∀ t, t ∈ s.seen ↔ Clo T N (.inl t)
 reached : ∀ n, n ∈ s.reached ↔ Clo T N (.inr n)
 nodup : s.reached.Nodup
 len : s.reached.length ≤ 1000000
theorem rounds_one {T : List (List UInt8)} {N : List Int} (hT : ∀ t ∈ T, tmOk t = true) {B : Nat} (hB : B ≤ 900000) (c : Nat) (s : Sgt) (g : SgG T N s) (hd : ∀ x ∈ s.seen, HdS [] s x) (tt : ∀ t ∈ T, t ∈ s.seen) (nn : ∀ n ∈ N, n ∈ s.reached) (ln : s.reached.length ≤ s.seen.length + 1000) (h0 : s.seen.length + pot s.closed ≤ B) (ih : ∀ s1, RdS T N s.reached B [] true s1 → EvP (fun k => roundsL (k + (c + 1)) k true s1) (EndS T N)) : EvP (fun k => roundsL (k + c) k true s) (EndS T N) := by
 refine EvP.succ ?_
 simp only [roundsL, cond_true]
 have hge := pot_ge (l := s.closed) fun y hy => (g.closed y hy).2
 have hp : EvP (fun k => passL (k + 1 + c) s.closed (k + 1 + c) 0 false ⟨s.seen, s.reached, []⟩) (fun q => RdS T N s.reached B [] q.1 q.2) := by
  have := pass_ev (N := N) hT (l := s.closed) (r0 := s.reached) (B := B) hB (by omega) s.closed 0 0 false ⟨s.seen, s.reached, []⟩ rfl (by omega) ⟨⟨g.seen, g.reached, (fun y hy => by cases hy), g.nodup⟩, g.closed, fun y hy => ?_, tt, nn, ?_, ln, fun _ => ⟨rfl, fun y hy => by cases hy⟩⟩
  ·obtain ⟨r, ⟨n, e⟩, hr⟩ := this
   exact ⟨r, ⟨n, fun k hk => e (k + 1 + c) (by omega)⟩, hr⟩
  ·have h := hd y hy
   refine ⟨h.key, h.part, fun n j e' => ?_⟩
   rcases h.opens n j e' with h1 | h1 | h1
   ·exact .inr (.inl h1)
   ·cases h1
   ·exact .inr (.inr h1)
  ·have : pot ([] : List (List UInt8)) = 0 := rfl
   simp only [this, Bool.false_eq_true, if_false]; omega
 refine EvP.bind hp fun q hq => ?_
 obtain ⟨ag, s1⟩ := q
 dsimp only at hq ⊢
 cases ag with
 | true =>
  obtain ⟨r, ⟨n, e⟩, hr⟩ := ih s1 hq
  exact ⟨r, ⟨n, fun k hk => by have := e k hk; dsimp only at this; rwa [show k + (c + 1) = k + 1 + c by omega] at this⟩, hr⟩
 | false =>
  refine EvP.succ ?_
  simp only [roundsL, cond_false]
  have hsh : Shut T N (fun t => t ∈ s1.seen) (fun n => n ∈ s1.reached) := by
   refine ⟨hq.tt, hq.nn, fun t n ht => (hq.hd t ht).key n, fun t ps ht => (hq.hd t ht).part ps, fun t n i ht e hn => ?_⟩
   rcases (hq.hd t ht).opens n i e with h1 | h1 | h1
   ·have := (hq.no rfl).2 t h1
    rw [e] at this
    exact absurd hn this
   ·cases h1
   ·exact h1
  have h1 := hq.pt
  have h2 := hq.ln
  refine EvP.pure ⟨fun t => ⟨hq.g.seen t, fun hc => Clo.sub hsh hc⟩, fun n => ⟨hq.g.reached n, fun hc => Clo.sub hsh hc⟩, hq.g.nodup, by omega⟩
theorem rounds_ev {T : List (List UInt8)} {N : List Int} (hT : ∀ t ∈ T, tmOk t = true) : ∀ (B : Nat), B ≤ 900000 → ∀ (c : Nat) (s : Sgt), SgG T N s → (∀ x ∈ s.seen, HdS [] s x) → (∀ t ∈ T, t ∈ s.seen) → (∀ n ∈ N, n ∈ s.reached) → s.reached.length ≤ s.seen.length + 1000 → s.seen.length + pot s.closed ≤ B → EvP (fun k => roundsL (k + c) k true s) (EndS T N) := by
 intro B
 induction B with
 | zero => exact fun hB c s h1 h2 h3 h4 h5 h6 => rounds_one hT hB c s h1 h2 h3 h4 h5 h6 fun s1 hq => by have := hq.pt; simp at this
 | succ B ih =>
  refine fun hB c s h1 h2 h3 h4 h5 h6 => rounds_one hT hB c s h1 h2 h3 h4 h5 h6 fun s1 hq => ?_
  have h0 := hq.pt
  have hpn : pot [] = 0 := rfl
  simp only [if_true, hpn] at h0
  exact ih (by omega) (c + 1) s1 hq.g hq.hd hq.tt hq.nn hq.ln (by omega)
theorem keys_ev {ks : List Int} (hl : ks.length ≤ 1000) : ∀ (r : List Int) (i : Nat) (s : Sgt), ks.drop i = r → i ≤ ks.length → s.seen = [] → s.closed = [] → s.reached.Nodup → s.reached.length ≤ i → EvP (fun k => keysL ks k (i : Int) s) (fun s' => s'.seen = [] ∧ s'.closed = [] ∧ s'.reached.Nodup ∧ s'.reached.length ≤ 1000 ∧ ∀ n, n ∈ s'.reached ↔ n ∈ s.reached ∨ n ∈ r) := by
 intro r
 induction r with
 | nil =>
  intro i s hd hi h1 h2 h3 h4
  have : ks.length ≤ i := by
   have := congrArg List.length hd
   simp at this; omega
  refine EvP.succ ?_
  simp only [keysL]
  rw [decide_eq_false (by omega)]
  exact EvP.pure ⟨h1, h2, h3, by omega, fun n => by simp⟩
 | cons x r ih =>
  intro i s hd hi h1 h2 h3 h4
  have hb : ks[i]? = some x := by
   have : (ks.drop i)[0]? = some x := by rw [hd]; rfl
   rwa [List.getElem?_drop, Nat.add_zero] at this
  have hlt := (List.getElem?_eq_some_iff.1 hb).1
  have hd' : ks.drop (i + 1) = r := by rw [← List.drop_drop, hd]; rfl
  refine EvP.succ ?_
  simp only [keysL]
  rw [decide_eq_true (by omega), wid1 (by omega)]
  simp only [cond_true]
  refine EvP.at? hb ?_
  refine (ih (i + 1) ⟨s.seen, insN s.reached x, s.closed⟩ hd' (by omega) h1 h2 (insN_nodup h3) (by have := insN_len (l := s.reached) (n := x); dsimp only; omega)).mono fun s' ⟨a, b, c, d, e⟩ => ⟨a, b, c, d, fun n => ?_⟩
  rw [e n, insN_mem]
  simp only [List.mem_cons, or_assoc]
theorem rB_SS : ∀ {l : List Int}, rB l = true → SS l
 | [], _ => List.Pairwise.nil
 | [a], _ => by simp
 | a :: b :: l, h => by
  simp only [rB, Bool.and_eq_true, decide_eq_true_eq] at h
  have := rB_SS h.2
  refine List.pairwise_cons.2 ⟨fun x hx => ?_, this⟩
  rcases List.mem_cons.1 hx with rfl | hx
  ·exact h.1
  ·have := (List.pairwise_cons.1 this).1 x hx; omega
structure KnP (c : T_Known) : Prop where
 tm : ∀ t ∈ c.Terms, tmOk t = true
 nd : c.Terms.Nodup
 ks : ∀ n ∈ c.Keys, 1 ≤ n ∧ n ≤ 1000000
 tl : c.Terms.length ≤ 60
 kl : c.Keys.length ≤ 40
 ss : SS c.Keys
theorem allI_get {α : Type} {g : Nat → α → Bool} : ∀ {l : List α} {i : Nat}, allI g i l = true → ∀ j x, l[j]? = some x → g (i + j) x = true
 | [], i, h, j, x, hx => by simp at hx
 | y :: l, i, h, 0, x, hx => by
  simp only [allI, Bool.and_eq_true] at h
  simp at hx; subst hx; simpa using h.1
 | y :: l, i, h, j + 1, x, hx => by
  simp only [allI, Bool.and_eq_true] at h
  have := allI_get h.2 j x (by simpa using hx)
  rwa [show i + 1 + j = i + (j + 1) by omega] at this
theorem known_p {c : T_Known} (h : knownB c = true) : KnP c := by
 simp only [knownB, Bool.and_eq_true, decide_eq_true_eq, List.all_eq_true] at h
 obtain ⟨h1, h2, h3, h4, h5⟩ := h
 have g := fun j x hx => allI_get h1 j x hx
 simp only [Bool.and_eq_true, Nat.zero_add] at g
 refine ⟨fun t ht => ?_, ?_, fun n hn => of_decide_eq_true (h2 n hn), h3, h4, rB_SS h5⟩
 ·obtain ⟨j, hj⟩ := List.getElem?_of_mem ht
  exact (g j t hj).1
 ·rw [List.nodup_iff_pairwise_ne, List.pairwise_iff_getElem]
  intro i j hi hj hij e
  have := (g j _ (List.getElem?_eq_getElem hj)).2
  have hm : c.Terms[i] ∈ c.Terms.take j := List.mem_take_iff_getElem.2 ⟨i, by omega, rfl⟩
  simp only [inT, Bool.not_eq_true', List.any_eq_false] at this
  exact this _ hm (by rw [e]; simp)
theorem sight_ev {c : T_Known} (h : KnP c) : EvP (fun k => FsightOf k c) (EndS c.Terms c.Keys) := by
 simp only [FsightOf]
 refine EvP.bind (keys_ev (by have := h.kl; omega) c.Keys 0 ⟨[], [], []⟩ rfl (by omega) rfl rfl List.nodup_nil (by simp)) fun s ⟨a1, a2, a3, a4, a5⟩ => ?_
 have hm : ∀ n, n ∈ s.reached ↔ n ∈ c.Keys := fun n => by rw [a5 n]; simp
 have hsum : ∀ l : List (List UInt8), (∀ t ∈ l, tmOk t = true) → sumL l ≤ 900 * l.length := by
  intro l
  induction l with
  | nil => intro _; simp [sumL]
  | cons x l ih =>
   intro hl
   have := ih fun y hy => hl y (by simp [hy])
   have := tmOk_len (hl x (by simp))
   simp only [sumL, List.map_cons, List.sum_cons, List.length_cons] at *; omega
 have h1 := hsum c.Terms h.tm
 have h2 := h.tl
 have hp0 : pot ([] : List (List UInt8)) = 0 := rfl
 have g0 : SgG c.Terms c.Keys s := ⟨(fun x hx => by rw [a1] at hx; cases hx), fun n hn => Clo.key ((hm n).1 hn), (fun x hx => by rw [a2] at hx; cases hx), a3⟩
 have := lookL_ev (T := c.Terms) (N := c.Keys) (ps := c.Terms) (M := 60000) (by omega) (fun c k => Flook (k + c)) (fun _ p hp s' hs' hM' => (look_ev _ p (Nat.le_refl _) (h.tm p hp) (Clo.term hp) s' hs' (by omega)).add _) (fun c k => by simp only [Nat.add_assoc, Nat.add_comm 1 c]) c.Terms 0 0 s rfl (by omega) g0 (by rw [a1, a2, hp0]; simp only [List.length_nil]; omega)
 refine EvP.bind this fun s1 ⟨b1, b2, b3⟩ => ?_
 have hpt := b1.pt
 have hln := b1.ln
 rw [a1, a2, hp0] at hpt
 rw [a1] at hln
 simp only [List.length_nil] at hpt hln
 refine rounds_ev h.tm 60000 (by omega) 0 s1 b3 (fun x hx => ?_) b2 (fun n hn => b1.rc _ ((hm n).2 hn)) (by omega) (by omega)
 rcases b1.nw x hx with h | h
 ·rw [a1] at h; cases h
 ·exact h
theorem inT_iff {l : List (List UInt8)} {x : List UInt8} : inT l x = true ↔ x ∈ l := by simp [inT]
theorem ss_nodup {l : List Int} (h : SS l) : l.Nodup := by
 refine List.Pairwise.imp (fun {a b} h => ?_) h
 omega
theorem sub_all {α : Type} [BEq α] [LawfulBEq α] {a b : List α} (ha : a.Nodup) (h : ∀ x ∈ a, x ∈ b) (hl : b.length ≤ a.length) : ∀ x ∈ b, x ∈ a := by
 intro x hx
 cases hc : a.contains x with
 | true => simpa using hc
 | false =>
  have hn : x ∉ a := fun hm => by
   have : a.contains x = true := by simpa using hm
   rw [hc] at this; cases this
  have := nodup_len (l := x :: a) (u := b) (List.nodup_cons.2 ⟨hn, ha⟩) fun y hy => (List.mem_cons.1 hy).elim (fun e => e ▸ hx) (h y)
  simp only [List.length_cons] at this; omega
structure SpG (c : T_Known) (se : List (List UInt8)) (ke : List Int) : Prop where
 nd : se.Nodup
 cl : ∀ x ∈ se, Clo c.Terms c.Keys (.inl x)
 ss : SS ke
 kc : ∀ n ∈ ke, Clo c.Terms c.Keys (.inr n)
 tt : ∀ t ∈ c.Terms, t ∈ se
 nn : ∀ n ∈ c.Keys, n ∈ ke
theorem clo_num {T : List (List UInt8)} {N : List Int} (h : ∀ t ∈ T, tmOk t = true) {n : Int} (c : Clo T N (.inr n)) : n ∈ N ++ (univ T).map fun t => (readKeyS t).1 := by
 rw [List.mem_append]
 cases c with
 | key m => exact .inl m
 | read h' e => exact .inr (List.mem_map.2 ⟨_, clo_univ h h', by rw [e]⟩)
theorem SpG.len {c : T_Known} (h : KnP c) {se : List (List UInt8)} {ke : List Int} (g : SpG c se ke) : se.length ≤ 54000 ∧ ke.length ≤ 54040 := by
 have h1 := univ_len h.tm
 have h2 := nodup_len g.nd fun x hx => clo_univ h.tm (g.cl x hx)
 have h3 := nodup_len (ss_nodup g.ss) fun n hn => clo_num h.tm (g.kc n hn)
 have h4 := h.tl
 have h5 := h.kl
 rw [List.length_append, List.length_map] at h3
 omega
theorem SpG.add {c : T_Known} {se : List (List UInt8)} {ke : List Int} (g : SpG c se ke) {x : List UInt8} (hx : x ∉ se) (hc : Clo c.Terms c.Keys (.inl x)) : SpG c (se ++ [x]) ke :=
 ⟨List.nodup_append.2 ⟨g.nd, by simp, fun a ha b hb => by rw [List.mem_singleton.1 hb]; rintro rfl; exact hx ha⟩, fun y hy => by
  rcases List.mem_append.1 hy with h | h
  ·exact g.cl y h
  ·rw [List.mem_singleton.1 h]; exact hc, g.ss, g.kc, fun t ht => by simp [g.tt t ht], g.nn⟩
theorem SpG.put {c : T_Known} {se : List (List UInt8)} {ke : List Int} (g : SpG c se ke) {n : Int} (hc : Clo c.Terms c.Keys (.inr n)) : SpG c se (putI n ke) :=
 ⟨g.nd, g.cl, ss_putI g.ss, fun m hm => (mem_putI.1 hm).elim (fun e => by rw [e]; exact hc) (g.kc m), g.tt, fun m hm => mem_putI.2 (.inr (g.nn m hm))⟩
section
variable {c : T_Known} {R : Type} {P : R → Prop}
theorem sOpens (h : KnP c) {i : Nat} {x : List UInt8} {n m : Int} {ke : List Int} (hx : Clo c.Terms c.Keys (.inl x)) {P : List (List UInt8) × List Int → Prop} : ∀ (r : List Int) (j : Nat) (se : List (List UInt8)) (cl : Nat → List (List UInt8) → List Int → Int → Int → Int → Option (List (List UInt8) × List Int)), ke.drop j = r → j ≤ ke.length → SpG c se ke → se[i]? = some x →
  (∀ se', SpG c se' ke → (∃ e, se' = se ++ e) → (∀ k ∈ r, ∀ y, sealedS x = (k, y, true) → y ∈ se') → EvP (fun k => cl k se' ke n m ((i + 1 : Nat) : Int)) P) →
  EvP (fun k => S_l3Close.l690 (cl k) k se ke n m (i : Int) (j : Int)) P := by
 intro r
 induction r with
 | nil =>
  intro j se cl hd hj g hi hk
  have : ke.length ≤ j := by
   have := congrArg List.length hd
   simp at this; omega
  have hi1 := (List.getElem?_eq_some_iff.1 hi).1
  have hl := g.len h
  refine EvP.succ ?_
  simp only [S_l3Close.l690]
  rw [decide_eq_false (by omega), wid1 (by omega)]
  exact (hk se g ⟨[], by simp⟩ (fun k hk => by cases hk)).shift
 | cons key r ih =>
  intro j se cl hd hj g hi hk
  have hb : ke[j]? = some key := by
   have : (ke.drop j)[0]? = some key := by rw [hd]; rfl
   rwa [List.getElem?_drop, Nat.add_zero] at this
  have hlt := (List.getElem?_eq_some_iff.1 hb).1
  have hd' : ke.drop (j + 1) = r := by rw [← List.drop_drop, hd]; rfl
  have hl := g.len h
  have hxl := tmOk_len (clo_ok h.tm hx)
  refine EvP.succ ?_
  simp only [S_l3Close.l690]
  rw [decide_eq_true (by omega)]
  simp only [cond_true]
  refine EvP.at? hi (EvP.at? hb (EvP.bindE (sOpen x (by omega) key) ?_))
  have next : ∀ se', SpG c se' ke → (∃ e, se' = se ++ e) → (∀ y, sealedS x = (key, y, true) → y ∈ se') → EvP (fun k => S_l3Close.j692 (S_l3Close.l690 (cl (k + 1)) k) k se' ke n m (i : Int) (j : Int)) P := by
   intro se' g' he hy
   simp only [S_l3Close.j692]
   rw [wid1 (by omega)]
   obtain ⟨e, he⟩ := he
   have hi1 := (List.getElem?_eq_some_iff.1 hi).1
   refine ih (j + 1) se' (fun k => cl (k + 1)) hd' (by omega) g' (by rw [he, List.getElem?_append_left hi1]; exact hi) fun se2 g2 ⟨e2, he2⟩ hy2 => (hk se2 g2 ⟨e ++ e2, by rw [he2, he, List.append_assoc]⟩ fun k hkk y e3 => ?_).shift
   rcases List.mem_cons.1 hkk with rfl | hkk
   ·rw [he2]; exact List.mem_append_left _ (hy y e3)
   ·exact hy2 k hkk y e3
  rw [openS_eq]
  by_cases ho : (sealedS x).2.2 = true ∧ (sealedS x).1 = key
  ·rw [if_pos ho]
   have e : sealedS x = (key, (sealedS x).2.1, true) := by rw [← ho.1, ← ho.2]
   have hc := Clo.opens hx e (g.kc key (List.mem_of_getElem? hb))
   simp only [cond_true]
   refine EvP.bindE (sInT _ (by omega)) ?_
   cases hin : inT se (sealedS x).2.1 with
   | true =>
    simp only [S_l3Close.j693, Bool.not_true, cond_false]
    refine next se g ⟨[], by simp⟩ fun y ey => ?_
    rw [e] at ey; cases ey; exact inT_iff.1 hin
   | false =>
    simp only [S_l3Close.j693, Bool.not_false, cond_true]
    rw [decide_eq_true (by simp only [List.length_cons, List.length_nil]; omega)]
    simp only [cond_true]
    refine next _ (g.add (fun hm => by rw [inT_iff.2 hm] at hin; cases hin) hc) ⟨_, rfl⟩ fun y ey => ?_
    rw [e] at ey; cases ey; simp
  ·rw [if_neg ho]
   simp only [cond_false, S_l3Close.j693]
   refine next se g ⟨[], by simp⟩ fun y ey => ?_
   rw [ey] at ho; exact absurd ⟨rfl, rfl⟩ ho
theorem sPartsC (h : KnP c) {i : Nat} {x : List UInt8} (hx : Clo c.Terms c.Keys (.inl x)) {n m : Int} {ke : List Int} {ps : List (List UInt8)} (hp : ∀ p ∈ ps, Clo c.Terms c.Keys (.inl p)) (hpl : ps.length ≤ 1000) {P : List (List UInt8) × List Int → Prop} : ∀ (r : List (List UInt8)) (j : Nat) (se : List (List UInt8)) (cl : Nat → List (List UInt8) → List Int → Int → Int → Int → Option (List (List UInt8) × List Int)), ps.drop j = r → j ≤ ps.length → SpG c se ke → se[i]? = some x →
  (∀ se', SpG c se' ke → (∃ e, se' = se ++ e) → (∀ p ∈ r, p ∈ se') → (∀ k ∈ ke, ∀ y, sealedS x = (k, y, true) → y ∈ se') → EvP (fun k => cl k se' ke n m ((i + 1 : Nat) : Int)) P) →
  EvP (fun k => S_l3Close.l682 (cl k) k se ke n m (i : Int) ps (j : Int)) P := by
 intro r
 induction r with
 | nil =>
  intro j se cl hd hj g hi hk
  have : ps.length ≤ j := by
   have := congrArg List.length hd
   simp at this; omega
  refine EvP.succ ?_
  simp only [S_l3Close.l682]
  rw [decide_eq_false (by omega)]
  exact sOpens h hx ke 0 se (fun k => cl (k + 1)) rfl (by omega) g hi fun se' g' he hy => (hk se' g' he (fun p hp => by cases hp) hy).shift
 | cons p r ih =>
  intro j se cl hd hj g hi hk
  have hb : ps[j]? = some p := by
   have : (ps.drop j)[0]? = some p := by rw [hd]; rfl
   rwa [List.getElem?_drop, Nat.add_zero] at this
  have hlt := (List.getElem?_eq_some_iff.1 hb).1
  have hd' : ps.drop (j + 1) = r := by rw [← List.drop_drop, hd]; rfl
  have hl := g.len h
  refine EvP.succ ?_
  simp only [S_l3Close.l682, S_l3Close.j683]
  rw [decide_eq_true (by omega), wid1 (by omega)]
  simp only [cond_true]
  refine EvP.at? hb (EvP.bindE (sInT p (by omega)) ?_)
  have hi1 := (List.getElem?_eq_some_iff.1 hi).1
  have next : ∀ se', SpG c se' ke → (∃ e, se' = se ++ e) → p ∈ se' → EvP (fun k => S_l3Close.l682 (cl (k + 1)) k se' ke n m (i : Int) ps ((j + 1 : Nat) : Int)) P := by
   intro se' g' he hm
   obtain ⟨e, he⟩ := he
   refine ih (j + 1) se' (fun k => cl (k + 1)) hd' (by omega) g' (by rw [he, List.getElem?_append_left hi1]; exact hi) fun se2 g2 ⟨e2, he2⟩ hr hy => (hk se2 g2 ⟨e ++ e2, by rw [he2, he, List.append_assoc]⟩ (fun q hq => ?_) hy).shift
   rcases List.mem_cons.1 hq with rfl | hq
   ·rw [he2]; exact List.mem_append_left _ hm
   ·exact hr q hq
  cases hin : inT se p with
  | true =>
   simp only [Bool.not_true, cond_false]
   exact next se g ⟨[], by simp⟩ (inT_iff.1 hin)
  | false =>
   simp only [Bool.not_false, cond_true]
   refine EvP.at? hb ?_
   rw [decide_eq_true (by simp only [List.length_cons, List.length_nil]; omega)]
   simp only [cond_true]
   exact next _ (g.add (fun hm => by rw [inT_iff.2 hm] at hin; cases hin) (hp p (List.mem_of_getElem? hb))) ⟨_, rfl⟩ (by simp)
/-- All that a term tells is there. -/
structure DnS (se : List (List UInt8)) (ke ke0 : List Int) (x : List UInt8) : Prop where
 key : ∀ n, readKeyS x = (n, true) → n ∈ ke
 part : ∀ ps, partsS x = (ps, true) → ∀ p ∈ ps, p ∈ se
 opens : ∀ n ∈ ke0, ∀ y, sealedS x = (n, y, true) → y ∈ se
structure FinS (c : T_Known) (r : List (List UInt8) × List Int) : Prop where
 seen : ∀ t, t ∈ r.1 ↔ Clo c.Terms c.Keys (.inl t)
 keys : ∀ n, n ∈ r.2 ↔ Clo c.Terms c.Keys (.inr n)
 ss : SS r.2
 l1 : r.1.length ≤ 54000
 l2 : r.2.length ≤ 54040
theorem sRound (h : KnP c) {se0 : List (List UInt8)} {ke0 : List Int} (g0 : SpG c se0 ke0) : ∀ (d i : Nat) (se : List (List UInt8)) (ke : List Int) (cl : Nat → List (List UInt8) → List Int → Option (List (List UInt8) × List Int)), 54001 ≤ i + d → i ≤ se.length → SpG c se ke → (∃ e, se = se0 ++ e) → (∀ n ∈ ke0, n ∈ ke) →
  (∀ j x, j < i → se[j]? = some x → DnS se ke ke0 x) → (∀ se ke, SpG c se ke → se0.length + ke0.length < se.length + ke.length → EvP (fun k => cl k se ke) (FinS c)) →
  EvP (fun k => S_l3Close.l655 (cl k) k se ke (se0.length : Int) (ke0.length : Int) (i : Int)) (FinS c) := by
 intro d
 induction d with
 | zero =>
  intro i se ke cl hd hi g
  have := g.len h
  omega
 | succ d ih =>
  intro i se ke cl hd hi g he hke hdn hcl
  have hl := g.len h
  have hl0 := g0.len h
  obtain ⟨e, he⟩ := he
  refine EvP.succ ?_
  simp only [S_l3Close.l655]
  by_cases hlt : i < se.length
  ·rw [decide_eq_true (by omega)]
   simp only [cond_true]
   obtain ⟨x, hx⟩ := atLt hlt
   have hxc := g.cl x (List.mem_of_getElem? hx)
   have hxl := tmOk_len (clo_ok h.tm hxc)
   refine EvP.at? hx (EvP.bindE (sReadKey x (by omega)) ?_)
   have next : ∀ ke1, SpG c se ke1 → (∀ n ∈ ke, n ∈ ke1) → (∀ n, readKeyS x = (n, true) → n ∈ ke1) → EvP (fun k => S_l3Close.j675 (S_l3Close.l655 (cl (k + 1)) k) k se ke1 (se0.length : Int) (ke0.length : Int) (i : Int)) (FinS c) := by
    intro ke1 g1 hk1 hk2
    simp only [S_l3Close.j675]
    refine EvP.at? hx (EvP.bindE (sParts x (by omega)) ?_)
    refine sPartsC h hxc (ps := (partsS x).1) (fun p hp => ?_) (by have := (partsS_len x).1; omega) _ 0 se (fun k => S_l3Close.l655 (cl (k + 1)) k) rfl (by omega) g1 hx fun se' g' ⟨e', he'⟩ hp hy => ?_
    ·cases hps : (partsS x).2 with
     | true => exact Clo.part hxc (ps := (partsS x).1) (by rw [← hps]) hp
     | false => rw [partsS_nil hps] at hp; cases hp
    ·refine ih (i + 1) se' ke1 (fun k => cl (k + 1)) (by omega) (by rw [he', List.length_append]; omega) g' ⟨e ++ e', by rw [he', he, List.append_assoc]⟩ (fun n hn => hk1 n (hke n hn)) (fun j y hj hy' => ?_) (fun se ke g hl => (hcl se ke g hl).shift)
     by_cases hji : j = i
     ·subst hji
      rw [he', List.getElem?_append_left hlt, hx] at hy'
      cases hy'
      rw [List.drop_zero] at hp
      exact ⟨hk2, fun ps eps p hpm => hp p (by rw [eps]; exact hpm), fun n hn y ey => hy n (hk1 n (hke n hn)) y ey⟩
     ·rw [he', List.getElem?_append_left (by omega)] at hy'
      have d := hdn j y (by omega) hy'
      exact ⟨fun n en => hk1 n (d.key n en), fun ps eps p hpm => by rw [he']; exact List.mem_append_left _ (d.part ps eps p hpm), fun n hn y ey => by rw [he']; exact List.mem_append_left _ (d.opens n hn y ey)⟩
   cases hr : (readKeyS x).2 with
   | true =>
    have er : readKeyS x = ((readKeyS x).1, true) := by rw [← hr]
    simp only [cond_true]
    refine EvP.bindE (sPut _ (by omega) g.ss) ?_
    exact next _ (g.put (Clo.read hxc er)) (fun n hn => mem_putI.2 (.inr hn)) fun n en => mem_putI.2 (.inl (by rw [en]))
   | false =>
    simp only [cond_false]
    exact next ke g (fun n hn => hn) fun n en => by rw [en] at hr; cases hr
  ·have hie : i = se.length := by omega
   rw [decide_eq_false (by omega)]
   simp only [cond_false]
   have hkl := nodup_len (ss_nodup g0.ss) hke
   have hsl : se.length = se0.length + e.length := by rw [he, List.length_append]
   have more : se0.length + ke0.length < se.length + ke.length → EvP (fun k => cl (k + 1) se ke) (FinS c) := fun hh => (hcl se ke g hh).shift
   cases h1 : ((se.length : Int) == (se0.length : Int)) with
   | false =>
    have h1 : (se.length : Int) ≠ (se0.length : Int) := by simpa using h1
    simp only [cond_false, S_l3Close.j694]
    exact more (by omega)
   | true =>
    have h1 : (se.length : Int) = (se0.length : Int) := by simpa using h1
    simp only [cond_true, S_l3Close.j694]
    cases h2 : ((ke.length : Int) == (ke0.length : Int)) with
    | false =>
     have h2 : (ke.length : Int) ≠ (ke0.length : Int) := by simpa using h2
     simp only [cond_false]
     exact more (by omega)
    | true =>
     have h2 : (ke.length : Int) = (ke0.length : Int) := by simpa using h2
     simp only [cond_true]
     have hsub := sub_all (ss_nodup g0.ss) hke (by omega)
     have all : ∀ x ∈ se, DnS se ke ke0 x := fun x hx => by
      obtain ⟨j, hj⟩ := List.getElem?_of_mem hx
      exact hdn j x (by have := (List.getElem?_eq_some_iff.1 hj).1; omega) hj
     have hsh : Shut c.Terms c.Keys (fun t => t ∈ se) (fun n => n ∈ ke) :=
      ⟨g.tt, g.nn, fun t n ht => (all t ht).key n, fun t ps ht => (all t ht).part ps, fun t n y ht et hn => (all t ht).opens n (hsub n hn) y et⟩
     exact EvP.pure ⟨fun t => ⟨g.cl t, fun hc => Clo.sub hsh hc⟩, fun n => ⟨g.kc n, fun hc => Clo.sub hsh hc⟩, g.ss, hl.1, hl.2⟩
theorem sRounds (h : KnP c) : ∀ (d : Nat) (se : List (List UInt8)) (ke : List Int), SpG c se ke → 108041 ≤ se.length + ke.length + d → EvP (fun k => S_l3Close.l463 k se ke) (FinS c) := by
 intro d
 induction d with
 | zero => intro se ke g hd; have := g.len h; omega
 | succ d ih =>
  intro se ke g hd
  have hl := g.len h
  refine EvP.succ ?_
  simp only [S_l3Close.l463]
  exact sRound h g 54001 0 se ke (fun k => S_l3Close.l463 k) (by omega) (by omega) g ⟨[], by simp⟩ (fun n hn => hn) (fun j x hj => by omega) fun se' ke' g' hlt => ih se' ke' g' (by omega)
theorem sClose (h : KnP c) : EvP (fun k => S_l3Close k c) (FinS c) := by
 have h1 := h.tl
 have h2 := h.kl
 simp only [S_l3Close, List.nil_append, List.length_nil, Nat.zero_add]
 rw [decide_eq_true (by omega), decide_eq_true (by omega)]
 simp only [cond_true]
 exact sRounds h 108041 c.Terms c.Keys ⟨h.nd, fun x hx => Clo.term hx, h.ss, fun n hn => Clo.key hn, fun _ h => h, fun _ h => h⟩ (by omega)
end
theorem sort_SS {l : List Int} (h : l.Nodup) : SS (l.mergeSort fun x y => decide (x ≤ y)) := by
 have h1 := List.pairwise_mergeSort (le := fun x y : Int => decide (x ≤ y)) (fun a b c h1 h2 => by simp at h1 h2 ⊢; omega) (fun a b => by simp; omega) l
 have h2 : (l.mergeSort fun x y => decide (x ≤ y)).Nodup := (List.mergeSort_perm l _).nodup_iff.2 h
 refine List.Pairwise.imp (fun {a b} h => ?_) (h1.and h2)
 have := h.1
 simp at this
 have := h.2
 omega
theorem iReach {c : T_Known} (hs : KnSm c) (h : knownB c = true) : EvP (fun k => I_Reach k c) (fun r => SS r ∧ (∀ n, n ∈ r ↔ Clo c.Terms c.Keys (.inr n)) ∧ r.length ≤ 1000000) := by
 simp only [I_Reach]
 have h1 := iKnown hs
 rw [h] at h1
 refine EvP.bindE h1 ?_
 simp only [Bool.not_true, cond_false]
 refine EvP.bind (sight_ev (known_p h)) fun s hE => ?_
 have hl := hE.len
 simp only [V_Sort_int]
 rw [decide_eq_true (by omega), decide_eq_true (by omega)]
 refine EvP.pure ⟨sort_SS hE.nodup, fun n => ?_, by rw [List.length_mergeSort]; exact hl⟩
 rw [List.mem_mergeSort]; exact hE.reached n
theorem world_known {w : T_World} (h : worldB w = true) : knownB w.Known = true := by
 unfold worldB at h
 simp only [Bool.and_eq_true] at h
 exact h.2.2.2.2.2.2.2.2.2.1
theorem firstW {p : Int → Bool} {o : T_World} : ∀ {xs : List Int} {i : Nat}, firstOf p (fun j => ((j : Int), o)) (-1, o) i xs = (firstOf p (fun j => (j : Int)) (-1) i xs, o)
 | [], _ => rfl
 | x :: xs, i => by
  simp only [firstOf]
  by_cases h : p x = true
  ·rw [if_pos h, if_pos h]
  ·rw [if_neg h, if_neg h]; exact firstW
theorem iMeetsW {a : List Int} {w : T_World} (ha : a.length ≤ 2097152) (hb : w.Leaked.length ≤ 1048576) : Ev (fun k => V_ContainsFunc_int__impl_Secret_1 k a w) (a.any fun x => decide (x ∈ w.Leaked), w) := by
 simp only [V_ContainsFunc_int__impl_Secret_1, V_IndexFunc_int__impl_Secret_1]
 have key : Ev (fun k => V_IndexFunc_int__impl_Secret_1.l2 k a (a.length : Int) 0 w) (firstOf (fun x => decide (x ∈ w.Leaked)) (fun j => ((j : Int), w)) (-1, w) 0 a) := by
  refine Ev.find (xs := a) (L := fun k i => V_IndexFunc_int__impl_Secret_1.l2 k a (a.length : Int) i w) (by simp only [V_IndexFunc_int__impl_Secret_1.l2, ltD0, cond_false]; exact Ev.pure _) (fun i x r hx hi h1 h2 => ?_)
  simp only [V_IndexFunc_int__impl_Secret_1.l2, ltD hi, cond_true, I_Secret_1]
  refine Ev.at? hx (Ev.bind (Ev.bind (iHasI w.Leaked x (by omega)) (Ev.pure _)) ?_)
  rw [wid1 (by omega)]
  refine Ev.ite (fun hc => ?_) (fun hc => ?_)
  ·rw [h1 hc]; exact Ev.pure _
  ·exact h2 hc
 rw [firstW] at key
 refine Ev.bind key ((Ev.pure _).to ?_)
 rw [← idxAny]
theorem sMeets2 {a b : List Int} (ha : a.length ≤ 2097152) (hb : b.length ≤ 1048576) : Ev (fun k => S_l11Meets k a b) (a.any fun x => decide (x ∈ b)) := by
 simp only [S_l11Meets]
 refine Ev.anyL (xs := a) (L := fun k i => S_l11Meets.l2 k a b i) (by simp only [S_l11Meets.l2, ltD0, cond_false]; exact Ev.pure _) (fun i x r hx hi hr => ?_)
 simp only [S_l11Meets.l2, ltD hi, cond_true]
 refine Ev.at? hx (Ev.bind (sHasI b x (by omega)) ?_)
 rw [wid1 (by omega)]
 refine Ev.ite (fun hc => ?_) (fun hc => ?_)
 ·rw [hc]; exact Ev.pure _
 ·rw [hc]; simpa using hr
theorem secret_loops {w : T_World} (h : WkSm w) (hl : w.Leaked.length ≤ 1048576) (hlog : w.Log.length ≤ 1048576) {ks : List Int} (hk : ks.length ≤ 1000000) : ∀ (l : List T_Event) (i : Nat), w.Log.drop i = l → i ≤ w.Log.length → ∃ b : Bool, Ev (fun k => S_Secret.l7 k ks (i : Int) w) b ∧ ∀ ks' : List Int, ks'.length ≤ 1000000 → (∀ n, n ∈ ks' ↔ n ∈ ks) → Ev (fun k => I_Secret.l7 k ks' w (w.Log.length : Int) (i : Int) w.Config.UserRealm w.Config.ServiceRealm w.Config.Links w.Config.Proxy w.Config.Skew w.Now w.Fresh w.Net w.Known.Terms w.Known.Keys w.Waits w.Creds w.Caches w.Log w.Accepts w.Leaked) b := by
 intro l
 induction l with
 | nil =>
  intro i hd hi
  have : w.Log.length ≤ i := by
   have := congrArg List.length hd
   simp at this; omega
  refine ⟨true, Ev.succ ?_, fun ks' hk' hm => Ev.succ ?_⟩
  ·simp only [S_Secret.l7]
   rw [decide_eq_false (by omega)]
   exact Ev.pure _
  ·simp only [I_Secret.l7]
   rw [decide_eq_false (by omega)]
   exact Ev.pure _
 | cons e l ih =>
  intro i hd hi
  have hb : w.Log[i]? = some e := by
   have : (w.Log.drop i)[0]? = some e := by rw [hd]; rfl
   rwa [List.getElem?_drop, Nat.add_zero] at this
  have hlt := (List.getElem?_eq_some_iff.1 hb).1
  have hd' : w.Log.drop (i + 1) = l := by rw [← List.drop_drop, hd]; rfl
  obtain ⟨b, hs, hi'⟩ := ih (i + 1) hd' (by omega)
  obtain ⟨r, r1, r2, r3⟩ := roots_both h.cfg hlog e.Key
  refine ⟨cond (decide ((r.length : Int) > 0)) (cond (!(r.any fun x => decide (x ∈ w.Leaked))) (cond (decide (e.Key ∈ ks)) false b) b) b, Ev.succ ?_, fun ks' hk' hm => Ev.succ ?_⟩
  ·simp only [S_Secret.l7, S_Secret.j8]
   rw [decide_eq_true (by omega), wid1 (by omega)]
   simp only [cond_true]
   refine Ev.at? hb (Ev.bind r1 ?_)
   cases decide ((r.length : Int) > 0)
   ·exact hs
   simp only [cond_true]
   refine Ev.bind (sMeets2 r3 hl) ?_
   cases (!(r.any fun x => decide (x ∈ w.Leaked)))
   ·exact hs
   simp only [cond_true]
   refine Ev.at? hb (Ev.bind (sHasI ks e.Key (by omega)) ?_)
   cases decide (e.Key ∈ ks)
   ·exact hs
   ·exact Ev.pure _
  ·have hi' := hi' ks' hk' hm
   simp only [I_Secret.l7, I_Secret.j8]
   rw [decide_eq_true (by omega), wid1 (by omega)]
   simp only [cond_true]
   refine Ev.at? hb (Ev.bind r2 (Ev.bind (iMeetsW (w := w) r3 hl) ?_))
   cases decide ((r.length : Int) > 0)
   ·exact hi'
   simp only [cond_true]
   cases (!(r.any fun x => decide (x ∈ w.Leaked)))
   ·exact hi'
   simp only [cond_true]
   refine Ev.bind (iHasI ks' e.Key (by omega)) ?_
   rw [decide_eq_decide.2 (hm e.Key)]
   cases decide (e.Key ∈ ks)
   ·exact hi'
   ·exact Ev.pure _
theorem secret_both {w : T_World} (h : WkSm w) (hl : w.Leaked.length ≤ 1048576) (hlog : w.Log.length ≤ 1048576) : ∃ b : Bool, Ev (fun k => S_Secret k w) b ∧ Ev (fun k => I_Secret k w) b := by
 simp only [S_Secret, I_Secret]
 have s := sWorld h
 have t := iWorld h
 cases hw : worldB w
 ·rw [hw] at s t
  exact ⟨false, Ev.bind s (Ev.pure _), Ev.bind t (Ev.pure _)⟩
 rw [hw] at s t
 have hkn := world_known hw
 obtain ⟨rs, s1, s2⟩ := sClose (known_p hkn)
 obtain ⟨ri, i1, i2, i3, i4⟩ := iReach h.known hkn
 have hl2 := s2.l2
 obtain ⟨b, e1, e2⟩ := secret_loops h hl hlog (ks := rs.2) (by omega) w.Log 0 rfl (by omega)
 refine ⟨b, Ev.bind s (Ev.bind s1 e1), Ev.bind t (Ev.bind i1 (e2 ri i4 fun n => ?_))⟩
 rw [i3, s2.keys]
theorem szIntS_ev (a : List Int) (w : (Go.MG.wfR Go.MG.wfI) a) (n : Int) (hn : 0 ≤ n) (hb : n ≤ 1048576) : EvP (fun k => W_szIntS k a n) (fun r => r < 0 ∨ (0 ≤ r ∧ r ≤ n ∧ (a.length ≤ 1048576))) := by
 simp only [W_szIntS]
 have hw := w.1; unfold big at hw
 rw [wid (n := n - (a.length : Int)) (by omega) (by omega)]
 refine EvP.ite (fun _ => EvP.pure (.inl (by decide))) (fun hc => ?_)
 have hc : ¬ n - (a.length : Int) < 0 := by simpa using hc
 exact EvP.pure (.inr ⟨by omega, by omega, by omega⟩)
def cvPair (a : L_Pair) : T_Pair := ⟨a.A, a.B⟩
def smPair (a : L_Pair) : Prop := True
theorem szPairS_ev (a : List L_Pair) (w : (Go.MG.wfR wfL_Pair) a) (n : Int) (hn : 0 ≤ n) (hb : n ≤ 1048576) : EvP (fun k => W_szPairS k a n) (fun r => r < 0 ∨ (0 ≤ r ∧ r ≤ n ∧ (a.length ≤ 1048576))) := by
 simp only [W_szPairS]
 have hw := w.1; unfold big at hw
 rw [wid (n := n - (a.length : Int)) (by omega) (by omega)]
 refine EvP.ite (fun _ => EvP.pure (.inl (by decide))) (fun hc => ?_)
 have hc : ¬ n - (a.length : Int) < 0 := by simpa using hc
 exact EvP.pure (.inr ⟨by omega, by omega, by omega⟩)
def cvConfig (a : L_Config) : T_Config := ⟨a.UserRealm, a.ServiceRealm, (a.Links.map cvPair), (a.Proxy.map cvPair), a.Skew⟩
def smConfig (a : L_Config) : Prop := (a.UserRealm.length ≤ 1048576) ∧ (a.ServiceRealm.length ≤ 1048576) ∧ (a.Links.length ≤ 1048576) ∧ (a.Proxy.length ≤ 1048576)
theorem szConfig_ev (a : L_Config) (w : wfL_Config a) (n : Int) (hn : 0 ≤ n) (hb : n ≤ 1048576) : EvP (fun k => W_szConfig k a n) (fun r => r < 0 ∨ (0 ≤ r ∧ r ≤ n ∧ smConfig a)) := by
 simp only [W_szConfig]
 refine EvP.bind (szIntS_ev a.UserRealm w.1 n (by omega) (by omega)) (fun r0 hr0 => ?_)
 refine EvP.ite (fun _ => EvP.pure (.inl (by decide))) (fun hc => ?_)
 obtain ⟨p0, q0, s0⟩ := hr0.resolve_left (by simpa using hc)
 refine EvP.bind (szIntS_ev a.ServiceRealm w.2.1 r0 (by omega) (by omega)) (fun r1 hr1 => ?_)
 refine EvP.ite (fun _ => EvP.pure (.inl (by decide))) (fun hc => ?_)
 obtain ⟨p1, q1, s1⟩ := hr1.resolve_left (by simpa using hc)
 refine EvP.bind (szPairS_ev a.Links w.2.2.1 r1 (by omega) (by omega)) (fun r2 hr2 => ?_)
 refine EvP.ite (fun _ => EvP.pure (.inl (by decide))) (fun hc => ?_)
 obtain ⟨p2, q2, s2⟩ := hr2.resolve_left (by simpa using hc)
 refine EvP.bind (szPairS_ev a.Proxy w.2.2.2.1 r2 (by omega) (by omega)) (fun r3 hr3 => ?_)
 refine EvP.ite (fun _ => EvP.pure (.inl (by decide))) (fun hc => ?_)
 obtain ⟨p3, q3, s3⟩ := hr3.resolve_left (by simpa using hc)
 exact EvP.pure (.inr ⟨by omega, by omega, s0, s1, s2, s3⟩)
theorem szStringS_ev (a : List (List UInt8)) (w : (Go.MG.wfR Go.MG.wfS) a) (n : Int) (hn : 0 ≤ n) (hb : n ≤ 1048576) : EvP (fun k => W_szStringS k a n) (fun r => r < 0 ∨ (0 ≤ r ∧ r ≤ n ∧ (a.length ≤ 1048576 ∧ ∀ x ∈ a, x.length ≤ 1048576))) := by
 simp only [W_szStringS]
 have hw := w.1; unfold big at hw
 rw [wid (n := n - (a.length : Int)) (by omega) (by omega)]
 refine EvP.ite (fun _ => EvP.pure (.inl (by decide))) (fun hc => ?_)
 have hc : ¬ n - (a.length : Int) < 0 := by simpa using hc
 refine EvP.for (xs := a) (L := fun k s i => W_szStringS.l2 k a s i) (fun i m => 0 ≤ m ∧ m ≤ n ∧ ∀ x ∈ a.take i, x.length ≤ 1048576) (fun m hm => ?_) (fun i b m hb' hi hm hr => ?_) _ ⟨by omega, by omega, by simp⟩
 ·simp only [W_szStringS.l2, ltD0, cond_false]
  exact EvP.pure (.inr ⟨hm.1, hm.2.1, by omega, by simpa using hm.2.2⟩)
 ·simp only [W_szStringS.l2, ltD hi, cond_true]
  have hwb : b.length ≤ 9223372036854775807 := w.2 b (List.mem_of_getElem? hb')
  refine EvP.at? hb' ?_
  rw [wid (n := m - (b.length : Int)) (by omega) (by omega)]
  refine EvP.ite (fun _ => EvP.pure (.inl (by decide))) (fun hc => ?_)
  have hc : ¬ m - (b.length : Int) < 0 := by simpa using hc
  rw [wid1 (by omega)]
  refine hr _ ⟨by omega, by omega, fun x hx => ?_⟩
  rw [take_succ_get hb'] at hx
  rcases List.mem_append.1 hx with hx | hx
  ·exact hm.2.2 x hx
  ·rw [List.mem_singleton.1 hx]; omega
def cvKnown (a : L_Known) : T_Known := ⟨a.Terms, a.Keys⟩
def smKnown (a : L_Known) : Prop := (a.Terms.length ≤ 1048576 ∧ ∀ x ∈ a.Terms, x.length ≤ 1048576) ∧ (a.Keys.length ≤ 1048576)
theorem szKnown_ev (a : L_Known) (w : wfL_Known a) (n : Int) (hn : 0 ≤ n) (hb : n ≤ 1048576) : EvP (fun k => W_szKnown k a n) (fun r => r < 0 ∨ (0 ≤ r ∧ r ≤ n ∧ smKnown a)) := by
 simp only [W_szKnown]
 refine EvP.bind (szStringS_ev a.Terms w.1 n (by omega) (by omega)) (fun r0 hr0 => ?_)
 refine EvP.ite (fun _ => EvP.pure (.inl (by decide))) (fun hc => ?_)
 obtain ⟨p0, q0, s0⟩ := hr0.resolve_left (by simpa using hc)
 refine EvP.bind (szIntS_ev a.Keys w.2 r0 (by omega) (by omega)) (fun r1 hr1 => ?_)
 refine EvP.ite (fun _ => EvP.pure (.inl (by decide))) (fun hc => ?_)
 obtain ⟨p1, q1, s1⟩ := hr1.resolve_left (by simpa using hc)
 exact EvP.pure (.inr ⟨by omega, by omega, s0, s1⟩)
def cvWait (a : L_Wait) : T_Wait := ⟨a.On, a.Nonce, a.Key, a.Client⟩
def smWait (a : L_Wait) : Prop := True
theorem szWaitS_ev (a : List L_Wait) (w : (Go.MG.wfR wfL_Wait) a) (n : Int) (hn : 0 ≤ n) (hb : n ≤ 1048576) : EvP (fun k => W_szWaitS k a n) (fun r => r < 0 ∨ (0 ≤ r ∧ r ≤ n ∧ (a.length ≤ 1048576))) := by
 simp only [W_szWaitS]
 have hw := w.1; unfold big at hw
 rw [wid (n := n - (a.length : Int)) (by omega) (by omega)]
 refine EvP.ite (fun _ => EvP.pure (.inl (by decide))) (fun hc => ?_)
 have hc : ¬ n - (a.length : Int) < 0 := by simpa using hc
 exact EvP.pure (.inr ⟨by omega, by omega, by omega⟩)
def cvRest (a : L_Rest) : T_Rest := ⟨a.Servers, a.Ops, a.End⟩
def smRest (a : L_Rest) : Prop := True
def cvCred (a : L_Cred) : T_Cred := ⟨a.Owner, a.Client, a.Service, a.Key, (cvRest a.Rest), a.Ticket⟩
def smCred (a : L_Cred) : Prop := a.Ticket.length ≤ 1048576
theorem szCred_ev (a : L_Cred) (w : wfL_Cred a) (n : Int) (hn : 0 ≤ n) (hb : n ≤ 1048576) : EvP (fun k => W_szCred k a n) (fun r => r < 0 ∨ (0 ≤ r ∧ r ≤ n ∧ smCred a)) := by
 simp only [W_szCred]
 have hw5 : a.Ticket.length ≤ 9223372036854775807 := w.2.2.2.2.2
 rw [wid (n := n - (a.Ticket.length : Int)) (by omega) (by omega)]
 refine EvP.ite (fun _ => EvP.pure (.inl (by decide))) (fun hc => ?_)
 have hc5 : ¬ n - (a.Ticket.length : Int) < 0 := by simpa using hc
 exact EvP.pure (.inr ⟨by omega, by omega, (show a.Ticket.length ≤ 1048576 by omega)⟩)
theorem szCredS_ev (a : List L_Cred) (w : (Go.MG.wfR wfL_Cred) a) (n : Int) (hn : 0 ≤ n) (hb : n ≤ 1048576) : EvP (fun k => W_szCredS k a n) (fun r => r < 0 ∨ (0 ≤ r ∧ r ≤ n ∧ (a.length ≤ 1048576 ∧ ∀ x ∈ a, smCred x))) := by
 simp only [W_szCredS]
 have hw := w.1; unfold big at hw
 rw [wid (n := n - (a.length : Int)) (by omega) (by omega)]
 refine EvP.ite (fun _ => EvP.pure (.inl (by decide))) (fun hc => ?_)
 have hc : ¬ n - (a.length : Int) < 0 := by simpa using hc
 refine EvP.for (xs := a) (L := fun k s i => W_szCredS.l2 k a s i) (fun i m => 0 ≤ m ∧ m ≤ n ∧ ∀ x ∈ a.take i, smCred x) (fun m hm => ?_) (fun i b m hb' hi hm hr => ?_) _ ⟨by omega, by omega, by simp⟩
 ·simp only [W_szCredS.l2, ltD0, cond_false]
  exact EvP.pure (.inr ⟨hm.1, hm.2.1, by omega, by simpa using hm.2.2⟩)
 ·simp only [W_szCredS.l2, ltD hi, cond_true]
  refine EvP.at? hb' (EvP.bind (szCred_ev b (w.2 b (List.mem_of_getElem? hb')) m hm.1 (by omega)) (fun r hr1 => ?_))
  refine EvP.ite (fun _ => EvP.pure (.inl (by decide))) (fun hc => ?_)
  have hc : ¬ r < 0 := by simpa using hc
  obtain ⟨h1, h2, h3⟩ := hr1.resolve_left hc
  rw [wid1 (by omega)]
  refine hr r ⟨h1, by omega, fun x hx => ?_⟩
  rw [take_succ_get hb'] at hx
  rcases List.mem_append.1 hx with hx | hx
  ·exact hm.2.2 x hx
  ·rw [List.mem_singleton.1 hx]; exact h3
def cvAuth (a : L_Auth) : T_Auth := ⟨a.Client, a.Time, a.Seq⟩
def smAuth (a : L_Auth) : Prop := True
theorem szAuthS_ev (a : List L_Auth) (w : (Go.MG.wfR wfL_Auth) a) (n : Int) (hn : 0 ≤ n) (hb : n ≤ 1048576) : EvP (fun k => W_szAuthS k a n) (fun r => r < 0 ∨ (0 ≤ r ∧ r ≤ n ∧ (a.length ≤ 1048576))) := by
 simp only [W_szAuthS]
 have hw := w.1; unfold big at hw
 rw [wid (n := n - (a.length : Int)) (by omega) (by omega)]
 refine EvP.ite (fun _ => EvP.pure (.inl (by decide))) (fun hc => ?_)
 have hc : ¬ n - (a.length : Int) < 0 := by simpa using hc
 exact EvP.pure (.inr ⟨by omega, by omega, by omega⟩)
def cvCache (a : L_Cache) : T_Cache := ⟨a.Quiet, (a.Seen.map cvAuth)⟩
def smCache (a : L_Cache) : Prop := (a.Seen.length ≤ 1048576)
theorem szCache_ev (a : L_Cache) (w : wfL_Cache a) (n : Int) (hn : 0 ≤ n) (hb : n ≤ 1048576) : EvP (fun k => W_szCache k a n) (fun r => r < 0 ∨ (0 ≤ r ∧ r ≤ n ∧ smCache a)) := by
 simp only [W_szCache]
 refine EvP.bind (szAuthS_ev a.Seen w.2 n (by omega) (by omega)) (fun r1 hr1 => ?_)
 refine EvP.ite (fun _ => EvP.pure (.inl (by decide))) (fun hc => ?_)
 obtain ⟨p1, q1, s1⟩ := hr1.resolve_left (by simpa using hc)
 exact EvP.pure (.inr ⟨by omega, by omega, s1⟩)
theorem szCacheS_ev (a : List L_Cache) (w : (Go.MG.wfR wfL_Cache) a) (n : Int) (hn : 0 ≤ n) (hb : n ≤ 1048576) : EvP (fun k => W_szCacheS k a n) (fun r => r < 0 ∨ (0 ≤ r ∧ r ≤ n ∧ (a.length ≤ 1048576 ∧ ∀ x ∈ a, smCache x))) := by
 simp only [W_szCacheS]
 have hw := w.1; unfold big at hw
 rw [wid (n := n - (a.length : Int)) (by omega) (by omega)]
 refine EvP.ite (fun _ => EvP.pure (.inl (by decide))) (fun hc => ?_)
 have hc : ¬ n - (a.length : Int) < 0 := by simpa using hc
 refine EvP.for (xs := a) (L := fun k s i => W_szCacheS.l2 k a s i) (fun i m => 0 ≤ m ∧ m ≤ n ∧ ∀ x ∈ a.take i, smCache x) (fun m hm => ?_) (fun i b m hb' hi hm hr => ?_) _ ⟨by omega, by omega, by simp⟩
 ·simp only [W_szCacheS.l2, ltD0, cond_false]
  exact EvP.pure (.inr ⟨hm.1, hm.2.1, by omega, by simpa using hm.2.2⟩)
 ·simp only [W_szCacheS.l2, ltD hi, cond_true]
  refine EvP.at? hb' (EvP.bind (szCache_ev b (w.2 b (List.mem_of_getElem? hb')) m hm.1 (by omega)) (fun r hr1 => ?_))
  refine EvP.ite (fun _ => EvP.pure (.inl (by decide))) (fun hc => ?_)
  have hc : ¬ r < 0 := by simpa using hc
  obtain ⟨h1, h2, h3⟩ := hr1.resolve_left hc
  rw [wid1 (by omega)]
  refine hr r ⟨h1, by omega, fun x hx => ?_⟩
  rw [take_succ_get hb'] at hx
  rcases List.mem_append.1 hx with hx | hx
  ·exact hm.2.2 x hx
  ·rw [List.mem_singleton.1 hx]; exact h3
def cvEvent (a : L_Event) : T_Event := ⟨a.Kind, a.Realm, a.By, a.Client, a.Service, a.Key, a.Parent, a.Evid, (cvRest a.Rest)⟩
def smEvent (a : L_Event) : Prop := True
theorem szEventS_ev (a : List L_Event) (w : (Go.MG.wfR wfL_Event) a) (n : Int) (hn : 0 ≤ n) (hb : n ≤ 1048576) : EvP (fun k => W_szEventS k a n) (fun r => r < 0 ∨ (0 ≤ r ∧ r ≤ n ∧ (a.length ≤ 1048576))) := by
 simp only [W_szEventS]
 have hw := w.1; unfold big at hw
 rw [wid (n := n - (a.length : Int)) (by omega) (by omega)]
 refine EvP.ite (fun _ => EvP.pure (.inl (by decide))) (fun hc => ?_)
 have hc : ¬ n - (a.length : Int) < 0 := by simpa using hc
 exact EvP.pure (.inr ⟨by omega, by omega, by omega⟩)
def cvAccept (a : L_Accept) : T_Accept := ⟨a.Server, a.Client, a.Key, a.Op, a.Now, (cvAuth a.Auth), (cvRest a.Rest), a.Path, a.Via, a.Leaks, a.Ticket⟩
def smAccept (a : L_Accept) : Prop := (a.Path.length ≤ 1048576) ∧ (a.Via.length ≤ 1048576) ∧ a.Ticket.length ≤ 1048576
theorem szAccept_ev (a : L_Accept) (w : wfL_Accept a) (n : Int) (hn : 0 ≤ n) (hb : n ≤ 1048576) : EvP (fun k => W_szAccept k a n) (fun r => r < 0 ∨ (0 ≤ r ∧ r ≤ n ∧ smAccept a)) := by
 simp only [W_szAccept]
 refine EvP.bind (szIntS_ev a.Path w.2.2.2.2.2.2.2.1 n (by omega) (by omega)) (fun r7 hr7 => ?_)
 refine EvP.ite (fun _ => EvP.pure (.inl (by decide))) (fun hc => ?_)
 obtain ⟨p7, q7, s7⟩ := hr7.resolve_left (by simpa using hc)
 refine EvP.bind (szIntS_ev a.Via w.2.2.2.2.2.2.2.2.1 r7 (by omega) (by omega)) (fun r8 hr8 => ?_)
 refine EvP.ite (fun _ => EvP.pure (.inl (by decide))) (fun hc => ?_)
 obtain ⟨p8, q8, s8⟩ := hr8.resolve_left (by simpa using hc)
 have hw10 : a.Ticket.length ≤ 9223372036854775807 := w.2.2.2.2.2.2.2.2.2.2
 rw [wid (n := r8 - (a.Ticket.length : Int)) (by omega) (by omega)]
 refine EvP.ite (fun _ => EvP.pure (.inl (by decide))) (fun hc => ?_)
 have hc10 : ¬ r8 - (a.Ticket.length : Int) < 0 := by simpa using hc
 exact EvP.pure (.inr ⟨by omega, by omega, s7, s8, (show a.Ticket.length ≤ 1048576 by omega)⟩)
theorem szAcceptS_ev (a : List L_Accept) (w : (Go.MG.wfR wfL_Accept) a) (n : Int) (hn : 0 ≤ n) (hb : n ≤ 1048576) : EvP (fun k => W_szAcceptS k a n) (fun r => r < 0 ∨ (0 ≤ r ∧ r ≤ n ∧ (a.length ≤ 1048576 ∧ ∀ x ∈ a, smAccept x))) := by
 simp only [W_szAcceptS]
 have hw := w.1; unfold big at hw
 rw [wid (n := n - (a.length : Int)) (by omega) (by omega)]
 refine EvP.ite (fun _ => EvP.pure (.inl (by decide))) (fun hc => ?_)
 have hc : ¬ n - (a.length : Int) < 0 := by simpa using hc
 refine EvP.for (xs := a) (L := fun k s i => W_szAcceptS.l2 k a s i) (fun i m => 0 ≤ m ∧ m ≤ n ∧ ∀ x ∈ a.take i, smAccept x) (fun m hm => ?_) (fun i b m hb' hi hm hr => ?_) _ ⟨by omega, by omega, by simp⟩
 ·simp only [W_szAcceptS.l2, ltD0, cond_false]
  exact EvP.pure (.inr ⟨hm.1, hm.2.1, by omega, by simpa using hm.2.2⟩)
 ·simp only [W_szAcceptS.l2, ltD hi, cond_true]
  refine EvP.at? hb' (EvP.bind (szAccept_ev b (w.2 b (List.mem_of_getElem? hb')) m hm.1 (by omega)) (fun r hr1 => ?_))
  refine EvP.ite (fun _ => EvP.pure (.inl (by decide))) (fun hc => ?_)
  have hc : ¬ r < 0 := by simpa using hc
  obtain ⟨h1, h2, h3⟩ := hr1.resolve_left hc
  rw [wid1 (by omega)]
  refine hr r ⟨h1, by omega, fun x hx => ?_⟩
  rw [take_succ_get hb'] at hx
  rcases List.mem_append.1 hx with hx | hx
  ·exact hm.2.2 x hx
  ·rw [List.mem_singleton.1 hx]; exact h3
def cvWorld (a : L_World) : T_World := ⟨(cvConfig a.Config), a.Now, a.Fresh, a.Net, (cvKnown a.Known), (a.Waits.map cvWait), (a.Creds.map cvCred), (a.Caches.map cvCache), (a.Log.map cvEvent), (a.Accepts.map cvAccept), a.Leaked⟩
def smWorld (a : L_World) : Prop := smConfig a.Config ∧ (a.Net.length ≤ 1048576 ∧ ∀ x ∈ a.Net, x.length ≤ 1048576) ∧ smKnown a.Known ∧ (a.Waits.length ≤ 1048576) ∧ (a.Creds.length ≤ 1048576 ∧ ∀ x ∈ a.Creds, smCred x) ∧ (a.Caches.length ≤ 1048576 ∧ ∀ x ∈ a.Caches, smCache x) ∧ (a.Log.length ≤ 1048576) ∧ (a.Accepts.length ≤ 1048576 ∧ ∀ x ∈ a.Accepts, smAccept x) ∧ (a.Leaked.length ≤ 1048576)
theorem szWorld_ev (a : L_World) (w : wfL_World a) (n : Int) (hn : 0 ≤ n) (hb : n ≤ 1048576) : EvP (fun k => W_szWorld k a n) (fun r => r < 0 ∨ (0 ≤ r ∧ r ≤ n ∧ smWorld a)) := by
 simp only [W_szWorld]
 refine EvP.bind (szConfig_ev a.Config w.1 n (by omega) (by omega)) (fun r0 hr0 => ?_)
 refine EvP.ite (fun _ => EvP.pure (.inl (by decide))) (fun hc => ?_)
 obtain ⟨p0, q0, s0⟩ := hr0.resolve_left (by simpa using hc)
 refine EvP.bind (szStringS_ev a.Net w.2.2.2.1 r0 (by omega) (by omega)) (fun r3 hr3 => ?_)
 refine EvP.ite (fun _ => EvP.pure (.inl (by decide))) (fun hc => ?_)
 obtain ⟨p3, q3, s3⟩ := hr3.resolve_left (by simpa using hc)
 refine EvP.bind (szKnown_ev a.Known w.2.2.2.2.1 r3 (by omega) (by omega)) (fun r4 hr4 => ?_)
 refine EvP.ite (fun _ => EvP.pure (.inl (by decide))) (fun hc => ?_)
 obtain ⟨p4, q4, s4⟩ := hr4.resolve_left (by simpa using hc)
 refine EvP.bind (szWaitS_ev a.Waits w.2.2.2.2.2.1 r4 (by omega) (by omega)) (fun r5 hr5 => ?_)
 refine EvP.ite (fun _ => EvP.pure (.inl (by decide))) (fun hc => ?_)
 obtain ⟨p5, q5, s5⟩ := hr5.resolve_left (by simpa using hc)
 refine EvP.bind (szCredS_ev a.Creds w.2.2.2.2.2.2.1 r5 (by omega) (by omega)) (fun r6 hr6 => ?_)
 refine EvP.ite (fun _ => EvP.pure (.inl (by decide))) (fun hc => ?_)
 obtain ⟨p6, q6, s6⟩ := hr6.resolve_left (by simpa using hc)
 refine EvP.bind (szCacheS_ev a.Caches w.2.2.2.2.2.2.2.1 r6 (by omega) (by omega)) (fun r7 hr7 => ?_)
 refine EvP.ite (fun _ => EvP.pure (.inl (by decide))) (fun hc => ?_)
 obtain ⟨p7, q7, s7⟩ := hr7.resolve_left (by simpa using hc)
 refine EvP.bind (szEventS_ev a.Log w.2.2.2.2.2.2.2.2.1 r7 (by omega) (by omega)) (fun r8 hr8 => ?_)
 refine EvP.ite (fun _ => EvP.pure (.inl (by decide))) (fun hc => ?_)
 obtain ⟨p8, q8, s8⟩ := hr8.resolve_left (by simpa using hc)
 refine EvP.bind (szAcceptS_ev a.Accepts w.2.2.2.2.2.2.2.2.2.1 r8 (by omega) (by omega)) (fun r9 hr9 => ?_)
 refine EvP.ite (fun _ => EvP.pure (.inl (by decide))) (fun hc => ?_)
 obtain ⟨p9, q9, s9⟩ := hr9.resolve_left (by simpa using hc)
 refine EvP.bind (szIntS_ev a.Leaked w.2.2.2.2.2.2.2.2.2.2 r9 (by omega) (by omega)) (fun r10 hr10 => ?_)
 refine EvP.ite (fun _ => EvP.pure (.inl (by decide))) (fun hc => ?_)
 obtain ⟨p10, q10, s10⟩ := hr10.resolve_left (by simpa using hc)
 exact EvP.pure (.inr ⟨by omega, by omega, s0, s3, s4, s5, s6, s7, s8, s9, s10⟩)
theorem toIntS_ev (xs : List Int) (h : (xs.length ≤ 1048576)) : Ev (fun k => W_toIntS k xs) xs := by
 have hl : xs.length ≤ 1048576 := h
 simp only [W_toIntS]
 refine Ev.ite (fun _ => ?_) (fun hc => by rw [decide_eq_true (by omega)] at hc; cases hc)
 simp only [Int.toNat_natCast]
 refine Ev.to (a := xs.map id) ?_ (List.map_id xs)
 exact Ev.copy (xs := xs) (L := fun k s i => W_toIntS.l2 k xs s i) (f := id) (z := (0 : Int)) (fun s => by simp only [W_toIntS.l2, ltD0, cond_false]; exact Ev.pure _) (fun i b s r hb hi hz hr => by
  simp only [W_toIntS.l2, ltD hi, cond_true]
  refine Ev.at? hb (Ev.at? hz ?_)
  rw [wid1 (by omega)]; simpa only [Int.toNat_natCast, id] using hr)
theorem toPair_ev (a : L_Pair) (h : smPair a) : Ev (fun k => W_toPair k a) (cvPair a) := by
 simp only [W_toPair]
 exact Ev.pure _
theorem toPairS_ev (xs : List L_Pair) (h : (xs.length ≤ 1048576)) : Ev (fun k => W_toPairS k xs) (xs.map cvPair) := by
 have hl : xs.length ≤ 1048576 := h
 simp only [W_toPairS]
 refine Ev.ite (fun _ => ?_) (fun hc => by rw [decide_eq_true (by omega)] at hc; cases hc)
 simp only [Int.toNat_natCast]
 exact Ev.copy (xs := xs) (L := fun k s i => W_toPairS.l2 k xs s i) (f := cvPair) (z := (⟨(0 : Int), (0 : Int)⟩ : T_Pair)) (fun s => by simp only [W_toPairS.l2, ltD0, cond_false]; exact Ev.pure _) (fun i b s r hb hi hz hr => by
  simp only [W_toPairS.l2, ltD hi, cond_true]
  refine Ev.at? hb (Ev.bind (toPair_ev b trivial) (Ev.at? hz ?_))
  rw [wid1 (by omega)]; simpa only [Int.toNat_natCast] using hr)
theorem toConfig_ev (a : L_Config) (h : smConfig a) : Ev (fun k => W_toConfig k a) (cvConfig a) := by
 simp only [W_toConfig]
 refine Ev.bind (toIntS_ev _ h.1) ?_
 refine Ev.bind (toIntS_ev _ h.2.1) ?_
 refine Ev.bind (toPairS_ev _ h.2.2.1) ?_
 refine Ev.bind (toPairS_ev _ h.2.2.2) ?_
 exact Ev.pure _
theorem toStringS_ev (xs : List (List UInt8)) (h : (xs.length ≤ 1048576 ∧ ∀ x ∈ xs, x.length ≤ 1048576)) : Ev (fun k => W_toStringS k xs) xs := by
 have hl : xs.length ≤ 1048576 := h.1
 simp only [W_toStringS]
 refine Ev.ite (fun _ => ?_) (fun hc => by rw [decide_eq_true (by omega)] at hc; cases hc)
 simp only [Int.toNat_natCast]
 refine Ev.to (a := xs.map id) ?_ (List.map_id xs)
 exact Ev.copy (xs := xs) (L := fun k s i => W_toStringS.l2 k xs s i) (f := id) (z := ([] : List UInt8)) (fun s => by simp only [W_toStringS.l2, ltD0, cond_false]; exact Ev.pure _) (fun i b s r hb hi hz hr => by
  simp only [W_toStringS.l2, ltD hi, cond_true]
  refine Ev.at? hb (Ev.at? hz ?_)
  rw [wid1 (by omega)]; simpa only [Int.toNat_natCast, id] using hr)
theorem toKnown_ev (a : L_Known) (h : smKnown a) : Ev (fun k => W_toKnown k a) (cvKnown a) := by
 simp only [W_toKnown]
 refine Ev.bind (toStringS_ev _ h.1) ?_
 refine Ev.bind (toIntS_ev _ h.2) ?_
 exact Ev.pure _
theorem toWait_ev (a : L_Wait) (h : smWait a) : Ev (fun k => W_toWait k a) (cvWait a) := by
 simp only [W_toWait]
 exact Ev.pure _
theorem toWaitS_ev (xs : List L_Wait) (h : (xs.length ≤ 1048576)) : Ev (fun k => W_toWaitS k xs) (xs.map cvWait) := by
 have hl : xs.length ≤ 1048576 := h
 simp only [W_toWaitS]
 refine Ev.ite (fun _ => ?_) (fun hc => by rw [decide_eq_true (by omega)] at hc; cases hc)
 simp only [Int.toNat_natCast]
 exact Ev.copy (xs := xs) (L := fun k s i => W_toWaitS.l2 k xs s i) (f := cvWait) (z := (⟨false, (0 : Int), (0 : Int), (0 : Int)⟩ : T_Wait)) (fun s => by simp only [W_toWaitS.l2, ltD0, cond_false]; exact Ev.pure _) (fun i b s r hb hi hz hr => by
  simp only [W_toWaitS.l2, ltD hi, cond_true]
  refine Ev.at? hb (Ev.bind (toWait_ev b trivial) (Ev.at? hz ?_))
  rw [wid1 (by omega)]; simpa only [Int.toNat_natCast] using hr)
theorem toRest_ev (a : L_Rest) (h : smRest a) : Ev (fun k => W_toRest k a) (cvRest a) := by
 simp only [W_toRest]
 exact Ev.pure _
theorem toCred_ev (a : L_Cred) (h : smCred a) : Ev (fun k => W_toCred k a) (cvCred a) := by
 simp only [W_toCred]
 refine Ev.bind (toRest_ev _ trivial) ?_
 exact Ev.pure _
theorem toCredS_ev (xs : List L_Cred) (h : (xs.length ≤ 1048576 ∧ ∀ x ∈ xs, smCred x)) : Ev (fun k => W_toCredS k xs) (xs.map cvCred) := by
 have hl : xs.length ≤ 1048576 := h.1
 simp only [W_toCredS]
 refine Ev.ite (fun _ => ?_) (fun hc => by rw [decide_eq_true (by omega)] at hc; cases hc)
 simp only [Int.toNat_natCast]
 exact Ev.copy (xs := xs) (L := fun k s i => W_toCredS.l2 k xs s i) (f := cvCred) (z := (⟨(0 : Int), (0 : Int), (0 : Int), (0 : Int), (⟨(0 : Int), (0 : Int), (0 : Int)⟩ : T_Rest), ([] : List UInt8)⟩ : T_Cred)) (fun s => by simp only [W_toCredS.l2, ltD0, cond_false]; exact Ev.pure _) (fun i b s r hb hi hz hr => by
  simp only [W_toCredS.l2, ltD hi, cond_true]
  refine Ev.at? hb (Ev.bind (toCred_ev b (h.2 b (List.mem_of_getElem? hb))) (Ev.at? hz ?_))
  rw [wid1 (by omega)]; simpa only [Int.toNat_natCast] using hr)
theorem toAuth_ev (a : L_Auth) (h : smAuth a) : Ev (fun k => W_toAuth k a) (cvAuth a) := by
 simp only [W_toAuth]
 exact Ev.pure _
theorem toAuthS_ev (xs : List L_Auth) (h : (xs.length ≤ 1048576)) : Ev (fun k => W_toAuthS k xs) (xs.map cvAuth) := by
 have hl : xs.length ≤ 1048576 := h
 simp only [W_toAuthS]
 refine Ev.ite (fun _ => ?_) (fun hc => by rw [decide_eq_true (by omega)] at hc; cases hc)
 simp only [Int.toNat_natCast]
 exact Ev.copy (xs := xs) (L := fun k s i => W_toAuthS.l2 k xs s i) (f := cvAuth) (z := (⟨(0 : Int), (0 : Int), (0 : Int)⟩ : T_Auth)) (fun s => by simp only [W_toAuthS.l2, ltD0, cond_false]; exact Ev.pure _) (fun i b s r hb hi hz hr => by
  simp only [W_toAuthS.l2, ltD hi, cond_true]
  refine Ev.at? hb (Ev.bind (toAuth_ev b trivial) (Ev.at? hz ?_))
  rw [wid1 (by omega)]; simpa only [Int.toNat_natCast] using hr)
theorem toCache_ev (a : L_Cache) (h : smCache a) : Ev (fun k => W_toCache k a) (cvCache a) := by
 simp only [W_toCache]
 refine Ev.bind (toAuthS_ev _ h) ?_
 exact Ev.pure _
theorem toCacheS_ev (xs : List L_Cache) (h : (xs.length ≤ 1048576 ∧ ∀ x ∈ xs, smCache x)) : Ev (fun k => W_toCacheS k xs) (xs.map cvCache) := by
 have hl : xs.length ≤ 1048576 := h.1
 simp only [W_toCacheS]
 refine Ev.ite (fun _ => ?_) (fun hc => by rw [decide_eq_true (by omega)] at hc; cases hc)
 simp only [Int.toNat_natCast]
 exact Ev.copy (xs := xs) (L := fun k s i => W_toCacheS.l2 k xs s i) (f := cvCache) (z := (⟨(0 : Int), []⟩ : T_Cache)) (fun s => by simp only [W_toCacheS.l2, ltD0, cond_false]; exact Ev.pure _) (fun i b s r hb hi hz hr => by
  simp only [W_toCacheS.l2, ltD hi, cond_true]
  refine Ev.at? hb (Ev.bind (toCache_ev b (h.2 b (List.mem_of_getElem? hb))) (Ev.at? hz ?_))
  rw [wid1 (by omega)]; simpa only [Int.toNat_natCast] using hr)
theorem toEvent_ev (a : L_Event) (h : smEvent a) : Ev (fun k => W_toEvent k a) (cvEvent a) := by
 simp only [W_toEvent]
 refine Ev.bind (toRest_ev _ trivial) ?_
 exact Ev.pure _
theorem toEventS_ev (xs : List L_Event) (h : (xs.length ≤ 1048576)) : Ev (fun k => W_toEventS k xs) (xs.map cvEvent) := by
 have hl : xs.length ≤ 1048576 := h
 simp only [W_toEventS]
 refine Ev.ite (fun _ => ?_) (fun hc => by rw [decide_eq_true (by omega)] at hc; cases hc)
 simp only [Int.toNat_natCast]
 exact Ev.copy (xs := xs) (L := fun k s i => W_toEventS.l2 k xs s i) (f := cvEvent) (z := (⟨(0 : Int), (0 : Int), (0 : Int), (0 : Int), (0 : Int), (0 : Int), (0 : Int), (0 : Int), (⟨(0 : Int), (0 : Int), (0 : Int)⟩ : T_Rest)⟩ : T_Event)) (fun s => by simp only [W_toEventS.l2, ltD0, cond_false]; exact Ev.pure _) (fun i b s r hb hi hz hr => by
  simp only [W_toEventS.l2, ltD hi, cond_true]
  refine Ev.at? hb (Ev.bind (toEvent_ev b trivial) (Ev.at? hz ?_))
  rw [wid1 (by omega)]; simpa only [Int.toNat_natCast] using hr)
theorem toAccept_ev (a : L_Accept) (h : smAccept a) : Ev (fun k => W_toAccept k a) (cvAccept a) := by
 simp only [W_toAccept]
 refine Ev.bind (toAuth_ev _ trivial) ?_
 refine Ev.bind (toRest_ev _ trivial) ?_
 refine Ev.bind (toIntS_ev _ h.1) ?_
 refine Ev.bind (toIntS_ev _ h.2.1) ?_
 exact Ev.pure _
theorem toAcceptS_ev (xs : List L_Accept) (h : (xs.length ≤ 1048576 ∧ ∀ x ∈ xs, smAccept x)) : Ev (fun k => W_toAcceptS k xs) (xs.map cvAccept) := by
 have hl : xs.length ≤ 1048576 := h.1
 simp only [W_toAcceptS]
 refine Ev.ite (fun _ => ?_) (fun hc => by rw [decide_eq_true (by omega)] at hc; cases hc)
 simp only [Int.toNat_natCast]
 exact Ev.copy (xs := xs) (L := fun k s i => W_toAcceptS.l2 k xs s i) (f := cvAccept) (z := (⟨(0 : Int), (0 : Int), (0 : Int), (0 : Int), (0 : Int), (⟨(0 : Int), (0 : Int), (0 : Int)⟩ : T_Auth), (⟨(0 : Int), (0 : Int), (0 : Int)⟩ : T_Rest), [], [], (0 : Int), ([] : List UInt8)⟩ : T_Accept)) (fun s => by simp only [W_toAcceptS.l2, ltD0, cond_false]; exact Ev.pure _) (fun i b s r hb hi hz hr => by
  simp only [W_toAcceptS.l2, ltD hi, cond_true]
  refine Ev.at? hb (Ev.bind (toAccept_ev b (h.2 b (List.mem_of_getElem? hb))) (Ev.at? hz ?_))
  rw [wid1 (by omega)]; simpa only [Int.toNat_natCast] using hr)
theorem toWorld_ev (a : L_World) (h : smWorld a) : Ev (fun k => W_toWorld k a) (cvWorld a) := by
 simp only [W_toWorld]
 refine Ev.bind (toConfig_ev _ h.1) ?_
 refine Ev.bind (toStringS_ev _ h.2.1) ?_
 refine Ev.bind (toKnown_ev _ h.2.2.1) ?_
 refine Ev.bind (toWaitS_ev _ h.2.2.2.1) ?_
 refine Ev.bind (toCredS_ev _ h.2.2.2.2.1) ?_
 refine Ev.bind (toCacheS_ev _ h.2.2.2.2.2.1) ?_
 refine Ev.bind (toEventS_ev _ h.2.2.2.2.2.2.1) ?_
 refine Ev.bind (toAcceptS_ev _ h.2.2.2.2.2.2.2.1) ?_
 refine Ev.bind (toIntS_ev _ h.2.2.2.2.2.2.2.2) ?_
 exact Ev.pure _
theorem eqIntS_ev (xs : List Int) (h : (xs.length ≤ 1099511627776)) : Ev (fun k => W_eqIntS k xs xs) true := by
 have hl : xs.length ≤ 1099511627776 := h
 simp only [W_eqIntS, bne_self_eq_false, cond_false]
 refine Ev.for (xs := xs) (L := fun k (_ : Unit) i => W_eqIntS.l2 k xs xs i) (f := fun _ _ => true) (fun s => by simp only [W_eqIntS.l2, ltD0, cond_false]; exact Ev.pure _) (fun i b s hb hi hr => ?_) ()
 simp only [W_eqIntS.l2, ltD hi, cond_true]
 refine Ev.at? hb (Ev.at? hb (?_))
 simp only [bne_self_eq_false, Bool.not_true, cond_false]
 rw [wid1 (by omega)]; exact hr ()
theorem eqPair_ev (a : T_Pair) : Ev (fun k => W_eqPair k a a) true := by
 simp only [W_eqPair, bne_self_eq_false, cond_false]
 exact Ev.pure _
theorem eqPairS_ev (xs : List T_Pair) (h : (xs.length ≤ 1099511627776)) : Ev (fun k => W_eqPairS k xs xs) true := by
 have hl : xs.length ≤ 1099511627776 := h
 simp only [W_eqPairS, bne_self_eq_false, cond_false]
 refine Ev.for (xs := xs) (L := fun k (_ : Unit) i => W_eqPairS.l2 k xs xs i) (f := fun _ _ => true) (fun s => by simp only [W_eqPairS.l2, ltD0, cond_false]; exact Ev.pure _) (fun i b s hb hi hr => ?_) ()
 simp only [W_eqPairS.l2, ltD hi, cond_true]
 refine Ev.at? hb (Ev.at? hb (Ev.bind (eqPair_ev b) ?_))
 simp only [bne_self_eq_false, Bool.not_true, cond_false]
 rw [wid1 (by omega)]; exact hr ()
def okConfig (a : T_Config) : Prop := (a.UserRealm.length ≤ 1099511627776) ∧ (a.ServiceRealm.length ≤ 1099511627776) ∧ (a.Links.length ≤ 1099511627776) ∧ (a.Proxy.length ≤ 1099511627776)
theorem eqConfig_ev (a : T_Config) (h : okConfig a) : Ev (fun k => W_eqConfig k a a) true := by
 simp only [W_eqConfig, bne_self_eq_false, cond_false]
 refine Ev.bind (eqIntS_ev _ h.1) ?_
 simp only [Bool.not_true, cond_false]
 refine Ev.bind (eqIntS_ev _ h.2.1) ?_
 simp only [Bool.not_true, cond_false]
 refine Ev.bind (eqPairS_ev _ h.2.2.1) ?_
 simp only [Bool.not_true, cond_false]
 refine Ev.bind (eqPairS_ev _ h.2.2.2) ?_
 simp only [Bool.not_true, cond_false]
 exact Ev.pure _
theorem eqStringS_ev (xs : List (List UInt8)) (h : (xs.length ≤ 1099511627776)) : Ev (fun k => W_eqStringS k xs xs) true := by
 have hl : xs.length ≤ 1099511627776 := h
 simp only [W_eqStringS, bne_self_eq_false, cond_false]
 refine Ev.for (xs := xs) (L := fun k (_ : Unit) i => W_eqStringS.l2 k xs xs i) (f := fun _ _ => true) (fun s => by simp only [W_eqStringS.l2, ltD0, cond_false]; exact Ev.pure _) (fun i b s hb hi hr => ?_) ()
 simp only [W_eqStringS.l2, ltD hi, cond_true]
 refine Ev.at? hb (Ev.at? hb (?_))
 simp only [bne_self_eq_false, Bool.not_true, cond_false]
 rw [wid1 (by omega)]; exact hr ()
def okKnown (a : T_Known) : Prop := (a.Terms.length ≤ 1099511627776) ∧ (a.Keys.length ≤ 1099511627776)
theorem eqKnown_ev (a : T_Known) (h : okKnown a) : Ev (fun k => W_eqKnown k a a) true := by
 simp only [W_eqKnown, bne_self_eq_false, cond_false]
 refine Ev.bind (eqStringS_ev _ h.1) ?_
 simp only [Bool.not_true, cond_false]
 refine Ev.bind (eqIntS_ev _ h.2) ?_
 simp only [Bool.not_true, cond_false]
 exact Ev.pure _
theorem eqWait_ev (a : T_Wait) : Ev (fun k => W_eqWait k a a) true := by
 simp only [W_eqWait, bne_self_eq_false, cond_false]
 exact Ev.pure _
theorem eqWaitS_ev (xs : List T_Wait) (h : (xs.length ≤ 1099511627776)) : Ev (fun k => W_eqWaitS k xs xs) true := by
 have hl : xs.length ≤ 1099511627776 := h
 simp only [W_eqWaitS, bne_self_eq_false, cond_false]
 refine Ev.for (xs := xs) (L := fun k (_ : Unit) i => W_eqWaitS.l2 k xs xs i) (f := fun _ _ => true) (fun s => by simp only [W_eqWaitS.l2, ltD0, cond_false]; exact Ev.pure _) (fun i b s hb hi hr => ?_) ()
 simp only [W_eqWaitS.l2, ltD hi, cond_true]
 refine Ev.at? hb (Ev.at? hb (Ev.bind (eqWait_ev b) ?_))
 simp only [bne_self_eq_false, Bool.not_true, cond_false]
 rw [wid1 (by omega)]; exact hr ()
theorem eqRest_ev (a : T_Rest) : Ev (fun k => W_eqRest k a a) true := by
 simp only [W_eqRest, bne_self_eq_false, cond_false]
 exact Ev.pure _
theorem eqCred_ev (a : T_Cred) : Ev (fun k => W_eqCred k a a) true := by
 simp only [W_eqCred, bne_self_eq_false, cond_false]
 refine Ev.bind (eqRest_ev _) ?_
 simp only [Bool.not_true, cond_false]
 exact Ev.pure _
theorem eqCredS_ev (xs : List T_Cred) (h : (xs.length ≤ 1099511627776)) : Ev (fun k => W_eqCredS k xs xs) true := by
 have hl : xs.length ≤ 1099511627776 := h
 simp only [W_eqCredS, bne_self_eq_false, cond_false]
 refine Ev.for (xs := xs) (L := fun k (_ : Unit) i => W_eqCredS.l2 k xs xs i) (f := fun _ _ => true) (fun s => by simp only [W_eqCredS.l2, ltD0, cond_false]; exact Ev.pure _) (fun i b s hb hi hr => ?_) ()
 simp only [W_eqCredS.l2, ltD hi, cond_true]
 refine Ev.at? hb (Ev.at? hb (Ev.bind (eqCred_ev b) ?_))
 simp only [bne_self_eq_false, Bool.not_true, cond_false]
 rw [wid1 (by omega)]; exact hr ()
theorem eqAuth_ev (a : T_Auth) : Ev (fun k => W_eqAuth k a a) true := by
 simp only [W_eqAuth, bne_self_eq_false, cond_false]
 exact Ev.pure _
theorem eqAuthS_ev (xs : List T_Auth) (h : (xs.length ≤ 1099511627776)) : Ev (fun k => W_eqAuthS k xs xs) true := by
 have hl : xs.length ≤ 1099511627776 := h
 simp only [W_eqAuthS, bne_self_eq_false, cond_false]
 refine Ev.for (xs := xs) (L := fun k (_ : Unit) i => W_eqAuthS.l2 k xs xs i) (f := fun _ _ => true) (fun s => by simp only [W_eqAuthS.l2, ltD0, cond_false]; exact Ev.pure _) (fun i b s hb hi hr => ?_) ()
 simp only [W_eqAuthS.l2, ltD hi, cond_true]
 refine Ev.at? hb (Ev.at? hb (Ev.bind (eqAuth_ev b) ?_))
 simp only [bne_self_eq_false, Bool.not_true, cond_false]
 rw [wid1 (by omega)]; exact hr ()
def okCache (a : T_Cache) : Prop := (a.Seen.length ≤ 1099511627776)
theorem eqCache_ev (a : T_Cache) (h : okCache a) : Ev (fun k => W_eqCache k a a) true := by
 simp only [W_eqCache, bne_self_eq_false, cond_false]
 refine Ev.bind (eqAuthS_ev _ h) ?_
 simp only [Bool.not_true, cond_false]
 exact Ev.pure _
theorem eqCacheS_ev (xs : List T_Cache) (h : (xs.length ≤ 1099511627776 ∧ ∀ x ∈ xs, okCache x)) : Ev (fun k => W_eqCacheS k xs xs) true := by
 have hl : xs.length ≤ 1099511627776 := h.1
 simp only [W_eqCacheS, bne_self_eq_false, cond_false]
 refine Ev.for (xs := xs) (L := fun k (_ : Unit) i => W_eqCacheS.l2 k xs xs i) (f := fun _ _ => true) (fun s => by simp only [W_eqCacheS.l2, ltD0, cond_false]; exact Ev.pure _) (fun i b s hb hi hr => ?_) ()
 simp only [W_eqCacheS.l2, ltD hi, cond_true]
 refine Ev.at? hb (Ev.at? hb (Ev.bind (eqCache_ev b (h.2 b (List.mem_of_getElem? hb))) ?_))
 simp only [bne_self_eq_false, Bool.not_true, cond_false]
 rw [wid1 (by omega)]; exact hr ()
theorem eqEvent_ev (a : T_Event) : Ev (fun k => W_eqEvent k a a) true := by
 simp only [W_eqEvent, bne_self_eq_false, cond_false]
 refine Ev.bind (eqRest_ev _) ?_
 simp only [Bool.not_true, cond_false]
 exact Ev.pure _
theorem eqEventS_ev (xs : List T_Event) (h : (xs.length ≤ 1099511627776)) : Ev (fun k => W_eqEventS k xs xs) true := by
 have hl : xs.length ≤ 1099511627776 := h
 simp only [W_eqEventS, bne_self_eq_false, cond_false]
 refine Ev.for (xs := xs) (L := fun k (_ : Unit) i => W_eqEventS.l2 k xs xs i) (f := fun _ _ => true) (fun s => by simp only [W_eqEventS.l2, ltD0, cond_false]; exact Ev.pure _) (fun i b s hb hi hr => ?_) ()
 simp only [W_eqEventS.l2, ltD hi, cond_true]
 refine Ev.at? hb (Ev.at? hb (Ev.bind (eqEvent_ev b) ?_))
 simp only [bne_self_eq_false, Bool.not_true, cond_false]
 rw [wid1 (by omega)]; exact hr ()
def okAccept (a : T_Accept) : Prop := (a.Path.length ≤ 1099511627776) ∧ (a.Via.length ≤ 1099511627776)
theorem eqAccept_ev (a : T_Accept) (h : okAccept a) : Ev (fun k => W_eqAccept k a a) true := by
 simp only [W_eqAccept, bne_self_eq_false, cond_false]
 refine Ev.bind (eqAuth_ev _) ?_
 simp only [Bool.not_true, cond_false]
 refine Ev.bind (eqRest_ev _) ?_
 simp only [Bool.not_true, cond_false]
 refine Ev.bind (eqIntS_ev _ h.1) ?_
 simp only [Bool.not_true, cond_false]
 refine Ev.bind (eqIntS_ev _ h.2) ?_
 simp only [Bool.not_true, cond_false]
 exact Ev.pure _
theorem eqAcceptS_ev (xs : List T_Accept) (h : (xs.length ≤ 1099511627776 ∧ ∀ x ∈ xs, okAccept x)) : Ev (fun k => W_eqAcceptS k xs xs) true := by
 have hl : xs.length ≤ 1099511627776 := h.1
 simp only [W_eqAcceptS, bne_self_eq_false, cond_false]
 refine Ev.for (xs := xs) (L := fun k (_ : Unit) i => W_eqAcceptS.l2 k xs xs i) (f := fun _ _ => true) (fun s => by simp only [W_eqAcceptS.l2, ltD0, cond_false]; exact Ev.pure _) (fun i b s hb hi hr => ?_) ()
 simp only [W_eqAcceptS.l2, ltD hi, cond_true]
 refine Ev.at? hb (Ev.at? hb (Ev.bind (eqAccept_ev b (h.2 b (List.mem_of_getElem? hb))) ?_))
 simp only [bne_self_eq_false, Bool.not_true, cond_false]
 rw [wid1 (by omega)]; exact hr ()
def okWorld (a : T_World) : Prop := okConfig a.Config ∧ (a.Net.length ≤ 1099511627776) ∧ okKnown a.Known ∧ (a.Waits.length ≤ 1099511627776) ∧ (a.Creds.length ≤ 1099511627776) ∧ (a.Caches.length ≤ 1099511627776 ∧ ∀ x ∈ a.Caches, okCache x) ∧ (a.Log.length ≤ 1099511627776) ∧ (a.Accepts.length ≤ 1099511627776 ∧ ∀ x ∈ a.Accepts, okAccept x) ∧ (a.Leaked.length ≤ 1099511627776)
theorem eqWorld_ev (a : T_World) (h : okWorld a) : Ev (fun k => W_eqWorld k a a) true := by
 simp only [W_eqWorld, bne_self_eq_false, cond_false]
 refine Ev.bind (eqConfig_ev _ h.1) ?_
 simp only [Bool.not_true, cond_false]
 refine Ev.bind (eqStringS_ev _ h.2.1) ?_
 simp only [Bool.not_true, cond_false]
 refine Ev.bind (eqKnown_ev _ h.2.2.1) ?_
 simp only [Bool.not_true, cond_false]
 refine Ev.bind (eqWaitS_ev _ h.2.2.2.1) ?_
 simp only [Bool.not_true, cond_false]
 refine Ev.bind (eqCredS_ev _ h.2.2.2.2.1) ?_
 simp only [Bool.not_true, cond_false]
 refine Ev.bind (eqCacheS_ev _ h.2.2.2.2.2.1) ?_
 simp only [Bool.not_true, cond_false]
 refine Ev.bind (eqEventS_ev _ h.2.2.2.2.2.2.1) ?_
 simp only [Bool.not_true, cond_false]
 refine Ev.bind (eqAcceptS_ev _ h.2.2.2.2.2.2.2.1) ?_
 simp only [Bool.not_true, cond_false]
 refine Ev.bind (eqIntS_ev _ h.2.2.2.2.2.2.2.2) ?_
 simp only [Bool.not_true, cond_false]
 exact Ev.pure _
theorem okcvAccept {a : L_Accept} (h : smAccept a) : okAccept (cvAccept a) := ⟨(by have := h.1; (try simp only [smAccept] at this); simp only [okAccept, cvAccept]; omega), (by have := h.2.1; (try simp only [smAccept] at this); simp only [okAccept, cvAccept]; omega)⟩
theorem okcvKnown {a : L_Known} (h : smKnown a) : okKnown (cvKnown a) := ⟨(by have := h.1; (try simp only [smKnown] at this); simp only [okKnown, cvKnown]; omega), (by have := h.2; (try simp only [smKnown] at this); simp only [okKnown, cvKnown]; omega)⟩
theorem okcvCache {a : L_Cache} (h : smCache a) : okCache (cvCache a) := (by have := h; (try simp only [smCache] at this); simp only [okCache, cvCache, List.length_map]; omega)
theorem okcvConfig {a : L_Config} (h : smConfig a) : okConfig (cvConfig a) := ⟨(by have := h.1; (try simp only [smConfig] at this); simp only [okConfig, cvConfig]; omega), (by have := h.2.1; (try simp only [smConfig] at this); simp only [okConfig, cvConfig]; omega), (by have := h.2.2.1; (try simp only [smConfig] at this); simp only [okConfig, cvConfig, List.length_map]; omega), (by have := h.2.2.2; (try simp only [smConfig] at this); simp only [okConfig, cvConfig, List.length_map]; omega)⟩
theorem okcvWorld {a : L_World} (h : smWorld a) : okWorld (cvWorld a) := ⟨okcvConfig h.1, (by have := h.2.1; (try simp only [smWorld] at this); simp only [okWorld, cvWorld]; omega), okcvKnown h.2.2.1, (by have := h.2.2.2.1; (try simp only [smWorld] at this); simp only [okWorld, cvWorld, List.length_map]; omega), (by have := h.2.2.2.2.1.1; (try simp only [smWorld] at this); simp only [okWorld, cvWorld, List.length_map]; omega), ⟨(by have := h.2.2.2.2.2.1.1; (try simp only [smWorld] at this); simp only [okWorld, cvWorld, List.length_map]; omega), fun x hx => by obtain ⟨y, hy, rfl⟩ := List.mem_map.1 hx; exact okcvCache (h.2.2.2.2.2.1.2 y hy)⟩, (by have := h.2.2.2.2.2.2.1; (try simp only [smWorld] at this); simp only [okWorld, cvWorld, List.length_map]; omega), ⟨(by have := h.2.2.2.2.2.2.2.1.1; (try simp only [smWorld] at this); simp only [okWorld, cvWorld, List.length_map]; omega), fun x hx => by obtain ⟨y, hy, rfl⟩ := List.mem_map.1 hx; exact okcvAccept (h.2.2.2.2.2.2.2.1.2 y hy)⟩, (by have := h.2.2.2.2.2.2.2.2; (try simp only [smWorld] at this); simp only [okWorld, cvWorld]; omega)⟩
theorem wk_cv {a : L_World} (w : wfL_World a) (s : smWorld a) : WkSm (cvWorld a) := by
 obtain ⟨s1, s2, s3, s4, s5, s6, s7, s8, s9⟩ := s
 refine ⟨?_, s2, ⟨s3.1.1, s3.2, s3.1.2⟩, by simpa [cvWorld] using s4, ⟨by simpa [cvWorld] using s5.1, fun x hx => ?_⟩, ⟨by simpa [cvWorld] using s6.1, fun x hx => ?_⟩, ⟨by simpa [cvWorld] using s8.1, fun x hx => ?_⟩⟩
 ·obtain ⟨c1, c2, c3, c4⟩ := s1
  exact ⟨c1, c2, by simpa [cvWorld, cvConfig] using c3, by simpa [cvWorld, cvConfig] using c4⟩
 ·obtain ⟨y, hy, rfl⟩ := List.mem_map.1 hx
  exact ⟨s5.2 y hy, (w.2.2.2.2.2.2.1.2 y hy).2.2.1⟩
 ·obtain ⟨y, hy, rfl⟩ := List.mem_map.1 hx
  have := s6.2 y hy
  simpa [cvCache, smCache] using this
 ·obtain ⟨y, hy, rfl⟩ := List.mem_map.1 hx
  have := s8.2 y hy
  exact ⟨this.1, this.2.1⟩
theorem lk_cv {a : L_World} (s : smWorld a) : (cvWorld a).Leaked.length ≤ 1048576 := by
 obtain ⟨s1, s2, s3, s4, s5, s6, s7, s8, s9⟩ := s
 exact s9
theorem lg_cv {a : L_World} (s : smWorld a) : (cvWorld a).Log.length ≤ 1048576 := by
 obtain ⟨s1, s2, s3, s4, s5, s6, s7, s8, s9⟩ := s
 simpa [cvWorld] using s7
theorem coreSecret (a0 : L_World) (w0 : wfL_World a0) (s0 : smWorld a0) : ∃ r, Ev (fun k => S_Secret k (cvWorld a0)) r ∧ Ev (fun k => I_Secret k (cvWorld a0)) r ∧ True := by
 obtain ⟨b, e1, e2⟩ := secret_both (wk_cv w0 s0) (lk_cv s0) (lg_cv s0)
 exact ⟨b, e1, e2, trivial⟩
theorem lawExactSecret (a0 : L_World) (w0 : wfL_World a0) : ∃ k, W_FnExactSecret k a0 = some true := by
 refine Ev.get (f := fun k => W_FnExactSecret k a0) ?_
 simp only [W_FnExactSecret]
 obtain ⟨z1, hz1, hy1⟩ := szWorld_ev a0 w0 (1048576 : Int) (by omega) (by omega)
 refine Ev.bind hz1 ?_
 refine Ev.ite (fun _ => Ev.pure _) (fun hc => ?_)
 obtain ⟨_, _, s0⟩ := hy1.resolve_left (by simpa using hc)
 refine Ev.bind (toWorld_ev _ s0) ?_
 have l0_3 : (cvWorld a0).Net.length ≤ 1048576 := by simp only [cvWorld, List.length_map]; exact s0.2.1.1
 have l0_5 : (cvWorld a0).Waits.length ≤ 1048576 := by simp only [cvWorld, List.length_map]; exact s0.2.2.2.1
 have l0_6 : (cvWorld a0).Creds.length ≤ 1048576 := by simp only [cvWorld, List.length_map]; exact s0.2.2.2.2.1.1
 have l0_7 : (cvWorld a0).Caches.length ≤ 1048576 := by simp only [cvWorld, List.length_map]; exact s0.2.2.2.2.2.1.1
 have l0_8 : (cvWorld a0).Log.length ≤ 1048576 := by simp only [cvWorld, List.length_map]; exact s0.2.2.2.2.2.2.1
 have l0_9 : (cvWorld a0).Accepts.length ≤ 1048576 := by simp only [cvWorld, List.length_map]; exact s0.2.2.2.2.2.2.2.1.1
 have l0_10 : (cvWorld a0).Leaked.length ≤ 1048576 := by simp only [cvWorld, List.length_map]; exact s0.2.2.2.2.2.2.2.2
 obtain ⟨r, hs, hi, hr⟩ := coreSecret a0 w0 s0
 refine Ev.bind hs ?_
 refine Ev.bind (toWorld_ev _ s0) ?_
 refine Ev.bind hi ?_
 try simp only [bne_self_eq_false, cond_false]
 refine Ev.bind (toWorld_ev _ s0) ?_
 refine Ev.bind (eqWorld_ev _ (okcvWorld s0)) ?_
 simp only [Bool.not_true, cond_false]
 exact Ev.pure _

end Go.Proofs.YtbaemdkdgghokaaGreat.M
