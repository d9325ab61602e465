/- The program's ReadTlv returns what the reference's returns, for all arguments. -/
import Derived.Test.YtgjbgakcfcomdaaFReadTlv
namespace Go.Proofs.Ytgjbgakcfcomdaa.M
open Go Go.MG
set_option linter.unusedVariables false
set_option linter.unusedSimpArgs false
theorem wid {n : Int} (h1 : -9223372036854775808 ≤ n) (h2 : n ≤ 9223372036854775807) : IntKind.i64.wrap n = n := by
  rw [IntKind.wrap_i64]; omega
theorem atN {α : Type} {xs : List α} {i : Nat} {b : α} (h : xs[i]? = some b) : at? xs (i : Int) = some b := by
  simp [at?, h]
theorem atLt {α : Type} {xs : List α} {i : Nat} (h : i < xs.length) : ∃ b, xs[i]? = some b := ⟨xs[i], List.getElem?_eq_getElem h⟩
theorem wid1 {i : Nat} (h : i ≤ 4611686018427387904) : IntKind.i64.wrap ((i : Int) + 1) = ((i + 1 : Nat) : Int) := by
  rw [wid (by omega) (by omega)]; omega
theorem ltD {i n : Nat} (h : i < n) : decide ((i : Int) < (n : Int)) = true := by simp; omega
theorem ltD0 {n : Nat} : decide ((n : Int) < (n : Int)) = false := by simp
theorem take_succ_get {α : Type} {xs : List α} {i : Nat} {b : α} (h : xs[i]? = some b) : xs.take (i + 1) = xs.take i ++ [b] := by
  rw [List.take_add_one, h]; rfl
/-- From some fuel on it answers so. -/
def Ev {α : Type} (f : Nat → Option α) (r : α) : Prop := ∃ n, ∀ k, n ≤ k → f k = some r
theorem Ev.pure {α : Type} (r : α) : Ev (fun _ => some r) r := ⟨0, fun _ _ => rfl⟩
theorem Ev.of {α : Type} {f : Nat → Option α} {r : α} (h : ∀ k, f k = some r) : Ev f r := ⟨0, fun k _ => h k⟩
theorem Ev.bind {α β : Type} {f : Nat → Option α} {g : Nat → α → Option β} {a : α} {r : β} (h : Ev f a) (h' : Ev (fun k => g k a) r) : Ev (fun k => (f k).bind (g k)) r := by
  obtain ⟨n, h⟩ := h
  obtain ⟨m, h'⟩ := h'
  refine ⟨max n m, fun k hk => ?_⟩
  show (f k).bind (g k) = some r
  rw [h k (by omega), Option.bind_some]
  exact h' k (by omega)
theorem Ev.succ {α : Type} {f : Nat → Option α} {r : α} (h : Ev (fun k => f (k + 1)) r) : Ev f r := by
  obtain ⟨n, h⟩ := h
  refine ⟨n + 1, fun k hk => ?_⟩
  obtain ⟨j, rfl⟩ : ∃ j, k = j + 1 := ⟨k - 1, by omega⟩
  exact h j (by omega)
theorem Ev.shift {α : Type} {f : Nat → Option α} {r : α} (h : Ev f r) : Ev (fun k => f (k + 1)) r := by
  obtain ⟨n, h⟩ := h
  exact ⟨n, fun k hk => h (k + 1) (by omega)⟩
theorem Ev.get {α : Type} {f : Nat → Option α} {r : α} (h : Ev f r) : ∃ k, f k = some r := by
  obtain ⟨n, h⟩ := h
  exact ⟨n, h n (Nat.le_refl _)⟩
theorem Ev.congr {α : Type} {f g : Nat → Option α} {r : α} (h : Ev f r) (e : ∀ k, g k = f k) : Ev g r := by
  obtain ⟨n, h⟩ := h
  exact ⟨n, fun k hk => (e k).trans (h k hk)⟩
theorem Ev.to {α : Type} {f : Nat → Option α} {a b : α} (h : Ev f a) (e : a = b) : Ev f b := e ▸ h
theorem Ev.ite {α : Type} {f g : Nat → Option α} {c : Bool} {r : α} (h1 : c = true → Ev f r) (h0 : c = false → Ev g r) : Ev (fun k => cond c (f k) (g k)) r := by
  cases c with
  | true => exact h1 rfl
  | false => exact h0 rfl
theorem Ev.at? {α β : Type} {xs : List α} {i : Nat} {b : α} {g : Nat → α → Option β} {r : β} (h : xs[i]? = some b) (h' : Ev (fun k => g k b) r) : Ev (fun k => (Go.MG.at? xs (i : Int)).bind (g k)) r := by
  have e := atN h
  simp only [e, Option.bind_some]
  exact h'
/-- A loop over a list: what it answers, told over what is left of it. -/
theorem Ev.forI {α S R : Type} {xs : List α} {L : Nat → S → Int → Option R} {f : List α → S → R} {I : Nat → S → Prop}
    (hnil : ∀ s, I xs.length s → Ev (fun k => L (k + 1) s (xs.length : Int)) (f [] s))
    (hcons : ∀ (i : Nat) (b : α) (s : S), xs[i]? = some b → i < xs.length → I i s → (∀ s', I (i + 1) s' → Ev (fun k => L k s' ((i + 1 : Nat) : Int)) (f (xs.drop (i + 1)) s')) → Ev (fun k => L (k + 1) s (i : Int)) (f (b :: xs.drop (i + 1)) s)) :
    ∀ (s : S), I 0 s → Ev (fun k => L k s 0) (f xs s) := by
  have key : ∀ (m i : Nat) (s : S), i + m = xs.length → I i s → Ev (fun k => L k s (i : Int)) (f (xs.drop i) s) := by
    intro m
    induction m with
    | zero =>
      intro i s hi hI
      have : i = xs.length := by omega
      subst this
      rw [List.drop_length]
      exact Ev.succ (hnil s hI)
    | succ m ih =>
      intro i s hi hI
      obtain ⟨b, hb⟩ := atLt (xs := xs) (i := i) (by omega)
      have hlt : i < xs.length := by omega
      have e : xs.drop i = b :: xs.drop (i + 1) := by
        rw [List.drop_eq_getElem_cons hlt]
        rw [List.getElem?_eq_getElem hlt] at hb
        cases hb; rfl
      rw [e]
      exact Ev.succ (hcons i b s hb hlt hI fun s' hs' => ih (i + 1) s' (by omega) hs')
  intro s hs
  have := key xs.length 0 s (by omega) hs
  simpa using this
theorem Ev.for {α S R : Type} {xs : List α} {L : Nat → S → Int → Option R} {f : List α → S → R}
    (hnil : ∀ s, Ev (fun k => L (k + 1) s (xs.length : Int)) (f [] s))
    (hcons : ∀ (i : Nat) (b : α) (s : S), xs[i]? = some b → i < xs.length → (∀ s', Ev (fun k => L k s' ((i + 1 : Nat) : Int)) (f (xs.drop (i + 1)) s')) → Ev (fun k => L (k + 1) s (i : Int)) (f (b :: xs.drop (i + 1)) s)) :
    ∀ (s : S), Ev (fun k => L k s 0) (f xs s) := fun s => Ev.forI (I := fun _ _ => True) (fun s _ => hnil s) (fun i b s hb hi _ h => hcons i b s hb hi fun s' => h s' trivial) s trivial
/-- A loop that stores what hangs on the place alone. -/
def markL {α β : Type} (g : Int → α → β) (w : Int) : Int → List α → List β
  | _, [] => []
  | n, x :: xs => g n x :: markL g w (n + w) xs
theorem markL_length {α β : Type} (g : Int → α → β) (w : Int) : ∀ (n : Int) (xs : List α), (markL g w n xs).length = xs.length
  | _, [] => rfl
  | n, x :: xs => by simp [markL, markL_length g w (n + w) xs]
theorem markL_get {α β : Type} {g : Int → α → β} {w : Int} : ∀ {n : Int} {xs : List α} {i : Nat} {x : α}, xs[i]? = some x → (markL g w n xs)[i]? = some (g (n + w * i) x)
  | n, [], i, x, h => by simp at h
  | n, y :: xs, 0, x, h => by simp at h; subst h; simp [markL]
  | n, y :: xs, i + 1, x, h => by
    simp only [List.getElem?_cons_succ] at h
    simp only [markL, List.getElem?_cons_succ]
    rw [markL_get h]
    congr 2
    rw [show ((i + 1 : Nat) : Int) = (i : Int) + 1 by omega, Int.mul_add]; omega
/-- It answers, and what it answers is so. -/
def EvP {α : Type} (f : Nat → Option α) (P : α → Prop) : Prop := ∃ r, Ev f r ∧ P r
theorem Ev.p {α : Type} {f : Nat → Option α} {r : α} {P : α → Prop} (h : Ev f r) (hp : P r) : EvP f P := ⟨r, h, hp⟩
theorem EvP.pure {α : Type} {r : α} {P : α → Prop} (h : P r) : EvP (fun _ => some r) P := ⟨r, Ev.pure r, h⟩
theorem EvP.bind {α β : Type} {f : Nat → Option α} {g : Nat → α → Option β} {P : α → Prop} {Q : β → Prop} (h : EvP f P) (h' : ∀ a, P a → EvP (fun k => g k a) Q) : EvP (fun k => (f k).bind (g k)) Q := by
  obtain ⟨a, h1, h2⟩ := h
  obtain ⟨r, h3, h4⟩ := h' a h2
  exact ⟨r, h1.bind h3, h4⟩
theorem EvP.bindE {α β : Type} {f : Nat → Option α} {g : Nat → α → Option β} {a : α} {Q : β → Prop} (h : Ev f a) (h' : EvP (fun k => g k a) Q) : EvP (fun k => (f k).bind (g k)) Q := by
  obtain ⟨r, h3, h4⟩ := h'
  exact ⟨r, h.bind h3, h4⟩
theorem EvP.ite {α : Type} {f g : Nat → Option α} {c : Bool} {P : α → Prop} (h1 : c = true → EvP f P) (h0 : c = false → EvP g P) : EvP (fun k => cond c (f k) (g k)) P := by
  cases c with
  | true => exact h1 rfl
  | false => exact h0 rfl
theorem EvP.succ {α : Type} {f : Nat → Option α} {P : α → Prop} (h : EvP (fun k => f (k + 1)) P) : EvP f P := by
  obtain ⟨r, h1, h2⟩ := h
  exact ⟨r, h1.succ, h2⟩
theorem EvP.at? {α β : Type} {xs : List α} {i : Nat} {b : α} {g : Nat → α → Option β} {P : β → Prop} (h : xs[i]? = some b) (h' : EvP (fun k => g k b) P) : EvP (fun k => (Go.MG.at? xs (i : Int)).bind (g k)) P := by
  obtain ⟨r, h1, h2⟩ := h'
  exact ⟨r, Ev.at? h h1, h2⟩
/-- A loop over a list, by an invariant. -/
theorem EvP.for {α S R : Type} {xs : List α} {L : Nat → S → Int → Option R} {P : R → Prop} (I : Nat → S → Prop)
    (hnil : ∀ s, I xs.length s → EvP (fun k => L (k + 1) s (xs.length : Int)) P)
    (hcons : ∀ (i : Nat) (b : α) (s : S), xs[i]? = some b → i < xs.length → I i s → (∀ s', I (i + 1) s' → EvP (fun k => L k s' ((i + 1 : Nat) : Int)) P) → EvP (fun k => L (k + 1) s (i : Int)) P) :
    ∀ (s : S), I 0 s → EvP (fun k => L k s 0) P := by
  have key : ∀ (m i : Nat) (s : S), i + m = xs.length → I i s → EvP (fun k => L k s (i : Int)) P := by
    intro m
    induction m with
    | zero =>
      intro i s hi hI
      have : i = xs.length := by omega
      subst this
      exact EvP.succ (hnil s hI)
    | succ m ih =>
      intro i s hi hI
      obtain ⟨b, hb⟩ := atLt (xs := xs) (i := i) (by omega)
      exact EvP.succ (hcons i b s hb (by omega) hI fun s' hs' => ih (i + 1) s' (by omega) hs')
  intro s hs
  simpa using key xs.length 0 s (by omega) hs
theorem widR {n : Int} (h1 : -9223372036854775808 ≤ n) (h2 : n ≤ 9223372036854775807) : IntKind.i64.wrap n = n := wid h1 h2
theorem atSet {α : Type} {xs : List α} {i : Nat} {y : α} (h : i < xs.length) : at? (xs.set i y) (i : Int) = some y := atN (by simp [h])
/-- A loop that stores into each place what hangs on the count. -/
theorem Ev.mark {α : Type} {L : Nat → List α → Int → Int → Option (Int × List α)} {g : Int → α → α} {w : Nat}
    (hnil : ∀ xs n, Ev (fun k => L (k + 1) xs n (xs.length : Int)) (n, xs))
    (hcons : ∀ (i : Nat) (b : α) (xs : List α) (n : Int) r, xs[i]? = some b → i < xs.length → 0 ≤ n → n + w ≤ 4611686018427387904 → xs.length ≤ 4611686018427387904 → Ev (fun k => L k (xs.set i (g n b)) (n + w) ((i + 1 : Nat) : Int)) r → Ev (fun k => L (k + 1) xs n (i : Int)) r)
    (xs : List α) (n : Int) (hn : 0 ≤ n) (hb : n + w * xs.length ≤ 4611686018427387904) (hl : xs.length ≤ 4611686018427387904) : Ev (fun k => L k xs n 0) (n + w * xs.length, markL g w n xs) := by
  have key : ∀ (m i : Nat) (ys : List α) (j : Int), i + m = ys.length → j = n + w * i → ys.length = xs.length → ys.take i = (markL g w n xs).take i → ys.drop i = xs.drop i → Ev (fun k => L k ys j (i : Int)) (n + w * xs.length, markL g w n xs) := by
    intro m
    induction m with
    | zero =>
      intro i ys j hi hj hl ht hd
      have e : i = ys.length := by omega
      subst e
      refine Ev.succ ((hnil ys j).to ?_)
      rw [List.take_of_length_le (Nat.le_refl _), List.take_of_length_le (by rw [markL_length]; omega)] at ht
      rw [hj, hl, ← ht]
    | succ m ih =>
      intro i ys j hi hj hl' ht hd
      obtain ⟨b, hb'⟩ := atLt (xs := ys) (i := i) (by omega)
      have hx : xs[i]? = some b := by
        have : (ys.drop i)[0]? = (xs.drop i)[0]? := by rw [hd]
        simp only [List.getElem?_drop, Nat.add_zero] at this
        rw [← this]; exact hb'
      have hw : (w : Int) * (i : Int) + w ≤ w * xs.length := by
        have : w * (i + 1) ≤ w * xs.length := Nat.mul_le_mul_left w (by omega)
        have h2 : ((w * (i + 1) : Nat) : Int) ≤ ((w * xs.length : Nat) : Int) := by omega
        rw [Int.natCast_mul, Int.natCast_mul] at h2
        rw [show ((i + 1 : Nat) : Int) = (i : Int) + 1 by omega, Int.mul_add] at h2
        omega
      have hw0 : (0 : Int) ≤ (w : Int) * (i : Int) := Int.mul_nonneg (by omega) (by omega)
      refine Ev.succ (hcons i b ys j _ hb' (by omega) (by omega) (by omega) (by omega) (ih (i + 1) (ys.set i (g j b)) (j + w) (by rw [List.length_set]; omega) ?_ (by rw [List.length_set]; exact hl') ?_ ?_))
      · rw [hj, show ((i + 1 : Nat) : Int) = (i : Int) + 1 by omega, Int.mul_add]; omega
      · have h1 : (ys.set i (g j b))[i]? = some (g j b) := List.getElem?_set_self (by omega)
        have h2 : (markL g w n xs)[i]? = some (g j b) := by rw [markL_get hx, hj]
        rw [take_succ_get h1, take_succ_get h2, ← ht, List.take_set_of_le (Nat.le_refl _)]
      · rw [List.drop_set_of_lt (by omega), ← List.drop_drop, ← List.drop_drop, hd]
  simpa using key xs.length 0 xs n (by omega) (by simp) rfl rfl rfl
/-- A loop that looks whether each place holds what was stored. -/
theorem Ev.held {α : Type} {L : Nat → List α → Int → Int → Option Int} {g : Int → α → α} {w : Nat} {xs : List α} {n : Int} (hn : 0 ≤ n) (hb : n + w * xs.length ≤ 4611686018427387904) (hl : xs.length ≤ 4611686018427387904)
    (hnil : ∀ (ys : List α) j, Ev (fun k => L (k + 1) ys j (ys.length : Int)) j)
    (hcons : ∀ (i : Nat) (b : α) (ys : List α) (j : Int) r, ys[i]? = some (g j b) → i < ys.length → 0 ≤ j → j + w ≤ 4611686018427387904 → ys.length ≤ 4611686018427387904 → Ev (fun k => L k ys (j + w) ((i + 1 : Nat) : Int)) r → Ev (fun k => L (k + 1) ys j (i : Int)) r) :
    Ev (fun k => L k (markL g w n xs) n 0) (n + w * xs.length) := by
  have hml := markL_length g w n xs
  have key : ∀ (m i : Nat) (j : Int), i + m = xs.length → j = n + w * i → Ev (fun k => L k (markL g w n xs) j (i : Int)) (n + w * xs.length) := by
    intro m
    induction m with
    | zero =>
      intro i j hi hj
      have e : i = (markL g w n xs).length := by omega
      subst e
      refine Ev.succ ((hnil _ j).to ?_)
      rw [hj, hml]
    | succ m ih =>
      intro i j hi hj
      obtain ⟨b, hx⟩ := atLt (xs := xs) (i := i) (by omega)
      have hw : (w : Int) * (i : Int) + w ≤ w * xs.length := by
        have : w * (i + 1) ≤ w * xs.length := Nat.mul_le_mul_left w (by omega)
        have h2 : ((w * (i + 1) : Nat) : Int) ≤ ((w * xs.length : Nat) : Int) := by omega
        rw [Int.natCast_mul, Int.natCast_mul] at h2
        rw [show ((i + 1 : Nat) : Int) = (i : Int) + 1 by omega, Int.mul_add] at h2
        omega
      have hw0 : (0 : Int) ≤ (w : Int) * (i : Int) := Int.mul_nonneg (by omega) (by omega)
      refine Ev.succ (hcons i b _ j _ ?_ (by omega) (by omega) (by omega) (by omega) (ih (i + 1) _ (by omega) ?_))
      · rw [markL_get hx, hj]
      · rw [hj, show ((i + 1 : Nat) : Int) = (i : Int) + 1 by omega, Int.mul_add]; omega
  simpa using key xs.length 0 n (by omega) (by simp)
theorem EvP.shift {α : Type} {f : Nat → Option α} {P : α → Prop} (h : EvP f P) : EvP (fun k => f (k + 1)) P := by
  obtain ⟨r, h1, h2⟩ := h
  exact ⟨r, h1.shift, h2⟩
theorem EvP.ev {α : Type} {f : Nat → Option α} {r : α} (h : EvP f (fun x => x = r)) : Ev f r := by
  obtain ⟨x, h1, rfl⟩ := h
  exact h1
def isIn (x a b : Int) : Bool := decide (a ≤ x ∧ x ≤ b)
theorem sIn (k : Nat) (x a b : Int) : Fspec_l1In k x a b = some (isIn x a b) := by
  unfold Fspec_l1In isIn
  simp only [Bool.cond_decide]
  split
  all_goals
    refine congrArg some (Bool.eq_iff_iff.mpr ?_)
    simp only [decide_eq_true_eq, Bool.false_eq_true, false_iff]
    omega
theorem iIn (k : Nat) (x a b : Int) : Fimpl_within k x a b = some (isIn x a b) := sIn k x a b
theorem bvNat (n : Nat) (h : n < 18446744073709551616) : (BitVec.ofInt 64 (n : Int)).toNat = n := by
  rw [BitVec.ofInt_natCast, BitVec.toNat_ofNat]; exact Nat.mod_eq_of_lt (by omega)
theorem and127 (n : Nat) (h : n < 9223372036854775808) : Go.bits .and .i64 (n : Int) 127 = ((n % 128 : Nat) : Int) := by
  show IntKind.i64.wrap ((BitVec.ofInt 64 (n : Int) &&& BitVec.ofInt 64 ((127 : Nat) : Int)).toNat : Int) = _
  rw [BitVec.toNat_and, bvNat n (by omega), bvNat 127 (by omega), Nat.and_two_pow_sub_one_eq_mod n 7, wid (by omega) (by omega)]
theorem orNat (a b : Nat) (ha : a < 9223372036854775808) (hb : b < 9223372036854775808) : Go.bits .or .i64 (a : Int) (b : Int) = ((a ||| b : Nat) : Int) := by
  show IntKind.i64.wrap ((BitVec.ofInt 64 (a : Int) ||| BitVec.ofInt 64 (b : Int)).toNat : Int) = _
  have : a ||| b < 2 ^ 63 := Nat.or_lt_two_pow ha hb
  rw [BitVec.toNat_or, bvNat a (by omega), bvNat b (by omega), wid (by omega) (by omega)]
theorem orLow (a b i : Nat) (ha : a < 2 ^ i) : a ||| (b * 2 ^ i) = a + b * 2 ^ i := by
  rw [Nat.or_comm, Nat.mul_comm, ← Nat.two_pow_add_eq_or_of_lt ha, Nat.add_comm]
theorem or128 (m : Nat) (h : m < 128) : Go.bits .or .i64 (m : Int) 128 = ((128 + m : Nat) : Int) := by
  have := orNat m 128 (by omega) (by omega)
  rw [show ((128 : Nat) : Int) = 128 from rfl] at this
  rw [this, show 128 = 1 * 2 ^ 7 from rfl, orLow m 1 7 (by omega)]
  congr 1; omega
theorem highI (n : Nat) : shrI .i64 (n : Int) 7 = ((n / 128 : Nat) : Int) := by
  show Int.fdiv (n : Int) 128 = _
  rw [Int.fdiv_eq_ediv_of_nonneg _ (by omega)]; omega
theorem lowI (n : Nat) (h : n < 9223372036854775808) : Go.bits .or .i64 (Go.bits .and .i64 (n : Int) 127) 128 = ((128 + n % 128 : Nat) : Int) := by
  rw [and127 n h, or128 _ (Nat.mod_lt _ (by omega))]
theorem lowS (n : Nat) : IntKind.i64.wrap (128 + Int.tmod (n : Int) 128) = ((128 + n % 128 : Nat) : Int) := by
  rw [show Int.tmod (n : Int) 128 = ((n % 128 : Nat) : Int) from rfl, wid (by omega) (by omega)]; omega
theorem highS (n : Nat) (h : n < 9223372036854775808) : IntKind.i64.wrap (Int.tdiv (n : Int) 128) = ((n / 128 : Nat) : Int) := by
  rw [show Int.tdiv (n : Int) 128 = ((n / 128 : Nat) : Int) from rfl, wid (by omega) (by omega)]
theorem ofI_nat (n : Nat) (h : n < 256) : ofI (n : Int) = UInt8.ofNat n := by
  unfold ofI
  have : ((n : Int) % 256).toNat = n := by omega
  rw [this]
def varE (n : Nat) : List UInt8 := if h : n < 128 then [UInt8.ofNat n] else UInt8.ofNat (128 + n % 128) :: varE (n / 128)
termination_by n
decreasing_by omega
theorem varE_lt {n : Nat} (h : n < 128) : varE n = [UInt8.ofNat n] := by rw [varE, dif_pos h]
theorem varE_ge {n : Nat} (h : 128 ≤ n) : varE n = UInt8.ofNat (128 + n % 128) :: varE (n / 128) := by rw [varE, dif_neg (by omega)]
theorem varE_pos (n : Nat) : 0 < (varE n).length := by
  by_cases hn : n < 128
  · rw [varE_lt hn]; simp
  · rw [varE_ge (by omega)]; simp
def varI (a : Int) : List UInt8 := if 0 ≤ a ∧ a ≤ 562949953421311 then varE a.toNat else []
theorem varI_nat (n : Nat) (h : n ≤ 562949953421311) : varI (n : Int) = varE n := by
  unfold varI; rw [if_pos (by omega)]; simp
theorem sVarL : ∀ (m n : Nat) (acc : List UInt8), n < 128 ^ (m + 1) → m ≤ 8 → acc.length + m ≤ 1000 → Ev (fun k => Fspec_Var.l2 k (n : Int) acc) (acc ++ varE n) := by
  intro m
  induction m with
  | zero =>
    intro n acc h hm ha
    refine Ev.succ ?_
    simp only [Fspec_Var.l2]
    rw [decide_eq_false (p := (n : Int) ≥ 128) (by omega), decide_eq_true (p := (2 * (acc.length + [ofI (n : Int)].length) + 192) * 1 ≤ 281474976710656) (by simp; omega), ofI_nat n (by omega), varE_lt (by omega)]
    exact Ev.pure _
  | succ m ih =>
    intro n acc h hm ha
    have h9 : n < 9223372036854775808 := Nat.lt_of_lt_of_le h (Nat.le_trans (Nat.pow_le_pow_right (by omega) (show m + 1 + 1 ≤ 9 by omega)) (by decide))
    refine Ev.succ ?_
    simp only [Fspec_Var.l2]
    by_cases hn : n < 128
    · rw [decide_eq_false (p := (n : Int) ≥ 128) (by omega), decide_eq_true (p := (2 * (acc.length + [ofI (n : Int)].length) + 192) * 1 ≤ 281474976710656) (by simp; omega), ofI_nat n (by omega), varE_lt hn]
      exact Ev.pure _
    · rw [decide_eq_true (p := (n : Int) ≥ 128) (by omega), lowS, highS n h9, ofI_nat (128 + n % 128) (by omega), decide_eq_true (p := (2 * (acc.length + [UInt8.ofNat (128 + n % 128)].length) + 192) * 1 ≤ 281474976710656) (by simp; omega)]
      simp only [cond_true]
      refine (ih (n / 128) _ (by rw [Nat.pow_succ] at h; omega) (by omega) (by rw [List.length_append]; simp only [List.length_cons, List.length_nil]; omega)).to ?_
      rw [varE_ge (n := n) (by omega), List.append_assoc]; rfl
theorem iVarL : ∀ (m n : Nat) (acc : List UInt8), n < 128 ^ (m + 1) → m ≤ 8 → acc.length + m ≤ 1000 → Ev (fun k => Fimpl_Var.l2 k (n : Int) acc) (acc ++ varE n) := by
  intro m
  induction m with
  | zero =>
    intro n acc h hm ha
    refine Ev.succ ?_
    simp only [Fimpl_Var.l2]
    rw [decide_eq_false (p := (n : Int) > 127) (by omega), decide_eq_true (p := (2 * (acc.length + [ofI (n : Int)].length) + 192) * 1 ≤ 281474976710656) (by simp; omega), ofI_nat n (by omega), varE_lt (by omega)]
    exact Ev.pure _
  | succ m ih =>
    intro n acc h hm ha
    have h9 : n < 9223372036854775808 := Nat.lt_of_lt_of_le h (Nat.le_trans (Nat.pow_le_pow_right (by omega) (show m + 1 + 1 ≤ 9 by omega)) (by decide))
    refine Ev.succ ?_
    simp only [Fimpl_Var.l2]
    by_cases hn : n < 128
    · rw [decide_eq_false (p := (n : Int) > 127) (by omega), decide_eq_true (p := (2 * (acc.length + [ofI (n : Int)].length) + 192) * 1 ≤ 281474976710656) (by simp; omega), ofI_nat n (by omega), varE_lt hn]
      exact Ev.pure _
    · rw [decide_eq_true (p := (n : Int) > 127) (by omega), lowI n h9, highI n, ofI_nat (128 + n % 128) (by omega), decide_eq_true (p := (2 * (acc.length + [UInt8.ofNat (128 + n % 128)].length) + 192) * 1 ≤ 281474976710656) (by simp; omega)]
      simp only [cond_true]
      refine (ih (n / 128) _ (by rw [Nat.pow_succ] at h; omega) (by omega) (by rw [List.length_append]; simp only [List.length_cons, List.length_nil]; omega)).to ?_
      rw [varE_ge (n := n) (by omega), List.append_assoc]; rfl
theorem sVar (a : Int) : Ev (fun k => Fspec_Var k a) (varI a) := by
  simp only [Fspec_Var, sIn, Option.bind_some]
  refine Ev.ite (fun hc => ?_) (fun hc => ?_)
  · refine (Ev.pure _).to ?_
    unfold varI; rw [if_neg (fun h => by unfold isIn at hc; rw [decide_eq_true h] at hc; cases hc)]
  · have h : 0 ≤ a ∧ a ≤ 562949953421311 := by simpa [isIn] using hc
    obtain ⟨n, rfl⟩ : ∃ n : Nat, a = n := ⟨a.toNat, by omega⟩
    refine (sVarL 6 n [] (by omega) (by omega) (by simp)).to ?_
    rw [varI_nat n (by omega)]; rfl
theorem iVar (a : Int) : Ev (fun k => Fimpl_Var k a) (varI a) := by
  simp only [Fimpl_Var, iIn, Option.bind_some]
  refine Ev.ite (fun hc => ?_) (fun hc => ?_)
  · refine (Ev.pure _).to ?_
    unfold varI; rw [if_neg (fun h => by unfold isIn at hc; rw [decide_eq_true h] at hc; cases hc)]
  · have h : 0 ≤ a ∧ a ≤ 562949953421311 := by simpa [isIn] using hc
    obtain ⟨n, rfl⟩ : ∃ n : Nat, a = n := ⟨a.toNat, by omega⟩
    refine (iVarL 6 n [] (by omega) (by omega) (by simp)).to ?_
    rw [varI_nat n (by omega)]; rfl
/-- The number at the begin of a text, of at most f bytes, and how many they are. -/
def dv : Nat → List UInt8 → Option (Nat × Nat)
  | 0, _ => none
  | _ + 1, [] => none
  | f + 1, b :: bs => if b.toNat < 128 then some (b.toNat, 1) else match dv f bs with
    | some (n, s) => if n = 0 then none else some (b.toNat % 128 + 128 * n, s + 1)
    | none => none
def rvP (s : List UInt8) : Int × Int := match dv 7 s with
  | some (n, z) => ((n : Int), (z : Int))
  | none => (0, 0)
theorem u8eta (b : UInt8) : UInt8.ofNat b.toNat = b := by simp
theorem dv_ok : ∀ {f : Nat} {s : List UInt8} {n z : Nat}, dv f s = some (n, z) → z ≤ s.length ∧ z ≤ f ∧ 0 < z ∧ s.take z = varE n ∧ n < 128 ^ z
  | 0, s, n, z, h => by simp [dv] at h
  | f + 1, [], n, z, h => by simp [dv] at h
  | f + 1, b :: bs, n, z, h => by
    simp only [dv] at h
    split at h
    · rename_i hb
      cases h
      exact ⟨by simp, by omega, by omega, by rw [varE_lt hb]; simp, by simpa using hb⟩
    · rename_i hb
      split at h
      · rename_i m t hm
        split at h
        · cases h
        · rename_i hm0
          cases h
          obtain ⟨h1, h2, h3, h4, h5⟩ := dv_ok hm
          have hb2 := b.toNat_lt
          refine ⟨by simp; omega, by omega, by omega, ?_, ?_⟩
          · rw [List.take_succ_cons, h4, varE_ge (n := b.toNat % 128 + 128 * m) (by omega)]
            have e1 : (b.toNat % 128 + 128 * m) % 128 = b.toNat % 128 := by omega
            have e2 : (b.toNat % 128 + 128 * m) / 128 = m := by omega
            rw [e1, e2, show 128 + b.toNat % 128 = b.toNat by omega, u8eta]
          · rw [Nat.pow_succ]; omega
      · cases h
theorem varE_dv : ∀ {f : Nat} {n : Nat} {t : List UInt8}, n < 128 ^ (f + 1) → dv (f + 1) (varE n ++ t) = some (n, (varE n).length)
  | f, n, t, h => by
    by_cases hn : n < 128
    · rw [varE_lt hn]
      have : (UInt8.ofNat n).toNat = n := by rw [UInt8.toNat_ofNat']; omega
      simp [dv, this, hn]
    · have h1 : (UInt8.ofNat (128 + n % 128)).toNat = 128 + n % 128 := by rw [UInt8.toNat_ofNat']; omega
      rw [varE_ge (n := n) (by omega)]
      cases f with
      | zero => omega
      | succ f =>
        have ih := varE_dv (f := f) (n := n / 128) (t := t) (by rw [Nat.pow_succ] at h; omega)
        simp only [List.cons_append, dv.eq_3 (f + 1), h1]
        rw [if_neg (by omega), ih]
        simp only
        rw [if_neg (by omega)]
        simp only [List.length_cons]
        congr 2; omega
/-- The sum of the digits, the lowest first. -/
def digs : List UInt8 → Nat
  | [] => 0
  | b :: bs => b.toNat % 128 + 128 * digs bs
theorem digs_lt : ∀ (s : List UInt8), digs s < 128 ^ s.length
  | [] => by simp [digs]
  | b :: bs => by have := digs_lt bs; simp only [digs, List.length_cons, Nat.pow_succ]; omega
theorem digs_snoc : ∀ (s : List UInt8) (b : UInt8), digs (s ++ [b]) = digs s + b.toNat % 128 * 128 ^ s.length
  | [], b => by simp [digs]
  | c :: s, b => by
    simp only [List.cons_append, digs, List.length_cons, digs_snoc s b, Nat.pow_succ]
    rw [Nat.mul_add, Nat.mul_comm (128 ^ s.length) 128, ← Nat.mul_assoc, ← Nat.mul_assoc, Nat.mul_comm (b.toNat % 128) 128]
    omega
theorem digs_varE : ∀ (m n : Nat), n < 128 ^ (m + 1) → digs (varE n) = n
  | m, n, h => by
    by_cases hn : n < 128
    · rw [varE_lt hn]; simp [digs, UInt8.toNat_ofNat']; omega
    · rw [varE_ge (by omega)]
      have h1 : (UInt8.ofNat (128 + n % 128)).toNat = 128 + n % 128 := by rw [UInt8.toNat_ofNat']; omega
      cases m with
      | zero => omega
      | succ m =>
        simp only [digs, h1, digs_varE m (n / 128) (by rw [Nat.pow_succ] at h; omega)]; omega
/-- Whether the first bytes are a number's, of just this size. -/
theorem dv_take {s : List UInt8} {z : Nat} (hz : z ≤ s.length) (h7 : z ≤ 7) (h0 : 0 < z) (h : varE (digs (s.take z)) = s.take z) : dv 7 s = some (digs (s.take z), z) := by
  have h1 : digs (s.take z) < 128 ^ 7 := by
    have := digs_lt (s.take z)
    rw [List.length_take, Nat.min_eq_left hz] at this
    exact Nat.lt_of_lt_of_le this (Nat.pow_le_pow_right (by omega) h7)
  have h2 := varE_dv (f := 6) (n := digs (s.take z)) (t := s.drop z) h1
  rw [h, List.take_append_drop, List.length_take, Nat.min_eq_left hz] at h2
  exact h2
theorem dv_take' {s : List UInt8} {n z : Nat} (h : dv 7 s = some (n, z)) : digs (s.take z) = n ∧ varE (digs (s.take z)) = s.take z := by
  obtain ⟨h1, h2, h3, h4, h5⟩ := dv_ok h
  have h6 : n < 128 ^ (6 + 1) := Nat.lt_of_lt_of_le h5 (Nat.pow_le_pow_right (by omega) h2)
  have e : digs (s.take z) = n := by rw [h4]; exact digs_varE 6 n h6
  exact ⟨e, by rw [e, h4]⟩
theorem cutN {α : Type} {xs : List α} {a b : Nat} (h : a ≤ b) (h2 : b ≤ xs.length) : cut? xs (a : Int) (b : Int) = some ((xs.drop a).take (b - a)) := by
  unfold cut?
  rw [if_pos (by omega)]
  congr 2; omega
theorem cut0 {α : Type} {xs : List α} {b : Nat} (h2 : b ≤ xs.length) : cut? xs 0 (b : Int) = some (xs.take b) := by
  have := cutN (xs := xs) (a := 0) (b := b) (by omega) h2
  simpa using this
theorem varE_bytes : ∀ (m n : Nat), n < 128 ^ (m + 1) → ∀ (j : Nat) (b : UInt8), (varE n)[j]? = some b → if j + 1 < (varE n).length then 128 ≤ b.toNat else b.toNat < 128
  | m, n, h, j, b, hj => by
    by_cases hn : n < 128
    · rw [varE_lt hn] at hj ⊢
      cases j with
      | zero => simp at hj; subst hj; simp [UInt8.toNat_ofNat']; omega
      | succ j => simp at hj
    · rw [varE_ge (n := n) (by omega)] at hj ⊢
      have h1 : (UInt8.ofNat (128 + n % 128)).toNat = 128 + n % 128 := by rw [UInt8.toNat_ofNat']; omega
      have hp := varE_pos (n / 128)
      cases j with
      | zero => simp only [List.getElem?_cons_zero, Option.some.injEq] at hj; subst hj; rw [if_pos (by simp; omega), h1]; omega
      | succ j =>
        cases m with
        | zero => omega
        | succ m =>
          simp only [List.getElem?_cons_succ] at hj
          have := varE_bytes m (n / 128) (by rw [Nat.pow_succ] at h; omega) j b hj
          simp only [List.length_cons]
          by_cases hl : j + 1 < (varE (n / 128)).length
          · rw [if_pos (by omega)]; rwa [if_pos hl] at this
          · rw [if_neg (by omega)]; rwa [if_neg hl] at this
theorem dv_bytes {s : List UInt8} {n z : Nat} (h : dv 7 s = some (n, z)) {j : Nat} {b : UInt8} (hj : s[j]? = some b) : (j + 1 < z → 128 ≤ b.toNat) ∧ (j + 1 = z → b.toNat < 128) := by
  obtain ⟨h1, h2, h3, h4, h5⟩ := dv_ok h
  have h6 : n < 128 ^ (6 + 1) := Nat.lt_of_lt_of_le h5 (Nat.pow_le_pow_right (by omega) h2)
  have hlen : (varE n).length = z := by rw [← h4, List.length_take]; omega
  have get : j < z → (varE n)[j]? = some b := fun hjz => by rw [← h4, List.getElem?_take, if_pos hjz]; exact hj
  refine ⟨fun hl => ?_, fun hl => ?_⟩
  · have := varE_bytes 6 n h6 j b (get (by omega))
    rwa [if_pos (by omega)] at this
  · have := varE_bytes 6 n h6 j b (get (by omega))
    rwa [if_neg (by omega)] at this
theorem sRV26 (s : List UInt8) (z : Nat) (hz : z ≤ s.length) (h7 : z ≤ 7) (h0 : 0 < z) (r2 : Int × Int) : ∀ (j : Nat) (cl : Nat → List UInt8 → Int → Option (Int × Int)), j ≤ z → Ev (fun k => cl k s (IntKind.i64.wrap ((z : Int) + 1))) r2 →
    Ev (fun k => Fspec_ReadVar.l26 (cl k) k s (z : Int) (digs ((s.take z).drop j) : Int) ((j : Int) - 1)) (if varE (digs (s.take z)) = s.take z then ((digs (s.take z) : Int), (z : Int)) else r2) := by
  have hlt : digs (s.take z) < 128 ^ 7 := by
    have := digs_lt (s.take z)
    rw [List.length_take, Nat.min_eq_left hz] at this
    exact Nat.lt_of_lt_of_le this (Nat.pow_le_pow_right (by omega) h7)
  intro j
  induction j with
  | zero =>
    intro cl hj hcl
    refine Ev.succ ?_
    simp only [Fspec_ReadVar.l26]
    rw [decide_eq_false (by omega)]
    simp only [cond_false, List.drop_zero]
    refine Ev.bind (sVar _) ?_
    rw [varI_nat _ (by omega), cut0 hz]
    simp only [Option.bind_some]
    refine Ev.ite (fun hc => ?_) (fun hc => ?_)
    · rw [if_pos (eq_of_beq hc)]; exact Ev.pure _
    · rw [if_neg (fun h => by rw [h] at hc; simp at hc)]; exact hcl.shift
  | succ j ih =>
    intro cl hj hcl
    refine Ev.succ ?_
    simp only [Fspec_ReadVar.l26]
    obtain ⟨b, hb⟩ := atLt (xs := s) (i := j) (by omega)
    rw [decide_eq_true (by omega)]
    rw [show ((j + 1 : Nat) : Int) - 1 = (j : Int) by omega]
    simp only [cond_true]
    refine Ev.at? hb ?_
    have e : (s.take z).drop j = b :: (s.take z).drop (j + 1) := by
      have hl : j < (s.take z).length := by rw [List.length_take]; omega
      rw [List.drop_eq_getElem_cons hl]
      congr 1
      rw [List.getElem_take]
      rw [List.getElem?_eq_getElem (by omega)] at hb
      exact Option.some.inj hb
    have hd : digs ((s.take z).drop (j + 1)) < 128 ^ 7 := by
      have h1 := digs_lt ((s.take z).drop (j + 1))
      have h2 : ((s.take z).drop (j + 1)).length ≤ 7 := by simp; omega
      exact Nat.lt_of_lt_of_le h1 (Nat.pow_le_pow_right (by omega) h2)
    have e2 : IntKind.i64.wrap (IntKind.i64.wrap ((digs ((s.take z).drop (j + 1)) : Int) * 128) + Int.tmod (b.toNat : Int) 128) = (digs ((s.take z).drop j) : Int) := by
      rw [show Int.tmod (b.toNat : Int) 128 = ((b.toNat % 128 : Nat) : Int) from rfl, e]
      simp only [digs]
      rw [wid (n := (digs ((s.take z).drop (j + 1)) : Int) * 128) (by omega) (by omega), wid (by omega) (by omega)]
      omega
    rw [e2, wid (n := (j : Int) - 1) (by omega) (by omega)]
    exact ih (fun k => cl (k + 1)) (by omega) hcl.shift
theorem sReadVar (s : List UInt8) (hs : s.length ≤ 1048576) : Ev (fun k => Fspec_ReadVar k s) (rvP s) := by
  have key : ∀ (m z : Nat), z + m = 8 → 0 < z → Ev (fun k => Fspec_ReadVar.l22 k s (z : Int)) (match dv 7 s with | some (n, t) => if z ≤ t then ((n : Int), (t : Int)) else (0, 0) | none => (0, 0)) := by
    intro m
    induction m with
    | zero =>
      intro z hz h0
      refine Ev.succ ?_
      simp only [Fspec_ReadVar.l22]
      rw [decide_eq_false (by omega)]
      refine (Ev.pure _).to ?_
      cases hd : dv 7 s with
      | none => rfl
      | some p => obtain ⟨n, t⟩ := p; have := (dv_ok hd).2.1; simp only; rw [if_neg (by omega)]
    | succ m ih =>
      intro z hz h0
      refine Ev.succ ?_
      simp only [Fspec_ReadVar.l22]
      rw [decide_eq_true (p := (z : Int) ≤ 7) (by omega)]
      simp only [cond_true]
      by_cases hl : z ≤ s.length
      · rw [decide_eq_true (p := (z : Int) ≤ (s.length : Int)) (by omega)]
        simp only [cond_true]
        have hn := ih (z + 1) (by omega) (by omega)
        have h26 := sRV26 s z hl (by omega) h0 _ z (fun k => Fspec_ReadVar.l22 k) (Nat.le_refl _) (by rw [wid1 (by omega)]; exact hn)
        rw [show (s.take z).drop z = [] from List.drop_of_length_le (by rw [List.length_take]; omega)] at h26
        rw [wid (n := (z : Int) - 1) (by omega) (by omega)]
        refine h26.to ?_
        by_cases he : varE (digs (s.take z)) = s.take z
        · rw [if_pos he, dv_take hl (by omega) h0 he]; simp
        · rw [if_neg he]
          cases hd : dv 7 s with
          | none => rfl
          | some p =>
            obtain ⟨n, t⟩ := p
            have : t ≠ z := fun e => by subst e; exact he (dv_take' hd).2
            simp only
            by_cases h : z ≤ t
            · rw [if_pos h, if_pos (by omega)]
            · rw [if_neg h, if_neg (by omega)]
      · rw [decide_eq_false (p := (z : Int) ≤ (s.length : Int)) (by omega)]
        refine (Ev.pure _).to ?_
        cases hd : dv 7 s with
        | none => rfl
        | some p => obtain ⟨n, t⟩ := p; have := (dv_ok hd).1; simp only; rw [if_neg (by omega)]
  simp only [Fspec_ReadVar]
  refine (key 7 1 (by omega) (by omega)).to ?_
  unfold rvP
  cases hd : dv 7 s with
  | none => rfl
  | some p => obtain ⟨n, t⟩ := p; have := (dv_ok hd).2.2.1; simp only; rw [if_pos (by omega)]
theorem pow7 (i : Nat) : 2 ^ (7 * i) = 128 ^ i := by rw [Nat.pow_mul]
theorem iReadVar (s : List UInt8) (hs : s.length ≤ 1048576) : Ev (fun k => Fimpl_ReadVar k s) (rvP s) := by
  have none7 : ∀ i, (∀ j b, j < i → s[j]? = some b → 128 ≤ b.toNat) → (7 ≤ i ∨ s.length ≤ i) → rvP s = (0, 0) := by
    intro i hb hi
    unfold rvP
    cases hd : dv 7 s with
    | none => rfl
    | some p =>
      obtain ⟨n, z⟩ := p
      obtain ⟨h1, h2, h3, _, _⟩ := dv_ok hd
      obtain ⟨b, hb'⟩ := atLt (xs := s) (i := z - 1) (by omega)
      have := (dv_bytes hd hb').2 (by omega)
      have := hb (z - 1) b (by omega) hb'
      omega
  have key : ∀ (m i : Nat), i + m = s.length → i ≤ 7 → (∀ j b, j < i → s[j]? = some b → 128 ≤ b.toNat) → Ev (fun k => Fimpl_ReadVar.l2 k s (digs (s.take i) : Int) (i : Int)) (rvP s) := by
    intro m
    induction m with
    | zero =>
      intro i hi h7 hb
      refine Ev.succ ?_
      simp only [Fimpl_ReadVar.l2]
      rw [decide_eq_false (by omega)]
      exact (Ev.pure _).to (none7 i hb (.inr (by omega))).symm
    | succ m ih =>
      intro i hi h7 hb
      refine Ev.succ ?_
      simp only [Fimpl_ReadVar.l2]
      rw [decide_eq_true (p := (i : Int) < (s.length : Int)) (by omega)]
      simp only [cond_true]
      by_cases hi7 : i = 7
      · subst hi7
        rw [decide_eq_false (p := ((7 : Nat) : Int) < 7) (by omega)]
        exact (Ev.pure _).to (none7 7 hb (.inl (by omega))).symm
      rw [decide_eq_true (p := (i : Int) < 7) (by omega)]
      simp only [cond_true]
      obtain ⟨b, hb'⟩ := atLt (xs := s) (i := i) (by omega)
      have hbl := b.toNat_lt
      have e7 : IntKind.i64.wrap ((7 : Int) * (i : Int)) = ((7 * i : Nat) : Int) := by rw [wid (by omega) (by omega)]; omega
      refine Ev.at? hb' ?_
      rw [e7, decide_eq_false (by omega)]
      simp only [Bool.not_false, cond_true]
      refine Ev.at? hb' ?_
      have hand : ((b &&& 127).toNat : Nat) = b.toNat % 128 := by
        rw [UInt8.toNat_and]; exact Nat.and_two_pow_sub_one_eq_mod b.toNat 7
      have hdl : digs (s.take i) < 128 ^ i := by
        have := digs_lt (s.take i)
        rwa [List.length_take, Nat.min_eq_left (by omega)] at this
      have hp : 128 ^ i ≤ 128 ^ 6 := Nat.pow_le_pow_right (by omega) (by omega)
      have hm : b.toNat % 128 * 128 ^ i < 562949953421312 := by
        have h1 : b.toNat % 128 * 128 ^ i ≤ 127 * 128 ^ 6 := Nat.mul_le_mul (by omega) hp
        omega
      have eshl : shlI .i64 ((b.toNat % 128 : Nat) : Int) ((7 * i : Nat) : Int) = ((b.toNat % 128 * 128 ^ i : Nat) : Int) := by
        unfold shlI
        have e : min (((7 * i : Nat) : Int)).toNat IntKind.i64.bits = 7 * i := by
          have : IntKind.i64.bits = 64 := rfl
          rw [Int.toNat_natCast, this]; omega
        rw [e]
        have e2 : ((b.toNat % 128 : Nat) : Int) * 2 ^ (7 * i) = ((b.toNat % 128 * 128 ^ i : Nat) : Int) := by
          rw [← pow7, Int.natCast_mul, Int.natCast_pow]; rfl
        rw [e2]
        exact wid (by omega) (by omega)
      have eor : Go.bits .or .i64 (digs (s.take i) : Int) (shlI .i64 (((b &&& 127).toNat : Nat) : Int) ((7 * i : Nat) : Int)) = (digs (s.take (i + 1)) : Int) := by
        rw [hand, eshl, orNat _ _ (by omega) (by omega), ← pow7, orLow _ _ _ (by rw [pow7]; exact hdl), take_succ_get hb', digs_snoc, List.length_take, Nat.min_eq_left (by omega), pow7]
      rw [eor, wid1 (by omega)]
      have hd7 : digs (s.take (i + 1)) ≤ 562949953421311 := by
        have := digs_lt (s.take (i + 1))
        rw [List.length_take, Nat.min_eq_left (by omega)] at this
        have h2 : 128 ^ (i + 1) ≤ 128 ^ 7 := Nat.pow_le_pow_right (by omega) (by omega)
        omega
      refine Ev.ite (fun hc => ?_) (fun hc => ?_)
      · have hlt : b.toNat < 128 := by
          have := of_decide_eq_true hc
          simpa [UInt8.lt_iff_toNat_lt] using this
        refine Ev.bind (iVar _) ?_
        rw [varI_nat _ hd7, cut0 (by omega)]
        simp only [Option.bind_some]
        refine Ev.ite (fun hne => ?_) (fun hne => ?_)
        · refine (Ev.pure _).to ?_
          unfold rvP
          cases hd : dv 7 s with
          | none => rfl
          | some p =>
            obtain ⟨n, z⟩ := p
            obtain ⟨h1, h2, h3, _, _⟩ := dv_ok hd
            have hz : z = i + 1 := by
              obtain ⟨c, hc'⟩ := atLt (xs := s) (i := z - 1) (by omega)
              have l1 := (dv_bytes hd hc').2 (by omega)
              have l2 : ¬ z - 1 < i := fun h => by have := hb (z - 1) c h hc'; omega
              have l3 : ¬ i + 1 < z := fun h => by have := (dv_bytes hd hb').1 h; omega
              omega
            subst hz
            have := (dv_take' hd).2
            rw [this] at hne; simp at hne
        · refine (Ev.pure _).to ?_
          have he : varE (digs (s.take (i + 1))) = s.take (i + 1) := by simpa using hne
          unfold rvP
          rw [dv_take (by omega) (by omega) (by omega) he]
      · refine ih (i + 1) (by omega) (by omega) (fun j c hj hc' => ?_)
        by_cases hji : j < i
        · exact hb j c hji hc'
        · have : j = i := by omega
          subst this
          rw [hb'] at hc'; cases hc'
          have := of_decide_eq_false hc
          simpa [UInt8.lt_iff_toNat_lt] using this
  simp only [Fimpl_ReadVar]
  exact key s.length 0 (by omega) (by omega) (fun j b hj => by omega)
def dgT (n : Nat) (acc : List UInt8) : List UInt8 := if h : n = 0 then acc else dgT (n / 10) (UInt8.ofNat (48 + n % 10) :: acc)
termination_by n
theorem dgT_zero (acc : List UInt8) : dgT 0 acc = acc := by rw [dgT]; rfl
theorem dgT_pos {n : Nat} (h : 0 < n) (acc : List UInt8) : dgT n acc = dgT (n / 10) (UInt8.ofNat (48 + n % 10) :: acc) := by
  rw [dgT, dif_neg (by omega)]
def markT (n : Int) : List UInt8 := if n ≤ 0 then [109, 48] else 109 :: dgT n.toNat []
theorem markTextL : ∀ (m n : Nat) (acc : List UInt8), n < 10 ^ m → n < 9223372036854775808 → acc.length + m ≤ 1000 → Ev (fun k => Flaws_markText.l2 k (n : Int) acc) (109 :: dgT n acc) := by
  intro m
  induction m with
  | zero =>
    intro n acc hn _ hl
    have : n = 0 := by simpa using hn
    subst this
    refine Ev.succ ?_
    simp only [Flaws_markText.l2]
    rw [decide_eq_false (by omega)]
    simp only [cond_false]
    rw [decide_eq_true (by simp only [List.length_cons, List.length_nil]; omega), dgT_zero]
    exact Ev.pure _
  | succ m ih =>
    intro n acc hn hb hl
    by_cases h0 : n = 0
    · subst h0
      refine Ev.succ ?_
      simp only [Flaws_markText.l2]
      rw [decide_eq_false (by omega)]
      simp only [cond_false]
      rw [decide_eq_true (by simp only [List.length_cons, List.length_nil]; omega), dgT_zero]
      exact Ev.pure _
    · refine Ev.succ ?_
      simp only [Flaws_markText.l2]
      rw [decide_eq_true (by omega), decide_eq_true (by simp only [List.length_cons, List.length_nil]; omega)]
      simp only [cond_true]
      rw [show Int.tmod (n : Int) 10 = ((n % 10 : Nat) : Int) from rfl, show Int.tdiv (n : Int) 10 = ((n / 10 : Nat) : Int) from rfl, wid (n := ((n / 10 : Nat) : Int)) (by omega) (by omega), wid (n := 48 + ((n % 10 : Nat) : Int)) (by omega) (by omega), show 48 + ((n % 10 : Nat) : Int) = ((48 + n % 10 : Nat) : Int) by omega, ofI_nat _ (by omega), dgT_pos (by omega)]
      exact ih (n / 10) _ (by rw [Nat.pow_succ] at hn; omega) (by omega) (by simp only [List.length_append, List.length_cons, List.length_nil]; omega)
theorem markText_ev (n : Int) (h : n ≤ 9223372036854775807) : Ev (fun k => Flaws_markText k n) (markT n) := by
  simp only [Flaws_markText]
  unfold markT
  refine Ev.ite (fun hc => ?_) (fun hc => ?_)
  · rw [if_pos (by simpa using hc)]; exact Ev.pure _
  · have hc : ¬ n ≤ 0 := by simpa using hc
    rw [if_neg hc]
    have := markTextL 20 n.toNat [] (by omega) (by omega) (by simp)
    rwa [Int.toNat_of_nonneg (by omega)] at this
def fixI {α : Type} (d : α) (step : (Nat → α) → Nat → α) (i : Nat) : α := step (fun j => if _h : j < i then fixI d step j else d) i
termination_by i
theorem fixI_eq {α : Type} (d : α) (step : (Nat → α) → Nat → α) (i : Nat) : fixI d step i = step (fun j => if j < i then fixI d step j else d) i := by
  rw [fixI]; rfl
def nd (m : List Timpl_Tlv) (i : Nat) : Timpl_Tlv := (m[i]?).getD ⟨0, false, [], []⟩
def kd (m : List Timpl_Tlv) (i : Nat) : List Nat := (nd m i).Kids.map Int.toNat
theorem nd_get {m : List Timpl_Tlv} {i : Nat} {x : Timpl_Tlv} (h : m[i]? = some x) : nd m i = x := by simp [nd, h]
theorem get_nd {m : List Timpl_Tlv} {i : Nat} (h : i < m.length) : m[i]? = some (nd m i) := by simp [nd, h]
structure NOk (m : List Timpl_Tlv) (i : Nat) : Prop where
  tag : 1 ≤ (nd m i).Tag ∧ (nd m i).Tag ≤ 100
  leaf : (nd m i).Leaf = true → (nd m i).Kids = []
  data : (nd m i).Leaf = false → (nd m i).Data = []
  kids : ∀ k ∈ (nd m i).Kids, 0 ≤ k ∧ k < i
theorem NOk.kd {m : List Timpl_Tlv} {i : Nat} (h : NOk m i) : ∀ k ∈ kd m i, k < i := fun k hk => by
  unfold M.kd at hk
  obtain ⟨x, hx, rfl⟩ := List.mem_map.1 hk
  have := h.kids x hx; omega
def head8 (t : Int) (n : Nat) : List UInt8 := UInt8.ofNat t.toNat :: varE n
def txStep (m : List Timpl_Tlv) (g : Nat → List UInt8) (i : Nat) : List UInt8 :=
  if (nd m i).Leaf then head8 (nd m i).Tag (nd m i).Data.length ++ (nd m i).Data else head8 ((nd m i).Tag + 128) ((kd m i).map g).flatten.length ++ ((kd m i).map g).flatten
def tx (m : List Timpl_Tlv) : Nat → List UInt8 := fixI [] (txStep m)
def postStep (m : List Timpl_Tlv) (g : Nat → List Nat) (i : Nat) : List Nat := ((kd m i).map g).flatten ++ [i]
def post (m : List Timpl_Tlv) : Nat → List Nat := fixI [] (postStep m)
def maxL : List Nat → Nat
  | [] => 0
  | x :: xs => max x (maxL xs)
theorem maxL_le : ∀ {l : List Nat} {n : Nat}, (∀ x ∈ l, x ≤ n) → maxL l ≤ n
  | [], n, _ => by simp [maxL]
  | a :: l, n, h => by
    have h1 := h a List.mem_cons_self
    have h2 := maxL_le (l := l) (n := n) fun x hx => h x (List.mem_cons_of_mem _ hx)
    simp only [maxL]; omega
def htStep (m : List Timpl_Tlv) (g : Nat → Nat) (i : Nat) : Nat := maxL ((kd m i).map g) + 1
def ht (m : List Timpl_Tlv) : Nat → Nat := fixI 0 (htStep m)
theorem map_lt {α : Type} {l : List Nat} {i : Nat} {f : Nat → α} {d : α} (h : ∀ k ∈ l, k < i) : l.map (fun j => if j < i then f j else d) = l.map f :=
  List.map_congr_left fun k hk => if_pos (h k hk)
theorem tx_leaf {m : List Timpl_Tlv} {i : Nat} (h : (nd m i).Leaf = true) : tx m i = head8 (nd m i).Tag (nd m i).Data.length ++ (nd m i).Data := by
  unfold tx; rw [fixI_eq, txStep, if_pos h]
theorem tx_node {m : List Timpl_Tlv} {i : Nat} (hk : ∀ k ∈ kd m i, k < i) (h : (nd m i).Leaf = false) : tx m i = head8 ((nd m i).Tag + 128) ((kd m i).map (tx m)).flatten.length ++ ((kd m i).map (tx m)).flatten := by
  unfold tx; rw [fixI_eq, txStep, if_neg (by rw [h]; simp), map_lt hk]
theorem post_eq {m : List Timpl_Tlv} {i : Nat} (hk : ∀ k ∈ kd m i, k < i) : post m i = ((kd m i).map (post m)).flatten ++ [i] := by
  unfold post; rw [fixI_eq, postStep, map_lt hk]
theorem ht_eq {m : List Timpl_Tlv} {i : Nat} (hk : ∀ k ∈ kd m i, k < i) : ht m i = maxL ((kd m i).map (ht m)) + 1 := by
  unfold ht; rw [fixI_eq, htStep, map_lt hk]
/-- What hangs on a node hangs on what is ahead of it alone. -/
theorem fixI_congr {α : Type} {d : α} {s t : (Nat → α) → Nat → α} {n : Nat} (h : ∀ (f g : Nat → α) (i : Nat), i ≤ n → (∀ j, j < i → f j = g j) → (∀ j, i ≤ j → f j = d ∧ g j = d) → s f i = t g i) : ∀ i, i ≤ n → fixI d s i = fixI d t i := by
  intro i
  induction i using Nat.strongRecOn with
  | _ i ih =>
    intro hi
    rw [fixI_eq, fixI_eq]
    refine h _ _ i hi (fun j hj => ?_) (fun j hj => ?_)
    · rw [if_pos hj, if_pos hj]; exact ih j hj (by omega)
    · rw [if_neg (by omega), if_neg (by omega)]; exact ⟨rfl, rfl⟩
theorem same_fun {α : Type} {d : α} {f g : Nat → α} {i : Nat} (h1 : ∀ j, j < i → f j = g j) (h2 : ∀ j, i ≤ j → f j = d ∧ g j = d) : f = g := by
  funext j
  by_cases hj : j < i
  · exact h1 j hj
  · have := h2 j (by omega); rw [this.1, this.2]
theorem tx_congr {m m' : List Timpl_Tlv} {n : Nat} (h : ∀ j, j ≤ n → nd m j = nd m' j) : tx m n = tx m' n :=
  fixI_congr (n := n) (fun f g i hi h1 h2 => by rw [same_fun h1 h2]; simp only [txStep, kd, h i hi]) n (Nat.le_refl _)
theorem post_congr {m m' : List Timpl_Tlv} {n : Nat} (h : ∀ j, j ≤ n → nd m j = nd m' j) : post m n = post m' n :=
  fixI_congr (n := n) (fun f g i hi h1 h2 => by rw [same_fun h1 h2]; simp only [postStep, kd, h i hi]) n (Nat.le_refl _)
theorem ht_congr {m m' : List Timpl_Tlv} {n : Nat} (h : ∀ j, j ≤ n → nd m j = nd m' j) : ht m n = ht m' n :=
  fixI_congr (n := n) (fun f g i hi h1 h2 => by rw [same_fun h1 h2]; simp only [htStep, kd, h i hi]) n (Nat.le_refl _)
theorem nd_append {m t : List Timpl_Tlv} {j : Nat} (h : j < m.length) : nd (m ++ t) j = nd m j := by
  simp [nd, List.getElem?_append_left h]
theorem NOk.congr {m m' : List Timpl_Tlv} {i : Nat} (h : nd m i = nd m' i) (hn : NOk m i) : NOk m' i := by
  constructor
  · rw [← h]; exact hn.tag
  · rw [← h]; exact hn.leaf
  · rw [← h]; exact hn.data
  · rw [← h]; exact hn.kids
def AllOk (m : List Timpl_Tlv) : Prop := ∀ i, i < m.length → NOk m i
/-- How often a place stands below a node. -/
theorem post_count {m : List Timpl_Tlv} (hm : AllOk m) (j : Nat) : ∀ i, i < m.length → (post m i).count j = (if i = j then 1 else 0) + ((post m i).map fun p => (kd m p).count j).sum := by
  intro i
  induction i using Nat.strongRecOn with
  | _ i ih =>
    intro hi
    have hk := (hm i hi).kd
    rw [post_eq hk]
    have key : ∀ (ks : List Nat), (∀ k ∈ ks, k < i) → (((ks.map (post m)).flatten).count j) = ks.count j + ((((ks.map (post m)).flatten).map fun p => (kd m p).count j).sum) := by
      intro ks
      induction ks with
      | nil => intro _; simp
      | cons k ks ih2 =>
        intro h
        have hki := h k List.mem_cons_self
        simp only [List.map_cons, List.flatten_cons, List.count_append, List.map_append, List.sum_append]
        rw [ih k hki (by omega), ih2 fun x hx => h x (List.mem_cons_of_mem _ hx), List.count_cons]
        have : (if (k == j) = true then 1 else 0) = (if k = j then 1 else 0) := by simp
        rw [this]; omega
    rw [List.count_append, key _ hk]
    simp only [List.map_append, List.sum_append, List.map_cons, List.map_nil, List.sum_cons, List.sum_nil]
    have : List.count j [i] = if i = j then 1 else 0 := by simp [List.count_cons]
    rw [this]; omega
def allKids (m : List Timpl_Tlv) : List Nat := ((List.range m.length).map (kd m)).flatten
def Tree (m : List Timpl_Tlv) : Prop := ∀ j, j + 1 < m.length → (allKids m).count j = 1
theorem count_flat {α β : Type} [BEq β] (f : α → List β) (b : β) : ∀ (l : List α), ((l.map f).flatten).count b = (l.map fun x => (f x).count b).sum
  | [] => rfl
  | x :: l => by simp only [List.map_cons, List.flatten_cons, List.count_append, List.sum_cons, count_flat f b l]
theorem tree_of_post {m : List Timpl_Tlv} (hm : AllOk m) (h0 : 0 < m.length) (h : post m (m.length - 1) = List.range m.length) : Tree m := by
  intro j hj
  have := post_count hm j (m.length - 1) (by omega)
  rw [h, if_neg (by omega), List.count_range] at this
  rw [if_pos (by omega)] at this
  unfold allKids
  rw [count_flat]
  omega
theorem tree_perm {m : List Timpl_Tlv} (hm : AllOk m) (ht : Tree m) : (allKids m).Perm (List.range (m.length - 1)) := by
  rw [List.perm_iff_count]
  intro j
  rw [List.count_range]
  split
  · exact ht j (by omega)
  · rw [List.count_eq_zero]
    intro hj
    unfold allKids at hj
    simp only [List.mem_flatten, List.mem_map, List.mem_range] at hj
    obtain ⟨l, ⟨i, hi, rfl⟩, hj⟩ := hj
    have := (hm i hi).kd j hj
    omega
theorem sum_mem {l : List Nat} {x : Nat} (h : x ∈ l) : x ≤ l.sum := by
  induction l with
  | nil => cases h
  | cons a l ih =>
    simp only [List.sum_cons]
    rcases List.mem_cons.1 h with rfl | h
    · omega
    · have := ih h; omega
abbrev Rd := Except Int (List Timpl_Tlv × Nat × Nat)
def rdL (rec : List Timpl_Tlv → Nat → Nat → Rd) (to : Nat) : Nat → List Timpl_Tlv → Nat → Nat → List Int → Except Int (List Timpl_Tlv × Nat × List Int)
  | 0, out, b, _, ks => .ok (out, b, ks)
  | g + 1, out, b, at', ks => if at' < to then match rec out b at' with
      | .error c => .error c
      | .ok (out', b', e) => rdL rec to g out' b' e (ks ++ [(out'.length : Int) - 1])
    else .ok (out, b, ks)
def rd (s : List UInt8) : Nat → Nat → List Timpl_Tlv → Nat → Nat → Rd
  | f, en, out, b, at' => if 60 ≤ b then .error 4 else if en ≤ at' then .error 1 else match s[at']? with
    | none => .error 1
    | some c => if ¬(1 ≤ c.toNat % 128 ∧ c.toNat % 128 ≤ 100) then .error 2 else match f with
      | 0 => .error 3
      | f + 1 => match dv 7 ((s.take en).drop (at' + 1)) with
        | none => .error 1
        | some (n, z) => if en < at' + 1 + z + n then .error 1 else if c.toNat < 128 then .ok (out ++ [⟨((c.toNat % 128 : Nat) : Int), true, (s.drop (at' + 1 + z)).take n, []⟩], b + 1, at' + 1 + z + n)
          else match rdL (fun o b a => rd s f (at' + 1 + z + n) o b a) (at' + 1 + z + n) n out (b + 1) (at' + 1 + z) [] with
          | .error c => .error c
          | .ok (out', b', ks) => .ok (out' ++ [⟨((c.toNat % 128 : Nat) : Int), false, [], ks⟩], b', at' + 1 + z + n)
/-- What was read at a place. -/
structure Got (s : List UInt8) (f at' : Nat) (out : List Timpl_Tlv) (b : Nat) (out' : List Timpl_Tlv) (b' e : Nat) : Prop where
  ex : ∃ nw, out' = out ++ nw
  lt : out.length < out'.length
  post : post out' (out'.length - 1) = List.range' out.length (out'.length - out.length)
  ht : ht out' (out'.length - 1) ≤ f
  ok : ∀ i, out.length ≤ i → i < out'.length → NOk out' i
  cnt : b' = b + (out'.length - out.length)
  b60 : b' ≤ 60
  lte : at' < e
  tx : tx out' (out'.length - 1) = (s.take e).drop at'
theorem nd_last {out : List Timpl_Tlv} {x : Timpl_Tlv} : nd (out ++ [x]) out.length = x := by simp [nd]
theorem cut_cat {s : List UInt8} {a b c : Nat} (h1 : a ≤ b) (h2 : b ≤ c) (h3 : c ≤ s.length) : (s.take b).drop a ++ (s.take c).drop b = (s.take c).drop a := by
  have e : s.take b = (s.take c).take b := by rw [List.take_take, Nat.min_eq_left h2]
  have e2 : (s.take c).drop b = ((s.take c).drop a).drop (b - a) := by rw [List.drop_drop]; congr 1; omega
  have e3 : (s.take b).drop a = ((s.take c).drop a).take (b - a) := by rw [e, List.drop_take]
  rw [e2, e3, List.take_append_drop]
theorem cut_len {s : List UInt8} {a b : Nat} (h : b ≤ s.length) : ((s.take b).drop a).length = b - a := by
  rw [List.length_drop, List.length_take, Nat.min_eq_left h]
theorem cut_cons {s : List UInt8} {a b : Nat} {c : UInt8} (h : s[a]? = some c) (h1 : a < b) : (s.take b).drop a = c :: (s.take b).drop (a + 1) := by
  have h2 : (s.take b)[a]? = some c := by rw [List.getElem?_take, if_pos h1, h]
  have h3 := (List.getElem?_eq_some_iff.1 h2)
  obtain ⟨h4, h5⟩ := h3
  rw [List.drop_eq_getElem_cons h4, h5]
/-- A row of kids that was read. -/
structure GotL (s : List UInt8) (f at' to : Nat) (out : List Timpl_Tlv) (b : Nat) (out' : List Timpl_Tlv) (b' : Nat) (ks : List Nat) : Prop where
  ex : ∃ nw, out' = out ++ nw
  post : (ks.map (M.post out')).flatten = List.range' out.length (out'.length - out.length)
  ht : ∀ k ∈ ks, M.ht out' k ≤ f
  kid : ∀ k ∈ ks, k < out'.length
  ok : ∀ i, out.length ≤ i → i < out'.length → NOk out' i
  cnt : b' = b + (out'.length - out.length)
  b60 : b' ≤ 60
  tx : (ks.map (M.tx out')).flatten = (s.take to).drop at'
theorem rdL_got {s : List UInt8} {f to : Nat} (hto : to ≤ s.length) (rec : List Timpl_Tlv → Nat → Nat → Rd) (hrec : ∀ out b a out' b' e, a < to → rec out b a = .ok (out', b', e) → e ≤ to ∧ Got s f a out b out' b' e) : ∀ (g a : Nat) (out : List Timpl_Tlv) (b : Nat) (ks0 : List Int) (out' : List Timpl_Tlv) (b' : Nat) (ks : List Int), a ≤ to → to - a ≤ g → b ≤ 60 → rdL rec to g out b a ks0 = .ok (out', b', ks) → ∃ kn : List Nat, ks = ks0 ++ kn.map (fun n : Nat => (n : Int)) ∧ GotL s f a to out b out' b' kn := by
  intro g
  induction g with
  | zero =>
    intro a out b ks0 out' b' ks ha hg hb h
    simp only [rdL, Except.ok.injEq, Prod.mk.injEq] at h
    obtain ⟨rfl, rfl, rfl⟩ := h
    refine ⟨[], by simp, ⟨[], by simp⟩, by simp, by simp, by simp, fun i h1 h2 => by omega, by omega, hb, ?_⟩
    simp only [List.map_nil, List.flatten_nil]
    exact (List.drop_of_length_le (by rw [List.length_take]; omega)).symm
  | succ g ih =>
    intro a out b ks0 out' b' ks ha hg hb h
    simp only [rdL] at h
    split at h
    · rename_i hlt
      split at h
      · cases h
      · rename_i o1 b1 e1 hr
        obtain ⟨he, hG⟩ := hrec _ _ _ _ _ _ hlt hr
        obtain ⟨kn, hk, hL⟩ := ih e1 o1 b1 _ out' b' ks he (by have := hG.lte; omega) hG.b60 h
        obtain ⟨n1, hn1⟩ := hG.ex
        obtain ⟨n2, hn2⟩ := hL.ex
        have hlt1 := hG.lt
        have hle : o1.length ≤ out'.length := by rw [hn2]; simp
        have hnd : ∀ j, j < o1.length → nd out' j = nd o1 j := fun j hj => by rw [hn2]; exact nd_append hj
        refine ⟨(o1.length - 1) :: kn, ?_, ⟨n1 ++ n2, by rw [hn2, hn1, List.append_assoc]⟩, ?_, ?_, ?_, ?_, ?_, hL.b60, ?_⟩
        · rw [hk, List.map_cons, List.append_assoc]
          rw [show ((o1.length - 1 : Nat) : Int) = (o1.length : Int) - 1 by omega]
          rfl
        · rw [List.map_cons, List.flatten_cons, hL.post, post_congr (m' := o1) (fun j hj => hnd j (by omega)), hG.post, show o1.length = out.length + (o1.length - out.length) by omega]
          rw [show out.length + (o1.length - out.length) - out.length = o1.length - out.length by omega, List.range'_append_1]
          congr 1; omega
        · intro k hk
          rcases List.mem_cons.1 hk with rfl | hk
          · rw [ht_congr (m' := o1) (fun j hj => hnd j (by omega))]; exact hG.ht
          · exact hL.ht k hk
        · intro k hk
          rcases List.mem_cons.1 hk with rfl | hk
          · omega
          · exact hL.kid k hk
        · intro i h1 h2
          by_cases hi : i < o1.length
          · exact (hG.ok i h1 hi).congr (hnd i hi).symm
          · exact hL.ok i (by omega) h2
        · have := hG.cnt; have := hL.cnt; omega
        · rw [List.map_cons, List.flatten_cons, hL.tx, tx_congr (m' := o1) (fun j hj => hnd j (by omega)), hG.tx]
          exact cut_cat (by have := hG.lte; omega) he hto
    · simp only [Except.ok.injEq, Prod.mk.injEq] at h
      obtain ⟨rfl, rfl, rfl⟩ := h
      refine ⟨[], by simp, ⟨[], by simp⟩, by simp, by simp, by simp, fun i h1 h2 => by omega, by omega, hb, ?_⟩
      simp only [List.map_nil, List.flatten_nil]
      exact (List.drop_of_length_le (by rw [List.length_take]; omega)).symm
theorem tag8 {c : UInt8} : UInt8.ofNat (((c.toNat % 128 : Nat) : Int) + 128).toNat = c ∨ c.toNat < 128 := by
  by_cases h : c.toNat < 128
  · exact .inr h
  · left
    have := c.toNat_lt
    rw [show (((c.toNat % 128 : Nat) : Int) + 128).toNat = c.toNat by omega]
    exact u8eta c
theorem rd_got {s : List UInt8} : ∀ (f en : Nat) (out : List Timpl_Tlv) (b a : Nat) (out' : List Timpl_Tlv) (b' e : Nat), en ≤ s.length → rd s f en out b a = .ok (out', b', e) → e ≤ en ∧ Got s f a out b out' b' e := by
  intro f
  induction f with
  | zero =>
    intro en out b a out' b' e hen h
    unfold rd at h
    split at h
    · cases h
    split at h
    · cases h
    split at h
    · cases h
    split at h
    · cases h
    · simp only at h; cases h
  | succ f ih =>
    intro en out b a out' b' e hen h
    unfold rd at h
    split at h
    · cases h
    rename_i hb
    split at h
    · cases h
    rename_i ha
    split at h
    · cases h
    rename_i c hc
    split at h
    · cases h
    rename_i ht
    simp only at h
    split at h
    · cases h
    rename_i n z hd
    have ⟨d1, d2, d3, d4, d5⟩ := dv_ok hd
    rw [cut_len hen] at d1
    split at h
    · cases h
    rename_i hle
    have ht' : 1 ≤ c.toNat % 128 ∧ c.toNat % 128 ≤ 100 := by omega
    have hpre : ∀ e, e = a + 1 + z + n → (s.take e).drop a = c :: varE n ++ (s.take e).drop (a + 1 + z) := by
      intro e he
      rw [cut_cons hc (by omega), List.cons_append]
      congr 1
      rw [← d4, ← cut_cat (s := s) (a := a + 1) (b := a + 1 + z) (c := e) (by omega) (by omega) (by omega)]
      congr 1
      rw [List.take_drop, List.take_take, Nat.min_eq_left (by omega)]
    split at h
    · rename_i hc8
      simp only [Except.ok.injEq, Prod.mk.injEq] at h
      obtain ⟨rfl, rfl, rfl⟩ := h
      have hlast := nd_last (out := out) (x := ⟨((c.toNat % 128 : Nat) : Int), true, (s.drop (a + 1 + z)).take n, []⟩)
      have hkd : kd (out ++ [(⟨((c.toNat % 128 : Nat) : Int), true, (s.drop (a + 1 + z)).take n, []⟩ : Timpl_Tlv)]) out.length = [] := by unfold kd; rw [hlast]; rfl
      have hk0 : ∀ k ∈ kd (out ++ [(⟨((c.toNat % 128 : Nat) : Int), true, (s.drop (a + 1 + z)).take n, []⟩ : Timpl_Tlv)]) out.length, k < out.length := by rw [hkd]; simp
      have hln : ((s.drop (a + 1 + z)).take n).length = n := by rw [List.length_take, List.length_drop]; omega
      refine ⟨by omega, ⟨_, rfl⟩, by simp, ?_, ?_, ?_, ?_, by omega, by omega, ?_⟩
      · simp only [List.length_append, List.length_cons, List.length_nil, Nat.add_sub_cancel]
        rw [post_eq hk0, hkd, show out.length + 1 - out.length = 1 by omega]; rfl
      · simp only [List.length_append, List.length_cons, List.length_nil, Nat.add_sub_cancel]
        rw [ht_eq hk0, hkd]; simp [maxL]
      · intro i h1 h2
        have : i = out.length := by simp at h2; omega
        subst this
        constructor
        · rw [hlast]; simp only; omega
        · rw [hlast]; intro _; rfl
        · rw [hlast]; intro h; cases h
        · rw [hlast]; intro k hk; cases hk
      · simp
      · simp only [List.length_append, List.length_cons, List.length_nil, Nat.add_sub_cancel]
        rw [tx_leaf (by rw [hlast]), hlast, hpre _ rfl, hln]
        simp only [head8]
        rw [show ((c.toNat % 128 : Nat) : Int).toNat = c.toNat by omega, u8eta, List.take_drop]
    · rename_i hc8
      split at h
      · cases h
      rename_i o1 b1 ks hL
      simp only [Except.ok.injEq, Prod.mk.injEq] at h
      obtain ⟨rfl, rfl, rfl⟩ := h
      obtain ⟨kn, hkn, hG⟩ := rdL_got (s := s) (f := f) (to := a + 1 + z + n) (by omega) _ (fun o b2 a2 o' b' e' _ hh => ih (a + 1 + z + n) o b2 a2 o' b' e' (by omega) hh) n (a + 1 + z) out (b + 1) [] o1 b1 ks (by omega) (by omega) (by omega) hL
      rw [List.nil_append] at hkn
      obtain ⟨nw, hnw⟩ := hG.ex
      have hlast := nd_last (out := o1) (x := ⟨((c.toNat % 128 : Nat) : Int), false, [], ks⟩)
      have hkd : kd (o1 ++ [(⟨((c.toNat % 128 : Nat) : Int), false, [], ks⟩ : Timpl_Tlv)]) o1.length = kn := by
        unfold kd; rw [hlast]; simp only [hkn, List.map_map]
        conv => rhs; rw [← List.map_id kn]
        exact List.map_congr_left fun k _ => by simp
      have hk0 : ∀ k ∈ kd (o1 ++ [(⟨((c.toNat % 128 : Nat) : Int), false, [], ks⟩ : Timpl_Tlv)]) o1.length, k < o1.length := by rw [hkd]; exact hG.kid
      have hnd : ∀ j, j < o1.length → nd (o1 ++ [(⟨((c.toNat % 128 : Nat) : Int), false, [], ks⟩ : Timpl_Tlv)]) j = nd o1 j := fun j hj => nd_append hj
      have hle1 : out.length ≤ o1.length := by rw [hnw]; simp
      have hcnt := hG.cnt
      have hb2 : b1 ≤ 60 := hG.b60
      refine ⟨by omega, ⟨nw ++ [⟨((c.toNat % 128 : Nat) : Int), false, [], ks⟩], by rw [hnw, List.append_assoc]⟩, by simp; omega, ?_, ?_, ?_, ?_, hb2, by omega, ?_⟩
      · simp only [List.length_append, List.length_cons, List.length_nil, Nat.add_sub_cancel]
        rw [post_eq hk0, hkd, List.map_congr_left (fun k hk => post_congr (m' := o1) fun j hj => hnd j (by have := hG.kid k hk; omega)), hG.post]
        have : [o1.length] = List.range' (out.length + (o1.length - out.length)) 1 := by rw [show out.length + (o1.length - out.length) = o1.length by omega]; rfl
        rw [this, List.range'_append_1]; congr 1; omega
      · simp only [List.length_append, List.length_cons, List.length_nil, Nat.add_sub_cancel]
        rw [ht_eq hk0, hkd]
        have : maxL (kn.map (M.ht (o1 ++ [(⟨((c.toNat % 128 : Nat) : Int), false, [], ks⟩ : Timpl_Tlv)]))) ≤ f := maxL_le fun x hx => by
          obtain ⟨k, hk, rfl⟩ := List.mem_map.1 hx
          rw [ht_congr (m' := o1) fun j hj => hnd j (by have := hG.kid k hk; omega)]
          exact hG.ht k hk
        omega
      · intro i h1 h2
        by_cases hi : i < o1.length
        · exact (hG.ok i h1 hi).congr (hnd i hi).symm
        have : i = o1.length := by simp at h2; omega
        subst this
        constructor
        · rw [hlast]; simp only; omega
        · rw [hlast]; intro h; cases h
        · rw [hlast]; intro _; rfl
        · rw [hlast]; intro k hk
          simp only [hkn] at hk
          obtain ⟨j, hj, rfl⟩ := List.mem_map.1 hk
          have := hG.kid j hj; omega
      · simp only [List.length_append, List.length_cons, List.length_nil]; omega
      · simp only [List.length_append, List.length_cons, List.length_nil, Nat.add_sub_cancel]
        rw [tx_node hk0 (by rw [hlast]), hkd, hlast, List.map_congr_left (fun k hk => tx_congr (m' := o1) fun j hj => hnd j (by have := hG.kid k hk; omega)), hG.tx, hpre _ rfl, cut_len (by omega)]
        simp only [head8]
        rw [(tag8 (c := c)).resolve_right hc8, show a + 1 + z + n - (a + 1 + z) = n by omega]
/-- What both sides ask of a message. -/
def Tlvly (m : List Timpl_Tlv) : Prop := 0 < m.length ∧ m.length ≤ 60 ∧ AllOk m ∧ ht m (m.length - 1) ≤ 8 ∧ post m (m.length - 1) = List.range m.length ∧ (tx m (m.length - 1)).length ≤ 900
theorem show_rd {m : List Timpl_Tlv} {t : List UInt8} {b e : Nat} (ht : t.length ≤ 900) (h : rd t 8 t.length [] 0 0 = .ok (m, b, e)) : Tlvly m ∧ tx m (m.length - 1) = t.take e ∧ e ≤ t.length ∧ b = m.length := by
  obtain ⟨h1, h2⟩ := rd_got 8 t.length [] 0 0 m b e (Nat.le_refl _) h
  have hlt := h2.lt
  have hc := h2.cnt
  simp only [List.length_nil] at hlt hc
  have h60 := h2.b60
  have htx := h2.tx
  rw [List.drop_zero] at htx
  refine ⟨⟨hlt, by omega, fun i hi => h2.ok i (by simp) hi, h2.ht, ?_, ?_⟩, htx, h1, by omega⟩
  · rw [h2.post, List.range_eq_range']; rfl
  · rw [htx, List.length_take]; omega
def Sm (m : List Timpl_Tlv) : Prop := m.length ≤ 1048576 ∧ ∀ x ∈ m, x.Data.length ≤ 1048576 ∧ x.Kids.length ≤ 1048576
theorem Sm.nd {m : List Timpl_Tlv} (h : Sm m) (i : Nat) : (nd m i).Data.length ≤ 1048576 ∧ (nd m i).Kids.length ≤ 1048576 := by
  by_cases hi : i < m.length
  · exact h.2 _ (List.mem_of_getElem? (get_nd hi))
  · simp [M.nd, List.getElem?_eq_none (Nat.le_of_not_lt hi)]
def cnt (l : List Nat) (N : Nat) : List Int := (List.range N).map fun j => (l.count j : Int)
/-- What the reference's reader answers. -/
def RdS (s : List UInt8) (x : Rd) (r : Tspec_l14R × Int) : Prop := match x with
  | .error c => r.1.code = c ∧ c ≠ 0
  | .ok (o, b, e) => r = (⟨s, o, (b : Int), 0⟩, (e : Int))
theorem sNodeL {s : List UInt8} {at0 d to : Nat} (hs : s.length ≤ 1048576) (hto : to ≤ s.length) (hd : d ≤ 8) (tag : Int) (rec : List Timpl_Tlv → Nat → Nat → Rd) (hgot : ∀ out b a out' b' e, a < to → rec out b a = .ok (out', b', e) → e ≤ to ∧ a < e ∧ b' ≤ 60 ∧ out'.length + b = out.length + b') :
    ∀ (g a : Nat) (cl : Nat → Tspec_l14R → Int → Int → Int → Option (Tspec_l14R × Int)) (out : List Timpl_Tlv) (b : Nat) (ks : List Int), a ≤ to → to - a ≤ g → out.length ≤ b → b ≤ 60 → ks.length + (to - a) ≤ 1048576 →
    (∀ (out : List Timpl_Tlv) (b a : Nat), a < to → out.length ≤ b → b ≤ 60 → EvP (fun n => cl n ⟨s, out, (b : Int), 0⟩ (a : Int) (to : Int) ((d : Int) + 1)) (RdS s (rec out b a))) →
    EvP (fun n => Fspec_l14Node.l4 (cl n) n (at0 : Int) (d : Int) (a : Int) (to : Int) s out (b : Int) 0 tag false ks) (RdS s (match rdL rec to g out b a ks with
      | .error c => .error c
      | .ok (out', b', ks) => .ok (out' ++ [⟨tag, false, [], ks⟩], b', to))) := by
  intro g
  induction g with
  | zero =>
    intro a cl out b ks ha hg hob hb hk hcl
    refine EvP.succ ?_
    simp only [Fspec_l14Node.l4, rdL]
    rw [decide_eq_false (by omega), decide_eq_true (by simp only [List.length_cons, List.length_nil]; omega)]
    exact EvP.pure rfl
  | succ g ih =>
    intro a cl out b ks ha hg hob hb hk hcl
    refine EvP.succ ?_
    simp only [Fspec_l14Node.l4, rdL]
    by_cases hlt : a < to
    · rw [decide_eq_true (by omega), if_pos hlt, wid (n := (d : Int) + 1) (by omega) (by omega)]
      simp only [cond_true]
      refine EvP.bind (hcl out b a hlt hob hb).shift (fun r hr => ?_)
      cases hrec : rec out b a with
      | error c =>
        rw [hrec] at hr
        obtain ⟨h1, h2⟩ := hr
        rw [h1, show (c != 0) = true by simpa using h2]
        exact EvP.pure ⟨h1, h2⟩
      | ok v =>
        obtain ⟨o, b', e⟩ := v
        rw [hrec] at hr
        have hr : r = (⟨s, o, (b' : Int), 0⟩, (e : Int)) := hr
        obtain ⟨g1, g2, g3, g4⟩ := hgot _ _ _ _ _ _ hlt hrec
        subst hr
        simp only [bne_self_eq_false, cond_false]
        rw [decide_eq_true (by simp only [List.length_cons, List.length_nil]; omega), wid (n := (o.length : Int) - 1) (by omega) (by omega)]
        simp only [cond_true]
        exact ih e (fun n => cl (n + 1)) o b' _ g1 (by omega) (by omega) g3 (by simp only [List.length_append, List.length_cons, List.length_nil]; omega) (fun out b a h1 h2 h3 => (hcl out b a h1 h2 h3).shift)
    · rw [decide_eq_false (by omega), if_neg hlt, decide_eq_true (by simp only [List.length_cons, List.length_nil]; omega)]
      exact EvP.pure rfl
theorem sNode {s : List UInt8} (hs : s.length ≤ 1048576) : ∀ (f d en : Nat) (out : List Timpl_Tlv) (b a : Nat), f + d = 8 → en ≤ s.length → out.length ≤ b → b ≤ 60 → EvP (fun n => Fspec_l14Node n ⟨s, out, (b : Int), 0⟩ (a : Int) (en : Int) (d : Int)) (RdS s (rd s f en out b a)) := by
  intro f
  induction f with
  | zero =>
    intro d en out b a hf hen hob hb
    refine EvP.succ ?_
    simp only [Fspec_l14Node]
    unfold rd
    refine EvP.ite (fun hc => ?_) (fun hc => ?_)
    · rw [if_pos (by simp at hc; omega)]; exact EvP.pure ⟨rfl, by decide⟩
    rw [if_neg (by simp at hc; omega)]
    refine EvP.ite (fun hc2 => ?_) (fun hc2 => ?_)
    · rw [if_pos (by simp at hc2; omega)]; exact EvP.pure ⟨rfl, by decide⟩
    rw [if_neg (by simp at hc2; omega)]
    have ha : a < en := by simp at hc2; omega
    obtain ⟨c, hcc⟩ := atLt (xs := s) (i := a) (by omega)
    refine EvP.at? hcc (EvP.at? hcc ?_)
    rw [hcc]
    simp only [sIn, Option.bind_some]
    rw [show Int.tmod (c.toNat : Int) 128 = ((c.toNat % 128 : Nat) : Int) by rw [Int.tmod_eq_emod_of_nonneg (by omega)]; omega]
    refine EvP.ite (fun hc3 => ?_) (fun hc3 => ?_)
    · simp only [Bool.not_eq_true', isIn, decide_eq_false_iff_not] at hc3
      rw [if_pos (by omega)]; exact EvP.pure ⟨rfl, by decide⟩
    simp only [Bool.not_eq_false', isIn, decide_eq_true_eq] at hc3
    rw [if_neg (by omega), decide_eq_true (by omega)]
    exact EvP.pure ⟨rfl, by decide⟩
  | succ f ih =>
    intro d en out b a hf hen hob hb
    refine EvP.succ ?_
    simp only [Fspec_l14Node]
    unfold rd
    refine EvP.ite (fun hc => ?_) (fun hc => ?_)
    · rw [if_pos (by simp at hc; omega)]; exact EvP.pure ⟨rfl, by decide⟩
    rw [if_neg (by simp at hc; omega)]
    have hb2 : b < 60 := by simp at hc; omega
    refine EvP.ite (fun hc2 => ?_) (fun hc2 => ?_)
    · rw [if_pos (by simp at hc2; omega)]; exact EvP.pure ⟨rfl, by decide⟩
    rw [if_neg (by simp at hc2; omega)]
    have ha : a < en := by simp at hc2; omega
    obtain ⟨c, hcc⟩ := atLt (xs := s) (i := a) (by omega)
    refine EvP.at? hcc (EvP.at? hcc ?_)
    rw [hcc]
    simp only [sIn, Option.bind_some]
    rw [show Int.tmod (c.toNat : Int) 128 = ((c.toNat % 128 : Nat) : Int) by rw [Int.tmod_eq_emod_of_nonneg (by omega)]; omega]
    refine EvP.ite (fun hc3 => ?_) (fun hc3 => ?_)
    · simp only [Bool.not_eq_true', isIn, decide_eq_false_iff_not] at hc3
      rw [if_pos (by omega)]; exact EvP.pure ⟨rfl, by decide⟩
    simp only [Bool.not_eq_false', isIn, decide_eq_true_eq] at hc3
    rw [if_neg (by omega), decide_eq_false (by omega), wid1 (i := a) (by omega), wid1 (i := b) (by omega)]
    simp only [cond_false]
    rw [cutN (by omega) hen]
    simp only [Option.bind_some]
    have hcut : (s.drop (a + 1)).take (en - (a + 1)) = (s.take en).drop (a + 1) := List.drop_take.symm
    rw [hcut]
    have hcl : ((s.take en).drop (a + 1)).length ≤ 1048576 := by rw [cut_len hen]; omega
    refine EvP.bindE (sReadVar _ hcl) ?_
    unfold rvP
    cases hdv : dv 7 ((s.take en).drop (a + 1)) with
    | none =>
      simp only [BEq.rfl, cond_true, Fspec_l14Node.j2]
      exact EvP.pure ⟨rfl, by decide⟩
    | some v =>
      obtain ⟨n, z⟩ := v
      obtain ⟨d1, d2, d3, d4, d5⟩ := dv_ok hdv
      rw [cut_len hen] at d1
      have d6 : n < 128 ^ 7 := Nat.lt_of_lt_of_le d5 (Nat.pow_le_pow_right (by omega) d2)
      simp only
      rw [show ((z : Int) == 0) = false by simp; omega]
      simp only [cond_false, Fspec_l14Node.j2]
      rw [wid (n := ((a + 1 : Nat) : Int) + (z : Int)) (by omega) (by omega)]
      rw [wid (n := (en : Int) - (((a + 1 : Nat) : Int) + (z : Int))) (by omega) (by omega)]
      rw [wid (n := ((a + 1 : Nat) : Int) + (z : Int) + (n : Int)) (by omega) (by omega)]
      refine EvP.ite (fun hc4 => ?_) (fun hc4 => ?_)
      · rw [if_pos (by simp at hc4; omega)]; exact EvP.pure ⟨rfl, by decide⟩
      have hle : a + 1 + z + n ≤ en := by simp at hc4; omega
      rw [if_neg (by omega)]
      rw [show ((a + 1 : Nat) : Int) + (z : Int) + (n : Int) = ((a + 1 + z + n : Nat) : Int) by omega, show ((a + 1 : Nat) : Int) + (z : Int) = ((a + 1 + z : Nat) : Int) by omega]
      refine EvP.ite (fun hc5 => ?_) (fun hc5 => ?_)
      · have h8 : c.toNat < 128 := by simp at hc5; omega
        rw [if_pos h8, cutN (by omega) (by omega)]
        simp only [Option.bind_some]
        rw [decide_eq_true (by simp only [List.length_cons, List.length_nil]; omega), show a + 1 + z + n - (a + 1 + z) = n by omega]
        simp only [cond_true, hc5]
        exact EvP.pure rfl
      · have h8 : ¬c.toNat < 128 := by simp at hc5; omega
        rw [if_neg h8, hc5]
        refine sNodeL (s := s) (at0 := a) (d := d) (to := a + 1 + z + n) hs (by omega) (by omega) ((c.toNat % 128 : Nat) : Int) (fun o b2 a2 => rd s f (a + 1 + z + n) o b2 a2) (fun o b2 a2 o' b' e' _ hr => ?_) n (a + 1 + z) (fun k => Fspec_l14Node k) out (b + 1) [] (by omega) (by omega) (by omega) (by omega) (by simp; omega) (fun o b2 a2 h1 h2 h3 => ?_)
        · obtain ⟨r1, r2⟩ := rd_got f (a + 1 + z + n) o b2 a2 o' b' e' (by omega) hr
          have := r2.cnt; have := r2.lt
          exact ⟨r1, r2.lte, r2.b60, by omega⟩
        · have := ih (d + 1) (a + 1 + z + n) o b2 a2 (by omega) (by omega) h2 h3
          exact this
theorem sReadTlv {s : List UInt8} (hs : s.length ≤ 1048576) : EvP (fun k => Fspec_ReadTlv k s) (fun r => r = if 900 < s.length then ([], 4) else match rd s 8 s.length [] 0 0 with
    | .error c => ([], c)
    | .ok (o, _, e) => if e = s.length then (o, 0) else ([], 5)) := by
  simp only [Fspec_ReadTlv]
  refine EvP.ite (fun hc => EvP.pure ?_) (fun hc => ?_)
  · rw [if_pos (by simp at hc; omega)]
  rw [if_neg (by simp at hc; omega)]
  refine EvP.bind (sNode hs 8 0 s.length [] 0 0 rfl (Nat.le_refl _) (by simp) (by omega)) (fun r hr => ?_)
  cases hx : rd s 8 s.length [] 0 0 with
  | error c =>
    rw [hx] at hr
    obtain ⟨h1, h2⟩ := hr
    rw [h1, show (c != 0) = true by simpa using h2]
    exact EvP.pure rfl
  | ok v =>
    obtain ⟨o, b, e⟩ := v
    rw [hx] at hr
    have hr : r = (⟨s, o, (b : Int), 0⟩, (e : Int)) := hr
    subst hr
    simp only [bne_self_eq_false, cond_false]
    refine EvP.ite (fun hc => EvP.pure ?_) (fun hc => EvP.pure ?_)
    · rw [if_neg]
      intro h; rw [h] at hc; simp at hc
    · rw [if_pos]
      have : (e : Int) = s.length := by simpa using hc
      omega
def sumW {α : Type} (w : α → Nat) : List α → Nat
  | [] => 0
  | x :: xs => w x + sumW w xs
def markW {α : Type} (g : Int → α → α) (w : α → Nat) : Int → List α → List α
  | _, [] => []
  | n, x :: xs => g n x :: markW g w (n + w x) xs
theorem markW_length {α : Type} (g : Int → α → α) (w : α → Nat) : ∀ (n : Int) (xs : List α), (markW g w n xs).length = xs.length
  | _, [] => rfl
  | n, x :: xs => by simp only [markW, List.length_cons, markW_length g w]
theorem sumW_le {α : Type} {w : α → Nat} {c : Nat} : ∀ {xs : List α}, (∀ x ∈ xs, w x ≤ c) → sumW w xs ≤ c * xs.length
  | [], _ => by simp [sumW]
  | x :: xs, h => by
    have h1 := h x List.mem_cons_self
    have h2 := sumW_le (w := w) (xs := xs) fun y hy => h y (List.mem_cons_of_mem _ hy)
    simp only [sumW, List.length_cons, Nat.mul_add, Nat.mul_one]; omega
theorem set_mid {α : Type} (a : List α) (x y : α) (b : List α) : (a ++ x :: b).set a.length y = a ++ [y] ++ b := by
  rw [List.set_append_right _ _ (Nat.le_refl _), Nat.sub_self, List.set_cons_zero]; simp
theorem get_mid {α : Type} (a : List α) (x : α) (b : List α) : (a ++ x :: b)[a.length]? = some x := by
  rw [List.getElem?_append_right (Nat.le_refl _), Nat.sub_self]; rfl
theorem Ev.markW {α : Type} {L : Nat → List α → Int → Int → Option (Int × List α)} {g : Int → α → α} {w : α → Nat}
    (hnil : ∀ xs n, Ev (fun k => L (k + 1) xs n (xs.length : Int)) (n, xs))
    (hcons : ∀ (i : Nat) (b : α) (xs : List α) (n : Int) r, xs[i]? = some b → i < xs.length → 0 ≤ n → n + w b ≤ 4611686018427387904 → xs.length ≤ 4611686018427387904 → Ev (fun k => L k (xs.set i (g n b)) (n + w b) ((i + 1 : Nat) : Int)) r → Ev (fun k => L (k + 1) xs n (i : Int)) r) :
    ∀ (rest done : List α) (n : Int), 0 ≤ n → n + sumW w rest ≤ 4611686018427387904 → (done ++ rest).length ≤ 4611686018427387904 → Ev (fun k => L k (done ++ rest) n (done.length : Int)) (n + sumW w rest, done ++ M.markW g w n rest)
  | [], done, n, h0, hb, hl => by
    refine Ev.succ ?_
    have := hnil done n
    simpa [M.markW, sumW] using this
  | x :: rest, done, n, h0, hb, hl => by
    simp only [sumW] at hb
    have hw : (0 : Int) ≤ (sumW w rest : Int) := by omega
    have ih := Ev.markW hnil hcons rest (done ++ [g n x]) (n + w x) (by omega) (by omega) (by simpa using hl)
    refine Ev.succ (hcons done.length x (done ++ x :: rest) n _ (get_mid _ _ _) (by simp) h0 (by omega) hl ?_)
    rw [set_mid, show ((done.length + 1 : Nat) : Int) = ((done ++ [g n x]).length : Int) by simp]
    simp only [M.markW, sumW]
    rw [show n + ((w x + sumW w rest : Nat) : Int) = n + (w x : Int) + (sumW w rest : Int) by omega, show done ++ g n x :: M.markW g w (n + w x) rest = done ++ [g n x] ++ M.markW g w (n + w x) rest by simp]
    exact ih
theorem Ev.heldW {α : Type} {L : Nat → List α → Int → Int → Option Int} {g : Int → α → α} {w : α → Nat} {ys : List α} (hly : ys.length ≤ 4611686018427387904)
    (hnil : ∀ j, Ev (fun k => L (k + 1) ys j (ys.length : Int)) j)
    (hcons : ∀ (i : Nat) (b : α) (j : Int) r, ys[i]? = some (g j b) → i < ys.length → 0 ≤ j → j + w b ≤ 4611686018427387904 → Ev (fun k => L k ys (j + w b) ((i + 1 : Nat) : Int)) r → Ev (fun k => L (k + 1) ys j (i : Int)) r) :
    ∀ (rest done : List α) (n : Int), ys = done ++ M.markW g w n rest → 0 ≤ n → n + sumW w rest ≤ 4611686018427387904 → Ev (fun k => L k ys n (done.length : Int)) (n + sumW w rest)
  | [], done, n, h, h0, hb => by
    refine Ev.succ ?_
    have := hnil n
    rw [h] at this ⊢
    simpa [M.markW, sumW] using this
  | x :: rest, done, n, h, h0, hb => by
    simp only [sumW] at hb
    simp only [M.markW] at h
    have ih := Ev.heldW hly hnil hcons rest (done ++ [g n x]) (n + w x) (by rw [h]; simp) (by omega) (by omega)
    have hg : ys[done.length]? = some (g n x) := by rw [h]; exact get_mid _ _ _
    refine Ev.succ (hcons done.length x n _ hg (List.getElem?_eq_some_iff.1 hg).1 h0 (by omega) ?_)
    rw [show ((done.length + 1 : Nat) : Int) = ((done ++ [g n x]).length : Int) by simp]
    simp only [sumW]
    rw [show n + ((w x + sumW w rest : Nat) : Int) = n + (w x : Int) + (sumW w rest : Int) by omega]
    exact ih
def RdI (s : List UInt8) (x : Rd) (r : Int × Int × Timpl_tlvReader) : Prop := match x with
  | .error c => r.2.1 = c ∧ c ≠ 0
  | .ok (o, b, e) => r = ((e : Int), 0, ⟨s, o, (b : Int)⟩)
theorem iNodeL {s : List UInt8} {a0 n d to : Nat} (hs : s.length ≤ 1048576) (hto : to ≤ s.length) (hd : d ≤ 8) (han : a0 + n = to) (tag : Int) (rec : List Timpl_Tlv → Nat → Nat → Rd) (hgot : ∀ out b a out' b' e, a < to → rec out b a = .ok (out', b', e) → e ≤ to ∧ a < e ∧ b' ≤ 60 ∧ out'.length + b = out.length + b') :
    ∀ (g a : Nat) (cl : Nat → Int → Int → Int → Timpl_tlvReader → Option (Int × Int × Timpl_tlvReader)) (out : List Timpl_Tlv) (b : Nat) (ks : List Int), a ≤ to → to - a ≤ g → out.length ≤ b → b ≤ 60 → ks.length + (to - a) ≤ 1048576 →
    (∀ (out : List Timpl_Tlv) (b a : Nat), a < to → out.length ≤ b → b ≤ 60 → EvP (fun n => cl n (a : Int) (to : Int) ((d : Int) + 1) ⟨s, out, (b : Int)⟩) (RdI s (rec out b a))) →
    EvP (fun k => Fimpl_tlvReader_node.l4 (cl k) k (d : Int) (n : Int) (a0 : Int) (a : Int) s out (b : Int) tag false [] ks) (RdI s (match rdL rec to g out b a ks with
      | .error c => .error c
      | .ok (out', b', ks) => .ok (out' ++ [⟨tag, false, [], ks⟩], b', to))) := by
  have hsum : IntKind.i64.wrap ((a0 : Int) + (n : Int)) = (to : Int) := by rw [wid (by omega) (by omega)]; omega
  have fin : ∀ (cl : Nat → Int → Int → Int → Timpl_tlvReader → Option (Int × Int × Timpl_tlvReader)) (out : List Timpl_Tlv) (b : Nat) (ks : List Int) (k : Nat), out.length ≤ b → b ≤ 60 → Fimpl_tlvReader_node.j3 k (n : Int) (a0 : Int) s out (b : Int) tag false [] ks = some ((to : Int), 0, ⟨s, out ++ [⟨tag, false, [], ks⟩], (b : Int)⟩) := by
    intro cl out b ks k h1 h2
    simp only [Fimpl_tlvReader_node.j3]
    rw [decide_eq_true (by simp only [List.length_cons, List.length_nil]; omega), hsum]; rfl
  intro g
  induction g with
  | zero =>
    intro a cl out b ks ha hg hob hb hk hcl
    refine EvP.succ ?_
    simp only [Fimpl_tlvReader_node.l4, rdL, Bool.not_false, cond_true]
    rw [hsum, decide_eq_false (by omega)]
    simp only [cond_false, fin cl out b ks _ hob hb]
    exact EvP.pure rfl
  | succ g ih =>
    intro a cl out b ks ha hg hob hb hk hcl
    refine EvP.succ ?_
    simp only [Fimpl_tlvReader_node.l4, rdL, Bool.not_false, cond_true]
    rw [hsum]
    by_cases hlt : a < to
    · rw [decide_eq_true (by omega), if_pos hlt, wid (n := (d : Int) + 1) (by omega) (by omega)]
      simp only [cond_true]
      refine EvP.bind (hcl out b a hlt hob hb).shift (fun r hr => ?_)
      cases hrec : rec out b a with
      | error c =>
        rw [hrec] at hr
        obtain ⟨h1, h2⟩ := hr
        rw [h1, show (c != 0) = true by simpa using h2]
        exact EvP.pure ⟨rfl, h2⟩
      | ok v =>
        obtain ⟨o, b', e⟩ := v
        rw [hrec] at hr
        have hr : r = ((e : Int), 0, ⟨s, o, (b' : Int)⟩) := hr
        obtain ⟨g1, g2, g3, g4⟩ := hgot _ _ _ _ _ _ hlt hrec
        subst hr
        simp only [bne_self_eq_false, cond_false]
        rw [decide_eq_true (by simp only [List.length_cons, List.length_nil]; omega), wid (n := (o.length : Int) - 1) (by omega) (by omega)]
        simp only [cond_true]
        exact ih e (fun n => cl (n + 1)) o b' _ g1 (by omega) (by omega) g3 (by simp only [List.length_append, List.length_cons, List.length_nil]; omega) (fun out b a h1 h2 h3 => (hcl out b a h1 h2 h3).shift)
    · rw [decide_eq_false (by omega), if_neg hlt]
      simp only [cond_false, fin cl out b ks _ hob hb]
      exact EvP.pure rfl
theorem iNode {s : List UInt8} (hs : s.length ≤ 1048576) : ∀ (f d en : Nat) (out : List Timpl_Tlv) (b a : Nat), f + d = 8 → en ≤ s.length → out.length ≤ b → b ≤ 60 → EvP (fun n => Fimpl_tlvReader_node n (a : Int) (en : Int) (d : Int) ⟨s, out, (b : Int)⟩) (RdI s (rd s f en out b a)) := by
  intro f
  induction f with
  | zero =>
    intro d en out b a hf hen hob hb
    refine EvP.succ ?_
    simp only [Fimpl_tlvReader_node]
    unfold rd
    refine EvP.ite (fun hc => ?_) (fun hc => ?_)
    · rw [if_pos (by simp at hc; omega)]; exact EvP.pure ⟨rfl, by decide⟩
    rw [if_neg (by simp at hc; omega)]
    refine EvP.ite (fun hc2 => ?_) (fun hc2 => ?_)
    · rw [if_pos (by simp at hc2; omega)]; exact EvP.pure ⟨rfl, by decide⟩
    rw [if_neg (by simp at hc2; omega)]
    have ha : a < en := by simp at hc2; omega
    obtain ⟨c, hcc⟩ := atLt (xs := s) (i := a) (by omega)
    refine EvP.at? hcc ?_
    rw [hcc]
    simp only [iIn, Option.bind_some]
    rw [show Int.tmod (c.toNat : Int) 128 = ((c.toNat % 128 : Nat) : Int) by rw [Int.tmod_eq_emod_of_nonneg (by omega)]; omega]
    refine EvP.ite (fun hc3 => ?_) (fun hc3 => ?_)
    · simp only [Bool.not_eq_true', isIn, decide_eq_false_iff_not] at hc3
      rw [if_pos (by omega)]; exact EvP.pure ⟨rfl, by decide⟩
    simp only [Bool.not_eq_false', isIn, decide_eq_true_eq] at hc3
    rw [if_neg (by omega), decide_eq_true (by omega)]
    exact EvP.pure ⟨rfl, by decide⟩
  | succ f ih =>
    intro d en out b a hf hen hob hb
    refine EvP.succ ?_
    simp only [Fimpl_tlvReader_node]
    unfold rd
    refine EvP.ite (fun hc => ?_) (fun hc => ?_)
    · rw [if_pos (by simp at hc; omega)]; exact EvP.pure ⟨rfl, by decide⟩
    rw [if_neg (by simp at hc; omega)]
    have hb2 : b < 60 := by simp at hc; omega
    refine EvP.ite (fun hc2 => ?_) (fun hc2 => ?_)
    · rw [if_pos (by simp at hc2; omega)]; exact EvP.pure ⟨rfl, by decide⟩
    rw [if_neg (by simp at hc2; omega)]
    have ha : a < en := by simp at hc2; omega
    obtain ⟨c, hcc⟩ := atLt (xs := s) (i := a) (by omega)
    refine EvP.at? hcc ?_
    rw [hcc]
    simp only [iIn, Option.bind_some]
    rw [show Int.tmod (c.toNat : Int) 128 = ((c.toNat % 128 : Nat) : Int) by rw [Int.tmod_eq_emod_of_nonneg (by omega)]; omega]
    refine EvP.ite (fun hc3 => ?_) (fun hc3 => ?_)
    · simp only [Bool.not_eq_true', isIn, decide_eq_false_iff_not] at hc3
      rw [if_pos (by omega)]; exact EvP.pure ⟨rfl, by decide⟩
    simp only [Bool.not_eq_false', isIn, decide_eq_true_eq] at hc3
    rw [if_neg (by omega), decide_eq_false (by omega), wid1 (i := a) (by omega), wid1 (i := b) (by omega)]
    simp only [cond_false]
    rw [cutN (by omega) hen]
    simp only [Option.bind_some]
    have hcut : (s.drop (a + 1)).take (en - (a + 1)) = (s.take en).drop (a + 1) := List.drop_take.symm
    rw [hcut]
    have hcl : ((s.take en).drop (a + 1)).length ≤ 1048576 := by rw [cut_len hen]; omega
    refine EvP.bindE (iReadVar _ hcl) ?_
    unfold rvP
    cases hdv : dv 7 ((s.take en).drop (a + 1)) with
    | none =>
      simp only [BEq.rfl, cond_true]
      exact EvP.pure ⟨rfl, by decide⟩
    | some v =>
      obtain ⟨n, z⟩ := v
      obtain ⟨d1, d2, d3, d4, d5⟩ := dv_ok hdv
      rw [cut_len hen] at d1
      have d6 : n < 128 ^ 7 := Nat.lt_of_lt_of_le d5 (Nat.pow_le_pow_right (by omega) d2)
      simp only
      rw [show ((z : Int) == 0) = false by simp; omega]
      simp only [cond_false]
      rw [wid (n := ((a + 1 : Nat) : Int) + (z : Int)) (by omega) (by omega)]
      rw [wid (n := (en : Int) - (((a + 1 : Nat) : Int) + (z : Int))) (by omega) (by omega)]
      refine EvP.ite (fun hc4 => ?_) (fun hc4 => ?_)
      · rw [if_pos (by simp at hc4; omega)]; exact EvP.pure ⟨rfl, by decide⟩
      have hle : a + 1 + z + n ≤ en := by simp at hc4; omega
      rw [if_neg (by omega)]
      rw [wid (n := ((a + 1 : Nat) : Int) + (z : Int) + (n : Int)) (by omega) (by omega)]
      rw [show ((a + 1 : Nat) : Int) + (z : Int) + (n : Int) = ((a + 1 + z + n : Nat) : Int) by omega, show ((a + 1 : Nat) : Int) + (z : Int) = ((a + 1 + z : Nat) : Int) by omega]
      refine EvP.ite (fun hc5 => ?_) (fun hc5 => ?_)
      · have h8 : c.toNat < 128 := by simp at hc5; omega
        rw [if_pos h8, cutN (by omega) (by omega)]
        simp only [Option.bind_some]
        rw [show a + 1 + z + n - (a + 1 + z) = n by omega, hc5]
        simp only [Fimpl_tlvReader_node.j1]
        refine EvP.succ ?_
        simp only [Fimpl_tlvReader_node.l4, Bool.not_true, cond_false, Fimpl_tlvReader_node.j3]
        rw [decide_eq_true (by simp only [List.length_cons, List.length_nil]; omega), wid (n := ((a + 1 + z : Nat) : Int) + (n : Int)) (by omega) (by omega), show ((a + 1 + z : Nat) : Int) + (n : Int) = ((a + 1 + z + n : Nat) : Int) by omega]
        exact EvP.pure rfl
      · have h8 : ¬c.toNat < 128 := by simp at hc5; omega
        rw [if_neg h8, hc5]
        simp only [Fimpl_tlvReader_node.j1]
        refine iNodeL (s := s) (a0 := a + 1 + z) (n := n) (d := d) (to := a + 1 + z + n) hs (by omega) (by omega) rfl ((c.toNat % 128 : Nat) : Int) (fun o b2 a2 => rd s f (a + 1 + z + n) o b2 a2) (fun o b2 a2 o' b' e' _ hr => ?_) n (a + 1 + z) (fun k => Fimpl_tlvReader_node k) out (b + 1) [] (by omega) (by omega) (by omega) (by omega) (by simp; omega) (fun o b2 a2 h1 h2 h3 => ?_)
        · obtain ⟨r1, r2⟩ := rd_got f (a + 1 + z + n) o b2 a2 o' b' e' (by omega) hr
          have := r2.cnt; have := r2.lt
          exact ⟨r1, r2.lte, r2.b60, by omega⟩
        · have := ih (d + 1) (a + 1 + z + n) o b2 a2 (by omega) (by omega) h2 h3
          exact this
def rdR (s : List UInt8) : List Timpl_Tlv × Int := if 900 < s.length then ([], 4) else match rd s 8 s.length [] 0 0 with
  | .error c => ([], c)
  | .ok (o, _, e) => if e = s.length then (o, 0) else ([], 5)
theorem iReadTlv {s : List UInt8} (hs : s.length ≤ 1048576) : Ev (fun k => Fimpl_ReadTlv k s) (rdR s) := by
  refine EvP.ev ?_
  simp only [Fimpl_ReadTlv, rdR]
  refine EvP.ite (fun hc => EvP.pure ?_) (fun hc => ?_)
  · rw [if_pos (by simp at hc; omega)]
  rw [if_neg (by simp at hc; omega)]
  refine EvP.bind (iNode hs 8 0 s.length [] 0 0 rfl (Nat.le_refl _) (by simp) (by omega)) (fun r hr => ?_)
  cases hx : rd s 8 s.length [] 0 0 with
  | error c =>
    rw [hx] at hr
    obtain ⟨h1, h2⟩ := hr
    rw [h1, show (c != 0) = true by simpa using h2]
    exact EvP.pure rfl
  | ok v =>
    obtain ⟨o, b, e⟩ := v
    rw [hx] at hr
    have hr : r = ((e : Int), 0, ⟨s, o, (b : Int)⟩) := hr
    subst hr
    obtain ⟨g1, _⟩ := rd_got 8 s.length [] 0 0 o b e (Nat.le_refl _) hx
    simp only [bne_self_eq_false, cond_false]
    refine EvP.ite (fun hc => EvP.pure ?_) (fun hc => EvP.pure ?_)
    · rw [if_neg (by simp at hc; omega)]
    · rw [if_pos (by simp at hc; omega)]
theorem sReadTlvE {s : List UInt8} (hs : s.length ≤ 1048576) : Ev (fun k => Fspec_ReadTlv k s) (rdR s) := by
  refine EvP.ev ?_
  exact sReadTlv hs
theorem rdR_small {s : List UInt8} : (rdR s).1.length ≤ 60 ∧ ∀ x ∈ (rdR s).1, x.Kids.length ≤ 60 := by
  unfold rdR
  split
  · simp
  cases hx : rd s 8 s.length [] 0 0 with
  | error c => simp
  | ok v =>
    obtain ⟨o, b, e⟩ := v
    simp only
    split
    · rename_i h9 he
      obtain ⟨⟨t1, t2, t3, t4, t5, t6⟩, _⟩ := show_rd (by omega) hx
      refine ⟨t2, fun x hxm => ?_⟩
      obtain ⟨i, hi, hxi⟩ := List.getElem_of_mem hxm
      have hn : nd o i = x := nd_get (by rw [List.getElem?_eq_getElem hi, hxi])
      have hp := (tree_perm t3 (tree_of_post t3 t1 t5)).length_eq
      rw [List.length_range] at hp
      have hmem : (kd o i).length ≤ (allKids o).length := by
        unfold allKids
        rw [List.length_flatten]
        exact sum_mem (List.mem_map.2 ⟨kd o i, List.mem_map.2 ⟨i, List.mem_range.2 hi, rfl⟩, rfl⟩)
      have hk : (kd o i).length = x.Kids.length := by unfold kd; rw [hn, List.length_map]
      omega
    · simp
theorem eqIntS_ev (xs : List Int) (h : (xs.length ≤ 1099511627776)) : Ev (fun k => Flaws_eqIntS k xs xs) true := by
  have hl : xs.length ≤ 1099511627776 := h
  simp only [Flaws_eqIntS, bne_self_eq_false, cond_false]
  refine Ev.for (xs := xs) (L := fun k (_ : Unit) i => Flaws_eqIntS.l2 k xs xs i) (f := fun _ _ => true) (fun s => by simp only [Flaws_eqIntS.l2, ltD0, cond_false]; exact Ev.pure _) (fun i b s hb hi hr => ?_) ()
  simp only [Flaws_eqIntS.l2, ltD hi, cond_true]
  refine Ev.at? hb (Ev.at? hb (?_))
  simp only [bne_self_eq_false, Bool.not_true, cond_false]
  rw [wid1 (by omega)]; exact hr ()
def okTlv (a : Timpl_Tlv) : Prop := (a.Kids.length ≤ 1099511627776)
theorem eqTlv_ev (a : Timpl_Tlv) (h : okTlv a) : Ev (fun k => Flaws_eqTlv k a a) true := by
  simp only [Flaws_eqTlv, bne_self_eq_false, cond_false]
  refine Ev.bind (eqIntS_ev _ h) ?_
  simp only [Bool.not_true, cond_false]
  exact Ev.pure _
theorem eqTlvS_ev (xs : List Timpl_Tlv) (h : (xs.length ≤ 1099511627776 ∧ ∀ x ∈ xs, okTlv x)) : Ev (fun k => Flaws_eqTlvS k xs xs) true := by
  have hl : xs.length ≤ 1099511627776 := h.1
  simp only [Flaws_eqTlvS, bne_self_eq_false, cond_false]
  refine Ev.for (xs := xs) (L := fun k (_ : Unit) i => Flaws_eqTlvS.l2 k xs xs i) (f := fun _ _ => true) (fun s => by simp only [Flaws_eqTlvS.l2, ltD0, cond_false]; exact Ev.pure _) (fun i b s hb hi hr => ?_) ()
  simp only [Flaws_eqTlvS.l2, ltD hi, cond_true]
  refine Ev.at? hb (Ev.at? hb (Ev.bind (eqTlv_ev b (h.2 b (List.mem_of_getElem? hb))) ?_))
  simp only [bne_self_eq_false, Bool.not_true, cond_false]
  rw [wid1 (by omega)]; exact hr ()
def mkIntS (n : Int) (_ : Int) : Int := n
theorem markIntS_ev (xs : List Int) (n : Int) (hn : 0 ≤ n) (hb : n + 1 * xs.length ≤ 4611686018427387904) (hl : xs.length ≤ 4611686018427387904) : Ev (fun k => Flaws_markIntS k xs n) (n + 1 * xs.length, markL mkIntS 1 n xs) := by
  simp only [Flaws_markIntS]
  refine Ev.mark (L := fun k xs n i => Flaws_markIntS.l2 k xs n i) (g := mkIntS) (w := 1) (fun xs n => by simp only [Flaws_markIntS.l2, ltD0, cond_false]; exact Ev.pure _) (fun i b xs n r hb hi h0 h1 h2 hr => ?_) xs n hn hb hl
  simp only [Flaws_markIntS.l2, ltD hi, cond_true]
  refine Ev.at? hb ?_
  simp (disch := omega) only [Int.toNat_natCast, List.set_set, atSet hi, Option.bind_some, widR, Int.add_assoc]
  exact hr
theorem heldIntS_ev (xs : List Int) (n : Int) (hn : 0 ≤ n) (hb : n + 1 * xs.length ≤ 4611686018427387904) (hl : xs.length ≤ 4611686018427387904) : Ev (fun k => Flaws_heldIntS k (markL mkIntS 1 n xs) n) (n + 1 * xs.length) := by
  simp only [Flaws_heldIntS]
  refine Ev.held (L := fun k xs n i => Flaws_heldIntS.l2 k xs n i) (g := mkIntS) (w := 1) hn hb hl (fun xs n => by simp only [Flaws_heldIntS.l2, ltD0, cond_false]; exact Ev.pure _) (fun i b xs n r hb hi h0 h1 h2 hr => ?_)
  simp only [Flaws_heldIntS.l2, ltD hi, cond_true]
  simp (disch := omega) only [atN hb, mkIntS, Option.bind_some, widR, Int.add_assoc, Int.reduceAdd, bne_self_eq_false, cond_false]
  exact hr
def mkTlvW (n : Int) (b : Timpl_Tlv) : Timpl_Tlv := ⟨n, Int.tmod (n + 1) 3 == 0, markT (n + 2), markL mkIntS 1 (n + 3) b.Kids⟩
def wTlv (b : Timpl_Tlv) : Nat := 3 + b.Kids.length
theorem markTlvS_evW (xs : List Timpl_Tlv) (n : Int) (hn : 0 ≤ n) (hb : n + sumW wTlv xs ≤ 4611686018427387904) (hl : xs.length ≤ 4611686018427387904) : Ev (fun k => Flaws_markTlvS k xs n) (n + sumW wTlv xs, markW mkTlvW wTlv n xs) := by
  simp only [Flaws_markTlvS]
  refine Ev.markW (L := fun k xs n i => Flaws_markTlvS.l2 k xs n i) (g := mkTlvW) (w := wTlv) (fun xs n => by simp only [Flaws_markTlvS.l2, ltD0, cond_false]; exact Ev.pure _) (fun i b xs n r hb hi h0 h1 h2 hr => ?_) xs [] n hn hb hl
  have hw : (wTlv b : Int) = 3 + b.Kids.length := by simp [wTlv]
  simp only [Flaws_markTlvS.l2, ltD hi, cond_true]
  refine Ev.at? hb ?_
  simp (disch := omega) only [Int.toNat_natCast, List.set_set, atSet hi, Option.bind_some, widR, Int.add_assoc, Int.reduceAdd]
  refine Ev.bind (markText_ev _ (by omega)) ?_
  refine Ev.bind (markIntS_ev b.Kids (n + 3) (by omega) (by omega) (by omega)) ?_
  have e : n + 3 + 1 * (b.Kids.length : Int) = n + (wTlv b : Int) := by omega
  simp only [e]
  rw [show ((i : Int) + 1) = ((i + 1 : Nat) : Int) by omega]
  exact hr
theorem heldTlvS_evW (xs : List Timpl_Tlv) (n : Int) (hn : 0 ≤ n) (hb : n + sumW wTlv xs ≤ 4611686018427387904) (hl : xs.length ≤ 4611686018427387904) : Ev (fun k => Flaws_heldTlvS k (markW mkTlvW wTlv n xs) n) (n + sumW wTlv xs) := by
  simp only [Flaws_heldTlvS]
  refine Ev.heldW (L := fun k xs n i => Flaws_heldTlvS.l2 k xs n i) (g := mkTlvW) (w := wTlv) (ys := markW mkTlvW wTlv n xs) (by rw [markW_length]; exact hl) (fun n => by simp only [Flaws_heldTlvS.l2, ltD0, cond_false]; exact Ev.pure _) (fun i b j r hb hi h0 h1 hr => ?_) xs [] n rfl hn hb
  have hw : (wTlv b : Int) = 3 + b.Kids.length := by simp [wTlv]
  have hlm := markW_length mkTlvW wTlv n xs
  simp only [Flaws_heldTlvS.l2, ltD hi, cond_true]
  simp (disch := omega) only [atN hb, mkTlvW, Option.bind_some, widR, Int.add_assoc, Int.reduceAdd, bne_self_eq_false, cond_false]
  refine Ev.bind (markText_ev _ (by omega)) ?_
  simp (disch := omega) only [Option.bind_some, widR, Int.add_assoc, Int.reduceAdd, bne_self_eq_false, cond_false]
  refine Ev.bind (heldIntS_ev b.Kids (j + 3) (by omega) (by omega) (by omega)) ?_
  have e : j + 3 + 1 * (b.Kids.length : Int) = j + (wTlv b : Int) := by omega
  rw [decide_eq_false (by omega)]
  simp only [cond_false, e]
  rw [show ((i : Int) + 1) = ((i + 1 : Nat) : Int) by omega]
  exact hr
theorem lawExactReadTlv (a0 : List UInt8) (w0 : Go.MG.wfS a0) : ∃ k, Flaws_FnExactReadTlv k a0 = some true := by
  refine Ev.get (f := fun k => Flaws_FnExactReadTlv k a0) ?_
  simp only [Flaws_FnExactReadTlv]
  refine Ev.ite (fun _ => Ev.pure _) (fun hc => ?_)
  have s0 : a0.length ≤ 1048576 := by simp at hc; omega
  have hs := sReadTlvE s0
  have hi := iReadTlv s0
  obtain ⟨hl, hk⟩ := rdR_small (s := a0)
  generalize rdR a0 = r at hs hi hl hk
  have hr : r.1.length ≤ 1099511627776 ∧ ∀ x ∈ r.1, okTlv x := ⟨by omega, fun x hx => by have := hk x hx; show x.Kids.length ≤ _; omega⟩
  have hw : sumW wTlv r.1 ≤ 63 * r.1.length := sumW_le fun x hx => by have := hk x hx; simp only [wTlv]; omega
  refine Ev.bind hs ?_
  refine Ev.bind hi ?_
  refine Ev.bind (eqTlvS_ev _ hr) ?_
  simp only [Bool.not_true, cond_false, bne_self_eq_false]
  refine Ev.bind (markTlvS_evW _ (1 : Int) (by omega) (by omega) (by omega)) ?_
  refine Ev.bind (heldTlvS_evW _ (1 : Int) (by omega) (by omega) (by omega)) ?_
  refine Ev.ite (fun hc => absurd (of_decide_eq_true hc) (by first | omega | (simp only; omega))) (fun _ => ?_)
  try simp only [bne_self_eq_false, cond_false]
  refine Ev.bind hi ?_
  refine Ev.bind (eqTlvS_ev _ hr) ?_
  simp only [Bool.not_true, cond_false, bne_self_eq_false]
  refine Ev.bind (heldTlvS_evW _ (1 : Int) (by omega) (by omega) (by omega)) ?_
  refine Ev.ite (fun hc => absurd (of_decide_eq_true hc) (by first | omega | (simp only; omega))) (fun _ => ?_)
  try simp only [bne_self_eq_false, cond_false]
  exact Ev.pure _


end Go.Proofs.Ytgjbgakcfcomdaa.M
