/- The program's Once returns what the reference's returns, for all arguments. -/
import Derived.Test.YtgjbgakcfcomdaaGreatFOnce
namespace Go.Proofs.YtgjbgakcfcomdaaGreat.M
open Go Go.MG
set_option linter.unusedVariables false
set_option linter.unusedSimpArgs false
theorem wid {n : Int} (h1 : -9223372036854775808 ≤ n) (h2 : n ≤ 9223372036854775807) : IntKind.i64.wrap n = n := by
  rw [IntKind.wrap_i64]; omega
theorem atN {α : Type} {xs : List α} {i : Nat} {b : α} (h : xs[i]? = some b) : at? xs (i : Int) = some b := by
  simp [at?, h]
theorem atLt {α : Type} {xs : List α} {i : Nat} (h : i < xs.length) : ∃ b, xs[i]? = some b := ⟨xs[i], List.getElem?_eq_getElem h⟩
theorem wid1 {i : Nat} (h : i ≤ 4611686018427387904) : IntKind.i64.wrap ((i : Int) + 1) = ((i + 1 : Nat) : Int) := by
  rw [wid (by omega) (by omega)]; omega
theorem ltD {i n : Nat} (h : i < n) : decide ((i : Int) < (n : Int)) = true := by simp; omega
theorem ltD0 {n : Nat} : decide ((n : Int) < (n : Int)) = false := by simp
theorem take_succ_get {α : Type} {xs : List α} {i : Nat} {b : α} (h : xs[i]? = some b) : xs.take (i + 1) = xs.take i ++ [b] := by
  rw [List.take_add_one, h]; rfl
/-- What a copy has become after some rounds. -/
theorem set_copy {α : Type} {xs : List α} {z b : α} {i : Nat} (h : xs[i]? = some b) : (xs.take i ++ List.replicate (xs.length - i) z).set i b = xs.take (i + 1) ++ List.replicate (xs.length - (i + 1)) z := by
  have hi := (List.getElem?_eq_some_iff.1 h).1
  rw [take_succ_get h, List.set_append_right _ _ (by simp; omega)]
  have e : xs.length - i = (xs.length - (i + 1)) + 1 := by omega
  rw [e, List.replicate_succ]
  have e2 : i - (xs.take i).length = 0 := by simp; omega
  rw [e2]
  simp
theorem get_copy {α : Type} {xs : List α} {z : α} {i : Nat} (h : i < xs.length) : (xs.take i ++ List.replicate (xs.length - i) z)[i]? = some z := by
  rw [List.getElem?_append_right (by simp; omega)]
  have : i - (xs.take i).length = 0 := by simp; omega
  rw [this, List.getElem?_replicate]
  simp; omega
/-- From some fuel on it answers so. -/
def Ev {α : Type} (f : Nat → Option α) (r : α) : Prop := ∃ n, ∀ k, n ≤ k → f k = some r
theorem Ev.pure {α : Type} (r : α) : Ev (fun _ => some r) r := ⟨0, fun _ _ => rfl⟩
theorem Ev.of {α : Type} {f : Nat → Option α} {r : α} (h : ∀ k, f k = some r) : Ev f r := ⟨0, fun k _ => h k⟩
theorem Ev.bind {α β : Type} {f : Nat → Option α} {g : Nat → α → Option β} {a : α} {r : β} (h : Ev f a) (h' : Ev (fun k => g k a) r) : Ev (fun k => (f k).bind (g k)) r := by
  obtain ⟨n, h⟩ := h
  obtain ⟨m, h'⟩ := h'
  refine ⟨max n m, fun k hk => ?_⟩
  show (f k).bind (g k) = some r
  rw [h k (by omega), Option.bind_some]
  exact h' k (by omega)
theorem Ev.succ {α : Type} {f : Nat → Option α} {r : α} (h : Ev (fun k => f (k + 1)) r) : Ev f r := by
  obtain ⟨n, h⟩ := h
  refine ⟨n + 1, fun k hk => ?_⟩
  obtain ⟨j, rfl⟩ : ∃ j, k = j + 1 := ⟨k - 1, by omega⟩
  exact h j (by omega)
theorem Ev.shift {α : Type} {f : Nat → Option α} {r : α} (h : Ev f r) : Ev (fun k => f (k + 1)) r := by
  obtain ⟨n, h⟩ := h
  exact ⟨n, fun k hk => h (k + 1) (by omega)⟩
theorem Ev.get {α : Type} {f : Nat → Option α} {r : α} (h : Ev f r) : ∃ k, f k = some r := by
  obtain ⟨n, h⟩ := h
  exact ⟨n, h n (Nat.le_refl _)⟩
theorem Ev.congr {α : Type} {f g : Nat → Option α} {r : α} (h : Ev f r) (e : ∀ k, g k = f k) : Ev g r := by
  obtain ⟨n, h⟩ := h
  exact ⟨n, fun k hk => (e k).trans (h k hk)⟩
theorem Ev.to {α : Type} {f : Nat → Option α} {a b : α} (h : Ev f a) (e : a = b) : Ev f b := e ▸ h
theorem Ev.ite {α : Type} {f g : Nat → Option α} {c : Bool} {r : α} (h1 : c = true → Ev f r) (h0 : c = false → Ev g r) : Ev (fun k => cond c (f k) (g k)) r := by
  cases c with
  | true => exact h1 rfl
  | false => exact h0 rfl
theorem Ev.at? {α β : Type} {xs : List α} {i : Nat} {b : α} {g : Nat → α → Option β} {r : β} (h : xs[i]? = some b) (h' : Ev (fun k => g k b) r) : Ev (fun k => (Go.MG.at? xs (i : Int)).bind (g k)) r := by
  have e := atN h
  simp only [e, Option.bind_some]
  exact h'
/-- A loop over a list: what it answers, told over what is left of it. -/
theorem Ev.forI {α S R : Type} {xs : List α} {L : Nat → S → Int → Option R} {f : List α → S → R} {I : Nat → S → Prop}
    (hnil : ∀ s, I xs.length s → Ev (fun k => L (k + 1) s (xs.length : Int)) (f [] s))
    (hcons : ∀ (i : Nat) (b : α) (s : S), xs[i]? = some b → i < xs.length → I i s → (∀ s', I (i + 1) s' → Ev (fun k => L k s' ((i + 1 : Nat) : Int)) (f (xs.drop (i + 1)) s')) → Ev (fun k => L (k + 1) s (i : Int)) (f (b :: xs.drop (i + 1)) s)) :
    ∀ (s : S), I 0 s → Ev (fun k => L k s 0) (f xs s) := by
  have key : ∀ (m i : Nat) (s : S), i + m = xs.length → I i s → Ev (fun k => L k s (i : Int)) (f (xs.drop i) s) := by
    intro m
    induction m with
    | zero =>
      intro i s hi hI
      have : i = xs.length := by omega
      subst this
      rw [List.drop_length]
      exact Ev.succ (hnil s hI)
    | succ m ih =>
      intro i s hi hI
      obtain ⟨b, hb⟩ := atLt (xs := xs) (i := i) (by omega)
      have hlt : i < xs.length := by omega
      have e : xs.drop i = b :: xs.drop (i + 1) := by
        rw [List.drop_eq_getElem_cons hlt]
        rw [List.getElem?_eq_getElem hlt] at hb
        cases hb; rfl
      rw [e]
      exact Ev.succ (hcons i b s hb hlt hI fun s' hs' => ih (i + 1) s' (by omega) hs')
  intro s hs
  have := key xs.length 0 s (by omega) hs
  simpa using this
theorem Ev.for {α S R : Type} {xs : List α} {L : Nat → S → Int → Option R} {f : List α → S → R}
    (hnil : ∀ s, Ev (fun k => L (k + 1) s (xs.length : Int)) (f [] s))
    (hcons : ∀ (i : Nat) (b : α) (s : S), xs[i]? = some b → i < xs.length → (∀ s', Ev (fun k => L k s' ((i + 1 : Nat) : Int)) (f (xs.drop (i + 1)) s')) → Ev (fun k => L (k + 1) s (i : Int)) (f (b :: xs.drop (i + 1)) s)) :
    ∀ (s : S), Ev (fun k => L k s 0) (f xs s) := fun s => Ev.forI (I := fun _ _ => True) (fun s _ => hnil s) (fun i b s hb hi _ h => hcons i b s hb hi fun s' => h s' trivial) s trivial
/-- A loop that copies by a map. -/
theorem Ev.copy {α β : Type} {xs : List α} {L : Nat → List β → Int → Option (List β)} {f : α → β} {z : β}
    (hnil : ∀ s, Ev (fun k => L (k + 1) s (xs.length : Int)) s)
    (hcons : ∀ (i : Nat) (b : α) (s : List β) (r : List β), xs[i]? = some b → i < xs.length → s[i]? = some z → Ev (fun k => L k (s.set i (f b)) ((i + 1 : Nat) : Int)) r → Ev (fun k => L (k + 1) s (i : Int)) r) :
    Ev (fun k => L k (List.replicate xs.length z) 0) (xs.map f) := by
  have key : ∀ (m i : Nat), i + m = xs.length → Ev (fun k => L k ((xs.map f).take i ++ List.replicate ((xs.map f).length - i) z) (i : Int)) (xs.map f) := by
    intro m
    induction m with
    | zero =>
      intro i hi
      have : i = xs.length := by omega
      subst this
      refine Ev.succ ((hnil _).to ?_)
      rw [List.length_map, Nat.sub_self, List.replicate_zero, List.append_nil]
      exact List.take_of_length_le (by simp)
    | succ m ih =>
      intro i hi
      obtain ⟨b, hb⟩ := atLt (xs := xs) (i := i) (by omega)
      have hb2 : (xs.map f)[i]? = some (f b) := by rw [List.getElem?_map, hb]; rfl
      refine Ev.succ (hcons i b _ _ hb (by omega) (get_copy (by rw [List.length_map]; omega)) ?_)
      rw [set_copy hb2]
      exact ih (i + 1) (by omega)
  have := key xs.length 0 (by omega)
  simpa using this
/-- It answers, and what it answers is so. -/
def EvP {α : Type} (f : Nat → Option α) (P : α → Prop) : Prop := ∃ r, Ev f r ∧ P r
theorem Ev.p {α : Type} {f : Nat → Option α} {r : α} {P : α → Prop} (h : Ev f r) (hp : P r) : EvP f P := ⟨r, h, hp⟩
theorem EvP.pure {α : Type} {r : α} {P : α → Prop} (h : P r) : EvP (fun _ => some r) P := ⟨r, Ev.pure r, h⟩
theorem EvP.bind {α β : Type} {f : Nat → Option α} {g : Nat → α → Option β} {P : α → Prop} {Q : β → Prop} (h : EvP f P) (h' : ∀ a, P a → EvP (fun k => g k a) Q) : EvP (fun k => (f k).bind (g k)) Q := by
  obtain ⟨a, h1, h2⟩ := h
  obtain ⟨r, h3, h4⟩ := h' a h2
  exact ⟨r, h1.bind h3, h4⟩
theorem EvP.bindE {α β : Type} {f : Nat → Option α} {g : Nat → α → Option β} {a : α} {Q : β → Prop} (h : Ev f a) (h' : EvP (fun k => g k a) Q) : EvP (fun k => (f k).bind (g k)) Q := by
  obtain ⟨r, h3, h4⟩ := h'
  exact ⟨r, h.bind h3, h4⟩
theorem EvP.ite {α : Type} {f g : Nat → Option α} {c : Bool} {P : α → Prop} (h1 : c = true → EvP f P) (h0 : c = false → EvP g P) : EvP (fun k => cond c (f k) (g k)) P := by
  cases c with
  | true => exact h1 rfl
  | false => exact h0 rfl
theorem EvP.mono {α : Type} {f : Nat → Option α} {P Q : α → Prop} (h : EvP f P) (hq : ∀ r, P r → Q r) : EvP f Q := by
  obtain ⟨r, h1, h2⟩ := h
  exact ⟨r, h1, hq r h2⟩
theorem EvP.succ {α : Type} {f : Nat → Option α} {P : α → Prop} (h : EvP (fun k => f (k + 1)) P) : EvP f P := by
  obtain ⟨r, h1, h2⟩ := h
  exact ⟨r, h1.succ, h2⟩
theorem EvP.at? {α β : Type} {xs : List α} {i : Nat} {b : α} {g : Nat → α → Option β} {P : β → Prop} (h : xs[i]? = some b) (h' : EvP (fun k => g k b) P) : EvP (fun k => (Go.MG.at? xs (i : Int)).bind (g k)) P := by
  obtain ⟨r, h1, h2⟩ := h'
  exact ⟨r, Ev.at? h h1, h2⟩
/-- A loop over a list, by an invariant. -/
theorem EvP.for {α S R : Type} {xs : List α} {L : Nat → S → Int → Option R} {P : R → Prop} (I : Nat → S → Prop)
    (hnil : ∀ s, I xs.length s → EvP (fun k => L (k + 1) s (xs.length : Int)) P)
    (hcons : ∀ (i : Nat) (b : α) (s : S), xs[i]? = some b → i < xs.length → I i s → (∀ s', I (i + 1) s' → EvP (fun k => L k s' ((i + 1 : Nat) : Int)) P) → EvP (fun k => L (k + 1) s (i : Int)) P) :
    ∀ (s : S), I 0 s → EvP (fun k => L k s 0) P := by
  have key : ∀ (m i : Nat) (s : S), i + m = xs.length → I i s → EvP (fun k => L k s (i : Int)) P := by
    intro m
    induction m with
    | zero =>
      intro i s hi hI
      have : i = xs.length := by omega
      subst this
      exact EvP.succ (hnil s hI)
    | succ m ih =>
      intro i s hi hI
      obtain ⟨b, hb⟩ := atLt (xs := xs) (i := i) (by omega)
      exact EvP.succ (hcons i b s hb (by omega) hI fun s' hs' => ih (i + 1) s' (by omega) hs')
  intro s hs
  simpa using key xs.length 0 s (by omega) hs
/-- What is found first. -/
def firstOf {α R : Type} (p : α → Bool) (g : Nat → R) (e : R) : Nat → List α → R
  | _, [] => e
  | i, x :: xs => if p x then g i else firstOf p g e (i + 1) xs
theorem Ev.find {α R : Type} {xs : List α} {L : Nat → Int → Option R} {p : α → Bool} {g : Nat → R} {e : R}
    (hnil : Ev (fun k => L (k + 1) (xs.length : Int)) e)
    (hcons : ∀ (i : Nat) (b : α) (r : R), xs[i]? = some b → i < xs.length → (p b = true → r = g i) → (p b = false → Ev (fun k => L k ((i + 1 : Nat) : Int)) r) → Ev (fun k => L (k + 1) (i : Int)) r) :
    Ev (fun k => L k 0) (firstOf p g e 0 xs) := by
  have := Ev.for (xs := xs) (L := fun k (_ : Unit) i => L k i) (f := fun l _ => firstOf p g e (xs.length - l.length) l) (fun _ => by simpa [firstOf] using hnil) (fun i b _ hb hi h => by
    refine hcons i b _ hb hi (fun hp => ?_) (fun hp => ?_)
    · have : xs.length - (b :: List.drop (i + 1) xs).length = i := by simp; omega
      rw [this]; simp [firstOf, hp]
    · refine (h ()).to ?_
      have e1 : xs.length - (b :: List.drop (i + 1) xs).length = i := by simp; omega
      have e2 : xs.length - (List.drop (i + 1) xs).length = i + 1 := by simp; omega
      rw [e1, e2]; simp [firstOf, hp]) ()
  simpa using this
theorem firstOf_some {α R : Type} {p : α → Bool} {g : Nat → R} {e : R} : ∀ {i : Nat} {xs : List α}, (∃ j b, xs[j]? = some b ∧ p b = true ∧ firstOf p g e i xs = g (i + j)) ∨ ((∀ b ∈ xs, p b = false) ∧ firstOf p g e i xs = e)
  | i, [] => .inr ⟨by simp, rfl⟩
  | i, x :: xs => by
    cases hp : p x with
    | true => exact .inl ⟨0, x, rfl, hp, by simp [firstOf, hp]⟩
    | false =>
      rcases firstOf_some (p := p) (g := g) (e := e) (i := i + 1) (xs := xs) with ⟨j, b, h1, h2, h3⟩ | ⟨h1, h2⟩
      · exact .inl ⟨j + 1, b, by simpa using h1, h2, by simp only [firstOf, hp]; rw [show i + (j + 1) = i + 1 + j by omega]; exact h3⟩
      · refine .inr ⟨fun b hb => ?_, by simpa [firstOf, hp] using h2⟩
        rcases List.mem_cons.1 hb with rfl | hb
        · exact hp
        · exact h1 b hb
theorem firstOf_map {α R S : Type} {p : α → Bool} {g : Nat → R} {e : R} (h : R → S) : ∀ (i : Nat) (xs : List α), h (firstOf p g e i xs) = firstOf p (fun j => h (g j)) (h e) i xs
  | i, [] => rfl
  | i, x :: xs => by
    simp only [firstOf]
    split
    · rfl
    · exact firstOf_map h (i + 1) xs
theorem EvP.shift {α : Type} {f : Nat → Option α} {P : α → Prop} (h : EvP f P) : EvP (fun k => f (k + 1)) P := by
  obtain ⟨r, h1, h2⟩ := h
  exact ⟨r, h1.shift, h2⟩
theorem EvP.ev {α : Type} {f : Nat → Option α} {r : α} (h : EvP f (fun x => x = r)) : Ev f r := by
  obtain ⟨x, h1, rfl⟩ := h
  exact h1
def isIn (x a b : Int) : Bool := decide (a ≤ x ∧ x ≤ b)
theorem sIn (k : Nat) (x a b : Int) : Fspec_l1In k x a b = some (isIn x a b) := by
  unfold Fspec_l1In isIn
  simp only [Bool.cond_decide]
  split
  all_goals
    refine congrArg some (Bool.eq_iff_iff.mpr ?_)
    simp only [decide_eq_true_eq, Bool.false_eq_true, false_iff]
    omega
theorem iIn (k : Nat) (x a b : Int) : Fimpl_within k x a b = some (isIn x a b) := sIn k x a b
theorem bvNat (n : Nat) (h : n < 18446744073709551616) : (BitVec.ofInt 64 (n : Int)).toNat = n := by
  rw [BitVec.ofInt_natCast, BitVec.toNat_ofNat]; exact Nat.mod_eq_of_lt (by omega)
theorem and127 (n : Nat) (h : n < 9223372036854775808) : Go.bits .and .i64 (n : Int) 127 = ((n % 128 : Nat) : Int) := by
  show IntKind.i64.wrap ((BitVec.ofInt 64 (n : Int) &&& BitVec.ofInt 64 ((127 : Nat) : Int)).toNat : Int) = _
  rw [BitVec.toNat_and, bvNat n (by omega), bvNat 127 (by omega), Nat.and_two_pow_sub_one_eq_mod n 7, wid (by omega) (by omega)]
theorem orNat (a b : Nat) (ha : a < 9223372036854775808) (hb : b < 9223372036854775808) : Go.bits .or .i64 (a : Int) (b : Int) = ((a ||| b : Nat) : Int) := by
  show IntKind.i64.wrap ((BitVec.ofInt 64 (a : Int) ||| BitVec.ofInt 64 (b : Int)).toNat : Int) = _
  have : a ||| b < 2 ^ 63 := Nat.or_lt_two_pow ha hb
  rw [BitVec.toNat_or, bvNat a (by omega), bvNat b (by omega), wid (by omega) (by omega)]
theorem orLow (a b i : Nat) (ha : a < 2 ^ i) : a ||| (b * 2 ^ i) = a + b * 2 ^ i := by
  rw [Nat.or_comm, Nat.mul_comm, ← Nat.two_pow_add_eq_or_of_lt ha, Nat.add_comm]
theorem or128 (m : Nat) (h : m < 128) : Go.bits .or .i64 (m : Int) 128 = ((128 + m : Nat) : Int) := by
  have := orNat m 128 (by omega) (by omega)
  rw [show ((128 : Nat) : Int) = 128 from rfl] at this
  rw [this, show 128 = 1 * 2 ^ 7 from rfl, orLow m 1 7 (by omega)]
  congr 1; omega
theorem highI (n : Nat) : shrI .i64 (n : Int) 7 = ((n / 128 : Nat) : Int) := by
  show Int.fdiv (n : Int) 128 = _
  rw [Int.fdiv_eq_ediv_of_nonneg _ (by omega)]; omega
theorem lowI (n : Nat) (h : n < 9223372036854775808) : Go.bits .or .i64 (Go.bits .and .i64 (n : Int) 127) 128 = ((128 + n % 128 : Nat) : Int) := by
  rw [and127 n h, or128 _ (Nat.mod_lt _ (by omega))]
theorem lowS (n : Nat) : IntKind.i64.wrap (128 + Int.tmod (n : Int) 128) = ((128 + n % 128 : Nat) : Int) := by
  rw [show Int.tmod (n : Int) 128 = ((n % 128 : Nat) : Int) from rfl, wid (by omega) (by omega)]; omega
theorem highS (n : Nat) (h : n < 9223372036854775808) : IntKind.i64.wrap (Int.tdiv (n : Int) 128) = ((n / 128 : Nat) : Int) := by
  rw [show Int.tdiv (n : Int) 128 = ((n / 128 : Nat) : Int) from rfl, wid (by omega) (by omega)]
theorem ofI_nat (n : Nat) (h : n < 256) : ofI (n : Int) = UInt8.ofNat n := by
  unfold ofI
  have : ((n : Int) % 256).toNat = n := by omega
  rw [this]
def varE (n : Nat) : List UInt8 := if h : n < 128 then [UInt8.ofNat n] else UInt8.ofNat (128 + n % 128) :: varE (n / 128)
termination_by n
decreasing_by omega
theorem varE_lt {n : Nat} (h : n < 128) : varE n = [UInt8.ofNat n] := by rw [varE, dif_pos h]
theorem varE_ge {n : Nat} (h : 128 ≤ n) : varE n = UInt8.ofNat (128 + n % 128) :: varE (n / 128) := by rw [varE, dif_neg (by omega)]
theorem varE_pos (n : Nat) : 0 < (varE n).length := by
  by_cases hn : n < 128
  · rw [varE_lt hn]; simp
  · rw [varE_ge (by omega)]; simp
def varI (a : Int) : List UInt8 := if 0 ≤ a ∧ a ≤ 562949953421311 then varE a.toNat else []
theorem varI_nat (n : Nat) (h : n ≤ 562949953421311) : varI (n : Int) = varE n := by
  unfold varI; rw [if_pos (by omega)]; simp
theorem sVarL : ∀ (m n : Nat) (acc : List UInt8), n < 128 ^ (m + 1) → m ≤ 8 → acc.length + m ≤ 1000 → Ev (fun k => Fspec_Var.l2 k (n : Int) acc) (acc ++ varE n) := by
  intro m
  induction m with
  | zero =>
    intro n acc h hm ha
    refine Ev.succ ?_
    simp only [Fspec_Var.l2]
    rw [decide_eq_false (p := (n : Int) ≥ 128) (by omega), decide_eq_true (p := (2 * (acc.length + [ofI (n : Int)].length) + 192) * 1 ≤ 281474976710656) (by simp; omega), ofI_nat n (by omega), varE_lt (by omega)]
    exact Ev.pure _
  | succ m ih =>
    intro n acc h hm ha
    have h9 : n < 9223372036854775808 := Nat.lt_of_lt_of_le h (Nat.le_trans (Nat.pow_le_pow_right (by omega) (show m + 1 + 1 ≤ 9 by omega)) (by decide))
    refine Ev.succ ?_
    simp only [Fspec_Var.l2]
    by_cases hn : n < 128
    · rw [decide_eq_false (p := (n : Int) ≥ 128) (by omega), decide_eq_true (p := (2 * (acc.length + [ofI (n : Int)].length) + 192) * 1 ≤ 281474976710656) (by simp; omega), ofI_nat n (by omega), varE_lt hn]
      exact Ev.pure _
    · rw [decide_eq_true (p := (n : Int) ≥ 128) (by omega), lowS, highS n h9, ofI_nat (128 + n % 128) (by omega), decide_eq_true (p := (2 * (acc.length + [UInt8.ofNat (128 + n % 128)].length) + 192) * 1 ≤ 281474976710656) (by simp; omega)]
      simp only [cond_true]
      refine (ih (n / 128) _ (by rw [Nat.pow_succ] at h; omega) (by omega) (by rw [List.length_append]; simp only [List.length_cons, List.length_nil]; omega)).to ?_
      rw [varE_ge (n := n) (by omega), List.append_assoc]; rfl
theorem iVarL : ∀ (m n : Nat) (acc : List UInt8), n < 128 ^ (m + 1) → m ≤ 8 → acc.length + m ≤ 1000 → Ev (fun k => Fimpl_Var.l2 k (n : Int) acc) (acc ++ varE n) := by
  intro m
  induction m with
  | zero =>
    intro n acc h hm ha
    refine Ev.succ ?_
    simp only [Fimpl_Var.l2]
    rw [decide_eq_false (p := (n : Int) > 127) (by omega), decide_eq_true (p := (2 * (acc.length + [ofI (n : Int)].length) + 192) * 1 ≤ 281474976710656) (by simp; omega), ofI_nat n (by omega), varE_lt (by omega)]
    exact Ev.pure _
  | succ m ih =>
    intro n acc h hm ha
    have h9 : n < 9223372036854775808 := Nat.lt_of_lt_of_le h (Nat.le_trans (Nat.pow_le_pow_right (by omega) (show m + 1 + 1 ≤ 9 by omega)) (by decide))
    refine Ev.succ ?_
    simp only [Fimpl_Var.l2]
    by_cases hn : n < 128
    · rw [decide_eq_false (p := (n : Int) > 127) (by omega), decide_eq_true (p := (2 * (acc.length + [ofI (n : Int)].length) + 192) * 1 ≤ 281474976710656) (by simp; omega), ofI_nat n (by omega), varE_lt hn]
      exact Ev.pure _
    · rw [decide_eq_true (p := (n : Int) > 127) (by omega), lowI n h9, highI n, ofI_nat (128 + n % 128) (by omega), decide_eq_true (p := (2 * (acc.length + [UInt8.ofNat (128 + n % 128)].length) + 192) * 1 ≤ 281474976710656) (by simp; omega)]
      simp only [cond_true]
      refine (ih (n / 128) _ (by rw [Nat.pow_succ] at h; omega) (by omega) (by rw [List.length_append]; simp only [List.length_cons, List.length_nil]; omega)).to ?_
      rw [varE_ge (n := n) (by omega), List.append_assoc]; rfl
theorem sVar (a : Int) : Ev (fun k => Fspec_Var k a) (varI a) := by
  simp only [Fspec_Var, sIn, Option.bind_some]
  refine Ev.ite (fun hc => ?_) (fun hc => ?_)
  · refine (Ev.pure _).to ?_
    unfold varI; rw [if_neg (fun h => by unfold isIn at hc; rw [decide_eq_true h] at hc; cases hc)]
  · have h : 0 ≤ a ∧ a ≤ 562949953421311 := by simpa [isIn] using hc
    obtain ⟨n, rfl⟩ : ∃ n : Nat, a = n := ⟨a.toNat, by omega⟩
    refine (sVarL 6 n [] (by omega) (by omega) (by simp)).to ?_
    rw [varI_nat n (by omega)]; rfl
theorem iVar (a : Int) : Ev (fun k => Fimpl_Var k a) (varI a) := by
  simp only [Fimpl_Var, iIn, Option.bind_some]
  refine Ev.ite (fun hc => ?_) (fun hc => ?_)
  · refine (Ev.pure _).to ?_
    unfold varI; rw [if_neg (fun h => by unfold isIn at hc; rw [decide_eq_true h] at hc; cases hc)]
  · have h : 0 ≤ a ∧ a ≤ 562949953421311 := by simpa [isIn] using hc
    obtain ⟨n, rfl⟩ : ∃ n : Nat, a = n := ⟨a.toNat, by omega⟩
    refine (iVarL 6 n [] (by omega) (by omega) (by simp)).to ?_
    rw [varI_nat n (by omega)]; rfl
/-- The number at the begin of a text, of at most f bytes, and how many they are. -/
def dv : Nat → List UInt8 → Option (Nat × Nat)
  | 0, _ => none
  | _ + 1, [] => none
  | f + 1, b :: bs => if b.toNat < 128 then some (b.toNat, 1) else match dv f bs with
    | some (n, s) => if n = 0 then none else some (b.toNat % 128 + 128 * n, s + 1)
    | none => none
def rvP (s : List UInt8) : Int × Int := match dv 7 s with
  | some (n, z) => ((n : Int), (z : Int))
  | none => (0, 0)
theorem u8eta (b : UInt8) : UInt8.ofNat b.toNat = b := by simp
theorem dv_ok : ∀ {f : Nat} {s : List UInt8} {n z : Nat}, dv f s = some (n, z) → z ≤ s.length ∧ z ≤ f ∧ 0 < z ∧ s.take z = varE n ∧ n < 128 ^ z
  | 0, s, n, z, h => by simp [dv] at h
  | f + 1, [], n, z, h => by simp [dv] at h
  | f + 1, b :: bs, n, z, h => by
    simp only [dv] at h
    split at h
    · rename_i hb
      cases h
      exact ⟨by simp, by omega, by omega, by rw [varE_lt hb]; simp, by simpa using hb⟩
    · rename_i hb
      split at h
      · rename_i m t hm
        split at h
        · cases h
        · rename_i hm0
          cases h
          obtain ⟨h1, h2, h3, h4, h5⟩ := dv_ok hm
          have hb2 := b.toNat_lt
          refine ⟨by simp; omega, by omega, by omega, ?_, ?_⟩
          · rw [List.take_succ_cons, h4, varE_ge (n := b.toNat % 128 + 128 * m) (by omega)]
            have e1 : (b.toNat % 128 + 128 * m) % 128 = b.toNat % 128 := by omega
            have e2 : (b.toNat % 128 + 128 * m) / 128 = m := by omega
            rw [e1, e2, show 128 + b.toNat % 128 = b.toNat by omega, u8eta]
          · rw [Nat.pow_succ]; omega
      · cases h
theorem varE_dv : ∀ {f : Nat} {n : Nat} {t : List UInt8}, n < 128 ^ (f + 1) → dv (f + 1) (varE n ++ t) = some (n, (varE n).length)
  | f, n, t, h => by
    by_cases hn : n < 128
    · rw [varE_lt hn]
      have : (UInt8.ofNat n).toNat = n := by rw [UInt8.toNat_ofNat']; omega
      simp [dv, this, hn]
    · have h1 : (UInt8.ofNat (128 + n % 128)).toNat = 128 + n % 128 := by rw [UInt8.toNat_ofNat']; omega
      rw [varE_ge (n := n) (by omega)]
      cases f with
      | zero => omega
      | succ f =>
        have ih := varE_dv (f := f) (n := n / 128) (t := t) (by rw [Nat.pow_succ] at h; omega)
        simp only [List.cons_append, dv.eq_3 (f + 1), h1]
        rw [if_neg (by omega), ih]
        simp only
        rw [if_neg (by omega)]
        simp only [List.length_cons]
        congr 2; omega
/-- The sum of the digits, the lowest first. -/
def digs : List UInt8 → Nat
  | [] => 0
  | b :: bs => b.toNat % 128 + 128 * digs bs
theorem digs_lt : ∀ (s : List UInt8), digs s < 128 ^ s.length
  | [] => by simp [digs]
  | b :: bs => by have := digs_lt bs; simp only [digs, List.length_cons, Nat.pow_succ]; omega
theorem digs_snoc : ∀ (s : List UInt8) (b : UInt8), digs (s ++ [b]) = digs s + b.toNat % 128 * 128 ^ s.length
  | [], b => by simp [digs]
  | c :: s, b => by
    simp only [List.cons_append, digs, List.length_cons, digs_snoc s b, Nat.pow_succ]
    rw [Nat.mul_add, Nat.mul_comm (128 ^ s.length) 128, ← Nat.mul_assoc, ← Nat.mul_assoc, Nat.mul_comm (b.toNat % 128) 128]
    omega
theorem digs_varE : ∀ (m n : Nat), n < 128 ^ (m + 1) → digs (varE n) = n
  | m, n, h => by
    by_cases hn : n < 128
    · rw [varE_lt hn]; simp [digs, UInt8.toNat_ofNat']; omega
    · rw [varE_ge (by omega)]
      have h1 : (UInt8.ofNat (128 + n % 128)).toNat = 128 + n % 128 := by rw [UInt8.toNat_ofNat']; omega
      cases m with
      | zero => omega
      | succ m =>
        simp only [digs, h1, digs_varE m (n / 128) (by rw [Nat.pow_succ] at h; omega)]; omega
/-- Whether the first bytes are a number's, of just this size. -/
theorem dv_take {s : List UInt8} {z : Nat} (hz : z ≤ s.length) (h7 : z ≤ 7) (h0 : 0 < z) (h : varE (digs (s.take z)) = s.take z) : dv 7 s = some (digs (s.take z), z) := by
  have h1 : digs (s.take z) < 128 ^ 7 := by
    have := digs_lt (s.take z)
    rw [List.length_take, Nat.min_eq_left hz] at this
    exact Nat.lt_of_lt_of_le this (Nat.pow_le_pow_right (by omega) h7)
  have h2 := varE_dv (f := 6) (n := digs (s.take z)) (t := s.drop z) h1
  rw [h, List.take_append_drop, List.length_take, Nat.min_eq_left hz] at h2
  exact h2
theorem dv_take' {s : List UInt8} {n z : Nat} (h : dv 7 s = some (n, z)) : digs (s.take z) = n ∧ varE (digs (s.take z)) = s.take z := by
  obtain ⟨h1, h2, h3, h4, h5⟩ := dv_ok h
  have h6 : n < 128 ^ (6 + 1) := Nat.lt_of_lt_of_le h5 (Nat.pow_le_pow_right (by omega) h2)
  have e : digs (s.take z) = n := by rw [h4]; exact digs_varE 6 n h6
  exact ⟨e, by rw [e, h4]⟩
theorem cutN {α : Type} {xs : List α} {a b : Nat} (h : a ≤ b) (h2 : b ≤ xs.length) : cut? xs (a : Int) (b : Int) = some ((xs.drop a).take (b - a)) := by
  unfold cut?
  rw [if_pos (by omega)]
  congr 2; omega
theorem cut0 {α : Type} {xs : List α} {b : Nat} (h2 : b ≤ xs.length) : cut? xs 0 (b : Int) = some (xs.take b) := by
  have := cutN (xs := xs) (a := 0) (b := b) (by omega) h2
  simpa using this
theorem cutEnd {α : Type} {xs : List α} {a : Nat} (h : a ≤ xs.length) : cut? xs (a : Int) (xs.length : Int) = some (xs.drop a) := by
  rw [cutN h (Nat.le_refl _)]
  congr 1
  exact List.take_of_length_le (by simp)
theorem varE_bytes : ∀ (m n : Nat), n < 128 ^ (m + 1) → ∀ (j : Nat) (b : UInt8), (varE n)[j]? = some b → if j + 1 < (varE n).length then 128 ≤ b.toNat else b.toNat < 128
  | m, n, h, j, b, hj => by
    by_cases hn : n < 128
    · rw [varE_lt hn] at hj ⊢
      cases j with
      | zero => simp at hj; subst hj; simp [UInt8.toNat_ofNat']; omega
      | succ j => simp at hj
    · rw [varE_ge (n := n) (by omega)] at hj ⊢
      have h1 : (UInt8.ofNat (128 + n % 128)).toNat = 128 + n % 128 := by rw [UInt8.toNat_ofNat']; omega
      have hp := varE_pos (n / 128)
      cases j with
      | zero => simp only [List.getElem?_cons_zero, Option.some.injEq] at hj; subst hj; rw [if_pos (by simp; omega), h1]; omega
      | succ j =>
        cases m with
        | zero => omega
        | succ m =>
          simp only [List.getElem?_cons_succ] at hj
          have := varE_bytes m (n / 128) (by rw [Nat.pow_succ] at h; omega) j b hj
          simp only [List.length_cons]
          by_cases hl : j + 1 < (varE (n / 128)).length
          · rw [if_pos (by omega)]; rwa [if_pos hl] at this
          · rw [if_neg (by omega)]; rwa [if_neg hl] at this
theorem dv_bytes {s : List UInt8} {n z : Nat} (h : dv 7 s = some (n, z)) {j : Nat} {b : UInt8} (hj : s[j]? = some b) : (j + 1 < z → 128 ≤ b.toNat) ∧ (j + 1 = z → b.toNat < 128) := by
  obtain ⟨h1, h2, h3, h4, h5⟩ := dv_ok h
  have h6 : n < 128 ^ (6 + 1) := Nat.lt_of_lt_of_le h5 (Nat.pow_le_pow_right (by omega) h2)
  have hlen : (varE n).length = z := by rw [← h4, List.length_take]; omega
  have get : j < z → (varE n)[j]? = some b := fun hjz => by rw [← h4, List.getElem?_take, if_pos hjz]; exact hj
  refine ⟨fun hl => ?_, fun hl => ?_⟩
  · have := varE_bytes 6 n h6 j b (get (by omega))
    rwa [if_pos (by omega)] at this
  · have := varE_bytes 6 n h6 j b (get (by omega))
    rwa [if_neg (by omega)] at this
theorem sRV26 (s : List UInt8) (z : Nat) (hz : z ≤ s.length) (h7 : z ≤ 7) (h0 : 0 < z) (r2 : Int × Int) : ∀ (j : Nat) (cl : Nat → List UInt8 → Int → Option (Int × Int)), j ≤ z → Ev (fun k => cl k s (IntKind.i64.wrap ((z : Int) + 1))) r2 →
    Ev (fun k => Fspec_ReadVar.l26 (cl k) k s (z : Int) (digs ((s.take z).drop j) : Int) ((j : Int) - 1)) (if varE (digs (s.take z)) = s.take z then ((digs (s.take z) : Int), (z : Int)) else r2) := by
  have hlt : digs (s.take z) < 128 ^ 7 := by
    have := digs_lt (s.take z)
    rw [List.length_take, Nat.min_eq_left hz] at this
    exact Nat.lt_of_lt_of_le this (Nat.pow_le_pow_right (by omega) h7)
  intro j
  induction j with
  | zero =>
    intro cl hj hcl
    refine Ev.succ ?_
    simp only [Fspec_ReadVar.l26]
    rw [decide_eq_false (by omega)]
    simp only [cond_false, List.drop_zero]
    refine Ev.bind (sVar _) ?_
    rw [varI_nat _ (by omega), cut0 hz]
    simp only [Option.bind_some]
    refine Ev.ite (fun hc => ?_) (fun hc => ?_)
    · rw [if_pos (eq_of_beq hc)]; exact Ev.pure _
    · rw [if_neg (fun h => by rw [h] at hc; simp at hc)]; exact hcl.shift
  | succ j ih =>
    intro cl hj hcl
    refine Ev.succ ?_
    simp only [Fspec_ReadVar.l26]
    obtain ⟨b, hb⟩ := atLt (xs := s) (i := j) (by omega)
    rw [decide_eq_true (by omega)]
    rw [show ((j + 1 : Nat) : Int) - 1 = (j : Int) by omega]
    simp only [cond_true]
    refine Ev.at? hb ?_
    have e : (s.take z).drop j = b :: (s.take z).drop (j + 1) := by
      have hl : j < (s.take z).length := by rw [List.length_take]; omega
      rw [List.drop_eq_getElem_cons hl]
      congr 1
      rw [List.getElem_take]
      rw [List.getElem?_eq_getElem (by omega)] at hb
      exact Option.some.inj hb
    have hd : digs ((s.take z).drop (j + 1)) < 128 ^ 7 := by
      have h1 := digs_lt ((s.take z).drop (j + 1))
      have h2 : ((s.take z).drop (j + 1)).length ≤ 7 := by simp; omega
      exact Nat.lt_of_lt_of_le h1 (Nat.pow_le_pow_right (by omega) h2)
    have e2 : IntKind.i64.wrap (IntKind.i64.wrap ((digs ((s.take z).drop (j + 1)) : Int) * 128) + Int.tmod (b.toNat : Int) 128) = (digs ((s.take z).drop j) : Int) := by
      rw [show Int.tmod (b.toNat : Int) 128 = ((b.toNat % 128 : Nat) : Int) from rfl, e]
      simp only [digs]
      rw [wid (n := (digs ((s.take z).drop (j + 1)) : Int) * 128) (by omega) (by omega), wid (by omega) (by omega)]
      omega
    rw [e2, wid (n := (j : Int) - 1) (by omega) (by omega)]
    exact ih (fun k => cl (k + 1)) (by omega) hcl.shift
theorem sReadVar (s : List UInt8) (hs : s.length ≤ 1048576) : Ev (fun k => Fspec_ReadVar k s) (rvP s) := by
  have key : ∀ (m z : Nat), z + m = 8 → 0 < z → Ev (fun k => Fspec_ReadVar.l22 k s (z : Int)) (match dv 7 s with | some (n, t) => if z ≤ t then ((n : Int), (t : Int)) else (0, 0) | none => (0, 0)) := by
    intro m
    induction m with
    | zero =>
      intro z hz h0
      refine Ev.succ ?_
      simp only [Fspec_ReadVar.l22]
      rw [decide_eq_false (by omega)]
      refine (Ev.pure _).to ?_
      cases hd : dv 7 s with
      | none => rfl
      | some p => obtain ⟨n, t⟩ := p; have := (dv_ok hd).2.1; simp only; rw [if_neg (by omega)]
    | succ m ih =>
      intro z hz h0
      refine Ev.succ ?_
      simp only [Fspec_ReadVar.l22]
      rw [decide_eq_true (p := (z : Int) ≤ 7) (by omega)]
      simp only [cond_true]
      by_cases hl : z ≤ s.length
      · rw [decide_eq_true (p := (z : Int) ≤ (s.length : Int)) (by omega)]
        simp only [cond_true]
        have hn := ih (z + 1) (by omega) (by omega)
        have h26 := sRV26 s z hl (by omega) h0 _ z (fun k => Fspec_ReadVar.l22 k) (Nat.le_refl _) (by rw [wid1 (by omega)]; exact hn)
        rw [show (s.take z).drop z = [] from List.drop_of_length_le (by rw [List.length_take]; omega)] at h26
        rw [wid (n := (z : Int) - 1) (by omega) (by omega)]
        refine h26.to ?_
        by_cases he : varE (digs (s.take z)) = s.take z
        · rw [if_pos he, dv_take hl (by omega) h0 he]; simp
        · rw [if_neg he]
          cases hd : dv 7 s with
          | none => rfl
          | some p =>
            obtain ⟨n, t⟩ := p
            have : t ≠ z := fun e => by subst e; exact he (dv_take' hd).2
            simp only
            by_cases h : z ≤ t
            · rw [if_pos h, if_pos (by omega)]
            · rw [if_neg h, if_neg (by omega)]
      · rw [decide_eq_false (p := (z : Int) ≤ (s.length : Int)) (by omega)]
        refine (Ev.pure _).to ?_
        cases hd : dv 7 s with
        | none => rfl
        | some p => obtain ⟨n, t⟩ := p; have := (dv_ok hd).1; simp only; rw [if_neg (by omega)]
  simp only [Fspec_ReadVar]
  refine (key 7 1 (by omega) (by omega)).to ?_
  unfold rvP
  cases hd : dv 7 s with
  | none => rfl
  | some p => obtain ⟨n, t⟩ := p; have := (dv_ok hd).2.2.1; simp only; rw [if_pos (by omega)]
theorem pow7 (i : Nat) : 2 ^ (7 * i) = 128 ^ i := by rw [Nat.pow_mul]
theorem iReadVar (s : List UInt8) (hs : s.length ≤ 1048576) : Ev (fun k => Fimpl_ReadVar k s) (rvP s) := by
  have none7 : ∀ i, (∀ j b, j < i → s[j]? = some b → 128 ≤ b.toNat) → (7 ≤ i ∨ s.length ≤ i) → rvP s = (0, 0) := by
    intro i hb hi
    unfold rvP
    cases hd : dv 7 s with
    | none => rfl
    | some p =>
      obtain ⟨n, z⟩ := p
      obtain ⟨h1, h2, h3, _, _⟩ := dv_ok hd
      obtain ⟨b, hb'⟩ := atLt (xs := s) (i := z - 1) (by omega)
      have := (dv_bytes hd hb').2 (by omega)
      have := hb (z - 1) b (by omega) hb'
      omega
  have key : ∀ (m i : Nat), i + m = s.length → i ≤ 7 → (∀ j b, j < i → s[j]? = some b → 128 ≤ b.toNat) → Ev (fun k => Fimpl_ReadVar.l2 k s (digs (s.take i) : Int) (i : Int)) (rvP s) := by
    intro m
    induction m with
    | zero =>
      intro i hi h7 hb
      refine Ev.succ ?_
      simp only [Fimpl_ReadVar.l2]
      rw [decide_eq_false (by omega)]
      exact (Ev.pure _).to (none7 i hb (.inr (by omega))).symm
    | succ m ih =>
      intro i hi h7 hb
      refine Ev.succ ?_
      simp only [Fimpl_ReadVar.l2]
      rw [decide_eq_true (p := (i : Int) < (s.length : Int)) (by omega)]
      simp only [cond_true]
      by_cases hi7 : i = 7
      · subst hi7
        rw [decide_eq_false (p := ((7 : Nat) : Int) < 7) (by omega)]
        exact (Ev.pure _).to (none7 7 hb (.inl (by omega))).symm
      rw [decide_eq_true (p := (i : Int) < 7) (by omega)]
      simp only [cond_true]
      obtain ⟨b, hb'⟩ := atLt (xs := s) (i := i) (by omega)
      have hbl := b.toNat_lt
      have e7 : IntKind.i64.wrap ((7 : Int) * (i : Int)) = ((7 * i : Nat) : Int) := by rw [wid (by omega) (by omega)]; omega
      refine Ev.at? hb' ?_
      rw [e7, decide_eq_false (by omega)]
      simp only [Bool.not_false, cond_true]
      refine Ev.at? hb' ?_
      have hand : ((b &&& 127).toNat : Nat) = b.toNat % 128 := by
        rw [UInt8.toNat_and]; exact Nat.and_two_pow_sub_one_eq_mod b.toNat 7
      have hdl : digs (s.take i) < 128 ^ i := by
        have := digs_lt (s.take i)
        rwa [List.length_take, Nat.min_eq_left (by omega)] at this
      have hp : 128 ^ i ≤ 128 ^ 6 := Nat.pow_le_pow_right (by omega) (by omega)
      have hm : b.toNat % 128 * 128 ^ i < 562949953421312 := by
        have h1 : b.toNat % 128 * 128 ^ i ≤ 127 * 128 ^ 6 := Nat.mul_le_mul (by omega) hp
        omega
      have eshl : shlI .i64 ((b.toNat % 128 : Nat) : Int) ((7 * i : Nat) : Int) = ((b.toNat % 128 * 128 ^ i : Nat) : Int) := by
        unfold shlI
        have e : min (((7 * i : Nat) : Int)).toNat IntKind.i64.bits = 7 * i := by
          have : IntKind.i64.bits = 64 := rfl
          rw [Int.toNat_natCast, this]; omega
        rw [e]
        have e2 : ((b.toNat % 128 : Nat) : Int) * 2 ^ (7 * i) = ((b.toNat % 128 * 128 ^ i : Nat) : Int) := by
          rw [← pow7, Int.natCast_mul, Int.natCast_pow]; rfl
        rw [e2]
        exact wid (by omega) (by omega)
      have eor : Go.bits .or .i64 (digs (s.take i) : Int) (shlI .i64 (((b &&& 127).toNat : Nat) : Int) ((7 * i : Nat) : Int)) = (digs (s.take (i + 1)) : Int) := by
        rw [hand, eshl, orNat _ _ (by omega) (by omega), ← pow7, orLow _ _ _ (by rw [pow7]; exact hdl), take_succ_get hb', digs_snoc, List.length_take, Nat.min_eq_left (by omega), pow7]
      rw [eor, wid1 (by omega)]
      have hd7 : digs (s.take (i + 1)) ≤ 562949953421311 := by
        have := digs_lt (s.take (i + 1))
        rw [List.length_take, Nat.min_eq_left (by omega)] at this
        have h2 : 128 ^ (i + 1) ≤ 128 ^ 7 := Nat.pow_le_pow_right (by omega) (by omega)
        omega
      refine Ev.ite (fun hc => ?_) (fun hc => ?_)
      · have hlt : b.toNat < 128 := by
          have := of_decide_eq_true hc
          simpa [UInt8.lt_iff_toNat_lt] using this
        refine Ev.bind (iVar _) ?_
        rw [varI_nat _ hd7, cut0 (by omega)]
        simp only [Option.bind_some]
        refine Ev.ite (fun hne => ?_) (fun hne => ?_)
        · refine (Ev.pure _).to ?_
          unfold rvP
          cases hd : dv 7 s with
          | none => rfl
          | some p =>
            obtain ⟨n, z⟩ := p
            obtain ⟨h1, h2, h3, _, _⟩ := dv_ok hd
            have hz : z = i + 1 := by
              obtain ⟨c, hc'⟩ := atLt (xs := s) (i := z - 1) (by omega)
              have l1 := (dv_bytes hd hc').2 (by omega)
              have l2 : ¬ z - 1 < i := fun h => by have := hb (z - 1) c h hc'; omega
              have l3 : ¬ i + 1 < z := fun h => by have := (dv_bytes hd hb').1 h; omega
              omega
            subst hz
            have := (dv_take' hd).2
            rw [this] at hne; simp at hne
        · refine (Ev.pure _).to ?_
          have he : varE (digs (s.take (i + 1))) = s.take (i + 1) := by simpa using hne
          unfold rvP
          rw [dv_take (by omega) (by omega) (by omega) he]
      · refine ih (i + 1) (by omega) (by omega) (fun j c hj hc' => ?_)
        by_cases hji : j < i
        · exact hb j c hji hc'
        · have : j = i := by omega
          subst this
          rw [hb'] at hc'; cases hc'
          have := of_decide_eq_false hc
          simpa [UInt8.lt_iff_toNat_lt] using this
  simp only [Fimpl_ReadVar]
  exact key s.length 0 (by omega) (by omega) (fun j b hj => by omega)
theorem at?_drop {s : List UInt8} {i : Nat} {c : UInt8} {t : List UInt8} (h : s.drop i = c :: t) : s[i]? = some c ∧ s.drop (i + 1) = t ∧ i < s.length := by
  have h1 : (s.drop i)[0]? = some c := by rw [h]; rfl
  rw [List.getElem?_drop, Nat.add_zero] at h1
  refine ⟨h1, ?_, (List.getElem?_eq_some_iff.1 h1).1⟩
  rw [← List.drop_drop, h]; rfl
theorem drop_cons_ex {s : List UInt8} {i : Nat} (h : i < s.length) : ∃ c t, s.drop i = c :: t := by
  cases hd : s.drop i with
  | nil => have := congrArg List.length hd; simp at this; omega
  | cons c t => exact ⟨c, t, rfl⟩
def tmsOf (f : List UInt8 → Option Nat) : Nat → List UInt8 → Option Nat
  | 0, _ => some 0
  | n + 1, s => match f s with
    | some m => match tmsOf f n (s.drop m) with
      | some r => some (m + r)
      | none => none
    | none => none
/-- How long the term is with which a text begins, of at most this depth. -/
def tm : Nat → List UInt8 → Option Nat
  | 0, _ => none
  | _ + 1, [] => none
  | d + 1, c :: s => match dv 7 s with
    | none => none
    | some (n, z) =>
      if c = 97 then (if n ≤ 40 ∧ z + n ≤ s.length then some (1 + z + n) else none)
      else if c = 107 then (if 1 ≤ n ∧ n ≤ 1000000 then some (1 + z) else none)
      else if c = 115 then (if 1 ≤ n ∧ n ≤ 1000000 then (match tm d (s.drop z) with | some m => some (1 + z + m) | none => none) else none)
      else if c = 108 then (if n ≤ 12 then (match tmsOf (tm d) n (s.drop z) with | some m => some (1 + z + m) | none => none) else none)
      else none
def szI : Option Nat → Int
  | some m => (m : Int)
  | none => 0
theorem tmsOf_le {f : List UInt8 → Option Nat} (hf : ∀ s m, f s = some m → m ≤ s.length) : ∀ (n : Nat) (s : List UInt8) (m : Nat), tmsOf f n s = some m → m ≤ s.length
  | 0, s, m, h => by simp [tmsOf] at h; omega
  | n + 1, s, m, h => by
    simp only [tmsOf] at h
    split at h
    · rename_i a ha
      split at h
      · rename_i b hb
        cases h
        have h1 := hf s a ha
        have h2 := tmsOf_le hf n (s.drop a) b hb
        rw [List.length_drop] at h2
        omega
      · cases h
    · cases h
theorem tm_le : ∀ (d : Nat) (s : List UInt8) (m : Nat), tm d s = some m → 0 < m ∧ m ≤ s.length
  | 0, s, m, h => by simp [tm] at h
  | d + 1, [], m, h => by simp [tm] at h
  | d + 1, c :: s, m, h => by
    simp only [tm] at h
    split at h
    · cases h
    · rename_i n z hd
      have hz := (dv_ok hd).1
      repeat' split at h
      all_goals first | cases h; done | skip
      · cases h; rename_i h1; simp; omega
      · cases h; simp; omega
      · rename_i a ha
        cases h
        have := tm_le d _ _ ha
        rw [List.length_drop] at this
        simp; omega
      · rename_i a ha
        cases h
        have := tmsOf_le (fun s m hm => (tm_le d s m hm).2) n _ _ ha
        rw [List.length_drop] at this
        simp; omega
theorem sTermL (s : List UInt8) (hs : s.length ≤ 1048576) (d : Nat) (hd8 : d ≤ 100) (at0 : Nat) (a2 : Int) (ha2 : IntKind.i64.wrap (a2 - 1) = (d : Int)) (n : Nat) (hn : n ≤ 12) : ∀ (m j : Nat) (cl : Nat → List UInt8 → Int → Int → Option (Int × Int)) (p : Nat) (dd : Int), j + m = n → at0 ≤ p → p ≤ s.length →
    (∀ i, i ≤ s.length → EvP (fun k => cl k s (i : Int) (d : Int)) (fun r => r.1 = szI (tm d (s.drop i)))) →
    EvP (fun k => Fspec_l2Term.l15 (cl k) k s (at0 : Int) a2 (n : Int) (p : Int) dd (j : Int)) (fun r => r.1 = match tmsOf (tm d) m (s.drop p) with | some q => (((p + q : Nat) : Int) - (at0 : Int)) | none => 0) := by
  intro m
  induction m with
  | zero =>
    intro j cl p dd hj hap hp hcl
    refine EvP.succ ?_
    simp only [Fspec_l2Term.l15]
    rw [decide_eq_false (by omega)]
    refine EvP.pure ?_
    simp only [tmsOf, Nat.add_zero]
    exact wid (by omega) (by omega)
  | succ m ih =>
    intro j cl p dd hj hap hp hcl
    refine EvP.succ ?_
    simp only [Fspec_l2Term.l15]
    rw [decide_eq_true (by omega)]
    simp only [cond_true, ha2]
    refine EvP.bind ((hcl p hp).shift) (fun r hr => ?_)
    cases ht : tm d (s.drop p) with
    | none =>
      rw [ht] at hr
      simp only [szI] at hr
      rw [hr]
      refine EvP.pure ?_
      simp [tmsOf, ht]
    | some q =>
      rw [ht] at hr
      simp only [szI] at hr
      obtain ⟨q0, q1⟩ := tm_le d _ _ ht
      rw [List.length_drop] at q1
      rw [hr, show ((q : Int) == 0) = false by simp; omega]
      simp only [cond_false]
      have e : IntKind.i64.wrap ((p : Int) + (q : Int)) = ((p + q : Nat) : Int) := by rw [wid (by omega) (by omega)]; omega
      have post : ∀ dd', EvP (fun k => Fspec_l2Term.j16 (Fspec_l2Term.l15 (cl (k + 1)) k) k s (at0 : Int) a2 (n : Int) (IntKind.i64.wrap ((p : Int) + (q : Int))) dd' (j : Int)) (fun r => r.1 = match tmsOf (tm d) (m + 1) (s.drop p) with | some q => (((p + q : Nat) : Int) - (at0 : Int)) | none => 0) := by
        intro dd'
        simp only [Fspec_l2Term.j16]
        rw [e, wid1 (by omega)]
        refine (ih (j + 1) (fun k => cl (k + 1)) (p + q) dd' (by omega) (by omega) (by omega) (fun i hi => (hcl i hi).shift)).mono fun r hr => ?_
        rw [hr]
        simp only [tmsOf, ht]
        rw [List.drop_drop]
        cases tmsOf (tm d) m (s.drop (p + q)) with
        | none => rfl
        | some q2 => simp only; omega
      refine EvP.ite (fun _ => post _) (fun _ => post _)
theorem sTerm (s : List UInt8) (hs : s.length ≤ 1048576) : ∀ (d : Nat) (i : Nat), d ≤ 100 → i ≤ s.length → EvP (fun k => Fspec_l2Term k s (i : Int) (d : Int)) (fun r => r.1 = szI (tm d (s.drop i))) := by
  intro d
  induction d with
  | zero =>
    intro i _ hi
    refine EvP.succ ?_
    simp only [Fspec_l2Term]
    refine EvP.ite (fun _ => EvP.pure (by simp [tm, szI])) (fun _ => ?_)
    rw [decide_eq_true (by omega)]
    exact EvP.pure (by simp [tm, szI])
  | succ d ih =>
    intro i hd hi
    refine EvP.succ ?_
    simp only [Fspec_l2Term]
    by_cases hl : i < s.length
    · obtain ⟨c, t, hct⟩ := drop_cons_ex hl
      obtain ⟨hc, ht, _⟩ := at?_drop hct
      have htl : t.length = s.length - (i + 1) := by rw [← ht, List.length_drop]
      rw [decide_eq_false (p := (i : Int) ≥ (s.length : Int)) (by omega), decide_eq_false (p := ((d + 1 : Nat) : Int) < 1) (by omega), wid1 (by omega), cutEnd (by omega), ht]
      simp only [cond_false, Option.bind_some]
      refine EvP.bindE (sReadVar t (by omega)) ?_
      rw [hct]
      cases hdv : dv 7 t with
      | none => simp only [rvP, tm, hdv]; exact EvP.pure rfl
      | some q =>
        obtain ⟨n, z⟩ := q
        simp only [rvP, tm, hdv]
        obtain ⟨z1, z2, z3, _, zn⟩ := dv_ok hdv
        have hn : n < 562949953421312 := Nat.lt_of_lt_of_le zn (by have := Nat.pow_le_pow_right (n := 128) (by omega) z2; omega)
        rw [show ((z : Int) == 0) = false by simp; omega]
        simp only [cond_false]
        refine EvP.at? hc ?_
        have e1 : IntKind.i64.wrap (((i + 1 : Nat) : Int) + (z : Int)) = ((i + 1 + z : Nat) : Int) := by rw [wid (by omega) (by omega)]; omega
        have e2 : IntKind.i64.wrap (1 + (z : Int)) = ((1 + z : Nat) : Int) := by rw [wid (by omega) (by omega)]; omega
        have e3 : IntKind.i64.wrap (((d + 1 : Nat) : Int) - 1) = (d : Int) := by rw [wid (by omega) (by omega)]; omega
        have e4 : IntKind.i64.wrap ((s.length : Int) - ((i + 1 + z : Nat) : Int)) = ((s.length - (i + 1 + z) : Nat) : Int) := by rw [wid (by omega) (by omega)]; omega
        have ed : t.drop z = s.drop (i + 1 + z) := by rw [← ht, List.drop_drop]
        rw [e1, e2, e3, e4]
        refine EvP.ite (fun ha => ?_) (fun ha => ?_)
        · have ha := eq_of_beq ha
          rw [if_pos ha]
          refine EvP.ite (fun h1 => EvP.pure ?_) (fun h1 => ?_)
          · have := of_decide_eq_true h1
            rw [if_neg (by omega)]; rfl
          · have h1 := of_decide_eq_false h1
            refine EvP.ite (fun h2 => EvP.pure ?_) (fun h2 => EvP.pure ?_)
            · have := of_decide_eq_true h2
              rw [if_neg (by omega)]; rfl
            · have := of_decide_eq_false h2
              rw [if_pos (by omega)]
              simp only [szI]
              rw [wid (by omega) (by omega)]; omega
        rw [if_neg (fun e => by rw [e] at ha; simp at ha)]
        refine EvP.ite (fun hk => ?_) (fun hk => ?_)
        · have hk := eq_of_beq hk
          rw [if_pos hk]
          simp only [sIn, Option.bind_some, isIn]
          refine EvP.ite (fun h1 => EvP.pure ?_) (fun h1 => EvP.pure ?_)
          · rw [if_neg (fun h => by rw [decide_eq_true (by omega)] at h1; cases h1)]; rfl
          · have := of_decide_eq_true (by simpa using h1 : decide ((1 : Int) ≤ (n : Int) ∧ (n : Int) ≤ 1000000) = true)
            rw [if_pos (by omega)]; rfl
        rw [if_neg (fun e => by rw [e] at hk; simp at hk)]
        refine EvP.ite (fun hss => ?_) (fun hss => ?_)
        · have hss := eq_of_beq hss
          rw [if_pos hss, ed]
          refine EvP.bind (ih (i + 1 + z) (by omega) (by omega)) (fun r hr => ?_)
          cases ht2 : tm d (s.drop (i + 1 + z)) with
          | none =>
            rw [ht2] at hr; simp only [szI] at hr
            rw [hr]
            refine EvP.pure ?_
            split <;> rfl
          | some q =>
            rw [ht2] at hr; simp only [szI] at hr
            obtain ⟨q0, q1⟩ := tm_le d _ _ ht2
            rw [List.length_drop] at q1
            rw [hr, show ((q : Int) == 0) = false by simp; omega]
            simp only [cond_false, sIn, Option.bind_some, isIn]
            refine EvP.ite (fun h1 => EvP.pure ?_) (fun h1 => EvP.pure ?_)
            · rw [if_neg (fun h => by rw [decide_eq_true (by omega)] at h1; cases h1)]; rfl
            · have := of_decide_eq_true (by simpa using h1 : decide ((1 : Int) ≤ (n : Int) ∧ (n : Int) ≤ 1000000) = true)
              rw [if_pos (by omega)]
              simp only [szI]
              rw [wid (by omega) (by omega)]; omega
        rw [if_neg (fun e => by rw [e] at hss; simp at hss)]
        refine EvP.ite (fun hli => ?_) (fun hli => ?_)
        · have hli := eq_of_beq hli
          rw [if_pos hli, ed]
          refine EvP.ite (fun h1 => EvP.pure ?_) (fun h1 => ?_)
          · have := of_decide_eq_true h1
            rw [if_neg (by omega)]; rfl
          · have h1 := of_decide_eq_false h1
            rw [if_pos (by omega)]
            refine (sTermL s hs d (by omega) i ((d + 1 : Nat) : Int) e3 n (by omega) n 0 (fun k => Fspec_l2Term k) (i + 1 + z) 0 (by omega) (by omega) (by omega) (fun j hj => ih j (by omega) hj)).mono fun r hr => ?_
            rw [hr]
            cases tmsOf (tm d) n (s.drop (i + 1 + z)) with
            | none => rfl
            | some q => simp only [szI]; omega
        · rw [if_neg (fun e => by rw [e] at hli; simp at hli)]
          exact EvP.pure rfl
    · rw [decide_eq_true (p := (i : Int) ≥ (s.length : Int)) (by omega)]
      refine EvP.pure ?_
      have : s.drop i = [] := List.drop_of_length_le (by omega)
      rw [this]; simp [tm, szI]
def tmOk (s : List UInt8) : Bool := match tm 8 s with
  | some m => decide (m = s.length ∧ m ≤ 900)
  | none => false
theorem sTermOk (s : List UInt8) (hs : s.length ≤ 1048576) : Ev (fun k => Fspec_TermOk k s) (tmOk s) := by
  simp only [Fspec_TermOk]
  refine EvP.ev (EvP.bind (sTerm s hs 8 0 (by omega) (by omega)) (fun r hr => ?_))
  rw [List.drop_zero] at hr
  unfold tmOk
  cases ht : tm 8 s with
  | none =>
    rw [ht] at hr; simp only [szI] at hr
    rw [hr]; exact EvP.pure rfl
  | some m =>
    rw [ht] at hr; simp only [szI] at hr
    obtain ⟨h0, h1⟩ := tm_le 8 s m ht
    rw [hr, decide_eq_true (by omega)]
    simp only [cond_true]
    refine EvP.ite (fun h => EvP.pure ?_) (fun h => EvP.pure ?_)
    · have h := eq_of_beq h
      exact decide_eq_decide.2 (by omega)
    · have h : (m : Int) ≠ (s.length : Int) := fun e => by rw [e] at h; simp at h
      rw [decide_eq_false (by omega)]
theorem iVarAt (s : List UInt8) (hs : s.length ≤ 1048576) (i : Nat) (hi : i ≤ s.length) : Ev (fun k => Fimpl_varAt k s (i : Int)) (match dv 7 (s.drop i) with | some (n, z) => ((n : Int), ((i + z : Nat) : Int)) | none => (-1, (i : Int))) := by
  simp only [Fimpl_varAt]
  rw [cutEnd hi]
  simp only [Option.bind_some]
  refine Ev.bind (iReadVar _ (by rw [List.length_drop]; omega)) ?_
  simp only [rvP]
  cases hdv : dv 7 (s.drop i) with
  | none => exact Ev.pure _
  | some q =>
    obtain ⟨n, z⟩ := q
    obtain ⟨z1, z2, z3, _, _⟩ := dv_ok hdv
    simp only
    rw [show ((z : Int) == 0) = false by simp; omega, show IntKind.i64.wrap ((i : Int) + (z : Int)) = ((i + z : Nat) : Int) by rw [wid (by omega) (by omega)]; omega]
    exact Ev.pure _
def endI (i : Nat) : Option Nat → Int
  | some m => ((i + m : Nat) : Int)
  | none => -1
theorem iTermL (s : List UInt8) (d : Nat) (hd : d ≤ 100) (a2 : Int) (ha2 : IntKind.i64.wrap (a2 - 1) = (d : Int)) (n : Nat) (hn : n ≤ 12) (hs : s.length ≤ 1048576) : ∀ (m j : Nat) (cl : Nat → List UInt8 → Int → Int → Option Int) (p : Nat), j + m = n → p ≤ s.length →
    (∀ i, i ≤ s.length → Ev (fun k => cl k s (i : Int) (d : Int)) (endI i (tm d (s.drop i)))) →
    Ev (fun k => Fimpl_termAt.l4 (cl k) k s a2 (n : Int) (p : Int) (j : Int)) (endI p (tmsOf (tm d) m (s.drop p))) := by
  intro m
  induction m with
  | zero =>
    intro j cl p hj hp hcl
    refine Ev.succ ?_
    simp only [Fimpl_termAt.l4]
    rw [decide_eq_false (by omega)]
    exact Ev.pure _
  | succ m ih =>
    intro j cl p hj hp hcl
    refine Ev.succ ?_
    simp only [Fimpl_termAt.l4]
    rw [decide_eq_true (p := (j : Int) < (n : Int)) (by omega), decide_eq_true (p := (p : Int) ≥ 0) (by omega)]
    simp only [cond_true, ha2]
    refine Ev.bind (hcl p hp).shift ?_
    cases ht : tm d (s.drop p) with
    | none =>
      simp only [endI]
      refine Ev.succ ?_
      simp only [Fimpl_termAt.l4]
      refine Ev.ite (fun _ => ?_) (fun _ => (Ev.pure _).to ?_)
      · rw [decide_eq_false (by omega)]
        refine (Ev.pure _).to ?_
        simp [tmsOf, ht]
      · simp [tmsOf, ht]
    | some q =>
      obtain ⟨q0, q1⟩ := tm_le d _ _ ht
      rw [List.length_drop] at q1
      simp only [endI]
      rw [wid1 (by omega)]
      refine (ih (j + 1) (fun k => cl (k + 1)) (p + q) (by omega) (by omega) (fun i hi => (hcl i hi).shift)).to ?_
      simp only [tmsOf, ht]
      rw [List.drop_drop]
      cases tmsOf (tm d) m (s.drop (p + q)) with
      | none => rfl
      | some q2 => simp only [endI]; omega
theorem iKey (k : Nat) (n : Int) : Fimpl_isKey k n = some (isIn n 1 1000000) := by
  simp only [Fimpl_isKey, iIn, Option.bind_some]
theorem iTerm (s : List UInt8) (hs : s.length ≤ 1048576) : ∀ (d : Nat) (i : Nat), d ≤ 100 → i ≤ s.length → Ev (fun k => Fimpl_termAt k s (i : Int) (d : Int)) (endI i (tm d (s.drop i))) := by
  intro d
  induction d with
  | zero =>
    intro i _ hi
    refine Ev.succ ?_
    simp only [Fimpl_termAt]
    refine Ev.ite (fun _ => (Ev.pure _).to (by simp [tm, endI])) (fun _ => ?_)
    rw [decide_eq_true (by omega)]
    exact (Ev.pure _).to (by simp [tm, endI])
  | succ d ih =>
    intro i hd hi
    refine Ev.succ ?_
    simp only [Fimpl_termAt]
    by_cases hl : i < s.length
    · obtain ⟨c, t, hct⟩ := drop_cons_ex hl
      obtain ⟨hc, ht, _⟩ := at?_drop hct
      have htl : t.length = s.length - (i + 1) := by rw [← ht, List.length_drop]
      rw [decide_eq_false (p := (i : Int) ≥ (s.length : Int)) (by omega), decide_eq_false (p := ((d + 1 : Nat) : Int) < 1) (by omega), wid1 (by omega)]
      simp only [cond_false]
      refine Ev.bind (iVarAt s hs (i + 1) (by omega)) ?_
      refine Ev.at? hc ?_
      rw [ht, hct]
      simp only [iIn, iKey, Option.bind_some]
      have e3 : IntKind.i64.wrap (((d + 1 : Nat) : Int) - 1) = (d : Int) := by rw [wid (by omega) (by omega)]; omega
      cases hdv : dv 7 t with
      | none =>
        simp only [tm, hdv, show isIn (-1) 0 40 = false from rfl, show isIn (-1) 1 1000000 = false from rfl, show isIn (-1) 0 12 = false from rfl, Bool.not_false, cond_true]
        refine Ev.ite (fun _ => Ev.pure _) (fun _ => Ev.ite (fun _ => Ev.pure _) (fun _ => Ev.ite (fun _ => Ev.pure _) (fun _ => Ev.ite (fun _ => Ev.pure _) (fun _ => Ev.pure _))))
      | some q =>
        obtain ⟨n, z⟩ := q
        obtain ⟨z1, z2, z3, _, zn⟩ := dv_ok hdv
        have hn : n < 562949953421312 := Nat.lt_of_lt_of_le zn (by have := Nat.pow_le_pow_right (n := 128) (by omega) z2; omega)
        simp only [tm, hdv]
        have e4 : IntKind.i64.wrap ((s.length : Int) - ((i + 1 + z : Nat) : Int)) = ((s.length - (i + 1 + z) : Nat) : Int) := by rw [wid (by omega) (by omega)]; omega
        have ed : t.drop z = s.drop (i + 1 + z) := by rw [← ht, List.drop_drop]
        rw [e3, e4]
        refine Ev.ite (fun ha => ?_) (fun ha => ?_)
        · have ha := eq_of_beq ha
          rw [if_pos ha]
          simp only [isIn]
          refine Ev.ite (fun h1 => (Ev.pure _).to ?_) (fun h1 => ?_)
          · rw [if_neg (fun h => by rw [decide_eq_true (by omega)] at h1; cases h1)]; rfl
          · have h1 := of_decide_eq_true (by simpa using h1 : decide ((0 : Int) ≤ (n : Int) ∧ (n : Int) ≤ 40) = true)
            refine Ev.ite (fun h2 => (Ev.pure _).to ?_) (fun h2 => (Ev.pure _).to ?_)
            · have := of_decide_eq_true h2
              rw [if_neg (by omega)]; rfl
            · have := of_decide_eq_false h2
              rw [if_pos (by omega)]
              simp only [endI]
              rw [wid (by omega) (by omega)]; omega
        rw [if_neg (fun e => by rw [e] at ha; simp at ha)]
        refine Ev.ite (fun hk => ?_) (fun hk => ?_)
        · have hk := eq_of_beq hk
          rw [if_pos hk]
          simp only [isIn]
          refine Ev.ite (fun h1 => (Ev.pure _).to ?_) (fun h1 => (Ev.pure _).to ?_)
          · rw [if_neg (fun h => by rw [decide_eq_true (by omega)] at h1; cases h1)]; rfl
          · have := of_decide_eq_true (by simpa using h1 : decide ((1 : Int) ≤ (n : Int) ∧ (n : Int) ≤ 1000000) = true)
            rw [if_pos (by omega)]; simp only [endI]; omega
        rw [if_neg (fun e => by rw [e] at hk; simp at hk)]
        have swap : ∀ (x y : Option Nat), (if c = 115 then x else if c = 108 then y else none) = (if c = 108 then y else if c = 115 then x else none) := by
          intro x y
          by_cases h1 : c = 115
          · subst h1; rfl
          · rw [if_neg h1, if_neg h1]
        rw [swap]
        refine Ev.ite (fun hli => ?_) (fun hli => ?_)
        · have hli := eq_of_beq hli
          rw [if_pos hli, ed]
          simp only [isIn]
          refine Ev.ite (fun h1 => (Ev.pure _).to ?_) (fun h1 => ?_)
          · rw [if_neg (fun h => by rw [decide_eq_true (by omega)] at h1; cases h1)]; rfl
          · have h1 := of_decide_eq_true (by simpa using h1 : decide ((0 : Int) ≤ (n : Int) ∧ (n : Int) ≤ 12) = true)
            rw [if_pos (by omega)]
            refine (iTermL s d (by omega) ((d + 1 : Nat) : Int) e3 n (by omega) hs n 0 (fun k => Fimpl_termAt k) (i + 1 + z) (by omega) (by omega) (fun j hj => ih j (by omega) hj)).to ?_
            cases tmsOf (tm d) n (s.drop (i + 1 + z)) with
            | none => rfl
            | some q => simp only [endI]; omega
        rw [if_neg (fun e => by rw [e] at hli; simp at hli)]
        refine Ev.ite (fun hss => ?_) (fun hss => ?_)
        · have hss := eq_of_beq hss
          rw [if_pos hss, ed]
          simp only [isIn]
          refine Ev.ite (fun h1 => (Ev.pure _).to ?_) (fun h1 => ?_)
          · rw [if_neg (fun h => by rw [decide_eq_true (by omega)] at h1; cases h1)]; rfl
          · have := of_decide_eq_true (by simpa using h1 : decide ((1 : Int) ≤ (n : Int) ∧ (n : Int) ≤ 1000000) = true)
            rw [if_pos (by omega)]
            refine Ev.bind (ih (i + 1 + z) (by omega) (by omega)) ((Ev.pure _).to ?_)
            cases tm d (s.drop (i + 1 + z)) with
            | none => rfl
            | some q => simp only [endI]; omega
        · rw [if_neg (fun e => by rw [e] at hss; simp at hss)]
          exact Ev.pure _
    · rw [decide_eq_true (p := (i : Int) ≥ (s.length : Int)) (by omega)]
      refine (Ev.pure _).to ?_
      have : s.drop i = [] := List.drop_of_length_le (by omega)
      rw [this]; simp [tm, endI]
theorem iTermOk (s : List UInt8) (hs : s.length ≤ 1048576) : Ev (fun k => Fimpl_TermOk k s) (tmOk s) := by
  simp only [Fimpl_TermOk, iIn, Option.bind_some]
  refine Ev.ite (fun h => ?_) (fun h => (Ev.pure _).to ?_)
  · have h := of_decide_eq_true (by simpa [isIn] using h : decide ((1 : Int) ≤ (s.length : Int) ∧ (s.length : Int) ≤ 900) = true)
    refine Ev.bind (iTerm s hs 8 0 (by omega) (by omega)) ((Ev.pure _).to ?_)
    rw [List.drop_zero]
    unfold tmOk
    cases ht : tm 8 s with
    | none =>
      simp only [endI]
      exact beq_eq_false_iff_ne.2 (by omega)
    | some m =>
      simp only [endI, Nat.zero_add]
      by_cases e : m = s.length
      · rw [e, decide_eq_true (by omega)]; simp
      · rw [decide_eq_false (by omega)]; exact beq_eq_false_iff_ne.2 (by omega)
  · unfold tmOk
    cases ht : tm 8 s with
    | none => rfl
    | some m =>
      obtain ⟨h0, h1⟩ := tm_le 8 s m ht
      simp only
      rw [decide_eq_false (fun h2 => by unfold isIn at h; rw [decide_eq_true (by omega)] at h; cases h)]
def hasP (l : List Timpl_Pair) (p : Timpl_Pair) : Bool := l.any fun q => q.A == p.A && q.B == p.B
theorem partI {α : Type} {l : List α} {i : Nat} (h : i ≤ l.length) : part? l 0 (i : Int) = some (l.take i) := by
  unfold part?
  rw [if_pos (by omega)]; simp
theorem sHas (l : List Timpl_Pair) (p : Timpl_Pair) (hl : l.length ≤ 1048576) : Ev (fun k => Fspec_l6Has k l p) (hasP l p) := by
  simp only [Fspec_l6Has]
  refine Ev.for (xs := l) (L := fun k (_ : Unit) i => Fspec_l6Has.l2 k l i p) (f := fun l _ => hasP l p) (fun _ => by simp only [Fspec_l6Has.l2, ltD0, cond_false]; exact Ev.pure _) (fun i b _ hb hi h => ?_) ()
  simp only [Fspec_l6Has.l2, ltD hi, cond_true, Bool.and_true]
  refine Ev.at? hb ?_
  simp only [hasP, List.any_cons]
  refine Ev.ite (fun hc => ?_) (fun hc => ?_)
  · rw [hc]; exact Ev.pure _
  · rw [hc, wid1 (by omega)]; exact h ()
theorem iHas (l : List Timpl_Pair) (p : Timpl_Pair) (hl : l.length ≤ 1048576) : Ev (fun k => Fslices_Contains_Pair k l p) (hasP l p) := by
  simp only [Fslices_Contains_Pair, Fslices_Index_Pair]
  have : EvP (fun k => Fslices_Index_Pair.l2 k l (l.length : Int) (0 : Int) p) (fun r => decide (r ≥ 0) = hasP l p) := by
    have := Ev.find (xs := l) (L := fun k i => Fslices_Index_Pair.l2 k l (l.length : Int) i p) (p := fun b => (p.A == b.A) && (p.B == b.B)) (g := fun i => (i : Int)) (e := -1) (by simp only [Fslices_Index_Pair.l2, ltD0, cond_false]; exact Ev.pure _) (fun i b r hb hi h1 h0 => by
      simp only [Fslices_Index_Pair.l2, ltD hi, cond_true, Bool.and_true]
      refine Ev.at? hb (Ev.ite (fun hc => (Ev.pure _).to (h1 hc).symm) (fun hc => ?_))
      rw [wid1 (by omega)]; exact h0 hc)
    refine ⟨_, this, ?_⟩
    rcases firstOf_some (p := fun b : Timpl_Pair => (p.A == b.A) && (p.B == b.B)) (g := fun i => (i : Int)) (e := (-1 : Int)) (i := 0) (xs := l) with ⟨j, b, h1, h2, h3⟩ | ⟨h1, h2⟩
    · rw [h3, decide_eq_true (by omega)]
      symm
      unfold hasP
      rw [List.any_eq_true]
      refine ⟨b, List.mem_of_getElem? h1, ?_⟩
      simp only [Bool.and_eq_true, beq_iff_eq] at h2 ⊢
      exact ⟨h2.1.symm, h2.2.symm⟩
    · rw [h2, decide_eq_false (by omega)]
      symm
      unfold hasP
      rw [List.any_eq_false]
      intro b hb
      have := h1 b hb
      simp only [Bool.and_eq_false_iff, beq_eq_false_iff_ne, ne_eq] at this
      simp only [Bool.and_eq_true, beq_iff_eq, not_and]
      intro e1 e2
      rcases this with h | h
      · exact h e1.symm
      · exact h e2.symm
  obtain ⟨r, h1, h2⟩ := this
  exact Ev.bind h1 ((Ev.pure _).to h2)
def isR (x : Int) : Bool := isIn x 0 2
def linkB (p : Timpl_Pair) : Bool := isR p.A && (isR p.B && p.A != p.B)
def proxB (p : Timpl_Pair) : Bool := isR p.A && isR p.B
def prF (is : Timpl_Pair → Bool) : List Timpl_Pair → List Timpl_Pair → Bool
  | _, [] => true
  | seen, p :: r => is p && (!hasP seen p && prF is (seen ++ [p]) r)
def prOk (is : Timpl_Pair → Bool) (l : List Timpl_Pair) : Bool := decide (l.length ≤ 6) && prF is [] l
theorem isR_iff {x : Int} : isR x = true ↔ 0 ≤ x ∧ x ≤ 2 := by simp [isR, isIn]
theorem sPairs (l : List Timpl_Pair) (u : Bool) (hl : l.length ≤ 1048576) : Ev (fun k => Fspec_l6Pairs k l 3 u) (prOk (if u then linkB else proxB) l) := by
  simp only [Fspec_l6Pairs]
  unfold prOk
  refine Ev.ite (fun hc => ?_) (fun hc => ?_)
  · rw [decide_eq_false (by simp at hc; omega)]; exact Ev.pure _
  rw [decide_eq_true (by simp at hc; omega), Bool.true_and]
  have key : ∀ (g i : Nat), i + g = l.length → Ev (fun k => Fspec_l6Pairs.l7 k l 3 u (i : Int)) (prF (if u then linkB else proxB) (l.take i) (l.drop i)) := by
    intro g
    induction g with
    | zero =>
      intro i hi
      have : i = l.length := by omega
      subst this
      refine Ev.succ ?_
      simp only [Fspec_l6Pairs.l7, ltD0, cond_false, List.drop_length, prF]
      exact Ev.pure _
    | succ g ih =>
      intro i hi
      have hi2 : i < l.length := by omega
      obtain ⟨b, hb⟩ := atLt hi2
      have e : l.drop i = b :: l.drop (i + 1) := by
        obtain ⟨h1, h2⟩ := List.getElem?_eq_some_iff.1 hb
        rw [List.drop_eq_getElem_cons h1, h2]
      refine Ev.succ ?_
      simp only [Fspec_l6Pairs.l7, Fspec_l6Pairs.j8, ltD hi2, cond_true]
      rw [e]
      refine Ev.at? hb ?_
      simp only [prF]
      have hA : isR b.A = (!decide (b.A < 0) && !decide (b.A ≥ 3)) := by
        refine Bool.eq_iff_iff.2 ?_
        rw [isR_iff]; simp; omega
      have hB : isR b.B = (!decide (b.B < 0) && !decide (b.B ≥ 3)) := by
        refine Bool.eq_iff_iff.2 ?_
        rw [isR_iff]; simp; omega
      have hgo : Ev (fun k => (part? l 0 (i : Int)).bind fun b211 => (Fspec_l6Has k b211 b).bind fun r212 => cond r212 (some false) (Fspec_l6Pairs.l7 k l 3 u (IntKind.i64.wrap ((i : Int) + 1)))) (!hasP (l.take i) b && prF (if u then linkB else proxB) (l.take i ++ [b]) (l.drop (i + 1))) := by
        rw [partI (by omega)]
        simp only [Option.bind_some]
        refine Ev.bind (sHas _ _ (by rw [List.length_take]; omega)) (Ev.ite (fun hc => ?_) (fun hc => ?_))
        · rw [hc]; exact Ev.pure _
        · rw [hc, wid1 (by omega), ← take_succ_get hb]; exact ih (i + 1) (by omega)
      cases u with
      | true =>
        simp only [if_true, linkB, hA, hB] at hgo ⊢
        refine Ev.ite (fun hc => ?_) (fun hc => ?_)
        · rw [hc]; exact Ev.pure _
        refine Ev.ite (fun hc2 => ?_) (fun hc2 => ?_)
        · rw [hc, hc2]; exact Ev.pure _
        refine Ev.ite (fun hc3 => ?_) (fun hc3 => ?_)
        · rw [hc, hc2, hc3]; exact Ev.pure _
        refine Ev.ite (fun hc4 => ?_) (fun hc4 => ?_)
        · rw [hc, hc2, hc3, hc4]; exact Ev.pure _
        rw [hc, hc2, hc3, hc4]
        simp only [cond_true, Bool.not_false, Bool.true_and]
        refine Ev.ite (fun hc5 => ?_) (fun hc5 => ?_)
        · rw [show (b.A != b.B) = false by simpa using hc5]; exact Ev.pure _
        · rw [show (b.A != b.B) = true by simpa using hc5, Bool.true_and]; exact hgo
      | false =>
        simp only [Bool.false_eq_true, if_false, proxB, hA, hB] at hgo ⊢
        refine Ev.ite (fun hc => ?_) (fun hc => ?_)
        · rw [hc]; exact Ev.pure _
        refine Ev.ite (fun hc2 => ?_) (fun hc2 => ?_)
        · rw [hc, hc2]; exact Ev.pure _
        refine Ev.ite (fun hc3 => ?_) (fun hc3 => ?_)
        · rw [hc, hc2, hc3]; exact Ev.pure _
        refine Ev.ite (fun hc4 => ?_) (fun hc4 => ?_)
        · rw [hc, hc2, hc3, hc4]; exact Ev.pure _
        rw [hc, hc2, hc3, hc4]
        simp only [cond_false, Bool.not_false, Bool.true_and]
        exact hgo
  simpa using key l.length 0 (by omega)
theorem iPairs1 (l : List Timpl_Pair) (hl : l.length ≤ 1048576) : Ev (fun k => Fimpl_arePairs__impl_ConfigOk_1 k l) (prOk linkB l) := by
  simp only [Fimpl_arePairs__impl_ConfigOk_1]
  unfold prOk
  rw [Bool.and_comm]
  have key : ∀ (g i : Nat), i + g = l.length → Ev (fun k => Fimpl_arePairs__impl_ConfigOk_1.l2 k l (l.length : Int) (i : Int)) (prF linkB (l.take i) (l.drop i) && decide (l.length ≤ 6)) := by
    intro g
    induction g with
    | zero =>
      intro i hi
      have : i = l.length := by omega
      subst this
      refine Ev.succ ?_
      simp only [Fimpl_arePairs__impl_ConfigOk_1.l2, ltD0, cond_false, List.drop_length, prF, Bool.true_and]
      refine (Ev.pure _).to (Bool.eq_iff_iff.2 ?_)
      simp; omega
    | succ g ih =>
      intro i hi
      have hi2 : i < l.length := by omega
      obtain ⟨b, hb⟩ := atLt hi2
      have e : l.drop i = b :: l.drop (i + 1) := by
        obtain ⟨h1, h2⟩ := List.getElem?_eq_some_iff.1 hb
        rw [List.drop_eq_getElem_cons h1, h2]
      refine Ev.succ ?_
      simp only [Fimpl_arePairs__impl_ConfigOk_1.l2, ltD hi2, cond_true]
      rw [e]
      refine Ev.at? hb ?_
      simp only [prF]
      have hb1 : Ev (fun k => Fimpl_ConfigOk_1 k b) (linkB b) := by
        simp only [Fimpl_ConfigOk_1, Fimpl_isRealm, iIn, Option.bind_some]
        unfold linkB isR
        refine Ev.ite (fun hc => ?_) (fun hc => ?_)
        · rw [hc, Bool.true_and]
          refine Ev.ite (fun hc => ?_) (fun hc => ?_)
          · rw [hc]; exact Ev.pure _
          · rw [hc]; exact Ev.pure _
        · rw [hc]; exact Ev.pure _
      refine Ev.bind hb1 (Ev.ite (fun hc => ?_) (fun hc => ?_))
      · rw [show linkB b = false by simpa using hc]; exact Ev.pure _
      rw [show linkB b = true by simpa using hc, Bool.true_and, partI (by omega)]
      simp only [Option.bind_some]
      refine Ev.bind (iHas _ _ (by rw [List.length_take]; omega)) (Ev.ite (fun hc => ?_) (fun hc => ?_))
      · rw [hc]; exact Ev.pure _
      · rw [hc, wid1 (by omega), ← take_succ_get hb, Bool.not_false, Bool.true_and]; exact ih (i + 1) (by omega)
  simpa using key l.length 0 (by omega)
theorem iPairs2 (l : List Timpl_Pair) (hl : l.length ≤ 1048576) : Ev (fun k => Fimpl_arePairs__impl_ConfigOk_2 k l) (prOk proxB l) := by
  simp only [Fimpl_arePairs__impl_ConfigOk_2]
  unfold prOk
  rw [Bool.and_comm]
  have key : ∀ (g i : Nat), i + g = l.length → Ev (fun k => Fimpl_arePairs__impl_ConfigOk_2.l2 k l (l.length : Int) (i : Int)) (prF proxB (l.take i) (l.drop i) && decide (l.length ≤ 6)) := by
    intro g
    induction g with
    | zero =>
      intro i hi
      have : i = l.length := by omega
      subst this
      refine Ev.succ ?_
      simp only [Fimpl_arePairs__impl_ConfigOk_2.l2, ltD0, cond_false, List.drop_length, prF, Bool.true_and]
      refine (Ev.pure _).to (Bool.eq_iff_iff.2 ?_)
      simp; omega
    | succ g ih =>
      intro i hi
      have hi2 : i < l.length := by omega
      obtain ⟨b, hb⟩ := atLt hi2
      have e : l.drop i = b :: l.drop (i + 1) := by
        obtain ⟨h1, h2⟩ := List.getElem?_eq_some_iff.1 hb
        rw [List.drop_eq_getElem_cons h1, h2]
      refine Ev.succ ?_
      simp only [Fimpl_arePairs__impl_ConfigOk_2.l2, ltD hi2, cond_true]
      rw [e]
      refine Ev.at? hb ?_
      simp only [prF]
      have hb1 : Ev (fun k => Fimpl_ConfigOk_2 k b) (proxB b) := by
        simp only [Fimpl_ConfigOk_2, Fimpl_isService, iIn, Option.bind_some]
        unfold proxB isR
        refine Ev.ite (fun hc => ?_) (fun hc => ?_)
        · rw [hc, Bool.true_and]; exact Ev.pure _
        · rw [hc]; exact Ev.pure _
      refine Ev.bind hb1 (Ev.ite (fun hc => ?_) (fun hc => ?_))
      · rw [show proxB b = false by simpa using hc]; exact Ev.pure _
      rw [show proxB b = true by simpa using hc, Bool.true_and, partI (by omega)]
      simp only [Option.bind_some]
      refine Ev.bind (iHas _ _ (by rw [List.length_take]; omega)) (Ev.ite (fun hc => ?_) (fun hc => ?_))
      · rw [hc]; exact Ev.pure _
      · rw [hc, wid1 (by omega), ← take_succ_get hb, Bool.not_false, Bool.true_and]; exact ih (i + 1) (by omega)
  simpa using key l.length 0 (by omega)
def CfgSm (c : Timpl_Config) : Prop := c.UserRealm.length ≤ 1048576 ∧ c.ServiceRealm.length ≤ 1048576 ∧ c.Links.length ≤ 1048576 ∧ c.Proxy.length ≤ 1048576
theorem sAll (l : List Int) (hl : l.length = 3) : Ev (fun k => Fspec_l5All k l 3 3) (l.all isR) := by
  simp only [Fspec_l5All]
  rw [decide_eq_false (by omega)]
  simp only [cond_false]
  refine Ev.for (xs := l) (L := fun k (_ : Unit) i => Fspec_l5All.l2 k l 3 i) (f := fun l _ => l.all isR) (fun _ => by simp only [Fspec_l5All.l2, ltD0, cond_false]; exact Ev.pure _) (fun i b _ hb hi h => ?_) ()
  simp only [Fspec_l5All.l2, ltD hi, cond_true, List.all_cons]
  have hA : isR b = (!decide (b < 0) && !decide (b ≥ 3)) := by
    refine Bool.eq_iff_iff.2 ?_
    rw [isR_iff]; simp; omega
  rw [hA]
  refine Ev.at? hb (Ev.ite (fun hc => ?_) (fun hc => Ev.at? hb (Ev.ite (fun hc2 => ?_) (fun hc2 => ?_))))
  · rw [hc]; exact Ev.pure _
  · rw [hc, hc2]; exact Ev.pure _
  · rw [hc, hc2, wid1 (by omega)]; exact h ()
theorem iAll (l : List Int) (hl : l.length = 3) : Ev (fun k => Fimpl_areAll__impl_isRealm k l 3) (l.all isR) := by
  simp only [Fimpl_areAll__impl_isRealm]
  refine Ev.for (xs := l) (L := fun k (_ : Unit) i => Fimpl_areAll__impl_isRealm.l2 k l 3 (l.length : Int) i) (f := fun l _ => l.all isR) (fun _ => by simp only [Fimpl_areAll__impl_isRealm.l2, ltD0, cond_false]; rw [decide_eq_true (by omega)]; exact Ev.pure _) (fun i b _ hb hi h => ?_) ()
  simp only [Fimpl_areAll__impl_isRealm.l2, ltD hi, cond_true, Fimpl_isRealm, iIn, Option.bind_some, List.all_cons]
  refine Ev.at? hb (Ev.ite (fun hc => ?_) (fun hc => ?_))
  · rw [show isR b = false by simpa [isR] using hc]; exact Ev.pure _
  · rw [show isR b = true by simpa [isR] using hc, wid1 (by omega)]; exact h ()
def cfgOk (c : Timpl_Config) : Bool := decide (c.UserRealm.length = 3) && (c.UserRealm.all isR && (decide (c.ServiceRealm.length = 3) && (c.ServiceRealm.all isR && (prOk linkB c.Links && (prOk proxB c.Proxy && isIn c.Skew 0 20)))))
theorem beq3 (n : Nat) : (((n : Int) == 3) = decide (n = 3)) := by
  refine Bool.eq_iff_iff.2 ?_
  simp; omega
theorem sConfigOk {c : Timpl_Config} (h : CfgSm c) : Ev (fun k => Fspec_ConfigOk k c) (cfgOk c) := by
  obtain ⟨h1, h2, h3, h4⟩ := h
  simp only [Fspec_ConfigOk, sIn, Option.bind_some, beq3]
  unfold cfgOk
  refine Ev.ite (fun hc => ?_) (fun hc => by rw [hc]; exact Ev.pure _)
  rw [hc, Bool.true_and]
  refine Ev.bind (sAll _ (of_decide_eq_true hc)) (Ev.ite (fun hc => ?_) (fun hc => by rw [hc]; exact Ev.pure _))
  rw [hc, Bool.true_and]
  refine Ev.ite (fun hc => ?_) (fun hc => by rw [hc]; exact Ev.pure _)
  rw [hc, Bool.true_and]
  refine Ev.bind (sAll _ (of_decide_eq_true hc)) (Ev.ite (fun hc => ?_) (fun hc => by rw [hc]; exact Ev.pure _))
  rw [hc, Bool.true_and]
  refine Ev.bind (sPairs _ true h3) (Ev.ite (fun hc => ?_) (fun hc => ?_))
  · rw [show prOk linkB c.Links = true from hc, Bool.true_and]
    refine Ev.bind (sPairs _ false h4) (Ev.ite (fun hc => ?_) (fun hc => ?_))
    · rw [show prOk proxB c.Proxy = true from hc, Bool.true_and]; exact Ev.pure _
    · rw [show prOk proxB c.Proxy = false from hc]; exact Ev.pure _
  · rw [show prOk linkB c.Links = false from hc]; exact Ev.pure _
theorem iConfigOk {c : Timpl_Config} (h : CfgSm c) : Ev (fun k => Fimpl_ConfigOk k c) (cfgOk c) := by
  obtain ⟨h1, h2, h3, h4⟩ := h
  simp only [Fimpl_ConfigOk, iIn, Option.bind_some, beq3]
  refine Ev.bind (iPairs1 _ h3) (Ev.bind (iPairs2 _ h4) ?_)
  unfold cfgOk
  refine Ev.ite (fun ha => Ev.ite (fun hb => ?_) (fun hb => ?_)) (fun ha => ?_)
  · rw [ha, hb, Bool.true_and, Bool.true_and]
    refine Ev.ite (fun hc => ?_) (fun hc => by rw [hc]; exact Ev.pure _)
    rw [hc, Bool.true_and]
    refine Ev.bind (iAll _ (of_decide_eq_true hc)) (Ev.ite (fun hc => ?_) (fun hc => by rw [hc]; exact Ev.pure _))
    rw [hc, Bool.true_and]
    refine Ev.ite (fun hc => ?_) (fun hc => by rw [hc]; exact Ev.pure _)
    rw [hc, Bool.true_and]
    refine Ev.bind (iAll _ (of_decide_eq_true hc)) (Ev.ite (fun hc => ?_) (fun hc => by rw [hc]; exact Ev.pure _))
    rw [hc, Bool.true_and]
    exact Ev.pure _
  · rw [hb]; simp only [Bool.false_and, Bool.and_false]; exact Ev.pure _
  · rw [ha]; simp only [Bool.false_and, Bool.and_false]; exact Ev.pure _
theorem Ev.andN {f g : Nat → Option Bool} {p q : Bool} (h : Ev f p) (h' : Ev g q) : Ev (fun k => (f k).bind fun r => cond (!r) (some false) (g k)) (p && q) := by
  refine Ev.bind h ?_
  cases p with
  | true => simpa using h'
  | false => exact Ev.pure _
theorem Ev.andY {f g : Nat → Option Bool} {p q : Bool} (h : Ev f p) (h' : Ev g q) : Ev (fun k => (f k).bind fun r => cond r (g k) (some false)) (p && q) := by
  refine Ev.bind h ?_
  cases p with
  | true => simpa using h'
  | false => exact Ev.pure _
theorem Ev.andX {f g : Nat → Option Bool} {p q : Bool} (h : Ev f p) (h' : Ev g q) : Ev (fun k => (f k).bind fun r => cond r (some false) (g k)) (!p && q) := by
  refine Ev.bind h ?_
  cases p with
  | false => simpa using h'
  | true => exact Ev.pure _
theorem Ev.andC {g : Nat → Option Bool} {c q : Bool} (h' : Ev g q) : Ev (fun k => cond c (some false) (g k)) (!c && q) := by
  cases c with
  | false => simpa using h'
  | true => exact Ev.pure _
theorem Ev.andC' {g : Nat → Option Bool} {c q : Bool} (h' : Ev g q) : Ev (fun k => cond (!c) (some false) (g k)) (c && q) := by
  cases c with
  | true => simpa using h'
  | false => exact Ev.pure _
theorem Ev.andD {g : Nat → Option Bool} {c q : Bool} (h' : Ev g q) : Ev (fun k => cond c (g k) (some false)) (c && q) := by
  cases c with
  | true => simpa using h'
  | false => exact Ev.pure _
theorem Ev.fin {f : Nat → Option Bool} {p : Bool} (h : Ev f p) : Ev (fun k => (f k).bind fun r => some r) p := Ev.bind h (Ev.pure _)
theorem Ev.allL {α : Type} {xs : List α} {L : Nat → Int → Option Bool} {p : α → Bool} {c : Bool} (h0 : Ev (fun k => L (k + 1) (xs.length : Int)) c)
    (hs : ∀ (i : Nat) (b : α) (r : Bool), xs[i]? = some b → i < xs.length → Ev (fun k => L k ((i + 1 : Nat) : Int)) r → Ev (fun k => L (k + 1) (i : Int)) (p b && r)) : Ev (fun k => L k 0) (xs.all p && c) :=
  Ev.for (xs := xs) (L := fun k (_ : Unit) i => L k i) (f := fun l _ => l.all p && c) (fun _ => by simpa using h0) (fun i b _ hb hi h => by
    rw [List.all_cons, Bool.and_assoc]
    exact hs i b _ hb hi (h ())) ()
theorem Ev.anyL {α : Type} {xs : List α} {L : Nat → Int → Option Bool} {p : α → Bool} (h0 : Ev (fun k => L (k + 1) (xs.length : Int)) false)
    (hs : ∀ (i : Nat) (b : α) (r : Bool), xs[i]? = some b → i < xs.length → Ev (fun k => L k ((i + 1 : Nat) : Int)) r → Ev (fun k => L (k + 1) (i : Int)) (p b || r)) : Ev (fun k => L k 0) (xs.any p) :=
  Ev.for (xs := xs) (L := fun k (_ : Unit) i => L k i) (f := fun l _ => l.any p) (fun _ => by simpa using h0) (fun i b _ hb hi h => by
    rw [List.any_cons]
    exact hs i b _ hb hi (h ())) ()
/-- All, each with what is ahead of it. -/
def allI {α : Type} (g : Nat → α → Bool) : Nat → List α → Bool
  | _, [] => true
  | i, x :: xs => g i x && allI g (i + 1) xs
theorem Ev.allI {α : Type} {xs : List α} {L : Nat → Int → Option Bool} {g : Nat → α → Bool} {c : Bool} (h0 : Ev (fun k => L (k + 1) (xs.length : Int)) c)
    (hs : ∀ (i : Nat) (b : α) (r : Bool), xs[i]? = some b → i < xs.length → Ev (fun k => L k ((i + 1 : Nat) : Int)) r → Ev (fun k => L (k + 1) (i : Int)) (g i b && r)) : Ev (fun k => L k 0) (M.allI g 0 xs && c) := by
  have := Ev.for (xs := xs) (L := fun k (_ : Unit) i => L k i) (f := fun l _ => M.allI g (xs.length - l.length) l && c) (fun _ => by simpa [M.allI] using h0) (fun i b _ hb hi h => by
    have e : xs.length - (b :: xs.drop (i + 1)).length = i := by simp; omega
    have e2 : xs.length - (xs.drop (i + 1)).length = i + 1 := by simp; omega
    rw [e]
    simp only [M.allI]
    rw [Bool.and_assoc]
    refine hs i b _ hb hi ?_
    have := h ()
    rwa [e2] at this) ()
  simpa using this
theorem idxAny {α : Type} {p : α → Bool} {xs : List α} : decide (firstOf p (fun j => (j : Int)) (-1) 0 xs ≥ 0) = xs.any p := by
  rcases firstOf_some (p := p) (g := fun j => (j : Int)) (e := -1) (i := 0) (xs := xs) with ⟨j, b, h1, h2, h3⟩ | ⟨h1, h2⟩
  · rw [h3, List.any_eq_true.2 ⟨b, List.mem_of_getElem? h1, h2⟩]; simp
  · rw [h2]
    have : xs.any p = false := by rw [List.any_eq_false]; intro x hx; rw [h1 x hx]; simp
    rw [this]; rfl
theorem wPrin (k : Nat) (x : Int) : Fspec_l5Principal k x = some (isIn x 0 5) := by
  unfold Fspec_l5Principal isIn
  by_cases h : x ≥ 0
  · rw [decide_eq_true h]; simp only [cond_true]
    congr 1
    exact decide_eq_decide.2 ⟨fun h' => ⟨h, by omega⟩, fun h' => by omega⟩
  · rw [decide_eq_false h]; simp only [cond_false]
    rw [decide_eq_false (by omega)]
theorem iPrin (k : Nat) (x : Int) : Fimpl_isPrincipal k x = some (isIn x 0 5) := by simp only [Fimpl_isPrincipal, iIn, Option.bind_some]
theorem iNon (k : Nat) (x : Int) : Fimpl_isNonce k x = some (isIn x 0 1000000) := by simp only [Fimpl_isNonce, iIn, Option.bind_some]
theorem iKeyI (k : Nat) (x : Int) : Fimpl_isKey k x = some (isIn x 1 1000000) := by simp only [Fimpl_isKey, iIn, Option.bind_some]
theorem iSvc (k : Nat) (x : Int) : Fimpl_isService k x = some (isIn x 0 2) := by simp only [Fimpl_isService, iIn, Option.bind_some]
theorem iRlm (k : Nat) (x : Int) : Fimpl_isRealm k x = some (isIn x 0 2) := by simp only [Fimpl_isRealm, iIn, Option.bind_some]
theorem iTim (k : Nat) (x : Int) : Fimpl_isTime k x = some (isIn x 0 100000) := by simp only [Fimpl_isTime, iIn, Option.bind_some]
def forB (x : Int) : Bool := isIn x 0 2 || isIn x 10 12
theorem condOr {a b : Bool} : (cond a (some true) (some b)) = some (a || b) := by cases a <;> rfl
theorem sFor (k : Nat) (x : Int) : Fspec_l5Service k x = some (forB x) := by simp only [Fspec_l5Service, sIn, Option.bind_some, condOr, forB]
def i64 (x : Int) : Prop := -9223372036854775808 ≤ x ∧ x ≤ 9223372036854775807
theorem iFor (k : Nat) {x : Int} (h : i64 x) : Fimpl_isFor k x = some (forB x) := by
  simp only [Fimpl_isFor, iSvc, iRlm, Option.bind_some, condOr, forB]
  congr 1
  unfold i64 at h
  have : isIn (IntKind.i64.wrap (x - 10)) 0 2 = isIn x 10 12 := by
    by_cases h2 : x - 10 < -9223372036854775808
    · have e : IntKind.i64.wrap (x - 10) = x - 10 + 18446744073709551616 := by
        unfold IntKind.wrap
        simp [IntKind.signed, IntKind.bits]
        omega
      rw [e]; unfold isIn
      rw [decide_eq_false (by omega), decide_eq_false (by omega)]
    · rw [wid (by omega) (by omega)]; unfold isIn
      exact decide_eq_decide.2 (by omega)
  rw [this]
def waitB (x : Timpl_Wait) : Bool := cond (!x.On) ((x.On == false) && ((x.Nonce == (0 : Int)) && ((x.Key == (0 : Int)) && ((x.Client == (0 : Int)) && true)))) (isIn x.Nonce 0 1000000 && (isIn x.Key 1 1000000 && isIn x.Client 0 5))
theorem condF' {a b : Bool} : cond a (some b) (some false) = some (a && b) := by cases a <;> rfl
theorem condB {a b : Bool} : cond a b false = (a && b) := by cases a <;> rfl
theorem condS {α : Type} {a : Bool} {b c : α} : cond a (some b) (some c) = some (cond a b c) := by cases a <;> rfl
theorem sWait (k : Nat) (x : Timpl_Wait) : Fspec_l10WaitOk k x = some (waitB x) := by simp only [Fspec_l10WaitOk, sIn, wPrin, Option.bind_some, condS, waitB, condB]
theorem iWait (k : Nat) (x : Timpl_Wait) : Fimpl_waitOk k x = some (waitB x) := by simp only [Fimpl_waitOk, iNon, iKeyI, iPrin, Option.bind_some, condS, waitB, condB]
def restB (x : Timpl_Rest) : Bool := isIn x.Servers 0 7 && (isIn x.Ops 0 255 && isIn x.End 0 100000)
theorem sRest (k : Nat) (x : Timpl_Rest) : Fspec_RestOk k x = some (restB x) := by simp only [Fspec_RestOk, sIn, Option.bind_some, condF', restB]
theorem iRest (k : Nat) (x : Timpl_Rest) : Fimpl_RestOk k x = some (restB x) := by simp only [Fimpl_RestOk, iIn, iTim, Option.bind_some, condF', restB]
def credB (x : Timpl_Cred) : Bool := isIn x.Owner 0 5 && (isIn x.Client 0 5 && (forB x.Service && (isIn x.Key 1 1000000 && (restB x.Rest && tmOk x.Ticket))))
theorem sCred {x : Timpl_Cred} (h : x.Ticket.length ≤ 1048576) : Ev (fun k => Fspec_CredOk k x) (credB x) := by
  simp only [Fspec_CredOk, wPrin, sFor, sIn, sRest, Option.bind_some]
  exact Ev.andD (Ev.andD (Ev.andD (Ev.andD (Ev.andD (Ev.fin (sTermOk _ h))))))
theorem iCred {x : Timpl_Cred} (h : x.Ticket.length ≤ 1048576) (h2 : i64 x.Service) : Ev (fun k => Fimpl_CredOk k x) (credB x) := by
  simp only [Fimpl_CredOk, iPrin, iFor _ h2, iKeyI, iRest, Option.bind_some]
  exact Ev.andD (Ev.andD (Ev.andD (Ev.andD (Ev.andD (Ev.fin (iTermOk _ h))))))
def authB (x : Timpl_Auth) : Bool := isIn x.Client 0 5 && (isIn x.Time 0 100000 && isIn x.Seq 0 1000000)
theorem sAuth (k : Nat) (x : Timpl_Auth) : Fspec_l5AuthOk k x = some (authB x) := by simp only [Fspec_l5AuthOk, sIn, wPrin, Option.bind_some, condF', authB]
theorem iAuth (k : Nat) (x : Timpl_Auth) : Fimpl_authOk k x = some (authB x) := by simp only [Fimpl_authOk, iIn, iPrin, iTim, Option.bind_some, condF', authB]
def sameA (b x : Timpl_Auth) : Bool := (b.Client == x.Client) && ((b.Time == x.Time) && ((b.Seq == x.Seq) && true))
theorem sameA_iff {b x : Timpl_Auth} : sameA b x = true ↔ b = x := by
  obtain ⟨b1, b2, b3⟩ := b
  obtain ⟨x1, x2, x3⟩ := x
  simp [sameA]
theorem sameA_comm {b x : Timpl_Auth} : sameA b x = sameA x b := by
  rw [Bool.eq_iff_iff, sameA_iff, sameA_iff]; exact eq_comm
theorem sSaw {l : List Timpl_Auth} (x : Timpl_Auth) (hl : l.length ≤ 1048576) : Ev (fun k => Fspec_l7Saw k l x) (l.any fun b => sameA b x) := by
  simp only [Fspec_l7Saw]
  refine Ev.anyL (xs := l) (L := fun k i => Fspec_l7Saw.l2 k l i x) (by simp only [Fspec_l7Saw.l2, ltD0, cond_false]; exact Ev.pure _) (fun i b r hb hi hr => ?_)
  simp only [Fspec_l7Saw.l2, ltD hi, cond_true]
  refine Ev.at? hb ?_
  rw [wid1 (by omega)]
  refine Ev.ite (fun hc => ?_) (fun hc => ?_)
  · have : sameA b x = true := hc
    rw [this]; exact Ev.pure _
  · have : sameA b x = false := hc
    rw [this]; simpa using hr
theorem iSaw {l : List Timpl_Auth} (x : Timpl_Auth) (hl : l.length ≤ 1048576) : Ev (fun k => Fslices_Contains_Auth k l x) (l.any fun b => sameA b x) := by
  simp only [Fslices_Contains_Auth, Fslices_Index_Auth]
  rw [← idxAny]
  refine Ev.bind ?_ (Ev.pure _)
  refine Ev.find (xs := l) (L := fun k i => Fslices_Index_Auth.l2 k l (l.length : Int) i x) (by simp only [Fslices_Index_Auth.l2, ltD0, cond_false]; exact Ev.pure _) (fun i b r hb hi h1 h2 => ?_)
  simp only [Fslices_Index_Auth.l2, ltD hi, cond_true]
  refine Ev.at? hb ?_
  rw [wid1 (by omega)]
  refine Ev.ite (fun hc => ?_) (fun hc => ?_)
  · have : sameA x b = true := hc
    rw [h1 (by rw [sameA_comm]; exact this)]; exact Ev.pure _
  · have : sameA x b = false := hc
    exact h2 (by rw [sameA_comm]; exact this)
def cacheB (c : Timpl_Cache) : Bool := allI (fun i x => authB x && !((c.Seen.take i).any fun b => sameA b x)) 0 c.Seen && (isIn c.Quiet (-1) 200000 && decide (c.Seen.length ≤ 6))
theorem sCache {c : Timpl_Cache} (h : c.Seen.length ≤ 1048576) : Ev (fun k => Fspec_CacheOk k c) (cacheB c) := by
  simp only [Fspec_CacheOk, sIn, Option.bind_some]
  refine (Ev.andC (Ev.andC (Ev.allI (xs := c.Seen) (L := fun k i => Fspec_CacheOk.l2 k i c) (c := true) (g := fun i x => authB x && !((c.Seen.take i).any fun b => sameA b x)) (by simp only [Fspec_CacheOk.l2, ltD0, cond_false]; exact Ev.pure _) (fun i b r hb hi hr => ?_)))).to ?_
  · simp only [Fspec_CacheOk.l2, ltD hi, cond_true, partI (Nat.le_of_lt hi), sAuth, Option.bind_some]
    refine Ev.at? hb ?_
    rw [wid1 (by omega), Bool.and_assoc]
    refine Ev.andC' (Ev.at? hb (Ev.andX (sSaw b (by rw [List.length_take]; omega)) hr))
  · unfold cacheB
    have e : (!decide ((c.Seen.length : Int) > 6)) = decide (c.Seen.length ≤ 6) := by rw [← decide_not]; exact decide_eq_decide.2 (by omega)
    rw [e]
    simp only [Bool.not_not, Bool.and_true]
    ac_rfl
theorem iCache {c : Timpl_Cache} (h : c.Seen.length ≤ 1048576) : Ev (fun k => Fimpl_CacheOk k c) (cacheB c) := by
  simp only [Fimpl_CacheOk]
  refine Ev.allI (xs := c.Seen) (L := fun k i => Fimpl_CacheOk.l2 k c (c.Seen.length : Int) i) (g := fun i x => authB x && !((c.Seen.take i).any fun b => sameA b x)) ?_ (fun i b r hb hi hr => ?_)
  · simp only [Fimpl_CacheOk.l2, ltD0, cond_false, iIn, Option.bind_some, condF']
    refine (Ev.pure _).to ?_
    congr 1; exact decide_eq_decide.2 (by omega)
  · simp only [Fimpl_CacheOk.l2, ltD hi, cond_true, partI (Nat.le_of_lt hi), iAuth, Option.bind_some]
    refine Ev.at? hb ?_
    rw [wid1 (by omega), Bool.and_assoc]
    refine Ev.andC' (Ev.andX (iSaw b (by rw [List.length_take]; omega)) hr)
def inT (l : List (List UInt8)) (x : List UInt8) : Bool := l.any fun b => b == x
theorem sInT {l : List (List UInt8)} (x : List UInt8) (hl : l.length ≤ 1048576) : Ev (fun k => Fspec_l3In k l x) (inT l x) := by
  simp only [Fspec_l3In, inT]
  refine Ev.anyL (xs := l) (L := fun k i => Fspec_l3In.l2 k l x i) (by simp only [Fspec_l3In.l2, ltD0, cond_false]; exact Ev.pure _) (fun i b r hb hi hr => ?_)
  simp only [Fspec_l3In.l2, ltD hi, cond_true]
  refine Ev.at? hb ?_
  rw [wid1 (by omega)]
  refine Ev.ite (fun hc => ?_) (fun hc => ?_)
  · rw [hc]; exact Ev.pure _
  · rw [hc]; simpa using hr
theorem iInT {l : List (List UInt8)} (x : List UInt8) (hl : l.length ≤ 1048576) : Ev (fun k => Fslices_Contains_string k l x) (inT l x) := by
  simp only [Fslices_Contains_string, Fslices_Index_string, inT]
  rw [← idxAny]
  refine Ev.bind ?_ (Ev.pure _)
  refine Ev.find (xs := l) (L := fun k i => Fslices_Index_string.l2 k l x (l.length : Int) i) (by simp only [Fslices_Index_string.l2, ltD0, cond_false]; exact Ev.pure _) (fun i b r hb hi h1 h2 => ?_)
  simp only [Fslices_Index_string.l2, ltD hi, cond_true]
  refine Ev.at? hb ?_
  rw [wid1 (by omega)]
  refine Ev.ite (fun hc => ?_) (fun hc => ?_)
  · rw [h1 (by rw [eq_of_beq hc]; exact beq_self_eq_true b)]; exact Ev.pure _
  · exact h2 (by
      rw [beq_eq_false_iff_ne] at hc ⊢
      exact fun e => hc e.symm)
/-- Numbers that rise. -/
def rB : List Int → Bool
  | [] => true
  | [_] => true
  | a :: b :: l => decide (a < b) && rB (b :: l)
theorem drop_two {l : List Int} {i : Nat} {a b : Int} (h1 : l[i - 1]? = some a) (h2 : l[i]? = some b) (hi : 0 < i) : l.drop (i - 1) = a :: b :: l.drop (i + 1) ∧ l.drop i = b :: l.drop (i + 1) := by
  obtain ⟨g1, e1⟩ := List.getElem?_eq_some_iff.1 h1
  obtain ⟨g2, e2⟩ := List.getElem?_eq_some_iff.1 h2
  have hb : l.drop i = b :: l.drop (i + 1) := by rw [List.drop_eq_getElem_cons g2, e2]
  refine ⟨?_, hb⟩
  rw [List.drop_eq_getElem_cons g1, e1, show i - 1 + 1 = i by omega, hb]
theorem iRises {l : List Int} (hl : l.length ≤ 1048576) : Ev (fun k => Fimpl_rises k l) (rB l) := by
  simp only [Fimpl_rises]
  have key : ∀ (m i : Nat), i + m = max l.length 1 → 0 < i → Ev (fun k => Fimpl_rises.l2 k l (i : Int)) (rB (l.drop (i - 1))) := by
    intro m
    induction m with
    | zero =>
      intro i hi h0
      refine Ev.succ ?_
      simp only [Fimpl_rises.l2]
      rw [decide_eq_false (by omega)]
      refine (Ev.pure _).to ?_
      have : (l.drop (i - 1)).length ≤ 1 := by rw [List.length_drop]; omega
      match l.drop (i - 1), this with
      | [], _ => rfl
      | [_], _ => rfl
    | succ m ih =>
      intro i hi h0
      obtain ⟨b, hb⟩ := atLt (xs := l) (i := i) (by omega)
      obtain ⟨a, ha⟩ := atLt (xs := l) (i := i - 1) (by omega)
      obtain ⟨e1, e2⟩ := drop_two ha hb h0
      refine Ev.succ ?_
      simp only [Fimpl_rises.l2]
      rw [decide_eq_true (by omega), show IntKind.i64.wrap ((i : Int) - 1) = ((i - 1 : Nat) : Int) by rw [wid (by omega) (by omega)]; omega, wid1 (by omega), e1]
      simp only [cond_true, rB]
      refine Ev.at? ha (Ev.at? hb ?_)
      have := ih (i + 1) (by omega) (by omega)
      rw [show i + 1 - 1 = i by omega, e2] at this
      refine (Ev.andC this).to ?_
      congr 1
      rw [← decide_not]; exact decide_eq_decide.2 (by omega)
  exact key (max l.length 1 - 1) 1 (by omega) (by omega)
def knownB (c : Timpl_Known) : Bool := allI (fun i x => tmOk x && !inT (c.Terms.take i) x) 0 c.Terms && (c.Keys.all (fun x => isIn x 1 1000000) && (decide (c.Terms.length ≤ 60) && (decide (c.Keys.length ≤ 40) && rB c.Keys)))
def KnSm (c : Timpl_Known) : Prop := c.Terms.length ≤ 1048576 ∧ c.Keys.length ≤ 1048576 ∧ ∀ x ∈ c.Terms, x.length ≤ 1048576
theorem iKnown {c : Timpl_Known} (h : KnSm c) : Ev (fun k => Fimpl_KnownOk k c) (knownB c) := by
  obtain ⟨h1, h2, h3⟩ := h
  simp only [Fimpl_KnownOk]
  refine Ev.allI (xs := c.Terms) (L := fun k i => Fimpl_KnownOk.l2 k c (c.Terms.length : Int) i) (g := fun i x => tmOk x && !inT (c.Terms.take i) x) ?_ (fun i b r hb hi hr => ?_)
  · simp only [Fimpl_KnownOk.l2, ltD0, cond_false]
    refine Ev.allL (xs := c.Keys) (L := fun k i => Fimpl_KnownOk.l4 k c (c.Keys.length : Int) i) ?_ (fun i b r hb hi hr => ?_)
    · simp only [Fimpl_KnownOk.l4, ltD0, cond_false]
      refine (Ev.andD (Ev.andD (Ev.fin (iRises h2)))).to ?_
      congr 1
      · exact decide_eq_decide.2 (by omega)
      · congr 1; exact decide_eq_decide.2 (by omega)
    · simp only [Fimpl_KnownOk.l4, ltD hi, cond_true, iKeyI, Option.bind_some]
      refine Ev.at? hb ?_
      rw [wid1 (by omega)]
      exact Ev.andC' hr
  · simp only [Fimpl_KnownOk.l2, ltD hi, cond_true, partI (Nat.le_of_lt hi), Option.bind_some]
    refine Ev.at? hb ?_
    rw [wid1 (by omega), Bool.and_assoc]
    exact Ev.andN (iTermOk b (h3 b (List.mem_of_getElem? hb))) (Ev.andX (iInT b (by rw [List.length_take]; omega)) hr)
theorem sKeysL {c : Timpl_Known} (h2 : c.Keys.length ≤ 1048576) : Ev (fun k => Fspec_KnownOk.l9 k 0 c) (c.Keys.all (fun x => isIn x 1 1000000) && rB c.Keys) := by
  have key : ∀ (m i : Nat), i + m = c.Keys.length → Ev (fun k => Fspec_KnownOk.l9 k (i : Int) c) ((c.Keys.drop i).all (fun x => isIn x 1 1000000) && rB (c.Keys.drop (i - 1))) := by
    intro m
    induction m with
    | zero =>
      intro i hi
      refine Ev.succ ?_
      simp only [Fspec_KnownOk.l9]
      rw [decide_eq_false (by omega), List.drop_of_length_le (by omega)]
      refine (Ev.pure _).to ?_
      have : (c.Keys.drop (i - 1)).length ≤ 1 := by rw [List.length_drop]; omega
      match c.Keys.drop (i - 1), this with
      | [], _ => rfl
      | [_], _ => rfl
    | succ m ih =>
      intro i hi
      obtain ⟨b, hb⟩ := atLt (xs := c.Keys) (i := i) (by omega)
      have hd : c.Keys.drop i = b :: c.Keys.drop (i + 1) := by
        obtain ⟨g1, g2⟩ := List.getElem?_eq_some_iff.1 hb
        rw [List.drop_eq_getElem_cons g1, g2]
      have hn := ih (i + 1) (by omega)
      rw [show i + 1 - 1 = i by omega] at hn
      refine Ev.succ ?_
      simp only [Fspec_KnownOk.l9, Fspec_KnownOk.j10, sIn, Option.bind_some]
      rw [decide_eq_true (by omega), wid1 (by omega)]
      simp only [cond_true]
      refine Ev.at? hb ?_
      by_cases h0 : 0 < i
      · obtain ⟨a, ha⟩ := atLt (xs := c.Keys) (i := i - 1) (by omega)
        obtain ⟨e1, e2⟩ := drop_two ha hb h0
        rw [decide_eq_true (by omega), show IntKind.i64.wrap ((i : Int) - 1) = ((i - 1 : Nat) : Int) by rw [wid (by omega) (by omega)]; omega]
        simp only [cond_true]
        refine (Ev.andC' (Ev.at? ha (Ev.at? hb (Ev.andC hn)))).to ?_
        rw [e1, e2]
        simp only [rB, List.all_cons]
        have e : (!decide (a ≥ b)) = decide (a < b) := by rw [← decide_not]; exact decide_eq_decide.2 (by omega)
        rw [e]
        ac_rfl
      · have : i = 0 := by omega
        subst this
        rw [decide_eq_false (by omega)]
        simp only [cond_false]
        refine (Ev.andC' hn).to ?_
        rw [hd]
        simp only [List.all_cons, Nat.zero_sub]
        rw [Bool.and_assoc, ← hd]
  exact (key c.Keys.length 0 (by omega)).to (by simp)
theorem sKnown {c : Timpl_Known} (h : KnSm c) : Ev (fun k => Fspec_KnownOk k c) (knownB c) := by
  obtain ⟨h1, h2, h3⟩ := h
  simp only [Fspec_KnownOk]
  refine (Ev.andC (Ev.andC (Ev.allI (xs := c.Terms) (L := fun k i => Fspec_KnownOk.l2 k i c) (c := c.Keys.all (fun x => isIn x 1 1000000) && rB c.Keys) (g := fun i x => tmOk x && !inT (c.Terms.take i) x) ?_ (fun i b r hb hi hr => ?_)))).to ?_
  · simp only [Fspec_KnownOk.l2, ltD0, cond_false]
    exact sKeysL h2
  · simp only [Fspec_KnownOk.l2, ltD hi, cond_true, partI (Nat.le_of_lt hi), Option.bind_some]
    refine Ev.at? hb ?_
    rw [wid1 (by omega), Bool.and_assoc]
    exact Ev.andN (sTermOk b (h3 b (List.mem_of_getElem? hb))) (Ev.at? hb (Ev.andX (sInT b (by rw [List.length_take]; omega)) hr))
  · unfold knownB
    have e1 : (!decide ((c.Terms.length : Int) > 60)) = decide (c.Terms.length ≤ 60) := by rw [← decide_not]; exact decide_eq_decide.2 (by omega)
    have e2 : (!decide ((c.Keys.length : Int) > 40)) = decide (c.Keys.length ≤ 40) := by rw [← decide_not]; exact decide_eq_decide.2 (by omega)
    rw [e1, e2]
    ac_rfl
def allB (l : List Int) (m : Nat) : Bool := l.all (fun x => isIn x 0 2) && decide (l.length ≤ m)
theorem sAll3 {l : List Int} (m : Nat) (hl : l.length ≤ 1048576) : Ev (fun k => Fspec_l5All k l (m : Int) 3) (allB l m) := by
  simp only [Fspec_l5All]
  refine (Ev.andC (Ev.allL (xs := l) (L := fun k i => Fspec_l5All.l2 k l 3 i) (p := fun x => isIn x 0 2) (c := true) (by simp only [Fspec_l5All.l2, ltD0, cond_false]; exact Ev.pure _) (fun i b r hb hi hr => ?_))).to ?_
  · simp only [Fspec_l5All.l2, ltD hi, cond_true]
    rw [wid1 (by omega)]
    refine (Ev.at? hb (Ev.andC (Ev.at? hb (Ev.andC hr)))).to ?_
    rw [← Bool.and_assoc]
    congr 1
    rw [← decide_not, ← decide_not, ← Bool.decide_and]
    exact decide_eq_decide.2 (by omega)
  · unfold allB
    have e : (!decide ((l.length : Int) > (m : Int))) = decide (l.length ≤ m) := by rw [← decide_not]; exact decide_eq_decide.2 (by omega)
    rw [e, Bool.and_true, Bool.and_comm]
theorem iAllR {l : List Int} (m : Nat) (hl : l.length ≤ 1048576) : Ev (fun k => Fimpl_areAll__impl_isRealm k l (m : Int)) (allB l m) := by
  simp only [Fimpl_areAll__impl_isRealm, allB]
  refine Ev.allL (xs := l) (L := fun k i => Fimpl_areAll__impl_isRealm.l2 k l (m : Int) (l.length : Int) i) (by
    simp only [Fimpl_areAll__impl_isRealm.l2, ltD0, cond_false]
    refine (Ev.pure _).to (decide_eq_decide.2 (by omega))) (fun i b r hb hi hr => ?_)
  simp only [Fimpl_areAll__impl_isRealm.l2, ltD hi, cond_true, iRlm, Option.bind_some]
  rw [wid1 (by omega)]
  exact Ev.at? hb (Ev.andC' hr)
theorem iAllS {l : List Int} (m : Nat) (hl : l.length ≤ 1048576) : Ev (fun k => Fimpl_areAll__impl_isService k l (m : Int)) (allB l m) := by
  simp only [Fimpl_areAll__impl_isService, allB]
  refine Ev.allL (xs := l) (L := fun k i => Fimpl_areAll__impl_isService.l2 k l (m : Int) (l.length : Int) i) (by
    simp only [Fimpl_areAll__impl_isService.l2, ltD0, cond_false]
    refine (Ev.pure _).to (decide_eq_decide.2 (by omega))) (fun i b r hb hi hr => ?_)
  simp only [Fimpl_areAll__impl_isService.l2, ltD hi, cond_true, iSvc, Option.bind_some]
  rw [wid1 (by omega)]
  exact Ev.at? hb (Ev.andC' hr)
def accB (n : Nat) (a : Timpl_Accept) : Bool := isIn a.Server 0 2 && (isIn a.Client 0 5 && (isIn a.Leaks 0 n && (allB a.Path 6 && allB a.Via 4)))
theorem iAcc {a : Timpl_Accept} (n : Nat) (h1 : a.Path.length ≤ 1048576) (h2 : a.Via.length ≤ 1048576) : Ev (fun k => Fimpl_acceptOk k a (n : Int)) (accB n a) := by
  simp only [Fimpl_acceptOk, iSvc, iPrin, iIn, Option.bind_some]
  exact Ev.andD (Ev.andD (Ev.andD (Ev.andY (iAllR 6 h1) (Ev.fin (iAllS 4 h2)))))
structure WkSm (w : Timpl_World) : Prop where
  cfg : CfgSm w.Config
  net : w.Net.length ≤ 1048576 ∧ ∀ x ∈ w.Net, x.length ≤ 1048576
  known : KnSm w.Known
  waits : w.Waits.length ≤ 1048576
  creds : w.Creds.length ≤ 1048576 ∧ ∀ x ∈ w.Creds, x.Ticket.length ≤ 1048576 ∧ i64 x.Service
  caches : w.Caches.length ≤ 1048576 ∧ ∀ x ∈ w.Caches, x.Seen.length ≤ 1048576
  accepts : w.Accepts.length ≤ 1048576 ∧ ∀ x ∈ w.Accepts, x.Path.length ≤ 1048576 ∧ x.Via.length ≤ 1048576
def lensB (w : Timpl_World) : Bool := decide (w.Waits.length = 6) && (decide (w.Creds.length ≤ 30) && (decide (w.Caches.length = 3) && (decide (w.Log.length ≤ 40) && (decide (w.Accepts.length ≤ 40) && decide (w.Leaked.length ≤ 40)))))
def worldB (w : Timpl_World) : Bool := w.Waits.all waitB && (w.Creds.all credB && (w.Caches.all cacheB && (w.Accepts.all (accB w.Leaked.length) && (w.Net.all tmOk && (decide (w.Net.length ≤ 50) && (cfgOk w.Config && (isIn w.Now 0 100000 && (isIn w.Fresh 101 1000000 && (knownB w.Known && lensB w)))))))))
theorem iNetL {l : List (List UInt8)} (h : l.length ≤ 1048576) (h2 : ∀ x ∈ l, x.length ≤ 1048576) : Ev (fun k => Fslices_ContainsFunc_string__impl_WorldOk_1 k l) (!l.all tmOk) := by
  simp only [Fslices_ContainsFunc_string__impl_WorldOk_1, Fslices_IndexFunc_string__impl_WorldOk_1]
  have e : (!l.all tmOk) = l.any fun x => !tmOk x := by
    rw [List.all_eq_not_any_not]; simp
  rw [e, ← idxAny]
  refine Ev.bind ?_ (Ev.pure _)
  refine Ev.find (xs := l) (L := fun k i => Fslices_IndexFunc_string__impl_WorldOk_1.l2 k l (l.length : Int) i) (by simp only [Fslices_IndexFunc_string__impl_WorldOk_1.l2, ltD0, cond_false]; exact Ev.pure _) (fun i b r hb hi g1 g2 => ?_)
  simp only [Fslices_IndexFunc_string__impl_WorldOk_1.l2, ltD hi, cond_true, Fimpl_WorldOk_1]
  refine Ev.at? hb (Ev.bind (Ev.bind (iTermOk b (h2 b (List.mem_of_getElem? hb))) (Ev.pure _)) ?_)
  rw [wid1 (by omega)]
  refine Ev.ite (fun hc => ?_) (fun hc => ?_)
  · rw [g1 hc]; exact Ev.pure _
  · exact g2 hc
theorem iWorld {w : Timpl_World} (h : WkSm w) : Ev (fun k => Fimpl_WorldOk k w) (worldB w) := by
  obtain ⟨s1, s2, s3, s4, s5, s6, s7⟩ := h
  simp only [Fimpl_WorldOk, worldB]
  refine Ev.allL (xs := w.Waits) (L := fun k i => Fimpl_WorldOk.l2 k w (w.Waits.length : Int) i) ?_ (fun i b r hb hi hr => ?_)
  rotate_left
  · simp only [Fimpl_WorldOk.l2, ltD hi, cond_true, iWait, Option.bind_some]
    rw [wid1 (by omega)]
    exact Ev.at? hb (Ev.andC' hr)
  simp only [Fimpl_WorldOk.l2, ltD0, cond_false]
  refine Ev.allL (xs := w.Creds) (L := fun k i => Fimpl_WorldOk.l4 k w (w.Creds.length : Int) i) ?_ (fun i b r hb hi hr => ?_)
  rotate_left
  · simp only [Fimpl_WorldOk.l4, ltD hi, cond_true]
    rw [wid1 (by omega)]
    have hx := s5.2 b (List.mem_of_getElem? hb)
    exact Ev.at? hb (Ev.andN (iCred hx.1 hx.2) hr)
  simp only [Fimpl_WorldOk.l4, ltD0, cond_false]
  refine Ev.allL (xs := w.Caches) (L := fun k i => Fimpl_WorldOk.l6 k w (w.Caches.length : Int) i) ?_ (fun i b r hb hi hr => ?_)
  rotate_left
  · simp only [Fimpl_WorldOk.l6, ltD hi, cond_true]
    rw [wid1 (by omega)]
    exact Ev.at? hb (Ev.andN (iCache (s6.2 b (List.mem_of_getElem? hb))) hr)
  simp only [Fimpl_WorldOk.l6, ltD0, cond_false]
  refine Ev.allL (xs := w.Accepts) (L := fun k i => Fimpl_WorldOk.l8 k w (w.Accepts.length : Int) i) ?_ (fun i b r hb hi hr => ?_)
  rotate_left
  · simp only [Fimpl_WorldOk.l8, ltD hi, cond_true]
    rw [wid1 (by omega)]
    have hx := s7.2 b (List.mem_of_getElem? hb)
    exact Ev.at? hb (Ev.andN (iAcc _ hx.1 hx.2) hr)
  simp only [Fimpl_WorldOk.l8, ltD0, cond_false, iTim, iIn, Option.bind_some]
  refine (Ev.andX (iNetL s2.1 s2.2) (Ev.andC (Ev.andY (iConfigOk s1) (Ev.andD (Ev.andD (Ev.andY (iKnown s3) (Ev.andD (Ev.andD (Ev.andD (Ev.andD (Ev.andD (Ev.pure _)))))))))))).to ?_
  have e1 : (!decide ((w.Net.length : Int) > 50)) = decide (w.Net.length ≤ 50) := by rw [← decide_not]; exact decide_eq_decide.2 (by omega)
  rw [Bool.not_not, e1]
  unfold lensB
  have e2 : ((w.Waits.length : Int) == 6) = decide (w.Waits.length = 6) := by rw [Bool.eq_iff_iff]; simp; omega
  have e3 : ((w.Caches.length : Int) == 3) = decide (w.Caches.length = 3) := by rw [Bool.eq_iff_iff]; simp; omega
  rw [e2, e3]
  have e4 : ∀ (n m : Nat), decide ((n : Int) ≤ (m : Int)) = decide (n ≤ m) := fun n m => decide_eq_decide.2 (by omega)
  rw [← e4 w.Creds.length 30, ← e4 w.Log.length 40, ← e4 w.Accepts.length 40, ← e4 w.Leaked.length 40]
  rfl
theorem sWorld {w : Timpl_World} (h : WkSm w) : Ev (fun k => Fspec_WorldOk k w) (worldB w) := by
  obtain ⟨s1, s2, s3, s4, s5, s6, s7⟩ := h
  have l10 : Ev (fun k => Fspec_WorldOk.l10 k 0 w) (w.Accepts.all (accB w.Leaked.length) && true) := by
    refine Ev.allL (xs := w.Accepts) (L := fun k i => Fspec_WorldOk.l10 k i w) (by simp only [Fspec_WorldOk.l10, ltD0, cond_false]; exact Ev.pure _) (fun i b r hb hi hr => ?_)
    simp only [Fspec_WorldOk.l10, ltD hi, cond_true, sIn, wPrin, Option.bind_some]
    rw [wid1 (by omega)]
    have hx := s7.2 b (List.mem_of_getElem? hb)
    refine (Ev.at? hb (Ev.andC' (Ev.andC' (Ev.andC' (Ev.andN (sAll3 6 hx.1) (Ev.andN (sAll3 4 hx.2) hr)))))).to ?_
    unfold accB; ac_rfl
  have l8 : Ev (fun k => Fspec_WorldOk.l8 k 0 w) (w.Caches.all cacheB && (w.Accepts.all (accB w.Leaked.length) && true)) := by
    refine Ev.allL (xs := w.Caches) (L := fun k i => Fspec_WorldOk.l8 k i w) (by simp only [Fspec_WorldOk.l8, ltD0, cond_false]; exact l10) (fun i b r hb hi hr => ?_)
    simp only [Fspec_WorldOk.l8, ltD hi, cond_true]
    rw [wid1 (by omega)]
    exact Ev.at? hb (Ev.andN (sCache (s6.2 b (List.mem_of_getElem? hb))) hr)
  have l6 : Ev (fun k => Fspec_WorldOk.l6 k 0 w) (w.Creds.all credB && (w.Caches.all cacheB && (w.Accepts.all (accB w.Leaked.length) && true))) := by
    refine Ev.allL (xs := w.Creds) (L := fun k i => Fspec_WorldOk.l6 k i w) (by simp only [Fspec_WorldOk.l6, ltD0, cond_false]; exact l8) (fun i b r hb hi hr => ?_)
    simp only [Fspec_WorldOk.l6, ltD hi, cond_true]
    rw [wid1 (by omega)]
    exact Ev.at? hb (Ev.andN (sCred (s5.2 b (List.mem_of_getElem? hb)).1) hr)
  have l4 : Ev (fun k => Fspec_WorldOk.l4 k 0 w) (w.Waits.all waitB && (w.Creds.all credB && (w.Caches.all cacheB && (w.Accepts.all (accB w.Leaked.length) && true)))) := by
    refine Ev.allL (xs := w.Waits) (L := fun k i => Fspec_WorldOk.l4 k i w) (by simp only [Fspec_WorldOk.l4, ltD0, cond_false]; exact l6) (fun i b r hb hi hr => ?_)
    simp only [Fspec_WorldOk.l4, ltD hi, cond_true, sWait, Option.bind_some]
    rw [wid1 (by omega)]
    exact Ev.at? hb (Ev.andC' hr)
  have l2 : Ev (fun k => Fspec_WorldOk.l2 k 0 w) (w.Net.all tmOk && (w.Waits.all waitB && (w.Creds.all credB && (w.Caches.all cacheB && (w.Accepts.all (accB w.Leaked.length) && true))))) := by
    refine Ev.allL (xs := w.Net) (L := fun k i => Fspec_WorldOk.l2 k i w) (by simp only [Fspec_WorldOk.l2, ltD0, cond_false]; exact l4) (fun i b r hb hi hr => ?_)
    simp only [Fspec_WorldOk.l2, ltD hi, cond_true]
    rw [wid1 (by omega)]
    exact Ev.at? hb (Ev.andN (sTermOk b (s2.2 b (List.mem_of_getElem? hb))) hr)
  simp only [Fspec_WorldOk, sIn, Option.bind_some]
  refine (Ev.andN (sConfigOk s1) (Ev.andC' (Ev.andC' (Ev.andC (Ev.andN (sKnown s3) (Ev.andC (Ev.andC (Ev.andC (Ev.andC (Ev.andC (Ev.andC l2))))))))))).to ?_
  unfold worldB lensB
  have e1 : ∀ (n m : Nat), (!decide ((n : Int) > (m : Int))) = decide (n ≤ m) := fun n m => by rw [← decide_not]; exact decide_eq_decide.2 (by omega)
  have e2 : (!((w.Waits.length : Int) != 6)) = decide (w.Waits.length = 6) := by rw [Bool.eq_iff_iff]; simp; omega
  have e3 : (!((w.Caches.length : Int) != 3)) = decide (w.Caches.length = 3) := by rw [Bool.eq_iff_iff]; simp; omega
  rw [← e1 w.Net.length 50, ← e1 w.Creds.length 30, ← e1 w.Log.length 40, ← e1 w.Accepts.length 40, ← e1 w.Leaked.length 40, ← e2, ← e3, Bool.and_true]
  ac_rfl
theorem szIntS_ev (a : List Int) (w : (Go.MG.wfR Go.MG.wfI) a) (n : Int) (hn : 0 ≤ n) (hb : n ≤ 1048576) : EvP (fun k => Flaws_szIntS k a n) (fun r => r < 0 ∨ (0 ≤ r ∧ r ≤ n ∧ (a.length ≤ 1048576))) := by
  simp only [Flaws_szIntS]
  have hw := w.1; unfold big at hw
  rw [wid (n := n - (a.length : Int)) (by omega) (by omega)]
  refine EvP.ite (fun _ => EvP.pure (.inl (by decide))) (fun hc => ?_)
  have hc : ¬ n - (a.length : Int) < 0 := by simpa using hc
  exact EvP.pure (.inr ⟨by omega, by omega, by omega⟩)
def cvPair (a : Tlaws_Pair) : Timpl_Pair := ⟨a.A, a.B⟩
def smPair (a : Tlaws_Pair) : Prop := True
theorem szPairS_ev (a : List Tlaws_Pair) (w : (Go.MG.wfR wfTlaws_Pair) a) (n : Int) (hn : 0 ≤ n) (hb : n ≤ 1048576) : EvP (fun k => Flaws_szPairS k a n) (fun r => r < 0 ∨ (0 ≤ r ∧ r ≤ n ∧ (a.length ≤ 1048576))) := by
  simp only [Flaws_szPairS]
  have hw := w.1; unfold big at hw
  rw [wid (n := n - (a.length : Int)) (by omega) (by omega)]
  refine EvP.ite (fun _ => EvP.pure (.inl (by decide))) (fun hc => ?_)
  have hc : ¬ n - (a.length : Int) < 0 := by simpa using hc
  exact EvP.pure (.inr ⟨by omega, by omega, by omega⟩)
def cvConfig (a : Tlaws_Config) : Timpl_Config := ⟨a.UserRealm, a.ServiceRealm, (a.Links.map cvPair), (a.Proxy.map cvPair), a.Skew⟩
def smConfig (a : Tlaws_Config) : Prop := (a.UserRealm.length ≤ 1048576) ∧ (a.ServiceRealm.length ≤ 1048576) ∧ (a.Links.length ≤ 1048576) ∧ (a.Proxy.length ≤ 1048576)
theorem szConfig_ev (a : Tlaws_Config) (w : wfTlaws_Config a) (n : Int) (hn : 0 ≤ n) (hb : n ≤ 1048576) : EvP (fun k => Flaws_szConfig k a n) (fun r => r < 0 ∨ (0 ≤ r ∧ r ≤ n ∧ smConfig a)) := by
  simp only [Flaws_szConfig]
  refine EvP.bind (szIntS_ev a.UserRealm w.1 n (by omega) (by omega)) (fun r0 hr0 => ?_)
  refine EvP.ite (fun _ => EvP.pure (.inl (by decide))) (fun hc => ?_)
  obtain ⟨p0, q0, s0⟩ := hr0.resolve_left (by simpa using hc)
  refine EvP.bind (szIntS_ev a.ServiceRealm w.2.1 r0 (by omega) (by omega)) (fun r1 hr1 => ?_)
  refine EvP.ite (fun _ => EvP.pure (.inl (by decide))) (fun hc => ?_)
  obtain ⟨p1, q1, s1⟩ := hr1.resolve_left (by simpa using hc)
  refine EvP.bind (szPairS_ev a.Links w.2.2.1 r1 (by omega) (by omega)) (fun r2 hr2 => ?_)
  refine EvP.ite (fun _ => EvP.pure (.inl (by decide))) (fun hc => ?_)
  obtain ⟨p2, q2, s2⟩ := hr2.resolve_left (by simpa using hc)
  refine EvP.bind (szPairS_ev a.Proxy w.2.2.2.1 r2 (by omega) (by omega)) (fun r3 hr3 => ?_)
  refine EvP.ite (fun _ => EvP.pure (.inl (by decide))) (fun hc => ?_)
  obtain ⟨p3, q3, s3⟩ := hr3.resolve_left (by simpa using hc)
  exact EvP.pure (.inr ⟨by omega, by omega, s0, s1, s2, s3⟩)
theorem szStringS_ev (a : List (List UInt8)) (w : (Go.MG.wfR Go.MG.wfS) a) (n : Int) (hn : 0 ≤ n) (hb : n ≤ 1048576) : EvP (fun k => Flaws_szStringS k a n) (fun r => r < 0 ∨ (0 ≤ r ∧ r ≤ n ∧ (a.length ≤ 1048576 ∧ ∀ x ∈ a, x.length ≤ 1048576))) := by
  simp only [Flaws_szStringS]
  have hw := w.1; unfold big at hw
  rw [wid (n := n - (a.length : Int)) (by omega) (by omega)]
  refine EvP.ite (fun _ => EvP.pure (.inl (by decide))) (fun hc => ?_)
  have hc : ¬ n - (a.length : Int) < 0 := by simpa using hc
  refine EvP.for (xs := a) (L := fun k s i => Flaws_szStringS.l2 k a s i) (fun i m => 0 ≤ m ∧ m ≤ n ∧ ∀ x ∈ a.take i, x.length ≤ 1048576) (fun m hm => ?_) (fun i b m hb' hi hm hr => ?_) _ ⟨by omega, by omega, by simp⟩
  · simp only [Flaws_szStringS.l2, ltD0, cond_false]
    exact EvP.pure (.inr ⟨hm.1, hm.2.1, by omega, by simpa using hm.2.2⟩)
  · simp only [Flaws_szStringS.l2, ltD hi, cond_true]
    have hwb : b.length ≤ 9223372036854775807 := w.2 b (List.mem_of_getElem? hb')
    refine EvP.at? hb' ?_
    rw [wid (n := m - (b.length : Int)) (by omega) (by omega)]
    refine EvP.ite (fun _ => EvP.pure (.inl (by decide))) (fun hc => ?_)
    have hc : ¬ m - (b.length : Int) < 0 := by simpa using hc
    rw [wid1 (by omega)]
    refine hr _ ⟨by omega, by omega, fun x hx => ?_⟩
    rw [take_succ_get hb'] at hx
    rcases List.mem_append.1 hx with hx | hx
    · exact hm.2.2 x hx
    · rw [List.mem_singleton.1 hx]; omega
def cvKnown (a : Tlaws_Known) : Timpl_Known := ⟨a.Terms, a.Keys⟩
def smKnown (a : Tlaws_Known) : Prop := (a.Terms.length ≤ 1048576 ∧ ∀ x ∈ a.Terms, x.length ≤ 1048576) ∧ (a.Keys.length ≤ 1048576)
theorem szKnown_ev (a : Tlaws_Known) (w : wfTlaws_Known a) (n : Int) (hn : 0 ≤ n) (hb : n ≤ 1048576) : EvP (fun k => Flaws_szKnown k a n) (fun r => r < 0 ∨ (0 ≤ r ∧ r ≤ n ∧ smKnown a)) := by
  simp only [Flaws_szKnown]
  refine EvP.bind (szStringS_ev a.Terms w.1 n (by omega) (by omega)) (fun r0 hr0 => ?_)
  refine EvP.ite (fun _ => EvP.pure (.inl (by decide))) (fun hc => ?_)
  obtain ⟨p0, q0, s0⟩ := hr0.resolve_left (by simpa using hc)
  refine EvP.bind (szIntS_ev a.Keys w.2 r0 (by omega) (by omega)) (fun r1 hr1 => ?_)
  refine EvP.ite (fun _ => EvP.pure (.inl (by decide))) (fun hc => ?_)
  obtain ⟨p1, q1, s1⟩ := hr1.resolve_left (by simpa using hc)
  exact EvP.pure (.inr ⟨by omega, by omega, s0, s1⟩)
def cvWait (a : Tlaws_Wait) : Timpl_Wait := ⟨a.On, a.Nonce, a.Key, a.Client⟩
def smWait (a : Tlaws_Wait) : Prop := True
theorem szWaitS_ev (a : List Tlaws_Wait) (w : (Go.MG.wfR wfTlaws_Wait) a) (n : Int) (hn : 0 ≤ n) (hb : n ≤ 1048576) : EvP (fun k => Flaws_szWaitS k a n) (fun r => r < 0 ∨ (0 ≤ r ∧ r ≤ n ∧ (a.length ≤ 1048576))) := by
  simp only [Flaws_szWaitS]
  have hw := w.1; unfold big at hw
  rw [wid (n := n - (a.length : Int)) (by omega) (by omega)]
  refine EvP.ite (fun _ => EvP.pure (.inl (by decide))) (fun hc => ?_)
  have hc : ¬ n - (a.length : Int) < 0 := by simpa using hc
  exact EvP.pure (.inr ⟨by omega, by omega, by omega⟩)
def cvRest (a : Tlaws_Rest) : Timpl_Rest := ⟨a.Servers, a.Ops, a.End⟩
def smRest (a : Tlaws_Rest) : Prop := True
def cvCred (a : Tlaws_Cred) : Timpl_Cred := ⟨a.Owner, a.Client, a.Service, a.Key, (cvRest a.Rest), a.Ticket⟩
def smCred (a : Tlaws_Cred) : Prop := a.Ticket.length ≤ 1048576
theorem szCred_ev (a : Tlaws_Cred) (w : wfTlaws_Cred a) (n : Int) (hn : 0 ≤ n) (hb : n ≤ 1048576) : EvP (fun k => Flaws_szCred k a n) (fun r => r < 0 ∨ (0 ≤ r ∧ r ≤ n ∧ smCred a)) := by
  simp only [Flaws_szCred]
  have hw5 : a.Ticket.length ≤ 9223372036854775807 := w.2.2.2.2.2
  rw [wid (n := n - (a.Ticket.length : Int)) (by omega) (by omega)]
  refine EvP.ite (fun _ => EvP.pure (.inl (by decide))) (fun hc => ?_)
  have hc5 : ¬ n - (a.Ticket.length : Int) < 0 := by simpa using hc
  exact EvP.pure (.inr ⟨by omega, by omega, (show a.Ticket.length ≤ 1048576 by omega)⟩)
theorem szCredS_ev (a : List Tlaws_Cred) (w : (Go.MG.wfR wfTlaws_Cred) a) (n : Int) (hn : 0 ≤ n) (hb : n ≤ 1048576) : EvP (fun k => Flaws_szCredS k a n) (fun r => r < 0 ∨ (0 ≤ r ∧ r ≤ n ∧ (a.length ≤ 1048576 ∧ ∀ x ∈ a, smCred x))) := by
  simp only [Flaws_szCredS]
  have hw := w.1; unfold big at hw
  rw [wid (n := n - (a.length : Int)) (by omega) (by omega)]
  refine EvP.ite (fun _ => EvP.pure (.inl (by decide))) (fun hc => ?_)
  have hc : ¬ n - (a.length : Int) < 0 := by simpa using hc
  refine EvP.for (xs := a) (L := fun k s i => Flaws_szCredS.l2 k a s i) (fun i m => 0 ≤ m ∧ m ≤ n ∧ ∀ x ∈ a.take i, smCred x) (fun m hm => ?_) (fun i b m hb' hi hm hr => ?_) _ ⟨by omega, by omega, by simp⟩
  · simp only [Flaws_szCredS.l2, ltD0, cond_false]
    exact EvP.pure (.inr ⟨hm.1, hm.2.1, by omega, by simpa using hm.2.2⟩)
  · simp only [Flaws_szCredS.l2, ltD hi, cond_true]
    refine EvP.at? hb' (EvP.bind (szCred_ev b (w.2 b (List.mem_of_getElem? hb')) m hm.1 (by omega)) (fun r hr1 => ?_))
    refine EvP.ite (fun _ => EvP.pure (.inl (by decide))) (fun hc => ?_)
    have hc : ¬ r < 0 := by simpa using hc
    obtain ⟨h1, h2, h3⟩ := hr1.resolve_left hc
    rw [wid1 (by omega)]
    refine hr r ⟨h1, by omega, fun x hx => ?_⟩
    rw [take_succ_get hb'] at hx
    rcases List.mem_append.1 hx with hx | hx
    · exact hm.2.2 x hx
    · rw [List.mem_singleton.1 hx]; exact h3
def cvAuth (a : Tlaws_Auth) : Timpl_Auth := ⟨a.Client, a.Time, a.Seq⟩
def smAuth (a : Tlaws_Auth) : Prop := True
theorem szAuthS_ev (a : List Tlaws_Auth) (w : (Go.MG.wfR wfTlaws_Auth) a) (n : Int) (hn : 0 ≤ n) (hb : n ≤ 1048576) : EvP (fun k => Flaws_szAuthS k a n) (fun r => r < 0 ∨ (0 ≤ r ∧ r ≤ n ∧ (a.length ≤ 1048576))) := by
  simp only [Flaws_szAuthS]
  have hw := w.1; unfold big at hw
  rw [wid (n := n - (a.length : Int)) (by omega) (by omega)]
  refine EvP.ite (fun _ => EvP.pure (.inl (by decide))) (fun hc => ?_)
  have hc : ¬ n - (a.length : Int) < 0 := by simpa using hc
  exact EvP.pure (.inr ⟨by omega, by omega, by omega⟩)
def cvCache (a : Tlaws_Cache) : Timpl_Cache := ⟨a.Quiet, (a.Seen.map cvAuth)⟩
def smCache (a : Tlaws_Cache) : Prop := (a.Seen.length ≤ 1048576)
theorem szCache_ev (a : Tlaws_Cache) (w : wfTlaws_Cache a) (n : Int) (hn : 0 ≤ n) (hb : n ≤ 1048576) : EvP (fun k => Flaws_szCache k a n) (fun r => r < 0 ∨ (0 ≤ r ∧ r ≤ n ∧ smCache a)) := by
  simp only [Flaws_szCache]
  refine EvP.bind (szAuthS_ev a.Seen w.2 n (by omega) (by omega)) (fun r1 hr1 => ?_)
  refine EvP.ite (fun _ => EvP.pure (.inl (by decide))) (fun hc => ?_)
  obtain ⟨p1, q1, s1⟩ := hr1.resolve_left (by simpa using hc)
  exact EvP.pure (.inr ⟨by omega, by omega, s1⟩)
theorem szCacheS_ev (a : List Tlaws_Cache) (w : (Go.MG.wfR wfTlaws_Cache) a) (n : Int) (hn : 0 ≤ n) (hb : n ≤ 1048576) : EvP (fun k => Flaws_szCacheS k a n) (fun r => r < 0 ∨ (0 ≤ r ∧ r ≤ n ∧ (a.length ≤ 1048576 ∧ ∀ x ∈ a, smCache x))) := by
  simp only [Flaws_szCacheS]
  have hw := w.1; unfold big at hw
  rw [wid (n := n - (a.length : Int)) (by omega) (by omega)]
  refine EvP.ite (fun _ => EvP.pure (.inl (by decide))) (fun hc => ?_)
  have hc : ¬ n - (a.length : Int) < 0 := by simpa using hc
  refine EvP.for (xs := a) (L := fun k s i => Flaws_szCacheS.l2 k a s i) (fun i m => 0 ≤ m ∧ m ≤ n ∧ ∀ x ∈ a.take i, smCache x) (fun m hm => ?_) (fun i b m hb' hi hm hr => ?_) _ ⟨by omega, by omega, by simp⟩
  · simp only [Flaws_szCacheS.l2, ltD0, cond_false]
    exact EvP.pure (.inr ⟨hm.1, hm.2.1, by omega, by simpa using hm.2.2⟩)
  · simp only [Flaws_szCacheS.l2, ltD hi, cond_true]
    refine EvP.at? hb' (EvP.bind (szCache_ev b (w.2 b (List.mem_of_getElem? hb')) m hm.1 (by omega)) (fun r hr1 => ?_))
    refine EvP.ite (fun _ => EvP.pure (.inl (by decide))) (fun hc => ?_)
    have hc : ¬ r < 0 := by simpa using hc
    obtain ⟨h1, h2, h3⟩ := hr1.resolve_left hc
    rw [wid1 (by omega)]
    refine hr r ⟨h1, by omega, fun x hx => ?_⟩
    rw [take_succ_get hb'] at hx
    rcases List.mem_append.1 hx with hx | hx
    · exact hm.2.2 x hx
    · rw [List.mem_singleton.1 hx]; exact h3
def cvEvent (a : Tlaws_Event) : Timpl_Event := ⟨a.Kind, a.Realm, a.By, a.Client, a.Service, a.Key, a.Parent, a.Evid, (cvRest a.Rest)⟩
def smEvent (a : Tlaws_Event) : Prop := True
theorem szEventS_ev (a : List Tlaws_Event) (w : (Go.MG.wfR wfTlaws_Event) a) (n : Int) (hn : 0 ≤ n) (hb : n ≤ 1048576) : EvP (fun k => Flaws_szEventS k a n) (fun r => r < 0 ∨ (0 ≤ r ∧ r ≤ n ∧ (a.length ≤ 1048576))) := by
  simp only [Flaws_szEventS]
  have hw := w.1; unfold big at hw
  rw [wid (n := n - (a.length : Int)) (by omega) (by omega)]
  refine EvP.ite (fun _ => EvP.pure (.inl (by decide))) (fun hc => ?_)
  have hc : ¬ n - (a.length : Int) < 0 := by simpa using hc
  exact EvP.pure (.inr ⟨by omega, by omega, by omega⟩)
def cvAccept (a : Tlaws_Accept) : Timpl_Accept := ⟨a.Server, a.Client, a.Key, a.Op, a.Now, (cvAuth a.Auth), (cvRest a.Rest), a.Path, a.Via, a.Leaks, a.Ticket⟩
def smAccept (a : Tlaws_Accept) : Prop := (a.Path.length ≤ 1048576) ∧ (a.Via.length ≤ 1048576) ∧ a.Ticket.length ≤ 1048576
theorem szAccept_ev (a : Tlaws_Accept) (w : wfTlaws_Accept a) (n : Int) (hn : 0 ≤ n) (hb : n ≤ 1048576) : EvP (fun k => Flaws_szAccept k a n) (fun r => r < 0 ∨ (0 ≤ r ∧ r ≤ n ∧ smAccept a)) := by
  simp only [Flaws_szAccept]
  refine EvP.bind (szIntS_ev a.Path w.2.2.2.2.2.2.2.1 n (by omega) (by omega)) (fun r7 hr7 => ?_)
  refine EvP.ite (fun _ => EvP.pure (.inl (by decide))) (fun hc => ?_)
  obtain ⟨p7, q7, s7⟩ := hr7.resolve_left (by simpa using hc)
  refine EvP.bind (szIntS_ev a.Via w.2.2.2.2.2.2.2.2.1 r7 (by omega) (by omega)) (fun r8 hr8 => ?_)
  refine EvP.ite (fun _ => EvP.pure (.inl (by decide))) (fun hc => ?_)
  obtain ⟨p8, q8, s8⟩ := hr8.resolve_left (by simpa using hc)
  have hw10 : a.Ticket.length ≤ 9223372036854775807 := w.2.2.2.2.2.2.2.2.2.2
  rw [wid (n := r8 - (a.Ticket.length : Int)) (by omega) (by omega)]
  refine EvP.ite (fun _ => EvP.pure (.inl (by decide))) (fun hc => ?_)
  have hc10 : ¬ r8 - (a.Ticket.length : Int) < 0 := by simpa using hc
  exact EvP.pure (.inr ⟨by omega, by omega, s7, s8, (show a.Ticket.length ≤ 1048576 by omega)⟩)
theorem szAcceptS_ev (a : List Tlaws_Accept) (w : (Go.MG.wfR wfTlaws_Accept) a) (n : Int) (hn : 0 ≤ n) (hb : n ≤ 1048576) : EvP (fun k => Flaws_szAcceptS k a n) (fun r => r < 0 ∨ (0 ≤ r ∧ r ≤ n ∧ (a.length ≤ 1048576 ∧ ∀ x ∈ a, smAccept x))) := by
  simp only [Flaws_szAcceptS]
  have hw := w.1; unfold big at hw
  rw [wid (n := n - (a.length : Int)) (by omega) (by omega)]
  refine EvP.ite (fun _ => EvP.pure (.inl (by decide))) (fun hc => ?_)
  have hc : ¬ n - (a.length : Int) < 0 := by simpa using hc
  refine EvP.for (xs := a) (L := fun k s i => Flaws_szAcceptS.l2 k a s i) (fun i m => 0 ≤ m ∧ m ≤ n ∧ ∀ x ∈ a.take i, smAccept x) (fun m hm => ?_) (fun i b m hb' hi hm hr => ?_) _ ⟨by omega, by omega, by simp⟩
  · simp only [Flaws_szAcceptS.l2, ltD0, cond_false]
    exact EvP.pure (.inr ⟨hm.1, hm.2.1, by omega, by simpa using hm.2.2⟩)
  · simp only [Flaws_szAcceptS.l2, ltD hi, cond_true]
    refine EvP.at? hb' (EvP.bind (szAccept_ev b (w.2 b (List.mem_of_getElem? hb')) m hm.1 (by omega)) (fun r hr1 => ?_))
    refine EvP.ite (fun _ => EvP.pure (.inl (by decide))) (fun hc => ?_)
    have hc : ¬ r < 0 := by simpa using hc
    obtain ⟨h1, h2, h3⟩ := hr1.resolve_left hc
    rw [wid1 (by omega)]
    refine hr r ⟨h1, by omega, fun x hx => ?_⟩
    rw [take_succ_get hb'] at hx
    rcases List.mem_append.1 hx with hx | hx
    · exact hm.2.2 x hx
    · rw [List.mem_singleton.1 hx]; exact h3
def cvWorld (a : Tlaws_World) : Timpl_World := ⟨(cvConfig a.Config), a.Now, a.Fresh, a.Net, (cvKnown a.Known), (a.Waits.map cvWait), (a.Creds.map cvCred), (a.Caches.map cvCache), (a.Log.map cvEvent), (a.Accepts.map cvAccept), a.Leaked⟩
def smWorld (a : Tlaws_World) : Prop := smConfig a.Config ∧ (a.Net.length ≤ 1048576 ∧ ∀ x ∈ a.Net, x.length ≤ 1048576) ∧ smKnown a.Known ∧ (a.Waits.length ≤ 1048576) ∧ (a.Creds.length ≤ 1048576 ∧ ∀ x ∈ a.Creds, smCred x) ∧ (a.Caches.length ≤ 1048576 ∧ ∀ x ∈ a.Caches, smCache x) ∧ (a.Log.length ≤ 1048576) ∧ (a.Accepts.length ≤ 1048576 ∧ ∀ x ∈ a.Accepts, smAccept x) ∧ (a.Leaked.length ≤ 1048576)
theorem szWorld_ev (a : Tlaws_World) (w : wfTlaws_World a) (n : Int) (hn : 0 ≤ n) (hb : n ≤ 1048576) : EvP (fun k => Flaws_szWorld k a n) (fun r => r < 0 ∨ (0 ≤ r ∧ r ≤ n ∧ smWorld a)) := by
  simp only [Flaws_szWorld]
  refine EvP.bind (szConfig_ev a.Config w.1 n (by omega) (by omega)) (fun r0 hr0 => ?_)
  refine EvP.ite (fun _ => EvP.pure (.inl (by decide))) (fun hc => ?_)
  obtain ⟨p0, q0, s0⟩ := hr0.resolve_left (by simpa using hc)
  refine EvP.bind (szStringS_ev a.Net w.2.2.2.1 r0 (by omega) (by omega)) (fun r3 hr3 => ?_)
  refine EvP.ite (fun _ => EvP.pure (.inl (by decide))) (fun hc => ?_)
  obtain ⟨p3, q3, s3⟩ := hr3.resolve_left (by simpa using hc)
  refine EvP.bind (szKnown_ev a.Known w.2.2.2.2.1 r3 (by omega) (by omega)) (fun r4 hr4 => ?_)
  refine EvP.ite (fun _ => EvP.pure (.inl (by decide))) (fun hc => ?_)
  obtain ⟨p4, q4, s4⟩ := hr4.resolve_left (by simpa using hc)
  refine EvP.bind (szWaitS_ev a.Waits w.2.2.2.2.2.1 r4 (by omega) (by omega)) (fun r5 hr5 => ?_)
  refine EvP.ite (fun _ => EvP.pure (.inl (by decide))) (fun hc => ?_)
  obtain ⟨p5, q5, s5⟩ := hr5.resolve_left (by simpa using hc)
  refine EvP.bind (szCredS_ev a.Creds w.2.2.2.2.2.2.1 r5 (by omega) (by omega)) (fun r6 hr6 => ?_)
  refine EvP.ite (fun _ => EvP.pure (.inl (by decide))) (fun hc => ?_)
  obtain ⟨p6, q6, s6⟩ := hr6.resolve_left (by simpa using hc)
  refine EvP.bind (szCacheS_ev a.Caches w.2.2.2.2.2.2.2.1 r6 (by omega) (by omega)) (fun r7 hr7 => ?_)
  refine EvP.ite (fun _ => EvP.pure (.inl (by decide))) (fun hc => ?_)
  obtain ⟨p7, q7, s7⟩ := hr7.resolve_left (by simpa using hc)
  refine EvP.bind (szEventS_ev a.Log w.2.2.2.2.2.2.2.2.1 r7 (by omega) (by omega)) (fun r8 hr8 => ?_)
  refine EvP.ite (fun _ => EvP.pure (.inl (by decide))) (fun hc => ?_)
  obtain ⟨p8, q8, s8⟩ := hr8.resolve_left (by simpa using hc)
  refine EvP.bind (szAcceptS_ev a.Accepts w.2.2.2.2.2.2.2.2.2.1 r8 (by omega) (by omega)) (fun r9 hr9 => ?_)
  refine EvP.ite (fun _ => EvP.pure (.inl (by decide))) (fun hc => ?_)
  obtain ⟨p9, q9, s9⟩ := hr9.resolve_left (by simpa using hc)
  refine EvP.bind (szIntS_ev a.Leaked w.2.2.2.2.2.2.2.2.2.2 r9 (by omega) (by omega)) (fun r10 hr10 => ?_)
  refine EvP.ite (fun _ => EvP.pure (.inl (by decide))) (fun hc => ?_)
  obtain ⟨p10, q10, s10⟩ := hr10.resolve_left (by simpa using hc)
  exact EvP.pure (.inr ⟨by omega, by omega, s0, s3, s4, s5, s6, s7, s8, s9, s10⟩)
theorem toIntS_ev (xs : List Int) (h : (xs.length ≤ 1048576)) : Ev (fun k => Flaws_toIntS k xs) xs := by
  have hl : xs.length ≤ 1048576 := h
  simp only [Flaws_toIntS]
  refine Ev.ite (fun _ => ?_) (fun hc => by rw [decide_eq_true (by omega)] at hc; cases hc)
  simp only [Int.toNat_natCast]
  refine Ev.to (a := xs.map id) ?_ (List.map_id xs)
  exact Ev.copy (xs := xs) (L := fun k s i => Flaws_toIntS.l2 k xs s i) (f := id) (z := (0 : Int)) (fun s => by simp only [Flaws_toIntS.l2, ltD0, cond_false]; exact Ev.pure _) (fun i b s r hb hi hz hr => by
    simp only [Flaws_toIntS.l2, ltD hi, cond_true]
    refine Ev.at? hb (Ev.at? hz ?_)
    rw [wid1 (by omega)]; simpa only [Int.toNat_natCast, id] using hr)
theorem toPair_ev (a : Tlaws_Pair) (h : smPair a) : Ev (fun k => Flaws_toPair k a) (cvPair a) := by
  simp only [Flaws_toPair]
  exact Ev.pure _
theorem toPairS_ev (xs : List Tlaws_Pair) (h : (xs.length ≤ 1048576)) : Ev (fun k => Flaws_toPairS k xs) (xs.map cvPair) := by
  have hl : xs.length ≤ 1048576 := h
  simp only [Flaws_toPairS]
  refine Ev.ite (fun _ => ?_) (fun hc => by rw [decide_eq_true (by omega)] at hc; cases hc)
  simp only [Int.toNat_natCast]
  exact Ev.copy (xs := xs) (L := fun k s i => Flaws_toPairS.l2 k xs s i) (f := cvPair) (z := (⟨(0 : Int), (0 : Int)⟩ : Timpl_Pair)) (fun s => by simp only [Flaws_toPairS.l2, ltD0, cond_false]; exact Ev.pure _) (fun i b s r hb hi hz hr => by
    simp only [Flaws_toPairS.l2, ltD hi, cond_true]
    refine Ev.at? hb (Ev.bind (toPair_ev b trivial) (Ev.at? hz ?_))
    rw [wid1 (by omega)]; simpa only [Int.toNat_natCast] using hr)
theorem toConfig_ev (a : Tlaws_Config) (h : smConfig a) : Ev (fun k => Flaws_toConfig k a) (cvConfig a) := by
  simp only [Flaws_toConfig]
  refine Ev.bind (toIntS_ev _ h.1) ?_
  refine Ev.bind (toIntS_ev _ h.2.1) ?_
  refine Ev.bind (toPairS_ev _ h.2.2.1) ?_
  refine Ev.bind (toPairS_ev _ h.2.2.2) ?_
  exact Ev.pure _
theorem toStringS_ev (xs : List (List UInt8)) (h : (xs.length ≤ 1048576 ∧ ∀ x ∈ xs, x.length ≤ 1048576)) : Ev (fun k => Flaws_toStringS k xs) xs := by
  have hl : xs.length ≤ 1048576 := h.1
  simp only [Flaws_toStringS]
  refine Ev.ite (fun _ => ?_) (fun hc => by rw [decide_eq_true (by omega)] at hc; cases hc)
  simp only [Int.toNat_natCast]
  refine Ev.to (a := xs.map id) ?_ (List.map_id xs)
  exact Ev.copy (xs := xs) (L := fun k s i => Flaws_toStringS.l2 k xs s i) (f := id) (z := ([] : List UInt8)) (fun s => by simp only [Flaws_toStringS.l2, ltD0, cond_false]; exact Ev.pure _) (fun i b s r hb hi hz hr => by
    simp only [Flaws_toStringS.l2, ltD hi, cond_true]
    refine Ev.at? hb (Ev.at? hz ?_)
    rw [wid1 (by omega)]; simpa only [Int.toNat_natCast, id] using hr)
theorem toKnown_ev (a : Tlaws_Known) (h : smKnown a) : Ev (fun k => Flaws_toKnown k a) (cvKnown a) := by
  simp only [Flaws_toKnown]
  refine Ev.bind (toStringS_ev _ h.1) ?_
  refine Ev.bind (toIntS_ev _ h.2) ?_
  exact Ev.pure _
theorem toWait_ev (a : Tlaws_Wait) (h : smWait a) : Ev (fun k => Flaws_toWait k a) (cvWait a) := by
  simp only [Flaws_toWait]
  exact Ev.pure _
theorem toWaitS_ev (xs : List Tlaws_Wait) (h : (xs.length ≤ 1048576)) : Ev (fun k => Flaws_toWaitS k xs) (xs.map cvWait) := by
  have hl : xs.length ≤ 1048576 := h
  simp only [Flaws_toWaitS]
  refine Ev.ite (fun _ => ?_) (fun hc => by rw [decide_eq_true (by omega)] at hc; cases hc)
  simp only [Int.toNat_natCast]
  exact Ev.copy (xs := xs) (L := fun k s i => Flaws_toWaitS.l2 k xs s i) (f := cvWait) (z := (⟨false, (0 : Int), (0 : Int), (0 : Int)⟩ : Timpl_Wait)) (fun s => by simp only [Flaws_toWaitS.l2, ltD0, cond_false]; exact Ev.pure _) (fun i b s r hb hi hz hr => by
    simp only [Flaws_toWaitS.l2, ltD hi, cond_true]
    refine Ev.at? hb (Ev.bind (toWait_ev b trivial) (Ev.at? hz ?_))
    rw [wid1 (by omega)]; simpa only [Int.toNat_natCast] using hr)
theorem toRest_ev (a : Tlaws_Rest) (h : smRest a) : Ev (fun k => Flaws_toRest k a) (cvRest a) := by
  simp only [Flaws_toRest]
  exact Ev.pure _
theorem toCred_ev (a : Tlaws_Cred) (h : smCred a) : Ev (fun k => Flaws_toCred k a) (cvCred a) := by
  simp only [Flaws_toCred]
  refine Ev.bind (toRest_ev _ trivial) ?_
  exact Ev.pure _
theorem toCredS_ev (xs : List Tlaws_Cred) (h : (xs.length ≤ 1048576 ∧ ∀ x ∈ xs, smCred x)) : Ev (fun k => Flaws_toCredS k xs) (xs.map cvCred) := by
  have hl : xs.length ≤ 1048576 := h.1
  simp only [Flaws_toCredS]
  refine Ev.ite (fun _ => ?_) (fun hc => by rw [decide_eq_true (by omega)] at hc; cases hc)
  simp only [Int.toNat_natCast]
  exact Ev.copy (xs := xs) (L := fun k s i => Flaws_toCredS.l2 k xs s i) (f := cvCred) (z := (⟨(0 : Int), (0 : Int), (0 : Int), (0 : Int), (⟨(0 : Int), (0 : Int), (0 : Int)⟩ : Timpl_Rest), ([] : List UInt8)⟩ : Timpl_Cred)) (fun s => by simp only [Flaws_toCredS.l2, ltD0, cond_false]; exact Ev.pure _) (fun i b s r hb hi hz hr => by
    simp only [Flaws_toCredS.l2, ltD hi, cond_true]
    refine Ev.at? hb (Ev.bind (toCred_ev b (h.2 b (List.mem_of_getElem? hb))) (Ev.at? hz ?_))
    rw [wid1 (by omega)]; simpa only [Int.toNat_natCast] using hr)
theorem toAuth_ev (a : Tlaws_Auth) (h : smAuth a) : Ev (fun k => Flaws_toAuth k a) (cvAuth a) := by
  simp only [Flaws_toAuth]
  exact Ev.pure _
theorem toAuthS_ev (xs : List Tlaws_Auth) (h : (xs.length ≤ 1048576)) : Ev (fun k => Flaws_toAuthS k xs) (xs.map cvAuth) := by
  have hl : xs.length ≤ 1048576 := h
  simp only [Flaws_toAuthS]
  refine Ev.ite (fun _ => ?_) (fun hc => by rw [decide_eq_true (by omega)] at hc; cases hc)
  simp only [Int.toNat_natCast]
  exact Ev.copy (xs := xs) (L := fun k s i => Flaws_toAuthS.l2 k xs s i) (f := cvAuth) (z := (⟨(0 : Int), (0 : Int), (0 : Int)⟩ : Timpl_Auth)) (fun s => by simp only [Flaws_toAuthS.l2, ltD0, cond_false]; exact Ev.pure _) (fun i b s r hb hi hz hr => by
    simp only [Flaws_toAuthS.l2, ltD hi, cond_true]
    refine Ev.at? hb (Ev.bind (toAuth_ev b trivial) (Ev.at? hz ?_))
    rw [wid1 (by omega)]; simpa only [Int.toNat_natCast] using hr)
theorem toCache_ev (a : Tlaws_Cache) (h : smCache a) : Ev (fun k => Flaws_toCache k a) (cvCache a) := by
  simp only [Flaws_toCache]
  refine Ev.bind (toAuthS_ev _ h) ?_
  exact Ev.pure _
theorem toCacheS_ev (xs : List Tlaws_Cache) (h : (xs.length ≤ 1048576 ∧ ∀ x ∈ xs, smCache x)) : Ev (fun k => Flaws_toCacheS k xs) (xs.map cvCache) := by
  have hl : xs.length ≤ 1048576 := h.1
  simp only [Flaws_toCacheS]
  refine Ev.ite (fun _ => ?_) (fun hc => by rw [decide_eq_true (by omega)] at hc; cases hc)
  simp only [Int.toNat_natCast]
  exact Ev.copy (xs := xs) (L := fun k s i => Flaws_toCacheS.l2 k xs s i) (f := cvCache) (z := (⟨(0 : Int), []⟩ : Timpl_Cache)) (fun s => by simp only [Flaws_toCacheS.l2, ltD0, cond_false]; exact Ev.pure _) (fun i b s r hb hi hz hr => by
    simp only [Flaws_toCacheS.l2, ltD hi, cond_true]
    refine Ev.at? hb (Ev.bind (toCache_ev b (h.2 b (List.mem_of_getElem? hb))) (Ev.at? hz ?_))
    rw [wid1 (by omega)]; simpa only [Int.toNat_natCast] using hr)
theorem toEvent_ev (a : Tlaws_Event) (h : smEvent a) : Ev (fun k => Flaws_toEvent k a) (cvEvent a) := by
  simp only [Flaws_toEvent]
  refine Ev.bind (toRest_ev _ trivial) ?_
  exact Ev.pure _
theorem toEventS_ev (xs : List Tlaws_Event) (h : (xs.length ≤ 1048576)) : Ev (fun k => Flaws_toEventS k xs) (xs.map cvEvent) := by
  have hl : xs.length ≤ 1048576 := h
  simp only [Flaws_toEventS]
  refine Ev.ite (fun _ => ?_) (fun hc => by rw [decide_eq_true (by omega)] at hc; cases hc)
  simp only [Int.toNat_natCast]
  exact Ev.copy (xs := xs) (L := fun k s i => Flaws_toEventS.l2 k xs s i) (f := cvEvent) (z := (⟨(0 : Int), (0 : Int), (0 : Int), (0 : Int), (0 : Int), (0 : Int), (0 : Int), (0 : Int), (⟨(0 : Int), (0 : Int), (0 : Int)⟩ : Timpl_Rest)⟩ : Timpl_Event)) (fun s => by simp only [Flaws_toEventS.l2, ltD0, cond_false]; exact Ev.pure _) (fun i b s r hb hi hz hr => by
    simp only [Flaws_toEventS.l2, ltD hi, cond_true]
    refine Ev.at? hb (Ev.bind (toEvent_ev b trivial) (Ev.at? hz ?_))
    rw [wid1 (by omega)]; simpa only [Int.toNat_natCast] using hr)
theorem toAccept_ev (a : Tlaws_Accept) (h : smAccept a) : Ev (fun k => Flaws_toAccept k a) (cvAccept a) := by
  simp only [Flaws_toAccept]
  refine Ev.bind (toAuth_ev _ trivial) ?_
  refine Ev.bind (toRest_ev _ trivial) ?_
  refine Ev.bind (toIntS_ev _ h.1) ?_
  refine Ev.bind (toIntS_ev _ h.2.1) ?_
  exact Ev.pure _
theorem toAcceptS_ev (xs : List Tlaws_Accept) (h : (xs.length ≤ 1048576 ∧ ∀ x ∈ xs, smAccept x)) : Ev (fun k => Flaws_toAcceptS k xs) (xs.map cvAccept) := by
  have hl : xs.length ≤ 1048576 := h.1
  simp only [Flaws_toAcceptS]
  refine Ev.ite (fun _ => ?_) (fun hc => by rw [decide_eq_true (by omega)] at hc; cases hc)
  simp only [Int.toNat_natCast]
  exact Ev.copy (xs := xs) (L := fun k s i => Flaws_toAcceptS.l2 k xs s i) (f := cvAccept) (z := (⟨(0 : Int), (0 : Int), (0 : Int), (0 : Int), (0 : Int), (⟨(0 : Int), (0 : Int), (0 : Int)⟩ : Timpl_Auth), (⟨(0 : Int), (0 : Int), (0 : Int)⟩ : Timpl_Rest), [], [], (0 : Int), ([] : List UInt8)⟩ : Timpl_Accept)) (fun s => by simp only [Flaws_toAcceptS.l2, ltD0, cond_false]; exact Ev.pure _) (fun i b s r hb hi hz hr => by
    simp only [Flaws_toAcceptS.l2, ltD hi, cond_true]
    refine Ev.at? hb (Ev.bind (toAccept_ev b (h.2 b (List.mem_of_getElem? hb))) (Ev.at? hz ?_))
    rw [wid1 (by omega)]; simpa only [Int.toNat_natCast] using hr)
theorem toWorld_ev (a : Tlaws_World) (h : smWorld a) : Ev (fun k => Flaws_toWorld k a) (cvWorld a) := by
  simp only [Flaws_toWorld]
  refine Ev.bind (toConfig_ev _ h.1) ?_
  refine Ev.bind (toStringS_ev _ h.2.1) ?_
  refine Ev.bind (toKnown_ev _ h.2.2.1) ?_
  refine Ev.bind (toWaitS_ev _ h.2.2.2.1) ?_
  refine Ev.bind (toCredS_ev _ h.2.2.2.2.1) ?_
  refine Ev.bind (toCacheS_ev _ h.2.2.2.2.2.1) ?_
  refine Ev.bind (toEventS_ev _ h.2.2.2.2.2.2.1) ?_
  refine Ev.bind (toAcceptS_ev _ h.2.2.2.2.2.2.2.1) ?_
  refine Ev.bind (toIntS_ev _ h.2.2.2.2.2.2.2.2) ?_
  exact Ev.pure _
theorem eqIntS_ev (xs : List Int) (h : (xs.length ≤ 1099511627776)) : Ev (fun k => Flaws_eqIntS k xs xs) true := by
  have hl : xs.length ≤ 1099511627776 := h
  simp only [Flaws_eqIntS, bne_self_eq_false, cond_false]
  refine Ev.for (xs := xs) (L := fun k (_ : Unit) i => Flaws_eqIntS.l2 k xs xs i) (f := fun _ _ => true) (fun s => by simp only [Flaws_eqIntS.l2, ltD0, cond_false]; exact Ev.pure _) (fun i b s hb hi hr => ?_) ()
  simp only [Flaws_eqIntS.l2, ltD hi, cond_true]
  refine Ev.at? hb (Ev.at? hb (?_))
  simp only [bne_self_eq_false, Bool.not_true, cond_false]
  rw [wid1 (by omega)]; exact hr ()
theorem eqPair_ev (a : Timpl_Pair) : Ev (fun k => Flaws_eqPair k a a) true := by
  simp only [Flaws_eqPair, bne_self_eq_false, cond_false]
  exact Ev.pure _
theorem eqPairS_ev (xs : List Timpl_Pair) (h : (xs.length ≤ 1099511627776)) : Ev (fun k => Flaws_eqPairS k xs xs) true := by
  have hl : xs.length ≤ 1099511627776 := h
  simp only [Flaws_eqPairS, bne_self_eq_false, cond_false]
  refine Ev.for (xs := xs) (L := fun k (_ : Unit) i => Flaws_eqPairS.l2 k xs xs i) (f := fun _ _ => true) (fun s => by simp only [Flaws_eqPairS.l2, ltD0, cond_false]; exact Ev.pure _) (fun i b s hb hi hr => ?_) ()
  simp only [Flaws_eqPairS.l2, ltD hi, cond_true]
  refine Ev.at? hb (Ev.at? hb (Ev.bind (eqPair_ev b) ?_))
  simp only [bne_self_eq_false, Bool.not_true, cond_false]
  rw [wid1 (by omega)]; exact hr ()
def okConfig (a : Timpl_Config) : Prop := (a.UserRealm.length ≤ 1099511627776) ∧ (a.ServiceRealm.length ≤ 1099511627776) ∧ (a.Links.length ≤ 1099511627776) ∧ (a.Proxy.length ≤ 1099511627776)
theorem eqConfig_ev (a : Timpl_Config) (h : okConfig a) : Ev (fun k => Flaws_eqConfig k a a) true := by
  simp only [Flaws_eqConfig, bne_self_eq_false, cond_false]
  refine Ev.bind (eqIntS_ev _ h.1) ?_
  simp only [Bool.not_true, cond_false]
  refine Ev.bind (eqIntS_ev _ h.2.1) ?_
  simp only [Bool.not_true, cond_false]
  refine Ev.bind (eqPairS_ev _ h.2.2.1) ?_
  simp only [Bool.not_true, cond_false]
  refine Ev.bind (eqPairS_ev _ h.2.2.2) ?_
  simp only [Bool.not_true, cond_false]
  exact Ev.pure _
theorem eqStringS_ev (xs : List (List UInt8)) (h : (xs.length ≤ 1099511627776)) : Ev (fun k => Flaws_eqStringS k xs xs) true := by
  have hl : xs.length ≤ 1099511627776 := h
  simp only [Flaws_eqStringS, bne_self_eq_false, cond_false]
  refine Ev.for (xs := xs) (L := fun k (_ : Unit) i => Flaws_eqStringS.l2 k xs xs i) (f := fun _ _ => true) (fun s => by simp only [Flaws_eqStringS.l2, ltD0, cond_false]; exact Ev.pure _) (fun i b s hb hi hr => ?_) ()
  simp only [Flaws_eqStringS.l2, ltD hi, cond_true]
  refine Ev.at? hb (Ev.at? hb (?_))
  simp only [bne_self_eq_false, Bool.not_true, cond_false]
  rw [wid1 (by omega)]; exact hr ()
def okKnown (a : Timpl_Known) : Prop := (a.Terms.length ≤ 1099511627776) ∧ (a.Keys.length ≤ 1099511627776)
theorem eqKnown_ev (a : Timpl_Known) (h : okKnown a) : Ev (fun k => Flaws_eqKnown k a a) true := by
  simp only [Flaws_eqKnown, bne_self_eq_false, cond_false]
  refine Ev.bind (eqStringS_ev _ h.1) ?_
  simp only [Bool.not_true, cond_false]
  refine Ev.bind (eqIntS_ev _ h.2) ?_
  simp only [Bool.not_true, cond_false]
  exact Ev.pure _
theorem eqWait_ev (a : Timpl_Wait) : Ev (fun k => Flaws_eqWait k a a) true := by
  simp only [Flaws_eqWait, bne_self_eq_false, cond_false]
  exact Ev.pure _
theorem eqWaitS_ev (xs : List Timpl_Wait) (h : (xs.length ≤ 1099511627776)) : Ev (fun k => Flaws_eqWaitS k xs xs) true := by
  have hl : xs.length ≤ 1099511627776 := h
  simp only [Flaws_eqWaitS, bne_self_eq_false, cond_false]
  refine Ev.for (xs := xs) (L := fun k (_ : Unit) i => Flaws_eqWaitS.l2 k xs xs i) (f := fun _ _ => true) (fun s => by simp only [Flaws_eqWaitS.l2, ltD0, cond_false]; exact Ev.pure _) (fun i b s hb hi hr => ?_) ()
  simp only [Flaws_eqWaitS.l2, ltD hi, cond_true]
  refine Ev.at? hb (Ev.at? hb (Ev.bind (eqWait_ev b) ?_))
  simp only [bne_self_eq_false, Bool.not_true, cond_false]
  rw [wid1 (by omega)]; exact hr ()
theorem eqRest_ev (a : Timpl_Rest) : Ev (fun k => Flaws_eqRest k a a) true := by
  simp only [Flaws_eqRest, bne_self_eq_false, cond_false]
  exact Ev.pure _
theorem eqCred_ev (a : Timpl_Cred) : Ev (fun k => Flaws_eqCred k a a) true := by
  simp only [Flaws_eqCred, bne_self_eq_false, cond_false]
  refine Ev.bind (eqRest_ev _) ?_
  simp only [Bool.not_true, cond_false]
  exact Ev.pure _
theorem eqCredS_ev (xs : List Timpl_Cred) (h : (xs.length ≤ 1099511627776)) : Ev (fun k => Flaws_eqCredS k xs xs) true := by
  have hl : xs.length ≤ 1099511627776 := h
  simp only [Flaws_eqCredS, bne_self_eq_false, cond_false]
  refine Ev.for (xs := xs) (L := fun k (_ : Unit) i => Flaws_eqCredS.l2 k xs xs i) (f := fun _ _ => true) (fun s => by simp only [Flaws_eqCredS.l2, ltD0, cond_false]; exact Ev.pure _) (fun i b s hb hi hr => ?_) ()
  simp only [Flaws_eqCredS.l2, ltD hi, cond_true]
  refine Ev.at? hb (Ev.at? hb (Ev.bind (eqCred_ev b) ?_))
  simp only [bne_self_eq_false, Bool.not_true, cond_false]
  rw [wid1 (by omega)]; exact hr ()
theorem eqAuth_ev (a : Timpl_Auth) : Ev (fun k => Flaws_eqAuth k a a) true := by
  simp only [Flaws_eqAuth, bne_self_eq_false, cond_false]
  exact Ev.pure _
theorem eqAuthS_ev (xs : List Timpl_Auth) (h : (xs.length ≤ 1099511627776)) : Ev (fun k => Flaws_eqAuthS k xs xs) true := by
  have hl : xs.length ≤ 1099511627776 := h
  simp only [Flaws_eqAuthS, bne_self_eq_false, cond_false]
  refine Ev.for (xs := xs) (L := fun k (_ : Unit) i => Flaws_eqAuthS.l2 k xs xs i) (f := fun _ _ => true) (fun s => by simp only [Flaws_eqAuthS.l2, ltD0, cond_false]; exact Ev.pure _) (fun i b s hb hi hr => ?_) ()
  simp only [Flaws_eqAuthS.l2, ltD hi, cond_true]
  refine Ev.at? hb (Ev.at? hb (Ev.bind (eqAuth_ev b) ?_))
  simp only [bne_self_eq_false, Bool.not_true, cond_false]
  rw [wid1 (by omega)]; exact hr ()
def okCache (a : Timpl_Cache) : Prop := (a.Seen.length ≤ 1099511627776)
theorem eqCache_ev (a : Timpl_Cache) (h : okCache a) : Ev (fun k => Flaws_eqCache k a a) true := by
  simp only [Flaws_eqCache, bne_self_eq_false, cond_false]
  refine Ev.bind (eqAuthS_ev _ h) ?_
  simp only [Bool.not_true, cond_false]
  exact Ev.pure _
theorem eqCacheS_ev (xs : List Timpl_Cache) (h : (xs.length ≤ 1099511627776 ∧ ∀ x ∈ xs, okCache x)) : Ev (fun k => Flaws_eqCacheS k xs xs) true := by
  have hl : xs.length ≤ 1099511627776 := h.1
  simp only [Flaws_eqCacheS, bne_self_eq_false, cond_false]
  refine Ev.for (xs := xs) (L := fun k (_ : Unit) i => Flaws_eqCacheS.l2 k xs xs i) (f := fun _ _ => true) (fun s => by simp only [Flaws_eqCacheS.l2, ltD0, cond_false]; exact Ev.pure _) (fun i b s hb hi hr => ?_) ()
  simp only [Flaws_eqCacheS.l2, ltD hi, cond_true]
  refine Ev.at? hb (Ev.at? hb (Ev.bind (eqCache_ev b (h.2 b (List.mem_of_getElem? hb))) ?_))
  simp only [bne_self_eq_false, Bool.not_true, cond_false]
  rw [wid1 (by omega)]; exact hr ()
theorem eqEvent_ev (a : Timpl_Event) : Ev (fun k => Flaws_eqEvent k a a) true := by
  simp only [Flaws_eqEvent, bne_self_eq_false, cond_false]
  refine Ev.bind (eqRest_ev _) ?_
  simp only [Bool.not_true, cond_false]
  exact Ev.pure _
theorem eqEventS_ev (xs : List Timpl_Event) (h : (xs.length ≤ 1099511627776)) : Ev (fun k => Flaws_eqEventS k xs xs) true := by
  have hl : xs.length ≤ 1099511627776 := h
  simp only [Flaws_eqEventS, bne_self_eq_false, cond_false]
  refine Ev.for (xs := xs) (L := fun k (_ : Unit) i => Flaws_eqEventS.l2 k xs xs i) (f := fun _ _ => true) (fun s => by simp only [Flaws_eqEventS.l2, ltD0, cond_false]; exact Ev.pure _) (fun i b s hb hi hr => ?_) ()
  simp only [Flaws_eqEventS.l2, ltD hi, cond_true]
  refine Ev.at? hb (Ev.at? hb (Ev.bind (eqEvent_ev b) ?_))
  simp only [bne_self_eq_false, Bool.not_true, cond_false]
  rw [wid1 (by omega)]; exact hr ()
def okAccept (a : Timpl_Accept) : Prop := (a.Path.length ≤ 1099511627776) ∧ (a.Via.length ≤ 1099511627776)
theorem eqAccept_ev (a : Timpl_Accept) (h : okAccept a) : Ev (fun k => Flaws_eqAccept k a a) true := by
  simp only [Flaws_eqAccept, bne_self_eq_false, cond_false]
  refine Ev.bind (eqAuth_ev _) ?_
  simp only [Bool.not_true, cond_false]
  refine Ev.bind (eqRest_ev _) ?_
  simp only [Bool.not_true, cond_false]
  refine Ev.bind (eqIntS_ev _ h.1) ?_
  simp only [Bool.not_true, cond_false]
  refine Ev.bind (eqIntS_ev _ h.2) ?_
  simp only [Bool.not_true, cond_false]
  exact Ev.pure _
theorem eqAcceptS_ev (xs : List Timpl_Accept) (h : (xs.length ≤ 1099511627776 ∧ ∀ x ∈ xs, okAccept x)) : Ev (fun k => Flaws_eqAcceptS k xs xs) true := by
  have hl : xs.length ≤ 1099511627776 := h.1
  simp only [Flaws_eqAcceptS, bne_self_eq_false, cond_false]
  refine Ev.for (xs := xs) (L := fun k (_ : Unit) i => Flaws_eqAcceptS.l2 k xs xs i) (f := fun _ _ => true) (fun s => by simp only [Flaws_eqAcceptS.l2, ltD0, cond_false]; exact Ev.pure _) (fun i b s hb hi hr => ?_) ()
  simp only [Flaws_eqAcceptS.l2, ltD hi, cond_true]
  refine Ev.at? hb (Ev.at? hb (Ev.bind (eqAccept_ev b (h.2 b (List.mem_of_getElem? hb))) ?_))
  simp only [bne_self_eq_false, Bool.not_true, cond_false]
  rw [wid1 (by omega)]; exact hr ()
def okWorld (a : Timpl_World) : Prop := okConfig a.Config ∧ (a.Net.length ≤ 1099511627776) ∧ okKnown a.Known ∧ (a.Waits.length ≤ 1099511627776) ∧ (a.Creds.length ≤ 1099511627776) ∧ (a.Caches.length ≤ 1099511627776 ∧ ∀ x ∈ a.Caches, okCache x) ∧ (a.Log.length ≤ 1099511627776) ∧ (a.Accepts.length ≤ 1099511627776 ∧ ∀ x ∈ a.Accepts, okAccept x) ∧ (a.Leaked.length ≤ 1099511627776)
theorem eqWorld_ev (a : Timpl_World) (h : okWorld a) : Ev (fun k => Flaws_eqWorld k a a) true := by
  simp only [Flaws_eqWorld, bne_self_eq_false, cond_false]
  refine Ev.bind (eqConfig_ev _ h.1) ?_
  simp only [Bool.not_true, cond_false]
  refine Ev.bind (eqStringS_ev _ h.2.1) ?_
  simp only [Bool.not_true, cond_false]
  refine Ev.bind (eqKnown_ev _ h.2.2.1) ?_
  simp only [Bool.not_true, cond_false]
  refine Ev.bind (eqWaitS_ev _ h.2.2.2.1) ?_
  simp only [Bool.not_true, cond_false]
  refine Ev.bind (eqCredS_ev _ h.2.2.2.2.1) ?_
  simp only [Bool.not_true, cond_false]
  refine Ev.bind (eqCacheS_ev _ h.2.2.2.2.2.1) ?_
  simp only [Bool.not_true, cond_false]
  refine Ev.bind (eqEventS_ev _ h.2.2.2.2.2.2.1) ?_
  simp only [Bool.not_true, cond_false]
  refine Ev.bind (eqAcceptS_ev _ h.2.2.2.2.2.2.2.1) ?_
  simp only [Bool.not_true, cond_false]
  refine Ev.bind (eqIntS_ev _ h.2.2.2.2.2.2.2.2) ?_
  simp only [Bool.not_true, cond_false]
  exact Ev.pure _
theorem okcvKnown {a : Tlaws_Known} (h : smKnown a) : okKnown (cvKnown a) := ⟨(by have := h.1; (try simp only [smKnown] at this); simp only [okKnown, cvKnown]; omega), (by have := h.2; (try simp only [smKnown] at this); simp only [okKnown, cvKnown]; omega)⟩
theorem okcvConfig {a : Tlaws_Config} (h : smConfig a) : okConfig (cvConfig a) := ⟨(by have := h.1; (try simp only [smConfig] at this); simp only [okConfig, cvConfig]; omega), (by have := h.2.1; (try simp only [smConfig] at this); simp only [okConfig, cvConfig]; omega), (by have := h.2.2.1; (try simp only [smConfig] at this); simp only [okConfig, cvConfig, List.length_map]; omega), (by have := h.2.2.2; (try simp only [smConfig] at this); simp only [okConfig, cvConfig, List.length_map]; omega)⟩
theorem okcvCache {a : Tlaws_Cache} (h : smCache a) : okCache (cvCache a) := (by have := h; (try simp only [smCache] at this); simp only [okCache, cvCache, List.length_map]; omega)
theorem okcvAccept {a : Tlaws_Accept} (h : smAccept a) : okAccept (cvAccept a) := ⟨(by have := h.1; (try simp only [smAccept] at this); simp only [okAccept, cvAccept]; omega), (by have := h.2.1; (try simp only [smAccept] at this); simp only [okAccept, cvAccept]; omega)⟩
theorem okcvWorld {a : Tlaws_World} (h : smWorld a) : okWorld (cvWorld a) := ⟨okcvConfig h.1, (by have := h.2.1; (try simp only [smWorld] at this); simp only [okWorld, cvWorld]; omega), okcvKnown h.2.2.1, (by have := h.2.2.2.1; (try simp only [smWorld] at this); simp only [okWorld, cvWorld, List.length_map]; omega), (by have := h.2.2.2.2.1.1; (try simp only [smWorld] at this); simp only [okWorld, cvWorld, List.length_map]; omega), ⟨(by have := h.2.2.2.2.2.1.1; (try simp only [smWorld] at this); simp only [okWorld, cvWorld, List.length_map]; omega), fun x hx => by obtain ⟨y, hy, rfl⟩ := List.mem_map.1 hx; exact okcvCache (h.2.2.2.2.2.1.2 y hy)⟩, (by have := h.2.2.2.2.2.2.1; (try simp only [smWorld] at this); simp only [okWorld, cvWorld, List.length_map]; omega), ⟨(by have := h.2.2.2.2.2.2.2.1.1; (try simp only [smWorld] at this); simp only [okWorld, cvWorld, List.length_map]; omega), fun x hx => by obtain ⟨y, hy, rfl⟩ := List.mem_map.1 hx; exact okcvAccept (h.2.2.2.2.2.2.2.1.2 y hy)⟩, (by have := h.2.2.2.2.2.2.2.2; (try simp only [smWorld] at this); simp only [okWorld, cvWorld]; omega)⟩
theorem wk_cv {a : Tlaws_World} (w : wfTlaws_World a) (s : smWorld a) : WkSm (cvWorld a) := by
  obtain ⟨s1, s2, s3, s4, s5, s6, s7, s8, s9⟩ := s
  refine ⟨?_, s2, ⟨s3.1.1, s3.2, s3.1.2⟩, by simpa [cvWorld] using s4, ⟨by simpa [cvWorld] using s5.1, fun x hx => ?_⟩, ⟨by simpa [cvWorld] using s6.1, fun x hx => ?_⟩, ⟨by simpa [cvWorld] using s8.1, fun x hx => ?_⟩⟩
  · obtain ⟨c1, c2, c3, c4⟩ := s1
    exact ⟨c1, c2, by simpa [cvWorld, cvConfig] using c3, by simpa [cvWorld, cvConfig] using c4⟩
  · obtain ⟨y, hy, rfl⟩ := List.mem_map.1 hx
    exact ⟨s5.2 y hy, (w.2.2.2.2.2.2.1.2 y hy).2.2.1⟩
  · obtain ⟨y, hy, rfl⟩ := List.mem_map.1 hx
    have := s6.2 y hy
    simpa [cvCache, smCache] using this
  · obtain ⟨y, hy, rfl⟩ := List.mem_map.1 hx
    have := s8.2 y hy
    exact ⟨this.1, this.2.1⟩
/-- A request that was taken before. -/
def hitB (a b : Timpl_Accept) : Bool := (a.Server == b.Server) && ((a.Auth.Client == b.Auth.Client) && ((a.Auth.Time == b.Auth.Time) && ((a.Auth.Seq == b.Auth.Seq) && true)))
def onceB (l : List Timpl_Accept) : Bool := allI (fun i a => (l.take i).all fun b => !hitB a b) 0 l
theorem sOnceIn {w : Timpl_World} (hl : w.Accepts.length ≤ 1048576) {i : Nat} {a : Timpl_Accept} (ha : w.Accepts[i]? = some a) (r : Bool) : ∀ (m j : Nat) (cl : Nat → Int → Timpl_World → Option Bool), j + m = i → Ev (fun n => cl n ((i + 1 : Nat) : Int) w) r →
    Ev (fun k => Fspec_Once.l49 (cl k) k (i : Int) (j : Int) w) (((w.Accepts.take i).drop j).all (fun b => !hitB a b) && r) := by
  have hi := (List.getElem?_eq_some_iff.1 ha).1
  intro m
  induction m with
  | zero =>
    intro j cl hj hr
    refine Ev.succ ?_
    simp only [Fspec_Once.l49]
    rw [decide_eq_false (by omega), wid1 (by omega), List.drop_of_length_le (by rw [List.length_take]; omega)]
    simpa using hr.shift
  | succ m ih =>
    intro j cl hj hr
    obtain ⟨b, hb⟩ := atLt (xs := w.Accepts) (i := j) (by omega)
    have hb2 : (w.Accepts.take i)[j]? = some b := by rw [List.getElem?_take, if_pos (by omega), hb]
    have hd : (w.Accepts.take i).drop j = b :: (w.Accepts.take i).drop (j + 1) := by
      obtain ⟨g1, g2⟩ := List.getElem?_eq_some_iff.1 hb2
      rw [List.drop_eq_getElem_cons g1, g2]
    refine Ev.succ ?_
    simp only [Fspec_Once.l49, Fspec_Once.j50]
    rw [decide_eq_true (by omega), wid1 (by omega), hd, List.all_cons]
    simp only [cond_true]
    have hn := ih (j + 1) (fun n => cl (n + 1)) (by omega) hr.shift
    refine Ev.at? ha (Ev.at? hb (Ev.ite (fun h1 => Ev.at? ha (Ev.at? hb (Ev.ite (fun h2 => ?_) (fun h2 => ?_)))) (fun h1 => ?_)))
    · refine (Ev.pure _).to ?_
      unfold hitB; rw [h1, h2]; rfl
    · refine hn.to ?_
      unfold hitB; rw [h1, h2]; simp
    · refine hn.to ?_
      unfold hitB; rw [h1]; simp
theorem sOnce {w : Timpl_World} (h : WkSm w) : Ev (fun k => Fspec_Once k w) (worldB w && onceB w.Accepts) := by
  have hl := h.accepts.1
  simp only [Fspec_Once]
  refine Ev.andN (sWorld h) (Ev.to (a := onceB w.Accepts && true) ?_ (Bool.and_true _))
  refine Ev.allI (xs := w.Accepts) (L := fun k i => Fspec_Once.l42 k i w) (g := fun i a => (w.Accepts.take i).all fun b => !hitB a b) (by simp only [Fspec_Once.l42, ltD0, cond_false]; exact Ev.pure _) (fun i b r hb hi hr => ?_)
  simp only [Fspec_Once.l42, ltD hi, cond_true]
  exact (sOnceIn hl hb r i 0 (fun n => Fspec_Once.l42 n) (by omega) hr).to (by simp)
theorem iOnceIn {l : List Timpl_Accept} (a : Timpl_Accept) (hl : l.length ≤ 1048576) : Ev (fun k => Fslices_ContainsFunc_Accept__impl_Once_1 k l a) (l.any (hitB a), a) := by
  simp only [Fslices_ContainsFunc_Accept__impl_Once_1, Fslices_IndexFunc_Accept__impl_Once_1]
  have hf : Ev (fun k => Fslices_IndexFunc_Accept__impl_Once_1.l2 k l (l.length : Int) 0 a) (firstOf (hitB a) (fun j => ((j : Int), a)) (-1, a) 0 l) := by
    refine Ev.find (xs := l) (L := fun k i => Fslices_IndexFunc_Accept__impl_Once_1.l2 k l (l.length : Int) i a) (by simp only [Fslices_IndexFunc_Accept__impl_Once_1.l2, ltD0, cond_false]; exact Ev.pure _) (fun i b r hb hi g1 g2 => ?_)
    simp only [Fslices_IndexFunc_Accept__impl_Once_1.l2, ltD hi, cond_true, Fimpl_Once_1, condF', Option.bind_some]
    refine Ev.at? hb ?_
    rw [wid1 (by omega)]
    refine Ev.ite (fun hc => ?_) (fun hc => g2 hc)
    rw [g1 hc]; exact Ev.pure _
  refine Ev.bind hf ((Ev.pure _).to ?_)
  have e1 := firstOf_map (p := hitB a) (g := fun j => ((j : Int), a)) (e := ((-1 : Int), a)) Prod.fst 0 l
  have e2 := firstOf_map (p := hitB a) (g := fun j => ((j : Int), a)) (e := ((-1 : Int), a)) Prod.snd 0 l
  simp only at e1 e2
  rw [e1, e2, idxAny]
  congr 1
  rcases firstOf_some (p := hitB a) (g := fun _ => a) (e := a) (i := 0) (xs := l) with ⟨j, b, _, _, h3⟩ | ⟨_, h2⟩
  · exact h3
  · exact h2
theorem iOnce {w : Timpl_World} (h : WkSm w) : Ev (fun k => Fimpl_Once k w) (worldB w && onceB w.Accepts) := by
  have hl := h.accepts.1
  simp only [Fimpl_Once]
  rw [Bool.and_comm]
  refine Ev.allI (xs := w.Accepts) (L := fun k i => Fimpl_Once.l2 k w (w.Accepts.length : Int) i) (g := fun i a => (w.Accepts.take i).all fun b => !hitB a b) ?_ (fun i b r hb hi hr => ?_)
  · simp only [Fimpl_Once.l2, ltD0, cond_false]
    exact Ev.fin (iWorld h)
  · simp only [Fimpl_Once.l2, ltD hi, cond_true, partI (Nat.le_of_lt hi), Option.bind_some]
    refine Ev.at? hb (Ev.bind (iOnceIn b (by rw [List.length_take]; omega)) ?_)
    rw [wid1 (by omega)]
    refine (Ev.andC hr).to ?_
    congr 1
    rw [List.all_eq_not_any_not]
    simp
theorem coreOnce (a0 : Tlaws_World) (w0 : wfTlaws_World a0) (s0 : smWorld a0) : ∃ r, Ev (fun k => Fspec_Once k (cvWorld a0)) r ∧ Ev (fun k => Fimpl_Once k (cvWorld a0)) r ∧ True :=
  ⟨_, sOnce (wk_cv w0 s0), iOnce (wk_cv w0 s0), trivial⟩
theorem lawExactOnce (a0 : Tlaws_World) (w0 : wfTlaws_World a0) : ∃ k, Flaws_FnExactOnce k a0 = some true := by
  refine Ev.get (f := fun k => Flaws_FnExactOnce k a0) ?_
  simp only [Flaws_FnExactOnce]
  obtain ⟨z1, hz1, hy1⟩ := szWorld_ev a0 w0 (1048576 : Int) (by omega) (by omega)
  refine Ev.bind hz1 ?_
  refine Ev.ite (fun _ => Ev.pure _) (fun hc => ?_)
  obtain ⟨_, _, s0⟩ := hy1.resolve_left (by simpa using hc)
  refine Ev.bind (toWorld_ev _ s0) ?_
  have l0_3 : (cvWorld a0).Net.length ≤ 1048576 := by simp only [cvWorld, List.length_map]; exact s0.2.1.1
  have l0_5 : (cvWorld a0).Waits.length ≤ 1048576 := by simp only [cvWorld, List.length_map]; exact s0.2.2.2.1
  have l0_6 : (cvWorld a0).Creds.length ≤ 1048576 := by simp only [cvWorld, List.length_map]; exact s0.2.2.2.2.1.1
  have l0_7 : (cvWorld a0).Caches.length ≤ 1048576 := by simp only [cvWorld, List.length_map]; exact s0.2.2.2.2.2.1.1
  have l0_8 : (cvWorld a0).Log.length ≤ 1048576 := by simp only [cvWorld, List.length_map]; exact s0.2.2.2.2.2.2.1
  have l0_9 : (cvWorld a0).Accepts.length ≤ 1048576 := by simp only [cvWorld, List.length_map]; exact s0.2.2.2.2.2.2.2.1.1
  have l0_10 : (cvWorld a0).Leaked.length ≤ 1048576 := by simp only [cvWorld, List.length_map]; exact s0.2.2.2.2.2.2.2.2
  obtain ⟨r, hs, hi, hr⟩ := coreOnce a0 w0 s0
  refine Ev.bind hs ?_
  refine Ev.bind (toWorld_ev _ s0) ?_
  refine Ev.bind hi ?_
  try simp only [bne_self_eq_false, cond_false]
  refine Ev.bind (toWorld_ev _ s0) ?_
  refine Ev.bind (eqWorld_ev _ (okcvWorld s0)) ?_
  simp only [Bool.not_true, cond_false]
  exact Ev.pure _

end Go.Proofs.YtgjbgakcfcomdaaGreat.M
