/- The program's NewWorld returns what the reference's returns, for all arguments. -/
import Derived.Test.YtgjbgakcfcomdaaFNewWorld
namespace Go.Proofs.Ytgjbgakcfcomdaa.M
open Go Go.MG
set_option linter.unusedVariables false
set_option linter.unusedSimpArgs false
theorem wid {n : Int} (h1 : -9223372036854775808 ≤ n) (h2 : n ≤ 9223372036854775807) : IntKind.i64.wrap n = n := by
  rw [IntKind.wrap_i64]; omega
theorem atN {α : Type} {xs : List α} {i : Nat} {b : α} (h : xs[i]? = some b) : at? xs (i : Int) = some b := by
  simp [at?, h]
theorem atLt {α : Type} {xs : List α} {i : Nat} (h : i < xs.length) : ∃ b, xs[i]? = some b := ⟨xs[i], List.getElem?_eq_getElem h⟩
theorem wid1 {i : Nat} (h : i ≤ 4611686018427387904) : IntKind.i64.wrap ((i : Int) + 1) = ((i + 1 : Nat) : Int) := by
  rw [wid (by omega) (by omega)]; omega
theorem ltD {i n : Nat} (h : i < n) : decide ((i : Int) < (n : Int)) = true := by simp; omega
theorem ltD0 {n : Nat} : decide ((n : Int) < (n : Int)) = false := by simp
theorem take_succ_get {α : Type} {xs : List α} {i : Nat} {b : α} (h : xs[i]? = some b) : xs.take (i + 1) = xs.take i ++ [b] := by
  rw [List.take_add_one, h]; rfl
/-- What a copy has become after some rounds. -/
theorem set_copy {α : Type} {xs : List α} {z b : α} {i : Nat} (h : xs[i]? = some b) : (xs.take i ++ List.replicate (xs.length - i) z).set i b = xs.take (i + 1) ++ List.replicate (xs.length - (i + 1)) z := by
  have hi := (List.getElem?_eq_some_iff.1 h).1
  rw [take_succ_get h, List.set_append_right _ _ (by simp; omega)]
  have e : xs.length - i = (xs.length - (i + 1)) + 1 := by omega
  rw [e, List.replicate_succ]
  have e2 : i - (xs.take i).length = 0 := by simp; omega
  rw [e2]
  simp
theorem get_copy {α : Type} {xs : List α} {z : α} {i : Nat} (h : i < xs.length) : (xs.take i ++ List.replicate (xs.length - i) z)[i]? = some z := by
  rw [List.getElem?_append_right (by simp; omega)]
  have : i - (xs.take i).length = 0 := by simp; omega
  rw [this, List.getElem?_replicate]
  simp; omega
/-- From some fuel on it answers so. -/
def Ev {α : Type} (f : Nat → Option α) (r : α) : Prop := ∃ n, ∀ k, n ≤ k → f k = some r
theorem Ev.pure {α : Type} (r : α) : Ev (fun _ => some r) r := ⟨0, fun _ _ => rfl⟩
theorem Ev.of {α : Type} {f : Nat → Option α} {r : α} (h : ∀ k, f k = some r) : Ev f r := ⟨0, fun k _ => h k⟩
theorem Ev.bind {α β : Type} {f : Nat → Option α} {g : Nat → α → Option β} {a : α} {r : β} (h : Ev f a) (h' : Ev (fun k => g k a) r) : Ev (fun k => (f k).bind (g k)) r := by
  obtain ⟨n, h⟩ := h
  obtain ⟨m, h'⟩ := h'
  refine ⟨max n m, fun k hk => ?_⟩
  show (f k).bind (g k) = some r
  rw [h k (by omega), Option.bind_some]
  exact h' k (by omega)
theorem Ev.succ {α : Type} {f : Nat → Option α} {r : α} (h : Ev (fun k => f (k + 1)) r) : Ev f r := by
  obtain ⟨n, h⟩ := h
  refine ⟨n + 1, fun k hk => ?_⟩
  obtain ⟨j, rfl⟩ : ∃ j, k = j + 1 := ⟨k - 1, by omega⟩
  exact h j (by omega)
theorem Ev.get {α : Type} {f : Nat → Option α} {r : α} (h : Ev f r) : ∃ k, f k = some r := by
  obtain ⟨n, h⟩ := h
  exact ⟨n, h n (Nat.le_refl _)⟩
theorem Ev.congr {α : Type} {f g : Nat → Option α} {r : α} (h : Ev f r) (e : ∀ k, g k = f k) : Ev g r := by
  obtain ⟨n, h⟩ := h
  exact ⟨n, fun k hk => (e k).trans (h k hk)⟩
theorem Ev.to {α : Type} {f : Nat → Option α} {a b : α} (h : Ev f a) (e : a = b) : Ev f b := e ▸ h
theorem Ev.ite {α : Type} {f g : Nat → Option α} {c : Bool} {r : α} (h1 : c = true → Ev f r) (h0 : c = false → Ev g r) : Ev (fun k => cond c (f k) (g k)) r := by
  cases c with
  | true => exact h1 rfl
  | false => exact h0 rfl
theorem Ev.at? {α β : Type} {xs : List α} {i : Nat} {b : α} {g : Nat → α → Option β} {r : β} (h : xs[i]? = some b) (h' : Ev (fun k => g k b) r) : Ev (fun k => (Go.MG.at? xs (i : Int)).bind (g k)) r := by
  have e := atN h
  simp only [e, Option.bind_some]
  exact h'
/-- A loop over a list: what it answers, told over what is left of it. -/
theorem Ev.forI {α S R : Type} {xs : List α} {L : Nat → S → Int → Option R} {f : List α → S → R} {I : Nat → S → Prop}
    (hnil : ∀ s, I xs.length s → Ev (fun k => L (k + 1) s (xs.length : Int)) (f [] s))
    (hcons : ∀ (i : Nat) (b : α) (s : S), xs[i]? = some b → i < xs.length → I i s → (∀ s', I (i + 1) s' → Ev (fun k => L k s' ((i + 1 : Nat) : Int)) (f (xs.drop (i + 1)) s')) → Ev (fun k => L (k + 1) s (i : Int)) (f (b :: xs.drop (i + 1)) s)) :
    ∀ (s : S), I 0 s → Ev (fun k => L k s 0) (f xs s) := by
  have key : ∀ (m i : Nat) (s : S), i + m = xs.length → I i s → Ev (fun k => L k s (i : Int)) (f (xs.drop i) s) := by
    intro m
    induction m with
    | zero =>
      intro i s hi hI
      have : i = xs.length := by omega
      subst this
      rw [List.drop_length]
      exact Ev.succ (hnil s hI)
    | succ m ih =>
      intro i s hi hI
      obtain ⟨b, hb⟩ := atLt (xs := xs) (i := i) (by omega)
      have hlt : i < xs.length := by omega
      have e : xs.drop i = b :: xs.drop (i + 1) := by
        rw [List.drop_eq_getElem_cons hlt]
        rw [List.getElem?_eq_getElem hlt] at hb
        cases hb; rfl
      rw [e]
      exact Ev.succ (hcons i b s hb hlt hI fun s' hs' => ih (i + 1) s' (by omega) hs')
  intro s hs
  have := key xs.length 0 s (by omega) hs
  simpa using this
theorem Ev.for {α S R : Type} {xs : List α} {L : Nat → S → Int → Option R} {f : List α → S → R}
    (hnil : ∀ s, Ev (fun k => L (k + 1) s (xs.length : Int)) (f [] s))
    (hcons : ∀ (i : Nat) (b : α) (s : S), xs[i]? = some b → i < xs.length → (∀ s', Ev (fun k => L k s' ((i + 1 : Nat) : Int)) (f (xs.drop (i + 1)) s')) → Ev (fun k => L (k + 1) s (i : Int)) (f (b :: xs.drop (i + 1)) s)) :
    ∀ (s : S), Ev (fun k => L k s 0) (f xs s) := fun s => Ev.forI (I := fun _ _ => True) (fun s _ => hnil s) (fun i b s hb hi _ h => hcons i b s hb hi fun s' => h s' trivial) s trivial
/-- A loop that copies by a map. -/
theorem Ev.copy {α β : Type} {xs : List α} {L : Nat → List β → Int → Option (List β)} {f : α → β} {z : β}
    (hnil : ∀ s, Ev (fun k => L (k + 1) s (xs.length : Int)) s)
    (hcons : ∀ (i : Nat) (b : α) (s : List β) (r : List β), xs[i]? = some b → i < xs.length → s[i]? = some z → Ev (fun k => L k (s.set i (f b)) ((i + 1 : Nat) : Int)) r → Ev (fun k => L (k + 1) s (i : Int)) r) :
    Ev (fun k => L k (List.replicate xs.length z) 0) (xs.map f) := by
  have key : ∀ (m i : Nat), i + m = xs.length → Ev (fun k => L k ((xs.map f).take i ++ List.replicate ((xs.map f).length - i) z) (i : Int)) (xs.map f) := by
    intro m
    induction m with
    | zero =>
      intro i hi
      have : i = xs.length := by omega
      subst this
      refine Ev.succ ((hnil _).to ?_)
      rw [List.length_map, Nat.sub_self, List.replicate_zero, List.append_nil]
      exact List.take_of_length_le (by simp)
    | succ m ih =>
      intro i hi
      obtain ⟨b, hb⟩ := atLt (xs := xs) (i := i) (by omega)
      have hb2 : (xs.map f)[i]? = some (f b) := by rw [List.getElem?_map, hb]; rfl
      refine Ev.succ (hcons i b _ _ hb (by omega) (get_copy (by rw [List.length_map]; omega)) ?_)
      rw [set_copy hb2]
      exact ih (i + 1) (by omega)
  have := key xs.length 0 (by omega)
  simpa using this
/-- A loop that stores what hangs on the place alone. -/
def markL {α β : Type} (g : Int → α → β) (w : Int) : Int → List α → List β
  | _, [] => []
  | n, x :: xs => g n x :: markL g w (n + w) xs
theorem markL_length {α β : Type} (g : Int → α → β) (w : Int) : ∀ (n : Int) (xs : List α), (markL g w n xs).length = xs.length
  | _, [] => rfl
  | n, x :: xs => by simp [markL, markL_length g w (n + w) xs]
theorem markL_get {α β : Type} {g : Int → α → β} {w : Int} : ∀ {n : Int} {xs : List α} {i : Nat} {x : α}, xs[i]? = some x → (markL g w n xs)[i]? = some (g (n + w * i) x)
  | n, [], i, x, h => by simp at h
  | n, y :: xs, 0, x, h => by simp at h; subst h; simp [markL]
  | n, y :: xs, i + 1, x, h => by
    simp only [List.getElem?_cons_succ] at h
    simp only [markL, List.getElem?_cons_succ]
    rw [markL_get h]
    congr 2
    rw [show ((i + 1 : Nat) : Int) = (i : Int) + 1 by omega, Int.mul_add]; omega
/-- It answers, and what it answers is so. -/
def EvP {α : Type} (f : Nat → Option α) (P : α → Prop) : Prop := ∃ r, Ev f r ∧ P r
theorem Ev.p {α : Type} {f : Nat → Option α} {r : α} {P : α → Prop} (h : Ev f r) (hp : P r) : EvP f P := ⟨r, h, hp⟩
theorem EvP.pure {α : Type} {r : α} {P : α → Prop} (h : P r) : EvP (fun _ => some r) P := ⟨r, Ev.pure r, h⟩
theorem EvP.bind {α β : Type} {f : Nat → Option α} {g : Nat → α → Option β} {P : α → Prop} {Q : β → Prop} (h : EvP f P) (h' : ∀ a, P a → EvP (fun k => g k a) Q) : EvP (fun k => (f k).bind (g k)) Q := by
  obtain ⟨a, h1, h2⟩ := h
  obtain ⟨r, h3, h4⟩ := h' a h2
  exact ⟨r, h1.bind h3, h4⟩
theorem EvP.ite {α : Type} {f g : Nat → Option α} {c : Bool} {P : α → Prop} (h1 : c = true → EvP f P) (h0 : c = false → EvP g P) : EvP (fun k => cond c (f k) (g k)) P := by
  cases c with
  | true => exact h1 rfl
  | false => exact h0 rfl
theorem EvP.succ {α : Type} {f : Nat → Option α} {P : α → Prop} (h : EvP (fun k => f (k + 1)) P) : EvP f P := by
  obtain ⟨r, h1, h2⟩ := h
  exact ⟨r, h1.succ, h2⟩
theorem EvP.at? {α β : Type} {xs : List α} {i : Nat} {b : α} {g : Nat → α → Option β} {P : β → Prop} (h : xs[i]? = some b) (h' : EvP (fun k => g k b) P) : EvP (fun k => (Go.MG.at? xs (i : Int)).bind (g k)) P := by
  obtain ⟨r, h1, h2⟩ := h'
  exact ⟨r, Ev.at? h h1, h2⟩
/-- A loop over a list, by an invariant. -/
theorem EvP.for {α S R : Type} {xs : List α} {L : Nat → S → Int → Option R} {P : R → Prop} (I : Nat → S → Prop)
    (hnil : ∀ s, I xs.length s → EvP (fun k => L (k + 1) s (xs.length : Int)) P)
    (hcons : ∀ (i : Nat) (b : α) (s : S), xs[i]? = some b → i < xs.length → I i s → (∀ s', I (i + 1) s' → EvP (fun k => L k s' ((i + 1 : Nat) : Int)) P) → EvP (fun k => L (k + 1) s (i : Int)) P) :
    ∀ (s : S), I 0 s → EvP (fun k => L k s 0) P := by
  have key : ∀ (m i : Nat) (s : S), i + m = xs.length → I i s → EvP (fun k => L k s (i : Int)) P := by
    intro m
    induction m with
    | zero =>
      intro i s hi hI
      have : i = xs.length := by omega
      subst this
      exact EvP.succ (hnil s hI)
    | succ m ih =>
      intro i s hi hI
      obtain ⟨b, hb⟩ := atLt (xs := xs) (i := i) (by omega)
      exact EvP.succ (hcons i b s hb (by omega) hI fun s' hs' => ih (i + 1) s' (by omega) hs')
  intro s hs
  simpa using key xs.length 0 s (by omega) hs
theorem widR {n : Int} (h1 : -9223372036854775808 ≤ n) (h2 : n ≤ 9223372036854775807) : IntKind.i64.wrap n = n := wid h1 h2
theorem atSet {α : Type} {xs : List α} {i : Nat} {y : α} (h : i < xs.length) : at? (xs.set i y) (i : Int) = some y := atN (by simp [h])
/-- A loop that stores into each place what hangs on the count. -/
theorem Ev.mark {α : Type} {L : Nat → List α → Int → Int → Option (Int × List α)} {g : Int → α → α} {w : Nat}
    (hnil : ∀ xs n, Ev (fun k => L (k + 1) xs n (xs.length : Int)) (n, xs))
    (hcons : ∀ (i : Nat) (b : α) (xs : List α) (n : Int) r, xs[i]? = some b → i < xs.length → 0 ≤ n → n + w ≤ 4611686018427387904 → xs.length ≤ 4611686018427387904 → Ev (fun k => L k (xs.set i (g n b)) (n + w) ((i + 1 : Nat) : Int)) r → Ev (fun k => L (k + 1) xs n (i : Int)) r)
    (xs : List α) (n : Int) (hn : 0 ≤ n) (hb : n + w * xs.length ≤ 4611686018427387904) (hl : xs.length ≤ 4611686018427387904) : Ev (fun k => L k xs n 0) (n + w * xs.length, markL g w n xs) := by
  have key : ∀ (m i : Nat) (ys : List α) (j : Int), i + m = ys.length → j = n + w * i → ys.length = xs.length → ys.take i = (markL g w n xs).take i → ys.drop i = xs.drop i → Ev (fun k => L k ys j (i : Int)) (n + w * xs.length, markL g w n xs) := by
    intro m
    induction m with
    | zero =>
      intro i ys j hi hj hl ht hd
      have e : i = ys.length := by omega
      subst e
      refine Ev.succ ((hnil ys j).to ?_)
      rw [List.take_of_length_le (Nat.le_refl _), List.take_of_length_le (by rw [markL_length]; omega)] at ht
      rw [hj, hl, ← ht]
    | succ m ih =>
      intro i ys j hi hj hl' ht hd
      obtain ⟨b, hb'⟩ := atLt (xs := ys) (i := i) (by omega)
      have hx : xs[i]? = some b := by
        have : (ys.drop i)[0]? = (xs.drop i)[0]? := by rw [hd]
        simp only [List.getElem?_drop, Nat.add_zero] at this
        rw [← this]; exact hb'
      have hw : (w : Int) * (i : Int) + w ≤ w * xs.length := by
        have : w * (i + 1) ≤ w * xs.length := Nat.mul_le_mul_left w (by omega)
        have h2 : ((w * (i + 1) : Nat) : Int) ≤ ((w * xs.length : Nat) : Int) := by omega
        rw [Int.natCast_mul, Int.natCast_mul] at h2
        rw [show ((i + 1 : Nat) : Int) = (i : Int) + 1 by omega, Int.mul_add] at h2
        omega
      have hw0 : (0 : Int) ≤ (w : Int) * (i : Int) := Int.mul_nonneg (by omega) (by omega)
      refine Ev.succ (hcons i b ys j _ hb' (by omega) (by omega) (by omega) (by omega) (ih (i + 1) (ys.set i (g j b)) (j + w) (by rw [List.length_set]; omega) ?_ (by rw [List.length_set]; exact hl') ?_ ?_))
      · rw [hj, show ((i + 1 : Nat) : Int) = (i : Int) + 1 by omega, Int.mul_add]; omega
      · have h1 : (ys.set i (g j b))[i]? = some (g j b) := List.getElem?_set_self (by omega)
        have h2 : (markL g w n xs)[i]? = some (g j b) := by rw [markL_get hx, hj]
        rw [take_succ_get h1, take_succ_get h2, ← ht, List.take_set_of_le (Nat.le_refl _)]
      · rw [List.drop_set_of_lt (by omega), ← List.drop_drop, ← List.drop_drop, hd]
  simpa using key xs.length 0 xs n (by omega) (by simp) rfl rfl rfl
/-- A loop that looks whether each place holds what was stored. -/
theorem Ev.held {α : Type} {L : Nat → List α → Int → Int → Option Int} {g : Int → α → α} {w : Nat} {xs : List α} {n : Int} (hn : 0 ≤ n) (hb : n + w * xs.length ≤ 4611686018427387904) (hl : xs.length ≤ 4611686018427387904)
    (hnil : ∀ (ys : List α) j, Ev (fun k => L (k + 1) ys j (ys.length : Int)) j)
    (hcons : ∀ (i : Nat) (b : α) (ys : List α) (j : Int) r, ys[i]? = some (g j b) → i < ys.length → 0 ≤ j → j + w ≤ 4611686018427387904 → ys.length ≤ 4611686018427387904 → Ev (fun k => L k ys (j + w) ((i + 1 : Nat) : Int)) r → Ev (fun k => L (k + 1) ys j (i : Int)) r) :
    Ev (fun k => L k (markL g w n xs) n 0) (n + w * xs.length) := by
  have hml := markL_length g w n xs
  have key : ∀ (m i : Nat) (j : Int), i + m = xs.length → j = n + w * i → Ev (fun k => L k (markL g w n xs) j (i : Int)) (n + w * xs.length) := by
    intro m
    induction m with
    | zero =>
      intro i j hi hj
      have e : i = (markL g w n xs).length := by omega
      subst e
      refine Ev.succ ((hnil _ j).to ?_)
      rw [hj, hml]
    | succ m ih =>
      intro i j hi hj
      obtain ⟨b, hx⟩ := atLt (xs := xs) (i := i) (by omega)
      have hw : (w : Int) * (i : Int) + w ≤ w * xs.length := by
        have : w * (i + 1) ≤ w * xs.length := Nat.mul_le_mul_left w (by omega)
        have h2 : ((w * (i + 1) : Nat) : Int) ≤ ((w * xs.length : Nat) : Int) := by omega
        rw [Int.natCast_mul, Int.natCast_mul] at h2
        rw [show ((i + 1 : Nat) : Int) = (i : Int) + 1 by omega, Int.mul_add] at h2
        omega
      have hw0 : (0 : Int) ≤ (w : Int) * (i : Int) := Int.mul_nonneg (by omega) (by omega)
      refine Ev.succ (hcons i b _ j _ ?_ (by omega) (by omega) (by omega) (by omega) (ih (i + 1) _ (by omega) ?_))
      · rw [markL_get hx, hj]
      · rw [hj, show ((i + 1 : Nat) : Int) = (i : Int) + 1 by omega, Int.mul_add]; omega
  simpa using key xs.length 0 n (by omega) (by simp)
/-- What is found first. -/
def firstOf {α R : Type} (p : α → Bool) (g : Nat → R) (e : R) : Nat → List α → R
  | _, [] => e
  | i, x :: xs => if p x then g i else firstOf p g e (i + 1) xs
theorem Ev.find {α R : Type} {xs : List α} {L : Nat → Int → Option R} {p : α → Bool} {g : Nat → R} {e : R}
    (hnil : Ev (fun k => L (k + 1) (xs.length : Int)) e)
    (hcons : ∀ (i : Nat) (b : α) (r : R), xs[i]? = some b → i < xs.length → (p b = true → r = g i) → (p b = false → Ev (fun k => L k ((i + 1 : Nat) : Int)) r) → Ev (fun k => L (k + 1) (i : Int)) r) :
    Ev (fun k => L k 0) (firstOf p g e 0 xs) := by
  have := Ev.for (xs := xs) (L := fun k (_ : Unit) i => L k i) (f := fun l _ => firstOf p g e (xs.length - l.length) l) (fun _ => by simpa [firstOf] using hnil) (fun i b _ hb hi h => by
    refine hcons i b _ hb hi (fun hp => ?_) (fun hp => ?_)
    · have : xs.length - (b :: List.drop (i + 1) xs).length = i := by simp; omega
      rw [this]; simp [firstOf, hp]
    · refine (h ()).to ?_
      have e1 : xs.length - (b :: List.drop (i + 1) xs).length = i := by simp; omega
      have e2 : xs.length - (List.drop (i + 1) xs).length = i + 1 := by simp; omega
      rw [e1, e2]; simp [firstOf, hp]) ()
  simpa using this
theorem firstOf_some {α R : Type} {p : α → Bool} {g : Nat → R} {e : R} : ∀ {i : Nat} {xs : List α}, (∃ j b, xs[j]? = some b ∧ p b = true ∧ firstOf p g e i xs = g (i + j)) ∨ ((∀ b ∈ xs, p b = false) ∧ firstOf p g e i xs = e)
  | i, [] => .inr ⟨by simp, rfl⟩
  | i, x :: xs => by
    cases hp : p x with
    | true => exact .inl ⟨0, x, rfl, hp, by simp [firstOf, hp]⟩
    | false =>
      rcases firstOf_some (p := p) (g := g) (e := e) (i := i + 1) (xs := xs) with ⟨j, b, h1, h2, h3⟩ | ⟨h1, h2⟩
      · exact .inl ⟨j + 1, b, by simpa using h1, h2, by simp only [firstOf, hp]; rw [show i + (j + 1) = i + 1 + j by omega]; exact h3⟩
      · refine .inr ⟨fun b hb => ?_, by simpa [firstOf, hp] using h2⟩
        rcases List.mem_cons.1 hb with rfl | hb
        · exact hp
        · exact h1 b hb
def isIn (x a b : Int) : Bool := decide (a ≤ x ∧ x ≤ b)
theorem sIn (k : Nat) (x a b : Int) : Fspec_l1In k x a b = some (isIn x a b) := by
  unfold Fspec_l1In isIn
  simp only [Bool.cond_decide]
  split
  all_goals
    refine congrArg some (Bool.eq_iff_iff.mpr ?_)
    simp only [decide_eq_true_eq, Bool.false_eq_true, false_iff]
    omega
theorem iIn (k : Nat) (x a b : Int) : Fimpl_within k x a b = some (isIn x a b) := sIn k x a b
def hasP (l : List Timpl_Pair) (p : Timpl_Pair) : Bool := l.any fun q => q.A == p.A && q.B == p.B
theorem partI {α : Type} {l : List α} {i : Nat} (h : i ≤ l.length) : part? l 0 (i : Int) = some (l.take i) := by
  unfold part?
  rw [if_pos (by omega)]; simp
theorem sHas (l : List Timpl_Pair) (p : Timpl_Pair) (hl : l.length ≤ 1048576) : Ev (fun k => Fspec_l6Has k l p) (hasP l p) := by
  simp only [Fspec_l6Has]
  refine Ev.for (xs := l) (L := fun k (_ : Unit) i => Fspec_l6Has.l2 k l i p) (f := fun l _ => hasP l p) (fun _ => by simp only [Fspec_l6Has.l2, ltD0, cond_false]; exact Ev.pure _) (fun i b _ hb hi h => ?_) ()
  simp only [Fspec_l6Has.l2, ltD hi, cond_true, Bool.and_true]
  refine Ev.at? hb ?_
  simp only [hasP, List.any_cons]
  refine Ev.ite (fun hc => ?_) (fun hc => ?_)
  · rw [hc]; exact Ev.pure _
  · rw [hc, wid1 (by omega)]; exact h ()
theorem iHas (l : List Timpl_Pair) (p : Timpl_Pair) (hl : l.length ≤ 1048576) : Ev (fun k => Fslices_Contains_Pair k l p) (hasP l p) := by
  simp only [Fslices_Contains_Pair, Fslices_Index_Pair]
  have : EvP (fun k => Fslices_Index_Pair.l2 k l (l.length : Int) (0 : Int) p) (fun r => decide (r ≥ 0) = hasP l p) := by
    have := Ev.find (xs := l) (L := fun k i => Fslices_Index_Pair.l2 k l (l.length : Int) i p) (p := fun b => (p.A == b.A) && (p.B == b.B)) (g := fun i => (i : Int)) (e := -1) (by simp only [Fslices_Index_Pair.l2, ltD0, cond_false]; exact Ev.pure _) (fun i b r hb hi h1 h0 => by
      simp only [Fslices_Index_Pair.l2, ltD hi, cond_true, Bool.and_true]
      refine Ev.at? hb (Ev.ite (fun hc => (Ev.pure _).to (h1 hc).symm) (fun hc => ?_))
      rw [wid1 (by omega)]; exact h0 hc)
    refine ⟨_, this, ?_⟩
    rcases firstOf_some (p := fun b : Timpl_Pair => (p.A == b.A) && (p.B == b.B)) (g := fun i => (i : Int)) (e := (-1 : Int)) (i := 0) (xs := l) with ⟨j, b, h1, h2, h3⟩ | ⟨h1, h2⟩
    · rw [h3, decide_eq_true (by omega)]
      symm
      unfold hasP
      rw [List.any_eq_true]
      refine ⟨b, List.mem_of_getElem? h1, ?_⟩
      simp only [Bool.and_eq_true, beq_iff_eq] at h2 ⊢
      exact ⟨h2.1.symm, h2.2.symm⟩
    · rw [h2, decide_eq_false (by omega)]
      symm
      unfold hasP
      rw [List.any_eq_false]
      intro b hb
      have := h1 b hb
      simp only [Bool.and_eq_false_iff, beq_eq_false_iff_ne, ne_eq] at this
      simp only [Bool.and_eq_true, beq_iff_eq, not_and]
      intro e1 e2
      rcases this with h | h
      · exact h e1.symm
      · exact h e2.symm
  obtain ⟨r, h1, h2⟩ := this
  exact Ev.bind h1 ((Ev.pure _).to h2)
def isR (x : Int) : Bool := isIn x 0 2
def linkB (p : Timpl_Pair) : Bool := isR p.A && (isR p.B && p.A != p.B)
def proxB (p : Timpl_Pair) : Bool := isR p.A && isR p.B
def prF (is : Timpl_Pair → Bool) : List Timpl_Pair → List Timpl_Pair → Bool
  | _, [] => true
  | seen, p :: r => is p && (!hasP seen p && prF is (seen ++ [p]) r)
def prOk (is : Timpl_Pair → Bool) (l : List Timpl_Pair) : Bool := decide (l.length ≤ 6) && prF is [] l
theorem isR_iff {x : Int} : isR x = true ↔ 0 ≤ x ∧ x ≤ 2 := by simp [isR, isIn]
theorem sPairs (l : List Timpl_Pair) (u : Bool) (hl : l.length ≤ 1048576) : Ev (fun k => Fspec_l6Pairs k l 3 u) (prOk (if u then linkB else proxB) l) := by
  simp only [Fspec_l6Pairs]
  unfold prOk
  refine Ev.ite (fun hc => ?_) (fun hc => ?_)
  · rw [decide_eq_false (by simp at hc; omega)]; exact Ev.pure _
  rw [decide_eq_true (by simp at hc; omega), Bool.true_and]
  have key : ∀ (g i : Nat), i + g = l.length → Ev (fun k => Fspec_l6Pairs.l7 k l 3 u (i : Int)) (prF (if u then linkB else proxB) (l.take i) (l.drop i)) := by
    intro g
    induction g with
    | zero =>
      intro i hi
      have : i = l.length := by omega
      subst this
      refine Ev.succ ?_
      simp only [Fspec_l6Pairs.l7, ltD0, cond_false, List.drop_length, prF]
      exact Ev.pure _
    | succ g ih =>
      intro i hi
      have hi2 : i < l.length := by omega
      obtain ⟨b, hb⟩ := atLt hi2
      have e : l.drop i = b :: l.drop (i + 1) := by
        obtain ⟨h1, h2⟩ := List.getElem?_eq_some_iff.1 hb
        rw [List.drop_eq_getElem_cons h1, h2]
      refine Ev.succ ?_
      simp only [Fspec_l6Pairs.l7, Fspec_l6Pairs.j8, ltD hi2, cond_true]
      rw [e]
      refine Ev.at? hb ?_
      simp only [prF]
      have hA : isR b.A = (!decide (b.A < 0) && !decide (b.A ≥ 3)) := by
        refine Bool.eq_iff_iff.2 ?_
        rw [isR_iff]; simp; omega
      have hB : isR b.B = (!decide (b.B < 0) && !decide (b.B ≥ 3)) := by
        refine Bool.eq_iff_iff.2 ?_
        rw [isR_iff]; simp; omega
      have hgo : Ev (fun k => (part? l 0 (i : Int)).bind fun b211 => (Fspec_l6Has k b211 b).bind fun r212 => cond r212 (some false) (Fspec_l6Pairs.l7 k l 3 u (IntKind.i64.wrap ((i : Int) + 1)))) (!hasP (l.take i) b && prF (if u then linkB else proxB) (l.take i ++ [b]) (l.drop (i + 1))) := by
        rw [partI (by omega)]
        simp only [Option.bind_some]
        refine Ev.bind (sHas _ _ (by rw [List.length_take]; omega)) (Ev.ite (fun hc => ?_) (fun hc => ?_))
        · rw [hc]; exact Ev.pure _
        · rw [hc, wid1 (by omega), ← take_succ_get hb]; exact ih (i + 1) (by omega)
      cases u with
      | true =>
        simp only [if_true, linkB, hA, hB] at hgo ⊢
        refine Ev.ite (fun hc => ?_) (fun hc => ?_)
        · rw [hc]; exact Ev.pure _
        refine Ev.ite (fun hc2 => ?_) (fun hc2 => ?_)
        · rw [hc, hc2]; exact Ev.pure _
        refine Ev.ite (fun hc3 => ?_) (fun hc3 => ?_)
        · rw [hc, hc2, hc3]; exact Ev.pure _
        refine Ev.ite (fun hc4 => ?_) (fun hc4 => ?_)
        · rw [hc, hc2, hc3, hc4]; exact Ev.pure _
        rw [hc, hc2, hc3, hc4]
        simp only [cond_true, Bool.not_false, Bool.true_and]
        refine Ev.ite (fun hc5 => ?_) (fun hc5 => ?_)
        · rw [show (b.A != b.B) = false by simpa using hc5]; exact Ev.pure _
        · rw [show (b.A != b.B) = true by simpa using hc5, Bool.true_and]; exact hgo
      | false =>
        simp only [Bool.false_eq_true, if_false, proxB, hA, hB] at hgo ⊢
        refine Ev.ite (fun hc => ?_) (fun hc => ?_)
        · rw [hc]; exact Ev.pure _
        refine Ev.ite (fun hc2 => ?_) (fun hc2 => ?_)
        · rw [hc, hc2]; exact Ev.pure _
        refine Ev.ite (fun hc3 => ?_) (fun hc3 => ?_)
        · rw [hc, hc2, hc3]; exact Ev.pure _
        refine Ev.ite (fun hc4 => ?_) (fun hc4 => ?_)
        · rw [hc, hc2, hc3, hc4]; exact Ev.pure _
        rw [hc, hc2, hc3, hc4]
        simp only [cond_false, Bool.not_false, Bool.true_and]
        exact hgo
  simpa using key l.length 0 (by omega)
theorem iPairs1 (l : List Timpl_Pair) (hl : l.length ≤ 1048576) : Ev (fun k => Fimpl_arePairs__impl_ConfigOk_1 k l) (prOk linkB l) := by
  simp only [Fimpl_arePairs__impl_ConfigOk_1]
  unfold prOk
  rw [Bool.and_comm]
  have key : ∀ (g i : Nat), i + g = l.length → Ev (fun k => Fimpl_arePairs__impl_ConfigOk_1.l2 k l (l.length : Int) (i : Int)) (prF linkB (l.take i) (l.drop i) && decide (l.length ≤ 6)) := by
    intro g
    induction g with
    | zero =>
      intro i hi
      have : i = l.length := by omega
      subst this
      refine Ev.succ ?_
      simp only [Fimpl_arePairs__impl_ConfigOk_1.l2, ltD0, cond_false, List.drop_length, prF, Bool.true_and]
      refine (Ev.pure _).to (Bool.eq_iff_iff.2 ?_)
      simp; omega
    | succ g ih =>
      intro i hi
      have hi2 : i < l.length := by omega
      obtain ⟨b, hb⟩ := atLt hi2
      have e : l.drop i = b :: l.drop (i + 1) := by
        obtain ⟨h1, h2⟩ := List.getElem?_eq_some_iff.1 hb
        rw [List.drop_eq_getElem_cons h1, h2]
      refine Ev.succ ?_
      simp only [Fimpl_arePairs__impl_ConfigOk_1.l2, ltD hi2, cond_true]
      rw [e]
      refine Ev.at? hb ?_
      simp only [prF]
      have hb1 : Ev (fun k => Fimpl_ConfigOk_1 k b) (linkB b) := by
        simp only [Fimpl_ConfigOk_1, Fimpl_isRealm, iIn, Option.bind_some]
        unfold linkB isR
        refine Ev.ite (fun hc => ?_) (fun hc => ?_)
        · rw [hc, Bool.true_and]
          refine Ev.ite (fun hc => ?_) (fun hc => ?_)
          · rw [hc]; exact Ev.pure _
          · rw [hc]; exact Ev.pure _
        · rw [hc]; exact Ev.pure _
      refine Ev.bind hb1 (Ev.ite (fun hc => ?_) (fun hc => ?_))
      · rw [show linkB b = false by simpa using hc]; exact Ev.pure _
      rw [show linkB b = true by simpa using hc, Bool.true_and, partI (by omega)]
      simp only [Option.bind_some]
      refine Ev.bind (iHas _ _ (by rw [List.length_take]; omega)) (Ev.ite (fun hc => ?_) (fun hc => ?_))
      · rw [hc]; exact Ev.pure _
      · rw [hc, wid1 (by omega), ← take_succ_get hb, Bool.not_false, Bool.true_and]; exact ih (i + 1) (by omega)
  simpa using key l.length 0 (by omega)
theorem iPairs2 (l : List Timpl_Pair) (hl : l.length ≤ 1048576) : Ev (fun k => Fimpl_arePairs__impl_ConfigOk_2 k l) (prOk proxB l) := by
  simp only [Fimpl_arePairs__impl_ConfigOk_2]
  unfold prOk
  rw [Bool.and_comm]
  have key : ∀ (g i : Nat), i + g = l.length → Ev (fun k => Fimpl_arePairs__impl_ConfigOk_2.l2 k l (l.length : Int) (i : Int)) (prF proxB (l.take i) (l.drop i) && decide (l.length ≤ 6)) := by
    intro g
    induction g with
    | zero =>
      intro i hi
      have : i = l.length := by omega
      subst this
      refine Ev.succ ?_
      simp only [Fimpl_arePairs__impl_ConfigOk_2.l2, ltD0, cond_false, List.drop_length, prF, Bool.true_and]
      refine (Ev.pure _).to (Bool.eq_iff_iff.2 ?_)
      simp; omega
    | succ g ih =>
      intro i hi
      have hi2 : i < l.length := by omega
      obtain ⟨b, hb⟩ := atLt hi2
      have e : l.drop i = b :: l.drop (i + 1) := by
        obtain ⟨h1, h2⟩ := List.getElem?_eq_some_iff.1 hb
        rw [List.drop_eq_getElem_cons h1, h2]
      refine Ev.succ ?_
      simp only [Fimpl_arePairs__impl_ConfigOk_2.l2, ltD hi2, cond_true]
      rw [e]
      refine Ev.at? hb ?_
      simp only [prF]
      have hb1 : Ev (fun k => Fimpl_ConfigOk_2 k b) (proxB b) := by
        simp only [Fimpl_ConfigOk_2, Fimpl_isService, iIn, Option.bind_some]
        unfold proxB isR
        refine Ev.ite (fun hc => ?_) (fun hc => ?_)
        · rw [hc, Bool.true_and]; exact Ev.pure _
        · rw [hc]; exact Ev.pure _
      refine Ev.bind hb1 (Ev.ite (fun hc => ?_) (fun hc => ?_))
      · rw [show proxB b = false by simpa using hc]; exact Ev.pure _
      rw [show proxB b = true by simpa using hc, Bool.true_and, partI (by omega)]
      simp only [Option.bind_some]
      refine Ev.bind (iHas _ _ (by rw [List.length_take]; omega)) (Ev.ite (fun hc => ?_) (fun hc => ?_))
      · rw [hc]; exact Ev.pure _
      · rw [hc, wid1 (by omega), ← take_succ_get hb, Bool.not_false, Bool.true_and]; exact ih (i + 1) (by omega)
  simpa using key l.length 0 (by omega)
def CfgSm (c : Timpl_Config) : Prop := c.UserRealm.length ≤ 1048576 ∧ c.ServiceRealm.length ≤ 1048576 ∧ c.Links.length ≤ 1048576 ∧ c.Proxy.length ≤ 1048576
theorem sAll (l : List Int) (hl : l.length = 3) : Ev (fun k => Fspec_l5All k l 3 3) (l.all isR) := by
  simp only [Fspec_l5All]
  rw [decide_eq_false (by omega)]
  simp only [cond_false]
  refine Ev.for (xs := l) (L := fun k (_ : Unit) i => Fspec_l5All.l2 k l 3 i) (f := fun l _ => l.all isR) (fun _ => by simp only [Fspec_l5All.l2, ltD0, cond_false]; exact Ev.pure _) (fun i b _ hb hi h => ?_) ()
  simp only [Fspec_l5All.l2, ltD hi, cond_true, List.all_cons]
  have hA : isR b = (!decide (b < 0) && !decide (b ≥ 3)) := by
    refine Bool.eq_iff_iff.2 ?_
    rw [isR_iff]; simp; omega
  rw [hA]
  refine Ev.at? hb (Ev.ite (fun hc => ?_) (fun hc => Ev.at? hb (Ev.ite (fun hc2 => ?_) (fun hc2 => ?_))))
  · rw [hc]; exact Ev.pure _
  · rw [hc, hc2]; exact Ev.pure _
  · rw [hc, hc2, wid1 (by omega)]; exact h ()
theorem iAll (l : List Int) (hl : l.length = 3) : Ev (fun k => Fimpl_areAll__impl_isRealm k l 3) (l.all isR) := by
  simp only [Fimpl_areAll__impl_isRealm]
  refine Ev.for (xs := l) (L := fun k (_ : Unit) i => Fimpl_areAll__impl_isRealm.l2 k l 3 (l.length : Int) i) (f := fun l _ => l.all isR) (fun _ => by simp only [Fimpl_areAll__impl_isRealm.l2, ltD0, cond_false]; rw [decide_eq_true (by omega)]; exact Ev.pure _) (fun i b _ hb hi h => ?_) ()
  simp only [Fimpl_areAll__impl_isRealm.l2, ltD hi, cond_true, Fimpl_isRealm, iIn, Option.bind_some, List.all_cons]
  refine Ev.at? hb (Ev.ite (fun hc => ?_) (fun hc => ?_))
  · rw [show isR b = false by simpa [isR] using hc]; exact Ev.pure _
  · rw [show isR b = true by simpa [isR] using hc, wid1 (by omega)]; exact h ()
def cfgOk (c : Timpl_Config) : Bool := decide (c.UserRealm.length = 3) && (c.UserRealm.all isR && (decide (c.ServiceRealm.length = 3) && (c.ServiceRealm.all isR && (prOk linkB c.Links && (prOk proxB c.Proxy && isIn c.Skew 0 20)))))
theorem beq3 (n : Nat) : (((n : Int) == 3) = decide (n = 3)) := by
  refine Bool.eq_iff_iff.2 ?_
  simp; omega
theorem sConfigOk {c : Timpl_Config} (h : CfgSm c) : Ev (fun k => Fspec_ConfigOk k c) (cfgOk c) := by
  obtain ⟨h1, h2, h3, h4⟩ := h
  simp only [Fspec_ConfigOk, sIn, Option.bind_some, beq3]
  unfold cfgOk
  refine Ev.ite (fun hc => ?_) (fun hc => by rw [hc]; exact Ev.pure _)
  rw [hc, Bool.true_and]
  refine Ev.bind (sAll _ (of_decide_eq_true hc)) (Ev.ite (fun hc => ?_) (fun hc => by rw [hc]; exact Ev.pure _))
  rw [hc, Bool.true_and]
  refine Ev.ite (fun hc => ?_) (fun hc => by rw [hc]; exact Ev.pure _)
  rw [hc, Bool.true_and]
  refine Ev.bind (sAll _ (of_decide_eq_true hc)) (Ev.ite (fun hc => ?_) (fun hc => by rw [hc]; exact Ev.pure _))
  rw [hc, Bool.true_and]
  refine Ev.bind (sPairs _ true h3) (Ev.ite (fun hc => ?_) (fun hc => ?_))
  · rw [show prOk linkB c.Links = true from hc, Bool.true_and]
    refine Ev.bind (sPairs _ false h4) (Ev.ite (fun hc => ?_) (fun hc => ?_))
    · rw [show prOk proxB c.Proxy = true from hc, Bool.true_and]; exact Ev.pure _
    · rw [show prOk proxB c.Proxy = false from hc]; exact Ev.pure _
  · rw [show prOk linkB c.Links = false from hc]; exact Ev.pure _
theorem iConfigOk {c : Timpl_Config} (h : CfgSm c) : Ev (fun k => Fimpl_ConfigOk k c) (cfgOk c) := by
  obtain ⟨h1, h2, h3, h4⟩ := h
  simp only [Fimpl_ConfigOk, iIn, Option.bind_some, beq3]
  refine Ev.bind (iPairs1 _ h3) (Ev.bind (iPairs2 _ h4) ?_)
  unfold cfgOk
  refine Ev.ite (fun ha => Ev.ite (fun hb => ?_) (fun hb => ?_)) (fun ha => ?_)
  · rw [ha, hb, Bool.true_and, Bool.true_and]
    refine Ev.ite (fun hc => ?_) (fun hc => by rw [hc]; exact Ev.pure _)
    rw [hc, Bool.true_and]
    refine Ev.bind (iAll _ (of_decide_eq_true hc)) (Ev.ite (fun hc => ?_) (fun hc => by rw [hc]; exact Ev.pure _))
    rw [hc, Bool.true_and]
    refine Ev.ite (fun hc => ?_) (fun hc => by rw [hc]; exact Ev.pure _)
    rw [hc, Bool.true_and]
    refine Ev.bind (iAll _ (of_decide_eq_true hc)) (Ev.ite (fun hc => ?_) (fun hc => by rw [hc]; exact Ev.pure _))
    rw [hc, Bool.true_and]
    exact Ev.pure _
  · rw [hb]; simp only [Bool.false_and, Bool.and_false]; exact Ev.pure _
  · rw [ha]; simp only [Bool.false_and, Bool.and_false]; exact Ev.pure _
def sumW {α : Type} (w : α → Nat) : List α → Nat
  | [] => 0
  | x :: xs => w x + sumW w xs
def markW {α : Type} (g : Int → α → α) (w : α → Nat) : Int → List α → List α
  | _, [] => []
  | n, x :: xs => g n x :: markW g w (n + w x) xs
theorem markW_length {α : Type} (g : Int → α → α) (w : α → Nat) : ∀ (n : Int) (xs : List α), (markW g w n xs).length = xs.length
  | _, [] => rfl
  | n, x :: xs => by simp only [markW, List.length_cons, markW_length g w]
theorem sumW_le {α : Type} {w : α → Nat} {c : Nat} : ∀ {xs : List α}, (∀ x ∈ xs, w x ≤ c) → sumW w xs ≤ c * xs.length
  | [], _ => by simp [sumW]
  | x :: xs, h => by
    have h1 := h x List.mem_cons_self
    have h2 := sumW_le (w := w) (xs := xs) fun y hy => h y (List.mem_cons_of_mem _ hy)
    simp only [sumW, List.length_cons, Nat.mul_add, Nat.mul_one]; omega
theorem set_mid {α : Type} (a : List α) (x y : α) (b : List α) : (a ++ x :: b).set a.length y = a ++ [y] ++ b := by
  rw [List.set_append_right _ _ (Nat.le_refl _), Nat.sub_self, List.set_cons_zero]; simp
theorem get_mid {α : Type} (a : List α) (x : α) (b : List α) : (a ++ x :: b)[a.length]? = some x := by
  rw [List.getElem?_append_right (Nat.le_refl _), Nat.sub_self]; rfl
theorem Ev.markW {α : Type} {L : Nat → List α → Int → Int → Option (Int × List α)} {g : Int → α → α} {w : α → Nat}
    (hnil : ∀ xs n, Ev (fun k => L (k + 1) xs n (xs.length : Int)) (n, xs))
    (hcons : ∀ (i : Nat) (b : α) (xs : List α) (n : Int) r, xs[i]? = some b → i < xs.length → 0 ≤ n → n + w b ≤ 4611686018427387904 → xs.length ≤ 4611686018427387904 → Ev (fun k => L k (xs.set i (g n b)) (n + w b) ((i + 1 : Nat) : Int)) r → Ev (fun k => L (k + 1) xs n (i : Int)) r) :
    ∀ (rest done : List α) (n : Int), 0 ≤ n → n + sumW w rest ≤ 4611686018427387904 → (done ++ rest).length ≤ 4611686018427387904 → Ev (fun k => L k (done ++ rest) n (done.length : Int)) (n + sumW w rest, done ++ M.markW g w n rest)
  | [], done, n, h0, hb, hl => by
    refine Ev.succ ?_
    have := hnil done n
    simpa [M.markW, sumW] using this
  | x :: rest, done, n, h0, hb, hl => by
    simp only [sumW] at hb
    have hw : (0 : Int) ≤ (sumW w rest : Int) := by omega
    have ih := Ev.markW hnil hcons rest (done ++ [g n x]) (n + w x) (by omega) (by omega) (by simpa using hl)
    refine Ev.succ (hcons done.length x (done ++ x :: rest) n _ (get_mid _ _ _) (by simp) h0 (by omega) hl ?_)
    rw [set_mid, show ((done.length + 1 : Nat) : Int) = ((done ++ [g n x]).length : Int) by simp]
    simp only [M.markW, sumW]
    rw [show n + ((w x + sumW w rest : Nat) : Int) = n + (w x : Int) + (sumW w rest : Int) by omega, show done ++ g n x :: M.markW g w (n + w x) rest = done ++ [g n x] ++ M.markW g w (n + w x) rest by simp]
    exact ih
theorem Ev.heldW {α : Type} {L : Nat → List α → Int → Int → Option Int} {g : Int → α → α} {w : α → Nat} {ys : List α} (hly : ys.length ≤ 4611686018427387904)
    (hnil : ∀ j, Ev (fun k => L (k + 1) ys j (ys.length : Int)) j)
    (hcons : ∀ (i : Nat) (b : α) (j : Int) r, ys[i]? = some (g j b) → i < ys.length → 0 ≤ j → j + w b ≤ 4611686018427387904 → Ev (fun k => L k ys (j + w b) ((i + 1 : Nat) : Int)) r → Ev (fun k => L (k + 1) ys j (i : Int)) r) :
    ∀ (rest done : List α) (n : Int), ys = done ++ M.markW g w n rest → 0 ≤ n → n + sumW w rest ≤ 4611686018427387904 → Ev (fun k => L k ys n (done.length : Int)) (n + sumW w rest)
  | [], done, n, h, h0, hb => by
    refine Ev.succ ?_
    have := hnil n
    rw [h] at this ⊢
    simpa [M.markW, sumW] using this
  | x :: rest, done, n, h, h0, hb => by
    simp only [sumW] at hb
    simp only [M.markW] at h
    have ih := Ev.heldW hly hnil hcons rest (done ++ [g n x]) (n + w x) (by rw [h]; simp) (by omega) (by omega)
    have hg : ys[done.length]? = some (g n x) := by rw [h]; exact get_mid _ _ _
    refine Ev.succ (hcons done.length x n _ hg (List.getElem?_eq_some_iff.1 hg).1 h0 (by omega) ?_)
    rw [show ((done.length + 1 : Nat) : Int) = ((done ++ [g n x]).length : Int) by simp]
    simp only [sumW]
    rw [show n + ((w x + sumW w rest : Nat) : Int) = n + (w x : Int) + (sumW w rest : Int) by omega]
    exact ih
theorem szIntS_ev (a : List Int) (w : (Go.MG.wfR Go.MG.wfI) a) (n : Int) (hn : 0 ≤ n) (hb : n ≤ 1048576) : EvP (fun k => Flaws_szIntS k a n) (fun r => r < 0 ∨ (0 ≤ r ∧ r ≤ n ∧ (a.length ≤ 1048576))) := by
  simp only [Flaws_szIntS]
  have hw := w.1; unfold big at hw
  rw [wid (n := n - (a.length : Int)) (by omega) (by omega)]
  refine EvP.ite (fun _ => EvP.pure (.inl (by decide))) (fun hc => ?_)
  have hc : ¬ n - (a.length : Int) < 0 := by simpa using hc
  exact EvP.pure (.inr ⟨by omega, by omega, by omega⟩)
def cvPair (a : Tlaws_Pair) : Timpl_Pair := ⟨a.A, a.B⟩
def smPair (a : Tlaws_Pair) : Prop := True
theorem szPairS_ev (a : List Tlaws_Pair) (w : (Go.MG.wfR wfTlaws_Pair) a) (n : Int) (hn : 0 ≤ n) (hb : n ≤ 1048576) : EvP (fun k => Flaws_szPairS k a n) (fun r => r < 0 ∨ (0 ≤ r ∧ r ≤ n ∧ (a.length ≤ 1048576))) := by
  simp only [Flaws_szPairS]
  have hw := w.1; unfold big at hw
  rw [wid (n := n - (a.length : Int)) (by omega) (by omega)]
  refine EvP.ite (fun _ => EvP.pure (.inl (by decide))) (fun hc => ?_)
  have hc : ¬ n - (a.length : Int) < 0 := by simpa using hc
  exact EvP.pure (.inr ⟨by omega, by omega, by omega⟩)
def cvConfig (a : Tlaws_Config) : Timpl_Config := ⟨a.UserRealm, a.ServiceRealm, (a.Links.map cvPair), (a.Proxy.map cvPair), a.Skew⟩
def smConfig (a : Tlaws_Config) : Prop := (a.UserRealm.length ≤ 1048576) ∧ (a.ServiceRealm.length ≤ 1048576) ∧ (a.Links.length ≤ 1048576) ∧ (a.Proxy.length ≤ 1048576)
theorem szConfig_ev (a : Tlaws_Config) (w : wfTlaws_Config a) (n : Int) (hn : 0 ≤ n) (hb : n ≤ 1048576) : EvP (fun k => Flaws_szConfig k a n) (fun r => r < 0 ∨ (0 ≤ r ∧ r ≤ n ∧ smConfig a)) := by
  simp only [Flaws_szConfig]
  refine EvP.bind (szIntS_ev a.UserRealm w.1 n (by omega) (by omega)) (fun r0 hr0 => ?_)
  refine EvP.ite (fun _ => EvP.pure (.inl (by decide))) (fun hc => ?_)
  obtain ⟨p0, q0, s0⟩ := hr0.resolve_left (by simpa using hc)
  refine EvP.bind (szIntS_ev a.ServiceRealm w.2.1 r0 (by omega) (by omega)) (fun r1 hr1 => ?_)
  refine EvP.ite (fun _ => EvP.pure (.inl (by decide))) (fun hc => ?_)
  obtain ⟨p1, q1, s1⟩ := hr1.resolve_left (by simpa using hc)
  refine EvP.bind (szPairS_ev a.Links w.2.2.1 r1 (by omega) (by omega)) (fun r2 hr2 => ?_)
  refine EvP.ite (fun _ => EvP.pure (.inl (by decide))) (fun hc => ?_)
  obtain ⟨p2, q2, s2⟩ := hr2.resolve_left (by simpa using hc)
  refine EvP.bind (szPairS_ev a.Proxy w.2.2.2.1 r2 (by omega) (by omega)) (fun r3 hr3 => ?_)
  refine EvP.ite (fun _ => EvP.pure (.inl (by decide))) (fun hc => ?_)
  obtain ⟨p3, q3, s3⟩ := hr3.resolve_left (by simpa using hc)
  exact EvP.pure (.inr ⟨by omega, by omega, s0, s1, s2, s3⟩)
theorem toIntS_ev (xs : List Int) (h : (xs.length ≤ 1048576)) : Ev (fun k => Flaws_toIntS k xs) xs := by
  have hl : xs.length ≤ 1048576 := h
  simp only [Flaws_toIntS]
  refine Ev.ite (fun _ => ?_) (fun hc => by rw [decide_eq_true (by omega)] at hc; cases hc)
  simp only [Int.toNat_natCast]
  refine Ev.to (a := xs.map id) ?_ (List.map_id xs)
  exact Ev.copy (xs := xs) (L := fun k s i => Flaws_toIntS.l2 k xs s i) (f := id) (z := (0 : Int)) (fun s => by simp only [Flaws_toIntS.l2, ltD0, cond_false]; exact Ev.pure _) (fun i b s r hb hi hz hr => by
    simp only [Flaws_toIntS.l2, ltD hi, cond_true]
    refine Ev.at? hb (Ev.at? hz ?_)
    rw [wid1 (by omega)]; simpa only [Int.toNat_natCast, id] using hr)
theorem toPair_ev (a : Tlaws_Pair) (h : smPair a) : Ev (fun k => Flaws_toPair k a) (cvPair a) := by
  simp only [Flaws_toPair]
  exact Ev.pure _
theorem toPairS_ev (xs : List Tlaws_Pair) (h : (xs.length ≤ 1048576)) : Ev (fun k => Flaws_toPairS k xs) (xs.map cvPair) := by
  have hl : xs.length ≤ 1048576 := h
  simp only [Flaws_toPairS]
  refine Ev.ite (fun _ => ?_) (fun hc => by rw [decide_eq_true (by omega)] at hc; cases hc)
  simp only [Int.toNat_natCast]
  exact Ev.copy (xs := xs) (L := fun k s i => Flaws_toPairS.l2 k xs s i) (f := cvPair) (z := (⟨(0 : Int), (0 : Int)⟩ : Timpl_Pair)) (fun s => by simp only [Flaws_toPairS.l2, ltD0, cond_false]; exact Ev.pure _) (fun i b s r hb hi hz hr => by
    simp only [Flaws_toPairS.l2, ltD hi, cond_true]
    refine Ev.at? hb (Ev.bind (toPair_ev b trivial) (Ev.at? hz ?_))
    rw [wid1 (by omega)]; simpa only [Int.toNat_natCast] using hr)
theorem toConfig_ev (a : Tlaws_Config) (h : smConfig a) : Ev (fun k => Flaws_toConfig k a) (cvConfig a) := by
  simp only [Flaws_toConfig]
  refine Ev.bind (toIntS_ev _ h.1) ?_
  refine Ev.bind (toIntS_ev _ h.2.1) ?_
  refine Ev.bind (toPairS_ev _ h.2.2.1) ?_
  refine Ev.bind (toPairS_ev _ h.2.2.2) ?_
  exact Ev.pure _
theorem eqIntS_ev (xs : List Int) (h : (xs.length ≤ 1099511627776)) : Ev (fun k => Flaws_eqIntS k xs xs) true := by
  have hl : xs.length ≤ 1099511627776 := h
  simp only [Flaws_eqIntS, bne_self_eq_false, cond_false]
  refine Ev.for (xs := xs) (L := fun k (_ : Unit) i => Flaws_eqIntS.l2 k xs xs i) (f := fun _ _ => true) (fun s => by simp only [Flaws_eqIntS.l2, ltD0, cond_false]; exact Ev.pure _) (fun i b s hb hi hr => ?_) ()
  simp only [Flaws_eqIntS.l2, ltD hi, cond_true]
  refine Ev.at? hb (Ev.at? hb (?_))
  simp only [bne_self_eq_false, Bool.not_true, cond_false]
  rw [wid1 (by omega)]; exact hr ()
theorem eqPair_ev (a : Timpl_Pair) : Ev (fun k => Flaws_eqPair k a a) true := by
  simp only [Flaws_eqPair, bne_self_eq_false, cond_false]
  exact Ev.pure _
theorem eqPairS_ev (xs : List Timpl_Pair) (h : (xs.length ≤ 1099511627776)) : Ev (fun k => Flaws_eqPairS k xs xs) true := by
  have hl : xs.length ≤ 1099511627776 := h
  simp only [Flaws_eqPairS, bne_self_eq_false, cond_false]
  refine Ev.for (xs := xs) (L := fun k (_ : Unit) i => Flaws_eqPairS.l2 k xs xs i) (f := fun _ _ => true) (fun s => by simp only [Flaws_eqPairS.l2, ltD0, cond_false]; exact Ev.pure _) (fun i b s hb hi hr => ?_) ()
  simp only [Flaws_eqPairS.l2, ltD hi, cond_true]
  refine Ev.at? hb (Ev.at? hb (Ev.bind (eqPair_ev b) ?_))
  simp only [bne_self_eq_false, Bool.not_true, cond_false]
  rw [wid1 (by omega)]; exact hr ()
def okConfig (a : Timpl_Config) : Prop := (a.UserRealm.length ≤ 1099511627776) ∧ (a.ServiceRealm.length ≤ 1099511627776) ∧ (a.Links.length ≤ 1099511627776) ∧ (a.Proxy.length ≤ 1099511627776)
theorem eqConfig_ev (a : Timpl_Config) (h : okConfig a) : Ev (fun k => Flaws_eqConfig k a a) true := by
  simp only [Flaws_eqConfig, bne_self_eq_false, cond_false]
  refine Ev.bind (eqIntS_ev _ h.1) ?_
  simp only [Bool.not_true, cond_false]
  refine Ev.bind (eqIntS_ev _ h.2.1) ?_
  simp only [Bool.not_true, cond_false]
  refine Ev.bind (eqPairS_ev _ h.2.2.1) ?_
  simp only [Bool.not_true, cond_false]
  refine Ev.bind (eqPairS_ev _ h.2.2.2) ?_
  simp only [Bool.not_true, cond_false]
  exact Ev.pure _
theorem eqStringS_ev (xs : List (List UInt8)) (h : (xs.length ≤ 1099511627776)) : Ev (fun k => Flaws_eqStringS k xs xs) true := by
  have hl : xs.length ≤ 1099511627776 := h
  simp only [Flaws_eqStringS, bne_self_eq_false, cond_false]
  refine Ev.for (xs := xs) (L := fun k (_ : Unit) i => Flaws_eqStringS.l2 k xs xs i) (f := fun _ _ => true) (fun s => by simp only [Flaws_eqStringS.l2, ltD0, cond_false]; exact Ev.pure _) (fun i b s hb hi hr => ?_) ()
  simp only [Flaws_eqStringS.l2, ltD hi, cond_true]
  refine Ev.at? hb (Ev.at? hb (?_))
  simp only [bne_self_eq_false, Bool.not_true, cond_false]
  rw [wid1 (by omega)]; exact hr ()
def okKnown (a : Timpl_Known) : Prop := (a.Terms.length ≤ 1099511627776) ∧ (a.Keys.length ≤ 1099511627776)
theorem eqKnown_ev (a : Timpl_Known) (h : okKnown a) : Ev (fun k => Flaws_eqKnown k a a) true := by
  simp only [Flaws_eqKnown, bne_self_eq_false, cond_false]
  refine Ev.bind (eqStringS_ev _ h.1) ?_
  simp only [Bool.not_true, cond_false]
  refine Ev.bind (eqIntS_ev _ h.2) ?_
  simp only [Bool.not_true, cond_false]
  exact Ev.pure _
theorem eqWait_ev (a : Timpl_Wait) : Ev (fun k => Flaws_eqWait k a a) true := by
  simp only [Flaws_eqWait, bne_self_eq_false, cond_false]
  exact Ev.pure _
theorem eqWaitS_ev (xs : List Timpl_Wait) (h : (xs.length ≤ 1099511627776)) : Ev (fun k => Flaws_eqWaitS k xs xs) true := by
  have hl : xs.length ≤ 1099511627776 := h
  simp only [Flaws_eqWaitS, bne_self_eq_false, cond_false]
  refine Ev.for (xs := xs) (L := fun k (_ : Unit) i => Flaws_eqWaitS.l2 k xs xs i) (f := fun _ _ => true) (fun s => by simp only [Flaws_eqWaitS.l2, ltD0, cond_false]; exact Ev.pure _) (fun i b s hb hi hr => ?_) ()
  simp only [Flaws_eqWaitS.l2, ltD hi, cond_true]
  refine Ev.at? hb (Ev.at? hb (Ev.bind (eqWait_ev b) ?_))
  simp only [bne_self_eq_false, Bool.not_true, cond_false]
  rw [wid1 (by omega)]; exact hr ()
theorem eqRest_ev (a : Timpl_Rest) : Ev (fun k => Flaws_eqRest k a a) true := by
  simp only [Flaws_eqRest, bne_self_eq_false, cond_false]
  exact Ev.pure _
theorem eqCred_ev (a : Timpl_Cred) : Ev (fun k => Flaws_eqCred k a a) true := by
  simp only [Flaws_eqCred, bne_self_eq_false, cond_false]
  refine Ev.bind (eqRest_ev _) ?_
  simp only [Bool.not_true, cond_false]
  exact Ev.pure _
theorem eqCredS_ev (xs : List Timpl_Cred) (h : (xs.length ≤ 1099511627776)) : Ev (fun k => Flaws_eqCredS k xs xs) true := by
  have hl : xs.length ≤ 1099511627776 := h
  simp only [Flaws_eqCredS, bne_self_eq_false, cond_false]
  refine Ev.for (xs := xs) (L := fun k (_ : Unit) i => Flaws_eqCredS.l2 k xs xs i) (f := fun _ _ => true) (fun s => by simp only [Flaws_eqCredS.l2, ltD0, cond_false]; exact Ev.pure _) (fun i b s hb hi hr => ?_) ()
  simp only [Flaws_eqCredS.l2, ltD hi, cond_true]
  refine Ev.at? hb (Ev.at? hb (Ev.bind (eqCred_ev b) ?_))
  simp only [bne_self_eq_false, Bool.not_true, cond_false]
  rw [wid1 (by omega)]; exact hr ()
theorem eqAuth_ev (a : Timpl_Auth) : Ev (fun k => Flaws_eqAuth k a a) true := by
  simp only [Flaws_eqAuth, bne_self_eq_false, cond_false]
  exact Ev.pure _
theorem eqAuthS_ev (xs : List Timpl_Auth) (h : (xs.length ≤ 1099511627776)) : Ev (fun k => Flaws_eqAuthS k xs xs) true := by
  have hl : xs.length ≤ 1099511627776 := h
  simp only [Flaws_eqAuthS, bne_self_eq_false, cond_false]
  refine Ev.for (xs := xs) (L := fun k (_ : Unit) i => Flaws_eqAuthS.l2 k xs xs i) (f := fun _ _ => true) (fun s => by simp only [Flaws_eqAuthS.l2, ltD0, cond_false]; exact Ev.pure _) (fun i b s hb hi hr => ?_) ()
  simp only [Flaws_eqAuthS.l2, ltD hi, cond_true]
  refine Ev.at? hb (Ev.at? hb (Ev.bind (eqAuth_ev b) ?_))
  simp only [bne_self_eq_false, Bool.not_true, cond_false]
  rw [wid1 (by omega)]; exact hr ()
def okCache (a : Timpl_Cache) : Prop := (a.Seen.length ≤ 1099511627776)
theorem eqCache_ev (a : Timpl_Cache) (h : okCache a) : Ev (fun k => Flaws_eqCache k a a) true := by
  simp only [Flaws_eqCache, bne_self_eq_false, cond_false]
  refine Ev.bind (eqAuthS_ev _ h) ?_
  simp only [Bool.not_true, cond_false]
  exact Ev.pure _
theorem eqCacheS_ev (xs : List Timpl_Cache) (h : (xs.length ≤ 1099511627776 ∧ ∀ x ∈ xs, okCache x)) : Ev (fun k => Flaws_eqCacheS k xs xs) true := by
  have hl : xs.length ≤ 1099511627776 := h.1
  simp only [Flaws_eqCacheS, bne_self_eq_false, cond_false]
  refine Ev.for (xs := xs) (L := fun k (_ : Unit) i => Flaws_eqCacheS.l2 k xs xs i) (f := fun _ _ => true) (fun s => by simp only [Flaws_eqCacheS.l2, ltD0, cond_false]; exact Ev.pure _) (fun i b s hb hi hr => ?_) ()
  simp only [Flaws_eqCacheS.l2, ltD hi, cond_true]
  refine Ev.at? hb (Ev.at? hb (Ev.bind (eqCache_ev b (h.2 b (List.mem_of_getElem? hb))) ?_))
  simp only [bne_self_eq_false, Bool.not_true, cond_false]
  rw [wid1 (by omega)]; exact hr ()
theorem eqEvent_ev (a : Timpl_Event) : Ev (fun k => Flaws_eqEvent k a a) true := by
  simp only [Flaws_eqEvent, bne_self_eq_false, cond_false]
  refine Ev.bind (eqRest_ev _) ?_
  simp only [Bool.not_true, cond_false]
  exact Ev.pure _
theorem eqEventS_ev (xs : List Timpl_Event) (h : (xs.length ≤ 1099511627776)) : Ev (fun k => Flaws_eqEventS k xs xs) true := by
  have hl : xs.length ≤ 1099511627776 := h
  simp only [Flaws_eqEventS, bne_self_eq_false, cond_false]
  refine Ev.for (xs := xs) (L := fun k (_ : Unit) i => Flaws_eqEventS.l2 k xs xs i) (f := fun _ _ => true) (fun s => by simp only [Flaws_eqEventS.l2, ltD0, cond_false]; exact Ev.pure _) (fun i b s hb hi hr => ?_) ()
  simp only [Flaws_eqEventS.l2, ltD hi, cond_true]
  refine Ev.at? hb (Ev.at? hb (Ev.bind (eqEvent_ev b) ?_))
  simp only [bne_self_eq_false, Bool.not_true, cond_false]
  rw [wid1 (by omega)]; exact hr ()
def okAccept (a : Timpl_Accept) : Prop := (a.Path.length ≤ 1099511627776) ∧ (a.Via.length ≤ 1099511627776)
theorem eqAccept_ev (a : Timpl_Accept) (h : okAccept a) : Ev (fun k => Flaws_eqAccept k a a) true := by
  simp only [Flaws_eqAccept, bne_self_eq_false, cond_false]
  refine Ev.bind (eqAuth_ev _) ?_
  simp only [Bool.not_true, cond_false]
  refine Ev.bind (eqRest_ev _) ?_
  simp only [Bool.not_true, cond_false]
  refine Ev.bind (eqIntS_ev _ h.1) ?_
  simp only [Bool.not_true, cond_false]
  refine Ev.bind (eqIntS_ev _ h.2) ?_
  simp only [Bool.not_true, cond_false]
  exact Ev.pure _
theorem eqAcceptS_ev (xs : List Timpl_Accept) (h : (xs.length ≤ 1099511627776 ∧ ∀ x ∈ xs, okAccept x)) : Ev (fun k => Flaws_eqAcceptS k xs xs) true := by
  have hl : xs.length ≤ 1099511627776 := h.1
  simp only [Flaws_eqAcceptS, bne_self_eq_false, cond_false]
  refine Ev.for (xs := xs) (L := fun k (_ : Unit) i => Flaws_eqAcceptS.l2 k xs xs i) (f := fun _ _ => true) (fun s => by simp only [Flaws_eqAcceptS.l2, ltD0, cond_false]; exact Ev.pure _) (fun i b s hb hi hr => ?_) ()
  simp only [Flaws_eqAcceptS.l2, ltD hi, cond_true]
  refine Ev.at? hb (Ev.at? hb (Ev.bind (eqAccept_ev b (h.2 b (List.mem_of_getElem? hb))) ?_))
  simp only [bne_self_eq_false, Bool.not_true, cond_false]
  rw [wid1 (by omega)]; exact hr ()
def okWorld (a : Timpl_World) : Prop := okConfig a.Config ∧ (a.Net.length ≤ 1099511627776) ∧ okKnown a.Known ∧ (a.Waits.length ≤ 1099511627776) ∧ (a.Creds.length ≤ 1099511627776) ∧ (a.Caches.length ≤ 1099511627776 ∧ ∀ x ∈ a.Caches, okCache x) ∧ (a.Log.length ≤ 1099511627776) ∧ (a.Accepts.length ≤ 1099511627776 ∧ ∀ x ∈ a.Accepts, okAccept x) ∧ (a.Leaked.length ≤ 1099511627776)
theorem eqWorld_ev (a : Timpl_World) (h : okWorld a) : Ev (fun k => Flaws_eqWorld k a a) true := by
  simp only [Flaws_eqWorld, bne_self_eq_false, cond_false]
  refine Ev.bind (eqConfig_ev _ h.1) ?_
  simp only [Bool.not_true, cond_false]
  refine Ev.bind (eqStringS_ev _ h.2.1) ?_
  simp only [Bool.not_true, cond_false]
  refine Ev.bind (eqKnown_ev _ h.2.2.1) ?_
  simp only [Bool.not_true, cond_false]
  refine Ev.bind (eqWaitS_ev _ h.2.2.2.1) ?_
  simp only [Bool.not_true, cond_false]
  refine Ev.bind (eqCredS_ev _ h.2.2.2.2.1) ?_
  simp only [Bool.not_true, cond_false]
  refine Ev.bind (eqCacheS_ev _ h.2.2.2.2.2.1) ?_
  simp only [Bool.not_true, cond_false]
  refine Ev.bind (eqEventS_ev _ h.2.2.2.2.2.2.1) ?_
  simp only [Bool.not_true, cond_false]
  refine Ev.bind (eqAcceptS_ev _ h.2.2.2.2.2.2.2.1) ?_
  simp only [Bool.not_true, cond_false]
  refine Ev.bind (eqIntS_ev _ h.2.2.2.2.2.2.2.2) ?_
  simp only [Bool.not_true, cond_false]
  exact Ev.pure _
def mkIntS (n : Int) (_ : Int) : Int := n
theorem markIntS_ev (xs : List Int) (n : Int) (hn : 0 ≤ n) (hb : n + 1 * xs.length ≤ 4611686018427387904) (hl : xs.length ≤ 4611686018427387904) : Ev (fun k => Flaws_markIntS k xs n) (n + 1 * xs.length, markL mkIntS 1 n xs) := by
  simp only [Flaws_markIntS]
  refine Ev.mark (L := fun k xs n i => Flaws_markIntS.l2 k xs n i) (g := mkIntS) (w := 1) (fun xs n => by simp only [Flaws_markIntS.l2, ltD0, cond_false]; exact Ev.pure _) (fun i b xs n r hb hi h0 h1 h2 hr => ?_) xs n hn hb hl
  simp only [Flaws_markIntS.l2, ltD hi, cond_true]
  refine Ev.at? hb ?_
  simp (disch := omega) only [Int.toNat_natCast, List.set_set, atSet hi, Option.bind_some, widR, Int.add_assoc, Int.reduceAdd]
  exact hr
def mkPairS (n : Int) (_ : Timpl_Pair) : Timpl_Pair := (⟨n, (n + 1)⟩ : Timpl_Pair)
theorem markPairS_ev (xs : List Timpl_Pair) (n : Int) (hn : 0 ≤ n) (hb : n + 2 * xs.length ≤ 4611686018427387904) (hl : xs.length ≤ 4611686018427387904) : Ev (fun k => Flaws_markPairS k xs n) (n + 2 * xs.length, markL mkPairS 2 n xs) := by
  simp only [Flaws_markPairS]
  refine Ev.mark (L := fun k xs n i => Flaws_markPairS.l2 k xs n i) (g := mkPairS) (w := 2) (fun xs n => by simp only [Flaws_markPairS.l2, ltD0, cond_false]; exact Ev.pure _) (fun i b xs n r hb hi h0 h1 h2 hr => ?_) xs n hn hb hl
  simp only [Flaws_markPairS.l2, ltD hi, cond_true]
  refine Ev.at? hb ?_
  simp (disch := omega) only [Int.toNat_natCast, List.set_set, atSet hi, Option.bind_some, widR, Int.add_assoc, Int.reduceAdd]
  exact hr
def mkWaitS (n : Int) (_ : Timpl_Wait) : Timpl_Wait := (⟨(Int.tmod n 3 == 0), (n + 1), (n + 2), (n + 3)⟩ : Timpl_Wait)
theorem markWaitS_ev (xs : List Timpl_Wait) (n : Int) (hn : 0 ≤ n) (hb : n + 4 * xs.length ≤ 4611686018427387904) (hl : xs.length ≤ 4611686018427387904) : Ev (fun k => Flaws_markWaitS k xs n) (n + 4 * xs.length, markL mkWaitS 4 n xs) := by
  simp only [Flaws_markWaitS]
  refine Ev.mark (L := fun k xs n i => Flaws_markWaitS.l2 k xs n i) (g := mkWaitS) (w := 4) (fun xs n => by simp only [Flaws_markWaitS.l2, ltD0, cond_false]; exact Ev.pure _) (fun i b xs n r hb hi h0 h1 h2 hr => ?_) xs n hn hb hl
  simp only [Flaws_markWaitS.l2, ltD hi, cond_true]
  refine Ev.at? hb ?_
  simp (disch := omega) only [Int.toNat_natCast, List.set_set, atSet hi, Option.bind_some, widR, Int.add_assoc, Int.reduceAdd]
  exact hr
def mkAuthS (n : Int) (_ : Timpl_Auth) : Timpl_Auth := (⟨n, (n + 1), (n + 2)⟩ : Timpl_Auth)
theorem markAuthS_ev (xs : List Timpl_Auth) (n : Int) (hn : 0 ≤ n) (hb : n + 3 * xs.length ≤ 4611686018427387904) (hl : xs.length ≤ 4611686018427387904) : Ev (fun k => Flaws_markAuthS k xs n) (n + 3 * xs.length, markL mkAuthS 3 n xs) := by
  simp only [Flaws_markAuthS]
  refine Ev.mark (L := fun k xs n i => Flaws_markAuthS.l2 k xs n i) (g := mkAuthS) (w := 3) (fun xs n => by simp only [Flaws_markAuthS.l2, ltD0, cond_false]; exact Ev.pure _) (fun i b xs n r hb hi h0 h1 h2 hr => ?_) xs n hn hb hl
  simp only [Flaws_markAuthS.l2, ltD hi, cond_true]
  refine Ev.at? hb ?_
  simp (disch := omega) only [Int.toNat_natCast, List.set_set, atSet hi, Option.bind_some, widR, Int.add_assoc, Int.reduceAdd]
  exact hr
theorem heldIntS_ev (xs : List Int) (n : Int) (hn : 0 ≤ n) (hb : n + 1 * xs.length ≤ 4611686018427387904) (hl : xs.length ≤ 4611686018427387904) : Ev (fun k => Flaws_heldIntS k (markL mkIntS 1 n xs) n) (n + 1 * xs.length) := by
  simp only [Flaws_heldIntS]
  refine Ev.held (L := fun k xs n i => Flaws_heldIntS.l2 k xs n i) (g := mkIntS) (w := 1) hn hb hl (fun xs n => by simp only [Flaws_heldIntS.l2, ltD0, cond_false]; exact Ev.pure _) (fun i b xs n r hb hi h0 h1 h2 hr => ?_)
  simp only [Flaws_heldIntS.l2, ltD hi, cond_true]
  simp (disch := omega) only [atN hb, mkIntS, Option.bind_some, widR, Int.add_assoc, Int.reduceAdd, bne_self_eq_false, cond_false]
  exact hr
theorem heldPairS_ev (xs : List Timpl_Pair) (n : Int) (hn : 0 ≤ n) (hb : n + 2 * xs.length ≤ 4611686018427387904) (hl : xs.length ≤ 4611686018427387904) : Ev (fun k => Flaws_heldPairS k (markL mkPairS 2 n xs) n) (n + 2 * xs.length) := by
  simp only [Flaws_heldPairS]
  refine Ev.held (L := fun k xs n i => Flaws_heldPairS.l2 k xs n i) (g := mkPairS) (w := 2) hn hb hl (fun xs n => by simp only [Flaws_heldPairS.l2, ltD0, cond_false]; exact Ev.pure _) (fun i b xs n r hb hi h0 h1 h2 hr => ?_)
  simp only [Flaws_heldPairS.l2, ltD hi, cond_true]
  simp (disch := omega) only [atN hb, mkPairS, Option.bind_some, widR, Int.add_assoc, Int.reduceAdd, bne_self_eq_false, cond_false]
  exact hr
theorem heldWaitS_ev (xs : List Timpl_Wait) (n : Int) (hn : 0 ≤ n) (hb : n + 4 * xs.length ≤ 4611686018427387904) (hl : xs.length ≤ 4611686018427387904) : Ev (fun k => Flaws_heldWaitS k (markL mkWaitS 4 n xs) n) (n + 4 * xs.length) := by
  simp only [Flaws_heldWaitS]
  refine Ev.held (L := fun k xs n i => Flaws_heldWaitS.l2 k xs n i) (g := mkWaitS) (w := 4) hn hb hl (fun xs n => by simp only [Flaws_heldWaitS.l2, ltD0, cond_false]; exact Ev.pure _) (fun i b xs n r hb hi h0 h1 h2 hr => ?_)
  simp only [Flaws_heldWaitS.l2, ltD hi, cond_true]
  simp (disch := omega) only [atN hb, mkWaitS, Option.bind_some, widR, Int.add_assoc, Int.reduceAdd, bne_self_eq_false, cond_false]
  exact hr
theorem heldAuthS_ev (xs : List Timpl_Auth) (n : Int) (hn : 0 ≤ n) (hb : n + 3 * xs.length ≤ 4611686018427387904) (hl : xs.length ≤ 4611686018427387904) : Ev (fun k => Flaws_heldAuthS k (markL mkAuthS 3 n xs) n) (n + 3 * xs.length) := by
  simp only [Flaws_heldAuthS]
  refine Ev.held (L := fun k xs n i => Flaws_heldAuthS.l2 k xs n i) (g := mkAuthS) (w := 3) hn hb hl (fun xs n => by simp only [Flaws_heldAuthS.l2, ltD0, cond_false]; exact Ev.pure _) (fun i b xs n r hb hi h0 h1 h2 hr => ?_)
  simp only [Flaws_heldAuthS.l2, ltD hi, cond_true]
  simp (disch := omega) only [atN hb, mkAuthS, Option.bind_some, widR, Int.add_assoc, Int.reduceAdd, bne_self_eq_false, cond_false]
  exact hr
theorem okcvConfig {a : Tlaws_Config} (h : smConfig a) : okConfig (cvConfig a) := ⟨(by have := h.1; (try simp only [smConfig] at this); simp only [okConfig, cvConfig]; omega), (by have := h.2.1; (try simp only [smConfig] at this); simp only [okConfig, cvConfig]; omega), (by have := h.2.2.1; (try simp only [smConfig] at this); simp only [okConfig, cvConfig, List.length_map]; omega), (by have := h.2.2.2; (try simp only [smConfig] at this); simp only [okConfig, cvConfig, List.length_map]; omega)⟩
def mkCacheW (n : Int) (b : Timpl_Cache) : Timpl_Cache := ⟨n, markL mkAuthS 3 (n + 1) b.Seen⟩
def wCache (b : Timpl_Cache) : Nat := 1 + 3 * b.Seen.length
theorem markCacheS_evW (xs : List Timpl_Cache) (n : Int) (hn : 0 ≤ n) (hb : n + sumW wCache xs ≤ 4611686018427387904) (hl : xs.length ≤ 4611686018427387904) : Ev (fun k => Flaws_markCacheS k xs n) (n + sumW wCache xs, markW mkCacheW wCache n xs) := by
  simp only [Flaws_markCacheS]
  refine Ev.markW (L := fun k xs n i => Flaws_markCacheS.l2 k xs n i) (g := mkCacheW) (w := wCache) (fun xs n => by simp only [Flaws_markCacheS.l2, ltD0, cond_false]; exact Ev.pure _) (fun i b xs n r hb hi h0 h1 h2 hr => ?_) xs [] n hn hb hl
  have hw : (wCache b : Int) = 1 + 3 * b.Seen.length := by simp [wCache]
  simp only [Flaws_markCacheS.l2, ltD hi, cond_true]
  refine Ev.at? hb ?_
  simp (disch := omega) only [Int.toNat_natCast, List.set_set, atSet hi, Option.bind_some, widR]
  refine Ev.bind (markAuthS_ev b.Seen (n + 1) (by omega) (by omega) (by omega)) ?_
  have e : n + 1 + 3 * (b.Seen.length : Int) = n + (wCache b : Int) := by omega
  simp only [e]
  rw [show ((i : Int) + 1) = ((i + 1 : Nat) : Int) by omega]
  exact hr
theorem heldCacheS_evW (xs : List Timpl_Cache) (n : Int) (hn : 0 ≤ n) (hb : n + sumW wCache xs ≤ 4611686018427387904) (hl : xs.length ≤ 4611686018427387904) : Ev (fun k => Flaws_heldCacheS k (markW mkCacheW wCache n xs) n) (n + sumW wCache xs) := by
  simp only [Flaws_heldCacheS]
  refine Ev.heldW (L := fun k xs n i => Flaws_heldCacheS.l2 k xs n i) (g := mkCacheW) (w := wCache) (ys := markW mkCacheW wCache n xs) (by rw [markW_length]; exact hl) (fun n => by simp only [Flaws_heldCacheS.l2, ltD0, cond_false]; exact Ev.pure _) (fun i b j r hb hi h0 h1 hr => ?_) xs [] n rfl hn hb
  have hw : (wCache b : Int) = 1 + 3 * b.Seen.length := by simp [wCache]
  have hlm := markW_length mkCacheW wCache n xs
  simp only [Flaws_heldCacheS.l2, ltD hi, cond_true]
  simp (disch := omega) only [atN hb, mkCacheW, Option.bind_some, widR, bne_self_eq_false, cond_false]
  refine Ev.bind (heldAuthS_ev b.Seen (j + 1) (by omega) (by omega) (by omega)) ?_
  have e : j + 1 + 3 * (b.Seen.length : Int) = j + (wCache b : Int) := by omega
  rw [decide_eq_false (by omega)]
  simp only [cond_false, e]
  rw [show ((i : Int) + 1) = ((i + 1 : Nat) : Int) by omega]
  exact hr
theorem markConfig_evX (a : Timpl_Config) (h : CfgSm a) (n : Int) (hn : 0 ≤ n) (hb : n ≤ 1000000000) : Ev (fun k => Flaws_markConfig k a n) (n + 1 * a.UserRealm.length + 1 * a.ServiceRealm.length + 2 * a.Links.length + 2 * a.Proxy.length, markL mkIntS 1 n a.UserRealm, markL mkIntS 1 (n + 1 * a.UserRealm.length) a.ServiceRealm, markL mkPairS 2 (n + 1 * a.UserRealm.length + 1 * a.ServiceRealm.length) a.Links, markL mkPairS 2 (n + 1 * a.UserRealm.length + 1 * a.ServiceRealm.length + 2 * a.Links.length) a.Proxy) := by
  obtain ⟨h1, h2, h3, h4⟩ := h
  simp only [Flaws_markConfig]
  refine Ev.bind (markIntS_ev a.UserRealm n (by omega) (by omega) (by omega)) ?_
  refine Ev.bind (markIntS_ev a.ServiceRealm _ (by simp only; omega) (by simp only; omega) (by omega)) ?_
  refine Ev.bind (markPairS_ev a.Links _ (by simp only; omega) (by simp only; omega) (by omega)) ?_
  refine Ev.bind (markPairS_ev a.Proxy _ (by simp only; omega) (by simp only; omega) (by omega)) ?_
  exact Ev.pure _
theorem heldConfig_evX (a : Timpl_Config) (h : CfgSm a) (n : Int) (hn : 0 ≤ n) (hb : n ≤ 1000000000) (c : Int) : Ev (fun k => Flaws_heldConfig k ⟨markL mkIntS 1 n a.UserRealm, markL mkIntS 1 (n + 1 * a.UserRealm.length) a.ServiceRealm, markL mkPairS 2 (n + 1 * a.UserRealm.length + 1 * a.ServiceRealm.length) a.Links, markL mkPairS 2 (n + 1 * a.UserRealm.length + 1 * a.ServiceRealm.length + 2 * a.Links.length) a.Proxy, c⟩ n) (n + 1 * a.UserRealm.length + 1 * a.ServiceRealm.length + 2 * a.Links.length + 2 * a.Proxy.length) := by
  obtain ⟨h1, h2, h3, h4⟩ := h
  simp only [Flaws_heldConfig]
  refine Ev.bind (heldIntS_ev a.UserRealm n (by omega) (by omega) (by omega)) ?_
  refine Ev.ite (fun hc => absurd (of_decide_eq_true hc) (by omega)) (fun _ => ?_)
  refine Ev.bind (heldIntS_ev a.ServiceRealm _ (by omega) (by omega) (by omega)) ?_
  refine Ev.ite (fun hc => absurd (of_decide_eq_true hc) (by omega)) (fun _ => ?_)
  refine Ev.bind (heldPairS_ev a.Links _ (by omega) (by omega) (by omega)) ?_
  refine Ev.ite (fun hc => absurd (of_decide_eq_true hc) (by omega)) (fun _ => ?_)
  refine Ev.bind (heldPairS_ev a.Proxy _ (by omega) (by omega) (by omega)) ?_
  refine Ev.ite (fun hc => absurd (of_decide_eq_true hc) (by omega)) (fun _ => ?_)
  exact Ev.pure _
theorem nilAcceptM (n : Int) : Ev (fun k => Flaws_markAcceptS k [] n) (n, []) := by
  simp only [Flaws_markAcceptS]
  refine Ev.succ ?_
  simp only [Flaws_markAcceptS.l2, List.length_nil]
  exact Ev.pure _
theorem nilAcceptH (n : Int) : Ev (fun k => Flaws_heldAcceptS k [] n) n := by
  simp only [Flaws_heldAcceptS]
  refine Ev.succ ?_
  simp only [Flaws_heldAcceptS.l2, List.length_nil]
  exact Ev.pure _
theorem nilStringSM (n : Int) : Ev (fun k => Flaws_markStringS k [] n) (n, []) := by
  simp only [Flaws_markStringS]
  refine Ev.succ ?_
  simp only [Flaws_markStringS.l2, List.length_nil]
  exact Ev.pure _
theorem nilStringSH (n : Int) : Ev (fun k => Flaws_heldStringS k [] n) n := by
  simp only [Flaws_heldStringS]
  refine Ev.succ ?_
  simp only [Flaws_heldStringS.l2, List.length_nil]
  exact Ev.pure _
theorem nilCredSM (n : Int) : Ev (fun k => Flaws_markCredS k [] n) (n, []) := by
  simp only [Flaws_markCredS]
  refine Ev.succ ?_
  simp only [Flaws_markCredS.l2, List.length_nil]
  exact Ev.pure _
theorem nilCredSH (n : Int) : Ev (fun k => Flaws_heldCredS k [] n) n := by
  simp only [Flaws_heldCredS]
  refine Ev.succ ?_
  simp only [Flaws_heldCredS.l2, List.length_nil]
  exact Ev.pure _
theorem nilEventSM (n : Int) : Ev (fun k => Flaws_markEventS k [] n) (n, []) := by
  simp only [Flaws_markEventS]
  refine Ev.succ ?_
  simp only [Flaws_markEventS.l2, List.length_nil]
  exact Ev.pure _
theorem nilEventSH (n : Int) : Ev (fun k => Flaws_heldEventS k [] n) n := by
  simp only [Flaws_heldEventS]
  refine Ev.succ ?_
  simp only [Flaws_heldEventS.l2, List.length_nil]
  exact Ev.pure _
theorem nilKnownM (n : Int) (hn : 0 ≤ n) (hb : n ≤ 1000000000) : Ev (fun k => Flaws_markKnown k ⟨[], []⟩ n) (n, [], []) := by
  simp only [Flaws_markKnown]
  refine Ev.bind (nilStringSM n) ?_
  refine Ev.bind (markIntS_ev [] _ (by simp; omega) (by simp; omega) (by simp)) ?_
  exact (Ev.pure _).to (by simp [markL])
theorem nilKnownH (n : Int) (hn : 0 ≤ n) (hb : n ≤ 1000000000) : Ev (fun k => Flaws_heldKnown k ⟨[], []⟩ n) n := by
  simp only [Flaws_heldKnown]
  have h1 := nilStringSH n
  have h2 := heldIntS_ev [] n (by omega) (by simp; omega) (by simp)
  simp only [markL, List.length_nil, Int.natCast_zero, Int.mul_zero, Int.add_zero] at h2
  refine Ev.bind h1 ?_
  refine Ev.ite (fun hc => absurd (of_decide_eq_true hc) (by omega)) (fun _ => ?_)
  refine Ev.bind h2 ?_
  refine Ev.ite (fun hc => absurd (of_decide_eq_true hc) (by omega)) (fun _ => ?_)
  exact Ev.pure _
structure NwW (w : Timpl_World) : Prop where
  cfg : CfgSm w.Config
  net : w.Net = []
  known : w.Known = ⟨[], []⟩
  waits : w.Waits.length ≤ 6
  creds : w.Creds = []
  caches : w.Caches.length ≤ 3 ∧ ∀ x ∈ w.Caches, x.Seen = []
  log : w.Log = []
  accepts : w.Accepts = []
  leaked : w.Leaked = []
def newW (c : Timpl_Config) : Timpl_World := ⟨c, 0, 101, [], ⟨[], []⟩, List.replicate 6 ⟨false, 0, 0, 0⟩, [], List.replicate 3 ⟨-1, []⟩, [], [], []⟩
def noW : Timpl_World := ⟨⟨[], [], [], [], 0⟩, 0, 0, [], ⟨[], []⟩, [], [], [], [], [], []⟩
theorem capI {n : Nat} (h : n ≤ 1048576) {b : Nat} (hb : b ≤ 64) : decide ((2 * (([] : List Int).length + n) + 192) * b ≤ 281474976710656) = true := by
  have : (2 * (([] : List Int).length + n) + 192) * b ≤ (2 * (([] : List Int).length + n) + 192) * 64 := Nat.mul_le_mul_left _ hb
  simp only [List.length_nil] at this ⊢
  exact decide_eq_true (by omega)
theorem capP {n : Nat} (h : n ≤ 1048576) {b : Nat} (hb : b ≤ 64) : decide ((2 * (([] : List Timpl_Pair).length + n) + 192) * b ≤ 281474976710656) = true := by
  have : (2 * (([] : List Timpl_Pair).length + n) + 192) * b ≤ (2 * (([] : List Timpl_Pair).length + n) + 192) * 64 := Nat.mul_le_mul_left _ hb
  simp only [List.length_nil] at this ⊢
  exact decide_eq_true (by omega)
theorem sCopyC {c : Timpl_Config} (h : CfgSm c) : Ev (fun k => Fspec_l10CopyConfig k c) c := by
  obtain ⟨h1, h2, h3, h4⟩ := h
  simp only [Fspec_l10CopyConfig]
  rw [capI h1 (by omega), capI h2 (by omega), capP h3 (by omega), capP h4 (by omega)]
  simp only [cond_true, List.nil_append]
  exact Ev.pure _
theorem iCopyI {l : List Int} (h : l.length ≤ 1048576) : Ev (fun k => Fimpl_copyInts k l) l := by
  simp only [Fimpl_copyInts]
  rw [capI h (by omega)]
  simp only [cond_true, List.nil_append]
  exact Ev.pure _
theorem iCopyC {c : Timpl_Config} (h : CfgSm c) : Ev (fun k => Fimpl_copyConfig k c) c := by
  obtain ⟨h1, h2, h3, h4⟩ := h
  simp only [Fimpl_copyConfig]
  refine Ev.bind (iCopyI h1) (Ev.bind (iCopyI h2) ?_)
  rw [capP h3 (by omega), capP h4 (by omega)]
  simp only [cond_true, List.nil_append]
  exact Ev.pure _
theorem sNew {c : Timpl_Config} (h : CfgSm c) : Ev (fun k => Fspec_NewWorld k c) (if cfgOk c then (newW c, true) else (noW, false)) := by
  simp only [Fspec_NewWorld]
  refine Ev.bind (sConfigOk h) ?_
  refine Ev.ite (fun hc => ?_) (fun hc => ?_)
  · rw [if_neg (by intro e; rw [e] at hc; cases hc)]
    exact Ev.pure _
  · rw [if_pos (by simpa using hc)]
    refine Ev.bind (sCopyC h) ?_
    rw [decide_eq_true (by omega)]
    simp only [cond_true]
    refine Ev.succ (Ev.succ (Ev.succ (Ev.succ ?_)))
    simp only [Fspec_NewWorld.l2, Fspec_NewCache, Option.bind_some]
    exact Ev.of fun k => by rfl
theorem iNew {c : Timpl_Config} (h : CfgSm c) : Ev (fun k => Fimpl_NewWorld k c) (if cfgOk c then (newW c, true) else (noW, false)) := by
  simp only [Fimpl_NewWorld]
  refine Ev.bind (iConfigOk h) ?_
  refine Ev.ite (fun hc => ?_) (fun hc => ?_)
  · rw [if_neg (by intro e; rw [e] at hc; cases hc)]
    exact Ev.pure _
  · rw [if_pos (by simpa using hc)]
    refine Ev.bind (iCopyC h) ?_
    rw [decide_eq_true (by omega)]
    simp only [cond_true]
    refine Ev.succ (Ev.succ (Ev.succ (Ev.succ ?_)))
    simp only [Fimpl_NewWorld.l2, Fimpl_NewCache, Option.bind_some]
    exact Ev.of fun k => by rfl
theorem newNw {c : Timpl_Config} (h : CfgSm c) : NwW (if cfgOk c then (newW c, true) else (noW, false)).1 := by
  split
  · exact ⟨h, rfl, rfl, Nat.le_refl 6, rfl, ⟨Nat.le_refl 3, fun x hx => by rw [(List.mem_replicate.1 hx).2]⟩, rfl, rfl, rfl⟩
  · exact ⟨⟨by decide, by decide, by decide, by decide⟩, rfl, rfl, by decide, rfl, ⟨by decide, fun x hx => by cases hx⟩, rfl, rfl, rfl⟩
/-- The marks of a new world: how far they count, and what holds them. -/
theorem marksNw {w : Timpl_World} (h : NwW w) : ∃ (m : Int) (U S : List Int) (L P : List Timpl_Pair) (N T : List (List UInt8)) (K : List Int) (W : List Timpl_Wait) (C : List Timpl_Cred) (H : List Timpl_Cache) (E : List Timpl_Event) (A : List Timpl_Accept) (Q : List Int), 0 ≤ m ∧ Ev (fun k => Flaws_markWorld k w 1) (m, U, S, L, P, N, T, K, W, C, H, E, A, Q) ∧
    Ev (fun k => Flaws_heldWorld k ⟨⟨U, S, L, P, w.Config.Skew⟩, w.Now, w.Fresh, N, ⟨T, K⟩, W, C, H, E, A, Q⟩ 1) m := by
  obtain ⟨c, now, fresh, net, known, waits, creds, caches, log, accs, leaked⟩ := w
  obtain ⟨h1, h2, h3, h4, h5, h6, h7, h8, h9⟩ := h
  simp only at h1 h2 h3 h4 h5 h6 h7 h8 h9
  subst h2 h3 h5 h7 h8 h9
  obtain ⟨g1, g2, g3, g4⟩ := h1
  have hw : sumW wCache caches ≤ 1 * caches.length := sumW_le fun x hx => by simp [wCache, h6.2 x hx]
  have hc6 := h6.1
  have e1 := nilStringSM ((1 : Int) + 1 * c.UserRealm.length + 1 * c.ServiceRealm.length + 2 * c.Links.length + 2 * c.Proxy.length)
  have f1 := nilStringSH ((1 : Int) + 1 * c.UserRealm.length + 1 * c.ServiceRealm.length + 2 * c.Links.length + 2 * c.Proxy.length)
  have e2 := markConfig_evX c ⟨g1, g2, g3, g4⟩ 1 (by omega) (by omega)
  have f2 := heldConfig_evX c ⟨g1, g2, g3, g4⟩ 1 (by omega) (by omega) c.Skew
  generalize hn : (1 : Int) + 1 * c.UserRealm.length + 1 * c.ServiceRealm.length + 2 * c.Links.length + 2 * c.Proxy.length = n at e1 f1 e2 f2
  obtain ⟨U, S, L, P, e2, f2⟩ : ∃ U S L P, Ev (fun k => Flaws_markConfig k c 1) (n, U, S, L, P) ∧ Ev (fun k => Flaws_heldConfig k ⟨U, S, L, P, c.Skew⟩ 1) n := ⟨_, _, _, _, e2, f2⟩
  have hn0 : 0 ≤ n := by omega
  have hn1 : n ≤ 100000000 := by omega
  have e3 := markWaitS_ev waits n hn0 (by omega) (by omega)
  have f3 := heldWaitS_ev waits n hn0 (by omega) (by omega)
  generalize hm : n + 4 * (waits.length : Int) = m at e3 f3
  have e4 := nilCredSM m
  have f4 := nilCredSH m
  have e5 := markCacheS_evW caches m (by omega) (by omega) (by omega)
  have f5 := heldCacheS_evW caches m (by omega) (by omega) (by omega)
  generalize hp : m + (sumW wCache caches : Int) = p at e5 f5
  have e6 := nilEventSM p
  have f6 := nilEventSH p
  have e7 := markIntS_ev [] p (by omega) (by simp; omega) (by simp)
  have f7 := heldIntS_ev [] p (by omega) (by simp; omega) (by simp)
  simp only [markL, List.length_nil, Int.natCast_zero, Int.mul_zero, Int.add_zero] at e7 f7
  have key : Ev (fun k => Flaws_markWorld k ⟨c, now, fresh, [], ⟨[], []⟩, waits, [], caches, [], [], []⟩ 1) (p, U, S, L, P, [], [], [], markL mkWaitS 4 n waits, [], markW mkCacheW wCache m caches, [], [], []) := by
    simp only [Flaws_markWorld]
    exact Ev.bind e2 (Ev.bind e1 (Ev.bind (nilKnownM n hn0 (by omega)) (Ev.bind e3 (Ev.bind e4 (Ev.bind e5 (Ev.bind e6 (Ev.bind (nilAcceptM p) (Ev.bind e7 (Ev.pure _)))))))))
  refine ⟨p, _, _, _, _, _, _, _, _, _, _, _, _, _, by omega, key, ?_⟩
  · simp only [Flaws_heldWorld]
    refine Ev.bind f2 (Ev.ite (fun hc => absurd (of_decide_eq_true hc) (by omega)) (fun _ => ?_))
    refine Ev.bind f1 (Ev.ite (fun hc => absurd (of_decide_eq_true hc) (by omega)) (fun _ => ?_))
    refine Ev.bind (nilKnownH n hn0 (by omega)) (Ev.ite (fun hc => absurd (of_decide_eq_true hc) (by omega)) (fun _ => ?_))
    refine Ev.bind f3 (Ev.ite (fun hc => absurd (of_decide_eq_true hc) (by omega)) (fun _ => ?_))
    refine Ev.bind f4 (Ev.ite (fun hc => absurd (of_decide_eq_true hc) (by omega)) (fun _ => ?_))
    refine Ev.bind f5 (Ev.ite (fun hc => absurd (of_decide_eq_true hc) (by omega)) (fun _ => ?_))
    refine Ev.bind f6 (Ev.ite (fun hc => absurd (of_decide_eq_true hc) (by omega)) (fun _ => ?_))
    refine Ev.bind (nilAcceptH p) (Ev.ite (fun hc => absurd (of_decide_eq_true hc) (by omega)) (fun _ => ?_))
    refine Ev.bind f7 (Ev.ite (fun hc => absurd (of_decide_eq_true hc) (by omega)) (fun _ => ?_))
    exact Ev.pure _
theorem okNw {w : Timpl_World} (h : NwW w) : okWorld w := by
  obtain ⟨h1, h2, h3, h4, h5, h6, h7, h8, h9⟩ := h
  obtain ⟨g1, g2, g3, g4⟩ := h1
  refine ⟨⟨by omega, by omega, by omega, by omega⟩, by rw [h2]; simp, ?_, by omega, by rw [h5]; simp, ⟨by omega, fun x hx => ?_⟩, by rw [h7]; simp, ?_, by rw [h9]; simp⟩
  · rw [h3]; exact ⟨by simp, by simp⟩
  · show x.Seen.length ≤ _
    rw [h6.2 x hx]; simp
  · rw [h8]; exact ⟨by simp, fun x hx => by cases hx⟩
theorem lawExactNewWorld (a0 : Tlaws_Config) (w0 : wfTlaws_Config a0) : ∃ k, Flaws_FnExactNewWorld k a0 = some true := by
  refine Ev.get (f := fun k => Flaws_FnExactNewWorld k a0) ?_
  simp only [Flaws_FnExactNewWorld]
  obtain ⟨z1, hz1, hy1⟩ := szConfig_ev a0 w0 (1048576 : Int) (by omega) (by omega)
  refine Ev.bind hz1 ?_
  refine Ev.ite (fun _ => Ev.pure _) (fun hc => ?_)
  obtain ⟨_, _, s0⟩ := hy1.resolve_left (by simpa using hc)
  have hcs : CfgSm (cvConfig a0) := by
    obtain ⟨c1, c2, c3, c4⟩ := s0
    exact ⟨c1, c2, by simpa [cvConfig] using c3, by simpa [cvConfig] using c4⟩
  have hs := sNew hcs
  have hi := iNew hcs
  have hw := newNw hcs
  generalize (if cfgOk (cvConfig a0) then (newW (cvConfig a0), true) else (noW, false)) = r at hs hi hw
  obtain ⟨w, ok⟩ := r
  obtain ⟨m, U, S, L, P, N, T, K, W, C, H, E, A, Q, hm, mk1, hd1⟩ := marksNw hw
  refine Ev.bind (toConfig_ev _ s0) (Ev.bind hs (Ev.bind (toConfig_ev _ s0) (Ev.bind hi ?_)))
  refine Ev.bind (eqWorld_ev _ (okNw hw)) ?_
  simp only [Bool.not_true, cond_false, bne_self_eq_false]
  refine Ev.bind (toConfig_ev _ s0) (Ev.bind (eqConfig_ev _ (okcvConfig s0)) ?_)
  simp only [Bool.not_true, cond_false]
  refine Ev.bind (markConfig_evX _ hcs 1 (by omega) (by omega)) ?_
  refine Ev.ite (fun hc => absurd (of_decide_eq_true hc) (by simp only; omega)) (fun _ => ?_)
  refine Ev.bind (eqWorld_ev _ (okNw hw)) ?_
  simp only [Bool.not_true, cond_false, bne_self_eq_false]
  refine Ev.bind mk1 (Ev.bind hd1 ?_)
  refine Ev.ite (fun hc => absurd (of_decide_eq_true hc) (by omega)) (fun _ => ?_)
  simp only [cond_false, bne_self_eq_false]
  refine Ev.bind (toConfig_ev _ s0) (Ev.bind hi (Ev.bind (eqWorld_ev _ (okNw hw)) ?_))
  simp only [Bool.not_true, cond_false, bne_self_eq_false]
  refine Ev.bind hd1 ?_
  refine Ev.ite (fun hc => absurd (of_decide_eq_true hc) (by omega)) (fun _ => ?_)
  simp only [cond_false, bne_self_eq_false]
  exact Ev.pure _


end Go.Proofs.Ytgjbgakcfcomdaa.M
