/- The program's Concerns and the reference's are one function. Conditions: none. -/
import Derived.Test.YtcolcmjcjpikcaaFConcerns
namespace Go.Proofs.Ytcolcmjcjpikcaa.M
open Go Go.MG
set_option linter.unusedVariables false
set_option linter.unusedSimpArgs false
theorem wid {n : Int} (h1 : -9223372036854775808 ≤ n) (h2 : n ≤ 9223372036854775807) : IntKind.i64.wrap n = n := by
  rw [IntKind.wrap_i64]; omega
theorem atN {α : Type} {xs : List α} {i : Nat} {b : α} (h : xs[i]? = some b) : at? xs (i : Int) = some b := by
  simp [at?, h]
theorem atLt {α : Type} {xs : List α} {i : Nat} (h : i < xs.length) : ∃ b, xs[i]? = some b := ⟨xs[i], List.getElem?_eq_getElem h⟩
theorem wid1 {i : Nat} (h : i ≤ 4611686018427387904) : IntKind.i64.wrap ((i : Int) + 1) = ((i + 1 : Nat) : Int) := by
  rw [wid (by omega) (by omega)]; omega
theorem ltD {i n : Nat} (h : i < n) : decide ((i : Int) < (n : Int)) = true := by simp; omega
theorem ltD0 {n : Nat} : decide ((n : Int) < (n : Int)) = false := by simp
theorem take_succ_get {α : Type} {xs : List α} {i : Nat} {b : α} (h : xs[i]? = some b) : xs.take (i + 1) = xs.take i ++ [b] := by
  rw [List.take_add_one, h]; rfl
/-- What a copy has become after some rounds. -/
theorem set_copy {α : Type} {xs : List α} {z b : α} {i : Nat} (h : xs[i]? = some b) : (xs.take i ++ List.replicate (xs.length - i) z).set i b = xs.take (i + 1) ++ List.replicate (xs.length - (i + 1)) z := by
  have hi := (List.getElem?_eq_some_iff.1 h).1
  rw [take_succ_get h, List.set_append_right _ _ (by simp; omega)]
  have e : xs.length - i = (xs.length - (i + 1)) + 1 := by omega
  rw [e, List.replicate_succ]
  have e2 : i - (xs.take i).length = 0 := by simp; omega
  rw [e2]
  simp
theorem get_copy {α : Type} {xs : List α} {z : α} {i : Nat} (h : i < xs.length) : (xs.take i ++ List.replicate (xs.length - i) z)[i]? = some z := by
  rw [List.getElem?_append_right (by simp; omega)]
  have : i - (xs.take i).length = 0 := by simp; omega
  rw [this, List.getElem?_replicate]
  simp; omega
/-- From some fuel on it answers so. -/
def Ev {α : Type} (f : Nat → Option α) (r : α) : Prop := ∃ n, ∀ k, n ≤ k → f k = some r
theorem Ev.pure {α : Type} (r : α) : Ev (fun _ => some r) r := ⟨0, fun _ _ => rfl⟩
theorem Ev.of {α : Type} {f : Nat → Option α} {r : α} (h : ∀ k, f k = some r) : Ev f r := ⟨0, fun k _ => h k⟩
theorem Ev.bind {α β : Type} {f : Nat → Option α} {g : Nat → α → Option β} {a : α} {r : β} (h : Ev f a) (h' : Ev (fun k => g k a) r) : Ev (fun k => (f k).bind (g k)) r := by
  obtain ⟨n, h⟩ := h
  obtain ⟨m, h'⟩ := h'
  refine ⟨max n m, fun k hk => ?_⟩
  show (f k).bind (g k) = some r
  rw [h k (by omega), Option.bind_some]
  exact h' k (by omega)
theorem Ev.succ {α : Type} {f : Nat → Option α} {r : α} (h : Ev (fun k => f (k + 1)) r) : Ev f r := by
  obtain ⟨n, h⟩ := h
  refine ⟨n + 1, fun k hk => ?_⟩
  obtain ⟨j, rfl⟩ : ∃ j, k = j + 1 := ⟨k - 1, by omega⟩
  exact h j (by omega)
theorem Ev.shift {α : Type} {f : Nat → Option α} {r : α} (h : Ev f r) : Ev (fun k => f (k + 1)) r := by
  obtain ⟨n, h⟩ := h
  exact ⟨n, fun k hk => h (k + 1) (by omega)⟩
theorem Ev.get {α : Type} {f : Nat → Option α} {r : α} (h : Ev f r) : ∃ k, f k = some r := by
  obtain ⟨n, h⟩ := h
  exact ⟨n, h n (Nat.le_refl _)⟩
theorem Ev.congr {α : Type} {f g : Nat → Option α} {r : α} (h : Ev f r) (e : ∀ k, g k = f k) : Ev g r := by
  obtain ⟨n, h⟩ := h
  exact ⟨n, fun k hk => (e k).trans (h k hk)⟩
theorem Ev.to {α : Type} {f : Nat → Option α} {a b : α} (h : Ev f a) (e : a = b) : Ev f b := e ▸ h
theorem Ev.ite {α : Type} {f g : Nat → Option α} {c : Bool} {r : α} (h1 : c = true → Ev f r) (h0 : c = false → Ev g r) : Ev (fun k => cond c (f k) (g k)) r := by
  cases c with
  | true => exact h1 rfl
  | false => exact h0 rfl
theorem Ev.at? {α β : Type} {xs : List α} {i : Nat} {b : α} {g : Nat → α → Option β} {r : β} (h : xs[i]? = some b) (h' : Ev (fun k => g k b) r) : Ev (fun k => (Go.MG.at? xs (i : Int)).bind (g k)) r := by
  have e := atN h
  simp only [e, Option.bind_some]
  exact h'
/-- A loop over a list: what it answers, told over what is left of it. -/
theorem Ev.forI {α S R : Type} {xs : List α} {L : Nat → S → Int → Option R} {f : List α → S → R} {I : Nat → S → Prop}
    (hnil : ∀ s, I xs.length s → Ev (fun k => L (k + 1) s (xs.length : Int)) (f [] s))
    (hcons : ∀ (i : Nat) (b : α) (s : S), xs[i]? = some b → i < xs.length → I i s → (∀ s', I (i + 1) s' → Ev (fun k => L k s' ((i + 1 : Nat) : Int)) (f (xs.drop (i + 1)) s')) → Ev (fun k => L (k + 1) s (i : Int)) (f (b :: xs.drop (i + 1)) s)) :
    ∀ (s : S), I 0 s → Ev (fun k => L k s 0) (f xs s) := by
  have key : ∀ (m i : Nat) (s : S), i + m = xs.length → I i s → Ev (fun k => L k s (i : Int)) (f (xs.drop i) s) := by
    intro m
    induction m with
    | zero =>
      intro i s hi hI
      have : i = xs.length := by omega
      subst this
      rw [List.drop_length]
      exact Ev.succ (hnil s hI)
    | succ m ih =>
      intro i s hi hI
      obtain ⟨b, hb⟩ := atLt (xs := xs) (i := i) (by omega)
      have hlt : i < xs.length := by omega
      have e : xs.drop i = b :: xs.drop (i + 1) := by
        rw [List.drop_eq_getElem_cons hlt]
        rw [List.getElem?_eq_getElem hlt] at hb
        cases hb; rfl
      rw [e]
      exact Ev.succ (hcons i b s hb hlt hI fun s' hs' => ih (i + 1) s' (by omega) hs')
  intro s hs
  have := key xs.length 0 s (by omega) hs
  simpa using this
theorem Ev.for {α S R : Type} {xs : List α} {L : Nat → S → Int → Option R} {f : List α → S → R}
    (hnil : ∀ s, Ev (fun k => L (k + 1) s (xs.length : Int)) (f [] s))
    (hcons : ∀ (i : Nat) (b : α) (s : S), xs[i]? = some b → i < xs.length → (∀ s', Ev (fun k => L k s' ((i + 1 : Nat) : Int)) (f (xs.drop (i + 1)) s')) → Ev (fun k => L (k + 1) s (i : Int)) (f (b :: xs.drop (i + 1)) s)) :
    ∀ (s : S), Ev (fun k => L k s 0) (f xs s) := fun s => Ev.forI (I := fun _ _ => True) (fun s _ => hnil s) (fun i b s hb hi _ h => hcons i b s hb hi fun s' => h s' trivial) s trivial
/-- A loop that copies by a map. -/
theorem Ev.copy {α β : Type} {xs : List α} {L : Nat → List β → Int → Option (List β)} {f : α → β} {z : β}
    (hnil : ∀ s, Ev (fun k => L (k + 1) s (xs.length : Int)) s)
    (hcons : ∀ (i : Nat) (b : α) (s : List β) (r : List β), xs[i]? = some b → i < xs.length → s[i]? = some z → Ev (fun k => L k (s.set i (f b)) ((i + 1 : Nat) : Int)) r → Ev (fun k => L (k + 1) s (i : Int)) r) :
    Ev (fun k => L k (List.replicate xs.length z) 0) (xs.map f) := by
  have key : ∀ (m i : Nat), i + m = xs.length → Ev (fun k => L k ((xs.map f).take i ++ List.replicate ((xs.map f).length - i) z) (i : Int)) (xs.map f) := by
    intro m
    induction m with
    | zero =>
      intro i hi
      have : i = xs.length := by omega
      subst this
      refine Ev.succ ((hnil _).to ?_)
      rw [List.length_map, Nat.sub_self, List.replicate_zero, List.append_nil]
      exact List.take_of_length_le (by simp)
    | succ m ih =>
      intro i hi
      obtain ⟨b, hb⟩ := atLt (xs := xs) (i := i) (by omega)
      have hb2 : (xs.map f)[i]? = some (f b) := by rw [List.getElem?_map, hb]; rfl
      refine Ev.succ (hcons i b _ _ hb (by omega) (get_copy (by rw [List.length_map]; omega)) ?_)
      rw [set_copy hb2]
      exact ih (i + 1) (by omega)
  have := key xs.length 0 (by omega)
  simpa using this
/-- A loop that stores what hangs on the place alone. -/
def markL {α β : Type} (g : Int → α → β) (w : Int) : Int → List α → List β
  | _, [] => []
  | n, x :: xs => g n x :: markL g w (n + w) xs
theorem markL_length {α β : Type} (g : Int → α → β) (w : Int) : ∀ (n : Int) (xs : List α), (markL g w n xs).length = xs.length
  | _, [] => rfl
  | n, x :: xs => by simp [markL, markL_length g w (n + w) xs]
theorem markL_get {α β : Type} {g : Int → α → β} {w : Int} : ∀ {n : Int} {xs : List α} {i : Nat} {x : α}, xs[i]? = some x → (markL g w n xs)[i]? = some (g (n + w * i) x)
  | n, [], i, x, h => by simp at h
  | n, y :: xs, 0, x, h => by simp at h; subst h; simp [markL]
  | n, y :: xs, i + 1, x, h => by
    simp only [List.getElem?_cons_succ] at h
    simp only [markL, List.getElem?_cons_succ]
    rw [markL_get h]
    congr 2
    rw [show ((i + 1 : Nat) : Int) = (i : Int) + 1 by omega, Int.mul_add]; omega
/-- It answers, and what it answers is so. -/
def EvP {α : Type} (f : Nat → Option α) (P : α → Prop) : Prop := ∃ r, Ev f r ∧ P r
theorem Ev.p {α : Type} {f : Nat → Option α} {r : α} {P : α → Prop} (h : Ev f r) (hp : P r) : EvP f P := ⟨r, h, hp⟩
theorem EvP.pure {α : Type} {r : α} {P : α → Prop} (h : P r) : EvP (fun _ => some r) P := ⟨r, Ev.pure r, h⟩
theorem EvP.bind {α β : Type} {f : Nat → Option α} {g : Nat → α → Option β} {P : α → Prop} {Q : β → Prop} (h : EvP f P) (h' : ∀ a, P a → EvP (fun k => g k a) Q) : EvP (fun k => (f k).bind (g k)) Q := by
  obtain ⟨a, h1, h2⟩ := h
  obtain ⟨r, h3, h4⟩ := h' a h2
  exact ⟨r, h1.bind h3, h4⟩
theorem EvP.bindE {α β : Type} {f : Nat → Option α} {g : Nat → α → Option β} {a : α} {Q : β → Prop} (h : Ev f a) (h' : EvP (fun k => g k a) Q) : EvP (fun k => (f k).bind (g k)) Q := by
  obtain ⟨r, h3, h4⟩ := h'
  exact ⟨r, h.bind h3, h4⟩
theorem EvP.ite {α : Type} {f g : Nat → Option α} {c : Bool} {P : α → Prop} (h1 : c = true → EvP f P) (h0 : c = false → EvP g P) : EvP (fun k => cond c (f k) (g k)) P := by
  cases c with
  | true => exact h1 rfl
  | false => exact h0 rfl
theorem EvP.succ {α : Type} {f : Nat → Option α} {P : α → Prop} (h : EvP (fun k => f (k + 1)) P) : EvP f P := by
  obtain ⟨r, h1, h2⟩ := h
  exact ⟨r, h1.succ, h2⟩
theorem EvP.at? {α β : Type} {xs : List α} {i : Nat} {b : α} {g : Nat → α → Option β} {P : β → Prop} (h : xs[i]? = some b) (h' : EvP (fun k => g k b) P) : EvP (fun k => (Go.MG.at? xs (i : Int)).bind (g k)) P := by
  obtain ⟨r, h1, h2⟩ := h'
  exact ⟨r, Ev.at? h h1, h2⟩
/-- A loop over a list, by an invariant. -/
theorem EvP.for {α S R : Type} {xs : List α} {L : Nat → S → Int → Option R} {P : R → Prop} (I : Nat → S → Prop)
    (hnil : ∀ s, I xs.length s → EvP (fun k => L (k + 1) s (xs.length : Int)) P)
    (hcons : ∀ (i : Nat) (b : α) (s : S), xs[i]? = some b → i < xs.length → I i s → (∀ s', I (i + 1) s' → EvP (fun k => L k s' ((i + 1 : Nat) : Int)) P) → EvP (fun k => L (k + 1) s (i : Int)) P) :
    ∀ (s : S), I 0 s → EvP (fun k => L k s 0) P := by
  have key : ∀ (m i : Nat) (s : S), i + m = xs.length → I i s → EvP (fun k => L k s (i : Int)) P := by
    intro m
    induction m with
    | zero =>
      intro i s hi hI
      have : i = xs.length := by omega
      subst this
      exact EvP.succ (hnil s hI)
    | succ m ih =>
      intro i s hi hI
      obtain ⟨b, hb⟩ := atLt (xs := xs) (i := i) (by omega)
      exact EvP.succ (hcons i b s hb (by omega) hI fun s' hs' => ih (i + 1) s' (by omega) hs')
  intro s hs
  simpa using key xs.length 0 s (by omega) hs
theorem widR {n : Int} (h1 : -9223372036854775808 ≤ n) (h2 : n ≤ 9223372036854775807) : IntKind.i64.wrap n = n := wid h1 h2
theorem atSet {α : Type} {xs : List α} {i : Nat} {y : α} (h : i < xs.length) : at? (xs.set i y) (i : Int) = some y := atN (by simp [h])
/-- A loop that stores into each place what hangs on the count. -/
theorem Ev.mark {α : Type} {L : Nat → List α → Int → Int → Option (Int × List α)} {g : Int → α → α} {w : Nat}
    (hnil : ∀ xs n, Ev (fun k => L (k + 1) xs n (xs.length : Int)) (n, xs))
    (hcons : ∀ (i : Nat) (b : α) (xs : List α) (n : Int) r, xs[i]? = some b → i < xs.length → 0 ≤ n → n + w ≤ 4611686018427387904 → xs.length ≤ 4611686018427387904 → Ev (fun k => L k (xs.set i (g n b)) (n + w) ((i + 1 : Nat) : Int)) r → Ev (fun k => L (k + 1) xs n (i : Int)) r)
    (xs : List α) (n : Int) (hn : 0 ≤ n) (hb : n + w * xs.length ≤ 4611686018427387904) (hl : xs.length ≤ 4611686018427387904) : Ev (fun k => L k xs n 0) (n + w * xs.length, markL g w n xs) := by
  have key : ∀ (m i : Nat) (ys : List α) (j : Int), i + m = ys.length → j = n + w * i → ys.length = xs.length → ys.take i = (markL g w n xs).take i → ys.drop i = xs.drop i → Ev (fun k => L k ys j (i : Int)) (n + w * xs.length, markL g w n xs) := by
    intro m
    induction m with
    | zero =>
      intro i ys j hi hj hl ht hd
      have e : i = ys.length := by omega
      subst e
      refine Ev.succ ((hnil ys j).to ?_)
      rw [List.take_of_length_le (Nat.le_refl _), List.take_of_length_le (by rw [markL_length]; omega)] at ht
      rw [hj, hl, ← ht]
    | succ m ih =>
      intro i ys j hi hj hl' ht hd
      obtain ⟨b, hb'⟩ := atLt (xs := ys) (i := i) (by omega)
      have hx : xs[i]? = some b := by
        have : (ys.drop i)[0]? = (xs.drop i)[0]? := by rw [hd]
        simp only [List.getElem?_drop, Nat.add_zero] at this
        rw [← this]; exact hb'
      have hw : (w : Int) * (i : Int) + w ≤ w * xs.length := by
        have : w * (i + 1) ≤ w * xs.length := Nat.mul_le_mul_left w (by omega)
        have h2 : ((w * (i + 1) : Nat) : Int) ≤ ((w * xs.length : Nat) : Int) := by omega
        rw [Int.natCast_mul, Int.natCast_mul] at h2
        rw [show ((i + 1 : Nat) : Int) = (i : Int) + 1 by omega, Int.mul_add] at h2
        omega
      have hw0 : (0 : Int) ≤ (w : Int) * (i : Int) := Int.mul_nonneg (by omega) (by omega)
      refine Ev.succ (hcons i b ys j _ hb' (by omega) (by omega) (by omega) (by omega) (ih (i + 1) (ys.set i (g j b)) (j + w) (by rw [List.length_set]; omega) ?_ (by rw [List.length_set]; exact hl') ?_ ?_))
      · rw [hj, show ((i + 1 : Nat) : Int) = (i : Int) + 1 by omega, Int.mul_add]; omega
      · have h1 : (ys.set i (g j b))[i]? = some (g j b) := List.getElem?_set_self (by omega)
        have h2 : (markL g w n xs)[i]? = some (g j b) := by rw [markL_get hx, hj]
        rw [take_succ_get h1, take_succ_get h2, ← ht, List.take_set_of_le (Nat.le_refl _)]
      · rw [List.drop_set_of_lt (by omega), ← List.drop_drop, ← List.drop_drop, hd]
  simpa using key xs.length 0 xs n (by omega) (by simp) rfl rfl rfl
/-- A loop that looks whether each place holds what was stored. -/
theorem Ev.held {α : Type} {L : Nat → List α → Int → Int → Option Int} {g : Int → α → α} {w : Nat} {xs : List α} {n : Int} (hn : 0 ≤ n) (hb : n + w * xs.length ≤ 4611686018427387904) (hl : xs.length ≤ 4611686018427387904)
    (hnil : ∀ (ys : List α) j, Ev (fun k => L (k + 1) ys j (ys.length : Int)) j)
    (hcons : ∀ (i : Nat) (b : α) (ys : List α) (j : Int) r, ys[i]? = some (g j b) → i < ys.length → 0 ≤ j → j + w ≤ 4611686018427387904 → ys.length ≤ 4611686018427387904 → Ev (fun k => L k ys (j + w) ((i + 1 : Nat) : Int)) r → Ev (fun k => L (k + 1) ys j (i : Int)) r) :
    Ev (fun k => L k (markL g w n xs) n 0) (n + w * xs.length) := by
  have hml := markL_length g w n xs
  have key : ∀ (m i : Nat) (j : Int), i + m = xs.length → j = n + w * i → Ev (fun k => L k (markL g w n xs) j (i : Int)) (n + w * xs.length) := by
    intro m
    induction m with
    | zero =>
      intro i j hi hj
      have e : i = (markL g w n xs).length := by omega
      subst e
      refine Ev.succ ((hnil _ j).to ?_)
      rw [hj, hml]
    | succ m ih =>
      intro i j hi hj
      obtain ⟨b, hx⟩ := atLt (xs := xs) (i := i) (by omega)
      have hw : (w : Int) * (i : Int) + w ≤ w * xs.length := by
        have : w * (i + 1) ≤ w * xs.length := Nat.mul_le_mul_left w (by omega)
        have h2 : ((w * (i + 1) : Nat) : Int) ≤ ((w * xs.length : Nat) : Int) := by omega
        rw [Int.natCast_mul, Int.natCast_mul] at h2
        rw [show ((i + 1 : Nat) : Int) = (i : Int) + 1 by omega, Int.mul_add] at h2
        omega
      have hw0 : (0 : Int) ≤ (w : Int) * (i : Int) := Int.mul_nonneg (by omega) (by omega)
      refine Ev.succ (hcons i b _ j _ ?_ (by omega) (by omega) (by omega) (by omega) (ih (i + 1) _ (by omega) ?_))
      · rw [markL_get hx, hj]
      · rw [hj, show ((i + 1 : Nat) : Int) = (i : Int) + 1 by omega, Int.mul_add]; omega
  simpa using key xs.length 0 n (by omega) (by simp)
/-- What is found first. -/
def firstOf {α R : Type} (p : α → Bool) (g : Nat → R) (e : R) : Nat → List α → R
  | _, [] => e
  | i, x :: xs => if p x then g i else firstOf p g e (i + 1) xs
theorem Ev.find {α R : Type} {xs : List α} {L : Nat → Int → Option R} {p : α → Bool} {g : Nat → R} {e : R}
    (hnil : Ev (fun k => L (k + 1) (xs.length : Int)) e)
    (hcons : ∀ (i : Nat) (b : α) (r : R), xs[i]? = some b → i < xs.length → (p b = true → r = g i) → (p b = false → Ev (fun k => L k ((i + 1 : Nat) : Int)) r) → Ev (fun k => L (k + 1) (i : Int)) r) :
    Ev (fun k => L k 0) (firstOf p g e 0 xs) := by
  have := Ev.for (xs := xs) (L := fun k (_ : Unit) i => L k i) (f := fun l _ => firstOf p g e (xs.length - l.length) l) (fun _ => by simpa [firstOf] using hnil) (fun i b _ hb hi h => by
    refine hcons i b _ hb hi (fun hp => ?_) (fun hp => ?_)
    · have : xs.length - (b :: List.drop (i + 1) xs).length = i := by simp; omega
      rw [this]; simp [firstOf, hp]
    · refine (h ()).to ?_
      have e1 : xs.length - (b :: List.drop (i + 1) xs).length = i := by simp; omega
      have e2 : xs.length - (List.drop (i + 1) xs).length = i + 1 := by simp; omega
      rw [e1, e2]; simp [firstOf, hp]) ()
  simpa using this
theorem firstOf_some {α R : Type} {p : α → Bool} {g : Nat → R} {e : R} : ∀ {i : Nat} {xs : List α}, (∃ j b, xs[j]? = some b ∧ p b = true ∧ firstOf p g e i xs = g (i + j)) ∨ ((∀ b ∈ xs, p b = false) ∧ firstOf p g e i xs = e)
  | i, [] => .inr ⟨by simp, rfl⟩
  | i, x :: xs => by
    cases hp : p x with
    | true => exact .inl ⟨0, x, rfl, hp, by simp [firstOf, hp]⟩
    | false =>
      rcases firstOf_some (p := p) (g := g) (e := e) (i := i + 1) (xs := xs) with ⟨j, b, h1, h2, h3⟩ | ⟨h1, h2⟩
      · exact .inl ⟨j + 1, b, by simpa using h1, h2, by simp only [firstOf, hp]; rw [show i + (j + 1) = i + 1 + j by omega]; exact h3⟩
      · refine .inr ⟨fun b hb => ?_, by simpa [firstOf, hp] using h2⟩
        rcases List.mem_cons.1 hb with rfl | hb
        · exact hp
        · exact h1 b hb
theorem EvP.shift {α : Type} {f : Nat → Option α} {P : α → Prop} (h : EvP f P) : EvP (fun k => f (k + 1)) P := by
  obtain ⟨r, h1, h2⟩ := h
  exact ⟨r, h1.shift, h2⟩
def isIn (x a b : Int) : Bool := decide (a ≤ x ∧ x ≤ b)
theorem sIn (k : Nat) (x a b : Int) : Fspec_l1In k x a b = some (isIn x a b) := by
  unfold Fspec_l1In isIn
  simp only [Bool.cond_decide]
  split
  all_goals
    refine congrArg some (Bool.eq_iff_iff.mpr ?_)
    simp only [decide_eq_true_eq, Bool.false_eq_true, false_iff]
    omega
theorem iIn (k : Nat) (x a b : Int) : Fimpl_within k x a b = some (isIn x a b) := sIn k x a b
theorem drop_at {α : Type} {l : List α} {j : Nat} {k : α} {ks : List α} (h : l.drop j = k :: ks) : j < l.length ∧ l[j]? = some k ∧ l.drop (j + 1) = ks := by
  have hk : l[j]? = some k := by
    have : (l.drop j)[0]? = some k := by rw [h]; rfl
    rwa [List.getElem?_drop, Nat.add_zero] at this
  exact ⟨(List.getElem?_eq_some_iff.1 hk).1, hk, by rw [← List.drop_drop, h]; rfl⟩
def hasP (l : List Timpl_Pair) (p : Timpl_Pair) : Bool := l.any fun q => q.A == p.A && q.B == p.B
theorem partI {α : Type} {l : List α} {i : Nat} (h : i ≤ l.length) : part? l 0 (i : Int) = some (l.take i) := by
  unfold part?
  rw [if_pos (by omega)]; simp
theorem sHas (l : List Timpl_Pair) (p : Timpl_Pair) (hl : l.length ≤ 1048576) : Ev (fun k => Fspec_l6Has k l p) (hasP l p) := by
  simp only [Fspec_l6Has]
  refine Ev.for (xs := l) (L := fun k (_ : Unit) i => Fspec_l6Has.l2 k l i p.A p.B) (f := fun l _ => hasP l p) (fun _ => by simp only [Fspec_l6Has.l2, ltD0, cond_false]; exact Ev.pure _) (fun i b _ hb hi h => ?_) ()
  simp only [Fspec_l6Has.l2, ltD hi, cond_true, Bool.and_true]
  refine Ev.at? hb ?_
  simp only [hasP, List.any_cons]
  refine Ev.ite (fun hc => ?_) (fun hc => ?_)
  · rw [hc]; exact Ev.pure _
  · rw [hc, wid1 (by omega)]; exact h ()
theorem iHas (l : List Timpl_Pair) (p : Timpl_Pair) (hl : l.length ≤ 1048576) : Ev (fun k => Fslices_Contains_Pair k l p) (hasP l p) := by
  simp only [Fslices_Contains_Pair, Fslices_Index_Pair]
  have : EvP (fun k => Fslices_Index_Pair.l2 k l (l.length : Int) (0 : Int) p.A p.B) (fun r => decide (r ≥ 0) = hasP l p) := by
    have := Ev.find (xs := l) (L := fun k i => Fslices_Index_Pair.l2 k l (l.length : Int) i p.A p.B) (p := fun b => (p.A == b.A) && (p.B == b.B)) (g := fun i => (i : Int)) (e := -1) (by simp only [Fslices_Index_Pair.l2, ltD0, cond_false]; exact Ev.pure _) (fun i b r hb hi h1 h0 => by
      simp only [Fslices_Index_Pair.l2, ltD hi, cond_true, Bool.and_true]
      refine Ev.at? hb (Ev.ite (fun hc => (Ev.pure _).to (h1 hc).symm) (fun hc => ?_))
      rw [wid1 (by omega)]; exact h0 hc)
    refine ⟨_, this, ?_⟩
    rcases firstOf_some (p := fun b : Timpl_Pair => (p.A == b.A) && (p.B == b.B)) (g := fun i => (i : Int)) (e := (-1 : Int)) (i := 0) (xs := l) with ⟨j, b, h1, h2, h3⟩ | ⟨h1, h2⟩
    · rw [h3, decide_eq_true (by omega)]
      symm
      unfold hasP
      rw [List.any_eq_true]
      refine ⟨b, List.mem_of_getElem? h1, ?_⟩
      simp only [Bool.and_eq_true, beq_iff_eq] at h2 ⊢
      exact ⟨h2.1.symm, h2.2.symm⟩
    · rw [h2, decide_eq_false (by omega)]
      symm
      unfold hasP
      rw [List.any_eq_false]
      intro b hb
      have := h1 b hb
      simp only [Bool.and_eq_false_iff, beq_eq_false_iff_ne, ne_eq] at this
      simp only [Bool.and_eq_true, beq_iff_eq, not_and]
      intro e1 e2
      rcases this with h | h
      · exact h e1.symm
      · exact h e2.symm
  obtain ⟨r, h1, h2⟩ := this
  exact Ev.bind h1 ((Ev.pure _).to h2)
def isR (x : Int) : Bool := isIn x 0 2
def linkB (p : Timpl_Pair) : Bool := isR p.A && (isR p.B && p.A != p.B)
def proxB (p : Timpl_Pair) : Bool := isR p.A && isR p.B
def prF (is : Timpl_Pair → Bool) : List Timpl_Pair → List Timpl_Pair → Bool
  | _, [] => true
  | seen, p :: r => is p && (!hasP seen p && prF is (seen ++ [p]) r)
def prOk (is : Timpl_Pair → Bool) (l : List Timpl_Pair) : Bool := decide (l.length ≤ 6) && prF is [] l
theorem isR_iff {x : Int} : isR x = true ↔ 0 ≤ x ∧ x ≤ 2 := by simp [isR, isIn]
theorem sPairs (l : List Timpl_Pair) (u : Bool) (hl : l.length ≤ 1048576) : Ev (fun k => Fspec_l6Pairs k l 3 u) (prOk (if u then linkB else proxB) l) := by
  simp only [Fspec_l6Pairs]
  unfold prOk
  refine Ev.ite (fun hc => ?_) (fun hc => ?_)
  · rw [decide_eq_false (by simp at hc; omega)]; exact Ev.pure _
  rw [decide_eq_true (by simp at hc; omega), Bool.true_and]
  have key : ∀ (g i : Nat), i + g = l.length → Ev (fun k => Fspec_l6Pairs.l7 k l 3 u (i : Int)) (prF (if u then linkB else proxB) (l.take i) (l.drop i)) := by
    intro g
    induction g with
    | zero =>
      intro i hi
      have : i = l.length := by omega
      subst this
      refine Ev.succ ?_
      simp only [Fspec_l6Pairs.l7, ltD0, cond_false, List.drop_length, prF]
      exact Ev.pure _
    | succ g ih =>
      intro i hi
      have hi2 : i < l.length := by omega
      obtain ⟨b, hb⟩ := atLt hi2
      have e : l.drop i = b :: l.drop (i + 1) := by
        obtain ⟨h1, h2⟩ := List.getElem?_eq_some_iff.1 hb
        rw [List.drop_eq_getElem_cons h1, h2]
      refine Ev.succ ?_
      simp only [Fspec_l6Pairs.l7, Fspec_l6Pairs.j8, ltD hi2, cond_true]
      rw [e]
      refine Ev.at? hb ?_
      simp only [prF]
      have hA : isR b.A = (!decide (b.A < 0) && !decide (b.A ≥ 3)) := by
        refine Bool.eq_iff_iff.2 ?_
        rw [isR_iff]; simp; omega
      have hB : isR b.B = (!decide (b.B < 0) && !decide (b.B ≥ 3)) := by
        refine Bool.eq_iff_iff.2 ?_
        rw [isR_iff]; simp; omega
      have hgo : Ev (fun k => (part? l 0 (i : Int)).bind fun b211 => (Fspec_l6Has k b211 b).bind fun r212 => cond r212 (some false) (Fspec_l6Pairs.l7 k l 3 u (IntKind.i64.wrap ((i : Int) + 1)))) (!hasP (l.take i) b && prF (if u then linkB else proxB) (l.take i ++ [b]) (l.drop (i + 1))) := by
        rw [partI (by omega)]
        simp only [Option.bind_some]
        refine Ev.bind (sHas _ _ (by rw [List.length_take]; omega)) (Ev.ite (fun hc => ?_) (fun hc => ?_))
        · rw [hc]; exact Ev.pure _
        · rw [hc, wid1 (by omega), ← take_succ_get hb]; exact ih (i + 1) (by omega)
      cases u with
      | true =>
        simp only [if_true, linkB, hA, hB] at hgo ⊢
        refine Ev.ite (fun hc => ?_) (fun hc => ?_)
        · rw [hc]; exact Ev.pure _
        refine Ev.ite (fun hc2 => ?_) (fun hc2 => ?_)
        · rw [hc, hc2]; exact Ev.pure _
        refine Ev.ite (fun hc3 => ?_) (fun hc3 => ?_)
        · rw [hc, hc2, hc3]; exact Ev.pure _
        refine Ev.ite (fun hc4 => ?_) (fun hc4 => ?_)
        · rw [hc, hc2, hc3, hc4]; exact Ev.pure _
        rw [hc, hc2, hc3, hc4]
        simp only [cond_true, Bool.not_false, Bool.true_and]
        refine Ev.ite (fun hc5 => ?_) (fun hc5 => ?_)
        · rw [show (b.A != b.B) = false by simpa using hc5]; exact Ev.pure _
        · rw [show (b.A != b.B) = true by simpa using hc5, Bool.true_and]; exact hgo
      | false =>
        simp only [Bool.false_eq_true, if_false, proxB, hA, hB] at hgo ⊢
        refine Ev.ite (fun hc => ?_) (fun hc => ?_)
        · rw [hc]; exact Ev.pure _
        refine Ev.ite (fun hc2 => ?_) (fun hc2 => ?_)
        · rw [hc, hc2]; exact Ev.pure _
        refine Ev.ite (fun hc3 => ?_) (fun hc3 => ?_)
        · rw [hc, hc2, hc3]; exact Ev.pure _
        refine Ev.ite (fun hc4 => ?_) (fun hc4 => ?_)
        · rw [hc, hc2, hc3, hc4]; exact Ev.pure _
        rw [hc, hc2, hc3, hc4]
        simp only [cond_false, Bool.not_false, Bool.true_and]
        exact hgo
  simpa using key l.length 0 (by omega)
theorem iPairs1 (l : List Timpl_Pair) (hl : l.length ≤ 1048576) : Ev (fun k => Fimpl_arePairs__impl_ConfigOk_1 k l) (prOk linkB l) := by
  simp only [Fimpl_arePairs__impl_ConfigOk_1]
  unfold prOk
  rw [Bool.and_comm]
  have key : ∀ (g i : Nat), i + g = l.length → Ev (fun k => Fimpl_arePairs__impl_ConfigOk_1.l2 k l (l.length : Int) (i : Int)) (prF linkB (l.take i) (l.drop i) && decide (l.length ≤ 6)) := by
    intro g
    induction g with
    | zero =>
      intro i hi
      have : i = l.length := by omega
      subst this
      refine Ev.succ ?_
      simp only [Fimpl_arePairs__impl_ConfigOk_1.l2, ltD0, cond_false, List.drop_length, prF, Bool.true_and]
      refine (Ev.pure _).to (Bool.eq_iff_iff.2 ?_)
      simp; omega
    | succ g ih =>
      intro i hi
      have hi2 : i < l.length := by omega
      obtain ⟨b, hb⟩ := atLt hi2
      have e : l.drop i = b :: l.drop (i + 1) := by
        obtain ⟨h1, h2⟩ := List.getElem?_eq_some_iff.1 hb
        rw [List.drop_eq_getElem_cons h1, h2]
      refine Ev.succ ?_
      simp only [Fimpl_arePairs__impl_ConfigOk_1.l2, ltD hi2, cond_true]
      rw [e]
      refine Ev.at? hb ?_
      simp only [prF]
      have hb1 : Ev (fun k => Fimpl_ConfigOk_1 k b) (linkB b) := by
        simp only [Fimpl_ConfigOk_1, Fimpl_isRealm, iIn, Option.bind_some]
        unfold linkB isR
        refine Ev.ite (fun hc => ?_) (fun hc => ?_)
        · rw [hc, Bool.true_and]
          refine Ev.ite (fun hc => ?_) (fun hc => ?_)
          · rw [hc]; exact Ev.pure _
          · rw [hc]; exact Ev.pure _
        · rw [hc]; exact Ev.pure _
      refine Ev.bind hb1 (Ev.ite (fun hc => ?_) (fun hc => ?_))
      · rw [show linkB b = false by simpa using hc]; exact Ev.pure _
      rw [show linkB b = true by simpa using hc, Bool.true_and, partI (by omega)]
      simp only [Option.bind_some]
      refine Ev.bind (iHas _ _ (by rw [List.length_take]; omega)) (Ev.ite (fun hc => ?_) (fun hc => ?_))
      · rw [hc]; exact Ev.pure _
      · rw [hc, wid1 (by omega), ← take_succ_get hb, Bool.not_false, Bool.true_and]; exact ih (i + 1) (by omega)
  simpa using key l.length 0 (by omega)
theorem iPairs2 (l : List Timpl_Pair) (hl : l.length ≤ 1048576) : Ev (fun k => Fimpl_arePairs__impl_ConfigOk_2 k l) (prOk proxB l) := by
  simp only [Fimpl_arePairs__impl_ConfigOk_2]
  unfold prOk
  rw [Bool.and_comm]
  have key : ∀ (g i : Nat), i + g = l.length → Ev (fun k => Fimpl_arePairs__impl_ConfigOk_2.l2 k l (l.length : Int) (i : Int)) (prF proxB (l.take i) (l.drop i) && decide (l.length ≤ 6)) := by
    intro g
    induction g with
    | zero =>
      intro i hi
      have : i = l.length := by omega
      subst this
      refine Ev.succ ?_
      simp only [Fimpl_arePairs__impl_ConfigOk_2.l2, ltD0, cond_false, List.drop_length, prF, Bool.true_and]
      refine (Ev.pure _).to (Bool.eq_iff_iff.2 ?_)
      simp; omega
    | succ g ih =>
      intro i hi
      have hi2 : i < l.length := by omega
      obtain ⟨b, hb⟩ := atLt hi2
      have e : l.drop i = b :: l.drop (i + 1) := by
        obtain ⟨h1, h2⟩ := List.getElem?_eq_some_iff.1 hb
        rw [List.drop_eq_getElem_cons h1, h2]
      refine Ev.succ ?_
      simp only [Fimpl_arePairs__impl_ConfigOk_2.l2, ltD hi2, cond_true]
      rw [e]
      refine Ev.at? hb ?_
      simp only [prF]
      have hb1 : Ev (fun k => Fimpl_ConfigOk_2 k b) (proxB b) := by
        simp only [Fimpl_ConfigOk_2, Fimpl_isService, iIn, Option.bind_some]
        unfold proxB isR
        refine Ev.ite (fun hc => ?_) (fun hc => ?_)
        · rw [hc, Bool.true_and]; exact Ev.pure _
        · rw [hc]; exact Ev.pure _
      refine Ev.bind hb1 (Ev.ite (fun hc => ?_) (fun hc => ?_))
      · rw [show proxB b = false by simpa using hc]; exact Ev.pure _
      rw [show proxB b = true by simpa using hc, Bool.true_and, partI (by omega)]
      simp only [Option.bind_some]
      refine Ev.bind (iHas _ _ (by rw [List.length_take]; omega)) (Ev.ite (fun hc => ?_) (fun hc => ?_))
      · rw [hc]; exact Ev.pure _
      · rw [hc, wid1 (by omega), ← take_succ_get hb, Bool.not_false, Bool.true_and]; exact ih (i + 1) (by omega)
  simpa using key l.length 0 (by omega)
def CfgSm (c : Timpl_Config) : Prop := c.UserRealm.length ≤ 1048576 ∧ c.ServiceRealm.length ≤ 1048576 ∧ c.Links.length ≤ 1048576 ∧ c.Proxy.length ≤ 1048576
theorem sAll (l : List Int) (hl : l.length = 3) : Ev (fun k => Fspec_l5All k l 3 3) (l.all isR) := by
  simp only [Fspec_l5All]
  rw [decide_eq_false (by omega)]
  simp only [cond_false]
  refine Ev.for (xs := l) (L := fun k (_ : Unit) i => Fspec_l5All.l2 k l 3 i) (f := fun l _ => l.all isR) (fun _ => by simp only [Fspec_l5All.l2, ltD0, cond_false]; exact Ev.pure _) (fun i b _ hb hi h => ?_) ()
  simp only [Fspec_l5All.l2, ltD hi, cond_true, List.all_cons]
  have hA : isR b = (!decide (b < 0) && !decide (b ≥ 3)) := by
    refine Bool.eq_iff_iff.2 ?_
    rw [isR_iff]; simp; omega
  rw [hA]
  refine Ev.at? hb (Ev.ite (fun hc => ?_) (fun hc => Ev.at? hb (Ev.ite (fun hc2 => ?_) (fun hc2 => ?_))))
  · rw [hc]; exact Ev.pure _
  · rw [hc, hc2]; exact Ev.pure _
  · rw [hc, hc2, wid1 (by omega)]; exact h ()
theorem iAll (l : List Int) (hl : l.length = 3) : Ev (fun k => Fimpl_areAll__impl_isRealm k l 3) (l.all isR) := by
  simp only [Fimpl_areAll__impl_isRealm]
  refine Ev.for (xs := l) (L := fun k (_ : Unit) i => Fimpl_areAll__impl_isRealm.l2 k l 3 (l.length : Int) i) (f := fun l _ => l.all isR) (fun _ => by simp only [Fimpl_areAll__impl_isRealm.l2, ltD0, cond_false]; rw [decide_eq_true (by omega)]; exact Ev.pure _) (fun i b _ hb hi h => ?_) ()
  simp only [Fimpl_areAll__impl_isRealm.l2, ltD hi, cond_true, Fimpl_isRealm, iIn, Option.bind_some, List.all_cons]
  refine Ev.at? hb (Ev.ite (fun hc => ?_) (fun hc => ?_))
  · rw [show isR b = false by simpa [isR] using hc]; exact Ev.pure _
  · rw [show isR b = true by simpa [isR] using hc, wid1 (by omega)]; exact h ()
def cfgOk (c : Timpl_Config) : Bool := decide (c.UserRealm.length = 3) && (c.UserRealm.all isR && (decide (c.ServiceRealm.length = 3) && (c.ServiceRealm.all isR && (prOk linkB c.Links && (prOk proxB c.Proxy && isIn c.Skew 0 20)))))
theorem beq3 (n : Nat) : (((n : Int) == 3) = decide (n = 3)) := by
  refine Bool.eq_iff_iff.2 ?_
  simp; omega
theorem sConfigOk {c : Timpl_Config} (h : CfgSm c) : Ev (fun k => Fspec_ConfigOk k c) (cfgOk c) := by
  obtain ⟨h1, h2, h3, h4⟩ := h
  simp only [Fspec_ConfigOk, sIn, Option.bind_some, beq3]
  unfold cfgOk
  refine Ev.ite (fun hc => ?_) (fun hc => by rw [hc]; exact Ev.pure _)
  rw [hc, Bool.true_and]
  refine Ev.bind (sAll _ (of_decide_eq_true hc)) (Ev.ite (fun hc => ?_) (fun hc => by rw [hc]; exact Ev.pure _))
  rw [hc, Bool.true_and]
  refine Ev.ite (fun hc => ?_) (fun hc => by rw [hc]; exact Ev.pure _)
  rw [hc, Bool.true_and]
  refine Ev.bind (sAll _ (of_decide_eq_true hc)) (Ev.ite (fun hc => ?_) (fun hc => by rw [hc]; exact Ev.pure _))
  rw [hc, Bool.true_and]
  refine Ev.bind (sPairs _ true h3) (Ev.ite (fun hc => ?_) (fun hc => ?_))
  · rw [show prOk linkB c.Links = true from hc, Bool.true_and]
    refine Ev.bind (sPairs _ false h4) (Ev.ite (fun hc => ?_) (fun hc => ?_))
    · rw [show prOk proxB c.Proxy = true from hc, Bool.true_and]; exact Ev.pure _
    · rw [show prOk proxB c.Proxy = false from hc]; exact Ev.pure _
  · rw [show prOk linkB c.Links = false from hc]; exact Ev.pure _
theorem iConfigOk {c : Timpl_Config} (h : CfgSm c) : Ev (fun k => Fimpl_ConfigOk k c) (cfgOk c) := by
  obtain ⟨h1, h2, h3, h4⟩ := h
  simp only [Fimpl_ConfigOk, iIn, Option.bind_some, beq3]
  refine Ev.bind (iPairs1 _ h3) (Ev.bind (iPairs2 _ h4) ?_)
  unfold cfgOk
  refine Ev.ite (fun ha => Ev.ite (fun hb => ?_) (fun hb => ?_)) (fun ha => ?_)
  · rw [ha, hb, Bool.true_and, Bool.true_and]
    refine Ev.ite (fun hc => ?_) (fun hc => by rw [hc]; exact Ev.pure _)
    rw [hc, Bool.true_and]
    refine Ev.bind (iAll _ (of_decide_eq_true hc)) (Ev.ite (fun hc => ?_) (fun hc => by rw [hc]; exact Ev.pure _))
    rw [hc, Bool.true_and]
    refine Ev.ite (fun hc => ?_) (fun hc => by rw [hc]; exact Ev.pure _)
    rw [hc, Bool.true_and]
    refine Ev.bind (iAll _ (of_decide_eq_true hc)) (Ev.ite (fun hc => ?_) (fun hc => by rw [hc]; exact Ev.pure _))
    rw [hc, Bool.true_and]
    exact Ev.pure _
  · rw [hb]; simp only [Bool.false_and, Bool.and_false]; exact Ev.pure _
  · rw [ha]; simp only [Bool.false_and, Bool.and_false]; exact Ev.pure _
structure CfgV (c : Timpl_Config) : Prop where
  ul : c.UserRealm.length = 3
  ur : ∀ x ∈ c.UserRealm, 0 ≤ x ∧ x ≤ 2
  sl : c.ServiceRealm.length = 3
  sr : ∀ x ∈ c.ServiceRealm, 0 ≤ x ∧ x ≤ 2
  ll : c.Links.length ≤ 6
  lk : ∀ p ∈ c.Links, (0 ≤ p.A ∧ p.A ≤ 2) ∧ (0 ≤ p.B ∧ p.B ≤ 2) ∧ p.A ≠ p.B
  pl : c.Proxy.length ≤ 6
  px : ∀ p ∈ c.Proxy, (0 ≤ p.A ∧ p.A ≤ 2) ∧ (0 ≤ p.B ∧ p.B ≤ 2)
  sk : 0 ≤ c.Skew ∧ c.Skew ≤ 20
theorem prF_all {is : Timpl_Pair → Bool} : ∀ {l seen : List Timpl_Pair}, prF is seen l = true → ∀ p ∈ l, is p = true
  | q :: l, seen, h, p, hp => by
    simp only [prF, Bool.and_eq_true] at h
    rcases List.mem_cons.1 hp with rfl | hp
    · exact h.1
    · exact prF_all h.2.2 p hp
theorem cfgV {c : Timpl_Config} (h : cfgOk c = true) : CfgV c := by
  unfold cfgOk prOk at h
  simp only [Bool.and_eq_true, decide_eq_true_eq, List.all_eq_true] at h
  obtain ⟨h1, h2, h3, h4, ⟨h5, h6⟩, ⟨h7, h8⟩, h9⟩ := h
  refine ⟨h1, fun x hx => isR_iff.1 (h2 x hx), h3, fun x hx => isR_iff.1 (h4 x hx), h5, fun p hp => ?_, h7, fun p hp => ?_, by simpa [isIn] using h9⟩
  · have := prF_all h6 p hp
    simp only [linkB, Bool.and_eq_true, bne_iff_ne, ne_eq] at this
    exact ⟨isR_iff.1 this.1, isR_iff.1 this.2.1, this.2.2⟩
  · have := prF_all h8 p hp
    simp only [proxB, Bool.and_eq_true] at this
    exact ⟨isR_iff.1 this.1, isR_iff.1 this.2⟩
def prin (p : Int) : Bool := isIn p 0 5
theorem sPrin (k : Nat) (p : Int) : Fspec_l5Principal k p = some (prin p) := by
  unfold Fspec_l5Principal prin isIn
  simp only [Bool.cond_decide]
  split
  all_goals
    refine congrArg some (Bool.eq_iff_iff.mpr ?_)
    simp only [decide_eq_true_eq, Bool.false_eq_true, false_iff]
    omega
theorem sRealm (k : Nat) (p : Int) : Fspec_l6Realm k p = some (isR p) := by
  unfold Fspec_l6Realm isR isIn
  simp only [Bool.cond_decide]
  split
  all_goals
    refine congrArg some (Bool.eq_iff_iff.mpr ?_)
    simp only [decide_eq_true_eq, Bool.false_eq_true, false_iff]
    omega
def realmOf (c : Timpl_Config) (p : Int) : Int := if cfgOk c = true ∧ prin p = true then (if p < 3 then c.UserRealm.getD p.toNat 0 else c.ServiceRealm.getD (p - 3).toNat 0) else -1
theorem atD {l : List Int} {i : Int} (h0 : 0 ≤ i) (h : i < l.length) : at? l i = some (l.getD i.toNat 0) := by
  obtain ⟨n, rfl⟩ : ∃ n : Nat, i = n := ⟨i.toNat, by omega⟩
  have hl : n < l.length := by omega
  rw [atN (List.getElem?_eq_getElem hl), Int.toNat_natCast, List.getD_eq_getElem?_getD, List.getElem?_eq_getElem hl]; rfl
theorem sRealmOf {c : Timpl_Config} (h : CfgSm c) (p : Int) : Ev (fun k => Fspec_RealmOf k c p) (realmOf c p) := by
  simp only [Fspec_RealmOf, sPrin, Option.bind_some]
  refine Ev.bind (sConfigOk h) ?_
  unfold realmOf
  refine Ev.ite (fun hc => ?_) (fun hc => ?_)
  · rw [if_neg (by simp at hc; simp [hc])]; exact Ev.pure _
  have hc : cfgOk c = true := by simpa using hc
  have hv := cfgV hc
  refine Ev.ite (fun hp => ?_) (fun hp => ?_)
  · rw [if_neg (by simp at hp; simp [hp])]; exact Ev.pure _
  have hp : prin p = true := by simpa using hp
  have hp' : 0 ≤ p ∧ p ≤ 5 := by simpa [prin, isIn] using hp
  rw [if_pos ⟨hc, hp⟩]
  refine Ev.ite (fun h3 => ?_) (fun h3 => ?_)
  · rw [if_pos (of_decide_eq_true h3), atD (by omega) (by rw [hv.ul]; have := of_decide_eq_true h3; omega)]; exact Ev.pure _
  · have h3 : ¬ p < 3 := of_decide_eq_false h3
    rw [if_neg h3, wid (n := p - 3) (by omega) (by omega), atD (by omega) (by rw [hv.sl]; omega)]; exact Ev.pure _
theorem iRealmOf {c : Timpl_Config} (h : CfgSm c) (p : Int) : Ev (fun k => Fimpl_RealmOf k c p) (realmOf c p) := by
  simp only [Fimpl_RealmOf, Fimpl_RealmOf.j2, Fimpl_isPrincipal, iIn, Option.bind_some]
  refine Ev.bind (iConfigOk h) ?_
  unfold realmOf
  refine Ev.ite (fun hc => ?_) (fun hc => ?_)
  · rw [if_neg (by simp at hc; simp [hc])]; exact Ev.pure _
  have hc : cfgOk c = true := by simpa using hc
  have hv := cfgV hc
  refine Ev.ite (fun hp => ?_) (fun hp => ?_)
  · rw [if_neg (by simp at hp; simp [prin, hp])]; exact Ev.pure _
  have hp : prin p = true := by simpa [prin] using hp
  have hp' : 0 ≤ p ∧ p ≤ 5 := by simpa [prin, isIn] using hp
  rw [if_pos ⟨hc, hp⟩]
  refine Ev.ite (fun h3 => ?_) (fun h3 => ?_)
  · rw [if_pos (of_decide_eq_true h3), atD (by omega) (by rw [hv.ul]; have := of_decide_eq_true h3; omega)]; exact Ev.pure _
  · have h3 : ¬ p < 3 := of_decide_eq_false h3
    rw [if_neg h3, wid (n := p - 3) (by omega) (by omega), atD (by omega) (by rw [hv.sl]; omega)]; exact Ev.pure _
abbrev SS (l : List Int) : Prop := l.Pairwise (· < ·)
theorem ss_ext : ∀ {a b : List Int}, SS a → SS b → (∀ x, x ∈ a ↔ x ∈ b) → a = b
  | [], [], _, _, _ => rfl
  | [], y :: b, _, _, h => by have := (h y).2 List.mem_cons_self; cases this
  | x :: a, [], _, _, h => by have := (h x).1 List.mem_cons_self; cases this
  | x :: a, y :: b, ha, hb, h => by
    have ha' := List.pairwise_cons.1 ha
    have hb' := List.pairwise_cons.1 hb
    have e : x = y := by
      have h1 := (h x).1 List.mem_cons_self
      have h2 := (h y).2 List.mem_cons_self
      rcases List.mem_cons.1 h1 with e | h1
      · exact e
      · rcases List.mem_cons.1 h2 with e | h2
        · exact e.symm
        · have := ha'.1 y h2; have := hb'.1 x h1; omega
    subst e
    rw [ss_ext ha'.2 hb'.2 fun z => ?_]
    constructor
    · intro hz
      rcases List.mem_cons.1 ((h z).1 (List.mem_cons_of_mem _ hz)) with e | h1
      · subst e; have := ha'.1 z hz; omega
      · exact h1
    · intro hz
      rcases List.mem_cons.1 ((h z).2 (List.mem_cons_of_mem _ hz)) with e | h1
      · subst e; have := hb'.1 z hz; omega
      · exact h1
def putI (x : Int) : List Int → List Int
  | [] => [x]
  | y :: l => if x < y then x :: y :: l else if x = y then y :: l else y :: putI x l
theorem mem_putI {x z : Int} : ∀ {l : List Int}, z ∈ putI x l ↔ z = x ∨ z ∈ l
  | [] => by simp [putI]
  | y :: l => by
    simp only [putI]
    split
    · simp
    · split
      · rename_i e; subst e; simp
      · simp only [List.mem_cons, mem_putI (l := l)]
        constructor
        · rintro (h | h | h)
          · exact .inr (.inl h)
          · exact .inl h
          · exact .inr (.inr h)
        · rintro (h | h | h)
          · exact .inr (.inl h)
          · exact .inl h
          · exact .inr (.inr h)
theorem ss_putI {x : Int} : ∀ {l : List Int}, SS l → SS (putI x l)
  | [], _ => by simp [putI]
  | y :: l, h => by
    have h' := List.pairwise_cons.1 h
    simp only [putI]
    split
    · rename_i hx
      refine List.pairwise_cons.2 ⟨fun z hz => ?_, h⟩
      rcases List.mem_cons.1 hz with rfl | hz
      · exact hx
      · have := h'.1 z hz; omega
    · split
      · exact h
      · refine List.pairwise_cons.2 ⟨fun z hz => ?_, ss_putI h'.2⟩
        rcases mem_putI.1 hz with rfl | hz
        · omega
        · exact h'.1 z hz
def putsI (l : List Int) (s : List Int) : List Int := l.foldl (fun s x => putI x s) s
theorem ss_putsI : ∀ {l s : List Int}, SS s → SS (putsI l s)
  | [], _, h => h
  | _ :: l, _, h => ss_putsI (l := l) (ss_putI h)
theorem mem_putsI {z : Int} : ∀ {l s : List Int}, z ∈ putsI l s ↔ z ∈ l ∨ z ∈ s
  | [], s => by simp [putsI]
  | x :: l, s => by
    show z ∈ putsI l (putI x s) ↔ _
    rw [mem_putsI, mem_putI, List.mem_cons]
    constructor
    · rintro (h | h | h)
      · exact .inl (.inr h)
      · exact .inl (.inl h)
      · exact .inr h
    · rintro ((h | h) | h)
      · exact .inr (.inl h)
      · exact .inl h
      · exact .inr (.inr h)
def rsn (l : List Int) : List Int := Go.Lib.compact (l.mergeSort fun x y => decide (x ≤ y))
theorem cpt_mem {l : List Int} {x : Int} : x ∈ Go.Lib.compact l ↔ x ∈ l := by
  unfold Go.Lib.compact Go.Lib.compactUpTo
  simp only [List.mem_map, List.mem_filter, List.mem_range]
  constructor
  · rintro ⟨j, ⟨hj, _⟩, rfl⟩
    simp [hj]
  · intro h
    obtain ⟨j, hj, rfl⟩ := List.mem_iff_getElem.1 h
    have key : ∀ j (hj : j < l.length), ∃ a, (a < l.length ∧ Go.Lib.keeps l.toArray a = true) ∧ l.toArray[a]! = l[j] := by
      intro j
      induction j with
      | zero => intro hj; exact ⟨0, ⟨hj, by simp [Go.Lib.keeps]⟩, by simp [hj]⟩
      | succ j ih =>
        intro hj
        by_cases hk : Go.Lib.keeps l.toArray (j + 1) = true
        · exact ⟨j + 1, ⟨hj, hk⟩, by simp [hj]⟩
        · obtain ⟨a, ha, e⟩ := ih (by omega)
          refine ⟨a, ha, e.trans ?_⟩
          simp only [Go.Lib.keeps, decide_eq_true_eq, not_or, Nat.add_sub_cancel, ne_eq, Classical.not_not] at hk
          have := hk.2
          simp [hj, show j < l.length by omega] at this
          exact this.symm
    exact key j hj
theorem cpt_ss {l : List Int} (h : l.Pairwise (· ≤ ·)) : SS (Go.Lib.compact l) := by
  unfold Go.Lib.compact Go.Lib.compactUpTo
  rw [SS, List.pairwise_map]
  have h1 : ((List.range l.length).filter (Go.Lib.keeps l.toArray)).Pairwise (· < ·) := List.Pairwise.sublist List.filter_sublist List.pairwise_lt_range
  refine List.Pairwise.imp_of_mem ?_ h1
  intro a b ha hb hab
  simp only [List.mem_filter, List.mem_range] at ha hb
  obtain ⟨hb1, hb2⟩ := hb
  simp only [Go.Lib.keeps, decide_eq_true_eq] at hb2
  have hb3 := hb2.resolve_left (by omega)
  have le : ∀ (i j : Nat) (hi : i < l.length) (hj : j < l.length), i ≤ j → l[i] ≤ l[j] := fun i j hi hj hij => by
    by_cases e : i = j
    · subst e; exact Int.le_refl _
    · exact List.pairwise_iff_getElem.1 h i j hi hj (by omega)
  have h2 := le a (b - 1) ha.1 (by omega) (by omega)
  have h3 := le (b - 1) b (by omega) hb1 (by omega)
  simp [ha.1, hb1, show b - 1 < l.length by omega] at hb3 ⊢
  omega
theorem rsn_ss (l : List Int) : SS (rsn l) := by
  refine cpt_ss ?_
  have := List.pairwise_mergeSort (le := fun x y : Int => decide (x ≤ y)) (fun a b c h1 h2 => by simp at h1 h2 ⊢; omega) (fun a b => by simp; omega) l
  simpa using this
theorem rsn_mem {l : List Int} {x : Int} : x ∈ rsn l ↔ x ∈ l := by
  unfold rsn
  rw [cpt_mem, List.mem_mergeSort]
/-- What is put in one by one is what is sorted at the end. -/
theorem rsn_puts (l : List Int) : rsn l = putsI l [] := ss_ext (rsn_ss l) (ss_putsI List.Pairwise.nil) fun x => by rw [rsn_mem, mem_putsI]; simp
theorem sHasI (l : List Int) (x : Int) (hl : l.length ≤ 1099511627776) : Ev (fun k => Fspec_l3Has k l x) (decide (x ∈ l)) := by
  simp only [Fspec_l3Has]
  refine Ev.for (xs := l) (L := fun k (_ : Unit) i => Fspec_l3Has.l2 k l x i) (f := fun l _ => decide (x ∈ l)) (fun _ => by simp only [Fspec_l3Has.l2, ltD0, cond_false]; exact Ev.pure _) (fun i b _ hb hi h => ?_) ()
  simp only [Fspec_l3Has.l2, ltD hi, cond_true]
  refine Ev.at? hb (Ev.ite (fun hc => ?_) (fun hc => ?_))
  · have : b = x := by simpa using hc
    rw [decide_eq_true (by rw [this]; exact List.mem_cons_self)]; exact Ev.pure _
  · have hne : ¬ b = x := by simpa using hc
    rw [wid1 (by omega)]
    refine (h ()).to ?_
    refine Bool.eq_iff_iff.2 ?_
    simp only [decide_eq_true_eq, List.mem_cons]
    exact ⟨.inr, fun h => h.resolve_left fun e => hne e.symm⟩
theorem putI_in {x : Int} : ∀ {l : List Int}, SS l → x ∈ l → putI x l = l
  | y :: l, h, hx => by
    have h' := List.pairwise_cons.1 h
    simp only [putI]
    rcases List.mem_cons.1 hx with rfl | hx
    · rw [if_neg (by omega), if_pos rfl]
    · have := h'.1 x hx
      rw [if_neg (by omega), if_neg (by omega), putI_in h'.2 hx]
theorem sPutT {l : List Int} {x : Int} (hl : l.length ≤ 1099511627776) : ∀ (r : List Int) (i : Nat) (out : List Int), l.drop i = r → i ≤ l.length → out.length ≤ i + 1 → Ev (fun k => Fspec_l3Put.l24 k l x out true (i : Int)) (out ++ r) := by
  intro r
  induction r with
  | nil =>
    intro i out hd hi ho
    have : l.length ≤ i := by simpa using hd
    refine Ev.succ ?_
    simp only [Fspec_l3Put.l24]
    rw [decide_eq_false (by omega), List.append_nil]
    exact Ev.pure _
  | cons y r ih =>
    intro i out hd hi ho
    obtain ⟨h1, h2, h3⟩ := drop_at hd
    refine Ev.succ ?_
    simp only [Fspec_l3Put.l24, Fspec_l3Put.j30, Fspec_l3Put.j29]
    rw [decide_eq_true (by omega)]
    simp only [cond_true, Bool.not_true, cond_false]
    refine Ev.at? h2 ?_
    rw [decide_eq_true (by simp only [List.length_cons, List.length_nil]; omega), wid1 (by omega)]
    simp only [cond_true]
    have := ih (i + 1) (out ++ [y]) h3 (by omega) (by simp only [List.length_append, List.length_cons, List.length_nil]; omega)
    rwa [List.append_assoc] at this
theorem sPutF {l : List Int} {x : Int} (hl : l.length ≤ 1099511627776) : ∀ (r : List Int) (i : Nat) (out : List Int), l.drop i = r → x ∉ r → i ≤ l.length → out.length ≤ i → Ev (fun k => Fspec_l3Put.l24 k l x out false (i : Int)) (out ++ putI x r) := by
  intro r
  induction r with
  | nil =>
    intro i out hd _ hi ho
    have : l.length ≤ i := by simpa using hd
    refine Ev.succ ?_
    simp only [Fspec_l3Put.l24]
    rw [decide_eq_false (by omega)]
    simp only [cond_false, Bool.not_false, cond_true]
    rw [decide_eq_true (by simp only [List.length_cons, List.length_nil]; omega)]
    exact Ev.pure _
  | cons y r ih =>
    intro i out hd hx hi ho
    obtain ⟨h1, h2, h3⟩ := drop_at hd
    have hxy : x ≠ y := fun e => hx (e ▸ List.mem_cons_self)
    have hxr : x ∉ r := fun h => hx (List.mem_cons_of_mem _ h)
    refine Ev.succ ?_
    simp only [Fspec_l3Put.l24, Fspec_l3Put.j30, Fspec_l3Put.j29]
    rw [decide_eq_true (by omega)]
    simp only [cond_true, Bool.not_false]
    refine Ev.at? h2 ?_
    simp only [putI]
    refine Ev.ite (fun hc => ?_) (fun hc => ?_)
    · rw [if_pos (of_decide_eq_true hc), decide_eq_true (by simp only [List.length_cons, List.length_nil]; omega)]
      simp only [cond_true]
      refine Ev.at? h2 ?_
      rw [decide_eq_true (by simp only [List.length_append, List.length_cons, List.length_nil]; omega), wid1 (by omega)]
      simp only [cond_true]
      have := sPutT (x := x) hl r (i + 1) (out ++ [x] ++ [y]) h3 (by omega) (by simp only [List.length_append, List.length_cons, List.length_nil]; omega)
      simpa [List.append_assoc] using this
    · rw [if_neg (of_decide_eq_false hc), if_neg hxy]
      refine Ev.at? h2 ?_
      rw [decide_eq_true (by simp only [List.length_cons, List.length_nil]; omega), wid1 (by omega)]
      simp only [cond_true]
      have := ih (i + 1) (out ++ [y]) h3 hxr (by omega) (by simp only [List.length_append, List.length_cons, List.length_nil]; omega)
      rwa [List.append_assoc] at this
theorem sPut {l : List Int} (x : Int) (hl : l.length ≤ 1099511627776) (hs : SS l) : Ev (fun k => Fspec_l3Put k l x) (putI x l) := by
  simp only [Fspec_l3Put]
  refine Ev.bind (sHasI l x hl) (Ev.ite (fun hc => ?_) (fun hc => ?_))
  · rw [putI_in hs (of_decide_eq_true hc)]; exact Ev.pure _
  · exact sPutF hl l 0 [] rfl (of_decide_eq_false hc) (by omega) (by simp)
theorem putsI_snoc (l : List Int) (y : Int) (s : List Int) : putsI (l ++ [y]) s = putI y (putsI l s) := by simp [putsI]
def pk (p : Int) : Int := if prin p = true then (if p < 3 then 1 + p else 8 + p) else 0
def ck (r : Int) : Int := if isR r = true then 21 + r else 0
def lk (a b : Int) : Int := if isR a = true ∧ isR b = true then 31 + 3 * a + b else 0
theorem prin_iff {p : Int} : prin p = true ↔ 0 ≤ p ∧ p ≤ 5 := by simp [prin, isIn]
theorem sPK (k : Nat) (p : Int) : Fspec_PrincipalKey k p = some (pk p) := by
  simp only [Fspec_PrincipalKey, sPrin, Option.bind_some]
  unfold pk
  by_cases h : prin p = true
  · have := prin_iff.1 h
    rw [h, if_pos rfl]
    by_cases h3 : p < 3
    · rw [decide_eq_true h3, if_pos h3, wid (by omega) (by omega)]; rfl
    · rw [decide_eq_false h3, if_neg h3, wid (n := 11 + p) (by omega) (by omega), wid (n := 11 + p - 3) (by omega) (by omega)]
      simp only [Bool.not_true, cond_false]
      congr 1; omega
  · rw [if_neg h, show prin p = false by simpa using h]; rfl
theorem iPK (k : Nat) (p : Int) : Fimpl_PrincipalKey k p = some (pk p) := by
  simp only [Fimpl_PrincipalKey, Fimpl_isPrincipal, iIn, Option.bind_some]
  unfold pk
  by_cases h : prin p = true
  · have := prin_iff.1 h
    rw [if_pos h, show isIn p 0 5 = true from h]
    by_cases h3 : p < 3
    · rw [show isIn p 0 2 = true by simp [isIn]; omega, if_pos h3, wid (by omega) (by omega)]; rfl
    · rw [show isIn p 0 2 = false by simp [isIn]; omega, if_neg h3, wid (n := 11 + p) (by omega) (by omega), wid (n := 11 + p - 3) (by omega) (by omega)]
      simp only [cond_true, cond_false]
      congr 1; omega
  · rw [if_neg h, show isIn p 0 5 = false by simpa [prin] using h, show isIn p 0 2 = false by rw [prin_iff] at h; simp [isIn]; omega]; rfl
theorem sCK (k : Nat) (r : Int) : Fspec_CentreKey k r = some (ck r) := by
  simp only [Fspec_CentreKey, sRealm, Option.bind_some]
  unfold ck
  by_cases h : isR r = true
  · have := isR_iff.1 h
    rw [h, if_pos rfl, wid (by omega) (by omega)]; rfl
  · rw [if_neg h, show isR r = false by simpa using h]; rfl
theorem iCK (k : Nat) (r : Int) : Fimpl_CentreKey k r = some (ck r) := by
  simp only [Fimpl_CentreKey, Fimpl_isRealm, iIn, Option.bind_some]
  unfold ck
  by_cases h : isR r = true
  · have := isR_iff.1 h
    rw [if_pos h, show isIn r 0 2 = true from h, wid (by omega) (by omega)]; rfl
  · rw [if_neg h, show isIn r 0 2 = false by simpa [isR] using h]; rfl
theorem lkE {a b : Int} (ha : isR a = true) (hb : isR b = true) : IntKind.i64.wrap (IntKind.i64.wrap (31 + IntKind.i64.wrap (3 * a)) + b) = 31 + 3 * a + b := by
  have := isR_iff.1 ha
  have := isR_iff.1 hb
  rw [wid (n := 3 * a) (by omega) (by omega), wid (n := 31 + 3 * a) (by omega) (by omega), wid (by omega) (by omega)]
theorem sLK (k : Nat) (a b : Int) : Fspec_LinkKey k a b = some (lk a b) := by
  simp only [Fspec_LinkKey, sRealm, Option.bind_some]
  unfold lk
  by_cases ha : isR a = true
  · by_cases hb : isR b = true
    · rw [if_pos ⟨ha, hb⟩, ha, hb, lkE ha hb]; rfl
    · rw [if_neg fun h => hb h.2, ha, show isR b = false by simpa using hb]; rfl
  · rw [if_neg fun h => ha h.1, show isR a = false by simpa using ha]; rfl
theorem iLK (k : Nat) (a b : Int) : Fimpl_LinkKey k a b = some (lk a b) := by
  simp only [Fimpl_LinkKey, Fimpl_isRealm, iIn, Option.bind_some]
  unfold lk
  by_cases ha : isR a = true
  · by_cases hb : isR b = true
    · rw [if_pos ⟨ha, hb⟩, show isIn a 0 2 = true from ha, show isIn b 0 2 = true from hb, lkE ha hb]; rfl
    · rw [if_neg fun h => hb h.2, show isIn a 0 2 = true from ha, show isIn b 0 2 = false by simpa [isR] using hb]; rfl
  · rw [if_neg fun h => ha h.1, show isIn a 0 2 = false by simpa [isR] using ha]; rfl
theorem szIntS_ev (a : List Int) (w : (Go.MG.wfR Go.MG.wfI) a) (n : Int) (hn : 0 ≤ n) (hb : n ≤ 1048576) : EvP (fun k => Flaws_szIntS k a n) (fun r => r < 0 ∨ (0 ≤ r ∧ r ≤ n ∧ (a.length ≤ 1048576))) := by
  simp only [Flaws_szIntS]
  have hw := w.1; unfold big at hw
  rw [wid (n := n - (a.length : Int)) (by omega) (by omega)]
  refine EvP.ite (fun _ => EvP.pure (.inl (by decide))) (fun hc => ?_)
  have hc : ¬ n - (a.length : Int) < 0 := by simpa using hc
  exact EvP.pure (.inr ⟨by omega, by omega, by omega⟩)
def cvPair (a : Tlaws_Pair) : Timpl_Pair := ⟨a.A, a.B⟩
def smPair (a : Tlaws_Pair) : Prop := True
theorem szPairS_ev (a : List Tlaws_Pair) (w : (Go.MG.wfR wfTlaws_Pair) a) (n : Int) (hn : 0 ≤ n) (hb : n ≤ 1048576) : EvP (fun k => Flaws_szPairS k a n) (fun r => r < 0 ∨ (0 ≤ r ∧ r ≤ n ∧ (a.length ≤ 1048576))) := by
  simp only [Flaws_szPairS]
  have hw := w.1; unfold big at hw
  rw [wid (n := n - (a.length : Int)) (by omega) (by omega)]
  refine EvP.ite (fun _ => EvP.pure (.inl (by decide))) (fun hc => ?_)
  have hc : ¬ n - (a.length : Int) < 0 := by simpa using hc
  exact EvP.pure (.inr ⟨by omega, by omega, by omega⟩)
def cvConfig (a : Tlaws_Config) : Timpl_Config := ⟨a.UserRealm, a.ServiceRealm, (a.Links.map cvPair), (a.Proxy.map cvPair), a.Skew⟩
def smConfig (a : Tlaws_Config) : Prop := (a.UserRealm.length ≤ 1048576) ∧ (a.ServiceRealm.length ≤ 1048576) ∧ (a.Links.length ≤ 1048576) ∧ (a.Proxy.length ≤ 1048576)
theorem szConfig_ev (a : Tlaws_Config) (w : wfTlaws_Config a) (n : Int) (hn : 0 ≤ n) (hb : n ≤ 1048576) : EvP (fun k => Flaws_szConfig k a n) (fun r => r < 0 ∨ (0 ≤ r ∧ r ≤ n ∧ smConfig a)) := by
  simp only [Flaws_szConfig]
  refine EvP.bind (szIntS_ev a.UserRealm w.1 n (by omega) (by omega)) (fun r0 hr0 => ?_)
  refine EvP.ite (fun _ => EvP.pure (.inl (by decide))) (fun hc => ?_)
  obtain ⟨p0, q0, s0⟩ := hr0.resolve_left (by simpa using hc)
  refine EvP.bind (szIntS_ev a.ServiceRealm w.2.1 r0 (by omega) (by omega)) (fun r1 hr1 => ?_)
  refine EvP.ite (fun _ => EvP.pure (.inl (by decide))) (fun hc => ?_)
  obtain ⟨p1, q1, s1⟩ := hr1.resolve_left (by simpa using hc)
  refine EvP.bind (szPairS_ev a.Links w.2.2.1 r1 (by omega) (by omega)) (fun r2 hr2 => ?_)
  refine EvP.ite (fun _ => EvP.pure (.inl (by decide))) (fun hc => ?_)
  obtain ⟨p2, q2, s2⟩ := hr2.resolve_left (by simpa using hc)
  refine EvP.bind (szPairS_ev a.Proxy w.2.2.2.1 r2 (by omega) (by omega)) (fun r3 hr3 => ?_)
  refine EvP.ite (fun _ => EvP.pure (.inl (by decide))) (fun hc => ?_)
  obtain ⟨p3, q3, s3⟩ := hr3.resolve_left (by simpa using hc)
  exact EvP.pure (.inr ⟨by omega, by omega, s0, s1, s2, s3⟩)
def cvAuth (a : Tlaws_Auth) : Timpl_Auth := ⟨a.Client, a.Time, a.Seq⟩
def smAuth (a : Tlaws_Auth) : Prop := True
def cvRest (a : Tlaws_Rest) : Timpl_Rest := ⟨a.Servers, a.Ops, a.End⟩
def smRest (a : Tlaws_Rest) : Prop := True
def cvAccept (a : Tlaws_Accept) : Timpl_Accept := ⟨a.Server, a.Client, a.Key, a.Op, a.Now, (cvAuth a.Auth), (cvRest a.Rest), a.Path, a.Via, a.Leaks, a.Ticket⟩
def smAccept (a : Tlaws_Accept) : Prop := (a.Path.length ≤ 1048576) ∧ (a.Via.length ≤ 1048576) ∧ a.Ticket.length ≤ 1048576
theorem szAccept_ev (a : Tlaws_Accept) (w : wfTlaws_Accept a) (n : Int) (hn : 0 ≤ n) (hb : n ≤ 1048576) : EvP (fun k => Flaws_szAccept k a n) (fun r => r < 0 ∨ (0 ≤ r ∧ r ≤ n ∧ smAccept a)) := by
  simp only [Flaws_szAccept]
  refine EvP.bind (szIntS_ev a.Path w.2.2.2.2.2.2.2.1 n (by omega) (by omega)) (fun r7 hr7 => ?_)
  refine EvP.ite (fun _ => EvP.pure (.inl (by decide))) (fun hc => ?_)
  obtain ⟨p7, q7, s7⟩ := hr7.resolve_left (by simpa using hc)
  refine EvP.bind (szIntS_ev a.Via w.2.2.2.2.2.2.2.2.1 r7 (by omega) (by omega)) (fun r8 hr8 => ?_)
  refine EvP.ite (fun _ => EvP.pure (.inl (by decide))) (fun hc => ?_)
  obtain ⟨p8, q8, s8⟩ := hr8.resolve_left (by simpa using hc)
  have hw10 : a.Ticket.length ≤ 9223372036854775807 := w.2.2.2.2.2.2.2.2.2.2
  rw [wid (n := r8 - (a.Ticket.length : Int)) (by omega) (by omega)]
  refine EvP.ite (fun _ => EvP.pure (.inl (by decide))) (fun hc => ?_)
  have hc10 : ¬ r8 - (a.Ticket.length : Int) < 0 := by simpa using hc
  exact EvP.pure (.inr ⟨by omega, by omega, s7, s8, (by omega)⟩)
theorem toIntS_ev (xs : List Int) (h : (xs.length ≤ 1048576)) : Ev (fun k => Flaws_toIntS k xs) xs := by
  have hl : xs.length ≤ 1048576 := h
  simp only [Flaws_toIntS]
  refine Ev.ite (fun _ => ?_) (fun hc => by rw [decide_eq_true (by omega)] at hc; cases hc)
  simp only [Int.toNat_natCast]
  refine Ev.to (a := xs.map id) ?_ (List.map_id xs)
  exact Ev.copy (xs := xs) (L := fun k s i => Flaws_toIntS.l2 k xs s i) (f := id) (z := (0 : Int)) (fun s => by simp only [Flaws_toIntS.l2, ltD0, cond_false]; exact Ev.pure _) (fun i b s r hb hi hz hr => by
    simp only [Flaws_toIntS.l2, ltD hi, cond_true]
    refine Ev.at? hb (Ev.at? hz ?_)
    rw [wid1 (by omega)]; simpa only [Int.toNat_natCast, id] using hr)
theorem toPair_ev (a : Tlaws_Pair) (h : smPair a) : Ev (fun k => Flaws_toPair k a) (cvPair a) := by
  simp only [Flaws_toPair]
  exact Ev.pure _
theorem toPairS_ev (xs : List Tlaws_Pair) (h : (xs.length ≤ 1048576)) : Ev (fun k => Flaws_toPairS k xs) (xs.map cvPair) := by
  have hl : xs.length ≤ 1048576 := h
  simp only [Flaws_toPairS]
  refine Ev.ite (fun _ => ?_) (fun hc => by rw [decide_eq_true (by omega)] at hc; cases hc)
  simp only [Int.toNat_natCast]
  exact Ev.copy (xs := xs) (L := fun k s i => Flaws_toPairS.l2 k xs s i) (f := cvPair) (z := (⟨(0 : Int), (0 : Int)⟩ : Timpl_Pair)) (fun s => by simp only [Flaws_toPairS.l2, ltD0, cond_false]; exact Ev.pure _) (fun i b s r hb hi hz hr => by
    simp only [Flaws_toPairS.l2, ltD hi, cond_true]
    refine Ev.at? hb (Ev.bind (toPair_ev b trivial) (Ev.at? hz ?_))
    rw [wid1 (by omega)]; simpa only [Int.toNat_natCast] using hr)
theorem toConfig_ev (a : Tlaws_Config) (h : smConfig a) : Ev (fun k => Flaws_toConfig k a) (cvConfig a) := by
  simp only [Flaws_toConfig]
  refine Ev.bind (toIntS_ev _ h.1) ?_
  refine Ev.bind (toIntS_ev _ h.2.1) ?_
  refine Ev.bind (toPairS_ev _ h.2.2.1) ?_
  refine Ev.bind (toPairS_ev _ h.2.2.2) ?_
  exact Ev.pure _
theorem toAuth_ev (a : Tlaws_Auth) (h : smAuth a) : Ev (fun k => Flaws_toAuth k a) (cvAuth a) := by
  simp only [Flaws_toAuth]
  exact Ev.pure _
theorem toRest_ev (a : Tlaws_Rest) (h : smRest a) : Ev (fun k => Flaws_toRest k a) (cvRest a) := by
  simp only [Flaws_toRest]
  exact Ev.pure _
theorem toAccept_ev (a : Tlaws_Accept) (h : smAccept a) : Ev (fun k => Flaws_toAccept k a) (cvAccept a) := by
  simp only [Flaws_toAccept]
  refine Ev.bind (toAuth_ev _ trivial) ?_
  refine Ev.bind (toRest_ev _ trivial) ?_
  refine Ev.bind (toIntS_ev _ h.1) ?_
  refine Ev.bind (toIntS_ev _ h.2.1) ?_
  exact Ev.pure _
theorem eqIntS_ev (xs : List Int) (h : (xs.length ≤ 1099511627776)) : Ev (fun k => Flaws_eqIntS k xs xs) true := by
  have hl : xs.length ≤ 1099511627776 := h
  simp only [Flaws_eqIntS, bne_self_eq_false, cond_false]
  refine Ev.for (xs := xs) (L := fun k (_ : Unit) i => Flaws_eqIntS.l2 k xs xs i) (f := fun _ _ => true) (fun s => by simp only [Flaws_eqIntS.l2, ltD0, cond_false]; exact Ev.pure _) (fun i b s hb hi hr => ?_) ()
  simp only [Flaws_eqIntS.l2, ltD hi, cond_true]
  refine Ev.at? hb (Ev.at? hb (?_))
  simp only [bne_self_eq_false, Bool.not_true, cond_false]
  rw [wid1 (by omega)]; exact hr ()
theorem eqPair_ev (a : Timpl_Pair) : Ev (fun k => Flaws_eqPair k a a) true := by
  simp only [Flaws_eqPair, bne_self_eq_false, cond_false]
  exact Ev.pure _
theorem eqPairS_ev (xs : List Timpl_Pair) (h : (xs.length ≤ 1099511627776)) : Ev (fun k => Flaws_eqPairS k xs xs) true := by
  have hl : xs.length ≤ 1099511627776 := h
  simp only [Flaws_eqPairS, bne_self_eq_false, cond_false]
  refine Ev.for (xs := xs) (L := fun k (_ : Unit) i => Flaws_eqPairS.l2 k xs xs i) (f := fun _ _ => true) (fun s => by simp only [Flaws_eqPairS.l2, ltD0, cond_false]; exact Ev.pure _) (fun i b s hb hi hr => ?_) ()
  simp only [Flaws_eqPairS.l2, ltD hi, cond_true]
  refine Ev.at? hb (Ev.at? hb (Ev.bind (eqPair_ev b) ?_))
  simp only [bne_self_eq_false, Bool.not_true, cond_false]
  rw [wid1 (by omega)]; exact hr ()
def okConfig (a : Timpl_Config) : Prop := (a.UserRealm.length ≤ 1099511627776) ∧ (a.ServiceRealm.length ≤ 1099511627776) ∧ (a.Links.length ≤ 1099511627776) ∧ (a.Proxy.length ≤ 1099511627776)
theorem eqConfig_ev (a : Timpl_Config) (h : okConfig a) : Ev (fun k => Flaws_eqConfig k a a) true := by
  simp only [Flaws_eqConfig, bne_self_eq_false, cond_false]
  refine Ev.bind (eqIntS_ev _ h.1) ?_
  simp only [Bool.not_true, cond_false]
  refine Ev.bind (eqIntS_ev _ h.2.1) ?_
  simp only [Bool.not_true, cond_false]
  refine Ev.bind (eqPairS_ev _ h.2.2.1) ?_
  simp only [Bool.not_true, cond_false]
  refine Ev.bind (eqPairS_ev _ h.2.2.2) ?_
  simp only [Bool.not_true, cond_false]
  exact Ev.pure _
theorem eqAuth_ev (a : Timpl_Auth) : Ev (fun k => Flaws_eqAuth k a a) true := by
  simp only [Flaws_eqAuth, bne_self_eq_false, cond_false]
  exact Ev.pure _
theorem eqRest_ev (a : Timpl_Rest) : Ev (fun k => Flaws_eqRest k a a) true := by
  simp only [Flaws_eqRest, bne_self_eq_false, cond_false]
  exact Ev.pure _
def okAccept (a : Timpl_Accept) : Prop := (a.Path.length ≤ 1099511627776) ∧ (a.Via.length ≤ 1099511627776)
theorem eqAccept_ev (a : Timpl_Accept) (h : okAccept a) : Ev (fun k => Flaws_eqAccept k a a) true := by
  simp only [Flaws_eqAccept, bne_self_eq_false, cond_false]
  refine Ev.bind (eqAuth_ev _) ?_
  simp only [Bool.not_true, cond_false]
  refine Ev.bind (eqRest_ev _) ?_
  simp only [Bool.not_true, cond_false]
  refine Ev.bind (eqIntS_ev _ h.1) ?_
  simp only [Bool.not_true, cond_false]
  refine Ev.bind (eqIntS_ev _ h.2) ?_
  simp only [Bool.not_true, cond_false]
  exact Ev.pure _
def mkIntS (n : Int) (_ : Int) : Int := n
theorem markIntS_ev (xs : List Int) (n : Int) (hn : 0 ≤ n) (hb : n + 1 * xs.length ≤ 4611686018427387904) (hl : xs.length ≤ 4611686018427387904) : Ev (fun k => Flaws_markIntS k xs n) (n + 1 * xs.length, markL mkIntS 1 n xs) := by
  simp only [Flaws_markIntS]
  refine Ev.mark (L := fun k xs n i => Flaws_markIntS.l2 k xs n i) (g := mkIntS) (w := 1) (fun xs n => by simp only [Flaws_markIntS.l2, ltD0, cond_false]; exact Ev.pure _) (fun i b xs n r hb hi h0 h1 h2 hr => ?_) xs n hn hb hl
  simp only [Flaws_markIntS.l2, ltD hi, cond_true]
  refine Ev.at? hb ?_
  simp (disch := omega) only [Int.toNat_natCast, List.set_set, atSet hi, Option.bind_some, widR, Int.add_assoc]
  exact hr
def mkPairS (n : Int) (_ : Timpl_Pair) : Timpl_Pair := (⟨n, (n + 1)⟩ : Timpl_Pair)
theorem markPairS_ev (xs : List Timpl_Pair) (n : Int) (hn : 0 ≤ n) (hb : n + 2 * xs.length ≤ 4611686018427387904) (hl : xs.length ≤ 4611686018427387904) : Ev (fun k => Flaws_markPairS k xs n) (n + 2 * xs.length, markL mkPairS 2 n xs) := by
  simp only [Flaws_markPairS]
  refine Ev.mark (L := fun k xs n i => Flaws_markPairS.l2 k xs n i) (g := mkPairS) (w := 2) (fun xs n => by simp only [Flaws_markPairS.l2, ltD0, cond_false]; exact Ev.pure _) (fun i b xs n r hb hi h0 h1 h2 hr => ?_) xs n hn hb hl
  simp only [Flaws_markPairS.l2, ltD hi, cond_true]
  refine Ev.at? hb ?_
  simp (disch := omega) only [Int.toNat_natCast, List.set_set, atSet hi, Option.bind_some, widR, Int.add_assoc]
  exact hr
theorem markConfig_ev (a : Timpl_Config) (n : Int) (hn : 0 ≤ n) (hb : n ≤ 1000000000) (h0 : a.UserRealm.length ≤ 1048576) (h1 : a.ServiceRealm.length ≤ 1048576) (h2 : a.Links.length ≤ 1048576) (h3 : a.Proxy.length ≤ 1048576) : EvP (fun k => Flaws_markConfig k a n) (fun r => 0 ≤ r.1 ∧ r.1 ≤ n + 6291456) := by
  simp only [Flaws_markConfig]
  refine EvP.bindE (markIntS_ev a.UserRealm n (by omega) (by omega) (by omega)) ?_
  refine EvP.bindE (markIntS_ev a.ServiceRealm (n + 1 * (a.UserRealm.length : Int)) (by omega) (by omega) (by omega)) ?_
  refine EvP.bindE (markPairS_ev a.Links ((n + 1 * (a.UserRealm.length : Int)) + 1 * (a.ServiceRealm.length : Int)) (by omega) (by omega) (by omega)) ?_
  refine EvP.bindE (markPairS_ev a.Proxy (((n + 1 * (a.UserRealm.length : Int)) + 1 * (a.ServiceRealm.length : Int)) + 2 * (a.Links.length : Int)) (by omega) (by omega) (by omega)) ?_
  exact EvP.pure ⟨by simp only; omega, by simp only; omega⟩
theorem markAccept_ev (a : Timpl_Accept) (n : Int) (hn : 0 ≤ n) (hb : n ≤ 1000000000) (h0 : a.Path.length ≤ 1048576) (h1 : a.Via.length ≤ 1048576) : EvP (fun k => Flaws_markAccept k a n) (fun r => 0 ≤ r.1 ∧ r.1 ≤ n + 2097152) := by
  simp only [Flaws_markAccept]
  refine EvP.bindE (markIntS_ev a.Path n (by omega) (by omega) (by omega)) ?_
  refine EvP.bindE (markIntS_ev a.Via (n + 1 * (a.Path.length : Int)) (by omega) (by omega) (by omega)) ?_
  exact EvP.pure ⟨by simp only; omega, by simp only; omega⟩
theorem heldIntS_ev (xs : List Int) (n : Int) (hn : 0 ≤ n) (hb : n + 1 * xs.length ≤ 4611686018427387904) (hl : xs.length ≤ 4611686018427387904) : Ev (fun k => Flaws_heldIntS k (markL mkIntS 1 n xs) n) (n + 1 * xs.length) := by
  simp only [Flaws_heldIntS]
  refine Ev.held (L := fun k xs n i => Flaws_heldIntS.l2 k xs n i) (g := mkIntS) (w := 1) hn hb hl (fun xs n => by simp only [Flaws_heldIntS.l2, ltD0, cond_false]; exact Ev.pure _) (fun i b xs n r hb hi h0 h1 h2 hr => ?_)
  simp only [Flaws_heldIntS.l2, ltD hi, cond_true]
  simp (disch := omega) only [atN hb, mkIntS, Option.bind_some, widR, Int.add_assoc, Int.reduceAdd, bne_self_eq_false, cond_false]
  exact hr
theorem okcvConfig {a : Tlaws_Config} (h : smConfig a) : okConfig (cvConfig a) := ⟨(by have := h.1; (try simp only [smConfig] at this); simp only [okConfig, cvConfig]; omega), (by have := h.2.1; (try simp only [smConfig] at this); simp only [okConfig, cvConfig]; omega), (by have := h.2.2.1; simp only [okConfig, cvConfig, List.length_map]; omega), (by have := h.2.2.2; simp only [okConfig, cvConfig, List.length_map]; omega)⟩
theorem okcvAccept {a : Tlaws_Accept} (h : smAccept a) : okAccept (cvAccept a) := ⟨(by have := h.1; (try simp only [smAccept] at this); simp only [okAccept, cvAccept]; omega), (by have := h.2.1; (try simp only [smAccept] at this); simp only [okAccept, cvAccept]; omega)⟩
theorem iRisen2 (l : List Int) (h : l.length ≤ 2305843009213693952) : Ev (fun k => Fimpl_risen k l) (rsn l) := by
  simp only [Fimpl_risen, Fslices_Sort_int, Fslices_Compact_int]
  rw [decide_eq_true (by omega)]
  simp only [cond_true, Option.bind_some]
  rw [decide_eq_true (by rw [List.length_mergeSort]; omega)]
  exact Ev.pure _
def KB (l : List Int) : Prop := ∀ x ∈ l, 0 ≤ x ∧ x ≤ 39
theorem ss_len39 {s : List Int} (h : SS s) (hb : KB s) : s.length ≤ 40 := by
  have key : ∀ (s : List Int) (a : Int), SS s → (∀ x ∈ s, a ≤ x ∧ x ≤ 39) → (s.length : Int) ≤ 40 - a ∨ s = [] := by
    intro s
    induction s with
    | nil => intro a _ _; exact .inr rfl
    | cons x s ih =>
      intro a hs hx
      have h1 := List.pairwise_cons.1 hs
      have h2 := hx x List.mem_cons_self
      left
      rcases ih (x + 1) h1.2 (fun y hy => ⟨by have := h1.1 y hy; omega, (hx y (List.mem_cons_of_mem _ hy)).2⟩) with h3 | h3
      · simp only [List.length_cons]; omega
      · subst h3; simp; omega
  rcases key s 0 h hb with h1 | h1
  · omega
  · subst h1; simp
theorem puts39 {l : List Int} (h : KB l) : SS (putsI l []) ∧ (putsI l []).length ≤ 40 := by
  have h1 : SS (putsI l []) := ss_putsI List.Pairwise.nil
  exact ⟨h1, ss_len39 h1 fun x hx => h x (by simpa using mem_putsI.1 hx)⟩
theorem pk39 (p : Int) : 0 ≤ pk p ∧ pk p ≤ 39 := by
  unfold pk
  split
  · rename_i h
    have := prin_iff.1 h
    split <;> omega
  · omega
theorem ck39 (p : Int) : 0 ≤ ck p ∧ ck p ≤ 39 := by
  unfold ck
  split
  · rename_i h
    have := isR_iff.1 h
    omega
  · omega
theorem lk39 (a b : Int) : 0 ≤ lk a b ∧ lk a b ≤ 39 := by
  unfold lk
  split
  · rename_i h
    have := isR_iff.1 h.1
    have := isR_iff.1 h.2
    omega
  · omega
theorem KB.app {a b : List Int} (ha : KB a) (hb : KB b) : KB (a ++ b) := fun x hx => (List.mem_append.1 hx).elim (ha x) (hb x)
theorem KB.map {α : Type} {f : α → Int} (h : ∀ x, 0 ≤ f x ∧ f x ≤ 39) (l : List α) : KB (l.map f) := fun x hx => by
  obtain ⟨y, _, rfl⟩ := List.mem_map.1 hx; exact h y
/-- One more is put in. -/
theorem put39 {L : List Int} (x : Int) (h : KB L) : Ev (fun k => Fspec_l3Put k (putsI L []) x) (putsI (L ++ [x]) []) := by
  obtain ⟨h1, h2⟩ := puts39 h
  rw [putsI_snoc]
  exact sPut x (by omega) h1
def fR (R : List Int) (r : Int) : List Int := ck r :: (R.filter fun q => q != r).map (lk r)
theorem fR_len (R : List Int) (r : Int) : (fR R r).length ≤ R.length + 1 := by
  unfold fR
  have := List.length_filter_le (fun q => q != r) R
  simp; omega
theorem iInner {R : List Int} (hR : R.length ≤ 1048578) {r : Int} {i : Nat} (hi : i < R.length) {res : List Int} : ∀ (qs : List Int) (j : Nat) (cl : Nat → List Int → List Int → Int → Int → Option (List Int)) (out : List Int), R.drop j = qs → out.length + R.length ≤ 2000000000000 + j → j ≤ R.length →
    Ev (fun n => cl n (out ++ (qs.filter fun q => q != r).map (lk r)) R (R.length : Int) ((i + 1 : Nat) : Int)) res → Ev (fun n => Fimpl_Concerns.l57 (cl n) n out R r (R.length : Int) (i : Int) (R.length : Int) (j : Int)) res := by
  intro qs
  induction qs with
  | nil =>
    intro j cl out hd ho hj h
    have : R.length ≤ j := by simpa using hd
    refine Ev.succ ?_
    simp only [Fimpl_Concerns.l57]
    rw [decide_eq_false (by omega)]
    simp only [cond_false]
    rw [wid1 (by omega)]
    simpa using h.shift
  | cons q qs ih =>
    intro j cl out hd ho hj h
    obtain ⟨h1, h2, h3⟩ := drop_at hd
    refine Ev.succ ?_
    simp only [Fimpl_Concerns.l57, Fimpl_Concerns.j58, iLK, Option.bind_some]
    rw [decide_eq_true (by omega)]
    simp only [cond_true]
    refine Ev.at? h2 ?_
    rw [wid1 (i := j) (by omega)]
    refine Ev.ite (fun hc => ?_) (fun hc => ?_)
    · rw [decide_eq_true (by simp only [List.length_cons, List.length_nil]; omega)]
      rw [List.filter_cons_of_pos (p := fun q => q != r) hc, List.map_cons] at h
      refine ih (j + 1) (fun n => cl (n + 1)) (out ++ [lk r q]) h3 (by simp only [List.length_append, List.length_cons, List.length_nil]; omega) (by omega) ?_
      rw [List.append_assoc]; exact h.shift
    · rw [List.filter_cons_of_neg (p := fun q => q != r) (by simp only [hc]; simp)] at h
      exact ih (j + 1) (fun n => cl (n + 1)) out h3 (by omega) (by omega) h.shift
theorem iOuter {R : List Int} (hR : R.length ≤ 1048578) : ∀ (rs : List Int) (i : Nat) (out : List Int), R.drop i = rs → out.length ≤ 2000000 + i * 1048579 → i ≤ R.length → Ev (fun n => Fimpl_Concerns.l50 n out R (R.length : Int) (i : Int)) (rsn (out ++ (rs.map (fR R)).flatten)) := by
  intro rs
  induction rs with
  | nil =>
    intro i out hd ho hi
    have : R.length ≤ i := by simpa using hd
    refine Ev.succ ?_
    simp only [Fimpl_Concerns.l50]
    rw [decide_eq_false (by omega)]
    simp only [cond_false, List.map_nil, List.flatten_nil, List.append_nil]
    exact Ev.bind (iRisen2 _ (by omega)) (Ev.pure _)
  | cons r rs ih =>
    intro i out hd ho hi
    obtain ⟨h1, h2, h3⟩ := drop_at hd
    refine Ev.succ ?_
    simp only [Fimpl_Concerns.l50, iCK, Option.bind_some]
    rw [decide_eq_true (by omega)]
    simp only [cond_true]
    refine Ev.at? h2 ?_
    rw [decide_eq_true (by simp only [List.length_cons, List.length_nil]; omega)]
    simp only [cond_true]
    refine iInner hR h1 R 0 (fun n => Fimpl_Concerns.l50 n) (out ++ [ck r]) rfl (by simp only [List.length_append, List.length_cons, List.length_nil]; omega) (by omega) ?_
    have hf := fR_len R r
    have e : out ++ [ck r] ++ (R.filter fun q => q != r).map (lk r) = out ++ fR R r := by simp [fR]
    rw [e]
    have := ih (i + 1) (out ++ fR R r) h3 (by simp only [List.length_append]; omega) (by omega)
    rw [List.map_cons, List.flatten_cons, ← List.append_assoc]
    exact this
theorem sInner {R0 : List Int} (hR : R0.length ≤ 1048578) {r : Int} {i : Nat} (hi : R0[i]? = some r) {res : List Int} : ∀ (qs : List Int) (j : Nat) (cl : Nat → List Int → List Int → Int → Option (List Int)) (L : List Int), R0.drop j = qs → KB L → j ≤ R0.length →
    Ev (fun n => cl n (putsI (L ++ (qs.filter fun q => isR q && q != r).map (lk r)) []) R0 ((i + 1 : Nat) : Int)) res → Ev (fun n => Fspec_Concerns.l133 (cl n) n (putsI L []) R0 (i : Int) (j : Int)) res := by
  have hi2 : i < R0.length := (List.getElem?_eq_some_iff.1 hi).1
  intro qs
  induction qs with
  | nil =>
    intro j cl L hd hL hj h
    have : R0.length ≤ j := by simpa using hd
    refine Ev.succ ?_
    simp only [Fspec_Concerns.l133, Fspec_Concerns.j126]
    rw [decide_eq_false (by omega)]
    simp only [cond_false]
    rw [wid1 (by omega)]
    simpa using h.shift
  | cons q qs ih =>
    intro j cl L hd hL hj h
    obtain ⟨h1, h2, h3⟩ := drop_at hd
    refine Ev.succ ?_
    simp only [Fspec_Concerns.l133, Fspec_Concerns.j136, Fspec_Concerns.j135, sRealm, sLK, Option.bind_some]
    rw [decide_eq_true (by omega)]
    simp only [cond_true, cond_false]
    refine Ev.at? h2 ?_
    rw [wid1 (i := j) (by omega)]
    have skip : (isR q && q != r) = false → Ev (fun n => Fspec_Concerns.l133 (cl (n + 1)) n (putsI L []) R0 (i : Int) ((j + 1 : Nat) : Int)) res := fun hc => by
      rw [List.filter_cons_of_neg (p := fun q => isR q && q != r) (by simp only [hc]; simp)] at h
      exact ih (j + 1) (fun n => cl (n + 1)) L h3 hL (by omega) h.shift
    refine Ev.ite (fun hc => ?_) (fun hc => skip (by rw [hc]; rfl))
    refine Ev.at? hi (Ev.at? h2 (Ev.ite (fun hc2 => ?_) (fun hc2 => ?_)))
    · have hc3 : (q != r) = true := by
        have : r ≠ q := by simpa using hc2
        simpa using fun e => this e.symm
      rw [List.filter_cons_of_pos (p := fun q => isR q && q != r) (by simp only [hc, hc3]; rfl), List.map_cons] at h
      refine Ev.at? hi (Ev.at? h2 (Ev.bind (put39 _ hL) ?_))
      refine ih (j + 1) (fun n => cl (n + 1)) (L ++ [lk r q]) h3 (hL.app fun x hx => by rw [List.mem_singleton.1 hx]; exact lk39 r q) (by omega) ?_
      rw [List.append_assoc]; exact h.shift
    · have hc3 : (q != r) = false := by
        have : r = q := by simpa using hc2
        simp [this]
      exact skip (by rw [hc3]; simp)
theorem sOuter {R0 : List Int} (hR : R0.length ≤ 1048578) : ∀ (rs : List Int) (i : Nat) (L : List Int), R0.drop i = rs → KB L → i ≤ R0.length → Ev (fun n => Fspec_Concerns.l115 n (putsI L []) R0 (i : Int)) (putsI (L ++ ((rs.filter isR).map (fR (R0.filter isR))).flatten) []) := by
  intro rs
  induction rs with
  | nil =>
    intro i L hd hL hi
    have : R0.length ≤ i := by simpa using hd
    refine Ev.succ ?_
    simp only [Fspec_Concerns.l115]
    rw [decide_eq_false (by omega)]
    simp only [cond_false, List.filter_nil, List.map_nil, List.flatten_nil, List.append_nil]
    exact Ev.pure _
  | cons r rs ih =>
    intro i L hd hL hi
    obtain ⟨h1, h2, h3⟩ := drop_at hd
    refine Ev.succ ?_
    simp only [Fspec_Concerns.l115, Fspec_Concerns.j126, sRealm, sCK, Option.bind_some]
    rw [decide_eq_true (by omega)]
    simp only [cond_true]
    refine Ev.at? h2 (Ev.ite (fun hc => ?_) (fun hc => ?_))
    · rw [List.filter_cons_of_neg (p := isR) (by simpa using hc), wid1 (by omega)]
      exact ih (i + 1) L h3 hL (by omega)
    · have hr : isR r = true := by simpa using hc
      rw [List.filter_cons_of_pos (p := isR) hr, List.map_cons, List.flatten_cons]
      refine Ev.at? h2 (Ev.bind (put39 _ hL) ?_)
      have hL2 : KB (L ++ [ck r]) := hL.app fun x hx => by rw [List.mem_singleton.1 hx]; exact ck39 r
      refine sInner hR h2 R0 0 (fun n => Fspec_Concerns.l115 n) (L ++ [ck r]) rfl hL2 (by omega) ?_
      have e : L ++ [ck r] ++ (R0.filter fun q => isR q && q != r).map (lk r) = L ++ fR (R0.filter isR) r := by
        unfold fR
        rw [List.filter_filter]
        simp only [List.append_assoc, List.singleton_append]
        congr 3
        refine List.filter_congr fun q _ => ?_
        rw [Bool.and_comm]
      rw [e, ← List.append_assoc]
      refine ih (i + 1) (L ++ fR (R0.filter isR) r) h3 (hL.app ?_) (by omega)
      intro x hx
      unfold fR at hx
      rcases List.mem_cons.1 hx with rfl | hx
      · exact ck39 r
      · exact KB.map (lk39 r) _ x hx
def viaK (v : List Int) : List Int := (v.filter isR).map fun s => pk (3 + s)
def cR0 (c : Timpl_Config) (a : Timpl_Accept) : List Int := [realmOf c a.Client, c.ServiceRealm.getD a.Server.toNat 0] ++ a.Path
def cAll (c : Timpl_Config) (a : Timpl_Accept) : List Int := (((cR0 c a).filter isR).map (fR ((cR0 c a).filter isR))).flatten
theorem del_isR (l : List Int) : (l.filter fun x => decide (0 ≤ x) && decide (x ≤ 2)) = l.filter isR := by
  refine List.filter_congr fun x _ => ?_
  refine Bool.eq_iff_iff.2 ?_
  rw [isR_iff]; simp
theorem iVia {c : Timpl_Config} (h : CfgSm c) (hc : cfgOk c = true) {a : Timpl_Accept} (hp : a.Path.length ≤ 1048576) (hv : a.Via.length ≤ 1048576) (hs : 0 ≤ a.Server ∧ a.Server ≤ 2) : ∀ (vs : List Int) (i : Nat) (out : List Int), a.Via.drop i = vs → out.length ≤ 2 + i → i ≤ a.Via.length →
    Ev (fun k => Fimpl_Concerns.l7 k out a.Via (a.Via.length : Int) (i : Int) c.UserRealm c.ServiceRealm c.Links c.Proxy c.Skew a.Server a.Client a.Key a.Op a.Now a.Auth.Client a.Auth.Time a.Auth.Seq a.Rest.Servers a.Rest.Ops a.Rest.End a.Path a.Leaks a.Ticket) (rsn (out ++ viaK vs ++ cAll c a)) := by
  have hV := cfgV hc
  intro vs
  induction vs with
  | nil =>
    intro i out hd ho hi
    have : a.Via.length ≤ i := by simpa using hd
    refine Ev.succ ?_
    simp only [Fimpl_Concerns.l7]
    rw [decide_eq_false (by omega)]
    simp only [cond_false]
    refine Ev.bind (iRealmOf h a.Client) ?_
    rw [atD (by omega) (by rw [hV.sl]; omega)]
    simp only [Option.bind_some]
    rw [decide_eq_true (by simp only [List.length_cons, List.length_nil]; omega)]
    simp only [cond_true, Fslices_DeleteFunc_int__impl_Concerns_1]
    rw [decide_eq_true (by simp only [List.length_append, List.length_cons, List.length_nil]; omega)]
    simp only [cond_true, Option.bind_some]
    rw [del_isR]
    have hRl : ((cR0 c a).filter isR).length ≤ 1048578 := by
      refine Nat.le_trans (List.length_filter_le _ _) ?_
      unfold cR0; simp; omega
    have e : viaK [] = [] := rfl
    rw [e, List.append_nil]
    exact iOuter hRl _ 0 out rfl (by omega) (by omega)
  | cons v vs ih =>
    intro i out hd ho hi
    obtain ⟨h1, h2, h3⟩ := drop_at hd
    refine Ev.succ ?_
    simp only [Fimpl_Concerns.l7, Fimpl_Concerns.j8, Fimpl_isService, iIn, iPK, Option.bind_some]
    rw [decide_eq_true (by omega)]
    simp only [cond_true]
    refine Ev.at? h2 ?_
    rw [wid1 (i := i) (by omega)]
    refine Ev.ite (fun hc => ?_) (fun hc => ?_)
    · have hr : isR v = true := hc
      have hb := isR_iff.1 hr
      rw [decide_eq_true (by simp only [List.length_cons, List.length_nil]; omega), wid (n := 3 + v) (by omega) (by omega)]
      have e : viaK (v :: vs) = pk (3 + v) :: viaK vs := by unfold viaK; rw [List.filter_cons_of_pos hr]; rfl
      rw [e, show out ++ pk (3 + v) :: viaK vs = (out ++ [pk (3 + v)]) ++ viaK vs by simp]
      exact ih (i + 1) (out ++ [pk (3 + v)]) h3 (by simp only [List.length_append, List.length_cons, List.length_nil]; omega) (by omega)
    · have hr : isR v = false := hc
      have e : viaK (v :: vs) = viaK vs := by unfold viaK; rw [List.filter_cons_of_neg (by rw [hr]; simp)]
      rw [e]
      exact ih (i + 1) out h3 (by omega) (by omega)
theorem sVia {c : Timpl_Config} (h : CfgSm c) (hc : cfgOk c = true) {a : Timpl_Accept} (hp : a.Path.length ≤ 1048576) (hv : a.Via.length ≤ 1048576) (hs : 0 ≤ a.Server ∧ a.Server ≤ 2) : ∀ (vs : List Int) (i : Nat) (L : List Int), a.Via.drop i = vs → KB L → i ≤ a.Via.length →
    Ev (fun k => Fspec_Concerns.l7 k (putsI L []) (i : Int) c.UserRealm c.ServiceRealm c.Links c.Proxy c.Skew a.Server a.Client a.Key a.Op a.Now a.Auth.Client a.Auth.Time a.Auth.Seq a.Rest.Servers a.Rest.Ops a.Rest.End a.Path a.Via a.Leaks a.Ticket) (putsI (L ++ viaK vs ++ cAll c a) []) := by
  have hV := cfgV hc
  intro vs
  induction vs with
  | nil =>
    intro i L hd hL hi
    have : a.Via.length ≤ i := by simpa using hd
    refine Ev.succ ?_
    simp only [Fspec_Concerns.l7]
    rw [decide_eq_false (by omega)]
    simp only [cond_false]
    refine Ev.bind (sRealmOf h a.Client) ?_
    rw [atD (by omega) (by rw [hV.sl]; omega)]
    simp only [Option.bind_some]
    rw [decide_eq_true (by simp only [List.length_cons, List.length_nil]; omega)]
    simp only [cond_true]
    have e : viaK [] = [] := rfl
    rw [e, List.append_nil]
    exact sOuter (R0 := cR0 c a) (by unfold cR0; simp; omega) _ 0 L rfl hL (by omega)
  | cons v vs ih =>
    intro i L hd hL hi
    obtain ⟨h1, h2, h3⟩ := drop_at hd
    refine Ev.succ ?_
    simp only [Fspec_Concerns.l7, Fspec_Concerns.j8, sIn, sPK, Option.bind_some]
    rw [decide_eq_true (by omega)]
    simp only [cond_true]
    refine Ev.at? h2 ?_
    rw [wid1 (i := i) (by omega)]
    refine Ev.ite (fun hc => ?_) (fun hc => ?_)
    · have hr : isR v = true := hc
      have hb := isR_iff.1 hr
      have e : viaK (v :: vs) = pk (3 + v) :: viaK vs := by unfold viaK; rw [List.filter_cons_of_pos hr]; rfl
      rw [e, show L ++ pk (3 + v) :: viaK vs = (L ++ [pk (3 + v)]) ++ viaK vs by simp]
      refine Ev.at? h2 ?_
      rw [wid (n := 3 + v) (by omega) (by omega)]
      refine Ev.bind (put39 _ hL) ?_
      exact ih (i + 1) (L ++ [pk (3 + v)]) h3 (hL.app fun x hx => by rw [List.mem_singleton.1 hx]; exact pk39 _) (by omega)
    · have hr : isR v = false := hc
      have e : viaK (v :: vs) = viaK vs := by unfold viaK; rw [List.filter_cons_of_neg (by rw [hr]; simp)]
      rw [e]
      exact ih (i + 1) L h3 hL (by omega)
theorem KB_all {c : Timpl_Config} {a : Timpl_Accept} (p s : Int) : KB ([pk p, pk s] ++ viaK a.Via ++ cAll c a) := by
  refine KB.app (KB.app ?_ ?_) ?_
  · intro x hx
    simp only [List.mem_cons, List.not_mem_nil, or_false] at hx
    rcases hx with rfl | rfl
    · exact pk39 _
    · exact pk39 _
  · exact KB.map (f := fun s => pk (3 + s)) (fun x => pk39 _) _
  · intro x hx
    unfold cAll at hx
    obtain ⟨l, hl, hx⟩ := List.mem_flatten.1 hx
    obtain ⟨r, _, rfl⟩ := List.mem_map.1 hl
    unfold fR at hx
    rcases List.mem_cons.1 hx with rfl | hx
    · exact ck39 r
    · exact KB.map (lk39 r) _ x hx
theorem concerns_both {c : Timpl_Config} (h : CfgSm c) {a : Timpl_Accept} (hp : a.Path.length ≤ 1048576) (hv : a.Via.length ≤ 1048576) : ∃ r : List Int, Ev (fun k => Fspec_Concerns k c a) r ∧ Ev (fun k => Fimpl_Concerns k c a) r ∧ r.length ≤ 1048576 := by
  have h1 := sConfigOk h
  have h2 := iConfigOk h
  simp only [Fspec_Concerns, Fimpl_Concerns, sPrin, sPK, iPK, Fimpl_isService, Fimpl_isPrincipal, iIn, Option.bind_some]
  by_cases hc : cfgOk c = true
  case neg =>
    have hc : cfgOk c = false := by simpa using hc
    rw [hc] at h1 h2
    exact ⟨[], Ev.bind h1 (Ev.pure _), Ev.bind h2 (Ev.pure _), by simp⟩
  rw [hc] at h1 h2
  by_cases hs : isR a.Server = true
  case neg =>
    have hs : isR a.Server = false := by simpa using hs
    refine ⟨[], Ev.bind h1 ?_, Ev.bind h2 ?_, by simp⟩
    · have : ¬ (0 ≤ a.Server ∧ a.Server ≤ 2) := fun hh => by rw [isR_iff.2 hh] at hs; cases hs
      simp only [Bool.not_true, cond_false]
      refine Ev.ite (fun _ => Ev.pure _) (fun h0 => Ev.ite (fun _ => Ev.pure _) (fun h3 => ?_))
      exfalso
      have h0 := of_decide_eq_false h0
      have h3 := of_decide_eq_false h3
      omega
    · rw [show isIn a.Server 0 2 = false from hs]; exact Ev.pure _
  have hs' := isR_iff.1 hs
  by_cases hq : prin a.Client = true
  case neg =>
    have hq : prin a.Client = false := by simpa using hq
    refine ⟨[], Ev.bind h1 ?_, Ev.bind h2 ?_, by simp⟩
    · rw [hq, decide_eq_false (by omega), decide_eq_false (by omega)]; exact Ev.pure _
    · rw [show isIn a.Server 0 2 = true from hs, show isIn a.Client 0 5 = false from hq]; exact Ev.pure _
  have hK := KB_all (c := c) (a := a) (a.Client) (3 + a.Server)
  refine ⟨putsI ([pk a.Client, pk (3 + a.Server)] ++ viaK a.Via ++ cAll c a) [], Ev.bind h1 ?_, Ev.bind h2 ?_, by have := (puts39 hK).2; omega⟩
  · rw [hq, decide_eq_false (by omega), decide_eq_false (by omega)]
    simp only [Bool.not_true, cond_false]
    have k0 : KB [] := fun x hx => by cases hx
    have k1 : KB ([] ++ [pk a.Client]) := k0.app fun x hx => by rw [List.mem_singleton.1 hx]; exact pk39 _
    refine Ev.bind (put39 _ k0) ?_
    rw [wid (n := 3 + a.Server) (by omega) (by omega)]
    refine Ev.bind (put39 _ k1) ?_
    exact sVia h hc hp hv hs' a.Via 0 _ rfl (k1.app fun x hx => by rw [List.mem_singleton.1 hx]; exact pk39 _) (by omega)
  · rw [show isIn a.Server 0 2 = true from hs, show isIn a.Client 0 5 = true from hq, ← rsn_puts, wid (n := 3 + a.Server) (by omega) (by omega)]
    exact iVia h hc hp hv hs' a.Via 0 [pk a.Client, pk (3 + a.Server)] rfl (by simp) (by omega)
theorem cfgSm {a : Tlaws_Config} (s0 : smConfig a) : CfgSm (cvConfig a) := by
  obtain ⟨h1, h2, h3, h4⟩ := s0
  exact ⟨h1, h2, by simp only [cvConfig, List.length_map]; exact h3, by simp only [cvConfig, List.length_map]; exact h4⟩
theorem coreConcerns (a0 : Tlaws_Config) (a1 : Tlaws_Accept) (w0 : wfTlaws_Config a0) (w1 : wfTlaws_Accept a1) (s0 : smConfig a0) (s1 : smAccept a1) : ∃ r, Ev (fun k => Fspec_Concerns k (cvConfig a0) (cvAccept a1)) r ∧ Ev (fun k => Fimpl_Concerns k (cvConfig a0) (cvAccept a1)) r ∧ r.length ≤ 1099511627776 := by
  obtain ⟨r, h1, h2, h3⟩ := concerns_both (cfgSm s0) (a := cvAccept a1) s1.1 s1.2.1
  exact ⟨r, h1, h2, by omega⟩
theorem lawExactConcerns (a0 : Tlaws_Config) (a1 : Tlaws_Accept) (w0 : wfTlaws_Config a0) (w1 : wfTlaws_Accept a1) : ∃ k, Flaws_FnExactConcerns k a0 a1 = some true := by
  refine Ev.get (f := fun k => Flaws_FnExactConcerns k a0 a1) ?_
  simp only [Flaws_FnExactConcerns]
  obtain ⟨z1, hz1, hy1⟩ := szConfig_ev a0 w0 (1048576 : Int) (by omega) (by omega)
  refine Ev.bind hz1 ?_
  refine Ev.ite (fun _ => Ev.pure _) (fun hc => ?_)
  obtain ⟨_, _, s0⟩ := hy1.resolve_left (by simpa using hc)
  obtain ⟨z2, hz2, hy2⟩ := szAccept_ev a1 w1 z1 (by omega) (by omega)
  refine Ev.bind hz2 ?_
  refine Ev.ite (fun _ => Ev.pure _) (fun hc => ?_)
  obtain ⟨_, _, s1⟩ := hy2.resolve_left (by simpa using hc)
  refine Ev.bind (toConfig_ev _ s0) ?_
  refine Ev.bind (toAccept_ev _ s1) ?_
  have l0_0 : (cvConfig a0).UserRealm.length ≤ 1048576 := by simp only [cvConfig, List.length_map]; exact s0.1
  have l0_1 : (cvConfig a0).ServiceRealm.length ≤ 1048576 := by simp only [cvConfig, List.length_map]; exact s0.2.1
  have l0_2 : (cvConfig a0).Links.length ≤ 1048576 := by simp only [cvConfig, List.length_map]; exact s0.2.2.1
  have l0_3 : (cvConfig a0).Proxy.length ≤ 1048576 := by simp only [cvConfig, List.length_map]; exact s0.2.2.2
  have l1_7 : (cvAccept a1).Path.length ≤ 1048576 := by simp only [cvAccept, List.length_map]; exact s1.1
  have l1_8 : (cvAccept a1).Via.length ≤ 1048576 := by simp only [cvAccept, List.length_map]; exact s1.2.1
  obtain ⟨r, hs, hi, hr⟩ := coreConcerns a0 a1 w0 w1 s0 s1
  refine Ev.bind hs ?_
  refine Ev.bind (toConfig_ev _ s0) ?_
  refine Ev.bind (toAccept_ev _ s1) ?_
  refine Ev.bind hi ?_
  refine Ev.bind (eqIntS_ev _ hr) ?_
  simp only [Bool.not_true, cond_false]
  refine Ev.bind (toConfig_ev _ s0) ?_
  refine Ev.bind (eqConfig_ev _ (okcvConfig s0)) ?_
  simp only [Bool.not_true, cond_false]
  refine Ev.bind (toAccept_ev _ s1) ?_
  refine Ev.bind (eqAccept_ev _ (okcvAccept s1)) ?_
  simp only [Bool.not_true, cond_false]
  obtain ⟨z3, hz3, hy3, hx3⟩ := markConfig_ev (cvConfig a0) (1 : Int) (by omega) (by omega) l0_0 l0_1 l0_2 l0_3
  refine Ev.bind hz3 ?_
  obtain ⟨z4, hz4, hy4, hx4⟩ := markAccept_ev (cvAccept a1) _ (by omega) (by omega) l1_7 l1_8
  refine Ev.bind hz4 ?_
  refine Ev.ite (fun hc => absurd (of_decide_eq_true hc) (by first | omega | (simp only; omega))) (fun _ => ?_)
  refine Ev.bind (eqIntS_ev _ hr) ?_
  simp only [Bool.not_true, cond_false]
  have hrl := hr
  refine Ev.bind (markIntS_ev _ (1 : Int) (by omega) (by omega) (by omega)) ?_
  refine Ev.bind (heldIntS_ev _ (1 : Int) (by omega) (by omega) (by omega)) ?_
  refine Ev.ite (fun hc => absurd (of_decide_eq_true hc) (by first | omega | (simp only; omega))) (fun _ => ?_)
  try simp only [bne_self_eq_false, cond_false]
  refine Ev.bind (toConfig_ev _ s0) ?_
  refine Ev.bind (toAccept_ev _ s1) ?_
  refine Ev.bind hi ?_
  refine Ev.bind (eqIntS_ev _ hr) ?_
  simp only [Bool.not_true, cond_false]
  refine Ev.bind (heldIntS_ev _ (1 : Int) (by omega) (by omega) (by omega)) ?_
  refine Ev.ite (fun hc => absurd (of_decide_eq_true hc) (by first | omega | (simp only; omega))) (fun _ => ?_)
  try simp only [bne_self_eq_false, cond_false]
  exact Ev.pure _

end Go.Proofs.Ytcolcmjcjpikcaa.M
