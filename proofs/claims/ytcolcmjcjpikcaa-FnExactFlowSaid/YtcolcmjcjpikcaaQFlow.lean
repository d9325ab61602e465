/- The program's Flow and the reference's are one function. Conditions: none. -/
import Derived.Test.YtcolcmjcjpikcaaFFlow
namespace Go.Proofs.Ytcolcmjcjpikcaa.M
open Go Go.MG
set_option linter.unusedVariables false
set_option linter.unusedSimpArgs false
theorem wid {n : Int} (h1 : -9223372036854775808 ≤ n) (h2 : n ≤ 9223372036854775807) : IntKind.i64.wrap n = n := by
  rw [IntKind.wrap_i64]; omega
theorem atN {α : Type} {xs : List α} {i : Nat} {b : α} (h : xs[i]? = some b) : at? xs (i : Int) = some b := by
  simp [at?, h]
theorem atLt {α : Type} {xs : List α} {i : Nat} (h : i < xs.length) : ∃ b, xs[i]? = some b := ⟨xs[i], List.getElem?_eq_getElem h⟩
theorem wid1 {i : Nat} (h : i ≤ 4611686018427387904) : IntKind.i64.wrap ((i : Int) + 1) = ((i + 1 : Nat) : Int) := by
  rw [wid (by omega) (by omega)]; omega
theorem ltD {i n : Nat} (h : i < n) : decide ((i : Int) < (n : Int)) = true := by simp; omega
theorem ltD0 {n : Nat} : decide ((n : Int) < (n : Int)) = false := by simp
theorem take_succ_get {α : Type} {xs : List α} {i : Nat} {b : α} (h : xs[i]? = some b) : xs.take (i + 1) = xs.take i ++ [b] := by
  rw [List.take_add_one, h]; rfl
/-- What a copy has become after some rounds. -/
theorem set_copy {α : Type} {xs : List α} {z b : α} {i : Nat} (h : xs[i]? = some b) : (xs.take i ++ List.replicate (xs.length - i) z).set i b = xs.take (i + 1) ++ List.replicate (xs.length - (i + 1)) z := by
  have hi := (List.getElem?_eq_some_iff.1 h).1
  rw [take_succ_get h, List.set_append_right _ _ (by simp; omega)]
  have e : xs.length - i = (xs.length - (i + 1)) + 1 := by omega
  rw [e, List.replicate_succ]
  have e2 : i - (xs.take i).length = 0 := by simp; omega
  rw [e2]
  simp
theorem get_copy {α : Type} {xs : List α} {z : α} {i : Nat} (h : i < xs.length) : (xs.take i ++ List.replicate (xs.length - i) z)[i]? = some z := by
  rw [List.getElem?_append_right (by simp; omega)]
  have : i - (xs.take i).length = 0 := by simp; omega
  rw [this, List.getElem?_replicate]
  simp; omega
/-- From some fuel on it answers so. -/
def Ev {α : Type} (f : Nat → Option α) (r : α) : Prop := ∃ n, ∀ k, n ≤ k → f k = some r
theorem Ev.pure {α : Type} (r : α) : Ev (fun _ => some r) r := ⟨0, fun _ _ => rfl⟩
theorem Ev.of {α : Type} {f : Nat → Option α} {r : α} (h : ∀ k, f k = some r) : Ev f r := ⟨0, fun k _ => h k⟩
theorem Ev.bind {α β : Type} {f : Nat → Option α} {g : Nat → α → Option β} {a : α} {r : β} (h : Ev f a) (h' : Ev (fun k => g k a) r) : Ev (fun k => (f k).bind (g k)) r := by
  obtain ⟨n, h⟩ := h
  obtain ⟨m, h'⟩ := h'
  refine ⟨max n m, fun k hk => ?_⟩
  show (f k).bind (g k) = some r
  rw [h k (by omega), Option.bind_some]
  exact h' k (by omega)
theorem Ev.succ {α : Type} {f : Nat → Option α} {r : α} (h : Ev (fun k => f (k + 1)) r) : Ev f r := by
  obtain ⟨n, h⟩ := h
  refine ⟨n + 1, fun k hk => ?_⟩
  obtain ⟨j, rfl⟩ : ∃ j, k = j + 1 := ⟨k - 1, by omega⟩
  exact h j (by omega)
theorem Ev.shift {α : Type} {f : Nat → Option α} {r : α} (h : Ev f r) : Ev (fun k => f (k + 1)) r := by
  obtain ⟨n, h⟩ := h
  exact ⟨n, fun k hk => h (k + 1) (by omega)⟩
theorem Ev.get {α : Type} {f : Nat → Option α} {r : α} (h : Ev f r) : ∃ k, f k = some r := by
  obtain ⟨n, h⟩ := h
  exact ⟨n, h n (Nat.le_refl _)⟩
theorem Ev.congr {α : Type} {f g : Nat → Option α} {r : α} (h : Ev f r) (e : ∀ k, g k = f k) : Ev g r := by
  obtain ⟨n, h⟩ := h
  exact ⟨n, fun k hk => (e k).trans (h k hk)⟩
theorem Ev.to {α : Type} {f : Nat → Option α} {a b : α} (h : Ev f a) (e : a = b) : Ev f b := e ▸ h
theorem Ev.ite {α : Type} {f g : Nat → Option α} {c : Bool} {r : α} (h1 : c = true → Ev f r) (h0 : c = false → Ev g r) : Ev (fun k => cond c (f k) (g k)) r := by
  cases c with
  | true => exact h1 rfl
  | false => exact h0 rfl
theorem Ev.at? {α β : Type} {xs : List α} {i : Nat} {b : α} {g : Nat → α → Option β} {r : β} (h : xs[i]? = some b) (h' : Ev (fun k => g k b) r) : Ev (fun k => (Go.MG.at? xs (i : Int)).bind (g k)) r := by
  have e := atN h
  simp only [e, Option.bind_some]
  exact h'
/-- A loop over a list: what it answers, told over what is left of it. -/
theorem Ev.forI {α S R : Type} {xs : List α} {L : Nat → S → Int → Option R} {f : List α → S → R} {I : Nat → S → Prop}
    (hnil : ∀ s, I xs.length s → Ev (fun k => L (k + 1) s (xs.length : Int)) (f [] s))
    (hcons : ∀ (i : Nat) (b : α) (s : S), xs[i]? = some b → i < xs.length → I i s → (∀ s', I (i + 1) s' → Ev (fun k => L k s' ((i + 1 : Nat) : Int)) (f (xs.drop (i + 1)) s')) → Ev (fun k => L (k + 1) s (i : Int)) (f (b :: xs.drop (i + 1)) s)) :
    ∀ (s : S), I 0 s → Ev (fun k => L k s 0) (f xs s) := by
  have key : ∀ (m i : Nat) (s : S), i + m = xs.length → I i s → Ev (fun k => L k s (i : Int)) (f (xs.drop i) s) := by
    intro m
    induction m with
    | zero =>
      intro i s hi hI
      have : i = xs.length := by omega
      subst this
      rw [List.drop_length]
      exact Ev.succ (hnil s hI)
    | succ m ih =>
      intro i s hi hI
      obtain ⟨b, hb⟩ := atLt (xs := xs) (i := i) (by omega)
      have hlt : i < xs.length := by omega
      have e : xs.drop i = b :: xs.drop (i + 1) := by
        rw [List.drop_eq_getElem_cons hlt]
        rw [List.getElem?_eq_getElem hlt] at hb
        cases hb; rfl
      rw [e]
      exact Ev.succ (hcons i b s hb hlt hI fun s' hs' => ih (i + 1) s' (by omega) hs')
  intro s hs
  have := key xs.length 0 s (by omega) hs
  simpa using this
theorem Ev.for {α S R : Type} {xs : List α} {L : Nat → S → Int → Option R} {f : List α → S → R}
    (hnil : ∀ s, Ev (fun k => L (k + 1) s (xs.length : Int)) (f [] s))
    (hcons : ∀ (i : Nat) (b : α) (s : S), xs[i]? = some b → i < xs.length → (∀ s', Ev (fun k => L k s' ((i + 1 : Nat) : Int)) (f (xs.drop (i + 1)) s')) → Ev (fun k => L (k + 1) s (i : Int)) (f (b :: xs.drop (i + 1)) s)) :
    ∀ (s : S), Ev (fun k => L k s 0) (f xs s) := fun s => Ev.forI (I := fun _ _ => True) (fun s _ => hnil s) (fun i b s hb hi _ h => hcons i b s hb hi fun s' => h s' trivial) s trivial
/-- A loop that copies by a map. -/
theorem Ev.copy {α β : Type} {xs : List α} {L : Nat → List β → Int → Option (List β)} {f : α → β} {z : β}
    (hnil : ∀ s, Ev (fun k => L (k + 1) s (xs.length : Int)) s)
    (hcons : ∀ (i : Nat) (b : α) (s : List β) (r : List β), xs[i]? = some b → i < xs.length → s[i]? = some z → Ev (fun k => L k (s.set i (f b)) ((i + 1 : Nat) : Int)) r → Ev (fun k => L (k + 1) s (i : Int)) r) :
    Ev (fun k => L k (List.replicate xs.length z) 0) (xs.map f) := by
  have key : ∀ (m i : Nat), i + m = xs.length → Ev (fun k => L k ((xs.map f).take i ++ List.replicate ((xs.map f).length - i) z) (i : Int)) (xs.map f) := by
    intro m
    induction m with
    | zero =>
      intro i hi
      have : i = xs.length := by omega
      subst this
      refine Ev.succ ((hnil _).to ?_)
      rw [List.length_map, Nat.sub_self, List.replicate_zero, List.append_nil]
      exact List.take_of_length_le (by simp)
    | succ m ih =>
      intro i hi
      obtain ⟨b, hb⟩ := atLt (xs := xs) (i := i) (by omega)
      have hb2 : (xs.map f)[i]? = some (f b) := by rw [List.getElem?_map, hb]; rfl
      refine Ev.succ (hcons i b _ _ hb (by omega) (get_copy (by rw [List.length_map]; omega)) ?_)
      rw [set_copy hb2]
      exact ih (i + 1) (by omega)
  have := key xs.length 0 (by omega)
  simpa using this
/-- A loop that stores what hangs on the place alone. -/
def markL {α β : Type} (g : Int → α → β) (w : Int) : Int → List α → List β
  | _, [] => []
  | n, x :: xs => g n x :: markL g w (n + w) xs
theorem markL_length {α β : Type} (g : Int → α → β) (w : Int) : ∀ (n : Int) (xs : List α), (markL g w n xs).length = xs.length
  | _, [] => rfl
  | n, x :: xs => by simp [markL, markL_length g w (n + w) xs]
theorem markL_get {α β : Type} {g : Int → α → β} {w : Int} : ∀ {n : Int} {xs : List α} {i : Nat} {x : α}, xs[i]? = some x → (markL g w n xs)[i]? = some (g (n + w * i) x)
  | n, [], i, x, h => by simp at h
  | n, y :: xs, 0, x, h => by simp at h; subst h; simp [markL]
  | n, y :: xs, i + 1, x, h => by
    simp only [List.getElem?_cons_succ] at h
    simp only [markL, List.getElem?_cons_succ]
    rw [markL_get h]
    congr 2
    rw [show ((i + 1 : Nat) : Int) = (i : Int) + 1 by omega, Int.mul_add]; omega
/-- It answers, and what it answers is so. -/
def EvP {α : Type} (f : Nat → Option α) (P : α → Prop) : Prop := ∃ r, Ev f r ∧ P r
theorem Ev.p {α : Type} {f : Nat → Option α} {r : α} {P : α → Prop} (h : Ev f r) (hp : P r) : EvP f P := ⟨r, h, hp⟩
theorem EvP.pure {α : Type} {r : α} {P : α → Prop} (h : P r) : EvP (fun _ => some r) P := ⟨r, Ev.pure r, h⟩
theorem EvP.bind {α β : Type} {f : Nat → Option α} {g : Nat → α → Option β} {P : α → Prop} {Q : β → Prop} (h : EvP f P) (h' : ∀ a, P a → EvP (fun k => g k a) Q) : EvP (fun k => (f k).bind (g k)) Q := by
  obtain ⟨a, h1, h2⟩ := h
  obtain ⟨r, h3, h4⟩ := h' a h2
  exact ⟨r, h1.bind h3, h4⟩
theorem EvP.bindE {α β : Type} {f : Nat → Option α} {g : Nat → α → Option β} {a : α} {Q : β → Prop} (h : Ev f a) (h' : EvP (fun k => g k a) Q) : EvP (fun k => (f k).bind (g k)) Q := by
  obtain ⟨r, h3, h4⟩ := h'
  exact ⟨r, h.bind h3, h4⟩
theorem EvP.ite {α : Type} {f g : Nat → Option α} {c : Bool} {P : α → Prop} (h1 : c = true → EvP f P) (h0 : c = false → EvP g P) : EvP (fun k => cond c (f k) (g k)) P := by
  cases c with
  | true => exact h1 rfl
  | false => exact h0 rfl
theorem EvP.succ {α : Type} {f : Nat → Option α} {P : α → Prop} (h : EvP (fun k => f (k + 1)) P) : EvP f P := by
  obtain ⟨r, h1, h2⟩ := h
  exact ⟨r, h1.succ, h2⟩
theorem EvP.at? {α β : Type} {xs : List α} {i : Nat} {b : α} {g : Nat → α → Option β} {P : β → Prop} (h : xs[i]? = some b) (h' : EvP (fun k => g k b) P) : EvP (fun k => (Go.MG.at? xs (i : Int)).bind (g k)) P := by
  obtain ⟨r, h1, h2⟩ := h'
  exact ⟨r, Ev.at? h h1, h2⟩
/-- A loop over a list, by an invariant. -/
theorem EvP.for {α S R : Type} {xs : List α} {L : Nat → S → Int → Option R} {P : R → Prop} (I : Nat → S → Prop)
    (hnil : ∀ s, I xs.length s → EvP (fun k => L (k + 1) s (xs.length : Int)) P)
    (hcons : ∀ (i : Nat) (b : α) (s : S), xs[i]? = some b → i < xs.length → I i s → (∀ s', I (i + 1) s' → EvP (fun k => L k s' ((i + 1 : Nat) : Int)) P) → EvP (fun k => L (k + 1) s (i : Int)) P) :
    ∀ (s : S), I 0 s → EvP (fun k => L k s 0) P := by
  have key : ∀ (m i : Nat) (s : S), i + m = xs.length → I i s → EvP (fun k => L k s (i : Int)) P := by
    intro m
    induction m with
    | zero =>
      intro i s hi hI
      have : i = xs.length := by omega
      subst this
      exact EvP.succ (hnil s hI)
    | succ m ih =>
      intro i s hi hI
      obtain ⟨b, hb⟩ := atLt (xs := xs) (i := i) (by omega)
      exact EvP.succ (hcons i b s hb (by omega) hI fun s' hs' => ih (i + 1) s' (by omega) hs')
  intro s hs
  simpa using key xs.length 0 s (by omega) hs
theorem widR {n : Int} (h1 : -9223372036854775808 ≤ n) (h2 : n ≤ 9223372036854775807) : IntKind.i64.wrap n = n := wid h1 h2
theorem atSet {α : Type} {xs : List α} {i : Nat} {y : α} (h : i < xs.length) : at? (xs.set i y) (i : Int) = some y := atN (by simp [h])
/-- A loop that stores into each place what hangs on the count. -/
theorem Ev.mark {α : Type} {L : Nat → List α → Int → Int → Option (Int × List α)} {g : Int → α → α} {w : Nat}
    (hnil : ∀ xs n, Ev (fun k => L (k + 1) xs n (xs.length : Int)) (n, xs))
    (hcons : ∀ (i : Nat) (b : α) (xs : List α) (n : Int) r, xs[i]? = some b → i < xs.length → 0 ≤ n → n + w ≤ 4611686018427387904 → xs.length ≤ 4611686018427387904 → Ev (fun k => L k (xs.set i (g n b)) (n + w) ((i + 1 : Nat) : Int)) r → Ev (fun k => L (k + 1) xs n (i : Int)) r)
    (xs : List α) (n : Int) (hn : 0 ≤ n) (hb : n + w * xs.length ≤ 4611686018427387904) (hl : xs.length ≤ 4611686018427387904) : Ev (fun k => L k xs n 0) (n + w * xs.length, markL g w n xs) := by
  have key : ∀ (m i : Nat) (ys : List α) (j : Int), i + m = ys.length → j = n + w * i → ys.length = xs.length → ys.take i = (markL g w n xs).take i → ys.drop i = xs.drop i → Ev (fun k => L k ys j (i : Int)) (n + w * xs.length, markL g w n xs) := by
    intro m
    induction m with
    | zero =>
      intro i ys j hi hj hl ht hd
      have e : i = ys.length := by omega
      subst e
      refine Ev.succ ((hnil ys j).to ?_)
      rw [List.take_of_length_le (Nat.le_refl _), List.take_of_length_le (by rw [markL_length]; omega)] at ht
      rw [hj, hl, ← ht]
    | succ m ih =>
      intro i ys j hi hj hl' ht hd
      obtain ⟨b, hb'⟩ := atLt (xs := ys) (i := i) (by omega)
      have hx : xs[i]? = some b := by
        have : (ys.drop i)[0]? = (xs.drop i)[0]? := by rw [hd]
        simp only [List.getElem?_drop, Nat.add_zero] at this
        rw [← this]; exact hb'
      have hw : (w : Int) * (i : Int) + w ≤ w * xs.length := by
        have : w * (i + 1) ≤ w * xs.length := Nat.mul_le_mul_left w (by omega)
        have h2 : ((w * (i + 1) : Nat) : Int) ≤ ((w * xs.length : Nat) : Int) := by omega
        rw [Int.natCast_mul, Int.natCast_mul] at h2
        rw [show ((i + 1 : Nat) : Int) = (i : Int) + 1 by omega, Int.mul_add] at h2
        omega
      have hw0 : (0 : Int) ≤ (w : Int) * (i : Int) := Int.mul_nonneg (by omega) (by omega)
      refine Ev.succ (hcons i b ys j _ hb' (by omega) (by omega) (by omega) (by omega) (ih (i + 1) (ys.set i (g j b)) (j + w) (by rw [List.length_set]; omega) ?_ (by rw [List.length_set]; exact hl') ?_ ?_))
      · rw [hj, show ((i + 1 : Nat) : Int) = (i : Int) + 1 by omega, Int.mul_add]; omega
      · have h1 : (ys.set i (g j b))[i]? = some (g j b) := List.getElem?_set_self (by omega)
        have h2 : (markL g w n xs)[i]? = some (g j b) := by rw [markL_get hx, hj]
        rw [take_succ_get h1, take_succ_get h2, ← ht, List.take_set_of_le (Nat.le_refl _)]
      · rw [List.drop_set_of_lt (by omega), ← List.drop_drop, ← List.drop_drop, hd]
  simpa using key xs.length 0 xs n (by omega) (by simp) rfl rfl rfl
/-- A loop that looks whether each place holds what was stored. -/
theorem Ev.held {α : Type} {L : Nat → List α → Int → Int → Option Int} {g : Int → α → α} {w : Nat} {xs : List α} {n : Int} (hn : 0 ≤ n) (hb : n + w * xs.length ≤ 4611686018427387904) (hl : xs.length ≤ 4611686018427387904)
    (hnil : ∀ (ys : List α) j, Ev (fun k => L (k + 1) ys j (ys.length : Int)) j)
    (hcons : ∀ (i : Nat) (b : α) (ys : List α) (j : Int) r, ys[i]? = some (g j b) → i < ys.length → 0 ≤ j → j + w ≤ 4611686018427387904 → ys.length ≤ 4611686018427387904 → Ev (fun k => L k ys (j + w) ((i + 1 : Nat) : Int)) r → Ev (fun k => L (k + 1) ys j (i : Int)) r) :
    Ev (fun k => L k (markL g w n xs) n 0) (n + w * xs.length) := by
  have hml := markL_length g w n xs
  have key : ∀ (m i : Nat) (j : Int), i + m = xs.length → j = n + w * i → Ev (fun k => L k (markL g w n xs) j (i : Int)) (n + w * xs.length) := by
    intro m
    induction m with
    | zero =>
      intro i j hi hj
      have e : i = (markL g w n xs).length := by omega
      subst e
      refine Ev.succ ((hnil _ j).to ?_)
      rw [hj, hml]
    | succ m ih =>
      intro i j hi hj
      obtain ⟨b, hx⟩ := atLt (xs := xs) (i := i) (by omega)
      have hw : (w : Int) * (i : Int) + w ≤ w * xs.length := by
        have : w * (i + 1) ≤ w * xs.length := Nat.mul_le_mul_left w (by omega)
        have h2 : ((w * (i + 1) : Nat) : Int) ≤ ((w * xs.length : Nat) : Int) := by omega
        rw [Int.natCast_mul, Int.natCast_mul] at h2
        rw [show ((i + 1 : Nat) : Int) = (i : Int) + 1 by omega, Int.mul_add] at h2
        omega
      have hw0 : (0 : Int) ≤ (w : Int) * (i : Int) := Int.mul_nonneg (by omega) (by omega)
      refine Ev.succ (hcons i b _ j _ ?_ (by omega) (by omega) (by omega) (by omega) (ih (i + 1) _ (by omega) ?_))
      · rw [markL_get hx, hj]
      · rw [hj, show ((i + 1 : Nat) : Int) = (i : Int) + 1 by omega, Int.mul_add]; omega
  simpa using key xs.length 0 n (by omega) (by simp)
/-- What is found first. -/
def firstOf {α R : Type} (p : α → Bool) (g : Nat → R) (e : R) : Nat → List α → R
  | _, [] => e
  | i, x :: xs => if p x then g i else firstOf p g e (i + 1) xs
theorem Ev.find {α R : Type} {xs : List α} {L : Nat → Int → Option R} {p : α → Bool} {g : Nat → R} {e : R}
    (hnil : Ev (fun k => L (k + 1) (xs.length : Int)) e)
    (hcons : ∀ (i : Nat) (b : α) (r : R), xs[i]? = some b → i < xs.length → (p b = true → r = g i) → (p b = false → Ev (fun k => L k ((i + 1 : Nat) : Int)) r) → Ev (fun k => L (k + 1) (i : Int)) r) :
    Ev (fun k => L k 0) (firstOf p g e 0 xs) := by
  have := Ev.for (xs := xs) (L := fun k (_ : Unit) i => L k i) (f := fun l _ => firstOf p g e (xs.length - l.length) l) (fun _ => by simpa [firstOf] using hnil) (fun i b _ hb hi h => by
    refine hcons i b _ hb hi (fun hp => ?_) (fun hp => ?_)
    · have : xs.length - (b :: List.drop (i + 1) xs).length = i := by simp; omega
      rw [this]; simp [firstOf, hp]
    · refine (h ()).to ?_
      have e1 : xs.length - (b :: List.drop (i + 1) xs).length = i := by simp; omega
      have e2 : xs.length - (List.drop (i + 1) xs).length = i + 1 := by simp; omega
      rw [e1, e2]; simp [firstOf, hp]) ()
  simpa using this
theorem firstOf_some {α R : Type} {p : α → Bool} {g : Nat → R} {e : R} : ∀ {i : Nat} {xs : List α}, (∃ j b, xs[j]? = some b ∧ p b = true ∧ firstOf p g e i xs = g (i + j)) ∨ ((∀ b ∈ xs, p b = false) ∧ firstOf p g e i xs = e)
  | i, [] => .inr ⟨by simp, rfl⟩
  | i, x :: xs => by
    cases hp : p x with
    | true => exact .inl ⟨0, x, rfl, hp, by simp [firstOf, hp]⟩
    | false =>
      rcases firstOf_some (p := p) (g := g) (e := e) (i := i + 1) (xs := xs) with ⟨j, b, h1, h2, h3⟩ | ⟨h1, h2⟩
      · exact .inl ⟨j + 1, b, by simpa using h1, h2, by simp only [firstOf, hp]; rw [show i + (j + 1) = i + 1 + j by omega]; exact h3⟩
      · refine .inr ⟨fun b hb => ?_, by simpa [firstOf, hp] using h2⟩
        rcases List.mem_cons.1 hb with rfl | hb
        · exact hp
        · exact h1 b hb
theorem EvP.shift {α : Type} {f : Nat → Option α} {P : α → Prop} (h : EvP f P) : EvP (fun k => f (k + 1)) P := by
  obtain ⟨r, h1, h2⟩ := h
  exact ⟨r, h1.shift, h2⟩
def isIn (x a b : Int) : Bool := decide (a ≤ x ∧ x ≤ b)
theorem sIn (k : Nat) (x a b : Int) : Fspec_l1In k x a b = some (isIn x a b) := by
  unfold Fspec_l1In isIn
  simp only [Bool.cond_decide]
  split
  all_goals
    refine congrArg some (Bool.eq_iff_iff.mpr ?_)
    simp only [decide_eq_true_eq, Bool.false_eq_true, false_iff]
    omega
theorem iIn (k : Nat) (x a b : Int) : Fimpl_within k x a b = some (isIn x a b) := sIn k x a b
theorem ofI_nat (n : Nat) (h : n < 256) : ofI (n : Int) = UInt8.ofNat n := by
  unfold ofI
  have : ((n : Int) % 256).toNat = n := by omega
  rw [this]
def dgT (n : Nat) (acc : List UInt8) : List UInt8 := if h : n = 0 then acc else dgT (n / 10) (UInt8.ofNat (48 + n % 10) :: acc)
termination_by n
theorem dgT_zero (acc : List UInt8) : dgT 0 acc = acc := by rw [dgT]; rfl
theorem dgT_pos {n : Nat} (h : 0 < n) (acc : List UInt8) : dgT n acc = dgT (n / 10) (UInt8.ofNat (48 + n % 10) :: acc) := by
  rw [dgT, dif_neg (by omega)]
def markT (n : Int) : List UInt8 := if n ≤ 0 then [109, 48] else 109 :: dgT n.toNat []
theorem markTextL : ∀ (m n : Nat) (acc : List UInt8), n < 10 ^ m → n < 9223372036854775808 → acc.length + m ≤ 1000 → Ev (fun k => Flaws_markText.l2 k (n : Int) acc) (109 :: dgT n acc) := by
  intro m
  induction m with
  | zero =>
    intro n acc hn _ hl
    have : n = 0 := by simpa using hn
    subst this
    refine Ev.succ ?_
    simp only [Flaws_markText.l2]
    rw [decide_eq_false (by omega)]
    simp only [cond_false]
    rw [decide_eq_true (by simp only [List.length_cons, List.length_nil]; omega), dgT_zero]
    exact Ev.pure _
  | succ m ih =>
    intro n acc hn hb hl
    by_cases h0 : n = 0
    · subst h0
      refine Ev.succ ?_
      simp only [Flaws_markText.l2]
      rw [decide_eq_false (by omega)]
      simp only [cond_false]
      rw [decide_eq_true (by simp only [List.length_cons, List.length_nil]; omega), dgT_zero]
      exact Ev.pure _
    · refine Ev.succ ?_
      simp only [Flaws_markText.l2]
      rw [decide_eq_true (by omega), decide_eq_true (by simp only [List.length_cons, List.length_nil]; omega)]
      simp only [cond_true]
      rw [show Int.tmod (n : Int) 10 = ((n % 10 : Nat) : Int) from rfl, show Int.tdiv (n : Int) 10 = ((n / 10 : Nat) : Int) from rfl, wid (n := ((n / 10 : Nat) : Int)) (by omega) (by omega), wid (n := 48 + ((n % 10 : Nat) : Int)) (by omega) (by omega), show 48 + ((n % 10 : Nat) : Int) = ((48 + n % 10 : Nat) : Int) by omega, ofI_nat _ (by omega), dgT_pos (by omega)]
      exact ih (n / 10) _ (by rw [Nat.pow_succ] at hn; omega) (by omega) (by simp only [List.length_append, List.length_cons, List.length_nil]; omega)
theorem markText_ev (n : Int) (h : n ≤ 9223372036854775807) : Ev (fun k => Flaws_markText k n) (markT n) := by
  simp only [Flaws_markText]
  unfold markT
  refine Ev.ite (fun hc => ?_) (fun hc => ?_)
  · rw [if_pos (by simpa using hc)]; exact Ev.pure _
  · have hc : ¬ n ≤ 0 := by simpa using hc
    rw [if_neg hc]
    have := markTextL 20 n.toNat [] (by omega) (by omega) (by simp)
    rwa [Int.toNat_of_nonneg (by omega)] at this
theorem drop_at {α : Type} {l : List α} {j : Nat} {k : α} {ks : List α} (h : l.drop j = k :: ks) : j < l.length ∧ l[j]? = some k ∧ l.drop (j + 1) = ks := by
  have hk : l[j]? = some k := by
    have : (l.drop j)[0]? = some k := by rw [h]; rfl
    rwa [List.getElem?_drop, Nat.add_zero] at this
  exact ⟨(List.getElem?_eq_some_iff.1 hk).1, hk, by rw [← List.drop_drop, h]; rfl⟩
def hasP (l : List Timpl_Pair) (p : Timpl_Pair) : Bool := l.any fun q => q.A == p.A && q.B == p.B
theorem partI {α : Type} {l : List α} {i : Nat} (h : i ≤ l.length) : part? l 0 (i : Int) = some (l.take i) := by
  unfold part?
  rw [if_pos (by omega)]; simp
theorem sHas (l : List Timpl_Pair) (p : Timpl_Pair) (hl : l.length ≤ 1048576) : Ev (fun k => Fspec_l6Has k l p) (hasP l p) := by
  simp only [Fspec_l6Has]
  refine Ev.for (xs := l) (L := fun k (_ : Unit) i => Fspec_l6Has.l2 k l i p.A p.B) (f := fun l _ => hasP l p) (fun _ => by simp only [Fspec_l6Has.l2, ltD0, cond_false]; exact Ev.pure _) (fun i b _ hb hi h => ?_) ()
  simp only [Fspec_l6Has.l2, ltD hi, cond_true, Bool.and_true]
  refine Ev.at? hb ?_
  simp only [hasP, List.any_cons]
  refine Ev.ite (fun hc => ?_) (fun hc => ?_)
  · rw [hc]; exact Ev.pure _
  · rw [hc, wid1 (by omega)]; exact h ()
theorem iHas (l : List Timpl_Pair) (p : Timpl_Pair) (hl : l.length ≤ 1048576) : Ev (fun k => Fslices_Contains_Pair k l p) (hasP l p) := by
  simp only [Fslices_Contains_Pair, Fslices_Index_Pair]
  have : EvP (fun k => Fslices_Index_Pair.l2 k l (l.length : Int) (0 : Int) p.A p.B) (fun r => decide (r ≥ 0) = hasP l p) := by
    have := Ev.find (xs := l) (L := fun k i => Fslices_Index_Pair.l2 k l (l.length : Int) i p.A p.B) (p := fun b => (p.A == b.A) && (p.B == b.B)) (g := fun i => (i : Int)) (e := -1) (by simp only [Fslices_Index_Pair.l2, ltD0, cond_false]; exact Ev.pure _) (fun i b r hb hi h1 h0 => by
      simp only [Fslices_Index_Pair.l2, ltD hi, cond_true, Bool.and_true]
      refine Ev.at? hb (Ev.ite (fun hc => (Ev.pure _).to (h1 hc).symm) (fun hc => ?_))
      rw [wid1 (by omega)]; exact h0 hc)
    refine ⟨_, this, ?_⟩
    rcases firstOf_some (p := fun b : Timpl_Pair => (p.A == b.A) && (p.B == b.B)) (g := fun i => (i : Int)) (e := (-1 : Int)) (i := 0) (xs := l) with ⟨j, b, h1, h2, h3⟩ | ⟨h1, h2⟩
    · rw [h3, decide_eq_true (by omega)]
      symm
      unfold hasP
      rw [List.any_eq_true]
      refine ⟨b, List.mem_of_getElem? h1, ?_⟩
      simp only [Bool.and_eq_true, beq_iff_eq] at h2 ⊢
      exact ⟨h2.1.symm, h2.2.symm⟩
    · rw [h2, decide_eq_false (by omega)]
      symm
      unfold hasP
      rw [List.any_eq_false]
      intro b hb
      have := h1 b hb
      simp only [Bool.and_eq_false_iff, beq_eq_false_iff_ne, ne_eq] at this
      simp only [Bool.and_eq_true, beq_iff_eq, not_and]
      intro e1 e2
      rcases this with h | h
      · exact h e1.symm
      · exact h e2.symm
  obtain ⟨r, h1, h2⟩ := this
  exact Ev.bind h1 ((Ev.pure _).to h2)
def isR (x : Int) : Bool := isIn x 0 2
def linkB (p : Timpl_Pair) : Bool := isR p.A && (isR p.B && p.A != p.B)
def proxB (p : Timpl_Pair) : Bool := isR p.A && isR p.B
def prF (is : Timpl_Pair → Bool) : List Timpl_Pair → List Timpl_Pair → Bool
  | _, [] => true
  | seen, p :: r => is p && (!hasP seen p && prF is (seen ++ [p]) r)
def prOk (is : Timpl_Pair → Bool) (l : List Timpl_Pair) : Bool := decide (l.length ≤ 6) && prF is [] l
theorem isR_iff {x : Int} : isR x = true ↔ 0 ≤ x ∧ x ≤ 2 := by simp [isR, isIn]
theorem sPairs (l : List Timpl_Pair) (u : Bool) (hl : l.length ≤ 1048576) : Ev (fun k => Fspec_l6Pairs k l 3 u) (prOk (if u then linkB else proxB) l) := by
  simp only [Fspec_l6Pairs]
  unfold prOk
  refine Ev.ite (fun hc => ?_) (fun hc => ?_)
  · rw [decide_eq_false (by simp at hc; omega)]; exact Ev.pure _
  rw [decide_eq_true (by simp at hc; omega), Bool.true_and]
  have key : ∀ (g i : Nat), i + g = l.length → Ev (fun k => Fspec_l6Pairs.l7 k l 3 u (i : Int)) (prF (if u then linkB else proxB) (l.take i) (l.drop i)) := by
    intro g
    induction g with
    | zero =>
      intro i hi
      have : i = l.length := by omega
      subst this
      refine Ev.succ ?_
      simp only [Fspec_l6Pairs.l7, ltD0, cond_false, List.drop_length, prF]
      exact Ev.pure _
    | succ g ih =>
      intro i hi
      have hi2 : i < l.length := by omega
      obtain ⟨b, hb⟩ := atLt hi2
      have e : l.drop i = b :: l.drop (i + 1) := by
        obtain ⟨h1, h2⟩ := List.getElem?_eq_some_iff.1 hb
        rw [List.drop_eq_getElem_cons h1, h2]
      refine Ev.succ ?_
      simp only [Fspec_l6Pairs.l7, Fspec_l6Pairs.j8, ltD hi2, cond_true]
      rw [e]
      refine Ev.at? hb ?_
      simp only [prF]
      have hA : isR b.A = (!decide (b.A < 0) && !decide (b.A ≥ 3)) := by
        refine Bool.eq_iff_iff.2 ?_
        rw [isR_iff]; simp; omega
      have hB : isR b.B = (!decide (b.B < 0) && !decide (b.B ≥ 3)) := by
        refine Bool.eq_iff_iff.2 ?_
        rw [isR_iff]; simp; omega
      have hgo : Ev (fun k => (part? l 0 (i : Int)).bind fun b211 => (Fspec_l6Has k b211 b).bind fun r212 => cond r212 (some false) (Fspec_l6Pairs.l7 k l 3 u (IntKind.i64.wrap ((i : Int) + 1)))) (!hasP (l.take i) b && prF (if u then linkB else proxB) (l.take i ++ [b]) (l.drop (i + 1))) := by
        rw [partI (by omega)]
        simp only [Option.bind_some]
        refine Ev.bind (sHas _ _ (by rw [List.length_take]; omega)) (Ev.ite (fun hc => ?_) (fun hc => ?_))
        · rw [hc]; exact Ev.pure _
        · rw [hc, wid1 (by omega), ← take_succ_get hb]; exact ih (i + 1) (by omega)
      cases u with
      | true =>
        simp only [if_true, linkB, hA, hB] at hgo ⊢
        refine Ev.ite (fun hc => ?_) (fun hc => ?_)
        · rw [hc]; exact Ev.pure _
        refine Ev.ite (fun hc2 => ?_) (fun hc2 => ?_)
        · rw [hc, hc2]; exact Ev.pure _
        refine Ev.ite (fun hc3 => ?_) (fun hc3 => ?_)
        · rw [hc, hc2, hc3]; exact Ev.pure _
        refine Ev.ite (fun hc4 => ?_) (fun hc4 => ?_)
        · rw [hc, hc2, hc3, hc4]; exact Ev.pure _
        rw [hc, hc2, hc3, hc4]
        simp only [cond_true, Bool.not_false, Bool.true_and]
        refine Ev.ite (fun hc5 => ?_) (fun hc5 => ?_)
        · rw [show (b.A != b.B) = false by simpa using hc5]; exact Ev.pure _
        · rw [show (b.A != b.B) = true by simpa using hc5, Bool.true_and]; exact hgo
      | false =>
        simp only [Bool.false_eq_true, if_false, proxB, hA, hB] at hgo ⊢
        refine Ev.ite (fun hc => ?_) (fun hc => ?_)
        · rw [hc]; exact Ev.pure _
        refine Ev.ite (fun hc2 => ?_) (fun hc2 => ?_)
        · rw [hc, hc2]; exact Ev.pure _
        refine Ev.ite (fun hc3 => ?_) (fun hc3 => ?_)
        · rw [hc, hc2, hc3]; exact Ev.pure _
        refine Ev.ite (fun hc4 => ?_) (fun hc4 => ?_)
        · rw [hc, hc2, hc3, hc4]; exact Ev.pure _
        rw [hc, hc2, hc3, hc4]
        simp only [cond_false, Bool.not_false, Bool.true_and]
        exact hgo
  simpa using key l.length 0 (by omega)
theorem iPairs1 (l : List Timpl_Pair) (hl : l.length ≤ 1048576) : Ev (fun k => Fimpl_arePairs__impl_ConfigOk_1 k l) (prOk linkB l) := by
  simp only [Fimpl_arePairs__impl_ConfigOk_1]
  unfold prOk
  rw [Bool.and_comm]
  have key : ∀ (g i : Nat), i + g = l.length → Ev (fun k => Fimpl_arePairs__impl_ConfigOk_1.l2 k l (l.length : Int) (i : Int)) (prF linkB (l.take i) (l.drop i) && decide (l.length ≤ 6)) := by
    intro g
    induction g with
    | zero =>
      intro i hi
      have : i = l.length := by omega
      subst this
      refine Ev.succ ?_
      simp only [Fimpl_arePairs__impl_ConfigOk_1.l2, ltD0, cond_false, List.drop_length, prF, Bool.true_and]
      refine (Ev.pure _).to (Bool.eq_iff_iff.2 ?_)
      simp; omega
    | succ g ih =>
      intro i hi
      have hi2 : i < l.length := by omega
      obtain ⟨b, hb⟩ := atLt hi2
      have e : l.drop i = b :: l.drop (i + 1) := by
        obtain ⟨h1, h2⟩ := List.getElem?_eq_some_iff.1 hb
        rw [List.drop_eq_getElem_cons h1, h2]
      refine Ev.succ ?_
      simp only [Fimpl_arePairs__impl_ConfigOk_1.l2, ltD hi2, cond_true]
      rw [e]
      refine Ev.at? hb ?_
      simp only [prF]
      have hb1 : Ev (fun k => Fimpl_ConfigOk_1 k b) (linkB b) := by
        simp only [Fimpl_ConfigOk_1, Fimpl_isRealm, iIn, Option.bind_some]
        unfold linkB isR
        refine Ev.ite (fun hc => ?_) (fun hc => ?_)
        · rw [hc, Bool.true_and]
          refine Ev.ite (fun hc => ?_) (fun hc => ?_)
          · rw [hc]; exact Ev.pure _
          · rw [hc]; exact Ev.pure _
        · rw [hc]; exact Ev.pure _
      refine Ev.bind hb1 (Ev.ite (fun hc => ?_) (fun hc => ?_))
      · rw [show linkB b = false by simpa using hc]; exact Ev.pure _
      rw [show linkB b = true by simpa using hc, Bool.true_and, partI (by omega)]
      simp only [Option.bind_some]
      refine Ev.bind (iHas _ _ (by rw [List.length_take]; omega)) (Ev.ite (fun hc => ?_) (fun hc => ?_))
      · rw [hc]; exact Ev.pure _
      · rw [hc, wid1 (by omega), ← take_succ_get hb, Bool.not_false, Bool.true_and]; exact ih (i + 1) (by omega)
  simpa using key l.length 0 (by omega)
theorem iPairs2 (l : List Timpl_Pair) (hl : l.length ≤ 1048576) : Ev (fun k => Fimpl_arePairs__impl_ConfigOk_2 k l) (prOk proxB l) := by
  simp only [Fimpl_arePairs__impl_ConfigOk_2]
  unfold prOk
  rw [Bool.and_comm]
  have key : ∀ (g i : Nat), i + g = l.length → Ev (fun k => Fimpl_arePairs__impl_ConfigOk_2.l2 k l (l.length : Int) (i : Int)) (prF proxB (l.take i) (l.drop i) && decide (l.length ≤ 6)) := by
    intro g
    induction g with
    | zero =>
      intro i hi
      have : i = l.length := by omega
      subst this
      refine Ev.succ ?_
      simp only [Fimpl_arePairs__impl_ConfigOk_2.l2, ltD0, cond_false, List.drop_length, prF, Bool.true_and]
      refine (Ev.pure _).to (Bool.eq_iff_iff.2 ?_)
      simp; omega
    | succ g ih =>
      intro i hi
      have hi2 : i < l.length := by omega
      obtain ⟨b, hb⟩ := atLt hi2
      have e : l.drop i = b :: l.drop (i + 1) := by
        obtain ⟨h1, h2⟩ := List.getElem?_eq_some_iff.1 hb
        rw [List.drop_eq_getElem_cons h1, h2]
      refine Ev.succ ?_
      simp only [Fimpl_arePairs__impl_ConfigOk_2.l2, ltD hi2, cond_true]
      rw [e]
      refine Ev.at? hb ?_
      simp only [prF]
      have hb1 : Ev (fun k => Fimpl_ConfigOk_2 k b) (proxB b) := by
        simp only [Fimpl_ConfigOk_2, Fimpl_isService, iIn, Option.bind_some]
        unfold proxB isR
        refine Ev.ite (fun hc => ?_) (fun hc => ?_)
        · rw [hc, Bool.true_and]; exact Ev.pure _
        · rw [hc]; exact Ev.pure _
      refine Ev.bind hb1 (Ev.ite (fun hc => ?_) (fun hc => ?_))
      · rw [show proxB b = false by simpa using hc]; exact Ev.pure _
      rw [show proxB b = true by simpa using hc, Bool.true_and, partI (by omega)]
      simp only [Option.bind_some]
      refine Ev.bind (iHas _ _ (by rw [List.length_take]; omega)) (Ev.ite (fun hc => ?_) (fun hc => ?_))
      · rw [hc]; exact Ev.pure _
      · rw [hc, wid1 (by omega), ← take_succ_get hb, Bool.not_false, Bool.true_and]; exact ih (i + 1) (by omega)
  simpa using key l.length 0 (by omega)
def CfgSm (c : Timpl_Config) : Prop := c.UserRealm.length ≤ 1048576 ∧ c.ServiceRealm.length ≤ 1048576 ∧ c.Links.length ≤ 1048576 ∧ c.Proxy.length ≤ 1048576
theorem sAll (l : List Int) (hl : l.length = 3) : Ev (fun k => Fspec_l5All k l 3 3) (l.all isR) := by
  simp only [Fspec_l5All]
  rw [decide_eq_false (by omega)]
  simp only [cond_false]
  refine Ev.for (xs := l) (L := fun k (_ : Unit) i => Fspec_l5All.l2 k l 3 i) (f := fun l _ => l.all isR) (fun _ => by simp only [Fspec_l5All.l2, ltD0, cond_false]; exact Ev.pure _) (fun i b _ hb hi h => ?_) ()
  simp only [Fspec_l5All.l2, ltD hi, cond_true, List.all_cons]
  have hA : isR b = (!decide (b < 0) && !decide (b ≥ 3)) := by
    refine Bool.eq_iff_iff.2 ?_
    rw [isR_iff]; simp; omega
  rw [hA]
  refine Ev.at? hb (Ev.ite (fun hc => ?_) (fun hc => Ev.at? hb (Ev.ite (fun hc2 => ?_) (fun hc2 => ?_))))
  · rw [hc]; exact Ev.pure _
  · rw [hc, hc2]; exact Ev.pure _
  · rw [hc, hc2, wid1 (by omega)]; exact h ()
theorem iAll (l : List Int) (hl : l.length = 3) : Ev (fun k => Fimpl_areAll__impl_isRealm k l 3) (l.all isR) := by
  simp only [Fimpl_areAll__impl_isRealm]
  refine Ev.for (xs := l) (L := fun k (_ : Unit) i => Fimpl_areAll__impl_isRealm.l2 k l 3 (l.length : Int) i) (f := fun l _ => l.all isR) (fun _ => by simp only [Fimpl_areAll__impl_isRealm.l2, ltD0, cond_false]; rw [decide_eq_true (by omega)]; exact Ev.pure _) (fun i b _ hb hi h => ?_) ()
  simp only [Fimpl_areAll__impl_isRealm.l2, ltD hi, cond_true, Fimpl_isRealm, iIn, Option.bind_some, List.all_cons]
  refine Ev.at? hb (Ev.ite (fun hc => ?_) (fun hc => ?_))
  · rw [show isR b = false by simpa [isR] using hc]; exact Ev.pure _
  · rw [show isR b = true by simpa [isR] using hc, wid1 (by omega)]; exact h ()
def cfgOk (c : Timpl_Config) : Bool := decide (c.UserRealm.length = 3) && (c.UserRealm.all isR && (decide (c.ServiceRealm.length = 3) && (c.ServiceRealm.all isR && (prOk linkB c.Links && (prOk proxB c.Proxy && isIn c.Skew 0 20)))))
theorem beq3 (n : Nat) : (((n : Int) == 3) = decide (n = 3)) := by
  refine Bool.eq_iff_iff.2 ?_
  simp; omega
theorem sConfigOk {c : Timpl_Config} (h : CfgSm c) : Ev (fun k => Fspec_ConfigOk k c) (cfgOk c) := by
  obtain ⟨h1, h2, h3, h4⟩ := h
  simp only [Fspec_ConfigOk, sIn, Option.bind_some, beq3]
  unfold cfgOk
  refine Ev.ite (fun hc => ?_) (fun hc => by rw [hc]; exact Ev.pure _)
  rw [hc, Bool.true_and]
  refine Ev.bind (sAll _ (of_decide_eq_true hc)) (Ev.ite (fun hc => ?_) (fun hc => by rw [hc]; exact Ev.pure _))
  rw [hc, Bool.true_and]
  refine Ev.ite (fun hc => ?_) (fun hc => by rw [hc]; exact Ev.pure _)
  rw [hc, Bool.true_and]
  refine Ev.bind (sAll _ (of_decide_eq_true hc)) (Ev.ite (fun hc => ?_) (fun hc => by rw [hc]; exact Ev.pure _))
  rw [hc, Bool.true_and]
  refine Ev.bind (sPairs _ true h3) (Ev.ite (fun hc => ?_) (fun hc => ?_))
  · rw [show prOk linkB c.Links = true from hc, Bool.true_and]
    refine Ev.bind (sPairs _ false h4) (Ev.ite (fun hc => ?_) (fun hc => ?_))
    · rw [show prOk proxB c.Proxy = true from hc, Bool.true_and]; exact Ev.pure _
    · rw [show prOk proxB c.Proxy = false from hc]; exact Ev.pure _
  · rw [show prOk linkB c.Links = false from hc]; exact Ev.pure _
theorem iConfigOk {c : Timpl_Config} (h : CfgSm c) : Ev (fun k => Fimpl_ConfigOk k c) (cfgOk c) := by
  obtain ⟨h1, h2, h3, h4⟩ := h
  simp only [Fimpl_ConfigOk, iIn, Option.bind_some, beq3]
  refine Ev.bind (iPairs1 _ h3) (Ev.bind (iPairs2 _ h4) ?_)
  unfold cfgOk
  refine Ev.ite (fun ha => Ev.ite (fun hb => ?_) (fun hb => ?_)) (fun ha => ?_)
  · rw [ha, hb, Bool.true_and, Bool.true_and]
    refine Ev.ite (fun hc => ?_) (fun hc => by rw [hc]; exact Ev.pure _)
    rw [hc, Bool.true_and]
    refine Ev.bind (iAll _ (of_decide_eq_true hc)) (Ev.ite (fun hc => ?_) (fun hc => by rw [hc]; exact Ev.pure _))
    rw [hc, Bool.true_and]
    refine Ev.ite (fun hc => ?_) (fun hc => by rw [hc]; exact Ev.pure _)
    rw [hc, Bool.true_and]
    refine Ev.bind (iAll _ (of_decide_eq_true hc)) (Ev.ite (fun hc => ?_) (fun hc => by rw [hc]; exact Ev.pure _))
    rw [hc, Bool.true_and]
    exact Ev.pure _
  · rw [hb]; simp only [Bool.false_and, Bool.and_false]; exact Ev.pure _
  · rw [ha]; simp only [Bool.false_and, Bool.and_false]; exact Ev.pure _
structure CfgV (c : Timpl_Config) : Prop where
  ul : c.UserRealm.length = 3
  ur : ∀ x ∈ c.UserRealm, 0 ≤ x ∧ x ≤ 2
  sl : c.ServiceRealm.length = 3
  sr : ∀ x ∈ c.ServiceRealm, 0 ≤ x ∧ x ≤ 2
  ll : c.Links.length ≤ 6
  lk : ∀ p ∈ c.Links, (0 ≤ p.A ∧ p.A ≤ 2) ∧ (0 ≤ p.B ∧ p.B ≤ 2) ∧ p.A ≠ p.B
  pl : c.Proxy.length ≤ 6
  px : ∀ p ∈ c.Proxy, (0 ≤ p.A ∧ p.A ≤ 2) ∧ (0 ≤ p.B ∧ p.B ≤ 2)
  sk : 0 ≤ c.Skew ∧ c.Skew ≤ 20
theorem prF_all {is : Timpl_Pair → Bool} : ∀ {l seen : List Timpl_Pair}, prF is seen l = true → ∀ p ∈ l, is p = true
  | q :: l, seen, h, p, hp => by
    simp only [prF, Bool.and_eq_true] at h
    rcases List.mem_cons.1 hp with rfl | hp
    · exact h.1
    · exact prF_all h.2.2 p hp
theorem cfgV {c : Timpl_Config} (h : cfgOk c = true) : CfgV c := by
  unfold cfgOk prOk at h
  simp only [Bool.and_eq_true, decide_eq_true_eq, List.all_eq_true] at h
  obtain ⟨h1, h2, h3, h4, ⟨h5, h6⟩, ⟨h7, h8⟩, h9⟩ := h
  refine ⟨h1, fun x hx => isR_iff.1 (h2 x hx), h3, fun x hx => isR_iff.1 (h4 x hx), h5, fun p hp => ?_, h7, fun p hp => ?_, by simpa [isIn] using h9⟩
  · have := prF_all h6 p hp
    simp only [linkB, Bool.and_eq_true, bne_iff_ne, ne_eq] at this
    exact ⟨isR_iff.1 this.1, isR_iff.1 this.2.1, this.2.2⟩
  · have := prF_all h8 p hp
    simp only [proxB, Bool.and_eq_true] at this
    exact ⟨isR_iff.1 this.1, isR_iff.1 this.2⟩
def prin (p : Int) : Bool := isIn p 0 5
theorem sPrin (k : Nat) (p : Int) : Fspec_l5Principal k p = some (prin p) := by
  unfold Fspec_l5Principal prin isIn
  simp only [Bool.cond_decide]
  split
  all_goals
    refine congrArg some (Bool.eq_iff_iff.mpr ?_)
    simp only [decide_eq_true_eq, Bool.false_eq_true, false_iff]
    omega
theorem sRealm (k : Nat) (p : Int) : Fspec_l6Realm k p = some (isR p) := by
  unfold Fspec_l6Realm isR isIn
  simp only [Bool.cond_decide]
  split
  all_goals
    refine congrArg some (Bool.eq_iff_iff.mpr ?_)
    simp only [decide_eq_true_eq, Bool.false_eq_true, false_iff]
    omega
def realmOf (c : Timpl_Config) (p : Int) : Int := if cfgOk c = true ∧ prin p = true then (if p < 3 then c.UserRealm.getD p.toNat 0 else c.ServiceRealm.getD (p - 3).toNat 0) else -1
theorem realmOf_lt {c : Timpl_Config} {p : Int} (h : cfgOk c = true) (hp : prin p = true) : 0 ≤ realmOf c p ∧ realmOf c p ≤ 2 := by
  have hv := cfgV h
  unfold realmOf
  rw [if_pos ⟨h, hp⟩]
  have hp : 0 ≤ p ∧ p ≤ 5 := by simpa [prin, isIn] using hp
  split
  · have hl : p.toNat < c.UserRealm.length := by have := hv.ul; omega
    rw [List.getD_eq_getElem?_getD, List.getElem?_eq_getElem hl]
    exact hv.ur _ (List.getElem_mem hl)
  · have hl : (p - 3).toNat < c.ServiceRealm.length := by have := hv.sl; omega
    rw [List.getD_eq_getElem?_getD, List.getElem?_eq_getElem hl]
    exact hv.sr _ (List.getElem_mem hl)
theorem atD {l : List Int} {i : Int} (h0 : 0 ≤ i) (h : i < l.length) : at? l i = some (l.getD i.toNat 0) := by
  obtain ⟨n, rfl⟩ : ∃ n : Nat, i = n := ⟨i.toNat, by omega⟩
  have hl : n < l.length := by omega
  rw [atN (List.getElem?_eq_getElem hl), Int.toNat_natCast, List.getD_eq_getElem?_getD, List.getElem?_eq_getElem hl]; rfl
theorem sRealmOf {c : Timpl_Config} (h : CfgSm c) (p : Int) : Ev (fun k => Fspec_RealmOf k c p) (realmOf c p) := by
  simp only [Fspec_RealmOf, sPrin, Option.bind_some]
  refine Ev.bind (sConfigOk h) ?_
  unfold realmOf
  refine Ev.ite (fun hc => ?_) (fun hc => ?_)
  · rw [if_neg (by simp at hc; simp [hc])]; exact Ev.pure _
  have hc : cfgOk c = true := by simpa using hc
  have hv := cfgV hc
  refine Ev.ite (fun hp => ?_) (fun hp => ?_)
  · rw [if_neg (by simp at hp; simp [hp])]; exact Ev.pure _
  have hp : prin p = true := by simpa using hp
  have hp' : 0 ≤ p ∧ p ≤ 5 := by simpa [prin, isIn] using hp
  rw [if_pos ⟨hc, hp⟩]
  refine Ev.ite (fun h3 => ?_) (fun h3 => ?_)
  · rw [if_pos (of_decide_eq_true h3), atD (by omega) (by rw [hv.ul]; have := of_decide_eq_true h3; omega)]; exact Ev.pure _
  · have h3 : ¬ p < 3 := of_decide_eq_false h3
    rw [if_neg h3, wid (n := p - 3) (by omega) (by omega), atD (by omega) (by rw [hv.sl]; omega)]; exact Ev.pure _
theorem iRealmOf {c : Timpl_Config} (h : CfgSm c) (p : Int) : Ev (fun k => Fimpl_RealmOf k c p) (realmOf c p) := by
  simp only [Fimpl_RealmOf, Fimpl_RealmOf.j2, Fimpl_isPrincipal, iIn, Option.bind_some]
  refine Ev.bind (iConfigOk h) ?_
  unfold realmOf
  refine Ev.ite (fun hc => ?_) (fun hc => ?_)
  · rw [if_neg (by simp at hc; simp [hc])]; exact Ev.pure _
  have hc : cfgOk c = true := by simpa using hc
  have hv := cfgV hc
  refine Ev.ite (fun hp => ?_) (fun hp => ?_)
  · rw [if_neg (by simp at hp; simp [prin, hp])]; exact Ev.pure _
  have hp : prin p = true := by simpa [prin] using hp
  have hp' : 0 ≤ p ∧ p ≤ 5 := by simpa [prin, isIn] using hp
  rw [if_pos ⟨hc, hp⟩]
  refine Ev.ite (fun h3 => ?_) (fun h3 => ?_)
  · rw [if_pos (of_decide_eq_true h3), atD (by omega) (by rw [hv.ul]; have := of_decide_eq_true h3; omega)]; exact Ev.pure _
  · have h3 : ¬ p < 3 := of_decide_eq_false h3
    rw [if_neg h3, wid (n := p - 3) (by omega) (by omega), atD (by omega) (by rw [hv.sl]; omega)]; exact Ev.pure _
/-- Which realm is linked to which, by six answers. -/
def gB (a b c d e f : Bool) (x y : Nat) : Bool := match x, y with
  | 0, 1 => a
  | 0, 2 => b
  | 1, 0 => c
  | 1, 2 => d
  | 2, 0 => e
  | 2, 1 => f
  | _, _ => false
/-- How far it is, at most three. -/
def dB (g : Nat → Nat → Bool) (t x : Nat) : Nat := if x = t then 0 else if g x t then 1 else if (g x 0 && g 0 t) || ((g x 1 && g 1 t) || (g x 2 && g 2 t)) then 2 else 3
def mn (g : Nat → Nat → Bool) (f : Nat → Nat) (x : Nat) : Nat := min 3 (min (if g x 0 then 1 + f 0 else 3) (min (if g x 1 then 1 + f 1 else 3) (if g x 2 then 1 + f 2 else 3)))
def fr (g : Nat → Nat → Bool) (t : Nat) : Nat → Nat → Nat
  | 0, x => if x = t then 0 else 3
  | m + 1, x => if x = t then 0 else mn g (fr g t m) x
def nhL (g : Nat → Nat → Bool) (t x : Nat) : Nat → Nat → Int → Nat → Int
  | 0, _, b, _ => b
  | n + 1, r, b, l => if g x r && decide (dB g t r < l) then nhL g t x n (r + 1) (r : Int) (dB g t r) else nhL g t x n (r + 1) b l
def nh (g : Nat → Nat → Bool) (t x : Nat) : Int := nhL g t x 3 0 (-1) 3
set_option maxRecDepth 20000 in
theorem fr_dB : ∀ (a b c d e f : Bool) (t x : Fin 3), fr (gB a b c d e f) t.1 3 x.1 = dB (gB a b c d e f) t.1 x.1 := by decide
set_option maxRecDepth 20000 in
theorem nh_dB : ∀ (a b c d e f : Bool) (t x : Fin 3), x ≠ t → nh (gB a b c d e f) t.1 x.1 = -1 ∨ (∃ r : Fin 3, nh (gB a b c d e f) t.1 x.1 = (r.1 : Int) ∧ dB (gB a b c d e f) t.1 r.1 < dB (gB a b c d e f) t.1 x.1) := by decide
set_option maxRecDepth 20000 in
theorem tri_dB : ∀ (a b c d e f : Bool) (t x y : Fin 3), gB a b c d e f x.1 y.1 = true → dB (gB a b c d e f) t.1 x.1 ≤ dB (gB a b c d e f) t.1 y.1 + 1 := by decide
set_option maxRecDepth 20000 in
theorem two_dB : ∀ (a b c d e f : Bool) (t x : Fin 3), dB (gB a b c d e f) t.1 x.1 = 3 ∨ dB (gB a b c d e f) t.1 x.1 = 0 ∧ x = t ∨ gB a b c d e f x.1 t.1 = true ∧ dB (gB a b c d e f) t.1 x.1 = 1 ∨ (∃ y : Fin 3, gB a b c d e f x.1 y.1 = true ∧ gB a b c d e f y.1 t.1 = true ∧ dB (gB a b c d e f) t.1 x.1 = 2) := by decide
def gl (c : Timpl_Config) : Nat → Nat → Bool := gB (hasP c.Links ⟨0, 1⟩) (hasP c.Links ⟨0, 2⟩) (hasP c.Links ⟨1, 0⟩) (hasP c.Links ⟨1, 2⟩) (hasP c.Links ⟨2, 0⟩) (hasP c.Links ⟨2, 1⟩)
theorem hasP_iff {l : List Timpl_Pair} {p : Timpl_Pair} : hasP l p = true ↔ p ∈ l := by
  unfold hasP
  rw [List.any_eq_true]
  constructor
  · rintro ⟨q, hq, h⟩
    simp only [Bool.and_eq_true, beq_iff_eq] at h
    cases q; cases p
    simp only at h
    rw [← h.1, ← h.2]; exact hq
  · intro h; exact ⟨p, h, by simp⟩
theorem gl_has {c : Timpl_Config} (hv : CfgV c) {x y : Nat} (hx : x < 3) (hy : y < 3) : gl c x y = hasP c.Links ⟨(x : Int), (y : Int)⟩ := by
  have hd : ∀ z : Int, hasP c.Links ⟨z, z⟩ = false := fun z => by
    rw [← Bool.not_eq_true]
    intro h
    exact (hv.lk _ (hasP_iff.1 h)).2.2 rfl
  obtain rfl | rfl | rfl : x = 0 ∨ x = 1 ∨ x = 2 := by omega
  all_goals obtain rfl | rfl | rfl : y = 0 ∨ y = 1 ∨ y = 2 := by omega
  all_goals first | rfl | (exact (hd _).symm)
/-- The least over the links from a realm. -/
def lnk (x : Int) (f : Int → Int) : List Timpl_Pair → Int → Int
  | [], v => v
  | p :: l, v => lnk x f l (if p.A == x then (if 1 + f p.B < v then 1 + f p.B else v) else v)
theorem lnk_le {x : Int} {f : Int → Int} : ∀ {l : List Timpl_Pair} {v : Int}, lnk x f l v ≤ v ∧ (∀ p ∈ l, p.A = x → lnk x f l v ≤ 1 + f p.B) ∧ (lnk x f l v = v ∨ ∃ p ∈ l, p.A = x ∧ lnk x f l v = 1 + f p.B)
  | [], v => ⟨Int.le_refl _, by simp, .inl rfl⟩
  | p :: l, v => by
    simp only [lnk]
    obtain ⟨h1, h2, h3⟩ := lnk_le (x := x) (f := f) (l := l) (v := if p.A == x then (if 1 + f p.B < v then 1 + f p.B else v) else v)
    generalize lnk x f l _ = r at h1 h2 h3 ⊢
    by_cases hp : p.A = x
    · rw [if_pos (by simpa using hp)] at h1 h3
      refine ⟨by split at h1 <;> omega, fun q hq hx => ?_, ?_⟩
      · rcases List.mem_cons.1 hq with rfl | hq
        · split at h1 <;> omega
        · exact h2 q hq hx
      · rcases h3 with h3 | ⟨q, hq, h3⟩
        · split at h3
          · exact .inr ⟨p, List.mem_cons_self, hp, h3⟩
          · exact .inl h3
        · exact .inr ⟨q, List.mem_cons_of_mem _ hq, h3⟩
    · rw [if_neg (by simpa using hp)] at h1 h3
      refine ⟨h1, fun q hq hx => ?_, ?_⟩
      · rcases List.mem_cons.1 hq with rfl | hq
        · exact absurd hx hp
        · exact h2 q hq hx
      · rcases h3 with h3 | ⟨q, hq, h3⟩
        · exact .inl h3
        · exact .inr ⟨q, List.mem_cons_of_mem _ hq, h3⟩
theorem lnk_mn {c : Timpl_Config} (hv : CfgV c) {x : Nat} (hx : x < 3) {f : Nat → Nat} : lnk (x : Int) (fun b => (f b.toNat : Int)) c.Links 3 = (mn (gl c) f x : Int) := by
  obtain ⟨h1, h2, h3⟩ := lnk_le (x := (x : Int)) (f := fun b => (f b.toNat : Int)) (l := c.Links) (v := 3)
  have hb : ∀ b, b < 3 → gl c x b = true → lnk (x : Int) (fun b => (f b.toNat : Int)) c.Links 3 ≤ 1 + (f b : Int) := fun b hb hg => by
    rw [gl_has hv hx hb] at hg
    have := h2 _ (hasP_iff.1 hg) rfl
    simpa using this
  have hm : lnk (x : Int) (fun b => (f b.toNat : Int)) c.Links 3 = 3 ∨ ∃ b, b < 3 ∧ gl c x b = true ∧ lnk (x : Int) (fun b => (f b.toNat : Int)) c.Links 3 = 1 + (f b : Int) := by
    rcases h3 with h3 | ⟨p, hp, hA, h3⟩
    · exact .inl h3
    · have := hv.lk p hp
      refine .inr ⟨p.B.toNat, by omega, ?_, h3⟩
      rw [gl_has hv hx (by omega), hasP_iff]
      have e1 : ((x : Nat) : Int) = p.A := hA.symm
      have e2 : ((p.B.toNat : Nat) : Int) = p.B := by omega
      rw [e1, e2]; exact hp
  generalize lnk (x : Int) (fun b => (f b.toNat : Int)) c.Links 3 = r at h1 hb hm
  have b0 := hb 0 (by omega)
  have b1 := hb 1 (by omega)
  have b2 := hb 2 (by omega)
  unfold mn
  have hm' : r = 3 ∨ (gl c x 0 = true ∧ r = 1 + (f 0 : Int)) ∨ (gl c x 1 = true ∧ r = 1 + (f 1 : Int)) ∨ (gl c x 2 = true ∧ r = 1 + (f 2 : Int)) := by
    rcases hm with h | ⟨b, hb, hg, he⟩
    · exact .inl h
    · obtain rfl | rfl | rfl : b = 0 ∨ b = 1 ∨ b = 2 := by omega
      · exact .inr (.inl ⟨hg, he⟩)
      · exact .inr (.inr (.inl ⟨hg, he⟩))
      · exact .inr (.inr (.inr ⟨hg, he⟩))
  clear hm hb h2 h3
  cases g0 : gl c x 0 <;> cases g1 : gl c x 1 <;> cases g2 : gl c x 2 <;> simp only [g0, g1, g2, if_true, Bool.false_eq_true, if_false, false_and, true_and, forall_const, false_or, or_false, true_implies, false_implies] at b0 b1 b2 hm' ⊢ <;> omega
theorem fr_le {g : Nat → Nat → Bool} {t : Nat} : ∀ (m x : Nat), fr g t m x ≤ 3
  | 0, x => by simp only [fr]; split <;> omega
  | m + 1, x => by simp only [fr, mn]; split <;> omega
theorem iFarL {c : Timpl_Config} {x t m : Nat} {f : Nat → Nat} (hf : ∀ b, f b ≤ 3) (hm : 0 < m) (hm2 : m ≤ 10) (hl : c.Links.length ≤ 1048576) : ∀ (ps : List Timpl_Pair) (i : Nat) (cl : Nat → Timpl_Config → Int → Int → Int → Option Int) (v : Int), c.Links.drop i = ps → 0 ≤ v → v ≤ 3 → (∀ p ∈ ps, Ev (fun n => cl n c p.B (t : Int) ((m : Int) - 1)) (f p.B.toNat : Int)) →
    Ev (fun n => Fimpl_far.l17 (cl n) n (x : Int) (t : Int) (m : Int) v c.Links (c.Links.length : Int) (i : Int) c.UserRealm c.ServiceRealm c.Proxy c.Skew) (lnk (x : Int) (fun b => (f b.toNat : Int)) ps v) := by
  intro ps
  induction ps with
  | nil =>
    intro i cl v hd h0 h3 hcl
    have : c.Links.length ≤ i := by simpa using hd
    refine Ev.succ ?_
    simp only [Fimpl_far.l17]
    rw [decide_eq_false (by omega)]
    exact Ev.pure _
  | cons p ps ih =>
    intro i cl v hd h0 h3 hcl
    obtain ⟨q1, q2, q3⟩ := drop_at hd
    refine Ev.succ ?_
    simp only [Fimpl_far.l17, Fimpl_far.j20, Fimpl_far.j19, lnk]
    rw [decide_eq_true (by omega)]
    simp only [cond_true]
    have hcl' : ∀ p ∈ ps, Ev (fun n => cl (n + 1) c p.B (t : Int) ((m : Int) - 1)) (f p.B.toNat : Int) := fun p hp => (hcl p (List.mem_cons_of_mem _ hp)).shift
    refine Ev.at? q2 ?_
    rw [decide_eq_true (by omega), wid1 (by omega), wid (n := (m : Int) - 1) (by omega) (by omega)]
    simp only [cond_true, cond_false]
    have hfb := hf p.B.toNat
    refine Ev.ite (fun hc => ?_) (fun hc => ?_)
    · rw [if_pos hc]
      refine Ev.bind (hcl p List.mem_cons_self).shift ?_
      rw [wid (n := 1 + (f p.B.toNat : Int)) (by omega) (by omega)]
      exact ih (i + 1) (fun n => cl (n + 1)) _ q3 (by split <;> omega) (by split <;> omega) hcl'
    · rw [if_neg (by rw [hc]; simp)]
      exact ih (i + 1) (fun n => cl (n + 1)) _ q3 h0 h3 hcl'
theorem iFar0L {c : Timpl_Config} {x t : Nat} (hl : c.Links.length ≤ 1048576) : ∀ (ps : List Timpl_Pair) (i : Nat) (cl : Nat → Timpl_Config → Int → Int → Int → Option Int), c.Links.drop i = ps →
    Ev (fun n => Fimpl_far.l17 (cl n) n (x : Int) (t : Int) 0 3 c.Links (c.Links.length : Int) (i : Int) c.UserRealm c.ServiceRealm c.Proxy c.Skew) 3 := by
  intro ps
  induction ps with
  | nil =>
    intro i cl hd
    have : c.Links.length ≤ i := by simpa using hd
    refine Ev.succ ?_
    simp only [Fimpl_far.l17]
    rw [decide_eq_false (by omega)]
    exact Ev.pure _
  | cons p ps ih =>
    intro i cl hd
    obtain ⟨q1, q2, q3⟩ := drop_at hd
    refine Ev.succ ?_
    simp only [Fimpl_far.l17, Fimpl_far.j20, Fimpl_far.j19]
    rw [decide_eq_true (by omega)]
    simp only [cond_true]
    refine Ev.at? q2 ?_
    rw [wid1 (by omega)]
    have e : decide ((0 : Int) > 0) = false := by decide
    rw [e]
    simp only [cond_false]
    exact Ev.ite (fun _ => ih (i + 1) (fun n => cl (n + 1)) q3) (fun _ => ih (i + 1) (fun n => cl (n + 1)) q3)
theorem iFar {c : Timpl_Config} (hv : CfgV c) {t : Nat} (ht : t < 3) : ∀ (m x : Nat), m ≤ 10 → x < 3 → Ev (fun k => Fimpl_far k c (x : Int) (t : Int) (m : Int)) (fr (gl c) t m x : Int) := by
  have hl := hv.ll
  intro m
  induction m with
  | zero =>
    intro x _ hx
    refine Ev.succ ?_
    simp only [Fimpl_far, fr]
    refine Ev.ite (fun hc => ?_) (fun hc => ?_)
    · rw [if_pos (by simp at hc; omega)]; exact Ev.pure _
    · rw [if_neg (by simp at hc; omega)]
      exact iFar0L (by omega) c.Links 0 (fun k => Fimpl_far k) rfl
  | succ m ih =>
    intro x hm hx
    refine Ev.succ ?_
    simp only [Fimpl_far, fr]
    refine Ev.ite (fun hc => ?_) (fun hc => ?_)
    · rw [if_pos (by simp at hc; omega)]; exact Ev.pure _
    · rw [if_neg (by simp at hc; omega), ← lnk_mn hv hx]
      refine iFarL (m := m + 1) (fun b => fr_le m b) (by omega) hm (by omega) c.Links 0 (fun k => Fimpl_far k) 3 rfl (by omega) (by omega) (fun p hp => ?_)
      have hB := (hv.lk p hp).2.1
      have := ih p.B.toNat (by omega) (by omega)
      rw [show ((p.B.toNat : Nat) : Int) = p.B by omega] at this
      rw [show ((m + 1 : Nat) : Int) - 1 = (m : Int) by omega]
      exact this
def il (f : Nat → Nat) : List Int := [(f 0 : Int), (f 1 : Int), (f 2 : Int)]
def up (f : Nat → Nat) (a v : Nat) : Nat → Nat := fun x => if x = a then v else f x
theorem il_get {f : Nat → Nat} {x : Nat} (h : x < 3) : (il f)[x]? = some (f x : Int) := by
  obtain rfl | rfl | rfl : x = 0 ∨ x = 1 ∨ x = 2 := by omega
  all_goals rfl
theorem il_set {f : Nat → Nat} {a v : Nat} (h : a < 3) : (il f).set a (v : Int) = il (up f a v) := by
  obtain rfl | rfl | rfl : a = 0 ∨ a = 1 ∨ a = 2 := by omega
  all_goals rfl
def relax (f : Nat → Nat) (p : Timpl_Pair) : Nat → Nat := if f p.B.toNat + 1 < f p.A.toNat then up f p.A.toNat (f p.B.toNat + 1) else f
def pass : List Timpl_Pair → (Nat → Nat) → Nat → Nat
  | [], f => f
  | p :: l, f => pass l (relax f p)
theorem relax_le {f : Nat → Nat} {p : Timpl_Pair} (x : Nat) : relax f p x ≤ f x := by
  unfold relax up
  split
  · simp only; split
    · rename_i h e; subst e; omega
    · omega
  · exact Nat.le_refl _
theorem relax_at {f : Nat → Nat} {p : Timpl_Pair} : relax f p p.A.toNat ≤ f p.B.toNat + 1 := by
  unfold relax up
  split
  · simp
  · omega
theorem pass_le : ∀ {l : List Timpl_Pair} {f : Nat → Nat} (x : Nat), pass l f x ≤ f x
  | [], f, x => Nat.le_refl _
  | p :: l, f, x => Nat.le_trans (pass_le (l := l) (f := relax f p) x) (relax_le x)
theorem pass_at : ∀ {l : List Timpl_Pair} {f : Nat → Nat} {p : Timpl_Pair}, p ∈ l → pass l f p.A.toNat ≤ f p.B.toNat + 1
  | q :: l, f, p, h => by
    simp only [pass]
    rcases List.mem_cons.1 h with rfl | h
    · exact Nat.le_trans (pass_le _) relax_at
    · exact Nat.le_trans (pass_at h) (by have := relax_le (f := f) (p := q) p.B.toNat; omega)
theorem pass_ge {d : Nat → Nat} : ∀ {l : List Timpl_Pair} {f : Nat → Nat}, (∀ p ∈ l, d p.A.toNat ≤ d p.B.toNat + 1 ∧ p.B.toNat < 3) → (∀ x, x < 3 → d x ≤ f x) → ∀ x, x < 3 → d x ≤ pass l f x
  | [], f, _, h, x, hx => h x hx
  | p :: l, f, hl, h, x, hx => by
    simp only [pass]
    refine pass_ge (fun q hq => hl q (List.mem_cons_of_mem _ hq)) (fun y hy => ?_) x hx
    have hp := hl p List.mem_cons_self
    have h1 := h y hy
    have h2 := h p.B.toNat hp.2
    unfold relax up
    split
    · simp only
      split
      · rename_i e; subst e; omega
      · exact h1
    · exact h1
def FarP (c : Timpl_Config) (t : Nat) (r : List Int) : Prop := ∀ x, x < 3 → r[x]? = some (dB (gl c) t x : Int)
theorem sFarIn {c : Timpl_Config} (hv : CfgV c) {j : Nat} (hj : j < 3) {P : List Int → Prop} : ∀ (ps : List Timpl_Pair) (i : Nat) (cl : Nat → List Int → Int → List Int → List Int → List Timpl_Pair → List Timpl_Pair → Int → Option (List Int)) (f : Nat → Nat), c.Links.drop i = ps → (∀ x, x < 3 → f x ≤ 3) →
    EvP (fun n => cl n (il (pass ps f)) ((j + 1 : Nat) : Int) c.UserRealm c.ServiceRealm c.Links c.Proxy c.Skew) P →
    EvP (fun n => Fspec_l6Far.l51 (cl n) n (il f) (j : Int) (i : Int) c.UserRealm c.ServiceRealm c.Links c.Proxy c.Skew) P := by
  have hl := hv.ll
  intro ps
  induction ps with
  | nil =>
    intro i cl f hd hf h
    have : c.Links.length ≤ i := by simpa using hd
    refine EvP.succ ?_
    simp only [Fspec_l6Far.l51]
    rw [decide_eq_false (by omega)]
    simp only [cond_false]
    rw [wid1 (by omega)]
    exact h.shift
  | cons p ps ih =>
    intro i cl f hd hf h
    obtain ⟨q1, q2, q3⟩ := drop_at hd
    have hp := hv.lk p (List.mem_of_getElem? q2)
    obtain ⟨a, ha⟩ : ∃ a : Nat, p.A = a := ⟨p.A.toNat, by omega⟩
    obtain ⟨b, hb⟩ : ∃ b : Nat, p.B = b := ⟨p.B.toNat, by omega⟩
    have ha3 : a < 3 := by omega
    have hb3 : b < 3 := by omega
    have fa := hf a ha3
    have fb := hf b hb3
    refine EvP.succ ?_
    simp only [Fspec_l6Far.l51, Fspec_l6Far.j52]
    rw [decide_eq_true (by omega)]
    simp only [cond_true]
    refine EvP.at? q2 ?_
    rw [hb]
    refine EvP.at? (il_get hb3) (EvP.at? q2 ?_)
    rw [ha]
    refine EvP.at? (il_get ha3) ?_
    rw [wid (n := (f b : Int) + 1) (by omega) (by omega), wid1 (by omega)]
    simp only [pass] at h
    have hfr : ∀ x, x < 3 → relax f p x ≤ 3 := fun x hx => Nat.le_trans (relax_le x) (hf x hx)
    refine EvP.ite (fun hc => ?_) (fun hc => ?_)
    · have hc : f b + 1 < f a := by simp at hc; omega
      refine EvP.at? q2 (EvP.at? q2 ?_)
      rw [hb, ha]
      refine EvP.at? (il_get hb3) (EvP.at? (il_get ha3) ?_)
      rw [wid (n := (f b : Int) + 1) (by omega) (by omega), Int.toNat_natCast, show (f b : Int) + 1 = ((f b + 1 : Nat) : Int) by omega, il_set ha3]
      have e : relax f p = up f a (f b + 1) := by unfold relax; rw [ha, hb]; simp only [Int.toNat_natCast]; rw [if_pos hc]
      rw [e] at h hfr
      exact ih (i + 1) (fun n => cl (n + 1)) _ q3 hfr h.shift
    · have hc : ¬ f b + 1 < f a := by simp at hc; omega
      have e : relax f p = f := by unfold relax; rw [ha, hb]; simp only [Int.toNat_natCast]; rw [if_neg hc]
      rw [e] at h hfr
      exact ih (i + 1) (fun n => cl (n + 1)) _ q3 hfr h.shift
theorem tri3 {c : Timpl_Config} {t x y : Nat} (ht : t < 3) (hx : x < 3) (hy : y < 3) (h : gl c x y = true) : dB (gl c) t x ≤ dB (gl c) t y + 1 := tri_dB _ _ _ _ _ _ ⟨t, ht⟩ ⟨x, hx⟩ ⟨y, hy⟩ h
theorem sFarOut {c : Timpl_Config} (hv : CfgV c) {t : Nat} (ht : t < 3) : ∀ (g j : Nat) (f : Nat → Nat), j + g = 3 → (∀ x, x < 3 → f x ≤ 3) → (∀ x, x < 3 → dB (gl c) t x ≤ f x) → f t = 0 → (1 ≤ j → ∀ x, x < 3 → gl c x t = true → f x ≤ 1) → (2 ≤ j → ∀ x y, x < 3 → y < 3 → gl c x y = true → gl c y t = true → f x ≤ 2) →
    EvP (fun n => Fspec_l6Far.l44 n (il f) (j : Int) c.UserRealm c.ServiceRealm c.Links c.Proxy c.Skew) (FarP c t) := by
  have hmem : ∀ x y, x < 3 → y < 3 → gl c x y = true → (⟨(x : Int), (y : Int)⟩ : Timpl_Pair) ∈ c.Links := fun x y hx hy h => by
    rw [gl_has hv hx hy] at h; exact hasP_iff.1 h
  intro g
  induction g with
  | zero =>
    intro j f hj h3 hd h0 h1 h2
    have : j = 3 := by omega
    subst this
    refine EvP.succ ?_
    simp only [Fspec_l6Far.l44]
    rw [decide_eq_false (by omega)]
    refine EvP.pure fun x hx => ?_
    rw [il_get hx]
    congr 2
    have hge := hd x hx
    have hle := h3 x hx
    rcases two_dB (hasP c.Links ⟨0, 1⟩) (hasP c.Links ⟨0, 2⟩) (hasP c.Links ⟨1, 0⟩) (hasP c.Links ⟨1, 2⟩) (hasP c.Links ⟨2, 0⟩) (hasP c.Links ⟨2, 1⟩) ⟨t, ht⟩ ⟨x, hx⟩ with h | ⟨h, e⟩ | ⟨e, h⟩ | ⟨y, e1, e2, h⟩
    · have h : dB (gl c) t x = 3 := h
      omega
    · have h : dB (gl c) t x = 0 := h
      have e : x = t := congrArg Fin.val e
      subst e; omega
    · have h : dB (gl c) t x = 1 := h
      have := h1 (by omega) x hx e
      omega
    · have h : dB (gl c) t x = 2 := h
      have := h2 (by omega) x y.1 hx y.2 e1 e2
      omega
  | succ g ih =>
    intro j f hj h3 hd h0 h1 h2
    refine EvP.succ ?_
    simp only [Fspec_l6Far.l44]
    rw [decide_eq_true (by omega)]
    simp only [cond_true]
    refine sFarIn hv (by omega) c.Links 0 (fun n => Fspec_l6Far.l44 n) f rfl h3 ?_
    have hat : ∀ x y, x < 3 → y < 3 → gl c x y = true → pass c.Links f x ≤ f y + 1 := fun x y hx hy h => by
      have := pass_at (f := f) (hmem x y hx hy h)
      simpa using this
    refine ih (j + 1) (pass c.Links f) (by omega) (fun x hx => Nat.le_trans (pass_le x) (h3 x hx)) (pass_ge (fun p hp => ?_) hd) (by have := pass_le (l := c.Links) (f := f) t; omega) (fun _ x hx h => ?_) (fun hj2 x y hx hy e1 e2 => ?_)
    · have := hv.lk p hp
      refine ⟨tri3 ht (by omega) (by omega) ?_, by omega⟩
      rw [gl_has hv (by omega) (by omega), hasP_iff, show ((p.A.toNat : Nat) : Int) = p.A by omega, show ((p.B.toNat : Nat) : Int) = p.B by omega]
      exact hp
    · have := hat x t hx ht h; omega
    · have := hat x y hx hy e1
      have := h1 (by omega) y hy e2
      omega
theorem sFar {c : Timpl_Config} (hv : CfgV c) {t : Nat} (ht : t < 3) : EvP (fun k => Fspec_l6Far k c (t : Int)) (FarP c t) := by
  simp only [Fspec_l6Far]
  have key : ∀ (g j : Nat), j + g = 3 → EvP (fun k => Fspec_l6Far.l2 k (t : Int) (List.replicate j 3) (j : Int) c.UserRealm c.ServiceRealm c.Links c.Proxy c.Skew) (FarP c t) := by
    intro g
    induction g with
    | zero =>
      intro j hj
      have : j = 3 := by omega
      subst this
      refine EvP.succ ?_
      simp only [Fspec_l6Far.l2]
      rw [decide_eq_false (by omega)]
      simp only [cond_false]
      have e : List.replicate 3 (3 : Int) = il fun _ => 3 := rfl
      rw [e]
      refine EvP.at? (il_get ht) ?_
      rw [Int.toNat_natCast, show (0 : Int) = ((0 : Nat) : Int) from rfl, il_set ht]
      refine sFarOut hv ht 3 0 _ rfl (fun x hx => by unfold up; simp only; split <;> omega) (fun x hx => ?_) (by simp [up]) (by omega) (by omega)
      unfold up
      simp only
      split
      · rename_i e; subst e; simp [dB]
      · unfold dB; split
        · omega
        · split
          · omega
          · split <;> omega
    | succ g ih =>
      intro j hj
      refine EvP.succ ?_
      simp only [Fspec_l6Far.l2]
      rw [decide_eq_true (by omega), decide_eq_true (by simp only [List.length_replicate, List.length_cons, List.length_nil]; omega)]
      simp only [cond_true]
      rw [wid1 (by omega), ← List.replicate_succ']
      exact ih (j + 1) (by omega)
  exact key 3 0 rfl
theorem dB_le {g : Nat → Nat → Bool} {t x : Nat} : dB g t x ≤ 3 := by
  unfold dB; split
  · omega
  · split
    · omega
    · split <;> omega
theorem sNextL {c : Timpl_Config} (hv : CfgV c) {t x : Nat} (ht : t < 3) (hx : x < 3) {far : List Int} (hf : FarP c t far) : ∀ (n r : Nat) (b : Int) (l : Nat), r + n = 3 → ((b = -1 ∧ l = 3) ∨ ∃ q : Nat, q < 3 ∧ b = (q : Int) ∧ l = dB (gl c) t q ∧ l < 3) → Ev (fun k => Fspec_NextHop.l17 k (x : Int) far b (r : Int) c.UserRealm c.ServiceRealm c.Links c.Proxy c.Skew) (nhL (gl c) t x n r b l) := by
  have hl := hv.ll
  intro n
  induction n with
  | zero =>
    intro r b l hr hb
    refine Ev.succ ?_
    simp only [Fspec_NextHop.l17, nhL]
    rw [decide_eq_false (by omega)]
    exact Ev.pure _
  | succ n ih =>
    intro r b l hr hb
    refine Ev.succ ?_
    simp only [Fspec_NextHop.l17, Fspec_NextHop.j20, Fspec_NextHop.j19, nhL]
    rw [decide_eq_true (by omega)]
    simp only [cond_true, cond_false]
    rw [wid1 (by omega)]
    refine Ev.bind (sHas c.Links ⟨(x : Int), (r : Int)⟩ (by omega)) ?_
    rw [← gl_has hv hx (by omega)]
    have hd := dB_le (g := gl c) (t := t) (x := r)
    refine Ev.ite (fun hc => ?_) (fun hc => ?_)
    · rw [hc, Bool.true_and]
      refine Ev.at? (hf r (by omega)) ?_
      by_cases h3 : dB (gl c) t r < 3
      · rw [decide_eq_true (p := (dB (gl c) t r : Int) < 3) (by omega)]
        simp only [cond_true]
        rcases hb with ⟨rfl, rfl⟩ | ⟨q, hq, rfl, hl2, hl3⟩
        · rw [if_pos (by simpa using h3)]
          exact ih (r + 1) (r : Int) (dB (gl c) t r) (by omega) (.inr ⟨r, by omega, rfl, rfl, h3⟩)
        · rw [decide_eq_false (by omega)]
          simp only [cond_false]
          refine Ev.at? (hf r (by omega)) (Ev.at? (hf q hq) (Ev.ite (fun hc2 => ?_) (fun hc2 => ?_)))
          · rw [if_pos (by simp at hc2 ⊢; omega)]
            exact ih (r + 1) (r : Int) (dB (gl c) t r) (by omega) (.inr ⟨r, by omega, rfl, rfl, h3⟩)
          · rw [if_neg (by simp at hc2 ⊢; omega)]
            exact ih (r + 1) (q : Int) l (by omega) (.inr ⟨q, hq, rfl, hl2, hl3⟩)
      · rw [decide_eq_false (p := (dB (gl c) t r : Int) < 3) (by omega)]
        simp only [cond_false]
        rw [if_neg (by
          simp only [decide_eq_true_eq]
          rcases hb with ⟨_, rfl⟩ | ⟨q, _, _, _, h⟩ <;> omega)]
        exact ih (r + 1) b l (by omega) hb
    · rw [hc, Bool.false_and, if_neg (by simp)]
      exact ih (r + 1) b l (by omega) hb
theorem iNextL {c : Timpl_Config} (hv : CfgV c) {t x : Nat} (ht : t < 3) (hx : x < 3) : ∀ (n r : Nat) (b : Int) (l : Nat), r + n = 3 → Ev (fun k => Fimpl_NextHop.l17 k (x : Int) (t : Int) b (l : Int) (r : Int) c.UserRealm c.ServiceRealm c.Links c.Proxy c.Skew) (nhL (gl c) t x n r b l) := by
  have hl := hv.ll
  intro n
  induction n with
  | zero =>
    intro r b l hr
    refine Ev.succ ?_
    simp only [Fimpl_NextHop.l17, nhL]
    rw [decide_eq_false (by omega)]
    exact Ev.pure _
  | succ n ih =>
    intro r b l hr
    refine Ev.succ ?_
    simp only [Fimpl_NextHop.l17, Fimpl_NextHop.j20, Fimpl_NextHop.j19, nhL]
    rw [decide_eq_true (by omega)]
    simp only [cond_true, cond_false]
    rw [wid1 (by omega)]
    have h := iFar hv ht 3 r (by omega) (by omega)
    have e : fr (gl c) t 3 r = dB (gl c) t r := fr_dB _ _ _ _ _ _ ⟨t, ht⟩ ⟨r, by omega⟩
    rw [e] at h
    refine Ev.bind h (Ev.bind (iHas c.Links ⟨(x : Int), (r : Int)⟩ (by omega)) ?_)
    rw [← gl_has hv hx (by omega)]
    refine Ev.ite (fun hc => ?_) (fun hc => ?_)
    · rw [hc, Bool.true_and]
      refine Ev.ite (fun hc2 => ?_) (fun hc2 => ?_)
      · rw [if_pos (by simp at hc2 ⊢; omega)]; exact ih (r + 1) (r : Int) (dB (gl c) t r) (by omega)
      · rw [if_neg (by simp at hc2 ⊢; omega)]; exact ih (r + 1) b l (by omega)
    · rw [hc, Bool.false_and, if_neg (by simp)]
      exact ih (r + 1) b l (by omega)
/-- The realm that comes next on the way. -/
def nextHop (c : Timpl_Config) (x t : Int) : Int := if cfgOk c = true ∧ isR x = true ∧ isR t = true ∧ x ≠ t then nh (gl c) t.toNat x.toNat else -1
theorem isR_nat {x : Int} (h : isR x = true) : ∃ n : Nat, x = n ∧ n < 3 := by
  have := isR_iff.1 h
  exact ⟨x.toNat, by omega, by omega⟩
theorem sNextHop {c : Timpl_Config} (h : CfgSm c) (x t : Int) : Ev (fun k => Fspec_NextHop k c x t) (nextHop c x t) := by
  simp only [Fspec_NextHop, sRealm, Option.bind_some]
  refine Ev.bind (sConfigOk h) ?_
  unfold nextHop
  refine Ev.ite (fun hc => ?_) (fun hc => ?_)
  · rw [if_neg (by simp at hc; simp [hc])]; exact Ev.pure _
  have hc : cfgOk c = true := by simpa using hc
  refine Ev.ite (fun hx => ?_) (fun hx => ?_)
  · rw [if_neg (by simp at hx; simp [hx])]; exact Ev.pure _
  have hx : isR x = true := by simpa using hx
  refine Ev.ite (fun ht => ?_) (fun ht => ?_)
  · rw [if_neg (by simp at ht; simp [ht])]; exact Ev.pure _
  have ht : isR t = true := by simpa using ht
  refine Ev.ite (fun he => ?_) (fun he => ?_)
  · rw [if_neg (by simp at he; simp [he])]; exact Ev.pure _
  have he : x ≠ t := by simpa using he
  rw [if_pos ⟨hc, hx, ht, he⟩]
  obtain ⟨x, rfl, hx3⟩ := isR_nat hx
  obtain ⟨t, rfl, ht3⟩ := isR_nat ht
  obtain ⟨far, h1, h2⟩ := sFar (cfgV hc) ht3
  exact Ev.bind h1 (sNextL (cfgV hc) ht3 hx3 h2 3 0 (-1) 3 rfl (.inl ⟨rfl, rfl⟩))
theorem iNextHop {c : Timpl_Config} (h : CfgSm c) (x t : Int) : Ev (fun k => Fimpl_NextHop k c x t) (nextHop c x t) := by
  simp only [Fimpl_NextHop, Fimpl_isRealm, iIn, Option.bind_some]
  refine Ev.bind (iConfigOk h) ?_
  unfold nextHop
  refine Ev.ite (fun hc => ?_) (fun hc => ?_)
  · rw [if_neg (by simp at hc; simp [hc])]; exact Ev.pure _
  have hc : cfgOk c = true := by simpa using hc
  refine Ev.ite (fun hx => ?_) (fun hx => ?_)
  · rw [if_neg (by simp at hx; simp [isR, hx])]; exact Ev.pure _
  have hx : isR x = true := by simpa [isR] using hx
  refine Ev.ite (fun ht => ?_) (fun ht => ?_)
  · rw [if_neg (by simp at ht; simp [isR, ht])]; exact Ev.pure _
  have ht : isR t = true := by simpa [isR] using ht
  refine Ev.ite (fun he => ?_) (fun he => ?_)
  · rw [if_neg (by simp at he; simp [he])]; exact Ev.pure _
  have he : x ≠ t := by simpa using he
  rw [if_pos ⟨hc, hx, ht, he⟩]
  obtain ⟨x, rfl, hx3⟩ := isR_nat hx
  obtain ⟨t, rfl, ht3⟩ := isR_nat ht
  exact iNextL (cfgV hc) ht3 hx3 3 0 (-1) 3 rfl
theorem nextHop_lt {c : Timpl_Config} {x t : Int} (hc : cfgOk c = true) (hx : isR x = true) (ht : isR t = true) (he : x ≠ t) : nextHop c x t = -1 ∨ (isR (nextHop c x t) = true ∧ dB (gl c) t.toNat (nextHop c x t).toNat < dB (gl c) t.toNat x.toNat) := by
  unfold nextHop
  rw [if_pos ⟨hc, hx, ht, he⟩]
  obtain ⟨x, rfl, hx3⟩ := isR_nat hx
  obtain ⟨t, rfl, ht3⟩ := isR_nat ht
  simp only [Int.toNat_natCast]
  rcases nh_dB (hasP c.Links ⟨0, 1⟩) (hasP c.Links ⟨0, 2⟩) (hasP c.Links ⟨1, 0⟩) (hasP c.Links ⟨1, 2⟩) (hasP c.Links ⟨2, 0⟩) (hasP c.Links ⟨2, 1⟩) ⟨t, ht3⟩ ⟨x, hx3⟩ (fun h => he (by have := congrArg Fin.val h; simp only at this; omega)) with h | ⟨r, h1, h2⟩
  · exact .inl h
  · have h1 : nh (gl c) t x = (r.1 : Int) := h1
    rw [h1, Int.toNat_natCast]
    exact .inr ⟨isR_iff.2 (by have := r.2; omega), h2⟩
theorem szIntS_ev (a : List Int) (w : (Go.MG.wfR Go.MG.wfI) a) (n : Int) (hn : 0 ≤ n) (hb : n ≤ 1048576) : EvP (fun k => Flaws_szIntS k a n) (fun r => r < 0 ∨ (0 ≤ r ∧ r ≤ n ∧ (a.length ≤ 1048576))) := by
  simp only [Flaws_szIntS]
  have hw := w.1; unfold big at hw
  rw [wid (n := n - (a.length : Int)) (by omega) (by omega)]
  refine EvP.ite (fun _ => EvP.pure (.inl (by decide))) (fun hc => ?_)
  have hc : ¬ n - (a.length : Int) < 0 := by simpa using hc
  exact EvP.pure (.inr ⟨by omega, by omega, by omega⟩)
def cvPair (a : Tlaws_Pair) : Timpl_Pair := ⟨a.A, a.B⟩
def smPair (a : Tlaws_Pair) : Prop := True
theorem szPairS_ev (a : List Tlaws_Pair) (w : (Go.MG.wfR wfTlaws_Pair) a) (n : Int) (hn : 0 ≤ n) (hb : n ≤ 1048576) : EvP (fun k => Flaws_szPairS k a n) (fun r => r < 0 ∨ (0 ≤ r ∧ r ≤ n ∧ (a.length ≤ 1048576))) := by
  simp only [Flaws_szPairS]
  have hw := w.1; unfold big at hw
  rw [wid (n := n - (a.length : Int)) (by omega) (by omega)]
  refine EvP.ite (fun _ => EvP.pure (.inl (by decide))) (fun hc => ?_)
  have hc : ¬ n - (a.length : Int) < 0 := by simpa using hc
  exact EvP.pure (.inr ⟨by omega, by omega, by omega⟩)
def cvConfig (a : Tlaws_Config) : Timpl_Config := ⟨a.UserRealm, a.ServiceRealm, (a.Links.map cvPair), (a.Proxy.map cvPair), a.Skew⟩
def smConfig (a : Tlaws_Config) : Prop := (a.UserRealm.length ≤ 1048576) ∧ (a.ServiceRealm.length ≤ 1048576) ∧ (a.Links.length ≤ 1048576) ∧ (a.Proxy.length ≤ 1048576)
theorem szConfig_ev (a : Tlaws_Config) (w : wfTlaws_Config a) (n : Int) (hn : 0 ≤ n) (hb : n ≤ 1048576) : EvP (fun k => Flaws_szConfig k a n) (fun r => r < 0 ∨ (0 ≤ r ∧ r ≤ n ∧ smConfig a)) := by
  simp only [Flaws_szConfig]
  refine EvP.bind (szIntS_ev a.UserRealm w.1 n (by omega) (by omega)) (fun r0 hr0 => ?_)
  refine EvP.ite (fun _ => EvP.pure (.inl (by decide))) (fun hc => ?_)
  obtain ⟨p0, q0, s0⟩ := hr0.resolve_left (by simpa using hc)
  refine EvP.bind (szIntS_ev a.ServiceRealm w.2.1 r0 (by omega) (by omega)) (fun r1 hr1 => ?_)
  refine EvP.ite (fun _ => EvP.pure (.inl (by decide))) (fun hc => ?_)
  obtain ⟨p1, q1, s1⟩ := hr1.resolve_left (by simpa using hc)
  refine EvP.bind (szPairS_ev a.Links w.2.2.1 r1 (by omega) (by omega)) (fun r2 hr2 => ?_)
  refine EvP.ite (fun _ => EvP.pure (.inl (by decide))) (fun hc => ?_)
  obtain ⟨p2, q2, s2⟩ := hr2.resolve_left (by simpa using hc)
  refine EvP.bind (szPairS_ev a.Proxy w.2.2.2.1 r2 (by omega) (by omega)) (fun r3 hr3 => ?_)
  refine EvP.ite (fun _ => EvP.pure (.inl (by decide))) (fun hc => ?_)
  obtain ⟨p3, q3, s3⟩ := hr3.resolve_left (by simpa using hc)
  exact EvP.pure (.inr ⟨by omega, by omega, s0, s1, s2, s3⟩)
theorem toIntS_ev (xs : List Int) (h : (xs.length ≤ 1048576)) : Ev (fun k => Flaws_toIntS k xs) xs := by
  have hl : xs.length ≤ 1048576 := h
  simp only [Flaws_toIntS]
  refine Ev.ite (fun _ => ?_) (fun hc => by rw [decide_eq_true (by omega)] at hc; cases hc)
  simp only [Int.toNat_natCast]
  refine Ev.to (a := xs.map id) ?_ (List.map_id xs)
  exact Ev.copy (xs := xs) (L := fun k s i => Flaws_toIntS.l2 k xs s i) (f := id) (z := (0 : Int)) (fun s => by simp only [Flaws_toIntS.l2, ltD0, cond_false]; exact Ev.pure _) (fun i b s r hb hi hz hr => by
    simp only [Flaws_toIntS.l2, ltD hi, cond_true]
    refine Ev.at? hb (Ev.at? hz ?_)
    rw [wid1 (by omega)]; simpa only [Int.toNat_natCast, id] using hr)
theorem toPair_ev (a : Tlaws_Pair) (h : smPair a) : Ev (fun k => Flaws_toPair k a) (cvPair a) := by
  simp only [Flaws_toPair]
  exact Ev.pure _
theorem toPairS_ev (xs : List Tlaws_Pair) (h : (xs.length ≤ 1048576)) : Ev (fun k => Flaws_toPairS k xs) (xs.map cvPair) := by
  have hl : xs.length ≤ 1048576 := h
  simp only [Flaws_toPairS]
  refine Ev.ite (fun _ => ?_) (fun hc => by rw [decide_eq_true (by omega)] at hc; cases hc)
  simp only [Int.toNat_natCast]
  exact Ev.copy (xs := xs) (L := fun k s i => Flaws_toPairS.l2 k xs s i) (f := cvPair) (z := (⟨(0 : Int), (0 : Int)⟩ : Timpl_Pair)) (fun s => by simp only [Flaws_toPairS.l2, ltD0, cond_false]; exact Ev.pure _) (fun i b s r hb hi hz hr => by
    simp only [Flaws_toPairS.l2, ltD hi, cond_true]
    refine Ev.at? hb (Ev.bind (toPair_ev b trivial) (Ev.at? hz ?_))
    rw [wid1 (by omega)]; simpa only [Int.toNat_natCast] using hr)
theorem toConfig_ev (a : Tlaws_Config) (h : smConfig a) : Ev (fun k => Flaws_toConfig k a) (cvConfig a) := by
  simp only [Flaws_toConfig]
  refine Ev.bind (toIntS_ev _ h.1) ?_
  refine Ev.bind (toIntS_ev _ h.2.1) ?_
  refine Ev.bind (toPairS_ev _ h.2.2.1) ?_
  refine Ev.bind (toPairS_ev _ h.2.2.2) ?_
  exact Ev.pure _
def cvRest (a : Tlaws_Rest) : Timpl_Rest := ⟨a.Servers, a.Ops, a.End⟩
def smRest (a : Tlaws_Rest) : Prop := True
theorem toRest_ev (a : Tlaws_Rest) (h : smRest a) : Ev (fun k => Flaws_toRest k a) (cvRest a) := by
  simp only [Flaws_toRest]
  exact Ev.pure _
theorem eqRest_ev (a : Timpl_Rest) : Ev (fun k => Flaws_eqRest k a a) true := by
  simp only [Flaws_eqRest, bne_self_eq_false, cond_false]
  exact Ev.pure _
theorem eqAct_ev (a : Timpl_Act) : Ev (fun k => Flaws_eqAct k a a) true := by
  simp only [Flaws_eqAct, bne_self_eq_false, cond_false]
  refine Ev.bind (eqRest_ev _) ?_
  simp only [Bool.not_true, cond_false]
  exact Ev.pure _
theorem eqActS_ev (xs : List Timpl_Act) (h : (xs.length ≤ 1099511627776)) : Ev (fun k => Flaws_eqActS k xs xs) true := by
  have hl : xs.length ≤ 1099511627776 := h
  simp only [Flaws_eqActS, bne_self_eq_false, cond_false]
  refine Ev.for (xs := xs) (L := fun k (_ : Unit) i => Flaws_eqActS.l2 k xs xs i) (f := fun _ _ => true) (fun s => by simp only [Flaws_eqActS.l2, ltD0, cond_false]; exact Ev.pure _) (fun i b s hb hi hr => ?_) ()
  simp only [Flaws_eqActS.l2, ltD hi, cond_true]
  refine Ev.at? hb (Ev.at? hb (Ev.bind (eqAct_ev b) ?_))
  simp only [bne_self_eq_false, Bool.not_true, cond_false]
  rw [wid1 (by omega)]; exact hr ()
theorem eqIntS_ev (xs : List Int) (h : (xs.length ≤ 1099511627776)) : Ev (fun k => Flaws_eqIntS k xs xs) true := by
  have hl : xs.length ≤ 1099511627776 := h
  simp only [Flaws_eqIntS, bne_self_eq_false, cond_false]
  refine Ev.for (xs := xs) (L := fun k (_ : Unit) i => Flaws_eqIntS.l2 k xs xs i) (f := fun _ _ => true) (fun s => by simp only [Flaws_eqIntS.l2, ltD0, cond_false]; exact Ev.pure _) (fun i b s hb hi hr => ?_) ()
  simp only [Flaws_eqIntS.l2, ltD hi, cond_true]
  refine Ev.at? hb (Ev.at? hb (?_))
  simp only [bne_self_eq_false, Bool.not_true, cond_false]
  rw [wid1 (by omega)]; exact hr ()
theorem eqPair_ev (a : Timpl_Pair) : Ev (fun k => Flaws_eqPair k a a) true := by
  simp only [Flaws_eqPair, bne_self_eq_false, cond_false]
  exact Ev.pure _
theorem eqPairS_ev (xs : List Timpl_Pair) (h : (xs.length ≤ 1099511627776)) : Ev (fun k => Flaws_eqPairS k xs xs) true := by
  have hl : xs.length ≤ 1099511627776 := h
  simp only [Flaws_eqPairS, bne_self_eq_false, cond_false]
  refine Ev.for (xs := xs) (L := fun k (_ : Unit) i => Flaws_eqPairS.l2 k xs xs i) (f := fun _ _ => true) (fun s => by simp only [Flaws_eqPairS.l2, ltD0, cond_false]; exact Ev.pure _) (fun i b s hb hi hr => ?_) ()
  simp only [Flaws_eqPairS.l2, ltD hi, cond_true]
  refine Ev.at? hb (Ev.at? hb (Ev.bind (eqPair_ev b) ?_))
  simp only [bne_self_eq_false, Bool.not_true, cond_false]
  rw [wid1 (by omega)]; exact hr ()
def okConfig (a : Timpl_Config) : Prop := (a.UserRealm.length ≤ 1099511627776) ∧ (a.ServiceRealm.length ≤ 1099511627776) ∧ (a.Links.length ≤ 1099511627776) ∧ (a.Proxy.length ≤ 1099511627776)
theorem eqConfig_ev (a : Timpl_Config) (h : okConfig a) : Ev (fun k => Flaws_eqConfig k a a) true := by
  simp only [Flaws_eqConfig, bne_self_eq_false, cond_false]
  refine Ev.bind (eqIntS_ev _ h.1) ?_
  simp only [Bool.not_true, cond_false]
  refine Ev.bind (eqIntS_ev _ h.2.1) ?_
  simp only [Bool.not_true, cond_false]
  refine Ev.bind (eqPairS_ev _ h.2.2.1) ?_
  simp only [Bool.not_true, cond_false]
  refine Ev.bind (eqPairS_ev _ h.2.2.2) ?_
  simp only [Bool.not_true, cond_false]
  exact Ev.pure _
def mkIntS (n : Int) (_ : Int) : Int := n
theorem markIntS_ev (xs : List Int) (n : Int) (hn : 0 ≤ n) (hb : n + 1 * xs.length ≤ 4611686018427387904) (hl : xs.length ≤ 4611686018427387904) : Ev (fun k => Flaws_markIntS k xs n) (n + 1 * xs.length, markL mkIntS 1 n xs) := by
  simp only [Flaws_markIntS]
  refine Ev.mark (L := fun k xs n i => Flaws_markIntS.l2 k xs n i) (g := mkIntS) (w := 1) (fun xs n => by simp only [Flaws_markIntS.l2, ltD0, cond_false]; exact Ev.pure _) (fun i b xs n r hb hi h0 h1 h2 hr => ?_) xs n hn hb hl
  simp only [Flaws_markIntS.l2, ltD hi, cond_true]
  refine Ev.at? hb ?_
  simp (disch := omega) only [Int.toNat_natCast, List.set_set, atSet hi, Option.bind_some, widR, Int.add_assoc]
  exact hr
def mkPairS (n : Int) (_ : Timpl_Pair) : Timpl_Pair := (⟨n, (n + 1)⟩ : Timpl_Pair)
theorem markPairS_ev (xs : List Timpl_Pair) (n : Int) (hn : 0 ≤ n) (hb : n + 2 * xs.length ≤ 4611686018427387904) (hl : xs.length ≤ 4611686018427387904) : Ev (fun k => Flaws_markPairS k xs n) (n + 2 * xs.length, markL mkPairS 2 n xs) := by
  simp only [Flaws_markPairS]
  refine Ev.mark (L := fun k xs n i => Flaws_markPairS.l2 k xs n i) (g := mkPairS) (w := 2) (fun xs n => by simp only [Flaws_markPairS.l2, ltD0, cond_false]; exact Ev.pure _) (fun i b xs n r hb hi h0 h1 h2 hr => ?_) xs n hn hb hl
  simp only [Flaws_markPairS.l2, ltD hi, cond_true]
  refine Ev.at? hb ?_
  simp (disch := omega) only [Int.toNat_natCast, List.set_set, atSet hi, Option.bind_some, widR, Int.add_assoc]
  exact hr
theorem markConfig_ev (a : Timpl_Config) (n : Int) (hn : 0 ≤ n) (hb : n ≤ 1000000000) (h0 : a.UserRealm.length ≤ 1048576) (h1 : a.ServiceRealm.length ≤ 1048576) (h2 : a.Links.length ≤ 1048576) (h3 : a.Proxy.length ≤ 1048576) : EvP (fun k => Flaws_markConfig k a n) (fun r => 0 ≤ r.1 ∧ r.1 ≤ n + 6291456) := by
  simp only [Flaws_markConfig]
  refine EvP.bindE (markIntS_ev a.UserRealm n (by omega) (by omega) (by omega)) ?_
  refine EvP.bindE (markIntS_ev a.ServiceRealm (n + 1 * (a.UserRealm.length : Int)) (by omega) (by omega) (by omega)) ?_
  refine EvP.bindE (markPairS_ev a.Links ((n + 1 * (a.UserRealm.length : Int)) + 1 * (a.ServiceRealm.length : Int)) (by omega) (by omega) (by omega)) ?_
  refine EvP.bindE (markPairS_ev a.Proxy (((n + 1 * (a.UserRealm.length : Int)) + 1 * (a.ServiceRealm.length : Int)) + 2 * (a.Links.length : Int)) (by omega) (by omega) (by omega)) ?_
  exact EvP.pure ⟨by simp only; omega, by simp only; omega⟩
def mkActS (n : Int) (_ : Timpl_Act) : Timpl_Act := (⟨n, (n + 1), (n + 2), (n + 3), (n + 4), (⟨(n + 5), (n + 6), (n + 7)⟩ : Timpl_Rest), (markT (n + 8))⟩ : Timpl_Act)
theorem markActS_ev (xs : List Timpl_Act) (n : Int) (hn : 0 ≤ n) (hb : n + 9 * xs.length ≤ 4611686018427387904) (hl : xs.length ≤ 4611686018427387904) : Ev (fun k => Flaws_markActS k xs n) (n + 9 * xs.length, markL mkActS 9 n xs) := by
  simp only [Flaws_markActS]
  refine Ev.mark (L := fun k xs n i => Flaws_markActS.l2 k xs n i) (g := mkActS) (w := 9) (fun xs n => by simp only [Flaws_markActS.l2, ltD0, cond_false]; exact Ev.pure _) (fun i b xs n r hb hi h0 h1 h2 hr => ?_) xs n hn hb hl
  simp only [Flaws_markActS.l2, ltD hi, cond_true]
  refine Ev.at? hb ?_
  simp (disch := omega) only [Int.toNat_natCast, List.set_set, atSet hi, Option.bind_some, widR, Int.add_assoc]
  refine Ev.bind (markText_ev _ (by omega)) ?_
  try simp (disch := omega) only [Int.toNat_natCast, List.set_set, atSet hi, Option.bind_some, widR, Int.add_assoc, Int.reduceAdd]
  exact hr
theorem heldActS_ev (xs : List Timpl_Act) (n : Int) (hn : 0 ≤ n) (hb : n + 9 * xs.length ≤ 4611686018427387904) (hl : xs.length ≤ 4611686018427387904) : Ev (fun k => Flaws_heldActS k (markL mkActS 9 n xs) n) (n + 9 * xs.length) := by
  simp only [Flaws_heldActS]
  refine Ev.held (L := fun k xs n i => Flaws_heldActS.l2 k xs n i) (g := mkActS) (w := 9) hn hb hl (fun xs n => by simp only [Flaws_heldActS.l2, ltD0, cond_false]; exact Ev.pure _) (fun i b xs n r hb hi h0 h1 h2 hr => ?_)
  simp only [Flaws_heldActS.l2, ltD hi, cond_true]
  simp (disch := omega) only [atN hb, mkActS, Option.bind_some, widR, Int.add_assoc, Int.reduceAdd, bne_self_eq_false, cond_false]
  refine Ev.bind (markText_ev _ (by omega)) ?_
  simp (disch := omega) only [mkActS, Option.bind_some, widR, Int.add_assoc, Int.reduceAdd, bne_self_eq_false, cond_false]
  exact hr
theorem okcvConfig {a : Tlaws_Config} (h : smConfig a) : okConfig (cvConfig a) := ⟨(by have := h.1; simp only [okConfig, cvConfig]; omega), (by have := h.2.1; simp only [okConfig, cvConfig]; omega), (by have := h.2.2.1; simp only [okConfig, cvConfig, List.length_map]; omega), (by have := h.2.2.2; simp only [okConfig, cvConfig, List.length_map]; omega)⟩
def R0 : Timpl_Rest := ⟨0, 0, 0⟩
def stepA (p s : Int) (rest : Timpl_Rest) (x m cr : Int) : List Timpl_Act := [⟨3, p, cr, s, 0, rest, []⟩, ⟨4, x, m, 0, 0, R0, []⟩, ⟨5, p, m + 1, 0, 0, R0, []⟩]
def lastA (p s op m cr : Int) : List Timpl_Act := [⟨6, p, cr, op, 0, R0, []⟩, ⟨7, s, m, 0, 0, R0, []⟩]
def flowP (c : Timpl_Config) (p s : Int) (rest : Timpl_Rest) (op t : Int) : Nat → Int → List Timpl_Act → Int → Int → List Timpl_Act
  | 0, _, _, _, _ => []
  | n + 1, x, out, m, cr => if x = t then out ++ stepA p s rest x m cr ++ lastA p s op (m + 2) (cr + 1) else if nextHop c x t < 0 then [] else flowP c p s rest op t n (nextHop c x t) (out ++ stepA p s rest x m cr) (m + 2) (cr + 1)
theorem flowP_len {c : Timpl_Config} {p s : Int} {rest : Timpl_Rest} {op t : Int} : ∀ (n : Nat) (x : Int) (out : List Timpl_Act) (m cr : Int), (flowP c p s rest op t n x out m cr).length ≤ out.length + 3 * n + 2
  | 0, _, _, _, _ => by simp [flowP]
  | n + 1, x, out, m, cr => by
    simp only [flowP]
    split
    · simp [stepA, lastA]; omega
    · split
      · simp
      · have := flowP_len (c := c) (p := p) (s := s) (rest := rest) (op := op) (t := t) n (nextHop c x t) (out ++ stepA p s rest x m cr) (m + 2) (cr + 1)
        simp only [List.length_append, stepA, List.length_cons, List.length_nil] at this ⊢
        omega
theorem sFlowL {c : Timpl_Config} (h : CfgSm c) (hc : cfgOk c = true) {p s : Int} {rest : Timpl_Rest} {op t : Int} (hs : at? c.ServiceRealm s = some t) (ht : isR t = true) : ∀ (n k : Nat) (x : Int) (out : List Timpl_Act) (m cr : Nat), k + n = 4 → out.length ≤ 3 + 3 * k → m ≤ 2 + 2 * k → cr ≤ k → isR x = true → dB (gl c) t.toNat x.toNat < n →
    Ev (fun f => Fspec_Flow.l2 f p s op out x (m : Int) ((cr : Int) + 1) (k : Int) c.UserRealm c.ServiceRealm c.Links c.Proxy c.Skew rest.Servers rest.Ops rest.End) (flowP c p s rest op t n x out m cr) := by
  intro n
  induction n with
  | zero => intro k x out m cr _ _ _ _ _ hd; omega
  | succ n ih =>
    intro k x out m cr hk ho hm hcr hx hd
    refine Ev.succ ?_
    simp only [Fspec_Flow.l2, flowP]
    rw [decide_eq_true (p := (k : Int) ≤ 3) (by omega), decide_eq_true (p := (2 * (out.length + _) + 192) * 80 ≤ 281474976710656) (by simp only [List.length_cons, List.length_nil]; omega), hs]
    simp only [cond_true, Option.bind_some]
    rw [wid (n := (cr : Int) + 1 - 1) (by omega) (by omega), wid (n := (m : Int) + 1) (by omega) (by omega), wid (n := (cr : Int) + 1 + 1) (by omega) (by omega), wid (n := (m : Int) + 2) (by omega) (by omega), wid (n := (cr : Int) + 1 + 1 - 1) (by omega) (by omega), wid1 (i := k) (by omega)]
    rw [show (cr : Int) + 1 - 1 = cr by omega, show (cr : Int) + 1 + 1 - 1 = (cr : Int) + 1 by omega]
    refine Ev.ite (fun he => ?_) (fun he => ?_)
    · rw [if_pos (by simpa using he), decide_eq_true (by simp only [List.length_append, List.length_cons, List.length_nil]; omega)]
      exact Ev.pure _
    · have he : x ≠ t := by simpa using he
      rw [if_neg he]
      refine Ev.bind (sNextHop h x t) ?_
      refine Ev.ite (fun hn => ?_) (fun hn => ?_)
      · rw [if_pos (of_decide_eq_true hn)]; exact Ev.pure _
      · rw [if_neg (of_decide_eq_false hn)]
        rcases nextHop_lt hc hx ht he with h1 | ⟨h1, h2⟩
        · exact absurd (show nextHop c x t < 0 by omega) (of_decide_eq_false hn)
        · have := ih (k + 1) (nextHop c x t) (out ++ stepA p s rest x m cr) (m + 2) (cr + 1) (by omega) (by simp only [List.length_append, stepA, List.length_cons, List.length_nil]; omega) (by omega) (by omega) h1 (by omega)
          exact this
theorem iFlowL {c : Timpl_Config} (h : CfgSm c) (hc : cfgOk c = true) {p s : Int} {rest : Timpl_Rest} {op t : Int} (ht : isR t = true) : ∀ (n k : Nat) (x : Int) (out : List Timpl_Act) (m cr : Nat), k + n = 4 → out.length ≤ 3 + 3 * k → m ≤ 2 + 2 * k → cr ≤ k → isR x = true → dB (gl c) t.toNat x.toNat < n →
    Ev (fun f => Fimpl_Flow.l2 f p s op x t out (m : Int) (cr : Int) c.UserRealm c.ServiceRealm c.Links c.Proxy c.Skew rest.Servers rest.Ops rest.End) (flowP c p s rest op t n x out m cr) := by
  intro n
  induction n with
  | zero => intro k x out m cr _ _ _ _ _ hd; omega
  | succ n ih =>
    intro k x out m cr hk ho hm hcr hx hd
    refine Ev.succ ?_
    simp only [Fimpl_Flow.l2, flowP]
    rw [decide_eq_true (p := (2 * (out.length + _) + 192) * 80 ≤ 281474976710656) (by simp only [List.length_cons, List.length_nil]; omega)]
    simp only [cond_true]
    rw [wid (n := (m : Int) + 1) (by omega) (by omega), wid (n := (cr : Int) + 1) (by omega) (by omega), wid (n := (m : Int) + 2) (by omega) (by omega)]
    refine Ev.ite (fun he => ?_) (fun he => ?_)
    · rw [if_pos (by simpa using he), decide_eq_true (by simp only [List.length_append, List.length_cons, List.length_nil]; omega)]
      exact Ev.pure _
    · have he : x ≠ t := by simpa using he
      rw [if_neg he]
      refine Ev.bind (iNextHop h x t) ?_
      refine Ev.ite (fun hn => ?_) (fun hn => ?_)
      · rw [if_pos (of_decide_eq_true hn)]; exact Ev.pure _
      · rw [if_neg (of_decide_eq_false hn)]
        rcases nextHop_lt hc hx ht he with h1 | ⟨h1, h2⟩
        · exact absurd (show nextHop c x t < 0 by omega) (of_decide_eq_false hn)
        · have := ih (k + 1) (nextHop c x t) (out ++ stepA p s rest x m cr) (m + 2) (cr + 1) (by omega) (by simp only [List.length_append, stepA, List.length_cons, List.length_nil]; omega) (by omega) (by omega) h1 (by omega)
          exact this
def restOkB (r : Timpl_Rest) : Bool := isIn r.Servers 0 7 && (isIn r.Ops 0 255 && isIn r.End 0 100000)
theorem sRestOkB (k : Nat) (r : Timpl_Rest) : Fspec_RestOk k r = some (restOkB r) := by
  simp only [Fspec_RestOk, sIn, Option.bind_some]
  unfold restOkB
  cases isIn r.Servers 0 7 <;> cases isIn r.Ops 0 255 <;> rfl
theorem iRestOkB (k : Nat) (r : Timpl_Rest) : Fimpl_RestOk k r = some (restOkB r) := by
  simp only [Fimpl_RestOk, Fimpl_isTime, iIn, Option.bind_some]
  unfold restOkB
  cases isIn r.Servers 0 7 <;> cases isIn r.Ops 0 255 <;> rfl
theorem flow_both {c : Timpl_Config} (h : CfgSm c) (p s : Int) (rest : Timpl_Rest) (op : Int) : ∃ r : List Timpl_Act, Ev (fun k => Fspec_Flow k c p s rest op) r ∧ Ev (fun k => Fimpl_Flow k c p s rest op) r ∧ r.length ≤ 1048576 := by
  simp only [Fspec_Flow, Fimpl_Flow, sPrin, sIn, iIn, Fimpl_isPrincipal, Fimpl_isService, sRestOkB, iRestOkB, Option.bind_some]
  by_cases hc : cfgOk c = true
  case neg =>
    have hc : cfgOk c = false := by simpa using hc
    have h1 := sConfigOk h
    have h2 := iConfigOk h
    rw [hc] at h1 h2
    exact ⟨[], Ev.bind h1 (Ev.pure _), Ev.bind h2 (Ev.pure _), by simp⟩
  have h1 := sConfigOk h
  have h2 := iConfigOk h
  rw [hc] at h1 h2
  have hv := cfgV hc
  by_cases hp : prin p = true
  case neg =>
    have hp : prin p = false := by simpa using hp
    refine ⟨[], Ev.bind h1 ?_, Ev.bind h2 ?_, by simp⟩
    · rw [hp]; exact Ev.pure _
    · rw [show isIn p 0 5 = false from hp]; exact Ev.pure _
  by_cases hs : isR s = true
  case neg =>
    have hs : isR s = false := by simpa using hs
    refine ⟨[], Ev.bind h1 ?_, Ev.bind h2 ?_, by simp⟩
    · rw [hp]
      have : ¬ (0 ≤ s ∧ s ≤ 2) := fun hh => by rw [isR_iff.2 hh] at hs; cases hs
      simp only [Bool.not_true, cond_false]
      refine Ev.ite (fun _ => Ev.pure _) (fun h0 => Ev.ite (fun _ => Ev.pure _) (fun h3 => ?_))
      exfalso
      have h0 := of_decide_eq_false h0
      have h3 := of_decide_eq_false h3
      omega
    · rw [show isIn p 0 5 = true from hp, show isIn s 0 2 = false from hs]; exact Ev.pure _
  have hs' := isR_iff.1 hs
  by_cases hr : restOkB rest = true
  case neg =>
    have hr : restOkB rest = false := by simpa using hr
    refine ⟨[], Ev.bind h1 ?_, Ev.bind h2 ?_, by simp⟩
    · rw [hp, hr, decide_eq_false (by omega), decide_eq_false (by omega)]; exact Ev.pure _
    · rw [show isIn p 0 5 = true from hp, show isIn s 0 2 = true from hs, hr]
      cases isIn op 0 7 <;> exact Ev.pure _
  by_cases ho : isIn op 0 7 = true
  case neg =>
    have ho : isIn op 0 7 = false := by simpa using ho
    refine ⟨[], Ev.bind h1 ?_, Ev.bind h2 ?_, by simp⟩
    · rw [hp, hr, ho, decide_eq_false (by omega), decide_eq_false (by omega)]; exact Ev.pure _
    · rw [show isIn p 0 5 = true from hp, show isIn s 0 2 = true from hs, ho]; exact Ev.pure _
  obtain ⟨t, ht⟩ : ∃ t, at? c.ServiceRealm s = some t := ⟨_, atD (by omega) (by rw [hv.sl]; omega)⟩
  have htR : isR t = true := by
    have hm : t ∈ c.ServiceRealm := by
      obtain ⟨n, hn⟩ : ∃ n : Nat, s = n := ⟨s.toNat, by omega⟩
      rw [hn] at ht
      have hn3 : n < c.ServiceRealm.length := by rw [hv.sl]; omega
      rw [atN (List.getElem?_eq_getElem hn3)] at ht
      cases ht
      exact List.getElem_mem hn3
    exact isR_iff.2 (hv.sr t hm)
  have hrl := realmOf_lt hc hp
  have hd := dB_le (g := gl c) (t := t.toNat) (x := (realmOf c p).toNat)
  refine ⟨flowP c p s rest op t 4 (realmOf c p) [⟨2, p, 0, 0, 0, R0, []⟩, ⟨4, realmOf c p, 0, 0, 0, R0, []⟩, ⟨5, p, 1, 0, 0, R0, []⟩] 2 0, Ev.bind h1 ?_, Ev.bind h2 ?_, ?_⟩
  · rw [hp, hr, ho, decide_eq_false (by omega), decide_eq_false (by omega)]
    simp only [Bool.not_true, cond_false]
    refine Ev.bind (sRealmOf h p) ?_
    rw [decide_eq_true (by simp)]
    exact sFlowL h hc ht htR 4 0 (realmOf c p) _ 2 0 rfl (by simp) (by omega) (by omega) (isR_iff.2 hrl) (by omega)
  · rw [show isIn p 0 5 = true from hp, show isIn s 0 2 = true from hs, hr, ho]
    simp only [Bool.not_true, cond_false]
    refine Ev.bind (iRealmOf h p) ?_
    rw [ht]
    exact iFlowL h hc htR 4 0 (realmOf c p) _ 2 0 rfl (by simp) (by omega) (by omega) (isR_iff.2 hrl) (by omega)
  · have := flowP_len (c := c) (p := p) (s := s) (rest := rest) (op := op) (t := t) 4 (realmOf c p) [⟨2, p, 0, 0, 0, R0, []⟩, ⟨4, realmOf c p, 0, 0, 0, R0, []⟩, ⟨5, p, 1, 0, 0, R0, []⟩] 2 0
    simp only [List.length_cons, List.length_nil] at this
    omega
theorem coreFlow (a0 : Tlaws_Config) (a1 : Int) (a2 : Int) (a3 : Tlaws_Rest) (a4 : Int) (w0 : wfTlaws_Config a0) (w1 : Go.MG.wfI a1) (w2 : Go.MG.wfI a2) (w3 : wfTlaws_Rest a3) (w4 : Go.MG.wfI a4) (s0 : smConfig a0) : ∃ r, Ev (fun k => Fspec_Flow k (cvConfig a0) a1 a2 (cvRest a3) a4) r ∧ Ev (fun k => Fimpl_Flow k (cvConfig a0) a1 a2 (cvRest a3) a4) r ∧ r.length ≤ 1099511627776 := by
  have h : CfgSm (cvConfig a0) := by
    obtain ⟨h1, h2, h3, h4⟩ := s0
    exact ⟨h1, h2, by simp only [cvConfig, List.length_map]; exact h3, by simp only [cvConfig, List.length_map]; exact h4⟩
  obtain ⟨r, h1, h2, h3⟩ := flow_both h a1 a2 (cvRest a3) a4
  exact ⟨r, h1, h2, by omega⟩
theorem lawExactFlow (a0 : Tlaws_Config) (a1 : Int) (a2 : Int) (a3 : Tlaws_Rest) (a4 : Int) (w0 : wfTlaws_Config a0) (w1 : Go.MG.wfI a1) (w2 : Go.MG.wfI a2) (w3 : wfTlaws_Rest a3) (w4 : Go.MG.wfI a4) : ∃ k, Flaws_FnExactFlow k a0 a1 a2 a3 a4 = some true := by
  refine Ev.get (f := fun k => Flaws_FnExactFlow k a0 a1 a2 a3 a4) ?_
  simp only [Flaws_FnExactFlow]
  obtain ⟨z1, hz1, hy1⟩ := szConfig_ev a0 w0 (1048576 : Int) (by omega) (by omega)
  refine Ev.bind hz1 ?_
  refine Ev.ite (fun _ => Ev.pure _) (fun hc => ?_)
  obtain ⟨_, _, s0⟩ := hy1.resolve_left (by simpa using hc)
  refine Ev.bind (toConfig_ev _ s0) ?_
  refine Ev.bind (toRest_ev _ trivial) ?_
  have l0_0 : (cvConfig a0).UserRealm.length ≤ 1048576 := by simp only [cvConfig, List.length_map]; exact s0.1
  have l0_1 : (cvConfig a0).ServiceRealm.length ≤ 1048576 := by simp only [cvConfig, List.length_map]; exact s0.2.1
  have l0_2 : (cvConfig a0).Links.length ≤ 1048576 := by simp only [cvConfig, List.length_map]; exact s0.2.2.1
  have l0_3 : (cvConfig a0).Proxy.length ≤ 1048576 := by simp only [cvConfig, List.length_map]; exact s0.2.2.2
  obtain ⟨r, hs, hi, hr⟩ := coreFlow a0 a1 a2 a3 a4 w0 w1 w2 w3 w4 s0
  refine Ev.bind hs ?_
  refine Ev.bind (toConfig_ev _ s0) ?_
  refine Ev.bind (toRest_ev _ trivial) ?_
  refine Ev.bind hi ?_
  refine Ev.bind (eqActS_ev _ hr) ?_
  simp only [Bool.not_true, cond_false]
  refine Ev.bind (toConfig_ev _ s0) ?_
  refine Ev.bind (eqConfig_ev _ (okcvConfig s0)) ?_
  simp only [Bool.not_true, cond_false]
  obtain ⟨z2, hz2, hy2, hx2⟩ := markConfig_ev (cvConfig a0) (1 : Int) (by omega) (by omega) l0_0 l0_1 l0_2 l0_3
  refine Ev.bind hz2 ?_
  refine Ev.ite (fun hc => absurd (of_decide_eq_true hc) (by first | omega | (simp only; omega))) (fun _ => ?_)
  refine Ev.bind (eqActS_ev _ hr) ?_
  simp only [Bool.not_true, cond_false]
  have hrl := hr
  refine Ev.bind (markActS_ev _ (1 : Int) (by omega) (by omega) (by omega)) ?_
  refine Ev.bind (heldActS_ev _ (1 : Int) (by omega) (by omega) (by omega)) ?_
  refine Ev.ite (fun hc => absurd (of_decide_eq_true hc) (by first | omega | (simp only; omega))) (fun _ => ?_)
  try simp only [bne_self_eq_false, cond_false]
  refine Ev.bind (toConfig_ev _ s0) ?_
  refine Ev.bind (toRest_ev _ trivial) ?_
  refine Ev.bind hi ?_
  refine Ev.bind (eqActS_ev _ hr) ?_
  simp only [Bool.not_true, cond_false]
  refine Ev.bind (heldActS_ev _ (1 : Int) (by omega) (by omega) (by omega)) ?_
  refine Ev.ite (fun hc => absurd (of_decide_eq_true hc) (by first | omega | (simp only; omega))) (fun _ => ?_)
  try simp only [bne_self_eq_false, cond_false]
  exact Ev.pure _

end Go.Proofs.Ytcolcmjcjpikcaa.M
