/- The program's Roots and the reference's are one function. Conditions: none. -/
import Derived.Test.YtcolcmjcjpikcaaFRoots
namespace Go.Proofs.Ytcolcmjcjpikcaa.M
open Go Go.MG
set_option linter.unusedVariables false
set_option linter.unusedSimpArgs false
theorem wid {n : Int} (h1 : -9223372036854775808 ≤ n) (h2 : n ≤ 9223372036854775807) : IntKind.i64.wrap n = n := by
  rw [IntKind.wrap_i64]; omega
theorem atN {α : Type} {xs : List α} {i : Nat} {b : α} (h : xs[i]? = some b) : at? xs (i : Int) = some b := by
  simp [at?, h]
theorem atLt {α : Type} {xs : List α} {i : Nat} (h : i < xs.length) : ∃ b, xs[i]? = some b := ⟨xs[i], List.getElem?_eq_getElem h⟩
theorem wid1 {i : Nat} (h : i ≤ 4611686018427387904) : IntKind.i64.wrap ((i : Int) + 1) = ((i + 1 : Nat) : Int) := by
  rw [wid (by omega) (by omega)]; omega
theorem ltD {i n : Nat} (h : i < n) : decide ((i : Int) < (n : Int)) = true := by simp; omega
theorem ltD0 {n : Nat} : decide ((n : Int) < (n : Int)) = false := by simp
theorem take_succ_get {α : Type} {xs : List α} {i : Nat} {b : α} (h : xs[i]? = some b) : xs.take (i + 1) = xs.take i ++ [b] := by
  rw [List.take_add_one, h]; rfl
/-- What a copy has become after some rounds. -/
theorem set_copy {α : Type} {xs : List α} {z b : α} {i : Nat} (h : xs[i]? = some b) : (xs.take i ++ List.replicate (xs.length - i) z).set i b = xs.take (i + 1) ++ List.replicate (xs.length - (i + 1)) z := by
  have hi := (List.getElem?_eq_some_iff.1 h).1
  rw [take_succ_get h, List.set_append_right _ _ (by simp; omega)]
  have e : xs.length - i = (xs.length - (i + 1)) + 1 := by omega
  rw [e, List.replicate_succ]
  have e2 : i - (xs.take i).length = 0 := by simp; omega
  rw [e2]
  simp
theorem get_copy {α : Type} {xs : List α} {z : α} {i : Nat} (h : i < xs.length) : (xs.take i ++ List.replicate (xs.length - i) z)[i]? = some z := by
  rw [List.getElem?_append_right (by simp; omega)]
  have : i - (xs.take i).length = 0 := by simp; omega
  rw [this, List.getElem?_replicate]
  simp; omega
/-- From some fuel on it answers so. -/
def Ev {α : Type} (f : Nat → Option α) (r : α) : Prop := ∃ n, ∀ k, n ≤ k → f k = some r
theorem Ev.pure {α : Type} (r : α) : Ev (fun _ => some r) r := ⟨0, fun _ _ => rfl⟩
theorem Ev.of {α : Type} {f : Nat → Option α} {r : α} (h : ∀ k, f k = some r) : Ev f r := ⟨0, fun k _ => h k⟩
theorem Ev.bind {α β : Type} {f : Nat → Option α} {g : Nat → α → Option β} {a : α} {r : β} (h : Ev f a) (h' : Ev (fun k => g k a) r) : Ev (fun k => (f k).bind (g k)) r := by
  obtain ⟨n, h⟩ := h
  obtain ⟨m, h'⟩ := h'
  refine ⟨max n m, fun k hk => ?_⟩
  show (f k).bind (g k) = some r
  rw [h k (by omega), Option.bind_some]
  exact h' k (by omega)
theorem Ev.succ {α : Type} {f : Nat → Option α} {r : α} (h : Ev (fun k => f (k + 1)) r) : Ev f r := by
  obtain ⟨n, h⟩ := h
  refine ⟨n + 1, fun k hk => ?_⟩
  obtain ⟨j, rfl⟩ : ∃ j, k = j + 1 := ⟨k - 1, by omega⟩
  exact h j (by omega)
theorem Ev.get {α : Type} {f : Nat → Option α} {r : α} (h : Ev f r) : ∃ k, f k = some r := by
  obtain ⟨n, h⟩ := h
  exact ⟨n, h n (Nat.le_refl _)⟩
theorem Ev.det {α : Type} {f : Nat → Option α} {a b : α} (h : Ev f a) (h' : Ev f b) : a = b := by
  obtain ⟨n, h⟩ := h
  obtain ⟨m, h'⟩ := h'
  have e := h (max n m) (by omega)
  rw [h' (max n m) (by omega)] at e
  exact (Option.some.inj e).symm
theorem Ev.congr {α : Type} {f g : Nat → Option α} {r : α} (h : Ev f r) (e : ∀ k, g k = f k) : Ev g r := by
  obtain ⟨n, h⟩ := h
  exact ⟨n, fun k hk => (e k).trans (h k hk)⟩
theorem Ev.to {α : Type} {f : Nat → Option α} {a b : α} (h : Ev f a) (e : a = b) : Ev f b := e ▸ h
theorem Ev.ite {α : Type} {f g : Nat → Option α} {c : Bool} {r : α} (h1 : c = true → Ev f r) (h0 : c = false → Ev g r) : Ev (fun k => cond c (f k) (g k)) r := by
  cases c with
  | true => exact h1 rfl
  | false => exact h0 rfl
theorem Ev.at? {α β : Type} {xs : List α} {i : Nat} {b : α} {g : Nat → α → Option β} {r : β} (h : xs[i]? = some b) (h' : Ev (fun k => g k b) r) : Ev (fun k => (Go.MG.at? xs (i : Int)).bind (g k)) r := by
  have e := atN h
  simp only [e, Option.bind_some]
  exact h'
/-- A loop over a list: what it answers, told over what is left of it. -/
theorem Ev.forI {α S R : Type} {xs : List α} {L : Nat → S → Int → Option R} {f : List α → S → R} {I : Nat → S → Prop}
    (hnil : ∀ s, I xs.length s → Ev (fun k => L (k + 1) s (xs.length : Int)) (f [] s))
    (hcons : ∀ (i : Nat) (b : α) (s : S), xs[i]? = some b → i < xs.length → I i s → (∀ s', I (i + 1) s' → Ev (fun k => L k s' ((i + 1 : Nat) : Int)) (f (xs.drop (i + 1)) s')) → Ev (fun k => L (k + 1) s (i : Int)) (f (b :: xs.drop (i + 1)) s)) :
    ∀ (s : S), I 0 s → Ev (fun k => L k s 0) (f xs s) := by
  have key : ∀ (m i : Nat) (s : S), i + m = xs.length → I i s → Ev (fun k => L k s (i : Int)) (f (xs.drop i) s) := by
    intro m
    induction m with
    | zero =>
      intro i s hi hI
      have : i = xs.length := by omega
      subst this
      rw [List.drop_length]
      exact Ev.succ (hnil s hI)
    | succ m ih =>
      intro i s hi hI
      obtain ⟨b, hb⟩ := atLt (xs := xs) (i := i) (by omega)
      have hlt : i < xs.length := by omega
      have e : xs.drop i = b :: xs.drop (i + 1) := by
        rw [List.drop_eq_getElem_cons hlt]
        rw [List.getElem?_eq_getElem hlt] at hb
        cases hb; rfl
      rw [e]
      exact Ev.succ (hcons i b s hb hlt hI fun s' hs' => ih (i + 1) s' (by omega) hs')
  intro s hs
  have := key xs.length 0 s (by omega) hs
  simpa using this
theorem Ev.for {α S R : Type} {xs : List α} {L : Nat → S → Int → Option R} {f : List α → S → R}
    (hnil : ∀ s, Ev (fun k => L (k + 1) s (xs.length : Int)) (f [] s))
    (hcons : ∀ (i : Nat) (b : α) (s : S), xs[i]? = some b → i < xs.length → (∀ s', Ev (fun k => L k s' ((i + 1 : Nat) : Int)) (f (xs.drop (i + 1)) s')) → Ev (fun k => L (k + 1) s (i : Int)) (f (b :: xs.drop (i + 1)) s)) :
    ∀ (s : S), Ev (fun k => L k s 0) (f xs s) := fun s => Ev.forI (I := fun _ _ => True) (fun s _ => hnil s) (fun i b s hb hi _ h => hcons i b s hb hi fun s' => h s' trivial) s trivial
/-- A loop that copies by a map. -/
theorem Ev.copy {α β : Type} {xs : List α} {L : Nat → List β → Int → Option (List β)} {f : α → β} {z : β}
    (hnil : ∀ s, Ev (fun k => L (k + 1) s (xs.length : Int)) s)
    (hcons : ∀ (i : Nat) (b : α) (s : List β) (r : List β), xs[i]? = some b → i < xs.length → s[i]? = some z → Ev (fun k => L k (s.set i (f b)) ((i + 1 : Nat) : Int)) r → Ev (fun k => L (k + 1) s (i : Int)) r) :
    Ev (fun k => L k (List.replicate xs.length z) 0) (xs.map f) := by
  have key : ∀ (m i : Nat), i + m = xs.length → Ev (fun k => L k ((xs.map f).take i ++ List.replicate ((xs.map f).length - i) z) (i : Int)) (xs.map f) := by
    intro m
    induction m with
    | zero =>
      intro i hi
      have : i = xs.length := by omega
      subst this
      refine Ev.succ ((hnil _).to ?_)
      rw [List.length_map, Nat.sub_self, List.replicate_zero, List.append_nil]
      exact List.take_of_length_le (by simp)
    | succ m ih =>
      intro i hi
      obtain ⟨b, hb⟩ := atLt (xs := xs) (i := i) (by omega)
      have hb2 : (xs.map f)[i]? = some (f b) := by rw [List.getElem?_map, hb]; rfl
      refine Ev.succ (hcons i b _ _ hb (by omega) (get_copy (by rw [List.length_map]; omega)) ?_)
      rw [set_copy hb2]
      exact ih (i + 1) (by omega)
  have := key xs.length 0 (by omega)
  simpa using this
/-- A loop that stores what hangs on the place alone. -/
def markL {α β : Type} (g : Int → α → β) (w : Int) : Int → List α → List β
  | _, [] => []
  | n, x :: xs => g n x :: markL g w (n + w) xs
theorem markL_length {α β : Type} (g : Int → α → β) (w : Int) : ∀ (n : Int) (xs : List α), (markL g w n xs).length = xs.length
  | _, [] => rfl
  | n, x :: xs => by simp [markL, markL_length g w (n + w) xs]
theorem markL_get {α β : Type} {g : Int → α → β} {w : Int} : ∀ {n : Int} {xs : List α} {i : Nat} {x : α}, xs[i]? = some x → (markL g w n xs)[i]? = some (g (n + w * i) x)
  | n, [], i, x, h => by simp at h
  | n, y :: xs, 0, x, h => by simp at h; subst h; simp [markL]
  | n, y :: xs, i + 1, x, h => by
    simp only [List.getElem?_cons_succ] at h
    simp only [markL, List.getElem?_cons_succ]
    rw [markL_get h]
    congr 2
    rw [show ((i + 1 : Nat) : Int) = (i : Int) + 1 by omega, Int.mul_add]; omega
/-- It answers, and what it answers is so. -/
def EvP {α : Type} (f : Nat → Option α) (P : α → Prop) : Prop := ∃ r, Ev f r ∧ P r
theorem Ev.p {α : Type} {f : Nat → Option α} {r : α} {P : α → Prop} (h : Ev f r) (hp : P r) : EvP f P := ⟨r, h, hp⟩
theorem EvP.pure {α : Type} {r : α} {P : α → Prop} (h : P r) : EvP (fun _ => some r) P := ⟨r, Ev.pure r, h⟩
theorem EvP.bind {α β : Type} {f : Nat → Option α} {g : Nat → α → Option β} {P : α → Prop} {Q : β → Prop} (h : EvP f P) (h' : ∀ a, P a → EvP (fun k => g k a) Q) : EvP (fun k => (f k).bind (g k)) Q := by
  obtain ⟨a, h1, h2⟩ := h
  obtain ⟨r, h3, h4⟩ := h' a h2
  exact ⟨r, h1.bind h3, h4⟩
theorem EvP.bindE {α β : Type} {f : Nat → Option α} {g : Nat → α → Option β} {a : α} {Q : β → Prop} (h : Ev f a) (h' : EvP (fun k => g k a) Q) : EvP (fun k => (f k).bind (g k)) Q := by
  obtain ⟨r, h3, h4⟩ := h'
  exact ⟨r, h.bind h3, h4⟩
theorem EvP.ite {α : Type} {f g : Nat → Option α} {c : Bool} {P : α → Prop} (h1 : c = true → EvP f P) (h0 : c = false → EvP g P) : EvP (fun k => cond c (f k) (g k)) P := by
  cases c with
  | true => exact h1 rfl
  | false => exact h0 rfl
theorem EvP.succ {α : Type} {f : Nat → Option α} {P : α → Prop} (h : EvP (fun k => f (k + 1)) P) : EvP f P := by
  obtain ⟨r, h1, h2⟩ := h
  exact ⟨r, h1.succ, h2⟩
theorem EvP.at? {α β : Type} {xs : List α} {i : Nat} {b : α} {g : Nat → α → Option β} {P : β → Prop} (h : xs[i]? = some b) (h' : EvP (fun k => g k b) P) : EvP (fun k => (Go.MG.at? xs (i : Int)).bind (g k)) P := by
  obtain ⟨r, h1, h2⟩ := h'
  exact ⟨r, Ev.at? h h1, h2⟩
/-- A loop over a list, by an invariant. -/
theorem EvP.for {α S R : Type} {xs : List α} {L : Nat → S → Int → Option R} {P : R → Prop} (I : Nat → S → Prop)
    (hnil : ∀ s, I xs.length s → EvP (fun k => L (k + 1) s (xs.length : Int)) P)
    (hcons : ∀ (i : Nat) (b : α) (s : S), xs[i]? = some b → i < xs.length → I i s → (∀ s', I (i + 1) s' → EvP (fun k => L k s' ((i + 1 : Nat) : Int)) P) → EvP (fun k => L (k + 1) s (i : Int)) P) :
    ∀ (s : S), I 0 s → EvP (fun k => L k s 0) P := by
  have key : ∀ (m i : Nat) (s : S), i + m = xs.length → I i s → EvP (fun k => L k s (i : Int)) P := by
    intro m
    induction m with
    | zero =>
      intro i s hi hI
      have : i = xs.length := by omega
      subst this
      exact EvP.succ (hnil s hI)
    | succ m ih =>
      intro i s hi hI
      obtain ⟨b, hb⟩ := atLt (xs := xs) (i := i) (by omega)
      exact EvP.succ (hcons i b s hb (by omega) hI fun s' hs' => ih (i + 1) s' (by omega) hs')
  intro s hs
  simpa using key xs.length 0 s (by omega) hs
theorem widR {n : Int} (h1 : -9223372036854775808 ≤ n) (h2 : n ≤ 9223372036854775807) : IntKind.i64.wrap n = n := wid h1 h2
theorem atSet {α : Type} {xs : List α} {i : Nat} {y : α} (h : i < xs.length) : at? (xs.set i y) (i : Int) = some y := atN (by simp [h])
/-- A loop that stores into each place what hangs on the count. -/
theorem Ev.mark {α : Type} {L : Nat → List α → Int → Int → Option (Int × List α)} {g : Int → α → α} {w : Nat}
    (hnil : ∀ xs n, Ev (fun k => L (k + 1) xs n (xs.length : Int)) (n, xs))
    (hcons : ∀ (i : Nat) (b : α) (xs : List α) (n : Int) r, xs[i]? = some b → i < xs.length → 0 ≤ n → n + w ≤ 4611686018427387904 → xs.length ≤ 4611686018427387904 → Ev (fun k => L k (xs.set i (g n b)) (n + w) ((i + 1 : Nat) : Int)) r → Ev (fun k => L (k + 1) xs n (i : Int)) r)
    (xs : List α) (n : Int) (hn : 0 ≤ n) (hb : n + w * xs.length ≤ 4611686018427387904) (hl : xs.length ≤ 4611686018427387904) : Ev (fun k => L k xs n 0) (n + w * xs.length, markL g w n xs) := by
  have key : ∀ (m i : Nat) (ys : List α) (j : Int), i + m = ys.length → j = n + w * i → ys.length = xs.length → ys.take i = (markL g w n xs).take i → ys.drop i = xs.drop i → Ev (fun k => L k ys j (i : Int)) (n + w * xs.length, markL g w n xs) := by
    intro m
    induction m with
    | zero =>
      intro i ys j hi hj hl ht hd
      have e : i = ys.length := by omega
      subst e
      refine Ev.succ ((hnil ys j).to ?_)
      rw [List.take_of_length_le (Nat.le_refl _), List.take_of_length_le (by rw [markL_length]; omega)] at ht
      rw [hj, hl, ← ht]
    | succ m ih =>
      intro i ys j hi hj hl' ht hd
      obtain ⟨b, hb'⟩ := atLt (xs := ys) (i := i) (by omega)
      have hx : xs[i]? = some b := by
        have : (ys.drop i)[0]? = (xs.drop i)[0]? := by rw [hd]
        simp only [List.getElem?_drop, Nat.add_zero] at this
        rw [← this]; exact hb'
      have hw : (w : Int) * (i : Int) + w ≤ w * xs.length := by
        have : w * (i + 1) ≤ w * xs.length := Nat.mul_le_mul_left w (by omega)
        have h2 : ((w * (i + 1) : Nat) : Int) ≤ ((w * xs.length : Nat) : Int) := by omega
        rw [Int.natCast_mul, Int.natCast_mul] at h2
        rw [show ((i + 1 : Nat) : Int) = (i : Int) + 1 by omega, Int.mul_add] at h2
        omega
      have hw0 : (0 : Int) ≤ (w : Int) * (i : Int) := Int.mul_nonneg (by omega) (by omega)
      refine Ev.succ (hcons i b ys j _ hb' (by omega) (by omega) (by omega) (by omega) (ih (i + 1) (ys.set i (g j b)) (j + w) (by rw [List.length_set]; omega) ?_ (by rw [List.length_set]; exact hl') ?_ ?_))
      · rw [hj, show ((i + 1 : Nat) : Int) = (i : Int) + 1 by omega, Int.mul_add]; omega
      · have h1 : (ys.set i (g j b))[i]? = some (g j b) := List.getElem?_set_self (by omega)
        have h2 : (markL g w n xs)[i]? = some (g j b) := by rw [markL_get hx, hj]
        rw [take_succ_get h1, take_succ_get h2, ← ht, List.take_set_of_le (Nat.le_refl _)]
      · rw [List.drop_set_of_lt (by omega), ← List.drop_drop, ← List.drop_drop, hd]
  simpa using key xs.length 0 xs n (by omega) (by simp) rfl rfl rfl
/-- A loop that looks whether each place holds what was stored. -/
theorem Ev.held {α : Type} {L : Nat → List α → Int → Int → Option Int} {g : Int → α → α} {w : Nat} {xs : List α} {n : Int} (hn : 0 ≤ n) (hb : n + w * xs.length ≤ 4611686018427387904) (hl : xs.length ≤ 4611686018427387904)
    (hnil : ∀ (ys : List α) j, Ev (fun k => L (k + 1) ys j (ys.length : Int)) j)
    (hcons : ∀ (i : Nat) (b : α) (ys : List α) (j : Int) r, ys[i]? = some (g j b) → i < ys.length → 0 ≤ j → j + w ≤ 4611686018427387904 → ys.length ≤ 4611686018427387904 → Ev (fun k => L k ys (j + w) ((i + 1 : Nat) : Int)) r → Ev (fun k => L (k + 1) ys j (i : Int)) r) :
    Ev (fun k => L k (markL g w n xs) n 0) (n + w * xs.length) := by
  have hml := markL_length g w n xs
  have key : ∀ (m i : Nat) (j : Int), i + m = xs.length → j = n + w * i → Ev (fun k => L k (markL g w n xs) j (i : Int)) (n + w * xs.length) := by
    intro m
    induction m with
    | zero =>
      intro i j hi hj
      have e : i = (markL g w n xs).length := by omega
      subst e
      refine Ev.succ ((hnil _ j).to ?_)
      rw [hj, hml]
    | succ m ih =>
      intro i j hi hj
      obtain ⟨b, hx⟩ := atLt (xs := xs) (i := i) (by omega)
      have hw : (w : Int) * (i : Int) + w ≤ w * xs.length := by
        have : w * (i + 1) ≤ w * xs.length := Nat.mul_le_mul_left w (by omega)
        have h2 : ((w * (i + 1) : Nat) : Int) ≤ ((w * xs.length : Nat) : Int) := by omega
        rw [Int.natCast_mul, Int.natCast_mul] at h2
        rw [show ((i + 1 : Nat) : Int) = (i : Int) + 1 by omega, Int.mul_add] at h2
        omega
      have hw0 : (0 : Int) ≤ (w : Int) * (i : Int) := Int.mul_nonneg (by omega) (by omega)
      refine Ev.succ (hcons i b _ j _ ?_ (by omega) (by omega) (by omega) (by omega) (ih (i + 1) _ (by omega) ?_))
      · rw [markL_get hx, hj]
      · rw [hj, show ((i + 1 : Nat) : Int) = (i : Int) + 1 by omega, Int.mul_add]; omega
  simpa using key xs.length 0 n (by omega) (by simp)
/-- What is found first. -/
def firstOf {α R : Type} (p : α → Bool) (g : Nat → R) (e : R) : Nat → List α → R
  | _, [] => e
  | i, x :: xs => if p x then g i else firstOf p g e (i + 1) xs
theorem Ev.find {α R : Type} {xs : List α} {L : Nat → Int → Option R} {p : α → Bool} {g : Nat → R} {e : R}
    (hnil : Ev (fun k => L (k + 1) (xs.length : Int)) e)
    (hcons : ∀ (i : Nat) (b : α) (r : R), xs[i]? = some b → i < xs.length → (p b = true → r = g i) → (p b = false → Ev (fun k => L k ((i + 1 : Nat) : Int)) r) → Ev (fun k => L (k + 1) (i : Int)) r) :
    Ev (fun k => L k 0) (firstOf p g e 0 xs) := by
  have := Ev.for (xs := xs) (L := fun k (_ : Unit) i => L k i) (f := fun l _ => firstOf p g e (xs.length - l.length) l) (fun _ => by simpa [firstOf] using hnil) (fun i b _ hb hi h => by
    refine hcons i b _ hb hi (fun hp => ?_) (fun hp => ?_)
    · have : xs.length - (b :: List.drop (i + 1) xs).length = i := by simp; omega
      rw [this]; simp [firstOf, hp]
    · refine (h ()).to ?_
      have e1 : xs.length - (b :: List.drop (i + 1) xs).length = i := by simp; omega
      have e2 : xs.length - (List.drop (i + 1) xs).length = i + 1 := by simp; omega
      rw [e1, e2]; simp [firstOf, hp]) ()
  simpa using this
theorem firstOf_some {α R : Type} {p : α → Bool} {g : Nat → R} {e : R} : ∀ {i : Nat} {xs : List α}, (∃ j b, xs[j]? = some b ∧ p b = true ∧ firstOf p g e i xs = g (i + j)) ∨ ((∀ b ∈ xs, p b = false) ∧ firstOf p g e i xs = e)
  | i, [] => .inr ⟨by simp, rfl⟩
  | i, x :: xs => by
    cases hp : p x with
    | true => exact .inl ⟨0, x, rfl, hp, by simp [firstOf, hp]⟩
    | false =>
      rcases firstOf_some (p := p) (g := g) (e := e) (i := i + 1) (xs := xs) with ⟨j, b, h1, h2, h3⟩ | ⟨h1, h2⟩
      · exact .inl ⟨j + 1, b, by simpa using h1, h2, by simp only [firstOf, hp]; rw [show i + (j + 1) = i + 1 + j by omega]; exact h3⟩
      · refine .inr ⟨fun b hb => ?_, by simpa [firstOf, hp] using h2⟩
        rcases List.mem_cons.1 hb with rfl | hb
        · exact hp
        · exact h1 b hb
theorem firstOf_map {α R S : Type} {p : α → Bool} {g : Nat → R} {e : R} (h : R → S) : ∀ (i : Nat) (xs : List α), h (firstOf p g e i xs) = firstOf p (fun j => h (g j)) (h e) i xs
  | i, [] => rfl
  | i, x :: xs => by
    simp only [firstOf]
    split
    · rfl
    · exact firstOf_map h (i + 1) xs
theorem pigeon : ∀ (n : Nat) (l : List Nat), l.Nodup → (∀ x ∈ l, x < n) → l.length ≤ n
  | 0, l, _, h => by
    cases l with
    | nil => simp
    | cons a l => exact absurd (h a (by simp)) (by omega)
  | n + 1, l, hd, h => by
    have h1 : (l.erase n).length ≤ n := pigeon n (l.erase n) (hd.erase n) (fun x hx => by
      have h2 := h x (List.mem_of_mem_erase hx)
      have h3 : x ≠ n := fun e => by subst e; exact (List.Nodup.not_mem_erase hd) hx
      omega)
    by_cases hn : n ∈ l
    · rw [List.length_erase_of_mem hn] at h1; omega
    · rw [List.erase_of_not_mem hn] at h1; omega
def isIn (x a b : Int) : Bool := decide (a ≤ x ∧ x ≤ b)
theorem sIn (k : Nat) (x a b : Int) : Fspec_l1In k x a b = some (isIn x a b) := by
  unfold Fspec_l1In isIn
  simp only [Bool.cond_decide]
  split
  all_goals
    refine congrArg some (Bool.eq_iff_iff.mpr ?_)
    simp only [decide_eq_true_eq, Bool.false_eq_true, false_iff]
    omega
theorem iIn (k : Nat) (x a b : Int) : Fimpl_within k x a b = some (isIn x a b) := sIn k x a b
theorem drop_at {α : Type} {l : List α} {j : Nat} {k : α} {ks : List α} (h : l.drop j = k :: ks) : j < l.length ∧ l[j]? = some k ∧ l.drop (j + 1) = ks := by
  have hk : l[j]? = some k := by
    have : (l.drop j)[0]? = some k := by rw [h]; rfl
    rwa [List.getElem?_drop, Nat.add_zero] at this
  exact ⟨(List.getElem?_eq_some_iff.1 hk).1, hk, by rw [← List.drop_drop, h]; rfl⟩
def hasP (l : List Timpl_Pair) (p : Timpl_Pair) : Bool := l.any fun q => q.A == p.A && q.B == p.B
theorem partI {α : Type} {l : List α} {i : Nat} (h : i ≤ l.length) : part? l 0 (i : Int) = some (l.take i) := by
  unfold part?
  rw [if_pos (by omega)]; simp
theorem sHas (l : List Timpl_Pair) (p : Timpl_Pair) (hl : l.length ≤ 1048576) : Ev (fun k => Fspec_l6Has k l p) (hasP l p) := by
  simp only [Fspec_l6Has]
  refine Ev.for (xs := l) (L := fun k (_ : Unit) i => Fspec_l6Has.l2 k l i p.A p.B) (f := fun l _ => hasP l p) (fun _ => by simp only [Fspec_l6Has.l2, ltD0, cond_false]; exact Ev.pure _) (fun i b _ hb hi h => ?_) ()
  simp only [Fspec_l6Has.l2, ltD hi, cond_true, Bool.and_true]
  refine Ev.at? hb ?_
  simp only [hasP, List.any_cons]
  refine Ev.ite (fun hc => ?_) (fun hc => ?_)
  · rw [hc]; exact Ev.pure _
  · rw [hc, wid1 (by omega)]; exact h ()
theorem iHas (l : List Timpl_Pair) (p : Timpl_Pair) (hl : l.length ≤ 1048576) : Ev (fun k => Fslices_Contains_Pair k l p) (hasP l p) := by
  simp only [Fslices_Contains_Pair, Fslices_Index_Pair]
  have : EvP (fun k => Fslices_Index_Pair.l2 k l (l.length : Int) (0 : Int) p.A p.B) (fun r => decide (r ≥ 0) = hasP l p) := by
    have := Ev.find (xs := l) (L := fun k i => Fslices_Index_Pair.l2 k l (l.length : Int) i p.A p.B) (p := fun b => (p.A == b.A) && (p.B == b.B)) (g := fun i => (i : Int)) (e := -1) (by simp only [Fslices_Index_Pair.l2, ltD0, cond_false]; exact Ev.pure _) (fun i b r hb hi h1 h0 => by
      simp only [Fslices_Index_Pair.l2, ltD hi, cond_true, Bool.and_true]
      refine Ev.at? hb (Ev.ite (fun hc => (Ev.pure _).to (h1 hc).symm) (fun hc => ?_))
      rw [wid1 (by omega)]; exact h0 hc)
    refine ⟨_, this, ?_⟩
    rcases firstOf_some (p := fun b : Timpl_Pair => (p.A == b.A) && (p.B == b.B)) (g := fun i => (i : Int)) (e := (-1 : Int)) (i := 0) (xs := l) with ⟨j, b, h1, h2, h3⟩ | ⟨h1, h2⟩
    · rw [h3, decide_eq_true (by omega)]
      symm
      unfold hasP
      rw [List.any_eq_true]
      refine ⟨b, List.mem_of_getElem? h1, ?_⟩
      simp only [Bool.and_eq_true, beq_iff_eq] at h2 ⊢
      exact ⟨h2.1.symm, h2.2.symm⟩
    · rw [h2, decide_eq_false (by omega)]
      symm
      unfold hasP
      rw [List.any_eq_false]
      intro b hb
      have := h1 b hb
      simp only [Bool.and_eq_false_iff, beq_eq_false_iff_ne, ne_eq] at this
      simp only [Bool.and_eq_true, beq_iff_eq, not_and]
      intro e1 e2
      rcases this with h | h
      · exact h e1.symm
      · exact h e2.symm
  obtain ⟨r, h1, h2⟩ := this
  exact Ev.bind h1 ((Ev.pure _).to h2)
def isR (x : Int) : Bool := isIn x 0 2
def linkB (p : Timpl_Pair) : Bool := isR p.A && (isR p.B && p.A != p.B)
def proxB (p : Timpl_Pair) : Bool := isR p.A && isR p.B
def prF (is : Timpl_Pair → Bool) : List Timpl_Pair → List Timpl_Pair → Bool
  | _, [] => true
  | seen, p :: r => is p && (!hasP seen p && prF is (seen ++ [p]) r)
def prOk (is : Timpl_Pair → Bool) (l : List Timpl_Pair) : Bool := decide (l.length ≤ 6) && prF is [] l
theorem isR_iff {x : Int} : isR x = true ↔ 0 ≤ x ∧ x ≤ 2 := by simp [isR, isIn]
theorem sPairs (l : List Timpl_Pair) (u : Bool) (hl : l.length ≤ 1048576) : Ev (fun k => Fspec_l6Pairs k l 3 u) (prOk (if u then linkB else proxB) l) := by
  simp only [Fspec_l6Pairs]
  unfold prOk
  refine Ev.ite (fun hc => ?_) (fun hc => ?_)
  · rw [decide_eq_false (by simp at hc; omega)]; exact Ev.pure _
  rw [decide_eq_true (by simp at hc; omega), Bool.true_and]
  have key : ∀ (g i : Nat), i + g = l.length → Ev (fun k => Fspec_l6Pairs.l7 k l 3 u (i : Int)) (prF (if u then linkB else proxB) (l.take i) (l.drop i)) := by
    intro g
    induction g with
    | zero =>
      intro i hi
      have : i = l.length := by omega
      subst this
      refine Ev.succ ?_
      simp only [Fspec_l6Pairs.l7, ltD0, cond_false, List.drop_length, prF]
      exact Ev.pure _
    | succ g ih =>
      intro i hi
      have hi2 : i < l.length := by omega
      obtain ⟨b, hb⟩ := atLt hi2
      have e : l.drop i = b :: l.drop (i + 1) := by
        obtain ⟨h1, h2⟩ := List.getElem?_eq_some_iff.1 hb
        rw [List.drop_eq_getElem_cons h1, h2]
      refine Ev.succ ?_
      simp only [Fspec_l6Pairs.l7, Fspec_l6Pairs.j8, ltD hi2, cond_true]
      rw [e]
      refine Ev.at? hb ?_
      simp only [prF]
      have hA : isR b.A = (!decide (b.A < 0) && !decide (b.A ≥ 3)) := by
        refine Bool.eq_iff_iff.2 ?_
        rw [isR_iff]; simp; omega
      have hB : isR b.B = (!decide (b.B < 0) && !decide (b.B ≥ 3)) := by
        refine Bool.eq_iff_iff.2 ?_
        rw [isR_iff]; simp; omega
      have hgo : Ev (fun k => (part? l 0 (i : Int)).bind fun b211 => (Fspec_l6Has k b211 b).bind fun r212 => cond r212 (some false) (Fspec_l6Pairs.l7 k l 3 u (IntKind.i64.wrap ((i : Int) + 1)))) (!hasP (l.take i) b && prF (if u then linkB else proxB) (l.take i ++ [b]) (l.drop (i + 1))) := by
        rw [partI (by omega)]
        simp only [Option.bind_some]
        refine Ev.bind (sHas _ _ (by rw [List.length_take]; omega)) (Ev.ite (fun hc => ?_) (fun hc => ?_))
        · rw [hc]; exact Ev.pure _
        · rw [hc, wid1 (by omega), ← take_succ_get hb]; exact ih (i + 1) (by omega)
      cases u with
      | true =>
        simp only [if_true, linkB, hA, hB] at hgo ⊢
        refine Ev.ite (fun hc => ?_) (fun hc => ?_)
        · rw [hc]; exact Ev.pure _
        refine Ev.ite (fun hc2 => ?_) (fun hc2 => ?_)
        · rw [hc, hc2]; exact Ev.pure _
        refine Ev.ite (fun hc3 => ?_) (fun hc3 => ?_)
        · rw [hc, hc2, hc3]; exact Ev.pure _
        refine Ev.ite (fun hc4 => ?_) (fun hc4 => ?_)
        · rw [hc, hc2, hc3, hc4]; exact Ev.pure _
        rw [hc, hc2, hc3, hc4]
        simp only [cond_true, Bool.not_false, Bool.true_and]
        refine Ev.ite (fun hc5 => ?_) (fun hc5 => ?_)
        · rw [show (b.A != b.B) = false by simpa using hc5]; exact Ev.pure _
        · rw [show (b.A != b.B) = true by simpa using hc5, Bool.true_and]; exact hgo
      | false =>
        simp only [Bool.false_eq_true, if_false, proxB, hA, hB] at hgo ⊢
        refine Ev.ite (fun hc => ?_) (fun hc => ?_)
        · rw [hc]; exact Ev.pure _
        refine Ev.ite (fun hc2 => ?_) (fun hc2 => ?_)
        · rw [hc, hc2]; exact Ev.pure _
        refine Ev.ite (fun hc3 => ?_) (fun hc3 => ?_)
        · rw [hc, hc2, hc3]; exact Ev.pure _
        refine Ev.ite (fun hc4 => ?_) (fun hc4 => ?_)
        · rw [hc, hc2, hc3, hc4]; exact Ev.pure _
        rw [hc, hc2, hc3, hc4]
        simp only [cond_false, Bool.not_false, Bool.true_and]
        exact hgo
  simpa using key l.length 0 (by omega)
theorem iPairs1 (l : List Timpl_Pair) (hl : l.length ≤ 1048576) : Ev (fun k => Fimpl_arePairs__impl_ConfigOk_1 k l) (prOk linkB l) := by
  simp only [Fimpl_arePairs__impl_ConfigOk_1]
  unfold prOk
  rw [Bool.and_comm]
  have key : ∀ (g i : Nat), i + g = l.length → Ev (fun k => Fimpl_arePairs__impl_ConfigOk_1.l2 k l (l.length : Int) (i : Int)) (prF linkB (l.take i) (l.drop i) && decide (l.length ≤ 6)) := by
    intro g
    induction g with
    | zero =>
      intro i hi
      have : i = l.length := by omega
      subst this
      refine Ev.succ ?_
      simp only [Fimpl_arePairs__impl_ConfigOk_1.l2, ltD0, cond_false, List.drop_length, prF, Bool.true_and]
      refine (Ev.pure _).to (Bool.eq_iff_iff.2 ?_)
      simp; omega
    | succ g ih =>
      intro i hi
      have hi2 : i < l.length := by omega
      obtain ⟨b, hb⟩ := atLt hi2
      have e : l.drop i = b :: l.drop (i + 1) := by
        obtain ⟨h1, h2⟩ := List.getElem?_eq_some_iff.1 hb
        rw [List.drop_eq_getElem_cons h1, h2]
      refine Ev.succ ?_
      simp only [Fimpl_arePairs__impl_ConfigOk_1.l2, ltD hi2, cond_true]
      rw [e]
      refine Ev.at? hb ?_
      simp only [prF]
      have hb1 : Ev (fun k => Fimpl_ConfigOk_1 k b) (linkB b) := by
        simp only [Fimpl_ConfigOk_1, Fimpl_isRealm, iIn, Option.bind_some]
        unfold linkB isR
        refine Ev.ite (fun hc => ?_) (fun hc => ?_)
        · rw [hc, Bool.true_and]
          refine Ev.ite (fun hc => ?_) (fun hc => ?_)
          · rw [hc]; exact Ev.pure _
          · rw [hc]; exact Ev.pure _
        · rw [hc]; exact Ev.pure _
      refine Ev.bind hb1 (Ev.ite (fun hc => ?_) (fun hc => ?_))
      · rw [show linkB b = false by simpa using hc]; exact Ev.pure _
      rw [show linkB b = true by simpa using hc, Bool.true_and, partI (by omega)]
      simp only [Option.bind_some]
      refine Ev.bind (iHas _ _ (by rw [List.length_take]; omega)) (Ev.ite (fun hc => ?_) (fun hc => ?_))
      · rw [hc]; exact Ev.pure _
      · rw [hc, wid1 (by omega), ← take_succ_get hb, Bool.not_false, Bool.true_and]; exact ih (i + 1) (by omega)
  simpa using key l.length 0 (by omega)
theorem iPairs2 (l : List Timpl_Pair) (hl : l.length ≤ 1048576) : Ev (fun k => Fimpl_arePairs__impl_ConfigOk_2 k l) (prOk proxB l) := by
  simp only [Fimpl_arePairs__impl_ConfigOk_2]
  unfold prOk
  rw [Bool.and_comm]
  have key : ∀ (g i : Nat), i + g = l.length → Ev (fun k => Fimpl_arePairs__impl_ConfigOk_2.l2 k l (l.length : Int) (i : Int)) (prF proxB (l.take i) (l.drop i) && decide (l.length ≤ 6)) := by
    intro g
    induction g with
    | zero =>
      intro i hi
      have : i = l.length := by omega
      subst this
      refine Ev.succ ?_
      simp only [Fimpl_arePairs__impl_ConfigOk_2.l2, ltD0, cond_false, List.drop_length, prF, Bool.true_and]
      refine (Ev.pure _).to (Bool.eq_iff_iff.2 ?_)
      simp; omega
    | succ g ih =>
      intro i hi
      have hi2 : i < l.length := by omega
      obtain ⟨b, hb⟩ := atLt hi2
      have e : l.drop i = b :: l.drop (i + 1) := by
        obtain ⟨h1, h2⟩ := List.getElem?_eq_some_iff.1 hb
        rw [List.drop_eq_getElem_cons h1, h2]
      refine Ev.succ ?_
      simp only [Fimpl_arePairs__impl_ConfigOk_2.l2, ltD hi2, cond_true]
      rw [e]
      refine Ev.at? hb ?_
      simp only [prF]
      have hb1 : Ev (fun k => Fimpl_ConfigOk_2 k b) (proxB b) := by
        simp only [Fimpl_ConfigOk_2, Fimpl_isService, iIn, Option.bind_some]
        unfold proxB isR
        refine Ev.ite (fun hc => ?_) (fun hc => ?_)
        · rw [hc, Bool.true_and]; exact Ev.pure _
        · rw [hc]; exact Ev.pure _
      refine Ev.bind hb1 (Ev.ite (fun hc => ?_) (fun hc => ?_))
      · rw [show proxB b = false by simpa using hc]; exact Ev.pure _
      rw [show proxB b = true by simpa using hc, Bool.true_and, partI (by omega)]
      simp only [Option.bind_some]
      refine Ev.bind (iHas _ _ (by rw [List.length_take]; omega)) (Ev.ite (fun hc => ?_) (fun hc => ?_))
      · rw [hc]; exact Ev.pure _
      · rw [hc, wid1 (by omega), ← take_succ_get hb, Bool.not_false, Bool.true_and]; exact ih (i + 1) (by omega)
  simpa using key l.length 0 (by omega)
def CfgSm (c : Timpl_Config) : Prop := c.UserRealm.length ≤ 1048576 ∧ c.ServiceRealm.length ≤ 1048576 ∧ c.Links.length ≤ 1048576 ∧ c.Proxy.length ≤ 1048576
theorem sAll (l : List Int) (hl : l.length = 3) : Ev (fun k => Fspec_l5All k l 3 3) (l.all isR) := by
  simp only [Fspec_l5All]
  rw [decide_eq_false (by omega)]
  simp only [cond_false]
  refine Ev.for (xs := l) (L := fun k (_ : Unit) i => Fspec_l5All.l2 k l 3 i) (f := fun l _ => l.all isR) (fun _ => by simp only [Fspec_l5All.l2, ltD0, cond_false]; exact Ev.pure _) (fun i b _ hb hi h => ?_) ()
  simp only [Fspec_l5All.l2, ltD hi, cond_true, List.all_cons]
  have hA : isR b = (!decide (b < 0) && !decide (b ≥ 3)) := by
    refine Bool.eq_iff_iff.2 ?_
    rw [isR_iff]; simp; omega
  rw [hA]
  refine Ev.at? hb (Ev.ite (fun hc => ?_) (fun hc => Ev.at? hb (Ev.ite (fun hc2 => ?_) (fun hc2 => ?_))))
  · rw [hc]; exact Ev.pure _
  · rw [hc, hc2]; exact Ev.pure _
  · rw [hc, hc2, wid1 (by omega)]; exact h ()
theorem iAll (l : List Int) (hl : l.length = 3) : Ev (fun k => Fimpl_areAll__impl_isRealm k l 3) (l.all isR) := by
  simp only [Fimpl_areAll__impl_isRealm]
  refine Ev.for (xs := l) (L := fun k (_ : Unit) i => Fimpl_areAll__impl_isRealm.l2 k l 3 (l.length : Int) i) (f := fun l _ => l.all isR) (fun _ => by simp only [Fimpl_areAll__impl_isRealm.l2, ltD0, cond_false]; rw [decide_eq_true (by omega)]; exact Ev.pure _) (fun i b _ hb hi h => ?_) ()
  simp only [Fimpl_areAll__impl_isRealm.l2, ltD hi, cond_true, Fimpl_isRealm, iIn, Option.bind_some, List.all_cons]
  refine Ev.at? hb (Ev.ite (fun hc => ?_) (fun hc => ?_))
  · rw [show isR b = false by simpa [isR] using hc]; exact Ev.pure _
  · rw [show isR b = true by simpa [isR] using hc, wid1 (by omega)]; exact h ()
def cfgOk (c : Timpl_Config) : Bool := decide (c.UserRealm.length = 3) && (c.UserRealm.all isR && (decide (c.ServiceRealm.length = 3) && (c.ServiceRealm.all isR && (prOk linkB c.Links && (prOk proxB c.Proxy && isIn c.Skew 0 20)))))
theorem beq3 (n : Nat) : (((n : Int) == 3) = decide (n = 3)) := by
  refine Bool.eq_iff_iff.2 ?_
  simp; omega
theorem sConfigOk {c : Timpl_Config} (h : CfgSm c) : Ev (fun k => Fspec_ConfigOk k c) (cfgOk c) := by
  obtain ⟨h1, h2, h3, h4⟩ := h
  simp only [Fspec_ConfigOk, sIn, Option.bind_some, beq3]
  unfold cfgOk
  refine Ev.ite (fun hc => ?_) (fun hc => by rw [hc]; exact Ev.pure _)
  rw [hc, Bool.true_and]
  refine Ev.bind (sAll _ (of_decide_eq_true hc)) (Ev.ite (fun hc => ?_) (fun hc => by rw [hc]; exact Ev.pure _))
  rw [hc, Bool.true_and]
  refine Ev.ite (fun hc => ?_) (fun hc => by rw [hc]; exact Ev.pure _)
  rw [hc, Bool.true_and]
  refine Ev.bind (sAll _ (of_decide_eq_true hc)) (Ev.ite (fun hc => ?_) (fun hc => by rw [hc]; exact Ev.pure _))
  rw [hc, Bool.true_and]
  refine Ev.bind (sPairs _ true h3) (Ev.ite (fun hc => ?_) (fun hc => ?_))
  · rw [show prOk linkB c.Links = true from hc, Bool.true_and]
    refine Ev.bind (sPairs _ false h4) (Ev.ite (fun hc => ?_) (fun hc => ?_))
    · rw [show prOk proxB c.Proxy = true from hc, Bool.true_and]; exact Ev.pure _
    · rw [show prOk proxB c.Proxy = false from hc]; exact Ev.pure _
  · rw [show prOk linkB c.Links = false from hc]; exact Ev.pure _
theorem iConfigOk {c : Timpl_Config} (h : CfgSm c) : Ev (fun k => Fimpl_ConfigOk k c) (cfgOk c) := by
  obtain ⟨h1, h2, h3, h4⟩ := h
  simp only [Fimpl_ConfigOk, iIn, Option.bind_some, beq3]
  refine Ev.bind (iPairs1 _ h3) (Ev.bind (iPairs2 _ h4) ?_)
  unfold cfgOk
  refine Ev.ite (fun ha => Ev.ite (fun hb => ?_) (fun hb => ?_)) (fun ha => ?_)
  · rw [ha, hb, Bool.true_and, Bool.true_and]
    refine Ev.ite (fun hc => ?_) (fun hc => by rw [hc]; exact Ev.pure _)
    rw [hc, Bool.true_and]
    refine Ev.bind (iAll _ (of_decide_eq_true hc)) (Ev.ite (fun hc => ?_) (fun hc => by rw [hc]; exact Ev.pure _))
    rw [hc, Bool.true_and]
    refine Ev.ite (fun hc => ?_) (fun hc => by rw [hc]; exact Ev.pure _)
    rw [hc, Bool.true_and]
    refine Ev.bind (iAll _ (of_decide_eq_true hc)) (Ev.ite (fun hc => ?_) (fun hc => by rw [hc]; exact Ev.pure _))
    rw [hc, Bool.true_and]
    exact Ev.pure _
  · rw [hb]; simp only [Bool.false_and, Bool.and_false]; exact Ev.pure _
  · rw [ha]; simp only [Bool.false_and, Bool.and_false]; exact Ev.pure _
def prin (p : Int) : Bool := isIn p 0 5
theorem sPrin (k : Nat) (p : Int) : Fspec_l5Principal k p = some (prin p) := by
  unfold Fspec_l5Principal prin isIn
  simp only [Bool.cond_decide]
  split
  all_goals
    refine congrArg some (Bool.eq_iff_iff.mpr ?_)
    simp only [decide_eq_true_eq, Bool.false_eq_true, false_iff]
    omega
theorem sRealm (k : Nat) (p : Int) : Fspec_l6Realm k p = some (isR p) := by
  unfold Fspec_l6Realm isR isIn
  simp only [Bool.cond_decide]
  split
  all_goals
    refine congrArg some (Bool.eq_iff_iff.mpr ?_)
    simp only [decide_eq_true_eq, Bool.false_eq_true, false_iff]
    omega
abbrev SS (l : List Int) : Prop := l.Pairwise (· < ·)
theorem ss_ext : ∀ {a b : List Int}, SS a → SS b → (∀ x, x ∈ a ↔ x ∈ b) → a = b
  | [], [], _, _, _ => rfl
  | [], y :: b, _, _, h => by have := (h y).2 List.mem_cons_self; cases this
  | x :: a, [], _, _, h => by have := (h x).1 List.mem_cons_self; cases this
  | x :: a, y :: b, ha, hb, h => by
    have ha' := List.pairwise_cons.1 ha
    have hb' := List.pairwise_cons.1 hb
    have e : x = y := by
      have h1 := (h x).1 List.mem_cons_self
      have h2 := (h y).2 List.mem_cons_self
      rcases List.mem_cons.1 h1 with e | h1
      · exact e
      · rcases List.mem_cons.1 h2 with e | h2
        · exact e.symm
        · have := ha'.1 y h2; have := hb'.1 x h1; omega
    subst e
    rw [ss_ext ha'.2 hb'.2 fun z => ?_]
    constructor
    · intro hz
      rcases List.mem_cons.1 ((h z).1 (List.mem_cons_of_mem _ hz)) with e | h1
      · subst e; have := ha'.1 z hz; omega
      · exact h1
    · intro hz
      rcases List.mem_cons.1 ((h z).2 (List.mem_cons_of_mem _ hz)) with e | h1
      · subst e; have := hb'.1 z hz; omega
      · exact h1
def putI (x : Int) : List Int → List Int
  | [] => [x]
  | y :: l => if x < y then x :: y :: l else if x = y then y :: l else y :: putI x l
theorem mem_putI {x z : Int} : ∀ {l : List Int}, z ∈ putI x l ↔ z = x ∨ z ∈ l
  | [] => by simp [putI]
  | y :: l => by
    simp only [putI]
    split
    · simp
    · split
      · rename_i e; subst e; simp
      · simp only [List.mem_cons, mem_putI (l := l)]
        constructor
        · rintro (h | h | h)
          · exact .inr (.inl h)
          · exact .inl h
          · exact .inr (.inr h)
        · rintro (h | h | h)
          · exact .inr (.inl h)
          · exact .inl h
          · exact .inr (.inr h)
theorem ss_putI {x : Int} : ∀ {l : List Int}, SS l → SS (putI x l)
  | [], _ => by simp [putI]
  | y :: l, h => by
    have h' := List.pairwise_cons.1 h
    simp only [putI]
    split
    · rename_i hx
      refine List.pairwise_cons.2 ⟨fun z hz => ?_, h⟩
      rcases List.mem_cons.1 hz with rfl | hz
      · exact hx
      · have := h'.1 z hz; omega
    · split
      · exact h
      · refine List.pairwise_cons.2 ⟨fun z hz => ?_, ss_putI h'.2⟩
        rcases mem_putI.1 hz with rfl | hz
        · omega
        · exact h'.1 z hz
theorem putI_len (x : Int) : ∀ (l : List Int), (putI x l).length ≤ l.length + 1
  | [] => by simp [putI]
  | y :: l => by
    simp only [putI]
    have := putI_len x l
    split
    · simp
    · split
      · simp
      · simp; omega
def putsI (l : List Int) (s : List Int) : List Int := l.foldl (fun s x => putI x s) s
theorem ss_putsI : ∀ {l s : List Int}, SS s → SS (putsI l s)
  | [], _, h => h
  | _ :: l, _, h => ss_putsI (l := l) (ss_putI h)
theorem mem_putsI {z : Int} : ∀ {l s : List Int}, z ∈ putsI l s ↔ z ∈ l ∨ z ∈ s
  | [], s => by simp [putsI]
  | x :: l, s => by
    show z ∈ putsI l (putI x s) ↔ _
    rw [mem_putsI, mem_putI, List.mem_cons]
    constructor
    · rintro (h | h | h)
      · exact .inl (.inr h)
      · exact .inl (.inl h)
      · exact .inr h
    · rintro ((h | h) | h)
      · exact .inr (.inl h)
      · exact .inl h
      · exact .inr (.inr h)
theorem putsI_len : ∀ (l s : List Int), (putsI l s).length ≤ l.length + s.length
  | [], s => by simp [putsI]
  | x :: l, s => by
    show (putsI l (putI x s)).length ≤ _
    have := putsI_len l (putI x s)
    have := putI_len x s
    simp; omega
def rsn (l : List Int) : List Int := Go.Lib.compact (l.mergeSort fun x y => decide (x ≤ y))
theorem cpt_mem {l : List Int} {x : Int} : x ∈ Go.Lib.compact l ↔ x ∈ l := by
  unfold Go.Lib.compact Go.Lib.compactUpTo
  simp only [List.mem_map, List.mem_filter, List.mem_range]
  constructor
  · rintro ⟨j, ⟨hj, _⟩, rfl⟩
    simp [hj]
  · intro h
    obtain ⟨j, hj, rfl⟩ := List.mem_iff_getElem.1 h
    have key : ∀ j (hj : j < l.length), ∃ a, (a < l.length ∧ Go.Lib.keeps l.toArray a = true) ∧ l.toArray[a]! = l[j] := by
      intro j
      induction j with
      | zero => intro hj; exact ⟨0, ⟨hj, by simp [Go.Lib.keeps]⟩, by simp [hj]⟩
      | succ j ih =>
        intro hj
        by_cases hk : Go.Lib.keeps l.toArray (j + 1) = true
        · exact ⟨j + 1, ⟨hj, hk⟩, by simp [hj]⟩
        · obtain ⟨a, ha, e⟩ := ih (by omega)
          refine ⟨a, ha, e.trans ?_⟩
          simp only [Go.Lib.keeps, decide_eq_true_eq, not_or, Nat.add_sub_cancel, ne_eq, Classical.not_not] at hk
          have := hk.2
          simp [hj, show j < l.length by omega] at this
          exact this.symm
    exact key j hj
theorem cpt_ss {l : List Int} (h : l.Pairwise (· ≤ ·)) : SS (Go.Lib.compact l) := by
  unfold Go.Lib.compact Go.Lib.compactUpTo
  rw [SS, List.pairwise_map]
  have h1 : ((List.range l.length).filter (Go.Lib.keeps l.toArray)).Pairwise (· < ·) := List.Pairwise.sublist List.filter_sublist List.pairwise_lt_range
  refine List.Pairwise.imp_of_mem ?_ h1
  intro a b ha hb hab
  simp only [List.mem_filter, List.mem_range] at ha hb
  obtain ⟨hb1, hb2⟩ := hb
  simp only [Go.Lib.keeps, decide_eq_true_eq] at hb2
  have hb3 := hb2.resolve_left (by omega)
  have le : ∀ (i j : Nat) (hi : i < l.length) (hj : j < l.length), i ≤ j → l[i] ≤ l[j] := fun i j hi hj hij => by
    by_cases e : i = j
    · subst e; exact Int.le_refl _
    · exact List.pairwise_iff_getElem.1 h i j hi hj (by omega)
  have h2 := le a (b - 1) ha.1 (by omega) (by omega)
  have h3 := le (b - 1) b (by omega) hb1 (by omega)
  simp [ha.1, hb1, show b - 1 < l.length by omega] at hb3 ⊢
  omega
theorem rsn_ss (l : List Int) : SS (rsn l) := by
  refine cpt_ss ?_
  have := List.pairwise_mergeSort (le := fun x y : Int => decide (x ≤ y)) (fun a b c h1 h2 => by simp at h1 h2 ⊢; omega) (fun a b => by simp; omega) l
  simpa using this
theorem rsn_mem {l : List Int} {x : Int} : x ∈ rsn l ↔ x ∈ l := by
  unfold rsn
  rw [cpt_mem, List.mem_mergeSort]
/-- What is put in one by one is what is sorted at the end. -/
theorem rsn_puts (l : List Int) : rsn l = putsI l [] := ss_ext (rsn_ss l) (ss_putsI List.Pairwise.nil) fun x => by rw [rsn_mem, mem_putsI]; simp
theorem iRisen (l : List Int) (h : l.length ≤ 1099511627776) : Ev (fun k => Fimpl_risen k l) (rsn l) := by
  simp only [Fimpl_risen, Fslices_Sort_int, Fslices_Compact_int]
  rw [decide_eq_true (by omega)]
  simp only [cond_true, Option.bind_some]
  rw [decide_eq_true (by rw [List.length_mergeSort]; omega)]
  exact Ev.pure _
theorem sHasI (l : List Int) (x : Int) (hl : l.length ≤ 1099511627776) : Ev (fun k => Fspec_l3Has k l x) (decide (x ∈ l)) := by
  simp only [Fspec_l3Has]
  refine Ev.for (xs := l) (L := fun k (_ : Unit) i => Fspec_l3Has.l2 k l x i) (f := fun l _ => decide (x ∈ l)) (fun _ => by simp only [Fspec_l3Has.l2, ltD0, cond_false]; exact Ev.pure _) (fun i b _ hb hi h => ?_) ()
  simp only [Fspec_l3Has.l2, ltD hi, cond_true]
  refine Ev.at? hb (Ev.ite (fun hc => ?_) (fun hc => ?_))
  · have : b = x := by simpa using hc
    rw [decide_eq_true (by rw [this]; exact List.mem_cons_self)]; exact Ev.pure _
  · have hne : ¬ b = x := by simpa using hc
    rw [wid1 (by omega)]
    refine (h ()).to ?_
    refine Bool.eq_iff_iff.2 ?_
    simp only [decide_eq_true_eq, List.mem_cons]
    exact ⟨.inr, fun h => h.resolve_left fun e => hne e.symm⟩
theorem putI_in {x : Int} : ∀ {l : List Int}, SS l → x ∈ l → putI x l = l
  | y :: l, h, hx => by
    have h' := List.pairwise_cons.1 h
    simp only [putI]
    rcases List.mem_cons.1 hx with rfl | hx
    · rw [if_neg (by omega), if_pos rfl]
    · have := h'.1 x hx
      rw [if_neg (by omega), if_neg (by omega), putI_in h'.2 hx]
theorem sPutT {l : List Int} {x : Int} (hl : l.length ≤ 1099511627776) : ∀ (r : List Int) (i : Nat) (out : List Int), l.drop i = r → i ≤ l.length → out.length ≤ i + 1 → Ev (fun k => Fspec_l3Put.l24 k l x out true (i : Int)) (out ++ r) := by
  intro r
  induction r with
  | nil =>
    intro i out hd hi ho
    have : l.length ≤ i := by simpa using hd
    refine Ev.succ ?_
    simp only [Fspec_l3Put.l24]
    rw [decide_eq_false (by omega), List.append_nil]
    exact Ev.pure _
  | cons y r ih =>
    intro i out hd hi ho
    obtain ⟨h1, h2, h3⟩ := drop_at hd
    refine Ev.succ ?_
    simp only [Fspec_l3Put.l24, Fspec_l3Put.j30, Fspec_l3Put.j29]
    rw [decide_eq_true (by omega)]
    simp only [cond_true, Bool.not_true, cond_false]
    refine Ev.at? h2 ?_
    rw [decide_eq_true (by simp only [List.length_cons, List.length_nil]; omega), wid1 (by omega)]
    simp only [cond_true]
    have := ih (i + 1) (out ++ [y]) h3 (by omega) (by simp only [List.length_append, List.length_cons, List.length_nil]; omega)
    rwa [List.append_assoc] at this
theorem sPutF {l : List Int} {x : Int} (hl : l.length ≤ 1099511627776) : ∀ (r : List Int) (i : Nat) (out : List Int), l.drop i = r → x ∉ r → i ≤ l.length → out.length ≤ i → Ev (fun k => Fspec_l3Put.l24 k l x out false (i : Int)) (out ++ putI x r) := by
  intro r
  induction r with
  | nil =>
    intro i out hd _ hi ho
    have : l.length ≤ i := by simpa using hd
    refine Ev.succ ?_
    simp only [Fspec_l3Put.l24]
    rw [decide_eq_false (by omega)]
    simp only [cond_false, Bool.not_false, cond_true]
    rw [decide_eq_true (by simp only [List.length_cons, List.length_nil]; omega)]
    exact Ev.pure _
  | cons y r ih =>
    intro i out hd hx hi ho
    obtain ⟨h1, h2, h3⟩ := drop_at hd
    have hxy : x ≠ y := fun e => hx (e ▸ List.mem_cons_self)
    have hxr : x ∉ r := fun h => hx (List.mem_cons_of_mem _ h)
    refine Ev.succ ?_
    simp only [Fspec_l3Put.l24, Fspec_l3Put.j30, Fspec_l3Put.j29]
    rw [decide_eq_true (by omega)]
    simp only [cond_true, Bool.not_false]
    refine Ev.at? h2 ?_
    simp only [putI]
    refine Ev.ite (fun hc => ?_) (fun hc => ?_)
    · rw [if_pos (of_decide_eq_true hc), decide_eq_true (by simp only [List.length_cons, List.length_nil]; omega)]
      simp only [cond_true]
      refine Ev.at? h2 ?_
      rw [decide_eq_true (by simp only [List.length_append, List.length_cons, List.length_nil]; omega), wid1 (by omega)]
      simp only [cond_true]
      have := sPutT (x := x) hl r (i + 1) (out ++ [x] ++ [y]) h3 (by omega) (by simp only [List.length_append, List.length_cons, List.length_nil]; omega)
      simpa [List.append_assoc] using this
    · rw [if_neg (of_decide_eq_false hc), if_neg hxy]
      refine Ev.at? h2 ?_
      rw [decide_eq_true (by simp only [List.length_cons, List.length_nil]; omega), wid1 (by omega)]
      simp only [cond_true]
      have := ih (i + 1) (out ++ [y]) h3 hxr (by omega) (by simp only [List.length_append, List.length_cons, List.length_nil]; omega)
      rwa [List.append_assoc] at this
theorem sPut {l : List Int} (x : Int) (hl : l.length ≤ 1099511627776) (hs : SS l) : Ev (fun k => Fspec_l3Put k l x) (putI x l) := by
  simp only [Fspec_l3Put]
  refine Ev.bind (sHasI l x hl) (Ev.ite (fun hc => ?_) (fun hc => ?_))
  · rw [putI_in hs (of_decide_eq_true hc)]; exact Ev.pure _
  · exact sPutF hl l 0 [] rfl (of_decide_eq_false hc) (by omega) (by simp)
def fi (l : List Timpl_Event) (x : Int) : Int := firstOf (fun e => e.Key == x) (fun i => (i : Int)) (-1) 0 l
theorem sFind (l : List Timpl_Event) (x : Int) (hl : l.length ≤ 1048576) : Ev (fun k => Fspec_Find k l x) (fi l x) := by
  simp only [Fspec_Find]
  refine Ev.find (xs := l) (L := fun k i => Fspec_Find.l2 k l x i) (by simp only [Fspec_Find.l2, ltD0, cond_false]; exact Ev.pure _) (fun i b r hb hi h1 h0 => ?_)
  simp only [Fspec_Find.l2, ltD hi, cond_true]
  refine Ev.at? hb (Ev.ite (fun hc => (Ev.pure _).to (h1 hc).symm) (fun hc => ?_))
  rw [wid1 (by omega)]; exact h0 hc
theorem iFind (l : List Timpl_Event) (x : Int) (hl : l.length ≤ 1048576) : Ev (fun k => Fimpl_Find k l x) (fi l x) := by
  simp only [Fimpl_Find, Fslices_IndexFunc_Event__impl_Find_1]
  have : Ev (fun k => Fslices_IndexFunc_Event__impl_Find_1.l2 k l (l.length : Int) (0 : Int) x) (firstOf (fun e => e.Key == x) (fun i => ((i : Int), x)) (-1, x) 0 l) := by
    refine Ev.find (xs := l) (L := fun k i => Fslices_IndexFunc_Event__impl_Find_1.l2 k l (l.length : Int) i x) (by simp only [Fslices_IndexFunc_Event__impl_Find_1.l2, ltD0, cond_false]; exact Ev.pure _) (fun i b r hb hi h1 h0 => ?_)
    simp only [Fslices_IndexFunc_Event__impl_Find_1.l2, ltD hi, cond_true, Fimpl_Find_1, Option.bind_some]
    refine Ev.at? hb (Ev.ite (fun hc => (Ev.pure _).to (h1 hc).symm) (fun hc => ?_))
    rw [wid1 (by omega)]; exact h0 hc
  refine Ev.bind this ?_
  refine (Ev.pure _).to ?_
  rw [firstOf_map (fun r : Int × Int => r.1)]; rfl
theorem fi_cases (l : List Timpl_Event) (x : Int) : (∃ (i : Nat) (e : Timpl_Event), fi l x = i ∧ l[i]? = some e ∧ e.Key = x) ∨ fi l x = -1 := by
  rcases firstOf_some (p := fun e : Timpl_Event => e.Key == x) (g := fun i => (i : Int)) (e := (-1 : Int)) (i := 0) (xs := l) with ⟨j, b, h1, h2, h3⟩ | ⟨_, h2⟩
  · exact .inl ⟨j, b, by unfold fi; rw [h3]; simp, h1, by simpa using h2⟩
  · exact .inr h2
inductive RPath (l : List Timpl_Event) : Int → List Nat → Prop where
  | last {x : Int} {i : Nat} {e : Timpl_Event} (h : fi l x = i) (he : l[i]? = some e) (hk : e.Kind = 1) : RPath l x [i]
  | step {x y : Int} {i : Nat} {e : Timpl_Event} {p : List Nat} (h : fi l x = i) (he : l[i]? = some e) (hk : e.Kind ≠ 1) (hy : e.Parent = y) (hp : RPath l y p) : RPath l x (i :: p)
theorem RPath.key {l : List Timpl_Event} {x : Int} {i : Nat} {p : List Nat} (h : RPath l x (i :: p)) : fi l x = i ∧ ∃ e, l[i]? = some e ∧ e.Key = x := by
  have : fi l x = i := by cases h <;> assumption
  refine ⟨this, ?_⟩
  rcases fi_cases l x with ⟨j, e, h1, h2, h3⟩ | h1
  · rw [this] at h1
    have : i = j := by omega
    subst this
    exact ⟨e, h2, h3⟩
  · rw [this] at h1; omega
theorem RPath.det {l : List Timpl_Event} : ∀ {p q : List Nat} {x : Int}, RPath l x p → RPath l x q → p = q := by
  intro p q x h
  induction h generalizing q with
  | last h he hk =>
    intro h'
    cases h' with
    | last h2 he2 hk2 => rw [h] at h2; congr 1; omega
    | step h2 he2 hk2 _ _ =>
      rw [h] at h2
      have := Int.ofNat.inj h2; subst this
      rw [he] at he2; cases he2; exact absurd hk hk2
  | step h he hk hy hp ih =>
    intro h'
    cases h' with
    | last h2 he2 hk2 =>
      rw [h] at h2
      have := Int.ofNat.inj h2; subst this
      rw [he] at he2; cases he2; exact absurd hk2 hk
    | step h2 he2 hk2 hy2 hp2 =>
      rw [h] at h2
      have := Int.ofNat.inj h2; subst this
      rw [he] at he2; cases he2
      rw [hy] at hy2; cases hy2
      rw [ih hp2]
theorem RPath.tail {l : List Timpl_Event} : ∀ {p : List Nat} {x : Int} {i : Nat}, RPath l x p → i ∈ p → ∃ z a b, p = a ++ i :: b ∧ RPath l z (i :: b) := by
  intro p x i h
  induction h with
  | last h he hk =>
    intro hi
    have := List.mem_singleton.1 hi
    subst this
    exact ⟨_, [], [], rfl, .last h he hk⟩
  | step h he hk hy hp ih =>
    intro hi
    rcases List.mem_cons.1 hi with rfl | hi
    · exact ⟨_, [], _, rfl, .step h he hk hy hp⟩
    · obtain ⟨z, a, b, h1, h2⟩ := ih hi
      exact ⟨z, _ :: a, b, by rw [h1]; rfl, h2⟩
theorem RPath.nodup {l : List Timpl_Event} : ∀ {p : List Nat} {x : Int}, RPath l x p → p.Nodup := by
  intro p x h
  induction h with
  | last h he hk => simp
  | step h he hk hy hp ih =>
    rename_i x y i e p
    refine List.nodup_cons.2 ⟨fun hi => ?_, ih⟩
    obtain ⟨z, a, b, h1, h2⟩ := hp.tail hi
    have hx := (RPath.step h he hk hy hp).key.2
    obtain ⟨e1, h3, h4⟩ := hx
    obtain ⟨e2, h5, h6⟩ := h2.key.2
    rw [h3] at h5; cases h5
    have hzx : z = x := by rw [← h6, h4]
    subst hzx
    have := h2.det (RPath.step h he hk hy hp)
    have e3 := congrArg List.length h1
    simp only [List.cons.injEq, true_and] at this
    rw [this] at e3
    simp at e3
    omega
theorem RPath.lt {l : List Timpl_Event} : ∀ {p : List Nat} {x : Int}, RPath l x p → ∀ i ∈ p, i < l.length := by
  intro p x h i hi
  obtain ⟨z, a, b, _, h2⟩ := h.tail hi
  obtain ⟨e, h3, _⟩ := h2.key.2
  exact (List.getElem?_eq_some_iff.1 h3).1
def pk (p : Int) : Int := if prin p = true then (if p < 3 then 1 + p else 8 + p) else 0
def ck (r : Int) : Int := if isR r = true then 21 + r else 0
def lk (a b : Int) : Int := if isR a = true ∧ isR b = true then 31 + 3 * a + b else 0
theorem prin_iff {p : Int} : prin p = true ↔ 0 ≤ p ∧ p ≤ 5 := by simp [prin, isIn]
theorem sPK (k : Nat) (p : Int) : Fspec_PrincipalKey k p = some (pk p) := by
  simp only [Fspec_PrincipalKey, sPrin, Option.bind_some]
  unfold pk
  by_cases h : prin p = true
  · have := prin_iff.1 h
    rw [h, if_pos rfl]
    by_cases h3 : p < 3
    · rw [decide_eq_true h3, if_pos h3, wid (by omega) (by omega)]; rfl
    · rw [decide_eq_false h3, if_neg h3, wid (n := 11 + p) (by omega) (by omega), wid (n := 11 + p - 3) (by omega) (by omega)]
      simp only [Bool.not_true, cond_false]
      congr 1; omega
  · rw [if_neg h, show prin p = false by simpa using h]; rfl
theorem iPK (k : Nat) (p : Int) : Fimpl_PrincipalKey k p = some (pk p) := by
  simp only [Fimpl_PrincipalKey, Fimpl_isPrincipal, iIn, Option.bind_some]
  unfold pk
  by_cases h : prin p = true
  · have := prin_iff.1 h
    rw [if_pos h, show isIn p 0 5 = true from h]
    by_cases h3 : p < 3
    · rw [show isIn p 0 2 = true by simp [isIn]; omega, if_pos h3, wid (by omega) (by omega)]; rfl
    · rw [show isIn p 0 2 = false by simp [isIn]; omega, if_neg h3, wid (n := 11 + p) (by omega) (by omega), wid (n := 11 + p - 3) (by omega) (by omega)]
      simp only [cond_true, cond_false]
      congr 1; omega
  · rw [if_neg h, show isIn p 0 5 = false by simpa [prin] using h, show isIn p 0 2 = false by rw [prin_iff] at h; simp [isIn]; omega]; rfl
theorem sCK (k : Nat) (r : Int) : Fspec_CentreKey k r = some (ck r) := by
  simp only [Fspec_CentreKey, sRealm, Option.bind_some]
  unfold ck
  by_cases h : isR r = true
  · have := isR_iff.1 h
    rw [h, if_pos rfl, wid (by omega) (by omega)]; rfl
  · rw [if_neg h, show isR r = false by simpa using h]; rfl
theorem iCK (k : Nat) (r : Int) : Fimpl_CentreKey k r = some (ck r) := by
  simp only [Fimpl_CentreKey, Fimpl_isRealm, iIn, Option.bind_some]
  unfold ck
  by_cases h : isR r = true
  · have := isR_iff.1 h
    rw [if_pos h, show isIn r 0 2 = true from h, wid (by omega) (by omega)]; rfl
  · rw [if_neg h, show isIn r 0 2 = false by simpa [isR] using h]; rfl
theorem lkE {a b : Int} (ha : isR a = true) (hb : isR b = true) : IntKind.i64.wrap (IntKind.i64.wrap (31 + IntKind.i64.wrap (3 * a)) + b) = 31 + 3 * a + b := by
  have := isR_iff.1 ha
  have := isR_iff.1 hb
  rw [wid (n := 3 * a) (by omega) (by omega), wid (n := 31 + 3 * a) (by omega) (by omega), wid (by omega) (by omega)]
theorem sLK (k : Nat) (a b : Int) : Fspec_LinkKey k a b = some (lk a b) := by
  simp only [Fspec_LinkKey, sRealm, Option.bind_some]
  unfold lk
  by_cases ha : isR a = true
  · by_cases hb : isR b = true
    · rw [if_pos ⟨ha, hb⟩, ha, hb, lkE ha hb]; rfl
    · rw [if_neg fun h => hb h.2, ha, show isR b = false by simpa using hb]; rfl
  · rw [if_neg fun h => ha h.1, show isR a = false by simpa using ha]; rfl
theorem iLK (k : Nat) (a b : Int) : Fimpl_LinkKey k a b = some (lk a b) := by
  simp only [Fimpl_LinkKey, Fimpl_isRealm, iIn, Option.bind_some]
  unfold lk
  by_cases ha : isR a = true
  · by_cases hb : isR b = true
    · rw [if_pos ⟨ha, hb⟩, show isIn a 0 2 = true from ha, show isIn b 0 2 = true from hb, lkE ha hb]; rfl
    · rw [if_neg fun h => hb h.2, show isIn a 0 2 = true from ha, show isIn b 0 2 = false by simpa [isR] using hb]; rfl
  · rw [if_neg fun h => ha h.1, show isIn a 0 2 = false by simpa [isR] using ha]; rfl
theorem pk_ne {p : Int} (h : prin p = true) : pk p ≠ 0 := by
  have := prin_iff.1 h
  unfold pk; rw [if_pos h]; split <;> omega
theorem ck_ne {r : Int} (h : isR r = true) : ck r ≠ 0 := by
  have := isR_iff.1 h
  unfold ck; rw [if_pos h]; omega
theorem lk_ne {a b : Int} (ha : isR a = true) (hb : isR b = true) : lk a b ≠ 0 := by
  have := isR_iff.1 ha
  have := isR_iff.1 hb
  unfold lk; rw [if_pos ⟨ha, hb⟩]; omega
theorem pk_no {p : Int} (h : prin p = false) : pk p = 0 := by unfold pk; rw [if_neg (by rw [h]; simp)]
theorem ck_no {p : Int} (h : isR p = false) : ck p = 0 := by unfold ck; rw [if_neg (by rw [h]; simp)]
def rootedB (e : Timpl_Event) : Bool := if e.Kind = 1 then prin e.By && isR e.Realm else if e.Kind = 2 ∨ e.Kind = 4 then isR e.Service else if e.Kind = 3 then isR e.Realm && isIn e.Service 10 12 else false
def evKey (e : Timpl_Event) : Int := if e.Kind = 2 ∨ e.Kind = 4 then pk (3 + e.Service) else lk e.Realm (e.Service - 10)
theorem iRooted (k : Nat) (e : Timpl_Event) : Fimpl_rooted k e = some (rootedB e) := by
  simp only [Fimpl_rooted, Fimpl_rooted.j2, Fimpl_isPrincipal, Fimpl_isRealm, Fimpl_isService, iIn, Option.bind_some]
  unfold rootedB prin isR
  by_cases h1 : e.Kind = 1
  · rw [if_pos h1, show (e.Kind == 1) = true by simpa using h1]
    simp only [cond_true]
    cases isIn e.By 0 5 <;> rfl
  · rw [if_neg h1, show (e.Kind == 1) = false by simpa using h1]
    simp only [cond_false]
    by_cases h2 : e.Kind = 2
    · rw [if_pos (.inl h2), show (e.Kind == 2) = true by simpa using h2]; rfl
    · rw [show (e.Kind == 2) = false by simpa using h2]
      simp only [cond_false]
      by_cases h4 : e.Kind = 4
      · rw [if_pos (.inr h4), show (e.Kind == 4) = true by simpa using h4]; rfl
      · rw [if_neg (by rintro (h | h) <;> contradiction), show (e.Kind == 4) = false by simpa using h4]
        simp only [cond_false]
        by_cases h3 : e.Kind = 3
        · rw [if_pos h3, show (e.Kind == 3) = true by simpa using h3]
          simp only [cond_true]
          cases isIn e.Realm 0 2 <;> rfl
        · rw [if_neg h3, show (e.Kind == 3) = false by simpa using h3]; rfl
def rt (l : List Timpl_Event) : Nat → Int → List Int → Option (List Int)
  | 0, _, _ => none
  | n + 1, x, acc => match l[(fi l x).toNat]? with
    | none => none
    | some e => if fi l x < 0 then none else if rootedB e = false then none else if e.Kind = 1 then some (acc ++ [pk e.By, ck e.Realm]) else rt l n e.Parent (acc ++ [evKey e])
theorem rt_path {l : List Timpl_Event} : ∀ {n : Nat} {x : Int} {acc r : List Int}, rt l n x acc = some r → ∃ p, RPath l x p ∧ ∀ m, p.length ≤ m → rt l m x acc = some r
  | 0, _, _, _, h => by simp [rt] at h
  | n + 1, x, acc, r, h => by
    rcases fi_cases l x with ⟨i, e, h1, h2, h3⟩ | h1
    · simp only [rt, h1, Int.toNat_natCast, h2] at h
      rw [if_neg (by omega)] at h
      split at h
      · cases h
      · rename_i hr
        split at h
        · rename_i hk
          refine ⟨[i], .last h1 h2 hk, fun m hm => ?_⟩
          obtain ⟨m, rfl⟩ : ∃ j, m = j + 1 := ⟨m - 1, by simp at hm; omega⟩
          simp only [rt, h1, Int.toNat_natCast, h2]
          rw [if_neg (by omega), if_neg hr, if_pos hk]; exact h
        · rename_i hk
          obtain ⟨p, hp, hm⟩ := rt_path h
          refine ⟨i :: p, .step h1 h2 hk rfl hp, fun m hm' => ?_⟩
          obtain ⟨m, rfl⟩ : ∃ j, m = j + 1 := ⟨m - 1, by simp at hm'; omega⟩
          simp only [rt, h1, Int.toNat_natCast, h2]
          rw [if_neg (by omega), if_neg hr, if_neg hk]
          exact hm m (by simpa using hm')
    · simp only [rt, h1] at h
      split at h
      · cases h
      · rw [if_pos (by omega)] at h; cases h
/-- One round more finds nothing more. -/
theorem rt_more (l : List Timpl_Event) (x : Int) (acc : List Int) : rt l (l.length + 1) x acc = rt l l.length x acc := by
  have key : ∀ n r, rt l n x acc = some r → ∀ m, l.length ≤ m → rt l m x acc = some r := fun n r h m hm => by
    obtain ⟨p, h1, h2⟩ := rt_path h
    have := pigeon l.length p h1.nodup h1.lt
    exact h2 m (by omega)
  cases h : rt l (l.length + 1) x acc with
  | some r => exact (key _ r h _ (Nat.le_refl _)).symm
  | none =>
    cases h2 : rt l l.length x acc with
    | none => rfl
    | some r => have := key _ r h2 (l.length + 1) (by omega); rw [h] at this; cases this
theorem rt_len {l : List Timpl_Event} : ∀ {n : Nat} {x : Int} {acc r : List Int}, rt l n x acc = some r → r.length ≤ acc.length + n + 1
  | 0, _, _, _, h => by simp [rt] at h
  | n + 1, x, acc, r, h => by
    simp only [rt] at h
    split at h
    · cases h
    · split at h
      · cases h
      · split at h
        · cases h
        · split at h
          · cases h; simp
          · have := rt_len h
            simp at this; omega
def rtI (l : List Timpl_Event) (n : Nat) (x : Int) (acc : List Int) : List Int := match rt l n x acc with
  | some r => rsn r
  | none => []
theorem iRootsL {l : List Timpl_Event} (hl : l.length ≤ 1048576) : ∀ (n i : Nat) (x : Int) (acc : List Int), i + n = l.length → acc.length ≤ i → Ev (fun k => Fimpl_Roots.l17 k l x acc (l.length : Int) (i : Int)) (rtI l n x acc) := by
  intro n
  induction n with
  | zero =>
    intro i x acc hi ha
    refine Ev.succ ?_
    simp only [Fimpl_Roots.l17]
    rw [decide_eq_false (by omega)]
    exact Ev.pure _
  | succ n ih =>
    intro i x acc hi ha
    refine Ev.succ ?_
    simp only [Fimpl_Roots.l17, Fimpl_Roots.j20, Fimpl_Roots.j19]
    rw [decide_eq_true (by omega)]
    simp only [cond_true]
    refine Ev.bind (iFind l x hl) ?_
    rcases fi_cases l x with ⟨j, e, h1, h2, h3⟩ | h1
    · have er : rtI l (n + 1) x acc = if rootedB e = false then [] else if e.Kind = 1 then rsn (acc ++ [pk e.By, ck e.Realm]) else rtI l n e.Parent (acc ++ [evKey e]) := by
        unfold rtI
        simp only [rt, h1, Int.toNat_natCast, h2]
        rw [if_neg (by omega)]
        by_cases hr : rootedB e = false
        · rw [if_pos hr, if_pos hr]
        · rw [if_neg hr, if_neg hr]
          by_cases hk : e.Kind = 1
          · rw [if_pos hk, if_pos hk]
          · rw [if_neg hk, if_neg hk]
      rw [er, h1, decide_eq_false (by omega)]
      simp only [cond_false, iRooted, Option.bind_some]
      refine Ev.at? h2 ?_
      refine Ev.ite (fun hc => ?_) (fun hc => ?_)
      · rw [if_pos (by simpa using hc)]; exact Ev.pure _
      have hr : rootedB e = true := by simpa using hc
      rw [if_neg (by rw [hr]; simp)]
      simp only [iPK, iCK, iLK, Option.bind_some]
      refine Ev.ite (fun hc => ?_) (fun hc => ?_)
      · have hk : e.Kind = 1 := by simpa using hc
        rw [if_pos hk, decide_eq_true (by simp only [List.length_cons, List.length_nil]; omega)]
        simp only [cond_true]
        exact Ev.bind (iRisen _ (by simp; omega)) (Ev.pure _)
      have hk : ¬ e.Kind = 1 := by simpa using hc
      rw [if_neg hk]
      have go : ∀ y, evKey e = y → Ev (fun k => Fimpl_Roots.l17 k l e.Parent (acc ++ [y]) (l.length : Int) ((i + 1 : Nat) : Int)) (rtI l n e.Parent (acc ++ [evKey e])) := fun y hy => by
        rw [← hy]; exact ih (i + 1) e.Parent _ (by omega) (by simp; omega)
      rw [wid1 (by omega)]
      have arm : (e.Kind = 2 ∨ e.Kind = 4) → Ev (fun k => cond (decide ((2 * (acc.length + ([pk (IntKind.i64.wrap ((3 : Int) + e.Service))] : List Int).length) + 192) * 8 ≤ 281474976710656)) (Fimpl_Roots.l17 k l e.Parent (acc ++ ([pk (IntKind.i64.wrap ((3 : Int) + e.Service))] : List Int)) (l.length : Int) ((i + 1 : Nat) : Int)) none) (rtI l n e.Parent (acc ++ [evKey e])) := fun h => by
        have hs : isR e.Service = true := by
          unfold rootedB at hr
          rwa [if_neg hk, if_pos h] at hr
        have := isR_iff.1 hs
        rw [decide_eq_true (by simp only [List.length_cons, List.length_nil]; omega), wid (n := 3 + e.Service) (by omega) (by omega)]
        exact go _ (by unfold evKey; rw [if_pos h])
      refine Ev.ite (fun hc => ?_) (fun hc => ?_)
      · have h2 : e.Kind = 2 := by simpa using hc
        rw [hc]
        exact arm (.inl h2)
      have hn2 : ¬ e.Kind = 2 := by simpa using hc
      refine Ev.ite (fun hc => ?_) (fun hc => ?_)
      · exact arm (.inr (by simpa using hc))
      have hn4 : ¬ e.Kind = 4 := by simpa using hc
      have hn : ¬ (e.Kind = 2 ∨ e.Kind = 4) := by rintro (h | h) <;> contradiction
      refine Ev.ite (fun hc => ?_) (fun hc => ?_)
      · have h3 : e.Kind = 3 := by simpa using hc
        have hs : isR e.Realm = true ∧ isIn e.Service 10 12 = true := by
          unfold rootedB at hr
          rw [if_neg hk, if_neg hn, if_pos h3] at hr
          simpa using hr
        have : 10 ≤ e.Service ∧ e.Service ≤ 12 := by simpa [isIn] using hs.2
        rw [decide_eq_true (by simp only [List.length_cons, List.length_nil]; omega), wid (n := e.Service - 10) (by omega) (by omega)]
        exact go _ (by unfold evKey; rw [if_neg hn])
      · exfalso
        unfold rootedB at hr
        rw [if_neg hk, if_neg hn, if_neg (by simpa using hc)] at hr; cases hr
    · have er : rtI l (n + 1) x acc = [] := by
        unfold rtI
        simp only [rt, h1]
        split
        · rename_i r h
          split at h
          · cases h
          · rw [if_pos (by omega)] at h; cases h
        · rfl
      rw [er, h1]
      exact Ev.pure _
def rtS (l : List Timpl_Event) (n : Nat) (x : Int) (acc : List Int) : List Int := match rt l n x acc with
  | some r => putsI r []
  | none => []
theorem putsI_snoc (l : List Int) (y : Int) (s : List Int) : putsI (l ++ [y]) s = putI y (putsI l s) := by simp [putsI]
theorem sRootsL {l : List Timpl_Event} (hl : l.length ≤ 1048576) : ∀ (n i : Nat) (x : Int) (acc : List Int), i + n = l.length + 1 → acc.length ≤ i → Ev (fun k => Fspec_Roots.l32 k l x (putsI acc []) (i : Int)) (rtS l n x acc) := by
  intro n
  induction n with
  | zero =>
    intro i x acc hi ha
    refine Ev.succ ?_
    simp only [Fspec_Roots.l32]
    rw [decide_eq_false (by omega)]
    exact Ev.pure _
  | succ n ih =>
    intro i x acc hi ha
    have hpl := putsI_len acc []
    simp only [List.length_nil, Nat.add_zero] at hpl
    have hss : SS (putsI acc []) := ss_putsI List.Pairwise.nil
    refine Ev.succ ?_
    simp only [Fspec_Roots.l32, Fspec_Roots.j38, Fspec_Roots.j37]
    rw [decide_eq_true (by omega)]
    simp only [cond_true]
    refine Ev.bind (sFind l x hl) ?_
    rcases fi_cases l x with ⟨j, e, h1, h2, h3⟩ | h1
    · have er : rtS l (n + 1) x acc = if rootedB e = false then [] else if e.Kind = 1 then putsI (acc ++ [pk e.By, ck e.Realm]) [] else rtS l n e.Parent (acc ++ [evKey e]) := by
        unfold rtS
        simp only [rt, h1, Int.toNat_natCast, h2]
        rw [if_neg (by omega)]
        by_cases hr : rootedB e = false
        · rw [if_pos hr, if_pos hr]
        · rw [if_neg hr, if_neg hr]
          by_cases hk : e.Kind = 1
          · rw [if_pos hk, if_pos hk]
          · rw [if_neg hk, if_neg hk]
      rw [er, h1, decide_eq_false (by omega)]
      simp only [cond_false, sPK, sCK, sLK, sIn, Option.bind_some]
      refine Ev.at? h2 ?_
      refine Ev.ite (fun hc => ?_) (fun hc => ?_)
      · have hk : e.Kind = 1 := by simpa using hc
        by_cases hp : prin e.By = true
        · by_cases hR : isR e.Realm = true
          · have hr : rootedB e = true := by unfold rootedB; rw [if_pos hk, hp, hR]; rfl
            rw [if_neg (by rw [hr]; simp), if_pos hk, show (pk e.By == 0) = false by simpa using pk_ne hp, show (ck e.Realm == 0) = false by simpa using ck_ne hR]
            simp only [cond_false]
            refine Ev.bind (sPut _ (by omega) hss) ?_
            have h5 := putI_len (pk e.By) (putsI acc [])
            refine Ev.bind (sPut _ (by omega) (ss_putI hss)) ((Ev.pure _).to ?_)
            rw [show acc ++ [pk e.By, ck e.Realm] = (acc ++ [pk e.By]) ++ [ck e.Realm] by simp, putsI_snoc, putsI_snoc]
          · have hR : isR e.Realm = false := by simpa using hR
            rw [if_pos (by unfold rootedB; rw [if_pos hk, hR]; simp), show (pk e.By == 0) = false by simpa using pk_ne hp, show (ck e.Realm == 0) = true by simpa using ck_no hR]
            exact Ev.pure _
        · have hp : prin e.By = false := by simpa using hp
          rw [if_pos (by unfold rootedB; rw [if_pos hk, hp]; simp), show (pk e.By == 0) = true by simpa using pk_no hp]
          exact Ev.pure _
      have hk : ¬ e.Kind = 1 := by simpa using hc
      have go : ∀ y, rootedB e = true → evKey e = y → y ≠ 0 → Ev (fun k => cond (y == 0) (some ([] : List Int)) ((Fspec_l3Put k (putsI acc []) y).bind fun r743 => Fspec_Roots.l32 k l e.Parent r743 (IntKind.i64.wrap ((i : Int) + 1)))) (if rootedB e = false then [] else if e.Kind = 1 then putsI (acc ++ [pk e.By, ck e.Realm]) [] else rtS l n e.Parent (acc ++ [evKey e])) := fun y hr hy h0 => by
        rw [if_neg (by rw [hr]; simp), if_neg hk, show (y == 0) = false by simpa using h0]
        simp only [cond_false]
        refine Ev.bind (sPut y (by omega) hss) ?_
        rw [wid1 (by omega), ← putsI_snoc, hy]
        exact ih (i + 1) e.Parent _ (by omega) (by simp; omega)
      have no : rootedB e = false → ∀ f : Nat → Option (List Int), Ev (fun k => cond ((0 : Int) == 0) (some ([] : List Int)) (f k)) (if rootedB e = false then [] else if e.Kind = 1 then putsI (acc ++ [pk e.By, ck e.Realm]) [] else rtS l n e.Parent (acc ++ [evKey e])) := fun hr f => by
        rw [if_pos hr]; exact Ev.pure _
      have arm : (e.Kind = 2 ∨ e.Kind = 4) → Ev (fun k => cond (isIn e.Service 0 2) (cond (pk (IntKind.i64.wrap (3 + e.Service)) == 0) (some ([] : List Int)) ((Fspec_l3Put k (putsI acc []) (pk (IntKind.i64.wrap (3 + e.Service)))).bind fun r743 => Fspec_Roots.l32 k l e.Parent r743 (IntKind.i64.wrap ((i : Int) + 1)))) (cond ((0 : Int) == 0) (some ([] : List Int)) ((Fspec_l3Put k (putsI acc []) 0).bind fun r743 => Fspec_Roots.l32 k l e.Parent r743 (IntKind.i64.wrap ((i : Int) + 1))))) (if rootedB e = false then [] else if e.Kind = 1 then putsI (acc ++ [pk e.By, ck e.Realm]) [] else rtS l n e.Parent (acc ++ [evKey e])) := fun h => by
        have hrE : rootedB e = isR e.Service := by unfold rootedB; rw [if_neg hk, if_pos h]
        refine Ev.ite (fun hc => ?_) (fun hc => ?_)
        · have hs : isR e.Service = true := hc
          have := isR_iff.1 hs
          rw [wid (n := 3 + e.Service) (by omega) (by omega)]
          exact go _ (hrE.trans hs) (by unfold evKey; rw [if_pos h]) (pk_ne (prin_iff.2 (by omega)))
        · exact no (hrE.trans hc) _
      refine Ev.ite (fun hc => ?_) (fun hc => ?_)
      · have h2 : e.Kind = 2 := by simpa using hc
        rw [hc]
        exact arm (.inl h2)
      have hn2 : ¬ e.Kind = 2 := by simpa using hc
      refine Ev.ite (fun hc => ?_) (fun hc => ?_)
      · exact arm (.inr (by simpa using hc))
      have hn4 : ¬ e.Kind = 4 := by simpa using hc
      have hn : ¬ (e.Kind = 2 ∨ e.Kind = 4) := by rintro (h | h) <;> contradiction
      refine Ev.ite (fun hc => ?_) (fun hc => ?_)
      · have h3 : e.Kind = 3 := by simpa using hc
        have hrE : rootedB e = (isR e.Realm && isIn e.Service 10 12) := by unfold rootedB; rw [if_neg hk, if_neg hn, if_pos h3]
        refine Ev.ite (fun hc => ?_) (fun hc => ?_)
        · have h10 : 10 ≤ e.Service ∧ e.Service ≤ 12 := by simpa [isIn] using hc
          rw [wid (n := e.Service - 10) (by omega) (by omega)]
          by_cases hR : isR e.Realm = true
          · exact go _ (by rw [hrE, hR, hc]; rfl) (by unfold evKey; rw [if_neg hn]) (lk_ne hR (isR_iff.2 (by omega)))
          · rw [if_pos (by rw [hrE, show isR e.Realm = false by simpa using hR]; rfl), show (lk e.Realm (e.Service - 10) == 0) = true by unfold lk; rw [if_neg fun h => hR h.1]; rfl]
            exact Ev.pure _
        · exact no (by rw [hrE, hc]; simp) _
      · refine no ?_ _
        unfold rootedB
        rw [if_neg hk, if_neg hn, if_neg (by simpa using hc)]
    · have er : rtS l (n + 1) x acc = [] := by
        unfold rtS
        simp only [rt, h1]
        split
        · rename_i r h
          split at h
          · cases h
          · rw [if_pos (by omega)] at h; cases h
        · rfl
      rw [er, h1]
      exact Ev.pure _
theorem roots_both {c : Timpl_Config} (h : CfgSm c) {l : List Timpl_Event} (hl : l.length ≤ 1048576) (x : Int) : ∃ r : List Int, Ev (fun k => Fspec_Roots k c l x) r ∧ Ev (fun k => Fimpl_Roots k c l x) r ∧ r.length ≤ 2097152 := by
  have h1 := sConfigOk h
  have h2 := iConfigOk h
  simp only [Fspec_Roots, Fimpl_Roots]
  by_cases hc : cfgOk c = true
  case neg =>
    have hc : cfgOk c = false := by simpa using hc
    rw [hc] at h1 h2
    exact ⟨[], Ev.bind h1 (Ev.pure _), Ev.bind h2 (Ev.pure _), by simp⟩
  rw [hc] at h1 h2
  have e : rtS l (l.length + 1) x [] = rtI l l.length x [] := by
    unfold rtS rtI
    rw [rt_more]
    cases rt l l.length x [] with
    | none => rfl
    | some r => exact (rsn_puts r).symm
  refine ⟨rtI l l.length x [], Ev.bind h1 ?_, Ev.bind h2 ?_, ?_⟩
  · rw [← e]; exact sRootsL hl (l.length + 1) 0 x [] (by omega) (by simp)
  · exact iRootsL hl l.length 0 x [] (by omega) (by simp)
  · unfold rtI
    cases hr : rt l l.length x [] with
    | none => simp
    | some r =>
      have := rt_len hr
      simp only [rsn_puts]
      have h3 := putsI_len r []
      simp at this h3
      omega
theorem szIntS_ev (a : List Int) (w : (Go.MG.wfR Go.MG.wfI) a) (n : Int) (hn : 0 ≤ n) (hb : n ≤ 1048576) : EvP (fun k => Flaws_szIntS k a n) (fun r => r < 0 ∨ (0 ≤ r ∧ r ≤ n ∧ (a.length ≤ 1048576))) := by
  simp only [Flaws_szIntS]
  have hw := w.1; unfold big at hw
  rw [wid (n := n - (a.length : Int)) (by omega) (by omega)]
  refine EvP.ite (fun _ => EvP.pure (.inl (by decide))) (fun hc => ?_)
  have hc : ¬ n - (a.length : Int) < 0 := by simpa using hc
  exact EvP.pure (.inr ⟨by omega, by omega, by omega⟩)
def cvPair (a : Tlaws_Pair) : Timpl_Pair := ⟨a.A, a.B⟩
def smPair (a : Tlaws_Pair) : Prop := True
theorem szPairS_ev (a : List Tlaws_Pair) (w : (Go.MG.wfR wfTlaws_Pair) a) (n : Int) (hn : 0 ≤ n) (hb : n ≤ 1048576) : EvP (fun k => Flaws_szPairS k a n) (fun r => r < 0 ∨ (0 ≤ r ∧ r ≤ n ∧ (a.length ≤ 1048576))) := by
  simp only [Flaws_szPairS]
  have hw := w.1; unfold big at hw
  rw [wid (n := n - (a.length : Int)) (by omega) (by omega)]
  refine EvP.ite (fun _ => EvP.pure (.inl (by decide))) (fun hc => ?_)
  have hc : ¬ n - (a.length : Int) < 0 := by simpa using hc
  exact EvP.pure (.inr ⟨by omega, by omega, by omega⟩)
def cvConfig (a : Tlaws_Config) : Timpl_Config := ⟨a.UserRealm, a.ServiceRealm, (a.Links.map cvPair), (a.Proxy.map cvPair), a.Skew⟩
def smConfig (a : Tlaws_Config) : Prop := (a.UserRealm.length ≤ 1048576) ∧ (a.ServiceRealm.length ≤ 1048576) ∧ (a.Links.length ≤ 1048576) ∧ (a.Proxy.length ≤ 1048576)
theorem szConfig_ev (a : Tlaws_Config) (w : wfTlaws_Config a) (n : Int) (hn : 0 ≤ n) (hb : n ≤ 1048576) : EvP (fun k => Flaws_szConfig k a n) (fun r => r < 0 ∨ (0 ≤ r ∧ r ≤ n ∧ smConfig a)) := by
  simp only [Flaws_szConfig]
  refine EvP.bind (szIntS_ev a.UserRealm w.1 n (by omega) (by omega)) (fun r0 hr0 => ?_)
  refine EvP.ite (fun _ => EvP.pure (.inl (by decide))) (fun hc => ?_)
  obtain ⟨p0, q0, s0⟩ := hr0.resolve_left (by simpa using hc)
  refine EvP.bind (szIntS_ev a.ServiceRealm w.2.1 r0 (by omega) (by omega)) (fun r1 hr1 => ?_)
  refine EvP.ite (fun _ => EvP.pure (.inl (by decide))) (fun hc => ?_)
  obtain ⟨p1, q1, s1⟩ := hr1.resolve_left (by simpa using hc)
  refine EvP.bind (szPairS_ev a.Links w.2.2.1 r1 (by omega) (by omega)) (fun r2 hr2 => ?_)
  refine EvP.ite (fun _ => EvP.pure (.inl (by decide))) (fun hc => ?_)
  obtain ⟨p2, q2, s2⟩ := hr2.resolve_left (by simpa using hc)
  refine EvP.bind (szPairS_ev a.Proxy w.2.2.2.1 r2 (by omega) (by omega)) (fun r3 hr3 => ?_)
  refine EvP.ite (fun _ => EvP.pure (.inl (by decide))) (fun hc => ?_)
  obtain ⟨p3, q3, s3⟩ := hr3.resolve_left (by simpa using hc)
  exact EvP.pure (.inr ⟨by omega, by omega, s0, s1, s2, s3⟩)
def cvRest (a : Tlaws_Rest) : Timpl_Rest := ⟨a.Servers, a.Ops, a.End⟩
def smRest (a : Tlaws_Rest) : Prop := True
def cvEvent (a : Tlaws_Event) : Timpl_Event := ⟨a.Kind, a.Realm, a.By, a.Client, a.Service, a.Key, a.Parent, a.Evid, (cvRest a.Rest)⟩
def smEvent (a : Tlaws_Event) : Prop := True
theorem szEventS_ev (a : List Tlaws_Event) (w : (Go.MG.wfR wfTlaws_Event) a) (n : Int) (hn : 0 ≤ n) (hb : n ≤ 1048576) : EvP (fun k => Flaws_szEventS k a n) (fun r => r < 0 ∨ (0 ≤ r ∧ r ≤ n ∧ (a.length ≤ 1048576))) := by
  simp only [Flaws_szEventS]
  have hw := w.1; unfold big at hw
  rw [wid (n := n - (a.length : Int)) (by omega) (by omega)]
  refine EvP.ite (fun _ => EvP.pure (.inl (by decide))) (fun hc => ?_)
  have hc : ¬ n - (a.length : Int) < 0 := by simpa using hc
  exact EvP.pure (.inr ⟨by omega, by omega, by omega⟩)
theorem toIntS_ev (xs : List Int) (h : (xs.length ≤ 1048576)) : Ev (fun k => Flaws_toIntS k xs) xs := by
  have hl : xs.length ≤ 1048576 := h
  simp only [Flaws_toIntS]
  refine Ev.ite (fun _ => ?_) (fun hc => by rw [decide_eq_true (by omega)] at hc; cases hc)
  simp only [Int.toNat_natCast]
  refine Ev.to (a := xs.map id) ?_ (List.map_id xs)
  exact Ev.copy (xs := xs) (L := fun k s i => Flaws_toIntS.l2 k xs s i) (f := id) (z := (0 : Int)) (fun s => by simp only [Flaws_toIntS.l2, ltD0, cond_false]; exact Ev.pure _) (fun i b s r hb hi hz hr => by
    simp only [Flaws_toIntS.l2, ltD hi, cond_true]
    refine Ev.at? hb (Ev.at? hz ?_)
    rw [wid1 (by omega)]; simpa only [Int.toNat_natCast, id] using hr)
theorem toPair_ev (a : Tlaws_Pair) (h : smPair a) : Ev (fun k => Flaws_toPair k a) (cvPair a) := by
  simp only [Flaws_toPair]
  exact Ev.pure _
theorem toPairS_ev (xs : List Tlaws_Pair) (h : (xs.length ≤ 1048576)) : Ev (fun k => Flaws_toPairS k xs) (xs.map cvPair) := by
  have hl : xs.length ≤ 1048576 := h
  simp only [Flaws_toPairS]
  refine Ev.ite (fun _ => ?_) (fun hc => by rw [decide_eq_true (by omega)] at hc; cases hc)
  simp only [Int.toNat_natCast]
  exact Ev.copy (xs := xs) (L := fun k s i => Flaws_toPairS.l2 k xs s i) (f := cvPair) (z := (⟨(0 : Int), (0 : Int)⟩ : Timpl_Pair)) (fun s => by simp only [Flaws_toPairS.l2, ltD0, cond_false]; exact Ev.pure _) (fun i b s r hb hi hz hr => by
    simp only [Flaws_toPairS.l2, ltD hi, cond_true]
    refine Ev.at? hb (Ev.bind (toPair_ev b trivial) (Ev.at? hz ?_))
    rw [wid1 (by omega)]; simpa only [Int.toNat_natCast] using hr)
theorem toConfig_ev (a : Tlaws_Config) (h : smConfig a) : Ev (fun k => Flaws_toConfig k a) (cvConfig a) := by
  simp only [Flaws_toConfig]
  refine Ev.bind (toIntS_ev _ h.1) ?_
  refine Ev.bind (toIntS_ev _ h.2.1) ?_
  refine Ev.bind (toPairS_ev _ h.2.2.1) ?_
  refine Ev.bind (toPairS_ev _ h.2.2.2) ?_
  exact Ev.pure _
theorem toRest_ev (a : Tlaws_Rest) (h : smRest a) : Ev (fun k => Flaws_toRest k a) (cvRest a) := by
  simp only [Flaws_toRest]
  exact Ev.pure _
theorem toEvent_ev (a : Tlaws_Event) (h : smEvent a) : Ev (fun k => Flaws_toEvent k a) (cvEvent a) := by
  simp only [Flaws_toEvent]
  refine Ev.bind (toRest_ev _ trivial) ?_
  exact Ev.pure _
theorem toEventS_ev (xs : List Tlaws_Event) (h : (xs.length ≤ 1048576)) : Ev (fun k => Flaws_toEventS k xs) (xs.map cvEvent) := by
  have hl : xs.length ≤ 1048576 := h
  simp only [Flaws_toEventS]
  refine Ev.ite (fun _ => ?_) (fun hc => by rw [decide_eq_true (by omega)] at hc; cases hc)
  simp only [Int.toNat_natCast]
  exact Ev.copy (xs := xs) (L := fun k s i => Flaws_toEventS.l2 k xs s i) (f := cvEvent) (z := (⟨(0 : Int), (0 : Int), (0 : Int), (0 : Int), (0 : Int), (0 : Int), (0 : Int), (0 : Int), (⟨(0 : Int), (0 : Int), (0 : Int)⟩ : Timpl_Rest)⟩ : Timpl_Event)) (fun s => by simp only [Flaws_toEventS.l2, ltD0, cond_false]; exact Ev.pure _) (fun i b s r hb hi hz hr => by
    simp only [Flaws_toEventS.l2, ltD hi, cond_true]
    refine Ev.at? hb (Ev.bind (toEvent_ev b trivial) (Ev.at? hz ?_))
    rw [wid1 (by omega)]; simpa only [Int.toNat_natCast] using hr)
theorem eqIntS_ev (xs : List Int) (h : (xs.length ≤ 1099511627776)) : Ev (fun k => Flaws_eqIntS k xs xs) true := by
  have hl : xs.length ≤ 1099511627776 := h
  simp only [Flaws_eqIntS, bne_self_eq_false, cond_false]
  refine Ev.for (xs := xs) (L := fun k (_ : Unit) i => Flaws_eqIntS.l2 k xs xs i) (f := fun _ _ => true) (fun s => by simp only [Flaws_eqIntS.l2, ltD0, cond_false]; exact Ev.pure _) (fun i b s hb hi hr => ?_) ()
  simp only [Flaws_eqIntS.l2, ltD hi, cond_true]
  refine Ev.at? hb (Ev.at? hb (?_))
  simp only [bne_self_eq_false, Bool.not_true, cond_false]
  rw [wid1 (by omega)]; exact hr ()
theorem eqPair_ev (a : Timpl_Pair) : Ev (fun k => Flaws_eqPair k a a) true := by
  simp only [Flaws_eqPair, bne_self_eq_false, cond_false]
  exact Ev.pure _
theorem eqPairS_ev (xs : List Timpl_Pair) (h : (xs.length ≤ 1099511627776)) : Ev (fun k => Flaws_eqPairS k xs xs) true := by
  have hl : xs.length ≤ 1099511627776 := h
  simp only [Flaws_eqPairS, bne_self_eq_false, cond_false]
  refine Ev.for (xs := xs) (L := fun k (_ : Unit) i => Flaws_eqPairS.l2 k xs xs i) (f := fun _ _ => true) (fun s => by simp only [Flaws_eqPairS.l2, ltD0, cond_false]; exact Ev.pure _) (fun i b s hb hi hr => ?_) ()
  simp only [Flaws_eqPairS.l2, ltD hi, cond_true]
  refine Ev.at? hb (Ev.at? hb (Ev.bind (eqPair_ev b) ?_))
  simp only [bne_self_eq_false, Bool.not_true, cond_false]
  rw [wid1 (by omega)]; exact hr ()
def okConfig (a : Timpl_Config) : Prop := (a.UserRealm.length ≤ 1099511627776) ∧ (a.ServiceRealm.length ≤ 1099511627776) ∧ (a.Links.length ≤ 1099511627776) ∧ (a.Proxy.length ≤ 1099511627776)
theorem eqConfig_ev (a : Timpl_Config) (h : okConfig a) : Ev (fun k => Flaws_eqConfig k a a) true := by
  simp only [Flaws_eqConfig, bne_self_eq_false, cond_false]
  refine Ev.bind (eqIntS_ev _ h.1) ?_
  simp only [Bool.not_true, cond_false]
  refine Ev.bind (eqIntS_ev _ h.2.1) ?_
  simp only [Bool.not_true, cond_false]
  refine Ev.bind (eqPairS_ev _ h.2.2.1) ?_
  simp only [Bool.not_true, cond_false]
  refine Ev.bind (eqPairS_ev _ h.2.2.2) ?_
  simp only [Bool.not_true, cond_false]
  exact Ev.pure _
theorem eqRest_ev (a : Timpl_Rest) : Ev (fun k => Flaws_eqRest k a a) true := by
  simp only [Flaws_eqRest, bne_self_eq_false, cond_false]
  exact Ev.pure _
theorem eqEvent_ev (a : Timpl_Event) : Ev (fun k => Flaws_eqEvent k a a) true := by
  simp only [Flaws_eqEvent, bne_self_eq_false, cond_false]
  refine Ev.bind (eqRest_ev _) ?_
  simp only [Bool.not_true, cond_false]
  exact Ev.pure _
theorem eqEventS_ev (xs : List Timpl_Event) (h : (xs.length ≤ 1099511627776)) : Ev (fun k => Flaws_eqEventS k xs xs) true := by
  have hl : xs.length ≤ 1099511627776 := h
  simp only [Flaws_eqEventS, bne_self_eq_false, cond_false]
  refine Ev.for (xs := xs) (L := fun k (_ : Unit) i => Flaws_eqEventS.l2 k xs xs i) (f := fun _ _ => true) (fun s => by simp only [Flaws_eqEventS.l2, ltD0, cond_false]; exact Ev.pure _) (fun i b s hb hi hr => ?_) ()
  simp only [Flaws_eqEventS.l2, ltD hi, cond_true]
  refine Ev.at? hb (Ev.at? hb (Ev.bind (eqEvent_ev b) ?_))
  simp only [bne_self_eq_false, Bool.not_true, cond_false]
  rw [wid1 (by omega)]; exact hr ()
def mkIntS (n : Int) (_ : Int) : Int := n
theorem markIntS_ev (xs : List Int) (n : Int) (hn : 0 ≤ n) (hb : n + 1 * xs.length ≤ 4611686018427387904) (hl : xs.length ≤ 4611686018427387904) : Ev (fun k => Flaws_markIntS k xs n) (n + 1 * xs.length, markL mkIntS 1 n xs) := by
  simp only [Flaws_markIntS]
  refine Ev.mark (L := fun k xs n i => Flaws_markIntS.l2 k xs n i) (g := mkIntS) (w := 1) (fun xs n => by simp only [Flaws_markIntS.l2, ltD0, cond_false]; exact Ev.pure _) (fun i b xs n r hb hi h0 h1 h2 hr => ?_) xs n hn hb hl
  simp only [Flaws_markIntS.l2, ltD hi, cond_true]
  refine Ev.at? hb ?_
  simp (disch := omega) only [Int.toNat_natCast, List.set_set, atSet hi, Option.bind_some, widR, Int.add_assoc]
  exact hr
def mkPairS (n : Int) (_ : Timpl_Pair) : Timpl_Pair := (⟨n, (n + 1)⟩ : Timpl_Pair)
theorem markPairS_ev (xs : List Timpl_Pair) (n : Int) (hn : 0 ≤ n) (hb : n + 2 * xs.length ≤ 4611686018427387904) (hl : xs.length ≤ 4611686018427387904) : Ev (fun k => Flaws_markPairS k xs n) (n + 2 * xs.length, markL mkPairS 2 n xs) := by
  simp only [Flaws_markPairS]
  refine Ev.mark (L := fun k xs n i => Flaws_markPairS.l2 k xs n i) (g := mkPairS) (w := 2) (fun xs n => by simp only [Flaws_markPairS.l2, ltD0, cond_false]; exact Ev.pure _) (fun i b xs n r hb hi h0 h1 h2 hr => ?_) xs n hn hb hl
  simp only [Flaws_markPairS.l2, ltD hi, cond_true]
  refine Ev.at? hb ?_
  simp (disch := omega) only [Int.toNat_natCast, List.set_set, atSet hi, Option.bind_some, widR, Int.add_assoc]
  exact hr
theorem markConfig_ev (a : Timpl_Config) (n : Int) (hn : 0 ≤ n) (hb : n ≤ 1000000000) (h0 : a.UserRealm.length ≤ 1048576) (h1 : a.ServiceRealm.length ≤ 1048576) (h2 : a.Links.length ≤ 1048576) (h3 : a.Proxy.length ≤ 1048576) : EvP (fun k => Flaws_markConfig k a n) (fun r => 0 ≤ r.1 ∧ r.1 ≤ n + 6291456) := by
  simp only [Flaws_markConfig]
  refine EvP.bindE (markIntS_ev a.UserRealm n (by omega) (by omega) (by omega)) ?_
  refine EvP.bindE (markIntS_ev a.ServiceRealm (n + 1 * (a.UserRealm.length : Int)) (by omega) (by omega) (by omega)) ?_
  refine EvP.bindE (markPairS_ev a.Links ((n + 1 * (a.UserRealm.length : Int)) + 1 * (a.ServiceRealm.length : Int)) (by omega) (by omega) (by omega)) ?_
  refine EvP.bindE (markPairS_ev a.Proxy (((n + 1 * (a.UserRealm.length : Int)) + 1 * (a.ServiceRealm.length : Int)) + 2 * (a.Links.length : Int)) (by omega) (by omega) (by omega)) ?_
  exact EvP.pure ⟨by simp only; omega, by simp only; omega⟩
def mkEventS (n : Int) (_ : Timpl_Event) : Timpl_Event := (⟨n, (n + 1), (n + 2), (n + 3), (n + 4), (n + 5), (n + 6), (n + 7), (⟨(n + 8), (n + 9), (n + 10)⟩ : Timpl_Rest)⟩ : Timpl_Event)
theorem markEventS_ev (xs : List Timpl_Event) (n : Int) (hn : 0 ≤ n) (hb : n + 11 * xs.length ≤ 4611686018427387904) (hl : xs.length ≤ 4611686018427387904) : Ev (fun k => Flaws_markEventS k xs n) (n + 11 * xs.length, markL mkEventS 11 n xs) := by
  simp only [Flaws_markEventS]
  refine Ev.mark (L := fun k xs n i => Flaws_markEventS.l2 k xs n i) (g := mkEventS) (w := 11) (fun xs n => by simp only [Flaws_markEventS.l2, ltD0, cond_false]; exact Ev.pure _) (fun i b xs n r hb hi h0 h1 h2 hr => ?_) xs n hn hb hl
  simp only [Flaws_markEventS.l2, ltD hi, cond_true]
  refine Ev.at? hb ?_
  simp (disch := omega) only [Int.toNat_natCast, List.set_set, atSet hi, Option.bind_some, widR, Int.add_assoc]
  exact hr
theorem heldIntS_ev (xs : List Int) (n : Int) (hn : 0 ≤ n) (hb : n + 1 * xs.length ≤ 4611686018427387904) (hl : xs.length ≤ 4611686018427387904) : Ev (fun k => Flaws_heldIntS k (markL mkIntS 1 n xs) n) (n + 1 * xs.length) := by
  simp only [Flaws_heldIntS]
  refine Ev.held (L := fun k xs n i => Flaws_heldIntS.l2 k xs n i) (g := mkIntS) (w := 1) hn hb hl (fun xs n => by simp only [Flaws_heldIntS.l2, ltD0, cond_false]; exact Ev.pure _) (fun i b xs n r hb hi h0 h1 h2 hr => ?_)
  simp only [Flaws_heldIntS.l2, ltD hi, cond_true]
  simp (disch := omega) only [atN hb, mkIntS, Option.bind_some, widR, Int.add_assoc, Int.reduceAdd, bne_self_eq_false, cond_false]
  exact hr
theorem okcvConfig {a : Tlaws_Config} (h : smConfig a) : okConfig (cvConfig a) := ⟨(by have := h.1; simp only [okConfig, cvConfig]; omega), (by have := h.2.1; simp only [okConfig, cvConfig]; omega), (by have := h.2.2.1; simp only [okConfig, cvConfig, List.length_map]; omega), (by have := h.2.2.2; simp only [okConfig, cvConfig, List.length_map]; omega)⟩
theorem cfgSm {a : Tlaws_Config} (s0 : smConfig a) : CfgSm (cvConfig a) := by
  obtain ⟨h1, h2, h3, h4⟩ := s0
  exact ⟨h1, h2, by simp only [cvConfig, List.length_map]; exact h3, by simp only [cvConfig, List.length_map]; exact h4⟩
theorem coreRoots (a0 : Tlaws_Config) (a1 : List Tlaws_Event) (a2 : Int) (w0 : wfTlaws_Config a0) (w1 : (Go.MG.wfR wfTlaws_Event) a1) (w2 : Go.MG.wfI a2) (s0 : smConfig a0) (s1 : a1.length ≤ 1048576) : ∃ r, Ev (fun k => Fspec_Roots k (cvConfig a0) (a1.map cvEvent) a2) r ∧ Ev (fun k => Fimpl_Roots k (cvConfig a0) (a1.map cvEvent) a2) r ∧ r.length ≤ 1099511627776 := by
  obtain ⟨r, h1, h2, h3⟩ := roots_both (cfgSm s0) (l := a1.map cvEvent) (by rw [List.length_map]; exact s1) a2
  exact ⟨r, h1, h2, by omega⟩
theorem lawExactRoots (a0 : Tlaws_Config) (a1 : List Tlaws_Event) (a2 : Int) (w0 : wfTlaws_Config a0) (w1 : (Go.MG.wfR wfTlaws_Event) a1) (w2 : Go.MG.wfI a2) : ∃ k, Flaws_FnExactRoots k a0 a1 a2 = some true := by
  refine Ev.get (f := fun k => Flaws_FnExactRoots k a0 a1 a2) ?_
  simp only [Flaws_FnExactRoots]
  obtain ⟨z1, hz1, hy1⟩ := szConfig_ev a0 w0 (1048576 : Int) (by omega) (by omega)
  refine Ev.bind hz1 ?_
  refine Ev.ite (fun _ => Ev.pure _) (fun hc => ?_)
  obtain ⟨_, _, s0⟩ := hy1.resolve_left (by simpa using hc)
  obtain ⟨z2, hz2, hy2⟩ := szEventS_ev a1 w1 z1 (by omega) (by omega)
  refine Ev.bind hz2 ?_
  refine Ev.ite (fun _ => Ev.pure _) (fun hc => ?_)
  obtain ⟨_, _, s1⟩ := hy2.resolve_left (by simpa using hc)
  refine Ev.bind (toConfig_ev _ s0) ?_
  refine Ev.bind (toEventS_ev _ s1) ?_
  have l0_0 : (cvConfig a0).UserRealm.length ≤ 1048576 := by simp only [cvConfig, List.length_map]; exact s0.1
  have l0_1 : (cvConfig a0).ServiceRealm.length ≤ 1048576 := by simp only [cvConfig, List.length_map]; exact s0.2.1
  have l0_2 : (cvConfig a0).Links.length ≤ 1048576 := by simp only [cvConfig, List.length_map]; exact s0.2.2.1
  have l0_3 : (cvConfig a0).Proxy.length ≤ 1048576 := by simp only [cvConfig, List.length_map]; exact s0.2.2.2
  have l1 : (a1.map cvEvent).length ≤ 1048576 := by rw [List.length_map]; exact s1
  obtain ⟨r, hs, hi, hr⟩ := coreRoots a0 a1 a2 w0 w1 w2 s0 s1
  refine Ev.bind hs ?_
  refine Ev.bind (toConfig_ev _ s0) ?_
  refine Ev.bind (toEventS_ev _ s1) ?_
  refine Ev.bind hi ?_
  refine Ev.bind (eqIntS_ev _ hr) ?_
  simp only [Bool.not_true, cond_false]
  refine Ev.bind (toConfig_ev _ s0) ?_
  refine Ev.bind (eqConfig_ev _ (okcvConfig s0)) ?_
  simp only [Bool.not_true, cond_false]
  refine Ev.bind (toEventS_ev _ s1) ?_
  refine Ev.bind (eqEventS_ev _ (by omega)) ?_
  simp only [Bool.not_true, cond_false]
  obtain ⟨z3, hz3, hy3, hx3⟩ := markConfig_ev (cvConfig a0) (1 : Int) (by omega) (by omega) l0_0 l0_1 l0_2 l0_3
  refine Ev.bind hz3 ?_
  refine Ev.bind (markEventS_ev _ _ (by omega) (by omega) (by omega)) ?_
  refine Ev.ite (fun hc => absurd (of_decide_eq_true hc) (by first | omega | (simp only; omega))) (fun _ => ?_)
  refine Ev.bind (eqIntS_ev _ hr) ?_
  simp only [Bool.not_true, cond_false]
  have hrl := hr
  refine Ev.bind (markIntS_ev _ (1 : Int) (by omega) (by omega) (by omega)) ?_
  refine Ev.bind (heldIntS_ev _ (1 : Int) (by omega) (by omega) (by omega)) ?_
  refine Ev.ite (fun hc => absurd (of_decide_eq_true hc) (by first | omega | (simp only; omega))) (fun _ => ?_)
  try simp only [bne_self_eq_false, cond_false]
  refine Ev.bind (toConfig_ev _ s0) ?_
  refine Ev.bind (toEventS_ev _ s1) ?_
  refine Ev.bind hi ?_
  refine Ev.bind (eqIntS_ev _ hr) ?_
  simp only [Bool.not_true, cond_false]
  refine Ev.bind (heldIntS_ev _ (1 : Int) (by omega) (by omega) (by omega)) ?_
  refine Ev.ite (fun hc => absurd (of_decide_eq_true hc) (by first | omega | (simp only; omega))) (fun _ => ?_)
  try simp only [bne_self_eq_false, cond_false]
  exact Ev.pure _

end Go.Proofs.Ytcolcmjcjpikcaa.M
