/- The program's Joined answers as the reference's does -/
import Derived.Test.YtbjbagemlclgcaaFJo
namespace Go.Proofs.Ytbjbagemlclgcaa.M
open Go Go.MG
set_option linter.unusedVariables false
set_option linter.unusedSimpArgs false
theorem wid {n : Int} (h1 : -9223372036854775808 ≤ n) (h2 : n ≤ 9223372036854775807) : IntKind.i64.wrap n = n := by
  rw [IntKind.wrap_i64]; omega
theorem atN {α : Type} {xs : List α} {i : Nat} {b : α} (h : xs[i]? = some b) : at? xs (i : Int) = some b := by
  simp [at?, h]
theorem atLt {α : Type} {xs : List α} {i : Nat} (h : i < xs.length) : ∃ b, xs[i]? = some b := ⟨xs[i], List.getElem?_eq_getElem h⟩
/-- A loop over a list, by an invariant. -/
theorem loopInv {α S R : Type} {xs : List α} {L : Nat → S → Int → Option R} {I : Nat → S → Prop} {Q : R → Prop} {n0 : Nat}
    (h : ∀ k s (i : Nat) b, n0 ≤ k → xs[i]? = some b → i < xs.length → I i s → (∃ s', L (k + 1) s (i : Int) = L k s' ((i + 1 : Nat) : Int) ∧ I (i + 1) s') ∨ ∃ r, L (k + 1) s (i : Int) = some r ∧ Q r)
    (he : ∀ k s, n0 ≤ k → I xs.length s → ∃ r, L (k + 1) s (xs.length : Int) = some r ∧ Q r) :
    ∀ (m i k : Nat) (s : S), i + m = xs.length → n0 + m + 1 ≤ k → I i s → ∃ r, L k s (i : Int) = some r ∧ Q r := by
  intro m
  induction m with
  | zero =>
    intro i k s hi hk hI
    obtain ⟨k, rfl⟩ : ∃ j, k = j + 1 := ⟨k - 1, by omega⟩
    have : i = xs.length := by omega
    subst this
    exact he k s (by omega) hI
  | succ m ih =>
    intro i k s hi hk hI
    obtain ⟨k, rfl⟩ : ∃ j, k = j + 1 := ⟨k - 1, by omega⟩
    obtain ⟨b, hb⟩ := atLt (xs := xs) (i := i) (by omega)
    rcases h k s i b (by omega) hb (by omega) hI with ⟨s', h1, h2⟩ | h1
    · rw [h1]
      exact ih (i + 1) k s' (by omega) (by omega) h2
    · exact h1
theorem loop0 {α S R : Type} {xs : List α} {L : Nat → S → Int → Option R} {I : Nat → S → Prop} {Q : R → Prop} (n0 : Nat) {k : Nat} {s : S}
    (hk : n0 + xs.length + 1 ≤ k) (h0 : I 0 s)
    (h : ∀ k s (i : Nat) b, n0 ≤ k → xs[i]? = some b → i < xs.length → I i s → (∃ s', L (k + 1) s (i : Int) = L k s' ((i + 1 : Nat) : Int) ∧ I (i + 1) s') ∨ ∃ r, L (k + 1) s (i : Int) = some r ∧ Q r)
    (he : ∀ k s, n0 ≤ k → I xs.length s → ∃ r, L (k + 1) s (xs.length : Int) = some r ∧ Q r) : ∃ r, L k s 0 = some r ∧ Q r :=
  loopInv h he xs.length 0 k s (by omega) (by omega) h0
theorem wid1 {i : Nat} (h : i ≤ 4611686018427387904) : IntKind.i64.wrap ((i : Int) + 1) = ((i + 1 : Nat) : Int) := by
  rw [wid (by omega) (by omega)]; omega
theorem ltD {i n : Nat} (h : i < n) : decide ((i : Int) < (n : Int)) = true := by simp; omega
theorem ltD0 {n : Nat} : decide ((n : Int) < (n : Int)) = false := by simp
theorem take_succ_get {α : Type} {xs : List α} {i : Nat} {b : α} (h : xs[i]? = some b) : xs.take (i + 1) = xs.take i ++ [b] := by
  rw [List.take_add_one, h]; rfl
/-- What a copy has become after some rounds. -/
theorem set_copy {α : Type} {xs : List α} {z b : α} {i : Nat} (h : xs[i]? = some b) : (xs.take i ++ List.replicate (xs.length - i) z).set i b = xs.take (i + 1) ++ List.replicate (xs.length - (i + 1)) z := by
  have hi := (List.getElem?_eq_some_iff.1 h).1
  rw [take_succ_get h, List.set_append_right _ _ (by simp; omega)]
  have e : xs.length - i = (xs.length - (i + 1)) + 1 := by omega
  rw [e, List.replicate_succ]
  have e2 : i - (xs.take i).length = 0 := by simp; omega
  rw [e2]
  simp
theorem get_copy {α : Type} {xs : List α} {z : α} {i : Nat} (h : i < xs.length) : (xs.take i ++ List.replicate (xs.length - i) z)[i]? = some z := by
  rw [List.getElem?_append_right (by simp; omega)]
  have : i - (xs.take i).length = 0 := by simp; omega
  rw [this, List.getElem?_replicate]
  simp; omega
/-- From some fuel on it answers so. -/
def Ev {α : Type} (f : Nat → Option α) (r : α) : Prop := ∃ n, ∀ k, n ≤ k → f k = some r
theorem Ev.pure {α : Type} (r : α) : Ev (fun _ => some r) r := ⟨0, fun _ _ => rfl⟩
theorem Ev.of {α : Type} {f : Nat → Option α} {r : α} (h : ∀ k, f k = some r) : Ev f r := ⟨0, fun k _ => h k⟩
theorem Ev.bind {α β : Type} {f : Nat → Option α} {g : Nat → α → Option β} {a : α} {r : β} (h : Ev f a) (h' : Ev (fun k => g k a) r) : Ev (fun k => (f k).bind (g k)) r := by
  obtain ⟨n, h⟩ := h
  obtain ⟨m, h'⟩ := h'
  refine ⟨max n m, fun k hk => ?_⟩
  show (f k).bind (g k) = some r
  rw [h k (by omega), Option.bind_some]
  exact h' k (by omega)
theorem Ev.succ {α : Type} {f : Nat → Option α} {r : α} (h : Ev (fun k => f (k + 1)) r) : Ev f r := by
  obtain ⟨n, h⟩ := h
  refine ⟨n + 1, fun k hk => ?_⟩
  obtain ⟨j, rfl⟩ : ∃ j, k = j + 1 := ⟨k - 1, by omega⟩
  exact h j (by omega)
theorem Ev.shift {α : Type} {f : Nat → Option α} {r : α} (h : Ev f r) : Ev (fun k => f (k + 1)) r := by
  obtain ⟨n, h⟩ := h
  exact ⟨n, fun k hk => h (k + 1) (by omega)⟩
theorem Ev.get {α : Type} {f : Nat → Option α} {r : α} (h : Ev f r) : ∃ k, f k = some r := by
  obtain ⟨n, h⟩ := h
  exact ⟨n, h n (Nat.le_refl _)⟩
theorem Ev.congr {α : Type} {f g : Nat → Option α} {r : α} (h : Ev f r) (e : ∀ k, g k = f k) : Ev g r := by
  obtain ⟨n, h⟩ := h
  exact ⟨n, fun k hk => (e k).trans (h k hk)⟩
theorem Ev.to {α : Type} {f : Nat → Option α} {a b : α} (h : Ev f a) (e : a = b) : Ev f b := e ▸ h
theorem Ev.ite {α : Type} {f g : Nat → Option α} {c : Bool} {r : α} (h1 : c = true → Ev f r) (h0 : c = false → Ev g r) : Ev (fun k => cond c (f k) (g k)) r := by
  cases c with
  | true => exact h1 rfl
  | false => exact h0 rfl
theorem Ev.at? {α β : Type} {xs : List α} {i : Nat} {b : α} {g : Nat → α → Option β} {r : β} (h : xs[i]? = some b) (h' : Ev (fun k => g k b) r) : Ev (fun k => (Go.MG.at? xs (i : Int)).bind (g k)) r := by
  have e := atN h
  simp only [e, Option.bind_some]
  exact h'
/-- A loop over a list: what it answers, told over what is left of it. -/
theorem Ev.forI {α S R : Type} {xs : List α} {L : Nat → S → Int → Option R} {f : List α → S → R} {I : Nat → S → Prop}
    (hnil : ∀ s, I xs.length s → Ev (fun k => L (k + 1) s (xs.length : Int)) (f [] s))
    (hcons : ∀ (i : Nat) (b : α) (s : S), xs[i]? = some b → i < xs.length → I i s → (∀ s', I (i + 1) s' → Ev (fun k => L k s' ((i + 1 : Nat) : Int)) (f (xs.drop (i + 1)) s')) → Ev (fun k => L (k + 1) s (i : Int)) (f (b :: xs.drop (i + 1)) s)) :
    ∀ (s : S), I 0 s → Ev (fun k => L k s 0) (f xs s) := by
  have key : ∀ (m i : Nat) (s : S), i + m = xs.length → I i s → Ev (fun k => L k s (i : Int)) (f (xs.drop i) s) := by
    intro m
    induction m with
    | zero =>
      intro i s hi hI
      have : i = xs.length := by omega
      subst this
      rw [List.drop_length]
      exact Ev.succ (hnil s hI)
    | succ m ih =>
      intro i s hi hI
      obtain ⟨b, hb⟩ := atLt (xs := xs) (i := i) (by omega)
      have hlt : i < xs.length := by omega
      have e : xs.drop i = b :: xs.drop (i + 1) := by
        rw [List.drop_eq_getElem_cons hlt]
        rw [List.getElem?_eq_getElem hlt] at hb
        cases hb; rfl
      rw [e]
      exact Ev.succ (hcons i b s hb hlt hI fun s' hs' => ih (i + 1) s' (by omega) hs')
  intro s hs
  have := key xs.length 0 s (by omega) hs
  simpa using this
theorem Ev.for {α S R : Type} {xs : List α} {L : Nat → S → Int → Option R} {f : List α → S → R}
    (hnil : ∀ s, Ev (fun k => L (k + 1) s (xs.length : Int)) (f [] s))
    (hcons : ∀ (i : Nat) (b : α) (s : S), xs[i]? = some b → i < xs.length → (∀ s', Ev (fun k => L k s' ((i + 1 : Nat) : Int)) (f (xs.drop (i + 1)) s')) → Ev (fun k => L (k + 1) s (i : Int)) (f (b :: xs.drop (i + 1)) s)) :
    ∀ (s : S), Ev (fun k => L k s 0) (f xs s) := fun s => Ev.forI (I := fun _ _ => True) (fun s _ => hnil s) (fun i b s hb hi _ h => hcons i b s hb hi fun s' => h s' trivial) s trivial
/-- A loop that copies by a map. -/
theorem Ev.copy {α β : Type} {xs : List α} {L : Nat → List β → Int → Option (List β)} {f : α → β} {z : β}
    (hnil : ∀ s, Ev (fun k => L (k + 1) s (xs.length : Int)) s)
    (hcons : ∀ (i : Nat) (b : α) (s : List β) (r : List β), xs[i]? = some b → i < xs.length → s[i]? = some z → Ev (fun k => L k (s.set i (f b)) ((i + 1 : Nat) : Int)) r → Ev (fun k => L (k + 1) s (i : Int)) r) :
    Ev (fun k => L k (List.replicate xs.length z) 0) (xs.map f) := by
  have key : ∀ (m i : Nat), i + m = xs.length → Ev (fun k => L k ((xs.map f).take i ++ List.replicate ((xs.map f).length - i) z) (i : Int)) (xs.map f) := by
    intro m
    induction m with
    | zero =>
      intro i hi
      have : i = xs.length := by omega
      subst this
      refine Ev.succ ((hnil _).to ?_)
      rw [List.length_map, Nat.sub_self, List.replicate_zero, List.append_nil]
      exact List.take_of_length_le (by simp)
    | succ m ih =>
      intro i hi
      obtain ⟨b, hb⟩ := atLt (xs := xs) (i := i) (by omega)
      have hb2 : (xs.map f)[i]? = some (f b) := by rw [List.getElem?_map, hb]; rfl
      refine Ev.succ (hcons i b _ _ hb (by omega) (get_copy (by rw [List.length_map]; omega)) ?_)
      rw [set_copy hb2]
      exact ih (i + 1) (by omega)
  have := key xs.length 0 (by omega)
  simpa using this
/-- A loop that stores what hangs on the place alone. -/
def markL {α β : Type} (g : Int → α → β) (w : Int) : Int → List α → List β
  | _, [] => []
  | n, x :: xs => g n x :: markL g w (n + w) xs
theorem markL_length {α β : Type} (g : Int → α → β) (w : Int) : ∀ (n : Int) (xs : List α), (markL g w n xs).length = xs.length
  | _, [] => rfl
  | n, x :: xs => by simp [markL, markL_length g w (n + w) xs]
theorem markL_get {α β : Type} {g : Int → α → β} {w : Int} : ∀ {n : Int} {xs : List α} {i : Nat} {x : α}, xs[i]? = some x → (markL g w n xs)[i]? = some (g (n + w * i) x)
  | n, [], i, x, h => by simp at h
  | n, y :: xs, 0, x, h => by simp at h; subst h; simp [markL]
  | n, y :: xs, i + 1, x, h => by
    simp only [List.getElem?_cons_succ] at h
    simp only [markL, List.getElem?_cons_succ]
    rw [markL_get h]
    congr 2
    rw [show ((i + 1 : Nat) : Int) = (i : Int) + 1 by omega, Int.mul_add]; omega
/-- It answers, and what it answers is so. -/
def EvP {α : Type} (f : Nat → Option α) (P : α → Prop) : Prop := ∃ r, Ev f r ∧ P r
theorem Ev.p {α : Type} {f : Nat → Option α} {r : α} {P : α → Prop} (h : Ev f r) (hp : P r) : EvP f P := ⟨r, h, hp⟩
theorem EvP.pure {α : Type} {r : α} {P : α → Prop} (h : P r) : EvP (fun _ => some r) P := ⟨r, Ev.pure r, h⟩
theorem EvP.bind {α β : Type} {f : Nat → Option α} {g : Nat → α → Option β} {P : α → Prop} {Q : β → Prop} (h : EvP f P) (h' : ∀ a, P a → EvP (fun k => g k a) Q) : EvP (fun k => (f k).bind (g k)) Q := by
  obtain ⟨a, h1, h2⟩ := h
  obtain ⟨r, h3, h4⟩ := h' a h2
  exact ⟨r, h1.bind h3, h4⟩
theorem EvP.ite {α : Type} {f g : Nat → Option α} {c : Bool} {P : α → Prop} (h1 : c = true → EvP f P) (h0 : c = false → EvP g P) : EvP (fun k => cond c (f k) (g k)) P := by
  cases c with
  | true => exact h1 rfl
  | false => exact h0 rfl
theorem EvP.succ {α : Type} {f : Nat → Option α} {P : α → Prop} (h : EvP (fun k => f (k + 1)) P) : EvP f P := by
  obtain ⟨r, h1, h2⟩ := h
  exact ⟨r, h1.succ, h2⟩
theorem EvP.at? {α β : Type} {xs : List α} {i : Nat} {b : α} {g : Nat → α → Option β} {P : β → Prop} (h : xs[i]? = some b) (h' : EvP (fun k => g k b) P) : EvP (fun k => (Go.MG.at? xs (i : Int)).bind (g k)) P := by
  obtain ⟨r, h1, h2⟩ := h'
  exact ⟨r, Ev.at? h h1, h2⟩
/-- A loop over a list, by an invariant. -/
theorem EvP.for {α S R : Type} {xs : List α} {L : Nat → S → Int → Option R} {P : R → Prop} (I : Nat → S → Prop)
    (hnil : ∀ s, I xs.length s → EvP (fun k => L (k + 1) s (xs.length : Int)) P)
    (hcons : ∀ (i : Nat) (b : α) (s : S), xs[i]? = some b → i < xs.length → I i s → (∀ s', I (i + 1) s' → EvP (fun k => L k s' ((i + 1 : Nat) : Int)) P) → EvP (fun k => L (k + 1) s (i : Int)) P) :
    ∀ (s : S), I 0 s → EvP (fun k => L k s 0) P := by
  have key : ∀ (m i : Nat) (s : S), i + m = xs.length → I i s → EvP (fun k => L k s (i : Int)) P := by
    intro m
    induction m with
    | zero =>
      intro i s hi hI
      have : i = xs.length := by omega
      subst this
      exact EvP.succ (hnil s hI)
    | succ m ih =>
      intro i s hi hI
      obtain ⟨b, hb⟩ := atLt (xs := xs) (i := i) (by omega)
      exact EvP.succ (hcons i b s hb (by omega) hI fun s' hs' => ih (i + 1) s' (by omega) hs')
  intro s hs
  simpa using key xs.length 0 s (by omega) hs
theorem widR {n : Int} (h1 : -9223372036854775808 ≤ n) (h2 : n ≤ 9223372036854775807) : IntKind.i64.wrap n = n := wid h1 h2
theorem atSet {α : Type} {xs : List α} {i : Nat} {y : α} (h : i < xs.length) : at? (xs.set i y) (i : Int) = some y := atN (by simp [h])
/-- A loop that stores into each place what hangs on the count. -/
theorem Ev.mark {α : Type} {L : Nat → List α → Int → Int → Option (Int × List α)} {g : Int → α → α} {w : Nat}
    (hnil : ∀ xs n, Ev (fun k => L (k + 1) xs n (xs.length : Int)) (n, xs))
    (hcons : ∀ (i : Nat) (b : α) (xs : List α) (n : Int) r, xs[i]? = some b → i < xs.length → 0 ≤ n → n + w ≤ 4611686018427387904 → xs.length ≤ 4611686018427387904 → Ev (fun k => L k (xs.set i (g n b)) (n + w) ((i + 1 : Nat) : Int)) r → Ev (fun k => L (k + 1) xs n (i : Int)) r)
    (xs : List α) (n : Int) (hn : 0 ≤ n) (hb : n + w * xs.length ≤ 4611686018427387904) (hl : xs.length ≤ 4611686018427387904) : Ev (fun k => L k xs n 0) (n + w * xs.length, markL g w n xs) := by
  have key : ∀ (m i : Nat) (ys : List α) (j : Int), i + m = ys.length → j = n + w * i → ys.length = xs.length → ys.take i = (markL g w n xs).take i → ys.drop i = xs.drop i → Ev (fun k => L k ys j (i : Int)) (n + w * xs.length, markL g w n xs) := by
    intro m
    induction m with
    | zero =>
      intro i ys j hi hj hl ht hd
      have e : i = ys.length := by omega
      subst e
      refine Ev.succ ((hnil ys j).to ?_)
      rw [List.take_of_length_le (Nat.le_refl _), List.take_of_length_le (by rw [markL_length]; omega)] at ht
      rw [hj, hl, ← ht]
    | succ m ih =>
      intro i ys j hi hj hl' ht hd
      obtain ⟨b, hb'⟩ := atLt (xs := ys) (i := i) (by omega)
      have hx : xs[i]? = some b := by
        have : (ys.drop i)[0]? = (xs.drop i)[0]? := by rw [hd]
        simp only [List.getElem?_drop, Nat.add_zero] at this
        rw [← this]; exact hb'
      have hw : (w : Int) * (i : Int) + w ≤ w * xs.length := by
        have : w * (i + 1) ≤ w * xs.length := Nat.mul_le_mul_left w (by omega)
        have h2 : ((w * (i + 1) : Nat) : Int) ≤ ((w * xs.length : Nat) : Int) := by omega
        rw [Int.natCast_mul, Int.natCast_mul] at h2
        rw [show ((i + 1 : Nat) : Int) = (i : Int) + 1 by omega, Int.mul_add] at h2
        omega
      have hw0 : (0 : Int) ≤ (w : Int) * (i : Int) := Int.mul_nonneg (by omega) (by omega)
      refine Ev.succ (hcons i b ys j _ hb' (by omega) (by omega) (by omega) (by omega) (ih (i + 1) (ys.set i (g j b)) (j + w) (by rw [List.length_set]; omega) ?_ (by rw [List.length_set]; exact hl') ?_ ?_))
      · rw [hj, show ((i + 1 : Nat) : Int) = (i : Int) + 1 by omega, Int.mul_add]; omega
      · have h1 : (ys.set i (g j b))[i]? = some (g j b) := List.getElem?_set_self (by omega)
        have h2 : (markL g w n xs)[i]? = some (g j b) := by rw [markL_get hx, hj]
        rw [take_succ_get h1, take_succ_get h2, ← ht, List.take_set_of_le (Nat.le_refl _)]
      · rw [List.drop_set_of_lt (by omega), ← List.drop_drop, ← List.drop_drop, hd]
  simpa using key xs.length 0 xs n (by omega) (by simp) rfl rfl rfl
/-- A loop that looks whether each place holds what was stored. -/
theorem Ev.held {α : Type} {L : Nat → List α → Int → Int → Option Int} {g : Int → α → α} {w : Nat} {xs : List α} {n : Int} (hn : 0 ≤ n) (hb : n + w * xs.length ≤ 4611686018427387904) (hl : xs.length ≤ 4611686018427387904)
    (hnil : ∀ (ys : List α) j, Ev (fun k => L (k + 1) ys j (ys.length : Int)) j)
    (hcons : ∀ (i : Nat) (b : α) (ys : List α) (j : Int) r, ys[i]? = some (g j b) → i < ys.length → 0 ≤ j → j + w ≤ 4611686018427387904 → ys.length ≤ 4611686018427387904 → Ev (fun k => L k ys (j + w) ((i + 1 : Nat) : Int)) r → Ev (fun k => L (k + 1) ys j (i : Int)) r) :
    Ev (fun k => L k (markL g w n xs) n 0) (n + w * xs.length) := by
  have hml := markL_length g w n xs
  have key : ∀ (m i : Nat) (j : Int), i + m = xs.length → j = n + w * i → Ev (fun k => L k (markL g w n xs) j (i : Int)) (n + w * xs.length) := by
    intro m
    induction m with
    | zero =>
      intro i j hi hj
      have e : i = (markL g w n xs).length := by omega
      subst e
      refine Ev.succ ((hnil _ j).to ?_)
      rw [hj, hml]
    | succ m ih =>
      intro i j hi hj
      obtain ⟨b, hx⟩ := atLt (xs := xs) (i := i) (by omega)
      have hw : (w : Int) * (i : Int) + w ≤ w * xs.length := by
        have : w * (i + 1) ≤ w * xs.length := Nat.mul_le_mul_left w (by omega)
        have h2 : ((w * (i + 1) : Nat) : Int) ≤ ((w * xs.length : Nat) : Int) := by omega
        rw [Int.natCast_mul, Int.natCast_mul] at h2
        rw [show ((i + 1 : Nat) : Int) = (i : Int) + 1 by omega, Int.mul_add] at h2
        omega
      have hw0 : (0 : Int) ≤ (w : Int) * (i : Int) := Int.mul_nonneg (by omega) (by omega)
      refine Ev.succ (hcons i b _ j _ ?_ (by omega) (by omega) (by omega) (by omega) (ih (i + 1) _ (by omega) ?_))
      · rw [markL_get hx, hj]
      · rw [hj, show ((i + 1 : Nat) : Int) = (i : Int) + 1 by omega, Int.mul_add]; omega
  simpa using key xs.length 0 n (by omega) (by simp)
/-- What is found first. -/
def firstOf {α R : Type} (p : α → Bool) (g : Nat → R) (e : R) : Nat → List α → R
  | _, [] => e
  | i, x :: xs => if p x then g i else firstOf p g e (i + 1) xs
theorem Ev.find {α R : Type} {xs : List α} {L : Nat → Int → Option R} {p : α → Bool} {g : Nat → R} {e : R}
    (hnil : Ev (fun k => L (k + 1) (xs.length : Int)) e)
    (hcons : ∀ (i : Nat) (b : α) (r : R), xs[i]? = some b → i < xs.length → (p b = true → r = g i) → (p b = false → Ev (fun k => L k ((i + 1 : Nat) : Int)) r) → Ev (fun k => L (k + 1) (i : Int)) r) :
    Ev (fun k => L k 0) (firstOf p g e 0 xs) := by
  have := Ev.for (xs := xs) (L := fun k (_ : Unit) i => L k i) (f := fun l _ => firstOf p g e (xs.length - l.length) l) (fun _ => by simpa [firstOf] using hnil) (fun i b _ hb hi h => by
    refine hcons i b _ hb hi (fun hp => ?_) (fun hp => ?_)
    · have : xs.length - (b :: List.drop (i + 1) xs).length = i := by simp; omega
      rw [this]; simp [firstOf, hp]
    · refine (h ()).to ?_
      have e1 : xs.length - (b :: List.drop (i + 1) xs).length = i := by simp; omega
      have e2 : xs.length - (List.drop (i + 1) xs).length = i + 1 := by simp; omega
      rw [e1, e2]; simp [firstOf, hp]) ()
  simpa using this
theorem firstOf_some {α R : Type} {p : α → Bool} {g : Nat → R} {e : R} : ∀ {i : Nat} {xs : List α}, (∃ j b, xs[j]? = some b ∧ p b = true ∧ firstOf p g e i xs = g (i + j)) ∨ ((∀ b ∈ xs, p b = false) ∧ firstOf p g e i xs = e)
  | i, [] => .inr ⟨by simp, rfl⟩
  | i, x :: xs => by
    cases hp : p x with
    | true => exact .inl ⟨0, x, rfl, hp, by simp [firstOf, hp]⟩
    | false =>
      rcases firstOf_some (p := p) (g := g) (e := e) (i := i + 1) (xs := xs) with ⟨j, b, h1, h2, h3⟩ | ⟨h1, h2⟩
      · exact .inl ⟨j + 1, b, by simpa using h1, h2, by simp only [firstOf, hp]; rw [show i + (j + 1) = i + 1 + j by omega]; exact h3⟩
      · refine .inr ⟨fun b hb => ?_, by simpa [firstOf, hp] using h2⟩
        rcases List.mem_cons.1 hb with rfl | hb
        · exact hp
        · exact h1 b hb
theorem EvP.shift {α : Type} {f : Nat → Option α} {P : α → Prop} (h : EvP f P) : EvP (fun k => f (k + 1)) P := by
  obtain ⟨r, h1, h2⟩ := h
  exact ⟨r, h1.shift, h2⟩
def isIn (x a b : Int) : Bool := decide (a ≤ x ∧ x ≤ b)
theorem sIn (k : Nat) (x a b : Int) : Fspec_l1In k x a b = some (isIn x a b) := by
  unfold Fspec_l1In isIn
  simp only [Bool.cond_decide]
  split
  all_goals
    refine congrArg some (Bool.eq_iff_iff.mpr ?_)
    simp only [decide_eq_true_eq, Bool.false_eq_true, false_iff]
    omega
theorem iIn (k : Nat) (x a b : Int) : Fimpl_within k x a b = some (isIn x a b) := sIn k x a b
theorem drop_at {α : Type} {l : List α} {j : Nat} {k : α} {ks : List α} (h : l.drop j = k :: ks) : j < l.length ∧ l[j]? = some k ∧ l.drop (j + 1) = ks := by
  have hk : l[j]? = some k := by
    have : (l.drop j)[0]? = some k := by rw [h]; rfl
    rwa [List.getElem?_drop, Nat.add_zero] at this
  exact ⟨(List.getElem?_eq_some_iff.1 hk).1, hk, by rw [← List.drop_drop, h]; rfl⟩
abbrev SS (l : List Int) : Prop := l.Pairwise (· < ·)
theorem ss_ext : ∀ {a b : List Int}, SS a → SS b → (∀ x, x ∈ a ↔ x ∈ b) → a = b
  | [], [], _, _, _ => rfl
  | [], y :: b, _, _, h => by have := (h y).2 List.mem_cons_self; cases this
  | x :: a, [], _, _, h => by have := (h x).1 List.mem_cons_self; cases this
  | x :: a, y :: b, ha, hb, h => by
    have ha' := List.pairwise_cons.1 ha
    have hb' := List.pairwise_cons.1 hb
    have e : x = y := by
      have h1 := (h x).1 List.mem_cons_self
      have h2 := (h y).2 List.mem_cons_self
      rcases List.mem_cons.1 h1 with e | h1
      · exact e
      · rcases List.mem_cons.1 h2 with e | h2
        · exact e.symm
        · have := ha'.1 y h2; have := hb'.1 x h1; omega
    subst e
    rw [ss_ext ha'.2 hb'.2 fun z => ?_]
    constructor
    · intro hz
      rcases List.mem_cons.1 ((h z).1 (List.mem_cons_of_mem _ hz)) with e | h1
      · subst e; have := ha'.1 z hz; omega
      · exact h1
    · intro hz
      rcases List.mem_cons.1 ((h z).2 (List.mem_cons_of_mem _ hz)) with e | h1
      · subst e; have := hb'.1 z hz; omega
      · exact h1
def rsn (l : List Int) : List Int := Go.Lib.compact (l.mergeSort fun x y => decide (x ≤ y))
theorem cpt_mem {l : List Int} {x : Int} : x ∈ Go.Lib.compact l ↔ x ∈ l := by
  unfold Go.Lib.compact Go.Lib.compactUpTo
  simp only [List.mem_map, List.mem_filter, List.mem_range]
  constructor
  · rintro ⟨j, ⟨hj, _⟩, rfl⟩
    simp [hj]
  · intro h
    obtain ⟨j, hj, rfl⟩ := List.mem_iff_getElem.1 h
    have key : ∀ j (hj : j < l.length), ∃ a, (a < l.length ∧ Go.Lib.keeps l.toArray a = true) ∧ l.toArray[a]! = l[j] := by
      intro j
      induction j with
      | zero => intro hj; exact ⟨0, ⟨hj, by simp [Go.Lib.keeps]⟩, by simp [hj]⟩
      | succ j ih =>
        intro hj
        by_cases hk : Go.Lib.keeps l.toArray (j + 1) = true
        · exact ⟨j + 1, ⟨hj, hk⟩, by simp [hj]⟩
        · obtain ⟨a, ha, e⟩ := ih (by omega)
          refine ⟨a, ha, e.trans ?_⟩
          simp only [Go.Lib.keeps, decide_eq_true_eq, not_or, Nat.add_sub_cancel, ne_eq, Classical.not_not] at hk
          have := hk.2
          simp [hj, show j < l.length by omega] at this
          exact this.symm
    exact key j hj
theorem cpt_ss {l : List Int} (h : l.Pairwise (· ≤ ·)) : SS (Go.Lib.compact l) := by
  unfold Go.Lib.compact Go.Lib.compactUpTo
  rw [SS, List.pairwise_map]
  have h1 : ((List.range l.length).filter (Go.Lib.keeps l.toArray)).Pairwise (· < ·) := List.Pairwise.sublist List.filter_sublist List.pairwise_lt_range
  refine List.Pairwise.imp_of_mem ?_ h1
  intro a b ha hb hab
  simp only [List.mem_filter, List.mem_range] at ha hb
  obtain ⟨hb1, hb2⟩ := hb
  simp only [Go.Lib.keeps, decide_eq_true_eq] at hb2
  have hb3 := hb2.resolve_left (by omega)
  have le : ∀ (i j : Nat) (hi : i < l.length) (hj : j < l.length), i ≤ j → l[i] ≤ l[j] := fun i j hi hj hij => by
    by_cases e : i = j
    · subst e; exact Int.le_refl _
    · exact List.pairwise_iff_getElem.1 h i j hi hj (by omega)
  have h2 := le a (b - 1) ha.1 (by omega) (by omega)
  have h3 := le (b - 1) b (by omega) hb1 (by omega)
  simp [ha.1, hb1, show b - 1 < l.length by omega] at hb3 ⊢
  omega
theorem rsn_ss (l : List Int) : SS (rsn l) := by
  refine cpt_ss ?_
  have := List.pairwise_mergeSort (le := fun x y : Int => decide (x ≤ y)) (fun a b c h1 h2 => by simp at h1 h2 ⊢; omega) (fun a b => by simp; omega) l
  simpa using this
theorem rsn_mem {l : List Int} {x : Int} : x ∈ rsn l ↔ x ∈ l := by
  unfold rsn
  rw [cpt_mem, List.mem_mergeSort]
theorem iRisen (l : List Int) (h : l.length ≤ 1099511627776) : Ev (fun k => Fimpl_risen k l) (rsn l) := by
  simp only [Fimpl_risen, Fslices_Sort_int, Fslices_Compact_int]
  rw [decide_eq_true (by omega)]
  simp only [cond_true, Option.bind_some]
  rw [decide_eq_true (by rw [List.length_mergeSort]; omega)]
  exact Ev.pure _
theorem sHasI (l : List Int) (x : Int) (hl : l.length ≤ 1099511627776) : Ev (fun k => Fspec_l3Has k l x) (decide (x ∈ l)) := by
  simp only [Fspec_l3Has]
  refine Ev.for (xs := l) (L := fun k (_ : Unit) i => Fspec_l3Has.l2 k l x i) (f := fun l _ => decide (x ∈ l)) (fun _ => by simp only [Fspec_l3Has.l2, ltD0, cond_false]; exact Ev.pure _) (fun i b _ hb hi h => ?_) ()
  simp only [Fspec_l3Has.l2, ltD hi, cond_true]
  refine Ev.at? hb (Ev.ite (fun hc => ?_) (fun hc => ?_))
  · have : b = x := by simpa using hc
    rw [decide_eq_true (by rw [this]; exact List.mem_cons_self)]; exact Ev.pure _
  · have hne : ¬ b = x := by simpa using hc
    rw [wid1 (by omega)]
    refine (h ()).to ?_
    refine Bool.eq_iff_iff.2 ?_
    simp only [decide_eq_true_eq, List.mem_cons]
    exact ⟨.inr, fun h => h.resolve_left fun e => hne e.symm⟩
def Ris (l : List Int) (n : Nat) : Prop := ∀ j c b, j + 1 < n → l[j]? = some c → l[j + 1]? = some b → c < b
def Inn (l : List Int) (n : Nat) : Prop := ∀ j b, j < n → l[j]? = some b → 0 ≤ b ∧ b ≤ 30
noncomputable def setOk (l : List Int) : Bool := @decide (Inn l l.length ∧ Ris l l.length) (Classical.propDecidable _)
theorem setOk_true {l : List Int} : setOk l = true ↔ Inn l l.length ∧ Ris l l.length := by
  unfold setOk
  exact @decide_eq_true_iff _ (Classical.propDecidable _)
theorem Inn.succ {l : List Int} {i : Nat} {b : Int} (h : Inn l i) (hb : l[i]? = some b) (h2 : 0 ≤ b ∧ b ≤ 30) : Inn l (i + 1) := by
  intro j c hj hc
  by_cases e : j = i
  · subst e; rw [hb] at hc; cases hc; exact h2
  · exact h j c (by omega) hc
theorem Ris.succ {l : List Int} {i : Nat} {c b : Int} (h : Ris l (i + 1)) (hc : l[i]? = some c) (hb : l[i + 1]? = some b) (h2 : c < b) : Ris l (i + 2) := by
  intro j c' b' hj hc' hb'
  by_cases e : j = i
  · subst e; rw [hb] at hb'; rw [hc] at hc'; cases hb'; cases hc'; exact h2
  · exact h j c' b' (by omega) hc' hb'
theorem sSet (k : Nat) (l : List Int) (hk : l.length + 1 ≤ k) (hl : l.length ≤ 1048576) : Fspec_l17Set k l = some (setOk l) := by
  unfold Fspec_l17Set
  have := loop0 (L := fun k (_ : Unit) i => Fspec_l17Set.l7 k l i) (xs := l) (k := k) (s := ()) (I := fun i _ => Inn l i ∧ Ris l i) (Q := fun r => r = setOk l) 0 (by omega) ⟨fun j b h => absurd h (by omega), fun j c b h => absurd h (by omega)⟩ ?_ ?_
  · obtain ⟨r, h1, rfl⟩ := this
    exact h1
  · intro k _ i b _ hb hi ⟨i1, i2⟩
    simp only [Fspec_l17Set.l7, Fspec_l17Set.j8]
    rw [ltD hi, atN hb, wid1 (by omega)]
    simp only [cond_true, Option.bind_some, sIn]
    by_cases hin : isIn b 0 30 = true
    · have h2 : 0 ≤ b ∧ b ≤ 30 := of_decide_eq_true hin
      rw [hin]
      simp only [Bool.not_true, cond_false]
      cases i with
      | zero =>
        rw [decide_eq_false (by omega)]
        exact .inl ⟨(), rfl, i1.succ hb h2, fun j c b h => absurd h (by omega)⟩
      | succ i =>
        rw [decide_eq_true (by omega), wid (by omega) (by omega), show ((i + 1 : Nat) : Int) - 1 = (i : Int) by omega]
        obtain ⟨c, hc⟩ := atLt (xs := l) (i := i) (by omega)
        rw [atN hc]
        simp only [cond_true, Option.bind_some]
        by_cases h3 : c ≥ b
        · rw [decide_eq_true h3]
          refine .inr ⟨false, rfl, ?_⟩
          refine (Bool.eq_false_iff.2 fun h => ?_).symm
          have := (setOk_true.1 h).2 i c b (by omega) hc hb
          omega
        · rw [decide_eq_false h3]
          exact .inl ⟨(), rfl, i1.succ hb h2, i2.succ hc hb (by omega)⟩
    · rw [Bool.eq_false_iff.2 hin]
      refine .inr ⟨false, rfl, ?_⟩
      refine (Bool.eq_false_iff.2 fun h => hin ?_).symm
      exact decide_eq_true ((setOk_true.1 h).1 i b hi hb)
  · intro k _ _ hI
    simp only [Fspec_l17Set.l7]
    rw [ltD0]
    exact ⟨true, rfl, (setOk_true.2 hI).symm⟩
theorem iRises (k : Nat) (l : List Int) (hk : l.length + 2 ≤ k) (hl : l.length ≤ 1048576) : ∃ r, Fimpl_rises k l = some r ∧ (r = true ↔ Ris l l.length) := by
  unfold Fimpl_rises
  by_cases h0 : l.length = 0
  · obtain ⟨k, rfl⟩ : ∃ j, k = j + 1 := ⟨k - 1, by omega⟩
    simp only [Fimpl_rises.l2]
    rw [decide_eq_false (by omega)]
    exact ⟨true, rfl, fun _ j c b h => absurd h (by omega), fun _ => rfl⟩
  · refine loopInv (L := fun k (_ : Unit) i => Fimpl_rises.l2 k l i) (xs := l) (I := fun i _ => 0 < i ∧ Ris l i) (Q := fun r => (r = true ↔ Ris l l.length)) (n0 := 0) ?_ ?_ (l.length - 1) 1 k () (by omega) (by omega) ⟨by omega, fun j c b h => absurd h (by omega)⟩
    · intro k _ i b _ hb hi ⟨i0, i2⟩
      obtain ⟨i, rfl⟩ : ∃ j, i = j + 1 := ⟨i - 1, by omega⟩
      obtain ⟨c, hc⟩ := atLt (xs := l) (i := i) (by omega)
      simp only [Fimpl_rises.l2]
      rw [ltD hi, atN hb, wid1 (by omega), wid (by omega) (by omega), show ((i + 1 : Nat) : Int) - 1 = (i : Int) by omega, atN hc]
      simp only [cond_true, Option.bind_some]
      by_cases h3 : c ≥ b
      · rw [decide_eq_true h3]
        refine .inr ⟨false, rfl, fun h => by (cases h), fun h => ?_⟩
        have := h i c b (by omega) hc hb
        omega
      · rw [decide_eq_false h3]
        exact .inl ⟨(), rfl, by omega, i2.succ hc hb (by omega)⟩
    · intro k _ _ ⟨_, hI⟩
      simp only [Fimpl_rises.l2]
      rw [ltD0]
      exact ⟨true, rfl, fun _ => hI, fun _ => rfl⟩
theorem iAll (k : Nat) (l : List Int) (hk : l.length + 1 ≤ k) (hl : l.length ≤ 1048576) : ∃ r, Fimpl_areAll__impl_areSet_1 k l 31 = some r ∧ (r = true ↔ Inn l l.length ∧ l.length ≤ 31) := by
  unfold Fimpl_areAll__impl_areSet_1
  refine loop0 (L := fun k (_ : Unit) i => Fimpl_areAll__impl_areSet_1.l2 k l 31 (l.length : Int) i) (xs := l) (s := ()) (I := fun i _ => Inn l i) (Q := fun r => (r = true ↔ Inn l l.length ∧ l.length ≤ 31)) 0 (by omega) (fun j b h => absurd h (by omega)) ?_ ?_
  · intro k _ i b _ hb hi i1
    simp only [Fimpl_areAll__impl_areSet_1.l2, Fimpl_areSet_1]
    rw [ltD hi, atN hb, wid1 (by omega)]
    simp only [cond_true, Option.bind_some, iIn]
    by_cases hin : isIn b 0 30 = true
    · rw [hin]
      exact .inl ⟨(), rfl, i1.succ hb (of_decide_eq_true hin)⟩
    · rw [Bool.eq_false_iff.2 hin]
      refine .inr ⟨false, rfl, fun h => by (cases h), fun h => absurd (decide_eq_true (h.1 i b hi hb)) hin⟩
  · intro k _ _ hI
    simp only [Fimpl_areAll__impl_areSet_1.l2]
    rw [ltD0]
    refine ⟨_, rfl, ?_⟩
    rw [decide_eq_true_iff]
    exact ⟨fun h => ⟨hI, by omega⟩, fun h => by omega⟩
theorem short {l : List Int} (h1 : Inn l l.length) (h2 : Ris l l.length) : l.length ≤ 31 := by
  have hv : ∀ (j : Nat) (b : Int), l[j]? = some b → (j : Int) ≤ b := by
    intro j
    induction j with
    | zero =>
      intro b hb
      have := (List.getElem?_eq_some_iff.1 hb).1
      have := h1 0 b (by omega) hb
      omega
    | succ j ih =>
      intro b hb
      have hj := (List.getElem?_eq_some_iff.1 hb).1
      obtain ⟨c, hc⟩ := atLt (xs := l) (i := j) (by omega)
      have := ih c hc
      have := h2 j c b hj hc hb
      omega
  by_cases h : l.length = 0
  · omega
  · obtain ⟨b, hb⟩ := atLt (xs := l) (i := l.length - 1) (by omega)
    have := hv _ b hb
    have := h1 _ b (by omega) hb
    omega
theorem iSet (k : Nat) (l : List Int) (hk : l.length + 2 ≤ k) (hl : l.length ≤ 1048576) : Fimpl_areSet k l = some (setOk l) := by
  unfold Fimpl_areSet
  obtain ⟨r, h1, h2⟩ := iRises k l hk hl
  obtain ⟨q, h3, h4⟩ := iAll k l (by omega) hl
  rw [h1, Option.bind_some]
  cases r
  · refine congrArg some (Eq.symm (Bool.eq_false_iff.2 fun h => ?_))
    exact absurd (h2.2 (setOk_true.1 h).2) (by decide)
  · simp only [cond_true, h3, Option.bind_some]
    refine congrArg some (Bool.eq_iff_iff.2 ⟨fun h => setOk_true.2 ⟨(h4.1 h).1, h2.1 rfl⟩, fun h => h4.2 ?_⟩)
    have h := setOk_true.1 h
    exact ⟨h.1, short h.1 h.2⟩
noncomputable def ruleOk (a : Timpl_Rule) : Bool := cond (isIn a.Kind 1 3) (cond (a.N == 0) (setOk a.Set) false) (cond (isIn a.Kind 4 5) (cond ((a.Set.length : Int) == 0) (isIn a.N 0 100000) false) false)
theorem sRule (k : Nat) (a : Timpl_Rule) (hk : a.Set.length + 1 ≤ k) (hl : a.Set.length ≤ 1048576) : Fspec_l17Ok k a = some (ruleOk a) := by
  unfold Fspec_l17Ok ruleOk
  simp only [sIn, Option.bind_some, sSet k a.Set hk hl]
  cases isIn a.Kind 1 3 <;> cases isIn a.Kind 4 5 <;> cases a.N == 0 <;> cases (a.Set.length : Int) == 0 <;> rfl
theorem iRule (k : Nat) (a : Timpl_Rule) (hk : a.Set.length + 2 ≤ k) (hl : a.Set.length ≤ 1048576) : Fimpl_ruleOk k a = some (ruleOk a) := by
  unfold Fimpl_ruleOk ruleOk
  simp only [Fimpl_ruleOk.j3, Fimpl_ruleOk.j4, Fimpl_isTime, iIn, Option.bind_some, iSet k a.Set hk hl]
  by_cases h1 : a.Kind = 1
  · rw [h1]; cases setOk a.Set <;> cases a.N == 0 <;> rfl
  by_cases h2 : a.Kind = 2
  · rw [h2]; cases setOk a.Set <;> cases a.N == 0 <;> rfl
  by_cases h3 : a.Kind = 3
  · rw [h3]; cases setOk a.Set <;> cases a.N == 0 <;> rfl
  by_cases h4 : a.Kind = 4
  · rw [h4]; cases isIn a.N 0 100000 <;> cases (a.Set.length : Int) == 0 <;> rfl
  by_cases h5 : a.Kind = 5
  · rw [h5]; cases isIn a.N 0 100000 <;> cases (a.Set.length : Int) == 0 <;> rfl
  have e1 : isIn a.Kind 1 3 = false := by unfold isIn; exact decide_eq_false (by omega)
  have e2 : isIn a.Kind 4 5 = false := by unfold isIn; exact decide_eq_false (by omega)
  rw [beq_eq_false_iff_ne.2 h1, beq_eq_false_iff_ne.2 h2, beq_eq_false_iff_ne.2 h3, beq_eq_false_iff_ne.2 h4, beq_eq_false_iff_ne.2 h5, e1, e2]
  rfl
noncomputable def rulesOk (l : List Timpl_Rule) : Bool := decide (l.length ≤ 20) && l.all ruleOk
theorem all_take {α : Type} {p : α → Bool} {xs : List α} {i : Nat} {b : α} (hb : xs[i]? = some b) (h : (xs.take i).all p = true) (hp : p b = true) : (xs.take (i + 1)).all p = true := by
  rw [take_succ_get hb, List.all_append, h]; simp [hp]
theorem all_false {α : Type} {p : α → Bool} {xs : List α} {i : Nat} {b : α} (hb : xs[i]? = some b) (hp : p b = false) : xs.all p = false := by
  rw [Bool.eq_false_iff]
  intro h
  have := List.all_eq_true.1 h b (List.mem_of_getElem? hb)
  rw [hp] at this; cases this
theorem sRules (k : Nat) (l : List Timpl_Rule) (hk : l.length + 1048580 ≤ k) (hl : l.length ≤ 1048576) (hs : ∀ x ∈ l, x.Set.length ≤ 1048576) : Fspec_RulesOk k l = some (rulesOk l) := by
  unfold Fspec_RulesOk rulesOk
  by_cases h : (l.length : Int) > 20
  · rw [decide_eq_true h, decide_eq_false (by omega)]; rfl
  rw [decide_eq_false h, decide_eq_true (by omega)]
  simp only [cond_false, Bool.true_and]
  have := loop0 (L := fun k (_ : Unit) i => Fspec_RulesOk.l2 k l i) (xs := l) (k := k) (s := ()) (I := fun i _ => (l.take i).all ruleOk = true) (Q := fun r => r = l.all ruleOk) 1048578 (by omega) (by simp) ?_ ?_
  · obtain ⟨r, h1, rfl⟩ := this
    exact h1
  · intro k _ i b hk hb hi hI
    simp only [Fspec_RulesOk.l2]
    rw [ltD hi, atN hb, wid1 (by omega)]
    have hbl := hs b (List.mem_of_getElem? hb)
    simp only [cond_true, Option.bind_some, sRule k b (by omega) hbl]
    cases hp : ruleOk b
    · exact .inr ⟨false, rfl, (all_false hb hp).symm⟩
    · exact .inl ⟨(), rfl, all_take hb hI hp⟩
  · intro k _ _ hI
    simp only [Fspec_RulesOk.l2]
    rw [ltD0]
    rw [List.take_length] at hI
    exact ⟨_, rfl, hI.symm⟩
theorem iRules (k : Nat) (l : List Timpl_Rule) (hk : l.length + 1048580 ≤ k) (hl : l.length ≤ 1048576) (hs : ∀ x ∈ l, x.Set.length ≤ 1048576) : Fimpl_RulesOk k l = some (rulesOk l) := by
  unfold Fimpl_RulesOk rulesOk
  by_cases h : 20 < l.length
  · rw [decide_eq_false (p := (l.length : Int) ≤ 20) (by omega), decide_eq_false (by omega)]; rfl
  rw [decide_eq_true (p := (l.length : Int) ≤ 20) (by omega), decide_eq_true (p := l.length ≤ 20) (by omega)]
  simp only [cond_true, Bool.true_and]
  have := loop0 (L := fun k (_ : Unit) i => Fslices_IndexFunc_Rule__impl_RulesOk_1.l2 k l (l.length : Int) i) (xs := l) (k := k) (s := ()) (I := fun i _ => (l.take i).all ruleOk = true) (Q := fun r => decide (r ≥ 0) = !(l.all ruleOk)) 1048578 (by omega) (by simp) ?_ ?_
  · obtain ⟨r, h1, h2⟩ := this
    unfold Fslices_ContainsFunc_Rule__impl_RulesOk_1 Fslices_IndexFunc_Rule__impl_RulesOk_1
    rw [h1, Option.bind_some, h2, Option.bind_some, Bool.not_not]
  · intro k _ i b hk hb hi hI
    simp only [Fslices_IndexFunc_Rule__impl_RulesOk_1.l2, Fimpl_RulesOk_1]
    rw [ltD hi, atN hb, wid1 (by omega)]
    have hbl := hs b (List.mem_of_getElem? hb)
    simp only [cond_true, Option.bind_some, iRule k b (by omega) hbl]
    cases hp : ruleOk b
    · refine .inr ⟨_, rfl, ?_⟩
      rw [all_false hb hp, decide_eq_true (by omega)]; rfl
    · exact .inl ⟨(), rfl, all_take hb hI hp⟩
  · intro k _ _ hI
    simp only [Fslices_IndexFunc_Rule__impl_RulesOk_1.l2]
    rw [ltD0]
    rw [List.take_length] at hI
    refine ⟨_, rfl, ?_⟩
    rw [hI]; rfl
def SetV (s : List Int) : Prop := SS s ∧ ∀ x ∈ s, 0 ≤ x ∧ x ≤ 30
theorem ss_of_ris {l : List Int} (h : Ris l l.length) : SS l := by
  refine List.pairwise_iff_getElem.2 fun i j hi hj hij => ?_
  have key : ∀ (d i : Nat) (hi : i < l.length) (hj : i + d + 1 < l.length), l[i] < l[i + d + 1] := by
    intro d
    induction d with
    | zero => intro i hi hj; exact h i _ _ hj (List.getElem?_eq_getElem hi) (List.getElem?_eq_getElem hj)
    | succ d ih =>
      intro i hi hj
      have h1 := ih i hi (by omega)
      have h2 := h (i + d + 1) _ _ (by omega) (List.getElem?_eq_getElem (by omega)) (List.getElem?_eq_getElem (by omega : i + d + 1 + 1 < l.length))
      have e : i + (d + 1) + 1 = i + d + 1 + 1 := by omega
      simp only [e]; omega
  have := key (j - i - 1) i hi (by omega)
  simp only [show i + (j - i - 1) + 1 = j by omega] at this
  exact this
theorem setV {l : List Int} (h : setOk l = true) : SetV l := by
  obtain ⟨h1, h2⟩ := setOk_true.1 h
  refine ⟨ss_of_ris h2, fun x hx => ?_⟩
  obtain ⟨j, hj, rfl⟩ := List.mem_iff_getElem.1 hx
  exact h1 j _ hj (List.getElem?_eq_getElem hj)
def RV (r : Timpl_Rule) : Prop := (1 ≤ r.Kind ∧ r.Kind ≤ 3 ∧ r.N = 0 ∧ SetV r.Set) ∨ (4 ≤ r.Kind ∧ r.Kind ≤ 5 ∧ r.Set = [] ∧ 0 ≤ r.N ∧ r.N ≤ 100000)
theorem ruleV {r : Timpl_Rule} (h : ruleOk r = true) : RV r := by
  unfold ruleOk at h
  cases h1 : isIn r.Kind 1 3 with
  | true =>
    rw [h1] at h
    simp only [cond_true] at h
    cases h2 : (r.N == 0) with
    | true =>
      rw [h2] at h
      simp only [isIn, decide_eq_true_eq] at h1
      exact .inl ⟨h1.1, h1.2, by simpa using h2, setV h⟩
    | false => rw [h2] at h; cases h
  | false =>
    rw [h1] at h
    simp only [cond_false] at h
    cases h2 : isIn r.Kind 4 5 with
    | true =>
      rw [h2] at h
      simp only [cond_true] at h
      cases h3 : ((r.Set.length : Int) == 0) with
      | true =>
        rw [h3] at h
        simp only [cond_true, isIn, decide_eq_true_eq] at h h2
        refine .inr ⟨h2.1, h2.2, ?_, h.1, h.2⟩
        have : (r.Set.length : Int) = 0 := by simpa using h3
        exact List.eq_nil_of_length_eq_zero (by omega)
      | false => rw [h3] at h; cases h
    | false => rw [h2] at h; cases h
theorem rulesV {l : List Timpl_Rule} (h : rulesOk l = true) : l.length ≤ 20 ∧ ∀ r ∈ l, RV r := by
  unfold rulesOk at h
  simp only [Bool.and_eq_true, decide_eq_true_eq, List.all_eq_true] at h
  exact ⟨h.1, fun r hr => ruleV (h.2 r hr)⟩
theorem SetV.len {s : List Int} (h : SetV s) : s.length ≤ 31 := by
  have key : ∀ (s : List Int) (a : Int), SS s → (∀ x ∈ s, a ≤ x ∧ x ≤ 30) → (s.length : Int) ≤ 31 - a ∨ s = [] := by
    intro s
    induction s with
    | nil => intro a _ _; exact .inr rfl
    | cons x s ih =>
      intro a hs hx
      have h1 := List.pairwise_cons.1 hs
      have h2 := hx x List.mem_cons_self
      left
      rcases ih (x + 1) h1.2 (fun y hy => ⟨by have := h1.1 y hy; omega, (hx y (List.mem_cons_of_mem _ hy)).2⟩) with h3 | h3
      · simp only [List.length_cons]; omega
      · subst h3; simp; omega
  rcases key s 0 h.1 h.2 with h1 | h1
  · omega
  · subst h1; simp
theorem RV.len {r : Timpl_Rule} (h : RV r) : r.Set.length ≤ 31 := by
  rcases h with h | h
  · exact h.2.2.2.len
  · rw [h.2.2.1]; simp
def meetP (a b : Timpl_Rule) (n : Int) : Bool := (decide (n ∈ a.Set) && decide (n ∈ b.Set)) || (a.Kind == 3 && (decide (n ∈ a.Set) || decide (n ∈ b.Set)))
def upTo (n : Nat) : List Int := (List.range n).map fun i : Nat => (i : Int)
theorem mem_upTo {n : Nat} {x : Int} : x ∈ upTo n ↔ 0 ≤ x ∧ x < n := by
  unfold upTo
  simp only [List.mem_map, List.mem_range]
  constructor
  · rintro ⟨i, hi, rfl⟩; omega
  · intro h; exact ⟨x.toNat, by omega, by omega⟩
theorem ss_upTo (n : Nat) : SS (upTo n) := by
  unfold upTo
  rw [SS, List.pairwise_map]
  exact List.Pairwise.imp (fun h => by omega) List.pairwise_lt_range
def meetR (a b : Timpl_Rule) : Timpl_Rule := if a.Kind ≥ 4 then ⟨a.Kind, [], if a.N < b.N then a.N else b.N⟩ else ⟨a.Kind, (upTo 31).filter (meetP a b), 0⟩
theorem meet_kind (a b : Timpl_Rule) : (meetR a b).Kind = a.Kind := by unfold meetR; split <;> rfl
theorem meet_set {a b : Timpl_Rule} : SetV ((upTo 31).filter (meetP a b)) := by
  refine ⟨List.Pairwise.sublist List.filter_sublist (ss_upTo 31), fun x hx => ?_⟩
  have := mem_upTo.1 (List.mem_filter.1 hx).1; omega
theorem meet_rv {a b : Timpl_Rule} (ha : RV a) (hb : RV b) (hk : a.Kind = b.Kind) : RV (meetR a b) := by
  unfold meetR
  split
  · rename_i h
    rcases ha with h1 | h1
    · omega
    · rcases hb with h2 | h2
      · omega
      · exact .inr ⟨h1.1, h1.2.1, rfl, by simp only; split <;> omega, by simp only; split <;> omega⟩
  · rename_i h
    rcases ha with h1 | h1
    · exact .inl ⟨h1.1, h1.2.1, rfl, meet_set⟩
    · omega
theorem sMeetL (a b : Timpl_Rule) (ha : a.Set.length ≤ 1048576) (hb : b.Set.length ≤ 1048576) : ∀ (m n : Nat) (out : List Int), n + m = 31 → out = (upTo n).filter (meetP a b) → Ev (fun k => Fspec_l17Meet.l17 k (n : Int) a b out) ⟨a.Kind, (upTo 31).filter (meetP a b), 0⟩ := by
  intro m
  induction m with
  | zero =>
    intro n out hn ho
    have : n = 31 := by omega
    subst this
    refine Ev.succ ?_
    simp only [Fspec_l17Meet.l17]
    rw [decide_eq_false (by omega), ho]
    exact Ev.pure _
  | succ m ih =>
    intro n out hn ho
    have hol : out.length ≤ 31 := by
      rw [ho]; exact Nat.le_trans (List.length_filter_le _ _) (by simp [upTo]; omega)
    refine Ev.succ ?_
    simp only [Fspec_l17Meet.l17, Fspec_l17Meet.j20, Fspec_l17Meet.j19]
    rw [decide_eq_true (by omega)]
    simp only [cond_true, cond_false]
    refine Ev.bind (sHasI a.Set (n : Int) (by omega)) (Ev.bind (sHasI b.Set (n : Int) (by omega)) ?_)
    have e : upTo (n + 1) = upTo n ++ [(n : Int)] := by unfold upTo; rw [List.range_succ, List.map_append]; rfl
    have hin : meetP a b n = true → Ev (fun k => cond (decide ((2 * (out.length + ([(n : Int)] : List Int).length) + 192) * 8 ≤ 281474976710656)) (Fspec_l17Meet.l17 k (IntKind.i64.wrap ((n : Int) + 1)) a b (out ++ [(n : Int)])) none) ⟨a.Kind, (upTo 31).filter (meetP a b), 0⟩ := fun h => by
      rw [decide_eq_true (by simp only [List.length_cons, List.length_nil]; omega), wid1 (by omega)]
      exact ih (n + 1) _ (by omega) (by rw [ho, e, List.filter_append, List.filter_cons_of_pos h]; rfl)
    have hout : meetP a b n = false → Ev (fun k => Fspec_l17Meet.l17 k (IntKind.i64.wrap ((n : Int) + 1)) a b out) ⟨a.Kind, (upTo 31).filter (meetP a b), 0⟩ := fun h => by
      rw [wid1 (by omega)]
      exact ih (n + 1) _ (by omega) (by rw [ho, e, List.filter_append, List.filter_cons_of_neg (by rw [h]; simp)]; simp)
    have hP : meetP a b n = ((decide ((n : Int) ∈ a.Set) && decide ((n : Int) ∈ b.Set)) || (a.Kind == 3 && (decide ((n : Int) ∈ a.Set) || decide ((n : Int) ∈ b.Set)))) := rfl
    cases h1 : decide ((n : Int) ∈ a.Set) with
    | true =>
      cases h2 : decide ((n : Int) ∈ b.Set) with
      | true => exact hin (by rw [hP, h1, h2]; rfl)
      | false =>
        cases h3 : (a.Kind == 3) with
        | true => exact hin (by rw [hP, h1, h2, h3]; rfl)
        | false => exact hout (by rw [hP, h1, h2, h3]; rfl)
    | false =>
      cases h2 : decide ((n : Int) ∈ b.Set) with
      | true =>
        cases h3 : (a.Kind == 3) with
        | true => exact hin (by rw [hP, h1, h2, h3]; rfl)
        | false => exact hout (by rw [hP, h1, h2, h3]; rfl)
      | false =>
        cases h3 : (a.Kind == 3) with
        | true => exact hout (by rw [hP, h1, h2, h3]; rfl)
        | false => exact hout (by rw [hP, h1, h2, h3]; rfl)
theorem sMeet {a b : Timpl_Rule} (ha : a.Set.length ≤ 1048576) (hb : b.Set.length ≤ 1048576) : Ev (fun k => Fspec_l17Meet k a b) (meetR a b) := by
  simp only [Fspec_l17Meet, Fspec_l16Least]
  unfold meetR
  refine Ev.ite (fun hc => ?_) (fun hc => ?_)
  · rw [if_pos (of_decide_eq_true hc)]
    by_cases h : a.N < b.N
    · rw [decide_eq_true h, if_pos h]; exact Ev.pure _
    · rw [decide_eq_false h, if_neg h]; exact Ev.pure _
  · rw [if_neg (of_decide_eq_false hc)]
    exact sMeetL a b ha hb 31 0 [] rfl rfl
theorem iHasI (l : List Int) (x : Int) (hl : l.length ≤ 1099511627776) : Ev (fun k => Fslices_Contains_int k l x) (decide (x ∈ l)) := by
  simp only [Fslices_Contains_int, Fslices_Index_int]
  have := Ev.find (xs := l) (L := fun k i => Fslices_Index_int.l2 k l x (l.length : Int) i) (p := fun b => x == b) (g := fun i => (i : Int)) (e := -1) (by simp only [Fslices_Index_int.l2, ltD0, cond_false]; exact Ev.pure _) (fun i b r hb hi h1 h0 => by
    simp only [Fslices_Index_int.l2, ltD hi, cond_true]
    refine Ev.at? hb (Ev.ite (fun hc => (Ev.pure _).to (h1 hc).symm) (fun hc => ?_))
    rw [wid1 (by omega)]; exact h0 hc)
  refine Ev.bind this ((Ev.pure _).to ?_)
  rcases firstOf_some (p := fun b : Int => x == b) (g := fun i => (i : Int)) (e := (-1 : Int)) (i := 0) (xs := l) with ⟨j, b, h1, h2, h3⟩ | ⟨h1, h2⟩
  · rw [h3, decide_eq_true (by omega)]
    have : x = b := by simpa using h2
    rw [decide_eq_true (by rw [this]; exact List.mem_of_getElem? h1)]
  · rw [h2, decide_eq_false (by omega), decide_eq_false]
    intro h
    have := h1 x h
    simp at this
theorem iBothL {a b : Timpl_Rule} (m : Int) (ha : a.Set.length ≤ 1048576) (hb : b.Set.length ≤ 1048576) : ∀ (r : List Int) (i : Nat) (out : List Int), a.Set.drop i = r → out.length ≤ i → i ≤ a.Set.length → Ev (fun k => Fimpl_both.l8 k out a (a.Set.length : Int) (i : Int) m b) ⟨a.Kind, out ++ r.filter fun x => decide (x ∈ b.Set), m⟩ := by
  intro r
  induction r with
  | nil =>
    intro i out hd ho hi
    have : a.Set.length ≤ i := by simpa using hd
    refine Ev.succ ?_
    simp only [Fimpl_both.l8, Fimpl_both.j5]
    rw [decide_eq_false (by omega)]
    simp only [cond_false, List.filter_nil, List.append_nil]
    exact Ev.pure _
  | cons y r ih =>
    intro i out hd ho hi
    obtain ⟨h1, h2, h3⟩ := drop_at hd
    refine Ev.succ ?_
    simp only [Fimpl_both.l8, Fimpl_both.j9]
    rw [decide_eq_true (by omega)]
    simp only [cond_true]
    refine Ev.at? h2 (Ev.bind (iHasI b.Set y (by omega)) ?_)
    rw [wid1 (by omega)]
    refine Ev.ite (fun hc => ?_) (fun hc => ?_)
    · rw [decide_eq_true (by simp only [List.length_cons, List.length_nil]; omega), List.filter_cons_of_pos (p := fun x => decide (x ∈ b.Set)) hc]
      have := ih (i + 1) (out ++ [y]) h3 (by simp; omega) (by omega)
      rwa [List.append_assoc] at this
    · rw [List.filter_cons_of_neg (p := fun x => decide (x ∈ b.Set)) (by simp only [hc]; simp)]
      exact ih (i + 1) out h3 (by omega) (by omega)
theorem iBoth {a b : Timpl_Rule} (ha : RV a) (hb : RV b) (hk : a.Kind = b.Kind) : Ev (fun k => Fimpl_both k a b) (meetR a b) := by
  have la := ha.len
  have lb := hb.len
  simp only [Fimpl_both, Fimpl_copyInts, Fimpl_both.j5]
  refine Ev.ite (fun hc => ?_) (fun hc => ?_)
  · have h3 : a.Kind = 3 := by simpa using hc
    rw [decide_eq_true (by simp only [List.length_nil]; omega)]
    simp only [cond_true, Option.bind_some, List.nil_append]
    rw [decide_eq_true (by omega)]
    simp only [cond_true]
    refine Ev.bind (iRisen _ (by simp; omega)) ((Ev.pure _).to ?_)
    have va : a.N = 0 ∧ SetV a.Set := by rcases ha with h | h <;> first | exact h.2.2 | omega
    have vb : b.N = 0 ∧ SetV b.Set := by rcases hb with h | h <;> first | exact h.2.2 | omega
    unfold meetR
    rw [if_neg (by omega), va.1, vb.1, if_neg (by omega)]
    congr 1
    refine ss_ext (rsn_ss _) meet_set.1 fun x => ?_
    rw [rsn_mem, List.mem_append, List.mem_filter, mem_upTo]
    simp only [meetP, h3, BEq.rfl, Bool.true_and, Bool.or_eq_true, Bool.and_eq_true, decide_eq_true_eq]
    constructor
    · intro h
      refine ⟨?_, .inr h⟩
      rcases h with h | h
      · have := va.2.2 x h; omega
      · have := vb.2.2 x h; omega
    · rintro ⟨_, h | h⟩
      · exact .inl h.1
      · exact h
  · have h3 : ¬ a.Kind = 3 := by simpa using hc
    refine (iBothL _ (by omega) (by omega) a.Set 0 [] rfl (by simp) (by omega)).to ?_
    unfold meetR
    rw [List.nil_append]
    rcases ha with va | va
    · have vb : b.N = 0 ∧ SetV b.Set := by rcases hb with h | h <;> first | exact h.2.2 | omega
      rw [if_neg (by omega), va.2.2.1, vb.1, if_neg (by omega)]
      congr 1
      refine ss_ext (List.Pairwise.sublist List.filter_sublist va.2.2.2.1) meet_set.1 fun x => ?_
      rw [List.mem_filter, List.mem_filter, mem_upTo]
      simp only [meetP, show (a.Kind == 3) = false by simpa using h3, Bool.false_and, Bool.or_false, Bool.and_eq_true, decide_eq_true_eq]
      constructor
      · intro h
        refine ⟨?_, h⟩
        have := va.2.2.2.2 x h.1; omega
      · exact fun h => h.2
    · rw [if_pos va.1, va.2.2.1]
      have : (if b.N < a.N then b.N else a.N) = (if a.N < b.N then a.N else b.N) := by split <;> split <;> omega
      rw [this]; rfl
def kstep (k : Int) (o : Option Timpl_Rule) (r : Timpl_Rule) : Option Timpl_Rule := if r.Kind = k then some (match o with
  | none => r
  | some a => meetR a r) else o
def kindR (l : List Timpl_Rule) (k : Int) : Option Timpl_Rule := l.foldl (kstep k) none
def KV (k : Int) (o : Option Timpl_Rule) : Prop := ∀ a, o = some a → RV a ∧ a.Kind = k
theorem kv_step {k : Int} {o : Option Timpl_Rule} {r : Timpl_Rule} (h : KV k o) (hr : RV r) : KV k (kstep k o r) := by
  unfold kstep
  split
  · rename_i hk
    intro a ha
    cases o with
    | none => cases ha; exact ⟨hr, hk⟩
    | some b =>
      cases ha
      obtain ⟨h1, h2⟩ := h b rfl
      exact ⟨meet_rv h1 hr (by rw [h2, hk]), by rw [meet_kind, h2]⟩
  · exact h
theorem kv_fold {k : Int} : ∀ {l : List Timpl_Rule} {o : Option Timpl_Rule}, KV k o → (∀ r ∈ l, RV r) → KV k (l.foldl (kstep k) o)
  | [], _, h, _ => h
  | r :: l, _, h, hl => kv_fold (l := l) (kv_step h (hl r List.mem_cons_self)) fun r hr => hl r (List.mem_cons_of_mem _ hr)
theorem kindR_v {l : List Timpl_Rule} (hl : ∀ r ∈ l, RV r) {k : Int} {a : Timpl_Rule} (h : kindR l k = some a) : RV a ∧ a.Kind = k := kv_fold (k := k) (o := none) (fun _ h => by cases h) hl a h
def outR (o : Option Timpl_Rule) : Timpl_Rule := o.getD ⟨0, [], 0⟩
theorem sKindL {l : List Timpl_Rule} (hl : l.length ≤ 20) (hv : ∀ r ∈ l, RV r) (k : Int) : ∀ (r : List Timpl_Rule) (i : Nat) (o : Option Timpl_Rule), l.drop i = r → KV k o → Ev (fun f => Fspec_l17Kind.l7 f l k o.isSome (i : Int) (outR o).Kind (outR o).Set (outR o).N) (outR (r.foldl (kstep k) o), (r.foldl (kstep k) o).isSome) := by
  intro r
  induction r with
  | nil =>
    intro i o hd ho
    have : l.length ≤ i := by simpa using hd
    refine Ev.succ ?_
    simp only [Fspec_l17Kind.l7]
    rw [decide_eq_false (by omega)]
    exact Ev.pure _
  | cons y r ih =>
    intro i o hd ho
    obtain ⟨h1, h2, h3⟩ := drop_at hd
    have hy := hv y (List.mem_of_getElem? h2)
    have ly := hy.len
    refine Ev.succ ?_
    simp only [Fspec_l17Kind.l7, Fspec_l17Kind.j8, List.foldl_cons]
    rw [decide_eq_true (by omega), wid1 (by omega)]
    simp only [cond_true]
    refine Ev.at? h2 (Ev.ite (fun hc => ?_) (fun hc => ?_))
    · have hk : ¬ y.Kind = k := by simpa using hc
      have e : kstep k o y = o := if_neg hk
      rw [e]; exact ih (i + 1) o h3 ho
    · have hk : y.Kind = k := by simpa using hc
      cases o with
      | some a =>
        obtain ⟨ha, hak⟩ := ho a rfl
        have la := ha.len
        have e : kstep k (some a) y = some (meetR a y) := if_pos hk
        rw [e]
        simp only [Option.isSome_some, cond_true, outR, Option.getD_some]
        refine Ev.at? h2 (Ev.bind (sMeet (a := a) (by omega) (by omega)) ?_)
        have hkv := kv_step (k := k) (o := some a) ho hy
        rw [e] at hkv
        exact ih (i + 1) (some (meetR a y)) h3 hkv
      | none =>
        have e : kstep k none y = some y := if_pos hk
        rw [e]
        simp only [Option.isSome_none, cond_false]
        refine Ev.at? h2 ?_
        rw [decide_eq_true (by simp only [List.length_nil]; omega)]
        simp only [cond_true]
        refine Ev.at? h2 ?_
        have := ih (i + 1) (some y) h3 (fun a ha => by cases ha; exact ⟨hy, hk⟩)
        simp only [outR, Option.getD_some, Option.isSome_some, hk] at this
        simp only [List.nil_append]
        exact this
theorem sKind {l : List Timpl_Rule} (hl : l.length ≤ 20) (hv : ∀ r ∈ l, RV r) (k : Int) : Ev (fun f => Fspec_l17Kind f l k) (outR (kindR l k), (kindR l k).isSome) := by
  simp only [Fspec_l17Kind]
  exact sKindL hl hv k l 0 none rfl (fun _ h => by cases h)
def normR (l : List Timpl_Rule) : List Timpl_Rule := (kindR l 1).toList ++ (kindR l 2).toList ++ (kindR l 3).toList ++ (kindR l 4).toList ++ (kindR l 5).toList
theorem iNormL {l : List Timpl_Rule} (hl : l.length ≤ 60) (hv : ∀ r ∈ l, RV r) {k : Int} (hk5 : 1 ≤ k ∧ k ≤ 5) {R : List Timpl_Rule} : ∀ (r : List Timpl_Rule) (i : Nat) (cl : Nat → List Timpl_Rule → List Timpl_Rule → Int → Option (List Timpl_Rule)) (out : List Timpl_Rule) (o : Option Timpl_Rule), l.drop i = r → KV k o → out.length ≤ 10 →
    Ev (fun f => cl f l (out ++ (r.foldl (kstep k) o).toList) (k + 1)) R → Ev (fun f => Fimpl_normal.l49 (cl f) f l (out ++ o.toList) k o.isSome (l.length : Int) (i : Int)) R := by
  intro r
  induction r with
  | nil =>
    intro i cl out o hd ho hol h
    have : l.length ≤ i := by simpa using hd
    refine Ev.succ ?_
    simp only [Fimpl_normal.l49]
    rw [decide_eq_false (by omega), wid (n := k + 1) (by omega) (by omega)]
    exact h.shift
  | cons y r ih =>
    intro i cl out o hd ho hol h
    obtain ⟨h1, h2, h3⟩ := drop_at hd
    have hy := hv y (List.mem_of_getElem? h2)
    have ly := hy.len
    refine Ev.succ ?_
    simp only [Fimpl_normal.l49, Fimpl_normal.j50, Fimpl_copyInts]
    rw [decide_eq_true (by omega), wid1 (by omega)]
    simp only [cond_true]
    simp only [List.foldl_cons] at h
    refine Ev.at? h2 (Ev.ite (fun hc => ?_) (fun hc => ?_))
    · have hk : ¬ y.Kind = k := by simpa using hc
      have e : kstep k o y = o := if_neg hk
      rw [e] at h; exact ih (i + 1) (fun f => cl (f + 1)) out o h3 ho hol h.shift
    · have hk : y.Kind = k := by simpa using hc
      cases o with
      | some a =>
        obtain ⟨ha, hak⟩ := ho a rfl
        have e : kstep k (some a) y = some (meetR a y) := if_pos hk
        have hkv := kv_step (k := k) (o := some a) ho hy
        rw [e] at h hkv
        simp only [Option.isSome_some, cond_true, Option.toList_some]
        have hlast : (out ++ [a])[out.length]? = some a := by simp
        have hL : IntKind.i64.wrap (((out ++ [a]).length : Int) - 1) = ((out.length : Nat) : Int) := by
          rw [List.length_append, List.length_cons, List.length_nil, wid (by omega) (by omega)]; omega
        rw [hL]
        refine Ev.at? hlast (Ev.bind (iBoth ha hy (by rw [hak, hk])) (Ev.at? hlast ?_))
        rw [Int.toNat_natCast, List.set_append_right _ _ (Nat.le_refl _), Nat.sub_self]
        exact ih (i + 1) (fun f => cl (f + 1)) out (some (meetR a y)) h3 hkv hol h.shift
      | none =>
        have e : kstep k none y = some y := if_pos hk
        rw [e] at h
        simp only [Option.isSome_none, cond_false, Option.toList_none, List.append_nil]
        rw [decide_eq_true (by simp only [List.length_nil]; omega)]
        simp only [cond_true, Option.bind_some, List.nil_append]
        rw [decide_eq_true (by simp only [List.length_cons, List.length_nil]; omega)]
        simp only [cond_true]
        have := ih (i + 1) (fun f => cl (f + 1)) out (some y) h3 (fun a ha => by cases ha; exact ⟨hy, hk⟩) hol h.shift
        simp only [Option.toList_some, Option.isSome_some] at this
        rw [← hk] at this ⊢
        exact this
theorem optLen (o : Option Timpl_Rule) : o.toList.length ≤ 1 := by cases o <;> simp
theorem iNormal {l : List Timpl_Rule} (hl : l.length ≤ 60) (hv : ∀ r ∈ l, RV r) : Ev (fun f => Fimpl_normal f l) (normR l) := by
  simp only [Fimpl_normal]
  have kn : ∀ k : Int, KV k none := fun k a h => by cases h
  have step : ∀ (k : Int) (out : List Timpl_Rule), 1 ≤ k ∧ k ≤ 5 → out.length ≤ 10 → Ev (fun f => Fimpl_normal.l42 f l (out ++ (kindR l k).toList) (k + 1)) (normR l) → Ev (fun f => Fimpl_normal.l42 f l out k) (normR l) := fun k out hk ho h => by
    refine Ev.succ ?_
    simp only [Fimpl_normal.l42]
    rw [decide_eq_true (by omega)]
    simp only [cond_true]
    have := iNormL hl hv hk l 0 (fun f => Fimpl_normal.l42 f) out none rfl (kn k) ho h
    simpa using this
  have l1 := optLen (kindR l 1)
  have l2 := optLen (kindR l 2)
  have l3 := optLen (kindR l 3)
  have l4 := optLen (kindR l 4)
  refine step 1 [] (by omega) (by simp) (step 2 _ (by omega) (by simp; omega) (step 3 _ (by omega) (by simp only [List.length_append, List.length_nil]; omega) (step 4 _ (by omega) (by simp only [List.length_append, List.length_nil]; omega) (step 5 _ (by omega) (by simp only [List.length_append, List.length_nil]; omega) (Ev.succ ?_)))))
  simp only [Fimpl_normal.l42]
  rw [decide_eq_false (by omega)]
  simp only [cond_false, List.nil_append]
  exact Ev.pure _
theorem mem_normR {l : List Timpl_Rule} (hv : ∀ r ∈ l, RV r) {r : Timpl_Rule} : r ∈ normR l ↔ kindR l r.Kind = some r := by
  unfold normR
  simp only [List.mem_append, Option.mem_toList]
  constructor
  · intro h
    rcases h with (((h | h) | h) | h) | h
    all_goals
      have := (kindR_v hv h).2
      rw [this]; exact h
  · intro h
    have hk := (kindR_v hv h).1
    have h5 : r.Kind = 1 ∨ r.Kind = 2 ∨ r.Kind = 3 ∨ r.Kind = 4 ∨ r.Kind = 5 := by rcases hk with h | h <;> omega
    rcases h5 with e | e | e | e | e
    all_goals rw [e] at h
    · exact .inl (.inl (.inl (.inl h)))
    · exact .inl (.inl (.inl (.inr h)))
    · exact .inl (.inl (.inr h))
    · exact .inl (.inr h)
    · exact .inr h
theorem normR_len (l : List Timpl_Rule) : (normR l).length ≤ 5 := by
  unfold normR
  have l1 := optLen (kindR l 1)
  have l2 := optLen (kindR l 2)
  have l3 := optLen (kindR l 3)
  have l4 := optLen (kindR l 4)
  have l5 := optLen (kindR l 5)
  simp only [List.length_append]; omega
def sumW {α : Type} (w : α → Nat) : List α → Nat
  | [] => 0
  | x :: xs => w x + sumW w xs
def markW {α : Type} (g : Int → α → α) (w : α → Nat) : Int → List α → List α
  | _, [] => []
  | n, x :: xs => g n x :: markW g w (n + w x) xs
theorem markW_length {α : Type} (g : Int → α → α) (w : α → Nat) : ∀ (n : Int) (xs : List α), (markW g w n xs).length = xs.length
  | _, [] => rfl
  | n, x :: xs => by simp only [markW, List.length_cons, markW_length g w]
theorem sumW_le {α : Type} {w : α → Nat} {c : Nat} : ∀ {xs : List α}, (∀ x ∈ xs, w x ≤ c) → sumW w xs ≤ c * xs.length
  | [], _ => by simp [sumW]
  | x :: xs, h => by
    have h1 := h x List.mem_cons_self
    have h2 := sumW_le (w := w) (xs := xs) fun y hy => h y (List.mem_cons_of_mem _ hy)
    simp only [sumW, List.length_cons, Nat.mul_add, Nat.mul_one]; omega
theorem set_mid {α : Type} (a : List α) (x y : α) (b : List α) : (a ++ x :: b).set a.length y = a ++ [y] ++ b := by
  rw [List.set_append_right _ _ (Nat.le_refl _), Nat.sub_self, List.set_cons_zero]; simp
theorem get_mid {α : Type} (a : List α) (x : α) (b : List α) : (a ++ x :: b)[a.length]? = some x := by
  rw [List.getElem?_append_right (Nat.le_refl _), Nat.sub_self]; rfl
theorem Ev.markW {α : Type} {L : Nat → List α → Int → Int → Option (Int × List α)} {g : Int → α → α} {w : α → Nat}
    (hnil : ∀ xs n, Ev (fun k => L (k + 1) xs n (xs.length : Int)) (n, xs))
    (hcons : ∀ (i : Nat) (b : α) (xs : List α) (n : Int) r, xs[i]? = some b → i < xs.length → 0 ≤ n → n + w b ≤ 4611686018427387904 → xs.length ≤ 4611686018427387904 → Ev (fun k => L k (xs.set i (g n b)) (n + w b) ((i + 1 : Nat) : Int)) r → Ev (fun k => L (k + 1) xs n (i : Int)) r) :
    ∀ (rest done : List α) (n : Int), 0 ≤ n → n + sumW w rest ≤ 4611686018427387904 → (done ++ rest).length ≤ 4611686018427387904 → Ev (fun k => L k (done ++ rest) n (done.length : Int)) (n + sumW w rest, done ++ M.markW g w n rest)
  | [], done, n, h0, hb, hl => by
    refine Ev.succ ?_
    have := hnil done n
    simpa [M.markW, sumW] using this
  | x :: rest, done, n, h0, hb, hl => by
    simp only [sumW] at hb
    have hw : (0 : Int) ≤ (sumW w rest : Int) := by omega
    have ih := Ev.markW hnil hcons rest (done ++ [g n x]) (n + w x) (by omega) (by omega) (by simpa using hl)
    refine Ev.succ (hcons done.length x (done ++ x :: rest) n _ (get_mid _ _ _) (by simp) h0 (by omega) hl ?_)
    rw [set_mid, show ((done.length + 1 : Nat) : Int) = ((done ++ [g n x]).length : Int) by simp]
    simp only [M.markW, sumW]
    rw [show n + ((w x + sumW w rest : Nat) : Int) = n + (w x : Int) + (sumW w rest : Int) by omega, show done ++ g n x :: M.markW g w (n + w x) rest = done ++ [g n x] ++ M.markW g w (n + w x) rest by simp]
    exact ih
theorem Ev.heldW {α : Type} {L : Nat → List α → Int → Int → Option Int} {g : Int → α → α} {w : α → Nat} {ys : List α} (hly : ys.length ≤ 4611686018427387904)
    (hnil : ∀ j, Ev (fun k => L (k + 1) ys j (ys.length : Int)) j)
    (hcons : ∀ (i : Nat) (b : α) (j : Int) r, ys[i]? = some (g j b) → i < ys.length → 0 ≤ j → j + w b ≤ 4611686018427387904 → Ev (fun k => L k ys (j + w b) ((i + 1 : Nat) : Int)) r → Ev (fun k => L (k + 1) ys j (i : Int)) r) :
    ∀ (rest done : List α) (n : Int), ys = done ++ M.markW g w n rest → 0 ≤ n → n + sumW w rest ≤ 4611686018427387904 → Ev (fun k => L k ys n (done.length : Int)) (n + sumW w rest)
  | [], done, n, h, h0, hb => by
    refine Ev.succ ?_
    have := hnil n
    rw [h] at this ⊢
    simpa [M.markW, sumW] using this
  | x :: rest, done, n, h, h0, hb => by
    simp only [sumW] at hb
    simp only [M.markW] at h
    have ih := Ev.heldW hly hnil hcons rest (done ++ [g n x]) (n + w x) (by rw [h]; simp) (by omega) (by omega)
    have hg : ys[done.length]? = some (g n x) := by rw [h]; exact get_mid _ _ _
    refine Ev.succ (hcons done.length x n _ hg (List.getElem?_eq_some_iff.1 hg).1 h0 (by omega) ?_)
    rw [show ((done.length + 1 : Nat) : Int) = ((done ++ [g n x]).length : Int) by simp]
    simp only [sumW]
    rw [show n + ((w x + sumW w rest : Nat) : Int) = n + (w x : Int) + (sumW w rest : Int) by omega]
    exact ih
theorem szIntS_ev (a : List Int) (w : (Go.MG.wfR Go.MG.wfI) a) (n : Int) (hn : 0 ≤ n) (hb : n ≤ 1048576) : EvP (fun k => Flaws_szIntS k a n) (fun r => r < 0 ∨ (0 ≤ r ∧ r ≤ n ∧ (a.length ≤ 1048576))) := by
  simp only [Flaws_szIntS]
  have hw := w.1; unfold big at hw
  rw [wid (n := n - (a.length : Int)) (by omega) (by omega)]
  refine EvP.ite (fun _ => EvP.pure (.inl (by decide))) (fun hc => ?_)
  have hc : ¬ n - (a.length : Int) < 0 := by simpa using hc
  exact EvP.pure (.inr ⟨by omega, by omega, by omega⟩)
def cvRule (a : Tlaws_Rule) : Timpl_Rule := ⟨a.Kind, a.Set, a.N⟩
def smRule (a : Tlaws_Rule) : Prop := (a.Set.length ≤ 1048576)
theorem szRule_ev (a : Tlaws_Rule) (w : wfTlaws_Rule a) (n : Int) (hn : 0 ≤ n) (hb : n ≤ 1048576) : EvP (fun k => Flaws_szRule k a n) (fun r => r < 0 ∨ (0 ≤ r ∧ r ≤ n ∧ smRule a)) := by
  simp only [Flaws_szRule]
  refine EvP.bind (szIntS_ev a.Set w.2.1 n (by omega) (by omega)) (fun r1 hr1 => ?_)
  refine EvP.ite (fun _ => EvP.pure (.inl (by decide))) (fun hc => ?_)
  obtain ⟨p1, q1, s1⟩ := hr1.resolve_left (by simpa using hc)
  exact EvP.pure (.inr ⟨by omega, by omega, s1⟩)
theorem szRuleS_ev (a : List Tlaws_Rule) (w : (Go.MG.wfR wfTlaws_Rule) a) (n : Int) (hn : 0 ≤ n) (hb : n ≤ 1048576) : EvP (fun k => Flaws_szRuleS k a n) (fun r => r < 0 ∨ (0 ≤ r ∧ r ≤ n ∧ (a.length ≤ 1048576 ∧ ∀ x ∈ a, smRule x))) := by
  simp only [Flaws_szRuleS]
  have hw := w.1; unfold big at hw
  rw [wid (n := n - (a.length : Int)) (by omega) (by omega)]
  refine EvP.ite (fun _ => EvP.pure (.inl (by decide))) (fun hc => ?_)
  have hc : ¬ n - (a.length : Int) < 0 := by simpa using hc
  refine EvP.for (xs := a) (L := fun k s i => Flaws_szRuleS.l2 k a s i) (fun i m => 0 ≤ m ∧ m ≤ n ∧ ∀ x ∈ a.take i, smRule x) (fun m hm => ?_) (fun i b m hb' hi hm hr => ?_) _ ⟨by omega, by omega, by simp⟩
  · simp only [Flaws_szRuleS.l2, ltD0, cond_false]
    exact EvP.pure (.inr ⟨hm.1, hm.2.1, by omega, by simpa using hm.2.2⟩)
  · simp only [Flaws_szRuleS.l2, ltD hi, cond_true]
    refine EvP.at? hb' (EvP.bind (szRule_ev b (w.2 b (List.mem_of_getElem? hb')) m hm.1 (by omega)) (fun r hr1 => ?_))
    refine EvP.ite (fun _ => EvP.pure (.inl (by decide))) (fun hc => ?_)
    have hc : ¬ r < 0 := by simpa using hc
    obtain ⟨h1, h2, h3⟩ := hr1.resolve_left hc
    rw [wid1 (by omega)]
    refine hr r ⟨h1, by omega, fun x hx => ?_⟩
    rw [take_succ_get hb'] at hx
    rcases List.mem_append.1 hx with hx | hx
    · exact hm.2.2 x hx
    · rw [List.mem_singleton.1 hx]; exact h3
theorem toIntS_ev (xs : List Int) (h : (xs.length ≤ 1048576)) : Ev (fun k => Flaws_toIntS k xs) xs := by
  have hl : xs.length ≤ 1048576 := h
  simp only [Flaws_toIntS]
  refine Ev.ite (fun _ => ?_) (fun hc => by rw [decide_eq_true (by omega)] at hc; cases hc)
  simp only [Int.toNat_natCast]
  refine Ev.to (a := xs.map id) ?_ (List.map_id xs)
  exact Ev.copy (xs := xs) (L := fun k s i => Flaws_toIntS.l2 k xs s i) (f := id) (z := (0 : Int)) (fun s => by simp only [Flaws_toIntS.l2, ltD0, cond_false]; exact Ev.pure _) (fun i b s r hb hi hz hr => by
    simp only [Flaws_toIntS.l2, ltD hi, cond_true]
    refine Ev.at? hb (Ev.at? hz ?_)
    rw [wid1 (by omega)]; simpa only [Int.toNat_natCast, id] using hr)
theorem toRule_ev (a : Tlaws_Rule) (h : smRule a) : Ev (fun k => Flaws_toRule k a) (cvRule a) := by
  simp only [Flaws_toRule]
  refine Ev.bind (toIntS_ev _ h) ?_
  exact Ev.pure _
theorem toRuleS_ev (xs : List Tlaws_Rule) (h : (xs.length ≤ 1048576 ∧ ∀ x ∈ xs, smRule x)) : Ev (fun k => Flaws_toRuleS k xs) (xs.map cvRule) := by
  have hl : xs.length ≤ 1048576 := h.1
  simp only [Flaws_toRuleS]
  refine Ev.ite (fun _ => ?_) (fun hc => by rw [decide_eq_true (by omega)] at hc; cases hc)
  simp only [Int.toNat_natCast]
  exact Ev.copy (xs := xs) (L := fun k s i => Flaws_toRuleS.l2 k xs s i) (f := cvRule) (z := (⟨(0 : Int), [], (0 : Int)⟩ : Timpl_Rule)) (fun s => by simp only [Flaws_toRuleS.l2, ltD0, cond_false]; exact Ev.pure _) (fun i b s r hb hi hz hr => by
    simp only [Flaws_toRuleS.l2, ltD hi, cond_true]
    refine Ev.at? hb (Ev.bind (toRule_ev b (h.2 b (List.mem_of_getElem? hb))) (Ev.at? hz ?_))
    rw [wid1 (by omega)]; simpa only [Int.toNat_natCast] using hr)
theorem eqIntS_ev (xs : List Int) (h : (xs.length ≤ 1099511627776)) : Ev (fun k => Flaws_eqIntS k xs xs) true := by
  have hl : xs.length ≤ 1099511627776 := h
  simp only [Flaws_eqIntS, bne_self_eq_false, cond_false]
  refine Ev.for (xs := xs) (L := fun k (_ : Unit) i => Flaws_eqIntS.l2 k xs xs i) (f := fun _ _ => true) (fun s => by simp only [Flaws_eqIntS.l2, ltD0, cond_false]; exact Ev.pure _) (fun i b s hb hi hr => ?_) ()
  simp only [Flaws_eqIntS.l2, ltD hi, cond_true]
  refine Ev.at? hb (Ev.at? hb (?_))
  simp only [bne_self_eq_false, Bool.not_true, cond_false]
  rw [wid1 (by omega)]; exact hr ()
def okRule (a : Timpl_Rule) : Prop := (a.Set.length ≤ 1099511627776)
theorem eqRule_ev (a : Timpl_Rule) (h : okRule a) : Ev (fun k => Flaws_eqRule k a a) true := by
  simp only [Flaws_eqRule, bne_self_eq_false, cond_false]
  refine Ev.bind (eqIntS_ev _ h) ?_
  simp only [Bool.not_true, cond_false]
  exact Ev.pure _
theorem eqRuleS_ev (xs : List Timpl_Rule) (h : (xs.length ≤ 1099511627776 ∧ ∀ x ∈ xs, okRule x)) : Ev (fun k => Flaws_eqRuleS k xs xs) true := by
  have hl : xs.length ≤ 1099511627776 := h.1
  simp only [Flaws_eqRuleS, bne_self_eq_false, cond_false]
  refine Ev.for (xs := xs) (L := fun k (_ : Unit) i => Flaws_eqRuleS.l2 k xs xs i) (f := fun _ _ => true) (fun s => by simp only [Flaws_eqRuleS.l2, ltD0, cond_false]; exact Ev.pure _) (fun i b s hb hi hr => ?_) ()
  simp only [Flaws_eqRuleS.l2, ltD hi, cond_true]
  refine Ev.at? hb (Ev.at? hb (Ev.bind (eqRule_ev b (h.2 b (List.mem_of_getElem? hb))) ?_))
  simp only [bne_self_eq_false, Bool.not_true, cond_false]
  rw [wid1 (by omega)]; exact hr ()
def mkIntS (n : Int) (_ : Int) : Int := n
theorem markIntS_ev (xs : List Int) (n : Int) (hn : 0 ≤ n) (hb : n + 1 * xs.length ≤ 4611686018427387904) (hl : xs.length ≤ 4611686018427387904) : Ev (fun k => Flaws_markIntS k xs n) (n + 1 * xs.length, markL mkIntS 1 n xs) := by
  simp only [Flaws_markIntS]
  refine Ev.mark (L := fun k xs n i => Flaws_markIntS.l2 k xs n i) (g := mkIntS) (w := 1) (fun xs n => by simp only [Flaws_markIntS.l2, ltD0, cond_false]; exact Ev.pure _) (fun i b xs n r hb hi h0 h1 h2 hr => ?_) xs n hn hb hl
  simp only [Flaws_markIntS.l2, ltD hi, cond_true]
  refine Ev.at? hb ?_
  simp (disch := omega) only [Int.toNat_natCast, List.set_set, atSet hi, Option.bind_some, widR, Int.add_assoc, Int.reduceAdd]
  exact hr
theorem heldIntS_ev (xs : List Int) (n : Int) (hn : 0 ≤ n) (hb : n + 1 * xs.length ≤ 4611686018427387904) (hl : xs.length ≤ 4611686018427387904) : Ev (fun k => Flaws_heldIntS k (markL mkIntS 1 n xs) n) (n + 1 * xs.length) := by
  simp only [Flaws_heldIntS]
  refine Ev.held (L := fun k xs n i => Flaws_heldIntS.l2 k xs n i) (g := mkIntS) (w := 1) hn hb hl (fun xs n => by simp only [Flaws_heldIntS.l2, ltD0, cond_false]; exact Ev.pure _) (fun i b xs n r hb hi h0 h1 h2 hr => ?_)
  simp only [Flaws_heldIntS.l2, ltD hi, cond_true]
  simp (disch := omega) only [atN hb, mkIntS, Option.bind_some, widR, Int.add_assoc, Int.reduceAdd, bne_self_eq_false, cond_false]
  exact hr
theorem okcvRule {a : Tlaws_Rule} (h : smRule a) : okRule (cvRule a) := (by have := h; (try simp only [smRule] at this); simp only [okRule, cvRule]; omega)
def mkRuleW (n : Int) (b : Timpl_Rule) : Timpl_Rule := ⟨n, markL mkIntS 1 (n + 1) b.Set, n + 1 + b.Set.length⟩
def wRule (b : Timpl_Rule) : Nat := 2 + b.Set.length
theorem markRuleS_evW (xs : List Timpl_Rule) (n : Int) (hn : 0 ≤ n) (hb : n + sumW wRule xs ≤ 4611686018427387904) (hl : xs.length ≤ 4611686018427387904) : Ev (fun k => Flaws_markRuleS k xs n) (n + sumW wRule xs, markW mkRuleW wRule n xs) := by
  simp only [Flaws_markRuleS]
  refine Ev.markW (L := fun k xs n i => Flaws_markRuleS.l2 k xs n i) (g := mkRuleW) (w := wRule) (fun xs n => by simp only [Flaws_markRuleS.l2, ltD0, cond_false]; exact Ev.pure _) (fun i b xs n r hb hi h0 h1 h2 hr => ?_) xs [] n hn hb hl
  have hw : (wRule b : Int) = 2 + b.Set.length := by simp [wRule]
  simp only [Flaws_markRuleS.l2, ltD hi, cond_true]
  refine Ev.at? hb ?_
  simp (disch := omega) only [Int.toNat_natCast, List.set_set, atSet hi, Option.bind_some, widR, Int.add_assoc, Int.reduceAdd]
  refine Ev.bind (markIntS_ev b.Set (n + 1) (by omega) (by omega) (by omega)) ?_
  simp (disch := omega) only [Int.toNat_natCast, List.set_set, atSet hi, Option.bind_some, widR, Int.add_assoc, Int.reduceAdd, Int.one_mul]
  have e : n + (1 + ((b.Set.length : Int) + 1)) = n + (wRule b : Int) := by omega
  simp only [e]
  rw [show ((i : Int) + 1) = ((i + 1 : Nat) : Int) by omega]
  simp only [mkRuleW, Int.add_assoc] at hr
  exact hr
theorem heldRuleS_evW (xs : List Timpl_Rule) (n : Int) (hn : 0 ≤ n) (hb : n + sumW wRule xs ≤ 4611686018427387904) (hl : xs.length ≤ 4611686018427387904) : Ev (fun k => Flaws_heldRuleS k (markW mkRuleW wRule n xs) n) (n + sumW wRule xs) := by
  simp only [Flaws_heldRuleS]
  refine Ev.heldW (L := fun k xs n i => Flaws_heldRuleS.l2 k xs n i) (g := mkRuleW) (w := wRule) (ys := markW mkRuleW wRule n xs) (by rw [markW_length]; exact hl) (fun n => by simp only [Flaws_heldRuleS.l2, ltD0, cond_false]; exact Ev.pure _) (fun i b j r hb hi h0 h1 hr => ?_) xs [] n rfl hn hb
  have hw : (wRule b : Int) = 2 + b.Set.length := by simp [wRule]
  have hlm := markW_length mkRuleW wRule n xs
  simp only [Flaws_heldRuleS.l2, ltD hi, cond_true]
  simp (disch := omega) only [atN hb, mkRuleW, Option.bind_some, widR, Int.add_assoc, Int.reduceAdd, bne_self_eq_false, cond_false]
  refine Ev.bind (heldIntS_ev b.Set (j + 1) (by omega) (by omega) (by omega)) ?_
  rw [decide_eq_false (by omega)]
  simp (disch := omega) only [cond_false, Int.one_mul, Int.add_assoc, bne_self_eq_false, widR]
  have e : j + (1 + ((b.Set.length : Int) + 1)) = j + (wRule b : Int) := by omega
  simp only [e]
  rw [show ((i : Int) + 1) = ((i + 1 : Nat) : Int) by omega]
  exact hr
theorem rulesEv {l : List Timpl_Rule} (hl : l.length ≤ 1048576) (hs : ∀ x ∈ l, x.Set.length ≤ 1048576) : Ev (fun k => Fspec_RulesOk k l) (rulesOk l) ∧ Ev (fun k => Fimpl_RulesOk k l) (rulesOk l) := ⟨⟨l.length + 1048580, fun k hk => sRules k l hk hl hs⟩, ⟨l.length + 1048580, fun k hk => iRules k l hk hl hs⟩⟩
theorem smRules {a : List Tlaws_Rule} (s : a.length ≤ 1048576 ∧ ∀ x ∈ a, smRule x) : (a.map cvRule).length ≤ 1048576 ∧ ∀ x ∈ a.map cvRule, x.Set.length ≤ 1048576 := ⟨by rw [List.length_map]; exact s.1, fun x hx => by
  obtain ⟨y, hy, rfl⟩ := List.mem_map.1 hx
  exact s.2 y hy⟩
theorem sNormal {l : List Timpl_Rule} (hl : l.length ≤ 1048576) (hs : ∀ x ∈ l, x.Set.length ≤ 1048576) : Ev (fun f => Fspec_Normal f l) (if rulesOk l = true then normR l else []) := by
  have hR := (rulesEv hl hs).1
  simp only [Fspec_Normal]
  by_cases hA : rulesOk l = true
  case neg =>
    have hA : rulesOk l = false := by simpa using hA
    rw [hA] at hR ⊢
    refine Ev.succ ?_
    simp only [Fspec_Normal.l7]
    rw [decide_eq_true (by omega)]
    simp only [cond_true]
    refine Ev.bind hR ?_
    simp only [cond_false]
    exact Ev.pure _
  rw [if_pos hA]
  rw [hA] at hR
  obtain ⟨hl20, hv⟩ := rulesV hA
  have step : ∀ (k : Int) (out : List Timpl_Rule), 1 ≤ k ∧ k ≤ 5 → out.length ≤ 10 → Ev (fun f => Fspec_Normal.l7 f l (out ++ (kindR l k).toList) (k + 1)) (normR l) → Ev (fun f => Fspec_Normal.l7 f l out k) (normR l) := fun k out hk ho h => by
    refine Ev.succ ?_
    simp only [Fspec_Normal.l7]
    rw [decide_eq_true (by omega)]
    simp only [cond_true]
    refine Ev.bind hR ?_
    simp only [cond_true]
    refine Ev.bind (sKind hl20 hv k) ?_
    cases hk2 : kindR l k with
    | none =>
      rw [hk2] at h
      simp only [Option.isSome_none, cond_false, Fspec_Normal.j8]
      rw [wid (by omega) (by omega)]
      simpa using h
    | some a =>
      rw [hk2] at h
      simp only [Option.isSome_some, cond_true, Fspec_Normal.j8, outR]
      rw [decide_eq_true (by simp only [List.length_cons, List.length_nil]; omega), wid (by omega) (by omega)]
      simp only [cond_true]
      simpa using h
  have l1 := optLen (kindR l 1)
  have l2 := optLen (kindR l 2)
  have l3 := optLen (kindR l 3)
  have l4 := optLen (kindR l 4)
  refine step 1 [] (by omega) (by simp) (step 2 _ (by omega) (by simp; omega) (step 3 _ (by omega) (by simp only [List.length_append, List.length_nil]; omega) (step 4 _ (by omega) (by simp only [List.length_append, List.length_nil]; omega) (step 5 _ (by omega) (by simp only [List.length_append, List.length_nil]; omega) (Ev.succ ?_)))))
  simp only [Fspec_Normal.l7]
  rw [decide_eq_false (by omega)]
  simp only [cond_false, List.nil_append]
  exact Ev.pure _
theorem rules_app {a b : List Timpl_Rule} (ha : rulesOk a = true) (hb : rulesOk b = true) (h : a.length + b.length ≤ 20) : rulesOk (a ++ b) = true := by
  unfold rulesOk at ha hb ⊢
  simp only [Bool.and_eq_true, List.all_append, List.length_append] at ha hb ⊢
  exact ⟨decide_eq_true h, ha.2, hb.2⟩
noncomputable def joinS (a b : List Timpl_Rule) : List Timpl_Rule := if (rulesOk a = true ∧ rulesOk b = true) ∧ a.length + b.length ≤ 20 then normR (a ++ b) else []
theorem capJ {n : Nat} (h : n ≤ 2097152) : decide ((2 * n + 192) * 40 ≤ 281474976710656) = true := decide_eq_true (by omega)
theorem sJoined {a b : List Timpl_Rule} (ha : a.length ≤ 1048576) (hsa : ∀ x ∈ a, x.Set.length ≤ 1048576) (hb : b.length ≤ 1048576) (hsb : ∀ x ∈ b, x.Set.length ≤ 1048576) : Ev (fun f => Fspec_Joined f a b) (joinS a b) := by
  simp only [Fspec_Joined]
  unfold joinS
  refine Ev.bind (rulesEv ha hsa).1 (Ev.ite (fun h => ?_) (fun h1 => Ev.bind (rulesEv hb hsb).1 (Ev.ite (fun h => ?_) (fun h2 => Ev.ite (fun h => ?_) (fun h3 => ?_)))))
  · rw [if_neg (fun e => by rw [e.1.1] at h; cases h)]; exact Ev.pure _
  · rw [if_neg (fun e => by rw [e.1.2] at h; cases h)]; exact Ev.pure _
  · have h := of_decide_eq_true h
    rw [wid (by omega) (by omega)] at h
    rw [if_neg (fun e => by omega)]; exact Ev.pure _
  have h3 := of_decide_eq_false h3
  rw [wid (by omega) (by omega)] at h3
  have h1 : rulesOk a = true := by simpa using h1
  have h2 : rulesOk b = true := by simpa using h2
  have hl : a.length + b.length ≤ 20 := by omega
  rw [if_pos ⟨⟨h1, h2⟩, hl⟩]
  simp only [List.nil_append, List.length_nil, Nat.zero_add]
  rw [capJ (by omega), capJ (by omega)]
  simp only [cond_true]
  have hr := rules_app h1 h2 hl
  have := sNormal (l := a ++ b) (by rw [List.length_append]; omega) (fun x hx => by rcases List.mem_append.1 hx with h | h; exact hsa x h; exact hsb x h)
  rw [if_pos hr] at this
  exact Ev.bind this (Ev.pure _)
theorem iJoined {a b : List Timpl_Rule} (ha : a.length ≤ 1048576) (hsa : ∀ x ∈ a, x.Set.length ≤ 1048576) (hb : b.length ≤ 1048576) (hsb : ∀ x ∈ b, x.Set.length ≤ 1048576) : Ev (fun f => Fimpl_Joined f a b) (joinS a b) := by
  simp only [Fimpl_Joined]
  unfold joinS
  refine Ev.bind (rulesEv ha hsa).2 (Ev.ite (fun h => ?_) (fun h1 => Ev.bind (rulesEv hb hsb).2 (Ev.ite (fun h => ?_) (fun h2 => Ev.ite (fun h => ?_) (fun h3 => ?_)))))
  · rw [if_neg (fun e => by rw [e.1.1] at h; cases h)]; exact Ev.pure _
  · rw [if_neg (fun e => by rw [e.1.2] at h; cases h)]; exact Ev.pure _
  · have h := of_decide_eq_true h
    rw [wid (by omega) (by omega)] at h
    rw [if_neg (fun e => by omega)]; exact Ev.pure _
  have h3 := of_decide_eq_false h3
  rw [wid (by omega) (by omega)] at h3
  have h1 : rulesOk a = true := by simpa using h1
  have h2 : rulesOk b = true := by simpa using h2
  have hl : a.length + b.length ≤ 20 := by omega
  rw [if_pos ⟨⟨h1, h2⟩, hl⟩]
  simp only [List.nil_append, List.length_nil, Nat.zero_add]
  rw [capJ (by omega), capJ (by omega)]
  simp only [cond_true]
  have hr := rules_app h1 h2 hl
  obtain ⟨_, hv⟩ := rulesV hr
  exact Ev.bind (iNormal (by rw [List.length_append]; omega) hv) (Ev.pure _)
theorem join_small {a b : List Timpl_Rule} : (joinS a b).length ≤ 5 ∧ ∀ x ∈ joinS a b, x.Set.length ≤ 31 := by
  unfold joinS
  by_cases h : (rulesOk a = true ∧ rulesOk b = true) ∧ a.length + b.length ≤ 20
  · rw [if_pos h]
    obtain ⟨_, hv⟩ := rulesV (rules_app h.1.1 h.1.2 h.2)
    exact ⟨normR_len _, fun x hx => (kindR_v hv ((mem_normR hv).1 hx)).1.len⟩
  · rw [if_neg h]; simp
theorem lawExactJoined (a0 a1 : List Tlaws_Rule) (w0 : (Go.MG.wfR wfTlaws_Rule) a0) (w1 : (Go.MG.wfR wfTlaws_Rule) a1) : ∃ k, Flaws_FnExactJoined k a0 a1 = some true := by
  refine Ev.get (f := fun k => Flaws_FnExactJoined k a0 a1) ?_
  simp only [Flaws_FnExactJoined]
  obtain ⟨z1, hz1, hy1⟩ := szRuleS_ev a0 w0 (1048576 : Int) (by omega) (by omega)
  refine Ev.bind hz1 (Ev.ite (fun _ => Ev.pure _) (fun hc => ?_))
  obtain ⟨_, _, s0⟩ := hy1.resolve_left (by simpa using hc)
  obtain ⟨z2, hz2, hy2⟩ := szRuleS_ev a1 w1 z1 (by omega) (by omega)
  refine Ev.bind hz2 (Ev.ite (fun _ => Ev.pure _) (fun hc => ?_))
  obtain ⟨_, _, s1⟩ := hy2.resolve_left (by simpa using hc)
  obtain ⟨m1, m2⟩ := smRules s0
  obtain ⟨n1, n2⟩ := smRules s1
  have t0 := toRuleS_ev _ s0
  have t1 := toRuleS_ev _ s1
  have hs := sJoined m1 m2 n1 n2
  have hi := iJoined m1 m2 n1 n2
  obtain ⟨hl, hk⟩ := join_small (a := a0.map cvRule) (b := a1.map cvRule)
  generalize joinS (a0.map cvRule) (a1.map cvRule) = r at hs hi hl hk
  have hr : r.length ≤ 1099511627776 ∧ ∀ x ∈ r, okRule x := ⟨by omega, fun x hx => by have := hk x hx; show x.Set.length ≤ _; omega⟩
  have hw : sumW wRule r ≤ 33 * r.length := sumW_le fun x hx => by have := hk x hx; simp only [wRule]; omega
  have hw0 : sumW wRule (a0.map cvRule) ≤ 1048578 * (a0.map cvRule).length := sumW_le fun x hx => by have := m2 x hx; simp only [wRule]; omega
  have hw1 : sumW wRule (a1.map cvRule) ≤ 1048578 * (a1.map cvRule).length := sumW_le fun x hx => by have := n2 x hx; simp only [wRule]; omega
  have e := eqRuleS_ev _ hr
  have e0 := eqRuleS_ev (a0.map cvRule) ⟨by omega, fun x hx => by obtain ⟨y, hy, rfl⟩ := List.mem_map.1 hx; exact okcvRule (s0.2 y hy)⟩
  have e1 := eqRuleS_ev (a1.map cvRule) ⟨by omega, fun x hx => by obtain ⟨y, hy, rfl⟩ := List.mem_map.1 hx; exact okcvRule (s1.2 y hy)⟩
  refine Ev.bind t0 (Ev.bind t1 (Ev.bind hs (Ev.bind t0 (Ev.bind t1 (Ev.bind hi ?_)))))
  refine Ev.bind e (Ev.ite (fun h => by cases h) (fun _ => ?_))
  refine Ev.bind t0 (Ev.bind e0 (Ev.ite (fun h => by cases h) (fun _ => ?_)))
  refine Ev.bind t1 (Ev.bind e1 (Ev.ite (fun h => by cases h) (fun _ => ?_)))
  refine Ev.bind (markRuleS_evW _ (1 : Int) (by omega) (by omega) (by omega)) ?_
  refine Ev.bind (markRuleS_evW _ _ (by simp only; omega) (by simp only; omega) (by omega)) ?_
  refine Ev.ite (fun hc => absurd (of_decide_eq_true hc) (by simp only; omega)) (fun _ => ?_)
  refine Ev.bind e (Ev.ite (fun h => by cases h) (fun _ => ?_))
  refine Ev.bind (markRuleS_evW r (1 : Int) (by omega) (by omega) (by omega)) ?_
  have hd := heldRuleS_evW r (1 : Int) (by omega) (by omega) (by omega)
  refine Ev.bind hd (Ev.ite (fun hc => absurd (of_decide_eq_true hc) (by omega)) (fun _ => ?_))
  refine Ev.ite (fun h => by simp at h) (fun _ => ?_)
  refine Ev.bind t0 (Ev.bind t1 (Ev.bind hi ?_))
  refine Ev.bind e (Ev.ite (fun h => by cases h) (fun _ => ?_))
  refine Ev.bind hd (Ev.ite (fun hc => absurd (of_decide_eq_true hc) (by omega)) (fun _ => ?_))
  exact Ev.ite (fun h => by simp at h) (fun _ => Ev.pure _)


end Go.Proofs.Ytbjbagemlclgcaa.M
