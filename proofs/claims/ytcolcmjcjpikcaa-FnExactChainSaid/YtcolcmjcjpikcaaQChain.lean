/- The program's Chain and the reference's tell the same. Conditions: none. -/
import Derived.Test.YtcolcmjcjpikcaaFChain
namespace Go.Proofs.Ytcolcmjcjpikcaa.M
open Go Go.MG
set_option linter.unusedVariables false
set_option linter.unusedSimpArgs false
theorem wid {n : Int} (h1 : -9223372036854775808 ≤ n) (h2 : n ≤ 9223372036854775807) : IntKind.i64.wrap n = n := by
  rw [IntKind.wrap_i64]; omega
theorem atN {α : Type} {xs : List α} {i : Nat} {b : α} (h : xs[i]? = some b) : at? xs (i : Int) = some b := by
  simp [at?, h]
theorem atLt {α : Type} {xs : List α} {i : Nat} (h : i < xs.length) : ∃ b, xs[i]? = some b := ⟨xs[i], List.getElem?_eq_getElem h⟩
/-- A loop over a list, by an invariant. -/
theorem loopInv {α S R : Type} {xs : List α} {L : Nat → S → Int → Option R} {I : Nat → S → Prop} {Q : R → Prop} {n0 : Nat}
    (h : ∀ k s (i : Nat) b, n0 ≤ k → xs[i]? = some b → i < xs.length → I i s → (∃ s', L (k + 1) s (i : Int) = L k s' ((i + 1 : Nat) : Int) ∧ I (i + 1) s') ∨ ∃ r, L (k + 1) s (i : Int) = some r ∧ Q r)
    (he : ∀ k s, n0 ≤ k → I xs.length s → ∃ r, L (k + 1) s (xs.length : Int) = some r ∧ Q r) :
    ∀ (m i k : Nat) (s : S), i + m = xs.length → n0 + m + 1 ≤ k → I i s → ∃ r, L k s (i : Int) = some r ∧ Q r := by
  intro m
  induction m with
  | zero =>
    intro i k s hi hk hI
    obtain ⟨k, rfl⟩ : ∃ j, k = j + 1 := ⟨k - 1, by omega⟩
    have : i = xs.length := by omega
    subst this
    exact he k s (by omega) hI
  | succ m ih =>
    intro i k s hi hk hI
    obtain ⟨k, rfl⟩ : ∃ j, k = j + 1 := ⟨k - 1, by omega⟩
    obtain ⟨b, hb⟩ := atLt (xs := xs) (i := i) (by omega)
    rcases h k s i b (by omega) hb (by omega) hI with ⟨s', h1, h2⟩ | h1
    · rw [h1]
      exact ih (i + 1) k s' (by omega) (by omega) h2
    · exact h1
theorem loop0 {α S R : Type} {xs : List α} {L : Nat → S → Int → Option R} {I : Nat → S → Prop} {Q : R → Prop} (n0 : Nat) {k : Nat} {s : S}
    (hk : n0 + xs.length + 1 ≤ k) (h0 : I 0 s)
    (h : ∀ k s (i : Nat) b, n0 ≤ k → xs[i]? = some b → i < xs.length → I i s → (∃ s', L (k + 1) s (i : Int) = L k s' ((i + 1 : Nat) : Int) ∧ I (i + 1) s') ∨ ∃ r, L (k + 1) s (i : Int) = some r ∧ Q r)
    (he : ∀ k s, n0 ≤ k → I xs.length s → ∃ r, L (k + 1) s (xs.length : Int) = some r ∧ Q r) : ∃ r, L k s 0 = some r ∧ Q r :=
  loopInv h he xs.length 0 k s (by omega) (by omega) h0
theorem wid1 {i : Nat} (h : i ≤ 4611686018427387904) : IntKind.i64.wrap ((i : Int) + 1) = ((i + 1 : Nat) : Int) := by
  rw [wid (by omega) (by omega)]; omega
theorem ltD {i n : Nat} (h : i < n) : decide ((i : Int) < (n : Int)) = true := by simp; omega
theorem ltD0 {n : Nat} : decide ((n : Int) < (n : Int)) = false := by simp
theorem take_succ_get {α : Type} {xs : List α} {i : Nat} {b : α} (h : xs[i]? = some b) : xs.take (i + 1) = xs.take i ++ [b] := by
  rw [List.take_add_one, h]; rfl
/-- What a copy has become after some rounds. -/
theorem set_copy {α : Type} {xs : List α} {z b : α} {i : Nat} (h : xs[i]? = some b) : (xs.take i ++ List.replicate (xs.length - i) z).set i b = xs.take (i + 1) ++ List.replicate (xs.length - (i + 1)) z := by
  have hi := (List.getElem?_eq_some_iff.1 h).1
  rw [take_succ_get h, List.set_append_right _ _ (by simp; omega)]
  have e : xs.length - i = (xs.length - (i + 1)) + 1 := by omega
  rw [e, List.replicate_succ]
  have e2 : i - (xs.take i).length = 0 := by simp; omega
  rw [e2]
  simp
theorem get_copy {α : Type} {xs : List α} {z : α} {i : Nat} (h : i < xs.length) : (xs.take i ++ List.replicate (xs.length - i) z)[i]? = some z := by
  rw [List.getElem?_append_right (by simp; omega)]
  have : i - (xs.take i).length = 0 := by simp; omega
  rw [this, List.getElem?_replicate]
  simp; omega
/-- From some fuel on it answers so. -/
def Ev {α : Type} (f : Nat → Option α) (r : α) : Prop := ∃ n, ∀ k, n ≤ k → f k = some r
theorem Ev.pure {α : Type} (r : α) : Ev (fun _ => some r) r := ⟨0, fun _ _ => rfl⟩
theorem Ev.of {α : Type} {f : Nat → Option α} {r : α} (h : ∀ k, f k = some r) : Ev f r := ⟨0, fun k _ => h k⟩
theorem Ev.bind {α β : Type} {f : Nat → Option α} {g : Nat → α → Option β} {a : α} {r : β} (h : Ev f a) (h' : Ev (fun k => g k a) r) : Ev (fun k => (f k).bind (g k)) r := by
  obtain ⟨n, h⟩ := h
  obtain ⟨m, h'⟩ := h'
  refine ⟨max n m, fun k hk => ?_⟩
  show (f k).bind (g k) = some r
  rw [h k (by omega), Option.bind_some]
  exact h' k (by omega)
theorem Ev.succ {α : Type} {f : Nat → Option α} {r : α} (h : Ev (fun k => f (k + 1)) r) : Ev f r := by
  obtain ⟨n, h⟩ := h
  refine ⟨n + 1, fun k hk => ?_⟩
  obtain ⟨j, rfl⟩ : ∃ j, k = j + 1 := ⟨k - 1, by omega⟩
  exact h j (by omega)
theorem Ev.get {α : Type} {f : Nat → Option α} {r : α} (h : Ev f r) : ∃ k, f k = some r := by
  obtain ⟨n, h⟩ := h
  exact ⟨n, h n (Nat.le_refl _)⟩
theorem Ev.det {α : Type} {f : Nat → Option α} {a b : α} (h : Ev f a) (h' : Ev f b) : a = b := by
  obtain ⟨n, h⟩ := h
  obtain ⟨m, h'⟩ := h'
  have e := h (max n m) (by omega)
  rw [h' (max n m) (by omega)] at e
  exact (Option.some.inj e).symm
theorem Ev.congr {α : Type} {f g : Nat → Option α} {r : α} (h : Ev f r) (e : ∀ k, g k = f k) : Ev g r := by
  obtain ⟨n, h⟩ := h
  exact ⟨n, fun k hk => (e k).trans (h k hk)⟩
theorem Ev.to {α : Type} {f : Nat → Option α} {a b : α} (h : Ev f a) (e : a = b) : Ev f b := e ▸ h
theorem Ev.ite {α : Type} {f g : Nat → Option α} {c : Bool} {r : α} (h1 : c = true → Ev f r) (h0 : c = false → Ev g r) : Ev (fun k => cond c (f k) (g k)) r := by
  cases c with
  | true => exact h1 rfl
  | false => exact h0 rfl
theorem Ev.at? {α β : Type} {xs : List α} {i : Nat} {b : α} {g : Nat → α → Option β} {r : β} (h : xs[i]? = some b) (h' : Ev (fun k => g k b) r) : Ev (fun k => (Go.MG.at? xs (i : Int)).bind (g k)) r := by
  have e := atN h
  simp only [e, Option.bind_some]
  exact h'
/-- A loop over a list: what it answers, told over what is left of it. -/
theorem Ev.forI {α S R : Type} {xs : List α} {L : Nat → S → Int → Option R} {f : List α → S → R} {I : Nat → S → Prop}
    (hnil : ∀ s, I xs.length s → Ev (fun k => L (k + 1) s (xs.length : Int)) (f [] s))
    (hcons : ∀ (i : Nat) (b : α) (s : S), xs[i]? = some b → i < xs.length → I i s → (∀ s', I (i + 1) s' → Ev (fun k => L k s' ((i + 1 : Nat) : Int)) (f (xs.drop (i + 1)) s')) → Ev (fun k => L (k + 1) s (i : Int)) (f (b :: xs.drop (i + 1)) s)) :
    ∀ (s : S), I 0 s → Ev (fun k => L k s 0) (f xs s) := by
  have key : ∀ (m i : Nat) (s : S), i + m = xs.length → I i s → Ev (fun k => L k s (i : Int)) (f (xs.drop i) s) := by
    intro m
    induction m with
    | zero =>
      intro i s hi hI
      have : i = xs.length := by omega
      subst this
      rw [List.drop_length]
      exact Ev.succ (hnil s hI)
    | succ m ih =>
      intro i s hi hI
      obtain ⟨b, hb⟩ := atLt (xs := xs) (i := i) (by omega)
      have hlt : i < xs.length := by omega
      have e : xs.drop i = b :: xs.drop (i + 1) := by
        rw [List.drop_eq_getElem_cons hlt]
        rw [List.getElem?_eq_getElem hlt] at hb
        cases hb; rfl
      rw [e]
      exact Ev.succ (hcons i b s hb hlt hI fun s' hs' => ih (i + 1) s' (by omega) hs')
  intro s hs
  have := key xs.length 0 s (by omega) hs
  simpa using this
theorem Ev.for {α S R : Type} {xs : List α} {L : Nat → S → Int → Option R} {f : List α → S → R}
    (hnil : ∀ s, Ev (fun k => L (k + 1) s (xs.length : Int)) (f [] s))
    (hcons : ∀ (i : Nat) (b : α) (s : S), xs[i]? = some b → i < xs.length → (∀ s', Ev (fun k => L k s' ((i + 1 : Nat) : Int)) (f (xs.drop (i + 1)) s')) → Ev (fun k => L (k + 1) s (i : Int)) (f (b :: xs.drop (i + 1)) s)) :
    ∀ (s : S), Ev (fun k => L k s 0) (f xs s) := fun s => Ev.forI (I := fun _ _ => True) (fun s _ => hnil s) (fun i b s hb hi _ h => hcons i b s hb hi fun s' => h s' trivial) s trivial
/-- A loop that copies by a map. -/
theorem Ev.copy {α β : Type} {xs : List α} {L : Nat → List β → Int → Option (List β)} {f : α → β} {z : β}
    (hnil : ∀ s, Ev (fun k => L (k + 1) s (xs.length : Int)) s)
    (hcons : ∀ (i : Nat) (b : α) (s : List β) (r : List β), xs[i]? = some b → i < xs.length → s[i]? = some z → Ev (fun k => L k (s.set i (f b)) ((i + 1 : Nat) : Int)) r → Ev (fun k => L (k + 1) s (i : Int)) r) :
    Ev (fun k => L k (List.replicate xs.length z) 0) (xs.map f) := by
  have key : ∀ (m i : Nat), i + m = xs.length → Ev (fun k => L k ((xs.map f).take i ++ List.replicate ((xs.map f).length - i) z) (i : Int)) (xs.map f) := by
    intro m
    induction m with
    | zero =>
      intro i hi
      have : i = xs.length := by omega
      subst this
      refine Ev.succ ((hnil _).to ?_)
      rw [List.length_map, Nat.sub_self, List.replicate_zero, List.append_nil]
      exact List.take_of_length_le (by simp)
    | succ m ih =>
      intro i hi
      obtain ⟨b, hb⟩ := atLt (xs := xs) (i := i) (by omega)
      have hb2 : (xs.map f)[i]? = some (f b) := by rw [List.getElem?_map, hb]; rfl
      refine Ev.succ (hcons i b _ _ hb (by omega) (get_copy (by rw [List.length_map]; omega)) ?_)
      rw [set_copy hb2]
      exact ih (i + 1) (by omega)
  have := key xs.length 0 (by omega)
  simpa using this
/-- A loop that stores what hangs on the place alone. -/
def markL {α β : Type} (g : Int → α → β) (w : Int) : Int → List α → List β
  | _, [] => []
  | n, x :: xs => g n x :: markL g w (n + w) xs
theorem markL_length {α β : Type} (g : Int → α → β) (w : Int) : ∀ (n : Int) (xs : List α), (markL g w n xs).length = xs.length
  | _, [] => rfl
  | n, x :: xs => by simp [markL, markL_length g w (n + w) xs]
theorem markL_get {α β : Type} {g : Int → α → β} {w : Int} : ∀ {n : Int} {xs : List α} {i : Nat} {x : α}, xs[i]? = some x → (markL g w n xs)[i]? = some (g (n + w * i) x)
  | n, [], i, x, h => by simp at h
  | n, y :: xs, 0, x, h => by simp at h; subst h; simp [markL]
  | n, y :: xs, i + 1, x, h => by
    simp only [List.getElem?_cons_succ] at h
    simp only [markL, List.getElem?_cons_succ]
    rw [markL_get h]
    congr 2
    rw [show ((i + 1 : Nat) : Int) = (i : Int) + 1 by omega, Int.mul_add]; omega
/-- It answers, and what it answers is so. -/
def EvP {α : Type} (f : Nat → Option α) (P : α → Prop) : Prop := ∃ r, Ev f r ∧ P r
theorem Ev.p {α : Type} {f : Nat → Option α} {r : α} {P : α → Prop} (h : Ev f r) (hp : P r) : EvP f P := ⟨r, h, hp⟩
theorem EvP.pure {α : Type} {r : α} {P : α → Prop} (h : P r) : EvP (fun _ => some r) P := ⟨r, Ev.pure r, h⟩
theorem EvP.bind {α β : Type} {f : Nat → Option α} {g : Nat → α → Option β} {P : α → Prop} {Q : β → Prop} (h : EvP f P) (h' : ∀ a, P a → EvP (fun k => g k a) Q) : EvP (fun k => (f k).bind (g k)) Q := by
  obtain ⟨a, h1, h2⟩ := h
  obtain ⟨r, h3, h4⟩ := h' a h2
  exact ⟨r, h1.bind h3, h4⟩
theorem EvP.bindE {α β : Type} {f : Nat → Option α} {g : Nat → α → Option β} {a : α} {Q : β → Prop} (h : Ev f a) (h' : EvP (fun k => g k a) Q) : EvP (fun k => (f k).bind (g k)) Q := by
  obtain ⟨r, h3, h4⟩ := h'
  exact ⟨r, h.bind h3, h4⟩
theorem EvP.ite {α : Type} {f g : Nat → Option α} {c : Bool} {P : α → Prop} (h1 : c = true → EvP f P) (h0 : c = false → EvP g P) : EvP (fun k => cond c (f k) (g k)) P := by
  cases c with
  | true => exact h1 rfl
  | false => exact h0 rfl
theorem EvP.mono {α : Type} {f : Nat → Option α} {P Q : α → Prop} (h : EvP f P) (hq : ∀ r, P r → Q r) : EvP f Q := by
  obtain ⟨r, h1, h2⟩ := h
  exact ⟨r, h1, hq r h2⟩
theorem EvP.succ {α : Type} {f : Nat → Option α} {P : α → Prop} (h : EvP (fun k => f (k + 1)) P) : EvP f P := by
  obtain ⟨r, h1, h2⟩ := h
  exact ⟨r, h1.succ, h2⟩
theorem EvP.at? {α β : Type} {xs : List α} {i : Nat} {b : α} {g : Nat → α → Option β} {P : β → Prop} (h : xs[i]? = some b) (h' : EvP (fun k => g k b) P) : EvP (fun k => (Go.MG.at? xs (i : Int)).bind (g k)) P := by
  obtain ⟨r, h1, h2⟩ := h'
  exact ⟨r, Ev.at? h h1, h2⟩
/-- A loop over a list, by an invariant. -/
theorem EvP.for {α S R : Type} {xs : List α} {L : Nat → S → Int → Option R} {P : R → Prop} (I : Nat → S → Prop)
    (hnil : ∀ s, I xs.length s → EvP (fun k => L (k + 1) s (xs.length : Int)) P)
    (hcons : ∀ (i : Nat) (b : α) (s : S), xs[i]? = some b → i < xs.length → I i s → (∀ s', I (i + 1) s' → EvP (fun k => L k s' ((i + 1 : Nat) : Int)) P) → EvP (fun k => L (k + 1) s (i : Int)) P) :
    ∀ (s : S), I 0 s → EvP (fun k => L k s 0) P := by
  have key : ∀ (m i : Nat) (s : S), i + m = xs.length → I i s → EvP (fun k => L k s (i : Int)) P := by
    intro m
    induction m with
    | zero =>
      intro i s hi hI
      have : i = xs.length := by omega
      subst this
      exact EvP.succ (hnil s hI)
    | succ m ih =>
      intro i s hi hI
      obtain ⟨b, hb⟩ := atLt (xs := xs) (i := i) (by omega)
      exact EvP.succ (hcons i b s hb (by omega) hI fun s' hs' => ih (i + 1) s' (by omega) hs')
  intro s hs
  simpa using key xs.length 0 s (by omega) hs
theorem widR {n : Int} (h1 : -9223372036854775808 ≤ n) (h2 : n ≤ 9223372036854775807) : IntKind.i64.wrap n = n := wid h1 h2
theorem atSet {α : Type} {xs : List α} {i : Nat} {y : α} (h : i < xs.length) : at? (xs.set i y) (i : Int) = some y := atN (by simp [h])
/-- A loop that stores into each place what hangs on the count. -/
theorem Ev.mark {α : Type} {L : Nat → List α → Int → Int → Option (Int × List α)} {g : Int → α → α} {w : Nat}
    (hnil : ∀ xs n, Ev (fun k => L (k + 1) xs n (xs.length : Int)) (n, xs))
    (hcons : ∀ (i : Nat) (b : α) (xs : List α) (n : Int) r, xs[i]? = some b → i < xs.length → 0 ≤ n → n + w ≤ 4611686018427387904 → xs.length ≤ 4611686018427387904 → Ev (fun k => L k (xs.set i (g n b)) (n + w) ((i + 1 : Nat) : Int)) r → Ev (fun k => L (k + 1) xs n (i : Int)) r)
    (xs : List α) (n : Int) (hn : 0 ≤ n) (hb : n + w * xs.length ≤ 4611686018427387904) (hl : xs.length ≤ 4611686018427387904) : Ev (fun k => L k xs n 0) (n + w * xs.length, markL g w n xs) := by
  have key : ∀ (m i : Nat) (ys : List α) (j : Int), i + m = ys.length → j = n + w * i → ys.length = xs.length → ys.take i = (markL g w n xs).take i → ys.drop i = xs.drop i → Ev (fun k => L k ys j (i : Int)) (n + w * xs.length, markL g w n xs) := by
    intro m
    induction m with
    | zero =>
      intro i ys j hi hj hl ht hd
      have e : i = ys.length := by omega
      subst e
      refine Ev.succ ((hnil ys j).to ?_)
      rw [List.take_of_length_le (Nat.le_refl _), List.take_of_length_le (by rw [markL_length]; omega)] at ht
      rw [hj, hl, ← ht]
    | succ m ih =>
      intro i ys j hi hj hl' ht hd
      obtain ⟨b, hb'⟩ := atLt (xs := ys) (i := i) (by omega)
      have hx : xs[i]? = some b := by
        have : (ys.drop i)[0]? = (xs.drop i)[0]? := by rw [hd]
        simp only [List.getElem?_drop, Nat.add_zero] at this
        rw [← this]; exact hb'
      have hw : (w : Int) * (i : Int) + w ≤ w * xs.length := by
        have : w * (i + 1) ≤ w * xs.length := Nat.mul_le_mul_left w (by omega)
        have h2 : ((w * (i + 1) : Nat) : Int) ≤ ((w * xs.length : Nat) : Int) := by omega
        rw [Int.natCast_mul, Int.natCast_mul] at h2
        rw [show ((i + 1 : Nat) : Int) = (i : Int) + 1 by omega, Int.mul_add] at h2
        omega
      have hw0 : (0 : Int) ≤ (w : Int) * (i : Int) := Int.mul_nonneg (by omega) (by omega)
      refine Ev.succ (hcons i b ys j _ hb' (by omega) (by omega) (by omega) (by omega) (ih (i + 1) (ys.set i (g j b)) (j + w) (by rw [List.length_set]; omega) ?_ (by rw [List.length_set]; exact hl') ?_ ?_))
      · rw [hj, show ((i + 1 : Nat) : Int) = (i : Int) + 1 by omega, Int.mul_add]; omega
      · have h1 : (ys.set i (g j b))[i]? = some (g j b) := List.getElem?_set_self (by omega)
        have h2 : (markL g w n xs)[i]? = some (g j b) := by rw [markL_get hx, hj]
        rw [take_succ_get h1, take_succ_get h2, ← ht, List.take_set_of_le (Nat.le_refl _)]
      · rw [List.drop_set_of_lt (by omega), ← List.drop_drop, ← List.drop_drop, hd]
  simpa using key xs.length 0 xs n (by omega) (by simp) rfl rfl rfl
/-- A loop that looks whether each place holds what was stored. -/
theorem Ev.held {α : Type} {L : Nat → List α → Int → Int → Option Int} {g : Int → α → α} {w : Nat} {xs : List α} {n : Int} (hn : 0 ≤ n) (hb : n + w * xs.length ≤ 4611686018427387904) (hl : xs.length ≤ 4611686018427387904)
    (hnil : ∀ (ys : List α) j, Ev (fun k => L (k + 1) ys j (ys.length : Int)) j)
    (hcons : ∀ (i : Nat) (b : α) (ys : List α) (j : Int) r, ys[i]? = some (g j b) → i < ys.length → 0 ≤ j → j + w ≤ 4611686018427387904 → ys.length ≤ 4611686018427387904 → Ev (fun k => L k ys (j + w) ((i + 1 : Nat) : Int)) r → Ev (fun k => L (k + 1) ys j (i : Int)) r) :
    Ev (fun k => L k (markL g w n xs) n 0) (n + w * xs.length) := by
  have hml := markL_length g w n xs
  have key : ∀ (m i : Nat) (j : Int), i + m = xs.length → j = n + w * i → Ev (fun k => L k (markL g w n xs) j (i : Int)) (n + w * xs.length) := by
    intro m
    induction m with
    | zero =>
      intro i j hi hj
      have e : i = (markL g w n xs).length := by omega
      subst e
      refine Ev.succ ((hnil _ j).to ?_)
      rw [hj, hml]
    | succ m ih =>
      intro i j hi hj
      obtain ⟨b, hx⟩ := atLt (xs := xs) (i := i) (by omega)
      have hw : (w : Int) * (i : Int) + w ≤ w * xs.length := by
        have : w * (i + 1) ≤ w * xs.length := Nat.mul_le_mul_left w (by omega)
        have h2 : ((w * (i + 1) : Nat) : Int) ≤ ((w * xs.length : Nat) : Int) := by omega
        rw [Int.natCast_mul, Int.natCast_mul] at h2
        rw [show ((i + 1 : Nat) : Int) = (i : Int) + 1 by omega, Int.mul_add] at h2
        omega
      have hw0 : (0 : Int) ≤ (w : Int) * (i : Int) := Int.mul_nonneg (by omega) (by omega)
      refine Ev.succ (hcons i b _ j _ ?_ (by omega) (by omega) (by omega) (by omega) (ih (i + 1) _ (by omega) ?_))
      · rw [markL_get hx, hj]
      · rw [hj, show ((i + 1 : Nat) : Int) = (i : Int) + 1 by omega, Int.mul_add]; omega
  simpa using key xs.length 0 n (by omega) (by simp)
/-- What is found first. -/
def firstOf {α R : Type} (p : α → Bool) (g : Nat → R) (e : R) : Nat → List α → R
  | _, [] => e
  | i, x :: xs => if p x then g i else firstOf p g e (i + 1) xs
theorem Ev.find {α R : Type} {xs : List α} {L : Nat → Int → Option R} {p : α → Bool} {g : Nat → R} {e : R}
    (hnil : Ev (fun k => L (k + 1) (xs.length : Int)) e)
    (hcons : ∀ (i : Nat) (b : α) (r : R), xs[i]? = some b → i < xs.length → (p b = true → r = g i) → (p b = false → Ev (fun k => L k ((i + 1 : Nat) : Int)) r) → Ev (fun k => L (k + 1) (i : Int)) r) :
    Ev (fun k => L k 0) (firstOf p g e 0 xs) := by
  have := Ev.for (xs := xs) (L := fun k (_ : Unit) i => L k i) (f := fun l _ => firstOf p g e (xs.length - l.length) l) (fun _ => by simpa [firstOf] using hnil) (fun i b _ hb hi h => by
    refine hcons i b _ hb hi (fun hp => ?_) (fun hp => ?_)
    · have : xs.length - (b :: List.drop (i + 1) xs).length = i := by simp; omega
      rw [this]; simp [firstOf, hp]
    · refine (h ()).to ?_
      have e1 : xs.length - (b :: List.drop (i + 1) xs).length = i := by simp; omega
      have e2 : xs.length - (List.drop (i + 1) xs).length = i + 1 := by simp; omega
      rw [e1, e2]; simp [firstOf, hp]) ()
  simpa using this
theorem firstOf_some {α R : Type} {p : α → Bool} {g : Nat → R} {e : R} : ∀ {i : Nat} {xs : List α}, (∃ j b, xs[j]? = some b ∧ p b = true ∧ firstOf p g e i xs = g (i + j)) ∨ ((∀ b ∈ xs, p b = false) ∧ firstOf p g e i xs = e)
  | i, [] => .inr ⟨by simp, rfl⟩
  | i, x :: xs => by
    cases hp : p x with
    | true => exact .inl ⟨0, x, rfl, hp, by simp [firstOf, hp]⟩
    | false =>
      rcases firstOf_some (p := p) (g := g) (e := e) (i := i + 1) (xs := xs) with ⟨j, b, h1, h2, h3⟩ | ⟨h1, h2⟩
      · exact .inl ⟨j + 1, b, by simpa using h1, h2, by simp only [firstOf, hp]; rw [show i + (j + 1) = i + 1 + j by omega]; exact h3⟩
      · refine .inr ⟨fun b hb => ?_, by simpa [firstOf, hp] using h2⟩
        rcases List.mem_cons.1 hb with rfl | hb
        · exact hp
        · exact h1 b hb
theorem firstOf_map {α R S : Type} {p : α → Bool} {g : Nat → R} {e : R} (h : R → S) : ∀ (i : Nat) (xs : List α), h (firstOf p g e i xs) = firstOf p (fun j => h (g j)) (h e) i xs
  | i, [] => rfl
  | i, x :: xs => by
    simp only [firstOf]
    split
    · rfl
    · exact firstOf_map h (i + 1) xs
theorem pigeon : ∀ (n : Nat) (l : List Nat), l.Nodup → (∀ x ∈ l, x < n) → l.length ≤ n
  | 0, l, _, h => by
    cases l with
    | nil => simp
    | cons a l => exact absurd (h a (by simp)) (by omega)
  | n + 1, l, hd, h => by
    have h1 : (l.erase n).length ≤ n := pigeon n (l.erase n) (hd.erase n) (fun x hx => by
      have h2 := h x (List.mem_of_mem_erase hx)
      have h3 : x ≠ n := fun e => by subst e; exact (List.Nodup.not_mem_erase hd) hx
      omega)
    by_cases hn : n ∈ l
    · rw [List.length_erase_of_mem hn] at h1; omega
    · rw [List.erase_of_not_mem hn] at h1; omega
def cvRest (a : Tlaws_Rest) : Timpl_Rest := ⟨a.Servers, a.Ops, a.End⟩
def smRest (a : Tlaws_Rest) : Prop := True
def cvEvent (a : Tlaws_Event) : Timpl_Event := ⟨a.Kind, a.Realm, a.By, a.Client, a.Service, a.Key, a.Parent, a.Evid, (cvRest a.Rest)⟩
def smEvent (a : Tlaws_Event) : Prop := True
theorem szEventS_ev (a : List Tlaws_Event) (w : (Go.MG.wfR wfTlaws_Event) a) (n : Int) (hn : 0 ≤ n) (hb : n ≤ 1048576) : EvP (fun k => Flaws_szEventS k a n) (fun r => r < 0 ∨ (0 ≤ r ∧ r ≤ n ∧ (a.length ≤ 1048576))) := by
  simp only [Flaws_szEventS]
  have hw := w.1; unfold big at hw
  rw [wid (n := n - (a.length : Int)) (by omega) (by omega)]
  refine EvP.ite (fun _ => EvP.pure (.inl (by decide))) (fun hc => ?_)
  have hc : ¬ n - (a.length : Int) < 0 := by simpa using hc
  exact EvP.pure (.inr ⟨by omega, by omega, by omega⟩)
theorem toRest_ev (a : Tlaws_Rest) (h : smRest a) : Ev (fun k => Flaws_toRest k a) (cvRest a) := by
  simp only [Flaws_toRest]
  exact Ev.pure _
theorem toEvent_ev (a : Tlaws_Event) (h : smEvent a) : Ev (fun k => Flaws_toEvent k a) (cvEvent a) := by
  simp only [Flaws_toEvent]
  refine Ev.bind (toRest_ev _ trivial) ?_
  exact Ev.pure _
theorem toEventS_ev (xs : List Tlaws_Event) (h : (xs.length ≤ 1048576)) : Ev (fun k => Flaws_toEventS k xs) (xs.map cvEvent) := by
  have hl : xs.length ≤ 1048576 := h
  simp only [Flaws_toEventS]
  refine Ev.ite (fun _ => ?_) (fun hc => by rw [decide_eq_true (by omega)] at hc; cases hc)
  simp only [Int.toNat_natCast]
  exact Ev.copy (xs := xs) (L := fun k s i => Flaws_toEventS.l2 k xs s i) (f := cvEvent) (z := (⟨(0 : Int), (0 : Int), (0 : Int), (0 : Int), (0 : Int), (0 : Int), (0 : Int), (0 : Int), (⟨(0 : Int), (0 : Int), (0 : Int)⟩ : Timpl_Rest)⟩ : Timpl_Event)) (fun s => by simp only [Flaws_toEventS.l2, ltD0, cond_false]; exact Ev.pure _) (fun i b s r hb hi hz hr => by
    simp only [Flaws_toEventS.l2, ltD hi, cond_true]
    refine Ev.at? hb (Ev.bind (toEvent_ev b trivial) (Ev.at? hz ?_))
    rw [wid1 (by omega)]; simpa only [Int.toNat_natCast] using hr)
theorem eqIntS_ev (xs : List Int) (h : (xs.length ≤ 1099511627776)) : Ev (fun k => Flaws_eqIntS k xs xs) true := by
  have hl : xs.length ≤ 1099511627776 := h
  simp only [Flaws_eqIntS, bne_self_eq_false, cond_false]
  refine Ev.for (xs := xs) (L := fun k (_ : Unit) i => Flaws_eqIntS.l2 k xs xs i) (f := fun _ _ => true) (fun s => by simp only [Flaws_eqIntS.l2, ltD0, cond_false]; exact Ev.pure _) (fun i b s hb hi hr => ?_) ()
  simp only [Flaws_eqIntS.l2, ltD hi, cond_true]
  refine Ev.at? hb (Ev.at? hb (?_))
  simp only [bne_self_eq_false, Bool.not_true, cond_false]
  rw [wid1 (by omega)]; exact hr ()
theorem eqRest_ev (a : Timpl_Rest) : Ev (fun k => Flaws_eqRest k a a) true := by
  simp only [Flaws_eqRest, bne_self_eq_false, cond_false]
  exact Ev.pure _
theorem eqEvent_ev (a : Timpl_Event) : Ev (fun k => Flaws_eqEvent k a a) true := by
  simp only [Flaws_eqEvent, bne_self_eq_false, cond_false]
  refine Ev.bind (eqRest_ev _) ?_
  simp only [Bool.not_true, cond_false]
  exact Ev.pure _
theorem eqEventS_ev (xs : List Timpl_Event) (h : (xs.length ≤ 1099511627776)) : Ev (fun k => Flaws_eqEventS k xs xs) true := by
  have hl : xs.length ≤ 1099511627776 := h
  simp only [Flaws_eqEventS, bne_self_eq_false, cond_false]
  refine Ev.for (xs := xs) (L := fun k (_ : Unit) i => Flaws_eqEventS.l2 k xs xs i) (f := fun _ _ => true) (fun s => by simp only [Flaws_eqEventS.l2, ltD0, cond_false]; exact Ev.pure _) (fun i b s hb hi hr => ?_) ()
  simp only [Flaws_eqEventS.l2, ltD hi, cond_true]
  refine Ev.at? hb (Ev.at? hb (Ev.bind (eqEvent_ev b) ?_))
  simp only [bne_self_eq_false, Bool.not_true, cond_false]
  rw [wid1 (by omega)]; exact hr ()
def mkEventS (n : Int) (_ : Timpl_Event) : Timpl_Event := (⟨n, (n + 1), (n + 2), (n + 3), (n + 4), (n + 5), (n + 6), (n + 7), (⟨(n + 8), (n + 9), (n + 10)⟩ : Timpl_Rest)⟩ : Timpl_Event)
theorem markEventS_ev (xs : List Timpl_Event) (n : Int) (hn : 0 ≤ n) (hb : n + 11 * xs.length ≤ 4611686018427387904) (hl : xs.length ≤ 4611686018427387904) : Ev (fun k => Flaws_markEventS k xs n) (n + 11 * xs.length, markL mkEventS 11 n xs) := by
  simp only [Flaws_markEventS]
  refine Ev.mark (L := fun k xs n i => Flaws_markEventS.l2 k xs n i) (g := mkEventS) (w := 11) (fun xs n => by simp only [Flaws_markEventS.l2, ltD0, cond_false]; exact Ev.pure _) (fun i b xs n r hb hi h0 h1 h2 hr => ?_) xs n hn hb hl
  simp only [Flaws_markEventS.l2, ltD hi, cond_true]
  refine Ev.at? hb ?_
  simp (disch := omega) only [Int.toNat_natCast, List.set_set, atSet hi, Option.bind_some, widR, Int.add_assoc]
  exact hr
def mkIntS (n : Int) (_ : Int) : Int := n
theorem markIntS_ev (xs : List Int) (n : Int) (hn : 0 ≤ n) (hb : n + 1 * xs.length ≤ 4611686018427387904) (hl : xs.length ≤ 4611686018427387904) : Ev (fun k => Flaws_markIntS k xs n) (n + 1 * xs.length, markL mkIntS 1 n xs) := by
  simp only [Flaws_markIntS]
  refine Ev.mark (L := fun k xs n i => Flaws_markIntS.l2 k xs n i) (g := mkIntS) (w := 1) (fun xs n => by simp only [Flaws_markIntS.l2, ltD0, cond_false]; exact Ev.pure _) (fun i b xs n r hb hi h0 h1 h2 hr => ?_) xs n hn hb hl
  simp only [Flaws_markIntS.l2, ltD hi, cond_true]
  refine Ev.at? hb ?_
  simp (disch := omega) only [Int.toNat_natCast, List.set_set, atSet hi, Option.bind_some, widR, Int.add_assoc]
  exact hr
theorem heldIntS_ev (xs : List Int) (n : Int) (hn : 0 ≤ n) (hb : n + 1 * xs.length ≤ 4611686018427387904) (hl : xs.length ≤ 4611686018427387904) : Ev (fun k => Flaws_heldIntS k (markL mkIntS 1 n xs) n) (n + 1 * xs.length) := by
  simp only [Flaws_heldIntS]
  refine Ev.held (L := fun k xs n i => Flaws_heldIntS.l2 k xs n i) (g := mkIntS) (w := 1) hn hb hl (fun xs n => by simp only [Flaws_heldIntS.l2, ltD0, cond_false]; exact Ev.pure _) (fun i b xs n r hb hi h0 h1 h2 hr => ?_)
  simp only [Flaws_heldIntS.l2, ltD hi, cond_true]
  simp (disch := omega) only [atN hb, mkIntS, Option.bind_some, widR, Int.add_assoc, Int.reduceAdd, bne_self_eq_false, cond_false]
  exact hr
def fi (l : List Timpl_Event) (x : Int) : Int := firstOf (fun e => e.Key == x) (fun i => (i : Int)) (-1) 0 l
theorem sFind (l : List Timpl_Event) (x : Int) (hl : l.length ≤ 1048576) : Ev (fun k => Fspec_Find k l x) (fi l x) := by
  simp only [Fspec_Find]
  refine Ev.find (xs := l) (L := fun k i => Fspec_Find.l2 k l x i) (by simp only [Fspec_Find.l2, ltD0, cond_false]; exact Ev.pure _) (fun i b r hb hi h1 h0 => ?_)
  simp only [Fspec_Find.l2, ltD hi, cond_true]
  refine Ev.at? hb (Ev.ite (fun hc => (Ev.pure _).to (h1 hc).symm) (fun hc => ?_))
  rw [wid1 (by omega)]; exact h0 hc
theorem iFind (l : List Timpl_Event) (x : Int) (hl : l.length ≤ 1048576) : Ev (fun k => Fimpl_Find k l x) (fi l x) := by
  simp only [Fimpl_Find, Fslices_IndexFunc_Event__impl_Find_1]
  have : Ev (fun k => Fslices_IndexFunc_Event__impl_Find_1.l2 k l (l.length : Int) (0 : Int) x) (firstOf (fun e => e.Key == x) (fun i => ((i : Int), x)) (-1, x) 0 l) := by
    refine Ev.find (xs := l) (L := fun k i => Fslices_IndexFunc_Event__impl_Find_1.l2 k l (l.length : Int) i x) (by simp only [Fslices_IndexFunc_Event__impl_Find_1.l2, ltD0, cond_false]; exact Ev.pure _) (fun i b r hb hi h1 h0 => ?_)
    simp only [Fslices_IndexFunc_Event__impl_Find_1.l2, ltD hi, cond_true, Fimpl_Find_1, Option.bind_some]
    refine Ev.at? hb (Ev.ite (fun hc => (Ev.pure _).to (h1 hc).symm) (fun hc => ?_))
    rw [wid1 (by omega)]; exact h0 hc
  refine Ev.bind this ?_
  refine (Ev.pure _).to ?_
  rw [firstOf_map (fun r : Int × Int => r.1)]; rfl
theorem fi_cases (l : List Timpl_Event) (x : Int) : (∃ (i : Nat) (e : Timpl_Event), fi l x = i ∧ l[i]? = some e ∧ e.Key = x) ∨ fi l x = -1 := by
  rcases firstOf_some (p := fun e : Timpl_Event => e.Key == x) (g := fun i => (i : Int)) (e := (-1 : Int)) (i := 0) (xs := l) with ⟨j, b, h1, h2, h3⟩ | ⟨_, h2⟩
  · exact .inl ⟨j, b, by unfold fi; rw [h3]; simp, h1, by simpa using h2⟩
  · exact .inr h2
/-- The key that an event hangs on. -/
def nextKey (e : Timpl_Event) : Option Int := if e.Kind = 2 ∨ e.Kind = 3 then some e.Parent else if e.Kind = 4 then some e.Evid else none
inductive Path (l : List Timpl_Event) : Int → List Nat → Prop where
  | last {x : Int} {i : Nat} {e : Timpl_Event} (h : fi l x = i) (he : l[i]? = some e) (hk : e.Kind = 1) : Path l x [i]
  | step {x y : Int} {i : Nat} {e : Timpl_Event} {p : List Nat} (h : fi l x = i) (he : l[i]? = some e) (hk : e.Kind ≠ 1) (hy : nextKey e = some y) (hp : Path l y p) : Path l x (i :: p)
theorem Path.key {l : List Timpl_Event} {x : Int} {i : Nat} {p : List Nat} (h : Path l x (i :: p)) : fi l x = i ∧ ∃ e, l[i]? = some e ∧ e.Key = x := by
  have : fi l x = i := by cases h <;> assumption
  refine ⟨this, ?_⟩
  rcases fi_cases l x with ⟨j, e, h1, h2, h3⟩ | h1
  · rw [this] at h1
    have : i = j := by omega
    subst this
    exact ⟨e, h2, h3⟩
  · rw [this] at h1; omega
theorem Path.det {l : List Timpl_Event} : ∀ {p q : List Nat} {x : Int}, Path l x p → Path l x q → p = q := by
  intro p q x h
  induction h generalizing q with
  | last h he hk =>
    intro h'
    cases h' with
    | last h2 he2 hk2 => rw [h] at h2; congr 1; omega
    | step h2 he2 hk2 _ _ =>
      rw [h] at h2
      have := Int.ofNat.inj h2; subst this
      rw [he] at he2; cases he2; exact absurd hk hk2
  | step h he hk hy hp ih =>
    intro h'
    cases h' with
    | last h2 he2 hk2 =>
      rw [h] at h2
      have := Int.ofNat.inj h2; subst this
      rw [he] at he2; cases he2; exact absurd hk2 hk
    | step h2 he2 hk2 hy2 hp2 =>
      rw [h] at h2
      have := Int.ofNat.inj h2; subst this
      rw [he] at he2; cases he2
      rw [hy] at hy2; cases hy2
      rw [ih hp2]
theorem Path.tail {l : List Timpl_Event} : ∀ {p : List Nat} {x : Int} {i : Nat}, Path l x p → i ∈ p → ∃ z a b, p = a ++ i :: b ∧ Path l z (i :: b) := by
  intro p x i h
  induction h with
  | last h he hk =>
    intro hi
    have := List.mem_singleton.1 hi
    subst this
    exact ⟨_, [], [], rfl, .last h he hk⟩
  | step h he hk hy hp ih =>
    intro hi
    rcases List.mem_cons.1 hi with rfl | hi
    · exact ⟨_, [], _, rfl, .step h he hk hy hp⟩
    · obtain ⟨z, a, b, h1, h2⟩ := ih hi
      exact ⟨z, _ :: a, b, by rw [h1]; rfl, h2⟩
theorem Path.nodup {l : List Timpl_Event} : ∀ {p : List Nat} {x : Int}, Path l x p → p.Nodup := by
  intro p x h
  induction h with
  | last h he hk => simp
  | step h he hk hy hp ih =>
    rename_i x y i e p
    refine List.nodup_cons.2 ⟨fun hi => ?_, ih⟩
    obtain ⟨z, a, b, h1, h2⟩ := hp.tail hi
    have hx := (Path.step h he hk hy hp).key.2
    obtain ⟨e1, h3, h4⟩ := hx
    obtain ⟨e2, h5, h6⟩ := h2.key.2
    rw [h3] at h5; cases h5
    have hzx : z = x := by rw [← h6, h4]
    subst hzx
    have := h2.det (Path.step h he hk hy hp)
    have e3 := congrArg List.length h1
    simp only [List.cons.injEq, true_and] at this
    rw [this] at e3
    simp at e3
    omega
theorem Path.lt {l : List Timpl_Event} : ∀ {p : List Nat} {x : Int}, Path l x p → ∀ i ∈ p, i < l.length := by
  intro p x h i hi
  obtain ⟨z, a, b, _, h2⟩ := h.tail hi
  obtain ⟨e, h3, _⟩ := h2.key.2
  exact (List.getElem?_eq_some_iff.1 h3).1
def ch (l : List Timpl_Event) : Nat → Int → List Int → List Int
  | 0, _, _ => []
  | m + 1, x, acc => match l[(fi l x).toNat]? with
    | none => []
    | some e => if fi l x < 0 then [] else if e.Kind = 1 then fi l x :: acc else match nextKey e with
      | some y => ch l m y (fi l x :: acc)
      | none => []
theorem ch_path {l : List Timpl_Event} : ∀ {p : List Nat} {x : Int}, Path l x p → ∀ (m : Nat) (acc : List Int), p.length ≤ m → ch l m x acc = (p.map fun i : Nat => (i : Int)).reverse ++ acc := by
  intro p x h
  induction h with
  | last h he hk =>
    intro m acc hm
    obtain ⟨m, rfl⟩ : ∃ j, m = j + 1 := ⟨m - 1, by simp at hm; omega⟩
    rename_i i e
    simp only [ch, h, Int.toNat_natCast, he, hk, if_true]
    rw [if_neg (by omega)]
    simp
  | step h he hk hy hp ih =>
    intro m acc hm
    obtain ⟨m, rfl⟩ : ∃ j, m = j + 1 := ⟨m - 1, by simp at hm; omega⟩
    simp only [ch, h, Int.toNat_natCast, he, hy]
    rw [if_neg (by omega), if_neg hk, ih m _ (by simpa using hm)]
    simp
theorem path_ch {l : List Timpl_Event} : ∀ (m : Nat) (x : Int) (acc : List Int), ch l m x acc ≠ [] → ∃ p, Path l x p
  | 0, x, acc, h => absurd rfl h
  | m + 1, x, acc, h => by
    simp only [ch] at h
    rcases fi_cases l x with ⟨i, e, h1, h2, _⟩ | h1
    · rw [h1] at h
      simp only [Int.toNat_natCast, h2] at h
      rw [if_neg (by omega)] at h
      by_cases hk : e.Kind = 1
      · exact ⟨_, .last h1 h2 hk⟩
      · rw [if_neg hk] at h
        cases hy : nextKey e with
        | none => rw [hy] at h; exact absurd rfl h
        | some y =>
          rw [hy] at h
          obtain ⟨p, hp⟩ := path_ch m y _ h
          exact ⟨_, .step h1 h2 hk hy hp⟩
    · rw [h1] at h
      simp only [Int.reduceNeg, Int.reduceToNat] at h
      split at h
      · exact absurd rfl h
      · rw [if_pos (by omega)] at h; exact absurd rfl h
theorem ch_more (l : List Timpl_Event) (x : Int) : ch l (l.length + 1) x [] = ch l l.length x [] := by
  by_cases hp : ∃ p, Path l x p
  · obtain ⟨p, hp⟩ := hp
    have := pigeon l.length p hp.nodup hp.lt
    rw [ch_path hp _ _ (by omega), ch_path hp _ _ this]
  · have : ∀ m, ch l m x [] = [] := fun m => Classical.byContradiction fun h => hp (path_ch m x [] h)
    rw [this, this]
theorem ch_len (l : List Timpl_Event) : ∀ (m : Nat) (x : Int) (acc : List Int), (ch l m x acc).length ≤ m + acc.length
  | 0, _, _ => by simp [ch]
  | m + 1, x, acc => by
    simp only [ch]
    split
    · simp
    · split
      · simp
      · split
        · simp; omega
        · split
          · rename_i y _
            have := ch_len l m y (fi l x :: acc)
            simp at this
            omega
          · simp
theorem kinds (e : Timpl_Event) (h1 : (e.Kind == 1) = false) : nextKey e = if e.Kind == 2 then some e.Parent else if e.Kind == 3 then some e.Parent else if e.Kind == 4 then some e.Evid else none := by
  unfold nextKey
  by_cases h2 : e.Kind = 2 <;> by_cases h3 : e.Kind = 3 <;> by_cases h4 : e.Kind = 4 <;> simp [h2, h3, h4]
theorem sChain (l : List Timpl_Event) (hl : l.length ≤ 1048576) : ∀ (m i : Nat) (x : Int) (acc : List Int), i + m = l.length + 1 → acc.length ≤ i → Ev (fun k => Fspec_Chain.l17 k l x acc (i : Int)) (ch l m x acc) := by
  intro m
  induction m with
  | zero =>
    intro i x acc hi _
    refine Ev.succ ?_
    simp only [Fspec_Chain.l17]
    rw [decide_eq_false (by omega)]
    exact Ev.pure _
  | succ m ih =>
    intro i x acc hi ha
    refine Ev.succ ?_
    simp only [Fspec_Chain.l17]
    rw [decide_eq_true (by omega)]
    simp only [cond_true]
    refine Ev.bind (sFind l x hl) ?_
    rcases fi_cases l x with ⟨j, e, h1, h2, _⟩ | h1
    · have hch : ch l (m + 1) x acc = if e.Kind = 1 then (j : Int) :: acc else match nextKey e with | some y => ch l m y ((j : Int) :: acc) | none => [] := by
        simp only [ch, h1, Int.toNat_natCast, h2]
        rw [if_neg (by omega)]
      rw [hch, h1]
      rw [decide_eq_false (by omega), decide_eq_true (by simp; omega)]
      simp only [cond_false, cond_true]
      refine Ev.at? h2 ?_
      refine Ev.ite (fun hk => ?_) (fun hk => ?_)
      · rw [if_pos (by simpa using hk)]; exact Ev.pure _
      · rw [if_neg (by simpa using hk), kinds e hk]
        have rc : ∀ y, Ev (fun k => Fspec_Chain.l17 k l y ([(j : Int)] ++ acc) (IntKind.i64.wrap ((i : Int) + 1))) (ch l m y ((j : Int) :: acc)) := fun y => by
          rw [wid1 (by omega)]; exact ih (i + 1) y _ (by omega) (by simp; omega)
        have jn : ∀ b, (b = (e.Kind == 2) ∨ (b = (e.Kind == 3) ∧ (e.Kind == 2) = false)) → (b = false → (e.Kind == 2) = false ∧ (e.Kind == 3) = false) → Ev (fun k => Fspec_Chain.j20 (Fspec_Chain.l17 k) k l ([(j : Int)] ++ acc) (i : Int) (j : Int) e.Kind b) (match (if e.Kind == 2 then some e.Parent else if e.Kind == 3 then some e.Parent else if e.Kind == 4 then some e.Evid else none) with | some y => ch l m y ((j : Int) :: acc) | none => []) := by
          intro b hb hb2
          simp only [Fspec_Chain.j20, Fspec_Chain.j19]
          refine Ev.ite (fun hc => ?_) (fun hc => ?_)
          · refine Ev.at? h2 ((rc _).to ?_)
            subst hc
            rcases hb with hb | ⟨hb, hb'⟩
            · rw [← hb]; rfl
            · rw [hb', ← hb]; rfl
          · obtain ⟨g1, g2⟩ := hb2 hc
            rw [g1, g2]
            refine Ev.ite (fun hc => ?_) (fun hc => ?_)
            · refine Ev.at? h2 ((rc _).to ?_)
              rw [hc]; rfl
            · rw [hc]; exact Ev.pure _
        refine Ev.ite (fun hc => ?_) (fun hc => ?_)
        · exact jn _ (.inl rfl) (fun h => by rw [hc] at h; cases h)
        · exact jn _ (.inr ⟨rfl, hc⟩) (fun h => ⟨hc, h⟩)
    · have hch : ch l (m + 1) x acc = [] := by
        simp only [ch, h1]
        split
        · rfl
        · rw [if_pos (by omega)]
      rw [hch, h1]
      rw [decide_eq_true (by omega)]
      exact Ev.pure _
theorem iChain (l : List Timpl_Event) (hl : l.length ≤ 1048576) : ∀ (m i : Nat) (x : Int) (acc : List Int), i + m = l.length → acc.length ≤ i → Ev (fun k => Fimpl_Chain.l17 k l x acc (l.length : Int) (i : Int)) (ch l m x acc) := by
  intro m
  induction m with
  | zero =>
    intro i x acc hi _
    refine Ev.succ ?_
    simp only [Fimpl_Chain.l17]
    rw [decide_eq_false (by omega)]
    exact Ev.pure _
  | succ m ih =>
    intro i x acc hi ha
    refine Ev.succ ?_
    simp only [Fimpl_Chain.l17]
    rw [decide_eq_true (by omega)]
    simp only [cond_true]
    refine Ev.bind (iFind l x hl) ?_
    rcases fi_cases l x with ⟨j, e, h1, h2, _⟩ | h1
    · have hch : ch l (m + 1) x acc = if e.Kind = 1 then (j : Int) :: acc else match nextKey e with | some y => ch l m y ((j : Int) :: acc) | none => [] := by
        simp only [ch, h1, Int.toNat_natCast, h2]
        rw [if_neg (by omega)]
      rw [hch, h1]
      rw [decide_eq_false (by omega), decide_eq_true (by simp; omega)]
      simp only [cond_false, cond_true]
      refine Ev.at? h2 ?_
      refine Ev.ite (fun hk => ?_) (fun hk => ?_)
      · rw [if_pos (by simpa using hk)]; exact Ev.pure _
      · rw [if_neg (by simpa using hk), kinds e hk]
        have rc : ∀ y, Ev (fun k => Fimpl_Chain.l17 k l y ([(j : Int)] ++ acc) (l.length : Int) (IntKind.i64.wrap ((i : Int) + 1))) (ch l m y ((j : Int) :: acc)) := fun y => by
          rw [wid1 (by omega)]; exact ih (i + 1) y _ (by omega) (by simp; omega)
        have jn : ∀ b, (b = (e.Kind == 2) ∨ (b = (e.Kind == 3) ∧ (e.Kind == 2) = false)) → (b = false → (e.Kind == 2) = false ∧ (e.Kind == 3) = false) → Ev (fun k => Fimpl_Chain.j20 (Fimpl_Chain.l17 k) k l ([(j : Int)] ++ acc) (j : Int) (l.length : Int) (i : Int) e.Kind b) (match (if e.Kind == 2 then some e.Parent else if e.Kind == 3 then some e.Parent else if e.Kind == 4 then some e.Evid else none) with | some y => ch l m y ((j : Int) :: acc) | none => []) := by
          intro b hb hb2
          simp only [Fimpl_Chain.j20, Fimpl_Chain.j19]
          refine Ev.ite (fun hc => ?_) (fun hc => ?_)
          · refine Ev.at? h2 ((rc _).to ?_)
            subst hc
            rcases hb with hb | ⟨hb, hb'⟩
            · rw [← hb]; rfl
            · rw [hb', ← hb]; rfl
          · obtain ⟨g1, g2⟩ := hb2 hc
            rw [g1, g2]
            refine Ev.ite (fun hc => ?_) (fun hc => ?_)
            · refine Ev.at? h2 ((rc _).to ?_)
              rw [hc]; rfl
            · rw [hc]; exact Ev.pure _
        refine Ev.ite (fun hc => ?_) (fun hc => ?_)
        · exact jn _ (.inl rfl) (fun h => by rw [hc] at h; cases h)
        · exact jn _ (.inr ⟨rfl, hc⟩) (fun h => ⟨hc, h⟩)
    · have hch : ch l (m + 1) x acc = [] := by
        simp only [ch, h1]
        split
        · rfl
        · rw [if_pos (by omega)]
      rw [hch, h1]
      rw [decide_eq_true (by omega)]
      exact Ev.pure _
theorem coreChain (a0 : List Tlaws_Event) (a1 : Int) (w0 : wfR wfTlaws_Event a0) (w1 : wfI a1) (s0 : a0.length ≤ 1048576) : ∃ r, Ev (fun k => Fspec_Chain k (a0.map cvEvent) a1) r ∧ Ev (fun k => Fimpl_Chain k (a0.map cvEvent) a1) r ∧ r.length ≤ 1099511627776 := by
  have hl : (a0.map cvEvent).length ≤ 1048576 := by rw [List.length_map]; exact s0
  refine ⟨ch (a0.map cvEvent) (a0.map cvEvent).length a1 [], ?_, ?_, ?_⟩
  · simp only [Fspec_Chain]
    rw [← ch_more]
    exact sChain _ hl _ 0 a1 [] (by omega) (by simp)
  · simp only [Fimpl_Chain]
    exact iChain _ hl _ 0 a1 [] (by omega) (by simp)
  · have := ch_len (a0.map cvEvent) (a0.map cvEvent).length a1 []
    simp only [List.length_nil] at this
    omega
theorem lawExactChain (a0 : List Tlaws_Event) (a1 : Int) (w0 : (Go.MG.wfR wfTlaws_Event) a0) (w1 : Go.MG.wfI a1) : ∃ k, Flaws_FnExactChain k a0 a1 = some true := by
  refine Ev.get (f := fun k => Flaws_FnExactChain k a0 a1) ?_
  simp only [Flaws_FnExactChain]
  obtain ⟨z1, hz1, hy1⟩ := szEventS_ev a0 w0 (1048576 : Int) (by omega) (by omega)
  refine Ev.bind hz1 ?_
  refine Ev.ite (fun _ => Ev.pure _) (fun hc => ?_)
  obtain ⟨_, _, s0⟩ := hy1.resolve_left (by simpa using hc)
  refine Ev.bind (toEventS_ev _ s0) ?_
  have l0 : (a0.map cvEvent).length ≤ 1048576 := by rw [List.length_map]; exact s0
  obtain ⟨r, hs, hi, hr⟩ := coreChain a0 a1 w0 w1 s0
  refine Ev.bind hs ?_
  refine Ev.bind (toEventS_ev _ s0) ?_
  refine Ev.bind hi ?_
  refine Ev.bind (eqIntS_ev _ hr) ?_
  simp only [Bool.not_true, cond_false]
  refine Ev.bind (toEventS_ev _ s0) ?_
  refine Ev.bind (eqEventS_ev _ (by omega)) ?_
  simp only [Bool.not_true, cond_false]
  refine Ev.bind (markEventS_ev _ (1 : Int) (by omega) (by omega) (by omega)) ?_
  refine Ev.ite (fun hc => absurd (of_decide_eq_true hc) (by first | omega | (simp only; omega))) (fun _ => ?_)
  refine Ev.bind (eqIntS_ev _ hr) ?_
  simp only [Bool.not_true, cond_false]
  have hrl := hr
  refine Ev.bind (markIntS_ev _ (1 : Int) (by omega) (by omega) (by omega)) ?_
  refine Ev.bind (heldIntS_ev _ (1 : Int) (by omega) (by omega) (by omega)) ?_
  refine Ev.ite (fun hc => absurd (of_decide_eq_true hc) (by first | omega | (simp only; omega))) (fun _ => ?_)
  simp only [bne_self_eq_false, cond_false]
  refine Ev.bind (toEventS_ev _ s0) ?_
  refine Ev.bind hi ?_
  refine Ev.bind (eqIntS_ev _ hr) ?_
  simp only [Bool.not_true, cond_false]
  refine Ev.bind (heldIntS_ev _ (1 : Int) (by omega) (by omega) (by omega)) ?_
  refine Ev.ite (fun hc => absurd (of_decide_eq_true hc) (by first | omega | (simp only; omega))) (fun _ => ?_)
  simp only [bne_self_eq_false, cond_false]
  exact Ev.pure _
end Go.Proofs.Ytcolcmjcjpikcaa.M
