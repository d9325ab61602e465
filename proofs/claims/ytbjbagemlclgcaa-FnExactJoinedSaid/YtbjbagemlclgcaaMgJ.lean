/- What is handed over at a call, and handed back: cells without names; how they are taken in and given out. -/
import Derived.Test.YtbjbagemlclgcaaMgI
namespace Go.MG
set_option linter.unusedVariables false
set_option linter.unusedSimpArgs false
set_option linter.unnecessarySimpa false

/-! ### the interface -/
def RXV (E : Env) : V → Value → List Nat → Prop
  | .one c, u, bs => RXC E c u bs
  | .agg cs, u, bs => ∃ us, u = .agg us.toArray ∧ RXCs E cs us bs
def RXVs (E : Env) : List V → List Value → List Nat → Prop
  | [], us, bs => us = [] ∧ bs = []
  | x :: xs, us, bs => ∃ u us' b bs', us = u :: us' ∧ bs = b ++ bs' ∧ RXV E x u b ∧ RXVs E xs us' bs'
/-- Variables that are handed over by address. -/
def RXOuts (E : Env) : List (List Cell) → List Nat → List Nat → Prop
  | [], ob, bs => ob = [] ∧ bs = []
  | cs :: css, ob, bs => ∃ g ob' us b bs', ob = g :: ob' ∧ bs = b ++ bs' ∧ RXCs E cs us b ∧ E.w.rangeAt g 0 us ∧ E.w.there g 0 cs.length ∧ RXOuts E css ob' bs'

def envI (w : World) (S : Bool → Nat → Prop) (ob : List Nat) : Env := ⟨w, S, fun _ => none, fun _ => none, fun i => ob[i]?, fun _ => 0, fun _ => []⟩

structure InOk (w : World) (S : Bool → Nat → Prop) (args : List V) (outs : List (List Cell)) (us : List Value) (ob bs obs : List Nat) : Prop where
  args : RXVs (envI w S ob) args us bs
  outs : RXOuts (envI w S ob) outs ob obs
  nodup : (bs ++ obs ++ ob).Nodup
  own : ∀ b ∈ bs ++ obs ++ ob, b < w.heap.size ∧ ∀ g, ¬ S g b
  bnd : ∀ g b, S g b → b < w.heap.size
  cls : ∀ b, S true b → S false b

def retVal : List Value → Value
  | [u] => u
  | us => .tuple us.toArray

structure OutOk (w : World) (S : Bool → Nat → Prop) (T : List Nat) (ob : List Nat) (res bk : List V) (outs' : List (List Cell)) (e : Ending) (w' : World) (S' : Bool → Nat → Prop) (us' ub : List Value) (bs' obs' : List Nat) : Prop where
  ret : e = .returned (retVal us')
  len : us'.length = res.length
  ok : InOk w' S' (res ++ bk) outs' (us' ++ ub) ob bs' obs'
  own : ∀ b ∈ bs' ++ obs', b ∈ T ∨ w.heap.size ≤ b
  sup : ∀ g b, S g b → S' g b
  sub : ∀ g b, S' g b → S g b ∨ w.heap.size ≤ b ∨ b ∈ T
  fr : Fr w (· ∈ T) w'

/-- Some of a list, by their places. -/
def pickV (bp : List Nat) (xs : List V) : List V := bp.map fun i => xs.getD i (.one .bad)
def pickU (bp : List Nat) (us : List Value) : List Value := bp.map fun i => us.getD i undef
/-- THE CONTRACT: called with these, the function returns, and what it hands back is as told; of the arguments at the places bp the memory is given back, too. -/
def Holds (P : Program) (f : FuncId) (args : List V) (outs : List (List Cell)) (bp : List Nat) (Post : List V → List (List Cell) → List V → Prop) : Prop :=
  ∀ w S us ob bs obs, InOk w S args outs us ob bs obs → Calls P f us.toArray w fun e w' =>
    ∃ res outs' bk S' us' bs' obs', Post res outs' bk ∧ OutOk w S (bs ++ obs ++ ob) ob res bk outs' e w' S' us' (pickU bp us) bs' obs'

theorem RXVs.split {E : Env} : ∀ {xs ys : List V} {us vs : List Value} {bs : List Nat}, us.length = xs.length → RXVs E (xs ++ ys) (us ++ vs) bs → ∃ b1 b2, bs = b1 ++ b2 ∧ RXVs E xs us b1 ∧ RXVs E ys vs b2
  | [], ys, us, vs, bs, hl, h => by
    obtain rfl : us = [] := by simpa using hl
    exact ⟨[], bs, rfl, ⟨rfl, rfl⟩, h⟩
  | x :: xs, ys, [], vs, bs, hl, h => by simp at hl
  | x :: xs, ys, u :: us, vs, bs, hl, h => by
    obtain ⟨u', us', b, bs', e1, rfl, h1, h2⟩ := h
    simp only [List.cons_append, List.cons.injEq] at e1
    obtain ⟨rfl, rfl⟩ := e1
    obtain ⟨b1, b2, rfl, h3, h4⟩ := RXVs.split (by simpa using hl) h2
    exact ⟨b ++ b1, b2, by simp, ⟨u, us, b, b1, rfl, rfl, h1, h3⟩, h4⟩
theorem RXVs.join {E : Env} : ∀ {xs ys : List V} {us vs : List Value} {b1 b2 : List Nat}, RXVs E xs us b1 → RXVs E ys vs b2 → RXVs E (xs ++ ys) (us ++ vs) (b1 ++ b2)
  | [], ys, us, vs, b1, b2, h, h' => by obtain ⟨rfl, rfl⟩ := h; exact h'
  | x :: xs, ys, us, vs, b1, b2, h, h' => by
    obtain ⟨u, us', b, bs', rfl, rfl, h1, h2⟩ := h
    exact ⟨u, us' ++ vs, b, bs' ++ b2, rfl, by simp, h1, RXVs.join h2 h'⟩
theorem RXVs.len {E : Env} : ∀ {xs : List V} {us : List Value} {bs : List Nat}, RXVs E xs us bs → us.length = xs.length
  | [], us, bs, h => by obtain ⟨rfl, _⟩ := h; rfl
  | x :: xs, us, bs, h => by obtain ⟨u, us', b, bs', rfl, _, _, h2⟩ := h; simp [RXVs.len h2]

/-! ### taking in -/
def Heap.internC (H : Heap) (k : Nat) : Cell → Heap × Cell
  | .ow sz es => ({ H with rows := upd H.rows k (some ⟨sz, es⟩), made := upd H.made k true }, .own k)
  | .bx cs => ({ H with boxes := upd H.boxes k (some cs), made := upd H.made k true }, .ptr k 0)
  | c => (H, c)
def Heap.internCs (H : Heap) (k : Nat) : List Cell → Heap × List Cell
  | [] => (H, [])
  | c :: cs => let (H1, c') := H.internC k c; let (H2, cs') := H1.internCs (k + 1) cs; (H2, c' :: cs')
def Heap.internV (H : Heap) (k : Nat) : V → Heap × V
  | .one c => let (H1, c') := H.internC k c; (H1, .one c')
  | .agg cs => let (H1, cs') := H.internCs k cs; (H1, .agg cs')
def Heap.internVs (H : Heap) (k : Nat) : List V → Heap × List V
  | [] => (H, [])
  | x :: xs => let (H1, x') := H.internV k x; let (H2, xs') := H1.internVs (k + x.cells.length) xs; (H2, x' :: xs')

/-- Blocks that nobody has yet. -/
def Free (F : Fix) (E : Env) (bs : List Nat) : Prop := ∀ b ∈ bs, (∀ c, ¬ E.S c b) ∧ (∀ k, ¬ Own E k b) ∧ b < E.w.heap.size ∧ (F.w0.heap.size ≤ b ∨ F.T b)

section
variable {F : Fix}

theorem intern_one {H H' : Heap} {E : Env} {k : Nat} {c c' : Cell} {u : Value} {bs : List Nat} (hH : RelH F H E) (hk : H.used k = false) (h : RXC E c u bs) (hn : ∀ j ∈ c.names, H.used j = true) (hf : Free F E bs) (hd : bs.Nodup) (hi : H.internC k c = (H', c')) :
    ∃ E', E'.w = E.w ∧ E'.S = E.S ∧ RelH F H' E' ∧ Sub E E' (fun k => H.used k = true) ∧ RC E' c' u ∧ (∀ j ∈ c'.names, H'.used j = true) ∧ (∀ j, H.used j = true → H'.used j = true) ∧ (∀ j, H'.used j = true → H.used j = true ∨ j = k) ∧ (∀ j b, Own E' j b → Own E j b ∨ b ∈ bs) ∧ (∀ j, H.used j = true → E'.pt j = E.pt j) := by
  have umono : ∀ {f g}, ∀ j, H.used j = true → Heap.used { H with rows := f, boxes := g, made := upd H.made k true } j = true := by
    intro f g j hj
    by_cases e : j = k
    · subst e; simp [Heap.used, upd_same]
    · simpa [Heap.used, upd_other _ _ e] using hj
  have uinv : ∀ {f g}, ∀ j, Heap.used { H with rows := f, boxes := g, made := upd H.made k true } j = true → H.used j = true ∨ j = k := by
    intro f g j hj
    by_cases e : j = k
    · exact .inr e
    · exact .inl (by simpa [Heap.used, upd_other _ _ e] using hj)
  have plain : ∀ {c : Cell}, (∀ j ∈ c.names, H.used j = true) → RC E c u ∧ bs = [] → (H, c) = (H', c') →
      ∃ E', E'.w = E.w ∧ E'.S = E.S ∧ RelH F H' E' ∧ Sub E E' (fun k => H.used k = true) ∧ RC E' c' u ∧ (∀ j ∈ c'.names, H'.used j = true) ∧ (∀ j, H.used j = true → H'.used j = true) ∧ (∀ j, H'.used j = true → H.used j = true ∨ j = k) ∧ (∀ j b, Own E' j b → Own E j b ∨ b ∈ bs) ∧ (∀ j, H.used j = true → E'.pt j = E.pt j) := by
    intro c hn h hi
    cases hi
    exact ⟨E, rfl, rfl, hH, Sub.refl _ _, h.1, hn, fun _ h => h, fun _ h => .inl h, fun _ _ h => .inl h, fun _ _ => rfl⟩
  cases c with
  | ow sz es =>
    simp only [Heap.internC] at hi
    cases hi
    simp only [RXC] at h
    obtain ⟨h1, h2, h3⟩ := h
    have hin : RowIn E u ⟨sz, es⟩ bs := by
      rcases h3 with ⟨h4, h5, h6⟩ | ⟨g, cap, bs', h4, h5, h6, h7, h8⟩
      · exact .inl ⟨h4, h5, h6⟩
      · exact .inr ⟨g, cap, bs', h4, h5, h6, h7, h8⟩
    obtain ⟨a1, a2⟩ := hH.addRow (r := ⟨sz, es⟩) hk h1 h2 hin hd (fun g hg => hf g hg)
    refine ⟨E.rowAt k u sz bs, rfl, rfl, a1, a2, ?_, ?_, umono, uinv, fun j b hj => ?_, fun _ _ => rfl⟩
    · simp only [RC, Env.rowAt, upd_same]
      refine ⟨?_, fun b hb => by cases hb; rfl⟩
      rcases h3 with ⟨h4, _⟩ | ⟨g, cap, _, h4, _⟩ <;> rw [h4] <;> rfl
    · intro j hj; simp [Cell.names] at hj; subst hj; simp [Heap.used, upd_same]
    · rcases hj with hj | hj
      · by_cases e : j = k
        · subst e; simp only [Env.rowAt, upd_same] at hj; exact .inr hj
        · exact .inl (.inl (by simpa only [Env.rowAt, upd_other _ _ e] using hj))
      · exact .inl (.inr hj)
  | bx cs =>
    simp only [Heap.internC] at hi
    cases hi
    simp only [RXC] at h
    obtain ⟨h1, g, us, h2, h3, h4, h5, h6⟩ := h
    obtain ⟨a1, a2⟩ := hH.addBox hk h3 (by simp [h1]) h4 h5 (hf g (by rw [h6]; simp))
    refine ⟨{ E with blk := upd E.blk k (some g), pt := upd E.pt k (some g) }, rfl, rfl, a1, a2, ?_, ?_, umono, uinv, fun j b hj => ?_, fun j hj => upd_other _ _ (fun e => by subst e; rw [hk] at hj; cases hj)⟩
    · simp only [RC, upd_same]
      exact ⟨by rw [h2]; rfl, fun b hb => by cases hb; exact h2⟩
    · intro j hj; simp [Cell.names] at hj; subst hj; simp [Heap.used, upd_same]
    · rcases hj with hj | hj
      · exact .inl (.inl hj)
      · by_cases e : j = k
        · subst e; simp only [upd_same] at hj; cases hj; exact .inr (by rw [h6]; simp)
        · exact .inl (.inr (by simpa only [upd_other _ _ e] using hj))
  | _ => exact plain hn (by simpa only [RXC] using h) (by simpa only [Heap.internC] using hi)

theorem RXV.sub {E E' : Env} {N : Nat → Prop} (s : Sub E E' N) {x : V} {u : Value} {bs : List Nat} (hm : ∀ b ∈ bs, E'.w.heap[b]? = E.w.heap[b]?) (hn : ∀ k ∈ x.names, N k) (h : RXV E x u bs) : RXV E' x u bs := by
  cases x with
  | one c => exact RXC.sub s hm (fun k hk => hn k (by simpa [V.names, V.cells, cnames] using hk)) h
  | agg cs => obtain ⟨us, h1, h2⟩ := h; exact ⟨us, h1, RXCs.sub s hm hn h2⟩

theorem RXVs.sub {E E' : Env} {N : Nat → Prop} (s : Sub E E' N) : ∀ {xs : List V} {us : List Value} {bs : List Nat}, (∀ b ∈ bs, E'.w.heap[b]? = E.w.heap[b]?) → (∀ k ∈ xs.flatMap V.names, N k) → RXVs E xs us bs → RXVs E' xs us bs
  | [], _, _, _, _, h => h
  | x :: xs, _, _, hm, hn, h => by
    obtain ⟨u, us', b, bs', rfl, rfl, h1, h2⟩ := h
    simp only [List.flatMap_cons, List.mem_append] at hn
    exact ⟨u, us', b, bs', rfl, rfl, h1.sub s (fun x hx => hm x (by simp [hx])) (fun k hk => hn k (.inl hk)), RXVs.sub s (fun x hx => hm x (by simp [hx])) (fun k hk => hn k (.inr hk)) h2⟩

/-- What the taking in of a list of cells brings about. -/
structure Took (F : Fix) (H : Heap) (E : Env) (H' : Heap) (E' : Env) (k n : Nat) (bs : List Nat) : Prop where
  w : E'.w = E.w
  S : E'.S = E.S
  rel : RelH F H' E'
  sub : Sub E E' (fun k => H.used k = true)
  up : ∀ j, H.used j = true → H'.used j = true
  down : ∀ j, H'.used j = true → H.used j = true ∨ (k ≤ j ∧ j < k + n)
  own : ∀ j b, Own E' j b → Own E j b ∨ b ∈ bs
  pt : ∀ j, H.used j = true → E'.pt j = E.pt j

theorem Took.trans {H H1 H2 : Heap} {E E1 E2 : Env} {k n m : Nat} {bs bs' : List Nat} (h : Took F H E H1 E1 k n bs) (h' : Took F H1 E1 H2 E2 (k + n) m bs') : Took F H E H2 E2 k (n + m) (bs ++ bs') := by
  refine ⟨h'.w.trans h.w, h'.S.trans h.S, h'.rel, h.sub.trans ⟨h'.sub.S, h'.sub.mem, fun j hj => h'.sub.hdrE j (h.up j hj), fun j hj => h'.sub.pt j (h.up j hj), fun j hj => h'.sub.sz j (h.up j hj)⟩, fun j hj => h'.up j (h.up j hj), fun j hj => ?_, fun j b hj => ?_, fun j hj => (h'.pt j (h.up j hj)).trans (h.pt j hj)⟩
  · rcases h'.down j hj with h1 | h1
    · rcases h.down j h1 with h2 | h2
      · exact .inl h2
      · exact .inr ⟨h2.1, by omega⟩
    · exact .inr ⟨by omega, by omega⟩
  · rcases h'.own j b hj with h1 | h1
    · rcases h.own j b h1 with h2 | h2
      · exact .inl h2
      · exact .inr (List.mem_append_left _ h2)
    · exact .inr (List.mem_append_right _ h1)

theorem Took.free {H H1 : Heap} {E E1 : Env} {k n : Nat} {bs bs' : List Nat} (h : Took F H E H1 E1 k n bs) (hd : ∀ b ∈ bs', b ∉ bs) (hf : Free F E bs') : Free F E1 bs' := fun b hb => by
  obtain ⟨h1, h2, h3, h4⟩ := hf b hb
  exact ⟨fun c hc => h1 c (by rw [h.S] at hc; exact hc), fun j hj => (h.own j b hj).elim (h2 j) (hd b hb), by rw [h.w]; exact h3, h4⟩

theorem intern_cells : ∀ {cs cs' : List Cell} {H H' : Heap} {E : Env} {k : Nat} {us : List Value} {bs : List Nat} (_ : RelH F H E) (_ : ∀ j, k ≤ j → j < k + cs.length → H.used j = false) (_ : RXCs E cs us bs) (_ : ∀ j ∈ cnames cs, H.used j = true) (_ : Free F E bs) (_ : bs.Nodup)
    (_ : H.internCs k cs = (H', cs')), ∃ E', Took F H E H' E' k cs.length bs ∧ RCs E' cs' us ∧ (∀ j ∈ cnames cs', H'.used j = true) ∧ cs'.length = cs.length
  | [], cs', H, H', E, k, us, bs, hH, hk, h, hn, hf, hd, hi => by
    simp [Heap.internCs] at hi
    obtain ⟨rfl, rfl⟩ := hi
    simp only [RXCs] at h
    obtain ⟨rfl, rfl⟩ := h
    exact ⟨E, ⟨rfl, rfl, hH, Sub.refl _ _, fun _ h => h, fun _ h => .inl h, fun _ _ h => .inl h, fun _ _ => rfl⟩, by simp [RCs], (fun j hj => by cases hj), rfl⟩
  | c :: cs, cs', H, H', E, k, us, bs, hH, hk, h, hn, hf, hd, hi => by
    simp only [RXCs] at h
    obtain ⟨u, us', b, bs', rfl, rfl, h1, h2⟩ := h
    simp only [cnames, List.mem_append] at hn
    cases hi1 : H.internC k c with
    | mk H1 c1 =>
      cases hi2 : H1.internCs (k + 1) cs with
      | mk H2 cs2 =>
        simp only [Heap.internCs, hi1, hi2] at hi
        cases hi
        obtain ⟨hd1, hd2, hd3⟩ := List.nodup_append.1 hd
        obtain ⟨E1, a1, a2, a3, a4, a5, a6, a7, a8, a9, a10⟩ := intern_one hH (hk k (Nat.le_refl _) (by simp)) h1 (fun j hj => hn j (.inl hj)) (fun x hx => hf x (by simp [hx])) hd1 hi1
        have T1 : Took F H E H1 E1 k 1 b := ⟨a1, a2, a3, a4, a7, fun j hj => (a8 j hj).imp id (fun e => by omega), a9, a10⟩
        obtain ⟨E2, b1, b2, b3, b4⟩ := intern_cells (k := k + 1) a3 (fun j hj hj' => by
            cases hu : H1.used j with
            | false => rfl
            | true =>
              rcases a8 j hu with h | h
              · have := hk j (by omega) (by simp; omega); rw [h] at this; cases this
              · omega) (RXCs.sub a4 (fun x hx => by rw [a1]) (fun j hj => hn j (.inr hj)) h2) (fun j hj => a7 j (hn j (.inr hj)))
          (T1.free (fun x hx hx' => hd3 x hx' x hx rfl) (fun x hx => hf x (by simp [hx]))) hd2 hi2
        refine ⟨E2, by have := T1.trans b1; simpa [Nat.add_comm] using this, ?_, fun j hj => ?_, by simp [b4]⟩
        · simp only [RCs]
          exact ⟨u, us', rfl, RC.sub b1.sub a6 a5, b2⟩
        · simp only [cnames, List.mem_append] at hj
          exact hj.elim (fun h => b1.up j (a6 j h)) (b3 j)

theorem intern_V {x x' : V} {H H' : Heap} {E : Env} {k : Nat} {u : Value} {bs : List Nat} (hH : RelH F H E) (hk : ∀ j, k ≤ j → j < k + x.cells.length → H.used j = false) (h : RXV E x u bs) (hn : ∀ j ∈ x.names, H.used j = true) (hf : Free F E bs) (hd : bs.Nodup)
    (hi : H.internV k x = (H', x')) : ∃ E', Took F H E H' E' k x.cells.length bs ∧ RV E' x' u ∧ (∀ j ∈ x'.names, H'.used j = true) := by
  cases x with
  | one c =>
    cases hi1 : H.internC k c with
    | mk H1 c1 =>
      simp only [Heap.internV, hi1] at hi
      cases hi
      obtain ⟨E1, a1, a2, a3, a4, a5, a6, a7, a8, a9, a10⟩ := intern_one hH (hk k (Nat.le_refl _) (by simp [V.cells])) h (fun j hj => hn j (by simpa [V.names, V.cells, cnames] using hj)) hf hd hi1
      exact ⟨E1, ⟨a1, a2, a3, a4, a7, fun j hj => (a8 j hj).imp id (fun e => by simp [V.cells]; omega), a9, a10⟩, a5, fun j hj => a6 j (by simpa [V.names, V.cells, cnames] using hj)⟩
  | agg cs =>
    obtain ⟨us, rfl, h⟩ := h
    cases hi1 : H.internCs k cs with
    | mk H1 cs1 =>
      simp only [Heap.internV, hi1] at hi
      cases hi
      obtain ⟨E1, a1, a2, a3, _⟩ := intern_cells hH hk h hn hf hd hi1
      exact ⟨E1, a1, ⟨us, rfl, a2⟩, a3⟩

theorem intern_Vs : ∀ {xs xs' : List V} {H H' : Heap} {E : Env} {k : Nat} {us : List Value} {bs : List Nat} (_ : RelH F H E) (_ : ∀ j, k ≤ j → j < k + (xs.flatMap V.cells).length → H.used j = false) (_ : RXVs E xs us bs) (_ : ∀ j ∈ xs.flatMap V.names, H.used j = true) (_ : Free F E bs) (_ : bs.Nodup)
    (_ : H.internVs k xs = (H', xs')), ∃ E', Took F H E H' E' k (xs.flatMap V.cells).length bs ∧ RVs E' xs' us ∧ (∀ j ∈ xs'.flatMap V.names, H'.used j = true)
  | [], xs', H, H', E, k, us, bs, hH, hk, h, hn, hf, hd, hi => by
    simp [Heap.internVs] at hi
    obtain ⟨rfl, rfl⟩ := hi
    obtain ⟨rfl, rfl⟩ := h
    exact ⟨E, ⟨rfl, rfl, hH, Sub.refl _ _, fun _ h => h, fun _ h => .inl h, fun _ _ h => .inl h, fun _ _ => rfl⟩, rfl, fun j hj => by simp at hj⟩
  | x :: xs, xs', H, H', E, k, us, bs, hH, hk, h, hn, hf, hd, hi => by
    obtain ⟨u, us', b, bs', rfl, rfl, h1, h2⟩ := h
    simp only [List.flatMap_cons, List.mem_append] at hn
    simp only [List.flatMap_cons, List.length_append] at hk
    cases hi1 : H.internV k x with
    | mk H1 x1 =>
      cases hi2 : H1.internVs (k + x.cells.length) xs with
      | mk H2 xs2 =>
        simp only [Heap.internVs, hi1, hi2] at hi
        cases hi
        obtain ⟨hd1, hd2, hd3⟩ := List.nodup_append.1 hd
        obtain ⟨E1, T1, a2, a3⟩ := intern_V hH (fun j hj hj' => hk j hj (by omega)) h1 (fun j hj => hn j (.inl hj)) (fun x hx => hf x (by simp [hx])) hd1 hi1
        obtain ⟨E2, b1, b2, b3⟩ := intern_Vs (k := k + x.cells.length) T1.rel (fun j hj hj' => by
            cases hu : H1.used j with
            | false => rfl
            | true =>
              rcases T1.down j hu with h | h
              · have := hk j (by omega) (by omega); rw [h] at this; cases this
              · omega) (h2.sub T1.sub (fun x hx => by rw [T1.w]) (fun j hj => hn j (.inr hj))) (fun j hj => T1.up j (hn j (.inr hj)))
          (T1.free (fun x hx hx' => hd3 x hx' x hx rfl) (fun x hx => hf x (by simp [hx]))) hd2 hi2
        refine ⟨E2, by have := T1.trans b1; simpa using this, ⟨u, us', rfl, RV.sub b1.sub a3 a2, b2⟩, fun j hj => ?_⟩
        simp only [List.flatMap_cons, List.mem_append] at hj
        exact hj.elim (fun h => b1.up j (a3 j h)) (b3 j)
end
end Go.MG
