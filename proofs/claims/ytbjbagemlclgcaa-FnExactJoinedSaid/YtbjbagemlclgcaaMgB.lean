/- Abstract heaps and states, their relation to the machine's memory, and the steps that keep it. -/
import Derived.Test.YtbjbagemlclgcaaMgAa
namespace Go.MG
set_option linter.unusedVariables false
set_option linter.unusedSimpArgs false
set_option linter.unnecessarySimpa false

def upd {α : Type} (f : Nat → α) (k : Nat) (v : α) : Nat → α := fun x => if x = k then v else f x
theorem upd_same {α : Type} (f : Nat → α) (k : Nat) (v : α) : upd f k v k = v := by simp [upd]
theorem upd_other {α : Type} (f : Nat → α) {k x : Nat} (v : α) (h : x ≠ k) : upd f k v x = f x := by simp [upd, h]

inductive V where
  | one (c : Cell)
  | agg (cs : List Cell)
inductive Slot where
  | v (x : V)
  | tup (xs : List V)

def V.cells : V → List Cell
  | .one c => [c]
  | .agg cs => cs
def V.names (x : V) : List Nat := cnames x.cells
def Slot.names : Slot → List Nat
  | .v x => x.names
  | .tup xs => xs.flatMap V.names

def RV (E : Env) : V → Value → Prop
  | .one c, u => RC E c u
  | .agg cs, u => ∃ us, u = .agg us.toArray ∧ RCs E cs us
def RVs (E : Env) : List V → List Value → Prop
  | [], us => us = []
  | x :: xs, us => ∃ u us', us = u :: us' ∧ RV E x u ∧ RVs E xs us'
def RSlot (E : Env) : Slot → Value → Prop
  | .v x, u => RV E x u
  | .tup xs, u => ∃ us, u = .tuple us.toArray ∧ RVs E xs us

theorem RV.sub {E E' : Env} {N : Nat → Prop} (s : Sub E E' N) {x : V} {u : Value} (hn : ∀ k ∈ x.names, N k) (h : RV E x u) : RV E' x u := by
  cases x with
  | one c => exact RC.sub s (fun k hk => hn k (by simpa [V.names, V.cells, cnames] using hk)) h
  | agg cs => obtain ⟨us, hu, hr⟩ := h; exact ⟨us, hu, hr.sub s hn⟩

theorem RVs.sub {E E' : Env} {N : Nat → Prop} (s : Sub E E' N) : ∀ {xs : List V} {us : List Value}, (∀ k ∈ xs.flatMap V.names, N k) → RVs E xs us → RVs E' xs us
  | [], _, _, h => h
  | x :: xs, _, hn, h => by
    obtain ⟨u, us', rfl, h1, h2⟩ := h
    simp only [List.flatMap_cons, List.mem_append] at hn
    exact ⟨u, us', rfl, h1.sub s (fun k hk => hn k (.inl hk)), RVs.sub s (fun k hk => hn k (.inr hk)) h2⟩

theorem RSlot.sub {E E' : Env} {N : Nat → Prop} (s : Sub E E' N) {x : Slot} {u : Value} (hn : ∀ k ∈ x.names, N k) (h : RSlot E x u) : RSlot E' x u := by
  cases x with
  | v x => exact RV.sub s hn h
  | tup xs => obtain ⟨us, hu, hr⟩ := h; exact ⟨us, hu, hr.sub s hn⟩

theorem RV.cells {E : Env} {x : V} {u : Value} (h : RV E x u) : ∃ us, RCs E x.cells us ∧ u.cells = us.toArray := by
  cases x with
  | one c =>
    refine ⟨[u], ⟨u, [], rfl, h, rfl⟩, ?_⟩
    have := RC.one h
    cases u <;> first | rfl | (simp [Value.oneCell'] at this)
  | agg cs => obtain ⟨us, rfl, hr⟩ := h; exact ⟨us, hr, rfl⟩

structure Row where
  sz : Nat
  es : List (List Cell)
structure Heap where
  rows : Nat → Option Row
  boxes : Nat → Option (List Cell)
  base : Nat
  made : Nat → Bool
  lens : Nat → Option Nat
  hv : Nat → Option Value
structure St where
  slots : Nat → Option Slot
  H : Heap
/-- What stands fixed while a function runs: the world at its begin, the blocks that were handed over, what it may read, how many slots it has. -/
structure Fix where
  w0 : World
  T : Nat → Prop
  S0 : Bool → Nat → Prop
  n : Nat
  ob : List Nat
  oh : List (V × Value)

def Heap.used (H : Heap) (k : Nat) : Bool := decide (k < H.base) || H.made k

/-- Since the call began nothing has turned but what was handed over. -/
structure Fr (w0 : World) (T : Nat → Prop) (w : World) : Prop where
  os : w.os = w0.os
  tape : w.tape = w0.tape
  output : w.output = w0.output
  size : w0.heap.size ≤ w.heap.size
  block : ∀ b, b < w0.heap.size → ¬ T b → w.heap[b]? = w0.heap[b]?

def Own (E : Env) (k b : Nat) : Prop := b ∈ E.ob k ∨ E.blk k = some b

def RowIn (E : Env) (h : Value) (r : Row) (bs : List Nat) : Prop :=
  (h = .slice none 0 0 ∧ r.es = [] ∧ bs = []) ∨ ∃ g cap bs', h = .slice (some ⟨g, 0, none⟩) r.es.length cap ∧ r.es.length ≤ cap ∧ E.w.there g 0 (cap * r.sz) ∧ RXRow E g 0 r.sz r.es bs' ∧ bs = g :: bs'

structure RowOk (E : Env) (k : Nat) (r : Row) : Prop where
  len : ∀ e ∈ r.es, e.length = r.sz
  flat : Flat r.es
  row : ∃ h, E.hdr k = some h ∧ E.sz k = r.sz ∧ RowIn E h r (E.ob k)
structure BoxOk (E : Env) (k : Nat) (cs : List Cell) : Prop where
  box : ∃ g us, E.blk k = some g ∧ RCs E cs us ∧ E.w.rangeAt g 0 us ∧ E.w.there g 0 cs.length

structure RelH (F : Fix) (H : Heap) (E : Env) : Prop where
  rows : ∀ k r, H.rows k = some r → RowOk E k r
  boxes : ∀ k cs, H.boxes k = some cs → BoxOk E k cs
  hdr0 : ∀ k, H.rows k = none → E.ob k = []
  blk0 : ∀ k, H.boxes k = none → E.blk k = none
  both : ∀ k, H.rows k = none ∨ E.blk k = none
  uniq : ∀ k k' b, Own E k b → Own E k' b → k = k'
  own : ∀ k b, Own E k b → (∀ g, ¬ E.S g b) ∧ b < E.w.heap.size ∧ (F.w0.heap.size ≤ b ∨ F.T b)
  S : ∀ g b, E.S g b → b < E.w.heap.size
  SS : ∀ b, E.S true b → E.S false b
  Ssub : ∀ g b, E.S g b → F.S0 g b ∨ F.w0.heap.size ≤ b ∨ F.T b
  Ssup : ∀ g b, F.S0 g b → E.S g b
  pt : ∀ k g, E.blk k = some g → E.pt k = some g
  fr : Fr F.w0 F.T E.w
  usedR : ∀ k, H.rows k ≠ none → H.used k = true
  usedB : ∀ k cs, H.boxes k = some cs → H.used k = true ∧ ∀ j ∈ cnames cs, H.used j = true
  nodup : ∀ k, (E.ob k).Nodup
  lens : ∀ k n, H.lens k = some n → H.used k = true ∧ ∃ a cap, E.hdr k = some (.slice a n cap)
  hv : ∀ k v, H.hv k = some v → H.used k = true ∧ E.hdr k = some v
theorem RowIn.head {E : Env} {r : Row} {bs : List Nat} {g n cap : Nat} (h : RowIn E (.slice (some ⟨g, 0, none⟩) n cap) r bs) : g ∈ bs := by
  rcases h with ⟨h, _⟩ | ⟨g', cap', bs', h, _, _, _, rfl⟩
  · cases h
  · cases h; simp

structure RelS (F : Fix) (sl : Nat → Option Slot) (H : Heap) (a : Act) (E : Env) : Prop where
  size : a.tmps.size = F.n
  defers : a.defers = []
  slots : ∀ t s, sl t = some s → RSlot E s (a.tmps.getD t undef)
  used : ∀ t s, sl t = some s → ∀ k ∈ s.names, H.used k = true

/-- The variables that were handed over by address keep their names. -/
def Pin (F : Fix) (H : Heap) (E : Env) : Prop := (∀ k, k < F.ob.length → H.used k = true ∧ ∀ g, E.pt k = some g → F.ob[k]? = some g) ∧ ∀ p ∈ F.oh, RV E p.1 p.2 ∧ ∀ k ∈ p.1.names, H.used k = true
theorem Pin.sub {F : Fix} {H H' : Heap} {E E' : Env} (h : Pin F H E) (s : Sub E E' (fun k => H.used k = true)) (hu : ∀ k, H.used k = true → H'.used k = true) : Pin F H' E' :=
  ⟨fun k hk => ⟨hu k (h.1 k hk).1, fun g hg => (h.1 k hk).2 g (s.pt k (h.1 k hk).1 g hg)⟩, fun p hp => ⟨(h.2 p hp).1.sub s (h.2 p hp).2, fun k hk => hu k ((h.2 p hp).2 k hk)⟩⟩

def Rel (F : Fix) (σ : St) (a : Act) (w : World) : Prop := ∃ E : Env, E.w = w ∧ RelH F σ.H E ∧ RelS F σ.slots σ.H a E ∧ Pin F σ.H E

/-! ### slots -/
theorem RelS.put {F : Fix} {sl : Nat → Option Slot} {H H' : Heap} {a : Act} {E E' : Env} (h : RelS F sl H a E) (s : Sub E E' (fun k => H.used k = true))
    (hu : ∀ k, H.used k = true → H'.used k = true) {d : Nat} {x : Slot} {u : Value} (hd : d < F.n) (hx : RSlot E' x u) (hn : ∀ k ∈ x.names, H'.used k = true) :
    RelS F (upd sl d (some x)) H' (a.put (some d) u) E' := by
  refine ⟨by simp [Act.put, h.size], h.defers, fun t y hy => ?_, fun t y hy k hk => ?_⟩
  · by_cases e : t = d
    · subst e
      rw [upd_same] at hy; cases hy
      have : t < a.tmps.size := by rw [h.size]; exact hd
      simp only [Act.put, Array.getD_eq_getD_getElem?, Array.getElem?_setIfInBounds_self_of_lt this, Option.getD_some]
      exact hx
    · rw [upd_other _ _ e] at hy
      have := (h.slots t y hy).sub s (h.used t y hy)
      simpa [Act.put, Array.getD_eq_getD_getElem?, Array.getElem?_setIfInBounds_ne (Ne.symm e)] using this
  · by_cases e : t = d
    · subst e
      rw [upd_same] at hy; cases hy
      exact hn k hk
    · rw [upd_other _ _ e] at hy
      exact hu k (h.used t y hy k hk)

theorem RelS.keep {F : Fix} {sl : Nat → Option Slot} {H H' : Heap} {a : Act} {E E' : Env} (h : RelS F sl H a E) (s : Sub E E' (fun k => H.used k = true))
    (hu : ∀ k, H.used k = true → H'.used k = true) : RelS F sl H' a E' :=
  ⟨h.size, h.defers, fun t y hy => (h.slots t y hy).sub s (h.used t y hy), fun t y hy k hk => hu k (h.used t y hy k hk)⟩

/-! ### heap steps -/
theorem Sub.refl (E : Env) (N : Nat → Prop) : Sub E E N := ⟨fun _ _ h => h, fun _ _ _ => rfl, fun _ _ => rfl, fun _ _ _ h => h, fun _ _ _ _ => rfl⟩

/-- The world turns, but for no block that anyone reads or owns. -/
structure Chg (F : Fix) (E : Env) (w' : World) : Prop where
  os : w'.os = E.w.os
  tape : w'.tape = E.w.tape
  output : w'.output = E.w.output
  size : E.w.heap.size ≤ w'.heap.size
  block : ∀ b, b < E.w.heap.size → w'.heap[b]? ≠ E.w.heap[b]? → (∀ g, ¬ E.S g b) ∧ (∀ k, ¬ Own E k b) ∧ (F.w0.heap.size ≤ b ∨ F.T b)

theorem Chg.at_ {F : Fix} {E : Env} {w' : World} (c : Chg F E w') {b : Nat} (hb : b < E.w.heap.size) (h : (∃ g, E.S g b) ∨ ∃ k, Own E k b) : w'.heap[b]? = E.w.heap[b]? := by
  refine Classical.byContradiction fun hne => ?_
  obtain ⟨h1, h2, _⟩ := c.block b hb hne
  rcases h with ⟨g, hg⟩ | ⟨k, hk⟩
  · exact h1 g hg
  · exact h2 k hk

theorem Fr.chg {F : Fix} {E : Env} {w' : World} (h : Fr F.w0 F.T E.w) (c : Chg F E w') : Fr F.w0 F.T w' := by
  refine ⟨c.os.trans h.os, c.tape.trans h.tape, c.output.trans h.output, Nat.le_trans h.size c.size, fun b hb hT => ?_⟩
  rw [← h.block b hb hT]
  refine Classical.byContradiction fun hne => ?_
  have := (c.block b (Nat.lt_of_lt_of_le hb h.size) hne).2.2
  rcases this with h1 | h1
  · omega
  · exact hT h1

theorem Sub.chg {F : Fix} {H : Heap} {E : Env} {w' : World} (h : RelH F H E) (c : Chg F E w') (N : Nat → Prop) : Sub E { E with w := w' } N :=
  ⟨fun _ _ h => h, fun g b hS => c.at_ (h.S g b hS) (.inl ⟨g, hS⟩), fun _ _ => rfl, fun _ _ _ h => h, fun _ _ _ _ => rfl⟩

theorem RowIn.chg {E E' : Env} {N : Nat → Prop} (s : Sub E E' N) {hd : Value} {r : Row} {bs : List Nat} (hf : Flat r.es) (hb : ∀ g ∈ bs, E'.w.heap[g]? = E.w.heap[g]?) (h : RowIn E hd r bs) : RowIn E' hd r bs := by
  rcases h with h | ⟨g, cap, bs', h1, h2, h3, h4, h5⟩
  · exact .inl h
  · subst h5
    have hg := hb g (by simp)
    exact .inr ⟨g, cap, bs', h1, h2, there_of_block hg h3, RXRow.sub s hg (fun x hx => hb x (by simp [hx])) (fun k hk => by rw [hf.2] at hk; cases hk) h4, rfl⟩

theorem RelH.chg {F : Fix} {H : Heap} {E : Env} (h : RelH F H E) {w' : World} (c : Chg F E w') : RelH F H { E with w := w' } := by
  have s := fun N => Sub.chg h c N
  refine ⟨fun k r hr => ?_, fun k cs hc => ?_, h.hdr0, h.blk0, h.both, h.uniq, fun k b hb => ?_, fun g b hb => Nat.lt_of_lt_of_le (h.S g b hb) c.size, h.SS, h.Ssub, h.Ssup, h.pt, h.fr.chg c, h.usedR, h.usedB, h.nodup, h.lens, h.hv⟩
  · obtain ⟨h1, h2, hd, h3, h4, h5⟩ := h.rows k r hr
    exact ⟨h1, h2, hd, h3, h4, RowIn.chg (s fun _ => True) h2 (fun g hg => c.at_ (h.own k g (.inl hg)).2.1 (.inr ⟨k, .inl hg⟩)) h5⟩
  · obtain ⟨g, us, h1, h2, h3, h4⟩ := h.boxes k cs hc
    have hg : w'.heap[g]? = E.w.heap[g]? := c.at_ (h.own k g (.inr h1)).2.1 (.inr ⟨k, .inr h1⟩)
    exact ⟨g, us, h1, h2.sub (s fun _ => True) (fun _ _ => trivial), rangeAt_of_block hg h3, there_of_block hg h4⟩
  · obtain ⟨h1, h2, h3⟩ := h.own k b hb
    exact ⟨h1, Nat.lt_of_lt_of_le h2 c.size, h3⟩

/-- A row's name, header and block, once more or for the first time. -/
def Env.rowAt (E : Env) (k : Nat) (hd : Value) (sz : Nat) (bs : List Nat) : Env := { E with hdr := upd E.hdr k (some hd), sz := upd E.sz k sz, ob := upd E.ob k bs }
def Heap.addRow (H : Heap) (k : Nat) (r : Row) : Heap := { H with rows := upd H.rows k (some r), made := upd H.made k true }
theorem Heap.addRow_used {H : Heap} {k : Nat} {r : Row} (j : Nat) (hj : H.used j = true) : (H.addRow k r).used j = true := by
  by_cases e : j = k
  · subst e; simp [Heap.used, Heap.addRow, upd_same]
  · simp only [Heap.used, Heap.addRow, upd_other _ _ e]; exact hj
theorem Sub.newRow {H : Heap} {E : Env} {k : Nat} {hd : Value} {sz : Nat} {bs : List Nat} (hk : H.used k = false) : Sub E (E.rowAt k hd sz bs) (fun k => H.used k = true) := by
  have hne : ∀ j, H.used j = true → j ≠ k := fun j hj e => by subst e; simp [hk] at hj
  exact ⟨fun _ _ h => h, fun _ _ _ => rfl, fun j hj => upd_other _ _ (hne j hj), fun _ _ _ h => h, fun j hj v hv => upd_other _ _ (hne j hj)⟩
theorem Sub.oldRow {E : Env} {k : Nat} {hd : Value} {sz : Nat} {bs : List Nat} (h1 : E.hdr k = some hd) (h2 : E.sz k = sz) (N : Nat → Prop) : Sub E (E.rowAt k hd sz bs) N := by
  refine ⟨fun _ _ h => h, fun _ _ _ => rfl, fun j _ => ?_, fun _ _ _ h => h, fun j _ v hv => ?_⟩
  · by_cases e : j = k
    · subst e; simp [Env.rowAt, upd_same, h1]
    · exact upd_other _ _ e
  · by_cases e : j = k
    · subst e; simp [Env.rowAt, upd_same, h2]
    · exact upd_other _ _ e

theorem RelH.putRow {F : Fix} {H : Heap} {E : Env} (h : RelH F H E) {k : Nat} {r : Row} {hd : Value} {bs : List Nat} (hkr : H.rows k = none) (hkb : H.boxes k = none) (hl : ∀ e ∈ r.es, e.length = r.sz) (hf : Flat r.es)
    (hin : RowIn E hd r bs) (hnd : bs.Nodup) (hg : ∀ g ∈ bs, (∀ c, ¬ E.S c g) ∧ (∀ k, ¬ Own E k g) ∧ g < E.w.heap.size ∧ (F.w0.heap.size ≤ g ∨ F.T g))
    (s : Sub E (E.rowAt k hd r.sz bs) (fun k => H.used k = true)) (hrk : ∀ v, H.hv k = some v → hd = v) (hlk : ∀ n, H.lens k = some n → ∃ a cap, hd = .slice a n cap) : RelH F (H.addRow k r) (E.rowAt k hd r.sz bs) := by
  have hku := fun j hj => Heap.addRow_used (H := H) (k := k) (r := r) j hj
  have hown : ∀ j b, Own (E.rowAt k hd r.sz bs) j b → (j ≠ k ∧ Own E j b) ∨ (j = k ∧ b ∈ bs) := by
    intro j b hj
    by_cases e : j = k
    · subst e
      rcases hj with hj | hj
      · simp only [Env.rowAt, upd_same] at hj; exact .inr ⟨rfl, hj⟩
      · have := h.blk0 j hkb
        simp only [Env.rowAt] at hj
        rw [this] at hj; cases hj
    · refine .inl ⟨e, ?_⟩
      rcases hj with hj | hj
      · exact .inl (by simpa only [Env.rowAt, upd_other _ _ e] using hj)
      · exact .inr hj
  refine ⟨fun j q hq => ?_, fun j cs hc => ?_, fun j hj => ?_, h.blk0, fun j => ?_, fun j j' b hj hj' => ?_, fun j b hj => ?_, h.S, h.SS, h.Ssub, h.Ssup, h.pt, h.fr, fun j hj => ?_, fun j cs hc => ?_, fun j => ?_, fun j n hn => ?_, fun j v hv => ?_⟩
  · by_cases e : j = k
    · subst e
      simp only [Heap.addRow, upd_same] at hq; cases hq
      refine ⟨hl, hf, hd, by simp [Env.rowAt, upd_same], by simp [Env.rowAt, upd_same], ?_⟩
      simp only [Env.rowAt, upd_same]
      exact hin.chg s hf (fun _ _ => rfl)
    · simp only [Heap.addRow, upd_other _ _ e] at hq
      obtain ⟨h1, h2, hd', h3, h4, h5⟩ := h.rows j q hq
      exact ⟨h1, h2, hd', by simpa only [Env.rowAt, upd_other _ _ e] using h3, by simpa only [Env.rowAt, upd_other _ _ e] using h4, by simp only [Env.rowAt, upd_other _ _ e]; exact RowIn.chg s h2 (fun _ _ => rfl) h5⟩
  · obtain ⟨g, us, h1, h2, h3, h4⟩ := h.boxes j cs hc
    exact ⟨g, us, h1, h2.sub s ((h.usedB j cs hc).2), h3, h4⟩
  · by_cases e : j = k
    · subst e; simp [Heap.addRow, upd_same] at hj
    · simp only [Heap.addRow, Env.rowAt, upd_other _ _ e] at hj ⊢; exact h.hdr0 j hj
  · by_cases e : j = k
    · subst e; exact .inr (h.blk0 j hkb)
    · simp only [Heap.addRow, Env.rowAt, upd_other _ _ e]; exact h.both j
  · rcases hown j b hj with ⟨e, o⟩ | ⟨e, o⟩ <;> rcases hown j' b hj' with ⟨e', o'⟩ | ⟨e', o'⟩
    · exact h.uniq j j' b o o'
    · exact absurd o ((hg b o').2.1 j)
    · exact absurd o' ((hg b o).2.1 j')
    · rw [e, e']
  · rcases hown j b hj with ⟨e, o⟩ | ⟨e, o⟩
    · exact h.own j b o
    · exact ⟨(hg b o).1, (hg b o).2.2.1, (hg b o).2.2.2⟩
  · by_cases e : j = k
    · subst e; simp [Heap.used, Heap.addRow, upd_same]
    · simp only [Heap.addRow, upd_other _ _ e] at hj; exact hku j (h.usedR j hj)
  · exact ⟨hku j (h.usedB j cs hc).1, fun i hi => hku i ((h.usedB j cs hc).2 i hi)⟩
  · by_cases e : j = k
    · subst e; simpa [Env.rowAt, upd_same] using hnd
    · simp only [Env.rowAt, upd_other _ _ e]; exact h.nodup j
  · obtain ⟨h1, h2⟩ := h.lens j n hn
    refine ⟨hku j h1, ?_⟩
    by_cases e : j = k
    · subst e; simp only [Env.rowAt, upd_same, Option.some.injEq]; exact hlk n hn
    · simp only [Env.rowAt, upd_other _ _ e]; exact h2
  · obtain ⟨h1, h2⟩ := h.hv j v hv
    refine ⟨hku j h1, ?_⟩
    by_cases e : j = k
    · subst e; simp only [Env.rowAt, upd_same, Option.some.injEq]; exact hrk v hv
    · simp only [Env.rowAt, upd_other _ _ e]; exact h2

/-- A new row, over blocks that no one reads or owns. -/
theorem RelH.addRow {F : Fix} {H : Heap} {E : Env} (h : RelH F H E) {k : Nat} {r : Row} {hd : Value} {bs : List Nat} (hk : H.used k = false) (hl : ∀ e ∈ r.es, e.length = r.sz) (hf : Flat r.es)
    (hin : RowIn E hd r bs) (hnd : bs.Nodup) (hg : ∀ g ∈ bs, (∀ c, ¬ E.S c g) ∧ (∀ k, ¬ Own E k g) ∧ g < E.w.heap.size ∧ (F.w0.heap.size ≤ g ∨ F.T g)) :
    RelH F { H with rows := upd H.rows k (some r), made := upd H.made k true } (E.rowAt k hd r.sz bs) ∧ Sub E (E.rowAt k hd r.sz bs) (fun k => H.used k = true) := by
  have hkr : H.rows k = none := by
    refine Classical.byContradiction fun hne => ?_
    have := h.usedR k hne; simp [hk] at this
  have hkb : H.boxes k = none := by
    cases hb : H.boxes k with
    | none => rfl
    | some cs => have := (h.usedB k cs hb).1; simp [hk] at this
  exact ⟨h.putRow hkr hkb hl hf hin hnd hg (Sub.newRow hk) (fun v hv => by have := (h.hv k v hv).1; simp [hk] at this) (fun n hn => by have := (h.lens k n hn).1; simp [hk] at this), Sub.newRow hk⟩

/-- A new variable in memory, likewise. -/
theorem RelH.addBox {F : Fix} {H : Heap} {E : Env} (h : RelH F H E) {k : Nat} {cs : List Cell} {us : List Value} {g : Nat} (hk : H.used k = false) (hr : RCs E cs us) (hn : ∀ j ∈ cnames cs, H.used j = true)
    (hat : E.w.rangeAt g 0 us) (hth : E.w.there g 0 cs.length) (hg : (∀ c, ¬ E.S c g) ∧ (∀ k, ¬ Own E k g) ∧ g < E.w.heap.size ∧ (F.w0.heap.size ≤ g ∨ F.T g)) :
    RelH F { H with boxes := upd H.boxes k (some cs), made := upd H.made k true } { E with blk := upd E.blk k (some g), pt := upd E.pt k (some g) } ∧
    Sub E { E with blk := upd E.blk k (some g), pt := upd E.pt k (some g) } (fun k => H.used k = true) := by
  have s : Sub E { E with blk := upd E.blk k (some g), pt := upd E.pt k (some g) } (fun k => H.used k = true) := by
    refine ⟨fun _ _ h => h, fun _ _ _ => rfl, fun _ _ => rfl, fun j hj v hv => ?_, fun _ _ _ _ => rfl⟩
    have : j ≠ k := fun e => by subst e; simp [hk] at hj
    simpa only [upd_other _ _ this] using hv
  have hku : ∀ j, H.used j = true → Heap.used { H with boxes := upd H.boxes k (some cs), made := upd H.made k true } j = true := by
    intro j hj
    by_cases e : j = k
    · subst e; simp [Heap.used, upd_same]
    · simpa [Heap.used, upd_other _ _ e] using hj
  have hkr : H.rows k = none := by
    refine Classical.byContradiction fun hne => ?_
    have := h.usedR k hne; simp [hk] at this
  have hown : ∀ j b, Own { E with blk := upd E.blk k (some g), pt := upd E.pt k (some g) } j b → (j ≠ k ∧ Own E j b) ∨ (j = k ∧ b = g) := by
    intro j b hj
    by_cases e : j = k
    · subst e
      rcases hj with hj | hj
      · simp only at hj; rw [h.hdr0 j hkr] at hj; cases hj
      · simp only [upd_same] at hj; exact .inr ⟨rfl, by simpa using hj.symm⟩
    · refine .inl ⟨e, ?_⟩
      rcases hj with hj | hj
      · exact .inl hj
      · exact .inr (by simpa only [upd_other _ _ e] using hj)
  refine ⟨⟨fun j q hq => ?_, fun j ds hc => ?_, h.hdr0, fun j hj => ?_, fun j => ?_, fun j j' b hj hj' => ?_, fun j b hj => ?_, h.S, h.SS, h.Ssub, h.Ssup, fun j v hv => ?_, h.fr, fun j hj => ?_, fun j ds hc => ?_, h.nodup, fun j n hn => ⟨hku j (h.lens j n hn).1, (h.lens j n hn).2⟩, fun j n hn => ⟨hku j (h.hv j n hn).1, (h.hv j n hn).2⟩⟩, s⟩
  · obtain ⟨h1, h2, hd', h3, h4, h5⟩ := h.rows j q hq
    exact ⟨h1, h2, hd', h3, h4, RowIn.chg s h2 (fun _ _ => rfl) h5⟩
  · by_cases e : j = k
    · subst e
      simp only [upd_same] at hc; cases hc
      exact ⟨g, us, by simp [upd_same], hr.sub s hn, hat, hth⟩
    · simp only [upd_other _ _ e] at hc
      obtain ⟨g', us', h1, h2, h3, h4⟩ := h.boxes j ds hc
      exact ⟨g', us', by simpa only [upd_other _ _ e] using h1, h2.sub s ((h.usedB j ds hc).2), h3, h4⟩
  · by_cases e : j = k
    · subst e; simp [upd_same] at hj
    · simp only [upd_other _ _ e] at hj ⊢; exact h.blk0 j hj
  · by_cases e : j = k
    · subst e; exact .inl hkr
    · simp only [upd_other _ _ e]; exact h.both j
  · rcases hown j b hj with ⟨e, o⟩ | ⟨e, o⟩ <;> rcases hown j' b hj' with ⟨e', o'⟩ | ⟨e', o'⟩
    · exact h.uniq j j' b o o'
    · subst o'; exact absurd o (hg.2.1 j)
    · subst o; exact absurd o' (hg.2.1 j')
    · rw [e, e']
  · rcases hown j b hj with ⟨e, o⟩ | ⟨e, o⟩
    · exact h.own j b o
    · subst o; exact ⟨hg.1, hg.2.2.1, hg.2.2.2⟩
  · by_cases e : j = k
    · subst e; simp only [upd_same] at hv ⊢; exact hv
    · simp only [upd_other _ _ e] at hv ⊢; exact h.pt j v hv
  · exact hku j (h.usedR j hj)
  · by_cases e : j = k
    · subst e
      simp only [upd_same] at hc; cases hc
      exact ⟨by simp [Heap.used, upd_same], fun i hi => hku i (hn i hi)⟩
    · simp only [upd_other _ _ e] at hc
      exact ⟨hku j (h.usedB j ds hc).1, fun i hi => hku i ((h.usedB j ds hc).2 i hi)⟩
end Go.MG
