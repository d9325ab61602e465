/- Cells, values and the relation between abstract cells and the machine's values. -/
import Derived.Deep.MidRow
import Derived.Deep.AppendSrc
import Derived.Below
namespace Go.MG
set_option linter.unusedVariables false
set_option linter.unusedSimpArgs false
set_option linter.unnecessarySimpa false

/-- An abstract cell: what one cell of a slot, of a variable in memory or of a slice's element stands for. -/
inductive Cell where
  | imm (v : Value)
  | nil
  | sl (g : Bool) (es : List (List Cell))
  | own (k : Nat)
  | sub (k lo n : Nat)
  | ptr (k j : Nat)
  | ep (k i j : Nat)
  | pe (g : Bool) (e : List Cell) (j : Nat)
  | clo (f : FuncId) (caps : List Cell)
  | ow (sz : Nat) (es : List (List Cell))
  | bx (cells : List Cell)
  | raw (v : Value)
  | bad

structure Env where
  w : World
  S : Bool → Nat → Prop
  hdr : Nat → Option Value
  blk : Nat → Option Nat
  pt : Nat → Option Nat
  sz : Nat → Nat
  ob : Nat → List Nat
/-- Only what is shared in class g. -/
def Env.cap (E : Env) (g : Bool) : Env := { E with S := fun c b => E.S (c || g) b }

def isImm : Value → Bool
  | .int .. | .bool _ | .string _ | .nilFunc | .pointer none => true
  | _ => false

theorem isImm_one {v : Value} (h : isImm v = true) : v.oneCell' = true := by
  cases v <;> first | rfl | (simp [isImm] at h)

mutual
def Cell.names : Cell → List Nat
  | .own k | .sub k _ _ | .ptr k _ | .ep k _ _ => [k]
  | .clo _ caps => cnames caps
  | _ => []
def cnames : List Cell → List Nat
  | [] => []
  | c :: cs => c.names ++ cnames cs
end
def rnames : List (List Cell) → List Nat
  | [] => []
  | e :: es => cnames e ++ rnames es

def Cell.isOw : Cell → Bool
  | .ow .. | .bx .. => true
  | _ => false
/-- Cells that own nothing. -/
def noOw : List Cell → Bool
  | [] => true
  | c :: cs => !c.isOw && noOw cs
/-! ### cells that lead to lent memory nowhere -/
mutual
def Cell.clean : Cell → Bool
  | .sl g _ => g
  | .pe g _ _ => g
  | .clo _ caps => cclean caps && noOw caps
  | .bx cs => cclean cs && noOw cs
  | _ => true
def cclean : List Cell → Bool
  | [] => true
  | c :: cs => c.clean && cclean cs
end
def rclean : List (List Cell) → Bool
  | [] => true
  | e :: es => cclean e && rclean es
/-- What the elements of a slice are: without names, and clean. -/
def Flat (es : List (List Cell)) : Prop := rclean es = true ∧ rnames es = []

mutual
def RC : Env → Cell → Value → Prop
  | _, .imm v, u => u = v ∧ isImm v = true
  | _, .nil, u => u = .slice none 0 0
  | E, .sl g es, u => Flat es ∧ ∃ a cap, u = .slice a es.length cap ∧ es.length ≤ cap ∧ (es = [] ∨ ∃ b o sz, a = some ⟨b, o, none⟩ ∧ E.S g b ∧ RRow (E.cap g) b o sz es)
  | E, .own k, u => u.oneCell' = true ∧ ∀ h, E.hdr k = some h → u = h
  | E, .sub k lo n, u => u.oneCell' = true ∧ ∀ h, E.hdr k = some h → (h = .slice none 0 0 ∧ lo = 0 ∧ n = 0 ∧ u = h) ∨
      ∃ g len cap a, h = .slice (some ⟨g, 0, none⟩) len cap ∧ lo + n ≤ len ∧ u = .slice (some a) n (cap - lo) ∧ (n = 0 ∨ a = ⟨g, lo * E.sz k, none⟩) ∧ (lo = 0 → a = ⟨g, 0, none⟩)
  | E, .ptr k j, u => u.oneCell' = true ∧ ∀ b, E.pt k = some b → u = .pointer (some ⟨b, j, none⟩)
  | E, .ep k i j, u => u.oneCell' = true ∧ ∀ h, E.hdr k = some h → ∃ g len cap, h = .slice (some ⟨g, 0, none⟩) len cap ∧ i < len ∧ u = .pointer (some ⟨g, i * E.sz k + j, none⟩)
  | E, .pe g e j, u => Flat [e] ∧ ∃ b o us, u = .pointer (some ⟨b, o + j, none⟩) ∧ E.S g b ∧ RCs (E.cap g) e us ∧ E.w.rangeAt b o us
  | E, .clo f caps, u => ∃ us, u = .func (.func f) #[] us.toArray ∧ RCs E caps us
  | E, .ow sz es, u => Flat es ∧ ∃ a cap, u = .slice a es.length cap ∧ es.length ≤ cap ∧ (es = [] ∨ ∃ b o, a = some ⟨b, o, none⟩ ∧ E.S false b ∧ RRow E b o sz es)
  | E, .bx cs, u => cnames cs = [] ∧ ∃ g us, u = .pointer (some ⟨g, 0, none⟩) ∧ E.S false g ∧ RCs E cs us ∧ E.w.rangeAt g 0 us
  | _, .raw v, u => u = v ∧ v.oneCell' = true
  | _, .bad, u => u.oneCell' = true
def RCs : Env → List Cell → List Value → Prop
  | _, [], us => us = []
  | E, c :: cs, us => ∃ u us', us = u :: us' ∧ RC E c u ∧ RCs E cs us'
def RRow : Env → Nat → Nat → Nat → List (List Cell) → Prop
  | _, _, _, _, [] => True
  | E, b, o, sz, e :: es => e.length = sz ∧ (∃ us, RCs E e us ∧ E.w.rangeAt b o us) ∧ RRow E b (o + sz) sz es
end

/-- What cells whose names are in N stood for in E they stand for in E'. -/
structure Sub (E E' : Env) (N : Nat → Prop) : Prop where
  S : ∀ g b, E.S g b → E'.S g b
  mem : ∀ g b, E.S g b → E'.w.heap[b]? = E.w.heap[b]?
  hdrE : ∀ k, N k → E'.hdr k = E.hdr k
  pt : ∀ k, N k → ∀ b, E'.pt k = some b → E.pt k = some b
  sz : ∀ k, N k → ∀ h, E'.hdr k = some h → E'.sz k = E.sz k
theorem Sub.hdr {E E' : Env} {N : Nat → Prop} (s : Sub E E' N) (k : Nat) (hk : N k) (h : Value) (hh : E'.hdr k = some h) : E.hdr k = some h := by rw [← s.hdrE k hk]; exact hh

theorem Sub.capS {E E' : Env} {N : Nat → Prop} (s : Sub E E' N) (g : Bool) : Sub (E.cap g) (E'.cap g) N :=
  ⟨fun c b h => s.S (c || g) b h, fun c b h => s.mem (c || g) b h, s.hdrE, s.pt, s.sz⟩
theorem Sub.uncap {E : Env} (h : ∀ b, E.S true b → E.S false b) (g : Bool) (N : Nat → Prop) : Sub (E.cap g) E N :=
  ⟨fun c b hc => by cases c <;> cases g <;> first | exact hc | exact h b hc, fun _ _ _ => rfl, fun _ _ => rfl, fun _ _ _ h => h, fun _ _ _ _ => rfl⟩

theorem rangeAt_of_block {w w' : World} {b o : Nat} {us : List Value} (h : w'.heap[b]? = w.heap[b]?) (hr : w.rangeAt b o us) : w'.rangeAt b o us := by
  intro j v hv
  rw [World.cell?_of_block (w := w) (w' := w') (a := ⟨b, o + j, none⟩) h]
  exact hr j v hv

theorem there_of_block {w w' : World} {b o n : Nat} (h : w'.heap[b]? = w.heap[b]?) (hr : w.there b o n) : w'.there b o n := by
  intro j hj
  rw [World.cell?_of_block (w := w) (w' := w') (a := ⟨b, o + j, none⟩) h, World.frozen?_of_block (w := w) (w' := w') (a := ⟨b, o + j, none⟩) h]
  exact hr j hj

theorem Flat.one {e : List Cell} (h : Flat [e]) : cnames e = [] := by have := h.2; simpa [rnames] using this
theorem Flat.cl {e : List Cell} (h : Flat [e]) : cclean e = true := by have := h.1; simpa [rclean] using this

mutual
theorem RC.sub : ∀ {E E' : Env} {N : Nat → Prop} (s : Sub E E' N) {c : Cell} {u : Value}, (∀ k ∈ c.names, N k) → RC E c u → RC E' c u
  | E, E', N, s, .imm _, _, _, h => by simpa only [RC] using h
  | E, E', N, s, .nil, _, _, h => by simpa only [RC] using h
  | E, E', N, s, .sl g es, u, hn, h => by
    simp only [RC] at h ⊢
    obtain ⟨hf, a, cap, rfl, hc, h⟩ := h
    refine ⟨hf, a, cap, rfl, hc, ?_⟩
    rcases h with h | ⟨b, o, sz, ha, hS, hr⟩
    · exact .inl h
    · exact .inr ⟨b, o, sz, ha, s.S g b hS, RRow.sub (s.capS g) (s.mem g b hS) (fun k hk => by rw [hf.2] at hk; cases hk) hr⟩
  | E, E', N, s, .own k, u, hn, h => by
    simp only [RC] at h ⊢
    exact ⟨h.1, fun h' hh => h.2 h' (s.hdr k (hn k (by simp [Cell.names])) h' hh)⟩
  | E, E', N, s, .sub k lo n, u, hn, h => by
    simp only [RC] at h ⊢
    have hk := hn k (by simp [Cell.names])
    refine ⟨h.1, fun h' hh => ?_⟩
    rcases h.2 h' (s.hdr k hk h' hh) with h1 | ⟨g, len, cap, a, h1, h2, h3, h4⟩
    · exact .inl h1
    · exact .inr ⟨g, len, cap, a, h1, h2, h3, by rw [s.sz k hk h' hh]; exact h4⟩
  | E, E', N, s, .ptr k j, u, hn, h => by
    simp only [RC] at h ⊢
    exact ⟨h.1, fun b hb => h.2 b (s.pt k (hn k (by simp [Cell.names])) b hb)⟩
  | E, E', N, s, .ep k i j, u, hn, h => by
    simp only [RC] at h ⊢
    have hk := hn k (by simp [Cell.names])
    refine ⟨h.1, fun h' hh => ?_⟩
    rw [s.sz k hk h' hh]
    exact h.2 h' (s.hdr k hk h' hh)
  | E, E', N, s, .pe g e j, u, hn, h => by
    simp only [RC] at h ⊢
    obtain ⟨hf, b, o, us, hu, hS, hr, ha⟩ := h
    exact ⟨hf, b, o, us, hu, s.S g b hS, RCs.sub (s.capS g) (fun k hk => by rw [Flat.one hf] at hk; cases hk) hr, rangeAt_of_block (s.mem g b hS) ha⟩
  | E, E', N, s, .clo f caps, u, hn, h => by
    simp only [RC] at h ⊢
    obtain ⟨us, hu, hr⟩ := h
    exact ⟨us, hu, RCs.sub s (by simpa only [Cell.names] using hn) hr⟩
  | E, E', N, s, .ow sz es, u, hn, h => by
    simp only [RC] at h ⊢
    obtain ⟨hf, a, cap, rfl, hc, h⟩ := h
    refine ⟨hf, a, cap, rfl, hc, ?_⟩
    rcases h with h | ⟨b, o, ha, hS, hr⟩
    · exact .inl h
    · exact .inr ⟨b, o, ha, s.S false b hS, RRow.sub s (s.mem false b hS) (fun k hk => by rw [hf.2] at hk; cases hk) hr⟩
  | E, E', N, s, .bx cs, _, _, h => by
    simp only [RC] at h ⊢
    obtain ⟨hn, g, us, hu, hS, hr, ha⟩ := h
    exact ⟨hn, g, us, hu, s.S false g hS, RCs.sub s (fun k hk => by rw [hn] at hk; cases hk) hr, rangeAt_of_block (s.mem false g hS) ha⟩
  | E, E', N, s, .raw _, _, _, h => by simpa only [RC] using h
  | E, E', N, s, .bad, _, _, h => by simpa only [RC] using h
theorem RCs.sub : ∀ {E E' : Env} {N : Nat → Prop} (s : Sub E E' N) {cs : List Cell} {us : List Value}, (∀ k ∈ cnames cs, N k) → RCs E cs us → RCs E' cs us
  | E, E', N, s, [], _, _, h => by simpa only [RCs] using h
  | E, E', N, s, c :: cs, us, hn, h => by
    simp only [RCs] at h ⊢
    obtain ⟨u, us', rfl, h1, h2⟩ := h
    simp only [cnames, List.mem_append] at hn
    exact ⟨u, us', rfl, RC.sub s (fun k hk => hn k (.inl hk)) h1, RCs.sub s (fun k hk => hn k (.inr hk)) h2⟩
theorem RRow.sub : ∀ {E E' : Env} {N : Nat → Prop} (s : Sub E E' N) {b sz : Nat} (hb : E'.w.heap[b]? = E.w.heap[b]?) {es : List (List Cell)} {o : Nat}, (∀ k ∈ rnames es, N k) → RRow E b o sz es → RRow E' b o sz es
  | E, E', N, s, b, sz, hb, [], _, _, _ => by simp only [RRow]
  | E, E', N, s, b, sz, hb, e :: es, o, hn, h => by
    simp only [RRow] at h ⊢
    simp only [rnames, List.mem_append] at hn
    obtain ⟨h1, ⟨us, h2, h3⟩, h4⟩ := h
    exact ⟨h1, ⟨us, RCs.sub s (fun k hk => hn k (.inl hk)) h2, rangeAt_of_block hb h3⟩, RRow.sub s hb (fun k hk => hn k (.inr hk)) h4⟩
end

theorem RC.one {E : Env} : ∀ {c : Cell} {u : Value}, RC E c u → u.oneCell' = true
  | .imm v, u, h => by simp only [RC] at h; rw [h.1]; exact isImm_one h.2
  | .nil, u, h => by simp only [RC] at h; rw [h]; rfl
  | .sl g es, u, h => by simp only [RC] at h; obtain ⟨_, a, cap, rfl, _⟩ := h; rfl
  | .own k, u, h => by simp only [RC] at h; exact h.1
  | .sub k lo n, u, h => by simp only [RC] at h; exact h.1
  | .ptr k j, u, h => by simp only [RC] at h; exact h.1
  | .ep k i j, u, h => by simp only [RC] at h; exact h.1
  | .pe g e j, u, h => by simp only [RC] at h; obtain ⟨_, b, o, us, rfl, _⟩ := h; rfl
  | .clo f caps, u, h => by simp only [RC] at h; obtain ⟨us, rfl, _⟩ := h; rfl
  | .ow sz es, u, h => by simp only [RC] at h; obtain ⟨_, a, cap, rfl, _⟩ := h; rfl
  | .bx cs, _, h => by simp only [RC] at h; obtain ⟨_, g, us, rfl, _⟩ := h; rfl
  | .raw _, _, h => by simp only [RC] at h; rw [h.1]; exact h.2
  | .bad, _, h => by simpa only [RC] using h

theorem RCs.length {E : Env} : ∀ {cs : List Cell} {us : List Value}, RCs E cs us → us.length = cs.length
  | [], _, h => by simp only [RCs] at h; simp [h]
  | _ :: cs, _, h => by
    simp only [RCs] at h
    obtain ⟨u, us', rfl, _, h2⟩ := h
    simp [RCs.length h2]

theorem RCs.one {E : Env} : ∀ {cs : List Cell} {us : List Value}, RCs E cs us → ∀ u ∈ us, u.oneCell' = true
  | [], _, h => by simp only [RCs] at h; simp [h]
  | _ :: cs, _, h => by
    simp only [RCs] at h
    obtain ⟨u, us', rfl, h1, h2⟩ := h
    intro x hx
    rcases List.mem_cons.1 hx with rfl | hx
    · exact h1.one
    · exact RCs.one h2 x hx

theorem RCs.get {E : Env} : ∀ {cs : List Cell} {us : List Value}, RCs E cs us → ∀ (j : Nat) (c : Cell), cs[j]? = some c → ∃ u, us[j]? = some u ∧ RC E c u
  | [], _, _, j, c, hc => by simp at hc
  | c' :: cs, _, h, j, c, hc => by
    simp only [RCs] at h
    obtain ⟨u, us', rfl, h1, h2⟩ := h
    cases j with
    | zero => simp at hc; subst hc; exact ⟨u, by simp, h1⟩
    | succ j => simp at hc; obtain ⟨u', hu', hr⟩ := RCs.get h2 j c hc; exact ⟨u', by simpa using hu', hr⟩

theorem RCs.append {E : Env} : ∀ {cs : List Cell} {us : List Value} {cs' us'}, RCs E cs us → RCs E cs' us' → RCs E (cs ++ cs') (us ++ us')
  | [], _, _, _, h, h' => by simp only [RCs] at h; simpa [h] using h'
  | c :: cs, _, _, _, h, h' => by
    simp only [RCs, List.cons_append] at h ⊢
    obtain ⟨u, us', rfl, h1, h2⟩ := h
    exact ⟨u, _, rfl, h1, RCs.append h2 h'⟩

theorem RCs.drop {E : Env} : ∀ (n : Nat) {cs : List Cell} {us : List Value}, RCs E cs us → RCs E (cs.drop n) (us.drop n)
  | 0, _, _, h => by simpa using h
  | n + 1, [], _, h => by simp only [RCs] at h; subst h; simp [RCs]
  | n + 1, _ :: cs, _, h => by
    simp only [RCs] at h
    obtain ⟨u, us', rfl, _, h2⟩ := h
    simpa using RCs.drop n h2

theorem RCs.take {E : Env} : ∀ (n : Nat) {cs : List Cell} {us : List Value}, RCs E cs us → RCs E (cs.take n) (us.take n)
  | 0, _, _, _ => by simp [RCs]
  | n + 1, [], _, h => by simp only [RCs] at h; subst h; simp [RCs]
  | n + 1, _ :: cs, _, h => by
    simp only [RCs] at h
    obtain ⟨u, us', rfl, h1, h2⟩ := h
    simp only [List.take_succ_cons, RCs]
    exact ⟨u, _, rfl, h1, RCs.take n h2⟩

theorem RCs.set {E : Env} : ∀ (j : Nat) {cs : List Cell} {us : List Value} {c : Cell} {u : Value}, RCs E cs us → RC E c u → RCs E (cs.set j c) (us.set j u)
  | _, [], _, _, _, h, _ => by simp only [RCs] at h; subst h; simp [RCs]
  | 0, _ :: cs, _, _, _, h, h' => by
    simp only [RCs] at h
    obtain ⟨u, us', rfl, _, h2⟩ := h
    simp only [List.set_cons_zero, RCs]
    exact ⟨_, _, rfl, h', h2⟩
  | j + 1, _ :: cs, _, _, _, h, h' => by
    simp only [RCs] at h
    obtain ⟨u, us', rfl, h1, h2⟩ := h
    simp only [List.set_cons_succ, RCs]
    exact ⟨_, _, rfl, h1, RCs.set j h2 h'⟩

theorem cnames_append (a b : List Cell) : cnames (a ++ b) = cnames a ++ cnames b := by
  induction a with
  | nil => rfl
  | cons c cs ih => simp [cnames, ih]

theorem mem_cnames {k : Nat} {cs : List Cell} : k ∈ cnames cs ↔ ∃ c ∈ cs, k ∈ c.names := by
  induction cs with
  | nil => simp [cnames]
  | cons c cs ih => simp [cnames, ih]

theorem mem_rnames {k : Nat} {es : List (List Cell)} : k ∈ rnames es ↔ ∃ e ∈ es, k ∈ cnames e := by
  induction es with
  | nil => simp [rnames]
  | cons c cs ih => simp [rnames, ih]

/-! ### rows -/
theorem RRow.get {E : Env} {b sz : Nat} : ∀ {es : List (List Cell)} {o : Nat}, RRow E b o sz es → ∀ (i : Nat) (e : List Cell), es[i]? = some e → e.length = sz ∧ ∃ us, RCs E e us ∧ E.w.rangeAt b (o + i * sz) us
  | [], _, _, _, _, he => by simp at he
  | e' :: es, o, h, i, e, he => by
    simp only [RRow] at h
    cases i with
    | zero => simp at he; subst he; simpa using ⟨h.1, h.2.1⟩
    | succ i =>
      simp at he
      obtain ⟨h1, us, h2, h3⟩ := RRow.get h.2.2 i e he
      exact ⟨h1, us, h2, by rw [show o + (i + 1) * sz = o + sz + i * sz by rw [Nat.add_mul]; omega]; exact h3⟩

theorem RRow.of_get {E : Env} {b sz : Nat} : ∀ {es : List (List Cell)} {o : Nat}, (∀ (i : Nat) (e : List Cell), es[i]? = some e → e.length = sz ∧ ∃ us, RCs E e us ∧ E.w.rangeAt b (o + i * sz) us) → RRow E b o sz es
  | [], _, _ => by simp only [RRow]
  | e :: es, o, h => by
    simp only [RRow]
    have h0 := h 0 e (by simp)
    refine ⟨h0.1, by simpa using h0.2, RRow.of_get fun i e' he => ?_⟩
    have := h (i + 1) e' (by simpa using he)
    rw [show o + (i + 1) * sz = o + sz + i * sz by rw [Nat.add_mul]; omega] at this
    exact this

theorem RRow.drop {E : Env} {b sz o : Nat} (lo : Nat) {es : List (List Cell)} (h : RRow E b o sz es) : RRow E b (o + lo * sz) sz (es.drop lo) := by
  refine RRow.of_get fun i e he => ?_
  rw [List.getElem?_drop] at he
  obtain ⟨h1, h2⟩ := h.get (lo + i) e he
  exact ⟨h1, by rw [show o + lo * sz + i * sz = o + (lo + i) * sz by rw [Nat.add_mul]; omega]; exact h2⟩

theorem RRow.take {E : Env} {b sz o : Nat} (n : Nat) {es : List (List Cell)} (h : RRow E b o sz es) : RRow E b o sz (es.take n) := by
  refine RRow.of_get fun i e he => h.get i e ?_
  rw [List.getElem?_take] at he
  split at he
  · exact he
  · simp at he

/-- A row's cells, all of them, as one list of values. -/
theorem RRow.flat {E : Env} {b sz : Nat} : ∀ {es : List (List Cell)} {o : Nat}, RRow E b o sz es → ∃ us, RCs E es.flatten us ∧ us.length = es.length * sz ∧ E.w.rangeAt b o us
  | [], o, _ => ⟨[], by simp [RCs], by simp, fun j v hv => by simp at hv⟩
  | e :: es, o, h => by
    simp only [RRow] at h
    obtain ⟨h1, ⟨us, h2, h3⟩, h4⟩ := h
    obtain ⟨us', g1, g2, g3⟩ := RRow.flat h4
    have hl := h2.length
    refine ⟨us ++ us', by simpa using h2.append g1, by simp [hl, h1, g2, Nat.add_mul, Nat.add_comm], fun j v hv => ?_⟩
    rw [List.getElem?_append] at hv
    split at hv
    · exact h3 j v hv
    · have := g3 _ v hv
      rw [show o + j = o + sz + (j - us.length) by omega]
      exact this

theorem RRow.of_flat {E : Env} {b sz : Nat} : ∀ {es : List (List Cell)} {o : Nat} {us : List Value}, (∀ e ∈ es, e.length = sz) → RCs E es.flatten us → E.w.rangeAt b o us → RRow E b o sz es
  | [], _, _, _, _, _ => by simp only [RRow]
  | e :: es, o, us, hs, h, hr => by
    simp only [RRow]
    have he : e.length = sz := hs e (by simp)
    have h1 : RCs E e (us.take sz) := by
      have := h.take sz
      rwa [List.flatten_cons, List.take_append_of_le_length (by omega), List.take_of_length_le (by omega)] at this
    have h2 : RCs E es.flatten (us.drop sz) := by
      have := h.drop sz
      rwa [List.flatten_cons, List.drop_append_of_le_length (by omega), List.drop_of_length_le (by omega), List.nil_append] at this
    refine ⟨he, ⟨_, h1, fun j v hv => hr j v ?_⟩, RRow.of_flat (fun e' h' => hs e' (by simp [h'])) h2 (fun j v hv => ?_)⟩
    · rw [List.getElem?_take] at hv; split at hv
      · exact hv
      · simp at hv
    · rw [List.getElem?_drop] at hv
      have := hr _ v hv
      rw [show o + sz + j = o + (sz + j) by omega]; exact this

theorem rclean_iff {es : List (List Cell)} : rclean es = true ↔ ∀ e ∈ es, cclean e = true := by
  induction es with
  | nil => simp [rclean]
  | cons e es ih => simp [rclean, ih]
theorem cclean_iff {cs : List Cell} : cclean cs = true ↔ ∀ c ∈ cs, c.clean = true := by
  induction cs with
  | nil => simp [cclean]
  | cons e es ih => simp [cclean, ih]
theorem rnames_iff {es : List (List Cell)} : rnames es = [] ↔ ∀ e ∈ es, cnames e = [] := by
  induction es with
  | nil => simp [rnames]
  | cons e es ih => simp [rnames, ih]
theorem cnames_iff {cs : List Cell} : cnames cs = [] ↔ ∀ c ∈ cs, c.names = [] := by
  induction cs with
  | nil => simp [cnames]
  | cons e es ih => simp [cnames, ih]
theorem Flat.iff {es : List (List Cell)} : Flat es ↔ ∀ e ∈ es, cclean e = true ∧ cnames e = [] := by
  unfold Flat
  rw [rclean_iff, rnames_iff]
  exact ⟨fun h e he => ⟨h.1 e he, h.2 e he⟩, fun h => ⟨fun e he => (h e he).1, fun e he => (h e he).2⟩⟩
theorem Flat.nil : Flat [] := ⟨rfl, rfl⟩
theorem Flat.sub {es es' : List (List Cell)} (h : Flat es) (hs : ∀ e ∈ es', e ∈ es) : Flat es' := Flat.iff.2 fun e he => Flat.iff.1 h e (hs e he)
theorem Flat.part {es : List (List Cell)} (h : Flat es) (lo n : Nat) : Flat ((es.drop lo).take n) := h.sub fun _ he => List.mem_of_mem_drop (List.mem_of_mem_take he)
theorem Flat.append {es es' : List (List Cell)} (h : Flat es) (h' : Flat es') : Flat (es ++ es') := Flat.iff.2 fun e he => (List.mem_append.1 he).elim (Flat.iff.1 h e) (Flat.iff.1 h' e)
theorem Flat.get {es : List (List Cell)} (h : Flat es) {i : Nat} {e : List Cell} (he : es[i]? = some e) : Flat [e] := h.sub fun x hx => by rw [List.mem_singleton.1 hx]; exact List.mem_of_getElem? he
end Go.MG
