import Derived.Deep.MidRow
import Derived.Deep.AppendSrc
import Derived.Below
import Derived.Great.BuildSlice
import Derived.Deep.Upon
import Derived.Laws.MakeOwn
import Derived.Laws.BytesString
import Derived.Laws.Sem
import Derived.Tactics
import Derived.Laws.Rows
import Derived.Laws.BitsLemmas
import Derived.Lib.ConvBytes
import Derived.Laws.Strings
import Derived.Laws.StructEq
import Derived.ChangeArms
import Derived.ChangeShapes
import Derived.WideShapes
import Derived.Carry
import Derived.SizedLaws
import Derived.ShutString
import Derived.ChangeOld
import Derived.Orders
import Derived.Still
import Derived.MapKept
import Derived.Laws.IdiomRangeMap
import Derived.Shelf.Sort.Plain
import Derived.Shelf.Slices.CompactI
import Derived.Shelf.SlicesE.DeleteFunc
namespace Go.MG
set_option linter.unusedVariables false
set_option linter.unusedSimpArgs false
set_option linter.unnecessarySimpa false
inductive Cell where
 | imm (v : Value)
 | nil
 | sl (g : Bool) (es : List (List Cell))
 | own (k : Nat)
 | sub (k lo n : Nat)
 | ptr (k j : Nat)
 | ep (k i j : Nat)
 | pe (g : Bool) (e : List Cell) (j : Nat)
 | clo (f : FuncId) (caps : List Cell)
 | ow (sz : Nat) (es : List (List Cell))
 | bx (cells : List Cell)
 | raw (v : Value)
 | bad
structure Env where
 w : World
 S : Bool → Nat → Prop
 hdr : Nat → Option Value
 blk : Nat → Option Nat
 pt : Nat → Option Nat
 sz : Nat → Nat
 ob : Nat → List Nat
def Env.cap (E : Env) (g : Bool) : Env := { E with S := fun c b => E.S (c || g) b }
def isImm : Value → Bool
 | .int .. | .bool _ | .string _ | .nilFunc | .pointer none => true
 | _ => false
theorem isImm_one {v : Value} (h : isImm v = true) : v.oneCell' = true := by
 cases v <;> first | rfl | (simp [isImm] at h)
mutual
def Cell.names : Cell → List Nat
 | .own k | .sub k _ _ | .ptr k _ | .ep k _ _ => [k]
 | .clo _ caps => cnames caps
 | _ => []
def cnames : List Cell → List Nat
 | [] => []
 | c :: cs => c.names ++ cnames cs
end
def rnames : List (List Cell) → List Nat
 | [] => []
 | e :: es => cnames e ++ rnames es
def Cell.isOw : Cell → Bool
 | .ow .. | .bx .. => true
 | _ => false
def noOw : List Cell → Bool
 | [] => true
 | c :: cs => !c.isOw && noOw cs
mutual
def Cell.clean : Cell → Bool
 | .sl g _ => g
 | .pe g _ _ => g
 | .clo _ caps => cclean caps && noOw caps
 | .bx cs => cclean cs && noOw cs
 | _ => true
def cclean : List Cell → Bool
 | [] => true
 | c :: cs => c.clean && cclean cs
end
def rclean : List (List Cell) → Bool
 | [] => true
 | e :: es => cclean e && rclean es
def Flat (es : List (List Cell)) : Prop := rclean es = true ∧ rnames es = []
mutual
def RC : Env → Cell → Value → Prop
 | _, .imm v, u => u = v ∧ isImm v = true
 | _, .nil, u => u = .slice none 0 0
 | E, .sl g es, u => Flat es ∧ ∃ a cap, u = .slice a es.length cap ∧ es.length ≤ cap ∧ (es = [] ∨ ∃ b o sz, a = some ⟨b, o, none⟩ ∧ E.S g b ∧ RRow (E.cap g) b o sz es)
 | E, .own k, u => u.oneCell' = true ∧ ∀ h, E.hdr k = some h → u = h
 | E, .sub k lo n, u => u.oneCell' = true ∧ ∀ h, E.hdr k = some h → (h = .slice none 0 0 ∧ lo = 0 ∧ n = 0 ∧ u = h) ∨
   ∃ g len cap a, h = .slice (some ⟨g, 0, none⟩) len cap ∧ lo + n ≤ len ∧ u = .slice (some a) n (cap - lo) ∧ (n = 0 ∨ a = ⟨g, lo * E.sz k, none⟩) ∧ (lo = 0 → a = ⟨g, 0, none⟩)
 | E, .ptr k j, u => u.oneCell' = true ∧ ∀ b, E.pt k = some b → u = .pointer (some ⟨b, j, none⟩)
 | E, .ep k i j, u => u.oneCell' = true ∧ ∀ h, E.hdr k = some h → ∃ g len cap, h = .slice (some ⟨g, 0, none⟩) len cap ∧ i < len ∧ u = .pointer (some ⟨g, i * E.sz k + j, none⟩)
 | E, .pe g e j, u => Flat [e] ∧ ∃ b o us, u = .pointer (some ⟨b, o + j, none⟩) ∧ E.S g b ∧ RCs (E.cap g) e us ∧ E.w.rangeAt b o us
 | E, .clo f caps, u => ∃ us, u = .func (.func f) #[] us.toArray ∧ RCs E caps us
 | E, .ow sz es, u => Flat es ∧ ∃ a cap, u = .slice a es.length cap ∧ es.length ≤ cap ∧ (es = [] ∨ ∃ b o, a = some ⟨b, o, none⟩ ∧ E.S false b ∧ RRow E b o sz es)
 | E, .bx cs, u => cnames cs = [] ∧ ∃ g us, u = .pointer (some ⟨g, 0, none⟩) ∧ E.S false g ∧ RCs E cs us ∧ E.w.rangeAt g 0 us
 | _, .raw v, u => u = v ∧ v.oneCell' = true
 | _, .bad, u => u.oneCell' = true
def RCs : Env → List Cell → List Value → Prop
 | _, [], us => us = []
 | E, c :: cs, us => ∃ u us', us = u :: us' ∧ RC E c u ∧ RCs E cs us'
def RRow : Env → Nat → Nat → Nat → List (List Cell) → Prop
 | _, _, _, _, [] => True
 | E, b, o, sz, e :: es => e.length = sz ∧ (∃ us, RCs E e us ∧ E.w.rangeAt b o us) ∧ RRow E b (o + sz) sz es
end
structure Sub (E E' : Env) (N : Nat → Prop) : Prop where
 S : ∀ g b, E.S g b → E'.S g b
 mem : ∀ g b, E.S g b → E'.w.heap[b]? = E.w.heap[b]?
 hdrE : ∀ k, N k → E'.hdr k = E.hdr k
 pt : ∀ k, N k → ∀ b, E'.pt k = some b → E.pt k = some b
 sz : ∀ k, N k → ∀ h, E'.hdr k = some h → E'.sz k = E.sz k
variable {E E' : Env}
theorem Sub.hdr {N : Nat → Prop} (s : Sub E E' N) (k : Nat) (hk : N k) (h : Value) (hh : E'.hdr k = some h) : E.hdr k = some h := by rw [← s.hdrE k hk]; exact hh
theorem Sub.capS {N : Nat → Prop} (s : Sub E E' N) (g : Bool) : Sub (E.cap g) (E'.cap g) N :=
 ⟨fun c b h => s.S (c || g) b h, fun c b h => s.mem (c || g) b h, s.hdrE, s.pt, s.sz⟩
theorem Sub.uncap (h : ∀ b, E.S true b → E.S false b) (g : Bool) (N : Nat → Prop) : Sub (E.cap g) E N :=
 ⟨fun c b hc => by cases c <;> cases g <;> first | exact hc | exact h b hc, fun _ _ _ => rfl, fun _ _ => rfl, fun _ _ _ h => h, fun _ _ _ _ => rfl⟩
variable {us : List Value} {w w' : World}
theorem rangeAt_of_block {b o : Nat} (h : w'.heap[b]? = w.heap[b]?) (hr : w.rangeAt b o us) : w'.rangeAt b o us := by
 intro j v hv
 rw [World.cell?_of_block (w := w) (w' := w') (a := ⟨b, o + j, none⟩) h]
 exact hr j v hv
variable {n : Nat}
theorem there_of_block {b o : Nat} (h : w'.heap[b]? = w.heap[b]?) (hr : w.there b o n) : w'.there b o n := by
 intro j hj
 rw [World.cell?_of_block (w := w) (w' := w') (a := ⟨b, o + j, none⟩) h, World.frozen?_of_block (w := w) (w' := w') (a := ⟨b, o + j, none⟩) h]
 exact hr j hj
theorem Flat.one {e : List Cell} (h : Flat [e]) : cnames e = [] := by have := h.2; simpa [rnames] using this
mutual
theorem RC.sub : ∀ {E E' : Env} {N : Nat → Prop} (s : Sub E E' N) {c : Cell} {u : Value}, (∀ k ∈ c.names, N k) → RC E c u → RC E' c u
 | E, E', N, s, .imm _, _, _, h => by simpa only [RC] using h
 | E, E', N, s, .nil, _, _, h => by simpa only [RC] using h
 | E, E', N, s, .sl g es, u, hn, h => by
  simp only [RC] at h ⊢
  obtain ⟨hf, a, cap, rfl, hc, h⟩ := h
  refine ⟨hf, a, cap, rfl, hc, ?_⟩
  rcases h with h | ⟨b, o, sz, ha, hS, hr⟩
  ·exact .inl h
  ·exact .inr ⟨b, o, sz, ha, s.S g b hS, RRow.sub (s.capS g) (s.mem g b hS) (fun k hk => by rw [hf.2] at hk; cases hk) hr⟩
 | E, E', N, s, .own k, u, hn, h => by
  simp only [RC] at h ⊢
  exact ⟨h.1, fun h' hh => h.2 h' (s.hdr k (hn k (by simp [Cell.names])) h' hh)⟩
 | E, E', N, s, .sub k lo n, u, hn, h => by
  simp only [RC] at h ⊢
  have hk := hn k (by simp [Cell.names])
  refine ⟨h.1, fun h' hh => ?_⟩
  rcases h.2 h' (s.hdr k hk h' hh) with h1 | ⟨g, len, cap, a, h1, h2, h3, h4⟩
  ·exact .inl h1
  ·exact .inr ⟨g, len, cap, a, h1, h2, h3, by rw [s.sz k hk h' hh]; exact h4⟩
 | E, E', N, s, .ptr k j, u, hn, h => by
  simp only [RC] at h ⊢
  exact ⟨h.1, fun b hb => h.2 b (s.pt k (hn k (by simp [Cell.names])) b hb)⟩
 | E, E', N, s, .ep k i j, u, hn, h => by
  simp only [RC] at h ⊢
  have hk := hn k (by simp [Cell.names])
  refine ⟨h.1, fun h' hh => ?_⟩
  rw [s.sz k hk h' hh]
  exact h.2 h' (s.hdr k hk h' hh)
 | E, E', N, s, .pe g e j, u, hn, h => by
  simp only [RC] at h ⊢
  obtain ⟨hf, b, o, us, hu, hS, hr, ha⟩ := h
  exact ⟨hf, b, o, us, hu, s.S g b hS, RCs.sub (s.capS g) (fun k hk => by rw [Flat.one hf] at hk; cases hk) hr, rangeAt_of_block (s.mem g b hS) ha⟩
 | E, E', N, s, .clo f caps, u, hn, h => by
  simp only [RC] at h ⊢
  obtain ⟨us, hu, hr⟩ := h
  exact ⟨us, hu, RCs.sub s (by simpa only [Cell.names] using hn) hr⟩
 | E, E', N, s, .ow sz es, u, hn, h => by
  simp only [RC] at h ⊢
  obtain ⟨hf, a, cap, rfl, hc, h⟩ := h
  refine ⟨hf, a, cap, rfl, hc, ?_⟩
  rcases h with h | ⟨b, o, ha, hS, hr⟩
  ·exact .inl h
  ·exact .inr ⟨b, o, ha, s.S false b hS, RRow.sub s (s.mem false b hS) (fun k hk => by rw [hf.2] at hk; cases hk) hr⟩
 | E, E', N, s, .bx cs, _, _, h => by
  simp only [RC] at h ⊢
  obtain ⟨hn, g, us, hu, hS, hr, ha⟩ := h
  exact ⟨hn, g, us, hu, s.S false g hS, RCs.sub s (fun k hk => by rw [hn] at hk; cases hk) hr, rangeAt_of_block (s.mem false g hS) ha⟩
 | E, E', N, s, .raw _, _, _, h => by simpa only [RC] using h
 | E, E', N, s, .bad, _, _, h => by simpa only [RC] using h
theorem RCs.sub : ∀ {E E' : Env} {N : Nat → Prop} (s : Sub E E' N) {cs : List Cell} {us : List Value}, (∀ k ∈ cnames cs, N k) → RCs E cs us → RCs E' cs us
 | E, E', N, s, [], _, _, h => by simpa only [RCs] using h
 | E, E', N, s, c :: cs, us, hn, h => by
  simp only [RCs] at h ⊢
  obtain ⟨u, us', rfl, h1, h2⟩ := h
  simp only [cnames, List.mem_append] at hn
  exact ⟨u, us', rfl, RC.sub s (fun k hk => hn k (.inl hk)) h1, RCs.sub s (fun k hk => hn k (.inr hk)) h2⟩
theorem RRow.sub : ∀ {E E' : Env} {N : Nat → Prop} (s : Sub E E' N) {b sz : Nat} (hb : E'.w.heap[b]? = E.w.heap[b]?) {es : List (List Cell)} {o : Nat}, (∀ k ∈ rnames es, N k) → RRow E b o sz es → RRow E' b o sz es
 | E, E', N, s, b, sz, hb, [], _, _, _ => by simp only [RRow]
 | E, E', N, s, b, sz, hb, e :: es, o, hn, h => by
  simp only [RRow] at h ⊢
  simp only [rnames, List.mem_append] at hn
  obtain ⟨h1, ⟨us, h2, h3⟩, h4⟩ := h
  exact ⟨h1, ⟨us, RCs.sub s (fun k hk => hn k (.inl hk)) h2, rangeAt_of_block hb h3⟩, RRow.sub s hb (fun k hk => hn k (.inr hk)) h4⟩
end
theorem RC.one : ∀ {c : Cell} {u : Value}, RC E c u → u.oneCell' = true
 | .imm v, u, h => by simp only [RC] at h; rw [h.1]; exact isImm_one h.2
 | .nil, u, h => by simp only [RC] at h; rw [h]; rfl
 | .sl g es, u, h => by simp only [RC] at h; obtain ⟨_, a, cap, rfl, _⟩ := h; rfl
 | .own k, u, h => by simp only [RC] at h; exact h.1
 | .sub k lo n, u, h => by simp only [RC] at h; exact h.1
 | .ptr k j, u, h => by simp only [RC] at h; exact h.1
 | .ep k i j, u, h => by simp only [RC] at h; exact h.1
 | .pe g e j, u, h => by simp only [RC] at h; obtain ⟨_, b, o, us, rfl, _⟩ := h; rfl
 | .clo f caps, u, h => by simp only [RC] at h; obtain ⟨us, rfl, _⟩ := h; rfl
 | .ow sz es, u, h => by simp only [RC] at h; obtain ⟨_, a, cap, rfl, _⟩ := h; rfl
 | .bx cs, _, h => by simp only [RC] at h; obtain ⟨_, g, us, rfl, _⟩ := h; rfl
 | .raw _, _, h => by simp only [RC] at h; rw [h.1]; exact h.2
 | .bad, _, h => by simpa only [RC] using h
theorem RCs.length : ∀ {cs : List Cell} {us : List Value}, RCs E cs us → us.length = cs.length
 | [], _, h => by simp only [RCs] at h; simp [h]
 | _ :: cs, _, h => by
  simp only [RCs] at h
  obtain ⟨u, us', rfl, _, h2⟩ := h
  simp [RCs.length h2]
theorem RCs.one : ∀ {cs : List Cell} {us : List Value}, RCs E cs us → ∀ u ∈ us, u.oneCell' = true
 | [], _, h => by simp only [RCs] at h; simp [h]
 | _ :: cs, _, h => by
  simp only [RCs] at h
  obtain ⟨u, us', rfl, h1, h2⟩ := h
  intro x hx
  rcases List.mem_cons.1 hx with rfl | hx
  ·exact h1.one
  ·exact RCs.one h2 x hx
theorem RCs.get : ∀ {cs : List Cell} {us : List Value}, RCs E cs us → ∀ (j : Nat) (c : Cell), cs[j]? = some c → ∃ u, us[j]? = some u ∧ RC E c u
 | [], _, _, j, c, hc => by simp at hc
 | c' :: cs, _, h, j, c, hc => by
  simp only [RCs] at h
  obtain ⟨u, us', rfl, h1, h2⟩ := h
  cases j with
  | zero => simp at hc; subst hc; exact ⟨u, by simp, h1⟩
  | succ j => simp at hc; obtain ⟨u', hu', hr⟩ := RCs.get h2 j c hc; exact ⟨u', by simpa using hu', hr⟩
theorem RCs.append : ∀ {cs : List Cell} {us : List Value} {cs' us'}, RCs E cs us → RCs E cs' us' → RCs E (cs ++ cs') (us ++ us')
 | [], _, _, _, h, h' => by simp only [RCs] at h; simpa [h] using h'
 | c :: cs, _, _, _, h, h' => by
  simp only [RCs, List.cons_append] at h ⊢
  obtain ⟨u, us', rfl, h1, h2⟩ := h
  exact ⟨u, _, rfl, h1, RCs.append h2 h'⟩
theorem RCs.drop : ∀ (n : Nat) {cs : List Cell} {us : List Value}, RCs E cs us → RCs E (cs.drop n) (us.drop n)
 | 0, _, _, h => by simpa using h
 | n + 1, [], _, h => by simp only [RCs] at h; subst h; simp [RCs]
 | n + 1, _ :: cs, _, h => by
  simp only [RCs] at h
  obtain ⟨u, us', rfl, _, h2⟩ := h
  simpa using RCs.drop n h2
theorem RCs.take : ∀ (n : Nat) {cs : List Cell} {us : List Value}, RCs E cs us → RCs E (cs.take n) (us.take n)
 | 0, _, _, _ => by simp [RCs]
 | n + 1, [], _, h => by simp only [RCs] at h; subst h; simp [RCs]
 | n + 1, _ :: cs, _, h => by
  simp only [RCs] at h
  obtain ⟨u, us', rfl, h1, h2⟩ := h
  simp only [List.take_succ_cons, RCs]
  exact ⟨u, _, rfl, h1, RCs.take n h2⟩
theorem RCs.set : ∀ (j : Nat) {cs : List Cell} {us : List Value} {c : Cell} {u : Value}, RCs E cs us → RC E c u → RCs E (cs.set j c) (us.set j u)
 | _, [], _, _, _, h, _ => by simp only [RCs] at h; subst h; simp [RCs]
 | 0, _ :: cs, _, _, _, h, h' => by
  simp only [RCs] at h
  obtain ⟨u, us', rfl, _, h2⟩ := h
  simp only [List.set_cons_zero, RCs]
  exact ⟨_, _, rfl, h', h2⟩
 | j + 1, _ :: cs, _, _, _, h, h' => by
  simp only [RCs] at h
  obtain ⟨u, us', rfl, h1, h2⟩ := h
  simp only [List.set_cons_succ, RCs]
  exact ⟨_, _, rfl, h1, RCs.set j h2 h'⟩
theorem cnames_append (a b : List Cell) : cnames (a ++ b) = cnames a ++ cnames b := by
 induction a with
 | nil => rfl
 | cons c cs ih => simp [cnames, ih]
variable {k : Nat}
theorem mem_cnames {cs : List Cell} : k ∈ cnames cs ↔ ∃ c ∈ cs, k ∈ c.names := by
 induction cs with
 | nil => simp [cnames]
 | cons c cs ih => simp [cnames, ih]
variable {es : List (List Cell)}
theorem mem_rnames : k ∈ rnames es ↔ ∃ e ∈ es, k ∈ cnames e := by
 induction es with
 | nil => simp [rnames]
 | cons c cs ih => simp [rnames, ih]
variable {sz : Nat}
theorem RRow.get {b : Nat} : ∀ {es : List (List Cell)} {o : Nat}, RRow E b o sz es → ∀ (i : Nat) (e : List Cell), es[i]? = some e → e.length = sz ∧ ∃ us, RCs E e us ∧ E.w.rangeAt b (o + i * sz) us
 | [], _, _, _, _, he => by simp at he
 | e' :: es, o, h, i, e, he => by
  simp only [RRow] at h
  cases i with
  | zero => simp at he; subst he; simpa using ⟨h.1, h.2.1⟩
  | succ i =>
   simp at he
   obtain ⟨h1, us, h2, h3⟩ := RRow.get h.2.2 i e he
   exact ⟨h1, us, h2, by rw [show o + (i + 1) * sz = o + sz + i * sz by rw [Nat.add_mul]; omega]; exact h3⟩
theorem RRow.of_get {b : Nat} : ∀ {es : List (List Cell)} {o : Nat}, (∀ (i : Nat) (e : List Cell), es[i]? = some e → e.length = sz ∧ ∃ us, RCs E e us ∧ E.w.rangeAt b (o + i * sz) us) → RRow E b o sz es
 | [], _, _ => by simp only [RRow]
 | e :: es, o, h => by
  simp only [RRow]
  have h0 := h 0 e (by simp)
  refine ⟨h0.1, by simpa using h0.2, RRow.of_get fun i e' he => ?_⟩
  have := h (i + 1) e' (by simpa using he)
  rw [show o + (i + 1) * sz = o + sz + i * sz by rw [Nat.add_mul]; omega] at this
  exact this
theorem RRow.drop {b o : Nat} (lo : Nat) (h : RRow E b o sz es) : RRow E b (o + lo * sz) sz (es.drop lo) := by
 refine RRow.of_get fun i e he => ?_
 rw [List.getElem?_drop] at he
 obtain ⟨h1, h2⟩ := h.get (lo + i) e he
 exact ⟨h1, by rw [show o + lo * sz + i * sz = o + (lo + i) * sz by rw [Nat.add_mul]; omega]; exact h2⟩
theorem RRow.take {b o : Nat} (n : Nat) (h : RRow E b o sz es) : RRow E b o sz (es.take n) := by
 refine RRow.of_get fun i e he => h.get i e ?_
 rw [List.getElem?_take] at he
 split at he
 ·exact he
 ·simp at he
theorem RRow.flat {b : Nat} : ∀ {es : List (List Cell)} {o : Nat}, RRow E b o sz es → ∃ us, RCs E es.flatten us ∧ us.length = es.length * sz ∧ E.w.rangeAt b o us
 | [], o, _ => ⟨[], by simp [RCs], by simp, fun j v hv => by simp at hv⟩
 | e :: es, o, h => by
  simp only [RRow] at h
  obtain ⟨h1, ⟨us, h2, h3⟩, h4⟩ := h
  obtain ⟨us', g1, g2, g3⟩ := RRow.flat h4
  have hl := h2.length
  refine ⟨us ++ us', by simpa using h2.append g1, by simp [hl, h1, g2, Nat.add_mul, Nat.add_comm], fun j v hv => ?_⟩
  rw [List.getElem?_append] at hv
  split at hv
  ·exact h3 j v hv
  ·have := g3 _ v hv
   rw [show o + j = o + sz + (j - us.length) by omega]
   exact this
theorem RRow.of_flat {b : Nat} : ∀ {es : List (List Cell)} {o : Nat} {us : List Value}, (∀ e ∈ es, e.length = sz) → RCs E es.flatten us → E.w.rangeAt b o us → RRow E b o sz es
 | [], _, _, _, _, _ => by simp only [RRow]
 | e :: es, o, us, hs, h, hr => by
  simp only [RRow]
  have he : e.length = sz := hs e (by simp)
  have h1 : RCs E e (us.take sz) := by
   have := h.take sz
   rwa [List.flatten_cons, List.take_append_of_le_length (by omega), List.take_of_length_le (by omega)] at this
  have h2 : RCs E es.flatten (us.drop sz) := by
   have := h.drop sz
   rwa [List.flatten_cons, List.drop_append_of_le_length (by omega), List.drop_of_length_le (by omega), List.nil_append] at this
  refine ⟨he, ⟨_, h1, fun j v hv => hr j v ?_⟩, RRow.of_flat (fun e' h' => hs e' (by simp [h'])) h2 (fun j v hv => ?_)⟩
  ·rw [List.getElem?_take] at hv; split at hv
   ·exact hv
   ·simp at hv
  ·rw [List.getElem?_drop] at hv
   have := hr _ v hv
   rw [show o + sz + j = o + (sz + j) by omega]; exact this
theorem rclean_iff : rclean es = true ↔ ∀ e ∈ es, cclean e = true := by
 induction es with
 | nil => simp [rclean]
 | cons e es ih => simp [rclean, ih]
theorem cclean_iff {cs : List Cell} : cclean cs = true ↔ ∀ c ∈ cs, c.clean = true := by
 induction cs with
 | nil => simp [cclean]
 | cons e es ih => simp [cclean, ih]
theorem rnames_iff : rnames es = [] ↔ ∀ e ∈ es, cnames e = [] := by
 induction es with
 | nil => simp [rnames]
 | cons e es ih => simp [rnames, ih]
theorem cnames_iff {cs : List Cell} : cnames cs = [] ↔ ∀ c ∈ cs, c.names = [] := by
 induction cs with
 | nil => simp [cnames]
 | cons e es ih => simp [cnames, ih]
theorem Flat.iff : Flat es ↔ ∀ e ∈ es, cclean e = true ∧ cnames e = [] := by
 unfold Flat
 rw [rclean_iff, rnames_iff]
 exact ⟨fun h e he => ⟨h.1 e he, h.2 e he⟩, fun h => ⟨fun e he => (h e he).1, fun e he => (h e he).2⟩⟩
theorem Flat.nil : Flat [] := ⟨rfl, rfl⟩
theorem Flat.sub {es' : List (List Cell)} (h : Flat es) (hs : ∀ e ∈ es', e ∈ es) : Flat es' := Flat.iff.2 fun e he => Flat.iff.1 h e (hs e he)
theorem Flat.part (h : Flat es) (lo n : Nat) : Flat ((es.drop lo).take n) := h.sub fun _ he => List.mem_of_mem_drop (List.mem_of_mem_take he)
theorem Flat.append {es' : List (List Cell)} (h : Flat es) (h' : Flat es') : Flat (es ++ es') := Flat.iff.2 fun e he => (List.mem_append.1 he).elim (Flat.iff.1 h e) (Flat.iff.1 h' e)
variable {i : Nat}
theorem Flat.get (h : Flat es) {e : List Cell} (he : es[i]? = some e) : Flat [e] := h.sub fun x hx => by rw [List.mem_singleton.1 hx]; exact List.mem_of_getElem? he
structure SubT (E E' : Env) (N : Nat → Prop) : Prop where
 S : ∀ b, E.S true b → E'.S true b
 mem : ∀ b, E.S true b → E'.w.heap[b]? = E.w.heap[b]?
 hdr : ∀ k, N k → ∀ h, E'.hdr k = some h → E.hdr k = some h
 pt : ∀ k, N k → ∀ b, E'.pt k = some b → E.pt k = some b
 sz : ∀ k, N k → ∀ h, E'.hdr k = some h → E'.sz k = E.sz k
theorem SubT.capS {N : Nat → Prop} (s : SubT E E' N) : Sub (E.cap true) (E'.cap true) (fun _ => False) :=
 ⟨fun c b h => by cases c <;> exact s.S b h, fun c b h => by cases c <;> exact s.mem b h, fun _ h => h.elim, fun _ h => h.elim, fun _ h => h.elim⟩
mutual
theorem RC.clean {E E' : Env} {N : Nat → Prop} (s : SubT E E' N) : ∀ {c : Cell} {u : Value}, c.clean = true → c.isOw = false → (∀ k ∈ c.names, N k) → RC E c u → RC E' c u
 | .imm _, _, _, _, _, h => by simpa only [RC] using h
 | .nil, _, _, _, _, h => by simpa only [RC] using h
 | .sl g es, u, hc, _, hn, h => by
  obtain rfl : g = true := hc
  simp only [RC] at h ⊢
  obtain ⟨hf, a, cap, rfl, hcap, h⟩ := h
  refine ⟨hf, a, cap, rfl, hcap, ?_⟩
  rcases h with h | ⟨b, o, sz, ha, hS, hr⟩
  ·exact .inl h
  ·exact .inr ⟨b, o, sz, ha, s.S b hS, RRow.sub s.capS (s.mem b hS) (fun k hk => by rw [hf.2] at hk; cases hk) hr⟩
 | .own k, u, _, _, hn, h => by
  simp only [RC] at h ⊢
  exact ⟨h.1, fun h' hh => h.2 h' (s.hdr k (hn k (by simp [Cell.names])) h' hh)⟩
 | .sub k lo n, u, _, _, hn, h => by
  simp only [RC] at h ⊢
  have hk := hn k (by simp [Cell.names])
  refine ⟨h.1, fun h' hh => ?_⟩
  rcases h.2 h' (s.hdr k hk h' hh) with h1 | ⟨g, len, cap, a, h1, h2, h3, h4⟩
  ·exact .inl h1
  ·exact .inr ⟨g, len, cap, a, h1, h2, h3, by rw [s.sz k hk h' hh]; exact h4⟩
 | .ptr k j, u, _, _, hn, h => by
  simp only [RC] at h ⊢
  exact ⟨h.1, fun b hb => h.2 b (s.pt k (hn k (by simp [Cell.names])) b hb)⟩
 | .ep k i j, u, _, _, hn, h => by
  simp only [RC] at h ⊢
  have hk := hn k (by simp [Cell.names])
  refine ⟨h.1, fun h' hh => ?_⟩
  rw [s.sz k hk h' hh]
  exact h.2 h' (s.hdr k hk h' hh)
 | .pe g e j, u, hc, _, hn, h => by
  obtain rfl : g = true := hc
  simp only [RC] at h ⊢
  obtain ⟨hf, b, o, us, hu, hS, hr, ha⟩ := h
  exact ⟨hf, b, o, us, hu, s.S b hS, RCs.sub s.capS (fun k hk => by rw [hf.one] at hk; cases hk) hr, rangeAt_of_block (s.mem b hS) ha⟩
 | .clo f caps, u, hc, _, hn, h => by
  simp only [Cell.clean, Bool.and_eq_true] at hc
  simp only [RC] at h ⊢
  obtain ⟨us, hu, hr⟩ := h
  exact ⟨us, hu, RCs.clean s hc.1 hc.2 (by simpa only [Cell.names] using hn) hr⟩
 | .ow .., _, _, ho, _, h => by simp [Cell.isOw] at ho
 | .bx .., _, _, ho, _, h => by simp [Cell.isOw] at ho
 | .raw _, _, _, _, _, h => by simpa only [RC] using h
 | .bad, _, _, _, _, h => by simpa only [RC] using h
theorem RCs.clean {E E' : Env} {N : Nat → Prop} (s : SubT E E' N) : ∀ {cs : List Cell} {us : List Value}, cclean cs = true → noOw cs = true → (∀ k ∈ cnames cs, N k) → RCs E cs us → RCs E' cs us
 | [], _, _, _, _, h => by simpa only [RCs] using h
 | c :: cs, us, hc, ho, hn, h => by
  simp only [cclean, Bool.and_eq_true] at hc
  simp only [noOw, Bool.and_eq_true, Bool.not_eq_true'] at ho
  simp only [RCs] at h ⊢
  obtain ⟨u, us', rfl, h1, h2⟩ := h
  simp only [cnames, List.mem_append] at hn
  exact ⟨u, us', rfl, RC.clean s hc.1 ho.1 (fun k hk => hn k (.inl hk)) h1, RCs.clean s hc.2 ho.2 (fun k hk => hn k (.inr hk)) h2⟩
end
mutual
def RXC : Env → Cell → Value → List Nat → Prop
 | E, .ow sz es, u, bs => (∀ e ∈ es, e.length = sz) ∧ Flat es ∧ ((u = .slice none 0 0 ∧ es = [] ∧ bs = []) ∨
   ∃ g cap bs', u = .slice (some ⟨g, 0, none⟩) es.length cap ∧ es.length ≤ cap ∧ E.w.there g 0 (cap * sz) ∧ RXRow E g 0 sz es bs' ∧ bs = g :: bs')
 | E, .bx cs, u, bs => cnames cs = [] ∧ ∃ g us, u = .pointer (some ⟨g, 0, none⟩) ∧ RCs E cs us ∧ E.w.rangeAt g 0 us ∧ E.w.there g 0 cs.length ∧ bs = [g]
 | E, c, u, bs => RC E c u ∧ bs = []
def RXCs : Env → List Cell → List Value → List Nat → Prop
 | _, [], us, bs => us = [] ∧ bs = []
 | E, c :: cs, us, bs => ∃ u us' b bs', us = u :: us' ∧ bs = b ++ bs' ∧ RXC E c u b ∧ RXCs E cs us' bs'
def RXRow : Env → Nat → Nat → Nat → List (List Cell) → List Nat → Prop
 | _, _, _, _, [], bs => bs = []
 | E, b, o, sz, e :: es, bs => ∃ us b1 b2, bs = b1 ++ b2 ∧ e.length = sz ∧ RXCs E e us b1 ∧ E.w.rangeAt b o us ∧ RXRow E b (o + sz) sz es b2
end
variable {bs : List Nat} {u : Value}
theorem RXC.iff {c : Cell} (h : c.isOw = false) : RXC E c u bs ↔ RC E c u ∧ bs = [] := by
 cases c <;> simp [Cell.isOw] at h <;> simp only [RXC]
theorem RXC.of {c : Cell} (h : RC E c u) (ho : c.isOw = false) : RXC E c u [] := (RXC.iff ho).2 ⟨h, rfl⟩
theorem RXC.one {c : Cell} (h : RXC E c u bs) : u.oneCell' = true := by
 cases hc : c.isOw with
 | false => exact ((RXC.iff hc).1 h).1.one
 | true =>
  cases c <;> simp [Cell.isOw] at hc
  ·simp only [RXC] at h
   obtain ⟨_, _, h | ⟨g, cap, bs', h, _⟩⟩ := h
   ·rw [h.1]; rfl
   ·rw [h]; rfl
  ·simp only [RXC] at h
   obtain ⟨_, g, us, h, _⟩ := h
   rw [h]; rfl
theorem RXCs.one : ∀ {cs : List Cell} {us : List Value} {bs : List Nat}, RXCs E cs us bs → ∀ u ∈ us, u.oneCell' = true
 | [], _, _, h => by simp only [RXCs] at h; simp [h.1]
 | _ :: cs, _, _, h => by
  simp only [RXCs] at h
  obtain ⟨u, us', b, bs', rfl, rfl, h1, h2⟩ := h
  intro x hx
  rcases List.mem_cons.1 hx with rfl | hx
  ·exact h1.one
  ·exact RXCs.one h2 x hx
theorem RXCs.length : ∀ {cs : List Cell} {us : List Value} {bs : List Nat}, RXCs E cs us bs → us.length = cs.length
 | [], _, _, h => by simp only [RXCs] at h; simp [h.1]
 | c :: cs, _, _, h => by simp only [RXCs] at h; obtain ⟨u, us', b, bs', rfl, rfl, _, h⟩ := h; simp [RXCs.length h]
theorem RXCs.plain : ∀ {cs : List Cell} {us : List Value} {bs : List Nat}, noOw cs = true → RXCs E cs us bs → RCs E cs us ∧ bs = []
 | [], _, _, _, h => by simp only [RXCs] at h; simpa only [RCs] using h
 | c :: cs, _, _, ho, h => by
  simp only [RXCs] at h
  simp only [noOw, Bool.and_eq_true, Bool.not_eq_true'] at ho
  obtain ⟨u, us', b, bs', rfl, rfl, h1, h2⟩ := h
  obtain ⟨a1, rfl⟩ := (RXC.iff ho.1).1 h1
  obtain ⟨a2, rfl⟩ := RXCs.plain ho.2 h2
  exact ⟨by simp only [RCs]; exact ⟨u, us', rfl, a1, a2⟩, rfl⟩
theorem RXCs.of : ∀ {cs : List Cell} {us : List Value}, noOw cs = true → RCs E cs us → RXCs E cs us []
 | [], _, _, h => by simp only [RCs] at h; simp [RXCs, h]
 | c :: cs, _, ho, h => by
  simp only [RCs] at h
  simp only [noOw, Bool.and_eq_true, Bool.not_eq_true'] at ho
  obtain ⟨u, us', rfl, h1, h2⟩ := h
  simp only [RXCs]
  exact ⟨u, us', [], [], rfl, rfl, RXC.of h1 ho.1, RXCs.of ho.2 h2⟩
theorem noOw_append {a b : List Cell} : noOw (a ++ b) = (noOw a && noOw b) := by
 induction a with
 | nil => rfl
 | cons c cs ih => simp [noOw, ih, Bool.and_assoc]
theorem RXCs.append : ∀ {cs : List Cell} {us : List Value} {bs : List Nat} {cs' us' bs'}, RXCs E cs us bs → RXCs E cs' us' bs' → RXCs E (cs ++ cs') (us ++ us') (bs ++ bs')
 | [], _, _, _, _, _, h, h' => by simp only [RXCs] at h; obtain ⟨rfl, rfl⟩ := h; simpa using h'
 | c :: cs, _, _, _, _, _, h, h' => by
  simp only [RXCs, List.cons_append] at h ⊢
  obtain ⟨u, us', b, bs', rfl, rfl, h1, h2⟩ := h
  exact ⟨u, _, b, _, rfl, by rw [List.append_assoc], h1, RXCs.append h2 h'⟩
theorem RXCs.cut : ∀ (n : Nat) {cs : List Cell} {us : List Value} {bs : List Nat}, RXCs E cs us bs → ∃ b1 b2, bs = b1 ++ b2 ∧ RXCs E (cs.take n) (us.take n) b1 ∧ RXCs E (cs.drop n) (us.drop n) b2
 | 0, cs, us, bs, h => ⟨[], bs, rfl, by simp [RXCs], by simpa using h⟩
 | n + 1, [], us, bs, h => by
  simp only [RXCs] at h
  obtain ⟨rfl, rfl⟩ := h
  exact ⟨[], [], rfl, by simp [RXCs], by simp [RXCs]⟩
 | n + 1, c :: cs, us, bs, h => by
  simp only [RXCs] at h
  obtain ⟨u, us', b, bs', rfl, rfl, h1, h2⟩ := h
  obtain ⟨b1, b2, rfl, h3, h4⟩ := RXCs.cut n h2
  refine ⟨b ++ b1, b2, by simp, ?_, by simpa using h4⟩
  simp only [List.take_succ_cons, RXCs]
  exact ⟨u, _, b, b1, rfl, rfl, h1, h3⟩
theorem RXCs.part {cs : List Cell} (h : RXCs E cs us bs) (j n : Nat) : ∃ b, RXCs E ((cs.drop j).take n) ((us.drop j).take n) b ∧ b.Sublist bs := by
 obtain ⟨b1, b2, rfl, _, h2⟩ := h.cut j
 obtain ⟨b3, b4, rfl, h3, _⟩ := h2.cut n
 exact ⟨b3, h3, (List.sublist_append_left b3 b4).trans (List.sublist_append_right b1 _)⟩
theorem RXRow.get {b : Nat} : ∀ {es : List (List Cell)} {o : Nat} {bs : List Nat}, RXRow E b o sz es bs → ∀ (i : Nat) (e : List Cell), es[i]? = some e → e.length = sz ∧ ∃ us b1, RXCs E e us b1 ∧ b1.Sublist bs ∧ E.w.rangeAt b (o + i * sz) us
 | [], _, _, _, _, _, he => by simp at he
 | e' :: es, o, bs, h, i, e, he => by
  simp only [RXRow] at h
  obtain ⟨us, b1, b2, rfl, h1, h2, h3, h4⟩ := h
  cases i with
  | zero => simp at he; subst he; exact ⟨h1, us, b1, h2, List.sublist_append_left _ _, by simpa using h3⟩
  | succ i =>
   simp at he
   obtain ⟨g1, us', b', g2, g3, g4⟩ := RXRow.get h4 i e he
   exact ⟨g1, us', b', g2, g3.trans (List.sublist_append_right _ _), by rw [show o + (i + 1) * sz = o + sz + i * sz by rw [Nat.add_mul]; omega]; exact g4⟩
theorem RXRow.flat {b : Nat} : ∀ {es : List (List Cell)} {o : Nat} {bs : List Nat}, RXRow E b o sz es bs → ∃ us, RXCs E es.flatten us bs ∧ us.length = es.length * sz ∧ E.w.rangeAt b o us
 | [], o, bs, h => by simp only [RXRow] at h; subst h; exact ⟨[], by simp [RXCs], by simp, fun j v hv => by simp at hv⟩
 | e :: es, o, bs, h => by
  simp only [RXRow] at h
  obtain ⟨us, b1, b2, rfl, h1, h2, h3, h4⟩ := h
  obtain ⟨us', g1, g2, g3⟩ := RXRow.flat h4
  have hl := h2.length
  refine ⟨us ++ us', by simpa using h2.append g1, by simp [hl, h1, g2, Nat.add_mul, Nat.add_comm], fun j v hv => ?_⟩
  rw [List.getElem?_append] at hv
  split at hv
  ·exact h3 j v hv
  ·have := g3 _ v hv
   rw [show o + j = o + sz + (j - us.length) by omega]
   exact this
theorem RXRow.of_flat {b : Nat} : ∀ {es : List (List Cell)} {o : Nat} {us : List Value} {bs : List Nat}, (∀ e ∈ es, e.length = sz) → RXCs E es.flatten us bs → E.w.rangeAt b o us → RXRow E b o sz es bs
 | [], _, us, bs, _, h, _ => by simp only [List.flatten_nil, RXCs] at h; simp only [RXRow]; exact h.2
 | e :: es, o, us, bs, hs, h, hr => by
  have he : e.length = sz := hs e (by simp)
  obtain ⟨b1, b2, rfl, h1, h2⟩ := h.cut sz
  rw [List.flatten_cons, List.take_append_of_le_length (by omega), List.take_of_length_le (by omega)] at h1
  rw [List.flatten_cons, List.drop_append_of_le_length (by omega), List.drop_of_length_le (by omega), List.nil_append] at h2
  simp only [RXRow]
  refine ⟨_, b1, b2, rfl, he, h1, fun j v hv => hr j v ?_, RXRow.of_flat (fun e' h' => hs e' (by simp [h'])) h2 (fun j v hv => ?_)⟩
  ·rw [List.getElem?_take] at hv; split at hv
   ·exact hv
   ·simp at hv
  ·rw [List.getElem?_drop] at hv
   have := hr _ v hv
   rw [show o + sz + j = o + (sz + j) by omega]; exact this
theorem RXRow.take {b : Nat} : ∀ (n : Nat) {es : List (List Cell)} {o : Nat} {bs : List Nat}, RXRow E b o sz es bs → ∃ b1, RXRow E b o sz (es.take n) b1 ∧ b1.Sublist bs
 | 0, es, o, bs, _ => ⟨[], by simp [RXRow], List.nil_sublist _⟩
 | n + 1, [], o, bs, h => ⟨bs, by simpa using h, List.Sublist.refl _⟩
 | n + 1, e :: es, o, bs, h => by
  simp only [RXRow] at h
  obtain ⟨us, b1, b2, rfl, h1, h2, h3, h4⟩ := h
  obtain ⟨b3, g1, g2⟩ := RXRow.take n h4
  refine ⟨b1 ++ b3, ?_, List.Sublist.append_left g2 b1⟩
  simp only [List.take_succ_cons, RXRow]
  exact ⟨us, b1, b3, rfl, h1, h2, h3, g1⟩
mutual
theorem RXC.sub {E E' : Env} {N : Nat → Prop} (s : Sub E E' N) : ∀ {c : Cell} {u : Value} {bs : List Nat}, (∀ b ∈ bs, E'.w.heap[b]? = E.w.heap[b]?) → (∀ k ∈ c.names, N k) → RXC E c u bs → RXC E' c u bs
 | .ow sz es, u, bs, hm, hn, h => by
  simp only [RXC] at h ⊢
  obtain ⟨h1, h2, h3⟩ := h
  refine ⟨h1, h2, h3.imp id ?_⟩
  rintro ⟨g, cap, bs', h4, h5, h6, h7, h8⟩
  have hg := hm g (by rw [h8]; simp)
  exact ⟨g, cap, bs', h4, h5, there_of_block hg h6, RXRow.sub s hg (fun x hx => hm x (by rw [h8]; simp [hx])) (fun k hk => by rw [h2.2] at hk; cases hk) h7, h8⟩
 | .bx cs, u, bs, hm, hn, h => by
  simp only [RXC] at h ⊢
  obtain ⟨h1, g, us, h2, h3, h4, h5, h6⟩ := h
  have hg := hm g (by rw [h6]; simp)
  exact ⟨h1, g, us, h2, h3.sub s (by simp [h1]), rangeAt_of_block hg h4, there_of_block hg h5, h6⟩
 | .imm v, u, bs, hm, hn, h => (RXC.iff rfl).2 (((RXC.iff rfl).1 h).imp (RC.sub s hn) id)
 | .nil, u, bs, hm, hn, h => (RXC.iff rfl).2 (((RXC.iff rfl).1 h).imp (RC.sub s hn) id)
 | .sl .., u, bs, hm, hn, h => (RXC.iff rfl).2 (((RXC.iff rfl).1 h).imp (RC.sub s hn) id)
 | .own .., u, bs, hm, hn, h => (RXC.iff rfl).2 (((RXC.iff rfl).1 h).imp (RC.sub s hn) id)
 | .sub .., u, bs, hm, hn, h => (RXC.iff rfl).2 (((RXC.iff rfl).1 h).imp (RC.sub s hn) id)
 | .ptr .., u, bs, hm, hn, h => (RXC.iff rfl).2 (((RXC.iff rfl).1 h).imp (RC.sub s hn) id)
 | .ep .., u, bs, hm, hn, h => (RXC.iff rfl).2 (((RXC.iff rfl).1 h).imp (RC.sub s hn) id)
 | .pe .., u, bs, hm, hn, h => (RXC.iff rfl).2 (((RXC.iff rfl).1 h).imp (RC.sub s hn) id)
 | .clo .., u, bs, hm, hn, h => (RXC.iff rfl).2 (((RXC.iff rfl).1 h).imp (RC.sub s hn) id)
 | .raw .., u, bs, hm, hn, h => (RXC.iff rfl).2 (((RXC.iff rfl).1 h).imp (RC.sub s hn) id)
 | .bad, u, bs, hm, hn, h => (RXC.iff rfl).2 (((RXC.iff rfl).1 h).imp (RC.sub s hn) id)
theorem RXCs.sub {E E' : Env} {N : Nat → Prop} (s : Sub E E' N) : ∀ {cs : List Cell} {us : List Value} {bs : List Nat}, (∀ b ∈ bs, E'.w.heap[b]? = E.w.heap[b]?) → (∀ k ∈ cnames cs, N k) → RXCs E cs us bs → RXCs E' cs us bs
 | [], _, _, _, _, h => by simpa only [RXCs] using h
 | c :: cs, _, _, hm, hn, h => by
  simp only [RXCs] at h ⊢
  obtain ⟨u, us', b, bs', rfl, rfl, h1, h2⟩ := h
  simp only [cnames, List.mem_append] at hn
  exact ⟨u, us', b, bs', rfl, rfl, RXC.sub s (fun x hx => hm x (by simp [hx])) (fun k hk => hn k (.inl hk)) h1, RXCs.sub s (fun x hx => hm x (by simp [hx])) (fun k hk => hn k (.inr hk)) h2⟩
theorem RXRow.sub {E E' : Env} {N : Nat → Prop} (s : Sub E E' N) {b sz : Nat} (hb : E'.w.heap[b]? = E.w.heap[b]?) : ∀ {es : List (List Cell)} {o : Nat} {bs : List Nat}, (∀ b ∈ bs, E'.w.heap[b]? = E.w.heap[b]?) → (∀ k ∈ rnames es, N k) → RXRow E b o sz es bs → RXRow E' b o sz es bs
 | [], _, _, _, _, h => by simpa only [RXRow] using h
 | e :: es, o, bs, hm, hn, h => by
  simp only [RXRow] at h ⊢
  obtain ⟨us, b1, b2, rfl, h1, h2, h3, h4⟩ := h
  simp only [rnames, List.mem_append] at hn
  exact ⟨us, b1, b2, rfl, h1, RXCs.sub s (fun x hx => hm x (by simp [hx])) (fun k hk => hn k (.inl hk)) h2, rangeAt_of_block hb h3, RXRow.sub s hb (fun x hx => hm x (by simp [hx])) (fun k hk => hn k (.inr hk)) h4⟩
end
mutual
theorem RXC.clean {E E' : Env} {N : Nat → Prop} (s : SubT E E' N) : ∀ {c : Cell} {u : Value} {bs : List Nat}, (∀ b ∈ bs, E'.w.heap[b]? = E.w.heap[b]?) → c.clean = true → (∀ k ∈ c.names, N k) → RXC E c u bs → RXC E' c u bs
 | .ow sz es, u, bs, hm, hc, hn, h => by
  simp only [RXC] at h ⊢
  obtain ⟨h1, h2, h3⟩ := h
  refine ⟨h1, h2, h3.imp id ?_⟩
  rintro ⟨g, cap, bs', h4, h5, h6, h7, h8⟩
  have hg := hm g (by rw [h8]; simp)
  exact ⟨g, cap, bs', h4, h5, there_of_block hg h6, RXRow.clean s hg (fun x hx => hm x (by rw [h8]; simp [hx])) h2.1 (fun k hk => by rw [h2.2] at hk; cases hk) h7, h8⟩
 | .bx cs, u, bs, hm, hc, hn, h => by
  simp only [Cell.clean, Bool.and_eq_true] at hc
  simp only [RXC] at h ⊢
  obtain ⟨h1, g, us, h2, h3, h4, h5, h6⟩ := h
  have hg := hm g (by rw [h6]; simp)
  exact ⟨h1, g, us, h2, h3.clean s hc.1 hc.2 (by simp [h1]), rangeAt_of_block hg h4, there_of_block hg h5, h6⟩
 | .imm v, u, bs, hm, hc, hn, h => (RXC.iff rfl).2 (((RXC.iff rfl).1 h).imp (RC.clean s hc rfl hn) id)
 | .nil, u, bs, hm, hc, hn, h => (RXC.iff rfl).2 (((RXC.iff rfl).1 h).imp (RC.clean s hc rfl hn) id)
 | .sl .., u, bs, hm, hc, hn, h => (RXC.iff rfl).2 (((RXC.iff rfl).1 h).imp (RC.clean s hc rfl hn) id)
 | .own .., u, bs, hm, hc, hn, h => (RXC.iff rfl).2 (((RXC.iff rfl).1 h).imp (RC.clean s hc rfl hn) id)
 | .sub .., u, bs, hm, hc, hn, h => (RXC.iff rfl).2 (((RXC.iff rfl).1 h).imp (RC.clean s hc rfl hn) id)
 | .ptr .., u, bs, hm, hc, hn, h => (RXC.iff rfl).2 (((RXC.iff rfl).1 h).imp (RC.clean s hc rfl hn) id)
 | .ep .., u, bs, hm, hc, hn, h => (RXC.iff rfl).2 (((RXC.iff rfl).1 h).imp (RC.clean s hc rfl hn) id)
 | .pe .., u, bs, hm, hc, hn, h => (RXC.iff rfl).2 (((RXC.iff rfl).1 h).imp (RC.clean s hc rfl hn) id)
 | .clo .., u, bs, hm, hc, hn, h => (RXC.iff rfl).2 (((RXC.iff rfl).1 h).imp (RC.clean s hc rfl hn) id)
 | .raw .., u, bs, hm, hc, hn, h => (RXC.iff rfl).2 (((RXC.iff rfl).1 h).imp (RC.clean s hc rfl hn) id)
 | .bad, u, bs, hm, hc, hn, h => (RXC.iff rfl).2 (((RXC.iff rfl).1 h).imp (RC.clean s hc rfl hn) id)
theorem RXCs.clean {E E' : Env} {N : Nat → Prop} (s : SubT E E' N) : ∀ {cs : List Cell} {us : List Value} {bs : List Nat}, (∀ b ∈ bs, E'.w.heap[b]? = E.w.heap[b]?) → cclean cs = true → (∀ k ∈ cnames cs, N k) → RXCs E cs us bs → RXCs E' cs us bs
 | [], _, _, _, _, _, h => by simpa only [RXCs] using h
 | c :: cs, _, _, hm, hc, hn, h => by
  simp only [RXCs] at h ⊢
  simp only [cclean, Bool.and_eq_true] at hc
  obtain ⟨u, us', b, bs', rfl, rfl, h1, h2⟩ := h
  simp only [cnames, List.mem_append] at hn
  exact ⟨u, us', b, bs', rfl, rfl, RXC.clean s (fun x hx => hm x (by simp [hx])) hc.1 (fun k hk => hn k (.inl hk)) h1, RXCs.clean s (fun x hx => hm x (by simp [hx])) hc.2 (fun k hk => hn k (.inr hk)) h2⟩
theorem RXRow.clean {E E' : Env} {N : Nat → Prop} (s : SubT E E' N) {b sz : Nat} (hb : E'.w.heap[b]? = E.w.heap[b]?) : ∀ {es : List (List Cell)} {o : Nat} {bs : List Nat}, (∀ b ∈ bs, E'.w.heap[b]? = E.w.heap[b]?) → rclean es = true → (∀ k ∈ rnames es, N k) → RXRow E b o sz es bs → RXRow E' b o sz es bs
 | [], _, _, _, _, _, h => by simpa only [RXRow] using h
 | e :: es, o, bs, hm, hc, hn, h => by
  simp only [RXRow] at h ⊢
  simp only [rclean, Bool.and_eq_true] at hc
  obtain ⟨us, b1, b2, rfl, h1, h2, h3, h4⟩ := h
  simp only [rnames, List.mem_append] at hn
  exact ⟨us, b1, b2, rfl, h1, RXCs.clean s (fun x hx => hm x (by simp [hx])) hc.1 (fun k hk => hn k (.inl hk)) h2, rangeAt_of_block hb h3, RXRow.clean s hb (fun x hx => hm x (by simp [hx])) hc.2 (fun k hk => hn k (.inr hk)) h4⟩
end
mutual
theorem RXC.view {E E' : Env} (s : SubT E E' (fun _ => False)) : ∀ {c : Cell} {u : Value} {bs : List Nat}, (∀ b ∈ bs, E'.w.heap[b]? = E.w.heap[b]? ∧ E'.S false b) → c.clean = true → c.names = [] → RXC E c u bs → RC E' c u
 | .ow sz es, u, bs, hm, hc, hn, h => by
  simp only [RXC] at h
  simp only [RC]
  obtain ⟨h1, h2, h3⟩ := h
  refine ⟨h2, ?_⟩
  rcases h3 with ⟨h4, h5, h6⟩ | ⟨g, cap, bs', h4, h5, h6, h7, h8⟩
  ·exact ⟨none, 0, by rw [h4, h5]; rfl, by rw [h5]; exact Nat.le_refl _, .inl h5⟩
  ·have hg := hm g (by rw [h8]; simp)
   exact ⟨_, cap, h4, h5, .inr ⟨g, 0, rfl, hg.2, RXRow.view s hg.1 (fun x hx => hm x (by rw [h8]; simp [hx])) h2.1 h2.2 h7⟩⟩
 | .bx cs, u, bs, hm, hc, hn, h => by
  simp only [Cell.clean, Bool.and_eq_true] at hc
  simp only [RXC] at h
  simp only [RC]
  obtain ⟨h1, g, us, h2, h3, h4, h5, h6⟩ := h
  have hg := hm g (by rw [h6]; simp)
  exact ⟨h1, g, us, h2, hg.2, h3.clean s hc.1 hc.2 (by simp [h1]), rangeAt_of_block hg.1 h4⟩
 | .imm v, u, bs, hm, hc, hn, h => RC.clean s hc rfl (by simp [hn]) ((RXC.iff rfl).1 h).1
 | .nil, u, bs, hm, hc, hn, h => RC.clean s hc rfl (by simp [hn]) ((RXC.iff rfl).1 h).1
 | .sl .., u, bs, hm, hc, hn, h => RC.clean s hc rfl (by simp [hn]) ((RXC.iff rfl).1 h).1
 | .own .., u, bs, hm, hc, hn, h => RC.clean s hc rfl (by simp [hn]) ((RXC.iff rfl).1 h).1
 | .sub .., u, bs, hm, hc, hn, h => RC.clean s hc rfl (by simp [hn]) ((RXC.iff rfl).1 h).1
 | .ptr .., u, bs, hm, hc, hn, h => RC.clean s hc rfl (by simp [hn]) ((RXC.iff rfl).1 h).1
 | .ep .., u, bs, hm, hc, hn, h => RC.clean s hc rfl (by simp [hn]) ((RXC.iff rfl).1 h).1
 | .pe .., u, bs, hm, hc, hn, h => RC.clean s hc rfl (by simp [hn]) ((RXC.iff rfl).1 h).1
 | .clo .., u, bs, hm, hc, hn, h => RC.clean s hc rfl (by simp [hn]) ((RXC.iff rfl).1 h).1
 | .raw .., u, bs, hm, hc, hn, h => RC.clean s hc rfl (by simp [hn]) ((RXC.iff rfl).1 h).1
 | .bad, u, bs, hm, hc, hn, h => RC.clean s hc rfl (by simp [hn]) ((RXC.iff rfl).1 h).1
theorem RXCs.view {E E' : Env} (s : SubT E E' (fun _ => False)) : ∀ {cs : List Cell} {us : List Value} {bs : List Nat}, (∀ b ∈ bs, E'.w.heap[b]? = E.w.heap[b]? ∧ E'.S false b) → cclean cs = true → cnames cs = [] → RXCs E cs us bs → RCs E' cs us
 | [], _, _, _, _, _, h => by simp only [RXCs] at h; simp only [RCs]; exact h.1
 | c :: cs, _, _, hm, hc, hn, h => by
  simp only [RXCs] at h
  simp only [cclean, Bool.and_eq_true] at hc
  simp only [RCs]
  obtain ⟨u, us', b, bs', rfl, rfl, h1, h2⟩ := h
  simp only [cnames, List.append_eq_nil_iff] at hn
  exact ⟨u, us', rfl, RXC.view s (fun x hx => hm x (by simp [hx])) hc.1 hn.1 h1, RXCs.view s (fun x hx => hm x (by simp [hx])) hc.2 hn.2 h2⟩
theorem RXRow.view {E E' : Env} (s : SubT E E' (fun _ => False)) {b sz : Nat} (hb : E'.w.heap[b]? = E.w.heap[b]?) : ∀ {es : List (List Cell)} {o : Nat} {bs : List Nat}, (∀ b ∈ bs, E'.w.heap[b]? = E.w.heap[b]? ∧ E'.S false b) → rclean es = true → rnames es = [] → RXRow E b o sz es bs → RRow E' b o sz es
 | [], _, _, _, _, _, _ => by simp only [RRow]
 | e :: es, o, bs, hm, hc, hn, h => by
  simp only [RXRow] at h
  simp only [rclean, Bool.and_eq_true] at hc
  simp only [RRow]
  obtain ⟨us, b1, b2, rfl, h1, h2, h3, h4⟩ := h
  simp only [rnames, List.append_eq_nil_iff] at hn
  exact ⟨h1, ⟨us, RXCs.view s (fun x hx => hm x (by simp [hx])) hc.1 hn.1 h2, rangeAt_of_block hb h3⟩, RXRow.view s hb (fun x hx => hm x (by simp [hx])) hc.2 hn.2 h4⟩
end
def pl : List (List Cell) → Bool
 | [] => true
 | e :: es => noOw e && pl es
theorem pl_iff : pl es = true ↔ ∀ e ∈ es, noOw e = true := by
 induction es with
 | nil => simp [pl]
 | cons e es ih => simp [pl, ih]
theorem pl_flat (h : pl es = true) : noOw es.flatten = true := by
 induction es with
 | nil => rfl
 | cons e es ih =>
  simp only [pl, Bool.and_eq_true] at h
  simp [noOw_append, h.1, ih h.2]
variable {α : Type}
theorem pl_map {f : α → List Cell} {xs : List α} (h : ∀ x, noOw (f x) = true) : pl (xs.map f) = true := pl_iff.2 fun e he => by
 obtain ⟨x, _, rfl⟩ := List.mem_map.1 he; exact h x
def upd (f : Nat → α) (k : Nat) (v : α) : Nat → α := fun x => if x = k then v else f x
theorem upd_same (f : Nat → α) (k : Nat) (v : α) : upd f k v k = v := by simp [upd]
theorem upd_other (f : Nat → α) {x : Nat} (v : α) (h : x ≠ k) : upd f k v x = f x := by simp [upd, h]
inductive V where
 | one (c : Cell)
 | agg (cs : List Cell)
inductive Slot where
 | v (x : V)
 | tup (xs : List V)
def V.cells : V → List Cell
 | .one c => [c]
 | .agg cs => cs
def V.names (x : V) : List Nat := cnames x.cells
def Slot.names : Slot → List Nat
 | .v x => x.names
 | .tup xs => xs.flatMap V.names
def RV (E : Env) : V → Value → Prop
 | .one c, u => RC E c u
 | .agg cs, u => ∃ us, u = .agg us.toArray ∧ RCs E cs us
def RVs (E : Env) : List V → List Value → Prop
 | [], us => us = []
 | x :: xs, us => ∃ u us', us = u :: us' ∧ RV E x u ∧ RVs E xs us'
def RSlot (E : Env) : Slot → Value → Prop
 | .v x, u => RV E x u
 | .tup xs, u => ∃ us, u = .tuple us.toArray ∧ RVs E xs us
theorem RV.sub {N : Nat → Prop} (s : Sub E E' N) {x : V} (hn : ∀ k ∈ x.names, N k) (h : RV E x u) : RV E' x u := by
 cases x with
 | one c => exact RC.sub s (fun k hk => hn k (by simpa [V.names, V.cells, cnames] using hk)) h
 | agg cs => obtain ⟨us, hu, hr⟩ := h; exact ⟨us, hu, hr.sub s hn⟩
theorem RVs.sub {N : Nat → Prop} (s : Sub E E' N) : ∀ {xs : List V} {us : List Value}, (∀ k ∈ xs.flatMap V.names, N k) → RVs E xs us → RVs E' xs us
 | [], _, _, h => h
 | x :: xs, _, hn, h => by
  obtain ⟨u, us', rfl, h1, h2⟩ := h
  simp only [List.flatMap_cons, List.mem_append] at hn
  exact ⟨u, us', rfl, h1.sub s (fun k hk => hn k (.inl hk)), RVs.sub s (fun k hk => hn k (.inr hk)) h2⟩
theorem RSlot.sub {N : Nat → Prop} (s : Sub E E' N) {x : Slot} (hn : ∀ k ∈ x.names, N k) (h : RSlot E x u) : RSlot E' x u := by
 cases x with
 | v x => exact RV.sub s hn h
 | tup xs => obtain ⟨us, hu, hr⟩ := h; exact ⟨us, hu, hr.sub s hn⟩
theorem RV.cells {x : V} (h : RV E x u) : ∃ us, RCs E x.cells us ∧ u.cells = us.toArray := by
 cases x with
 | one c =>
  refine ⟨[u], ⟨u, [], rfl, h, rfl⟩, ?_⟩
  have := RC.one h
  cases u <;> first | rfl | (simp [Value.oneCell'] at this)
 | agg cs => obtain ⟨us, rfl, hr⟩ := h; exact ⟨us, hr, rfl⟩
structure Row where
 sz : Nat
 es : List (List Cell)
structure Heap where
 rows : Nat → Option Row
 boxes : Nat → Option (List Cell)
 base : Nat
 made : Nat → Bool
 lens : Nat → Option Nat
 hv : Nat → Option Value
structure St where
 slots : Nat → Option Slot
 H : Heap
structure Fix where
 w0 : World
 T : Nat → Prop
 S0 : Bool → Nat → Prop
 n : Nat
 ob : List Nat
 oh : List (V × Value)
def Heap.dropRow (H : Heap) (k : Nat) : Heap := { H with rows := upd H.rows k none }
def Heap.dropBox (H : Heap) (k : Nat) : Heap := { H with boxes := upd H.boxes k none }
def Heap.putBox (H : Heap) (k : Nat) (cs : List Cell) : Heap := { H with boxes := upd H.boxes k (some cs) }
def Heap.ownRow (H : Heap) (k : Nat) (r : Row) : Heap := { H with rows := upd H.rows k (some r), made := upd H.made k true }
def Heap.ownBox (H : Heap) (k : Nat) (cs : List Cell) : Heap := { H with boxes := upd H.boxes k (some cs), made := upd H.made k true }
def Heap.used (H : Heap) (k : Nat) : Bool := decide (k < H.base) || H.made k
structure Fr (w0 : World) (T : Nat → Prop) (w : World) : Prop where
 os : w.os = w0.os
 tape : w.tape = w0.tape
 output : w.output = w0.output
 size : w0.heap.size ≤ w.heap.size
 block : ∀ b, b < w0.heap.size → ¬ T b → w.heap[b]? = w0.heap[b]?
def Own (E : Env) (k b : Nat) : Prop := b ∈ E.ob k ∨ E.blk k = some b
def RowIn (E : Env) (h : Value) (r : Row) (bs : List Nat) : Prop :=
 (h = .slice none 0 0 ∧ r.es = [] ∧ bs = []) ∨ ∃ g cap bs', h = .slice (some ⟨g, 0, none⟩) r.es.length cap ∧ r.es.length ≤ cap ∧ E.w.there g 0 (cap * r.sz) ∧ RXRow E g 0 r.sz r.es bs' ∧ bs = g :: bs'
structure RowOk (E : Env) (k : Nat) (r : Row) : Prop where
 len : ∀ e ∈ r.es, e.length = r.sz
 flat : Flat r.es
 row : ∃ h, E.hdr k = some h ∧ E.sz k = r.sz ∧ RowIn E h r (E.ob k)
structure BoxOk (E : Env) (k : Nat) (cs : List Cell) : Prop where
 box : ∃ g us, E.blk k = some g ∧ RCs E cs us ∧ E.w.rangeAt g 0 us ∧ E.w.there g 0 cs.length
structure RelH (F : Fix) (H : Heap) (E : Env) : Prop where
 rows : ∀ k r, H.rows k = some r → RowOk E k r
 boxes : ∀ k cs, H.boxes k = some cs → BoxOk E k cs
 hdr0 : ∀ k, H.rows k = none → E.ob k = []
 blk0 : ∀ k, H.boxes k = none → E.blk k = none
 both : ∀ k, H.rows k = none ∨ E.blk k = none
 uniq : ∀ k k' b, Own E k b → Own E k' b → k = k'
 own : ∀ k b, Own E k b → (∀ g, ¬ E.S g b) ∧ b < E.w.heap.size ∧ (F.w0.heap.size ≤ b ∨ F.T b)
 S : ∀ g b, E.S g b → b < E.w.heap.size
 SS : ∀ b, E.S true b → E.S false b
 Ssub : ∀ g b, E.S g b → F.S0 g b ∨ F.w0.heap.size ≤ b ∨ F.T b
 Ssup : ∀ g b, F.S0 g b → E.S g b
 pt : ∀ k g, E.blk k = some g → E.pt k = some g
 fr : Fr F.w0 F.T E.w
 usedR : ∀ k, H.rows k ≠ none → H.used k = true
 usedB : ∀ k cs, H.boxes k = some cs → H.used k = true ∧ ∀ j ∈ cnames cs, H.used j = true
 nodup : ∀ k, (E.ob k).Nodup
 lens : ∀ k n, H.lens k = some n → H.used k = true ∧ ∃ a cap, E.hdr k = some (.slice a n cap)
 hv : ∀ k v, H.hv k = some v → H.used k = true ∧ E.hdr k = some v
variable {r : Row}
theorem RowIn.head {g cap : Nat} (h : RowIn E (.slice (some ⟨g, 0, none⟩) n cap) r bs) : g ∈ bs := by
 rcases h with ⟨h, _⟩ | ⟨g', cap', bs', h, _, _, _, rfl⟩
 ·cases h
 ·cases h; simp
structure RelS (F : Fix) (sl : Nat → Option Slot) (H : Heap) (a : Act) (E : Env) : Prop where
 size : a.tmps.size = F.n
 defers : a.defers = []
 slots : ∀ t s, sl t = some s → RSlot E s (a.tmps.getD t undef)
 used : ∀ t s, sl t = some s → ∀ k ∈ s.names, H.used k = true
def Pin (F : Fix) (H : Heap) (E : Env) : Prop := (∀ k, k < F.ob.length → H.used k = true ∧ ∀ g, E.pt k = some g → F.ob[k]? = some g) ∧ ∀ p ∈ F.oh, RV E p.1 p.2 ∧ ∀ k ∈ p.1.names, H.used k = true
variable {H' : Heap} {F : Fix}
theorem Pin.sub {H : Heap} (h : Pin F H E) (s : Sub E E' (fun k => H.used k = true)) (hu : ∀ k, H.used k = true → H'.used k = true) : Pin F H' E' :=
 ⟨fun k hk => ⟨hu k (h.1 k hk).1, fun g hg => (h.1 k hk).2 g (s.pt k (h.1 k hk).1 g hg)⟩, fun p hp => ⟨(h.2 p hp).1.sub s (h.2 p hp).2, fun k hk => hu k ((h.2 p hp).2 k hk)⟩⟩
def Rel (F : Fix) (σ : St) (a : Act) (w : World) : Prop := ∃ E : Env, E.w = w ∧ RelH F σ.H E ∧ RelS F σ.slots σ.H a E ∧ Pin F σ.H E
variable {sl : Nat → Option Slot}
theorem RelS.put {H : Heap} {a : Act} (h : RelS F sl H a E) (s : Sub E E' (fun k => H.used k = true))
  (hu : ∀ k, H.used k = true → H'.used k = true) {d : Nat} {x : Slot} (hd : d < F.n) (hx : RSlot E' x u) (hn : ∀ k ∈ x.names, H'.used k = true) :
  RelS F (upd sl d (some x)) H' (a.put (some d) u) E' := by
 refine ⟨by simp [Act.put, h.size], h.defers, fun t y hy => ?_, fun t y hy k hk => ?_⟩
 ·by_cases e : t = d
  ·subst e
   rw [upd_same] at hy; cases hy
   have : t < a.tmps.size := by rw [h.size]; exact hd
   simp only [Act.put, Array.getD_eq_getD_getElem?, Array.getElem?_setIfInBounds_self_of_lt this, Option.getD_some]
   exact hx
  ·rw [upd_other _ _ e] at hy
   have := (h.slots t y hy).sub s (h.used t y hy)
   simpa [Act.put, Array.getD_eq_getD_getElem?, Array.getElem?_setIfInBounds_ne (Ne.symm e)] using this
 ·by_cases e : t = d
  ·subst e
   rw [upd_same] at hy; cases hy
   exact hn k hk
  ·rw [upd_other _ _ e] at hy
   exact hu k (h.used t y hy k hk)
theorem RelS.keep {H : Heap} {a : Act} (h : RelS F sl H a E) (s : Sub E E' (fun k => H.used k = true))
  (hu : ∀ k, H.used k = true → H'.used k = true) : RelS F sl H' a E' :=
 ⟨h.size, h.defers, fun t y hy => (h.slots t y hy).sub s (h.used t y hy), fun t y hy k hk => hu k (h.used t y hy k hk)⟩
theorem Sub.refl (E : Env) (N : Nat → Prop) : Sub E E N := ⟨fun _ _ h => h, fun _ _ _ => rfl, fun _ _ => rfl, fun _ _ _ h => h, fun _ _ _ _ => rfl⟩
structure Chg (F : Fix) (E : Env) (w' : World) : Prop where
 os : w'.os = E.w.os
 tape : w'.tape = E.w.tape
 output : w'.output = E.w.output
 size : E.w.heap.size ≤ w'.heap.size
 block : ∀ b, b < E.w.heap.size → w'.heap[b]? ≠ E.w.heap[b]? → (∀ g, ¬ E.S g b) ∧ (∀ k, ¬ Own E k b) ∧ (F.w0.heap.size ≤ b ∨ F.T b)
theorem Chg.at_ (c : Chg F E w') {b : Nat} (hb : b < E.w.heap.size) (h : (∃ g, E.S g b) ∨ ∃ k, Own E k b) : w'.heap[b]? = E.w.heap[b]? := by
 refine Classical.byContradiction fun hne => ?_
 obtain ⟨h1, h2, _⟩ := c.block b hb hne
 rcases h with ⟨g, hg⟩ | ⟨k, hk⟩
 ·exact h1 g hg
 ·exact h2 k hk
theorem Fr.chg (h : Fr F.w0 F.T E.w) (c : Chg F E w') : Fr F.w0 F.T w' := by
 refine ⟨c.os.trans h.os, c.tape.trans h.tape, c.output.trans h.output, Nat.le_trans h.size c.size, fun b hb hT => ?_⟩
 rw [← h.block b hb hT]
 refine Classical.byContradiction fun hne => ?_
 have := (c.block b (Nat.lt_of_lt_of_le hb h.size) hne).2.2
 rcases this with h1 | h1
 ·omega
 ·exact hT h1
theorem Sub.chg {H : Heap} (h : RelH F H E) (c : Chg F E w') (N : Nat → Prop) : Sub E { E with w := w' } N :=
 ⟨fun _ _ h => h, fun g b hS => c.at_ (h.S g b hS) (.inl ⟨g, hS⟩), fun _ _ => rfl, fun _ _ _ h => h, fun _ _ _ _ => rfl⟩
variable {hd : Value}
theorem RowIn.chg {N : Nat → Prop} (s : Sub E E' N) (hf : Flat r.es) (hb : ∀ g ∈ bs, E'.w.heap[g]? = E.w.heap[g]?) (h : RowIn E hd r bs) : RowIn E' hd r bs := by
 rcases h with h | ⟨g, cap, bs', h1, h2, h3, h4, h5⟩
 ·exact .inl h
 ·subst h5
  have hg := hb g (by simp)
  exact .inr ⟨g, cap, bs', h1, h2, there_of_block hg h3, RXRow.sub s hg (fun x hx => hb x (by simp [hx])) (fun k hk => by rw [hf.2] at hk; cases hk) h4, rfl⟩
theorem RelH.chg {H : Heap} (h : RelH F H E) (c : Chg F E w') : RelH F H { E with w := w' } := by
 have s := fun N => Sub.chg h c N
 refine ⟨fun k r hr => ?_, fun k cs hc => ?_, h.hdr0, h.blk0, h.both, h.uniq, fun k b hb => ?_, fun g b hb => Nat.lt_of_lt_of_le (h.S g b hb) c.size, h.SS, h.Ssub, h.Ssup, h.pt, h.fr.chg c, h.usedR, h.usedB, h.nodup, h.lens, h.hv⟩
 ·obtain ⟨h1, h2, hd, h3, h4, h5⟩ := h.rows k r hr
  exact ⟨h1, h2, hd, h3, h4, RowIn.chg (s fun _ => True) h2 (fun g hg => c.at_ (h.own k g (.inl hg)).2.1 (.inr ⟨k, .inl hg⟩)) h5⟩
 ·obtain ⟨g, us, h1, h2, h3, h4⟩ := h.boxes k cs hc
  have hg : w'.heap[g]? = E.w.heap[g]? := c.at_ (h.own k g (.inr h1)).2.1 (.inr ⟨k, .inr h1⟩)
  exact ⟨g, us, h1, h2.sub (s fun _ => True) (fun _ _ => trivial), rangeAt_of_block hg h3, there_of_block hg h4⟩
 ·obtain ⟨h1, h2, h3⟩ := h.own k b hb
  exact ⟨h1, Nat.lt_of_lt_of_le h2 c.size, h3⟩
def Env.rowAt (E : Env) (k : Nat) (hd : Value) (sz : Nat) (bs : List Nat) : Env := { E with hdr := upd E.hdr k (some hd), sz := upd E.sz k sz, ob := upd E.ob k bs }
def Heap.addRow (H : Heap) (k : Nat) (r : Row) : Heap := { H with rows := upd H.rows k (some r), made := upd H.made k true }
theorem Heap.addRow_used {H : Heap} (j : Nat) (hj : H.used j = true) : (H.addRow k r).used j = true := by
 by_cases e : j = k
 ·subst e; simp [Heap.used, Heap.addRow, upd_same]
 ·simp only [Heap.used, Heap.addRow, upd_other _ _ e]; exact hj
theorem Sub.newRow {H : Heap} (hk : H.used k = false) : Sub E (E.rowAt k hd sz bs) (fun k => H.used k = true) := by
 have hne : ∀ j, H.used j = true → j ≠ k := fun j hj e => by subst e; simp [hk] at hj
 exact ⟨fun _ _ h => h, fun _ _ _ => rfl, fun j hj => upd_other _ _ (hne j hj), fun _ _ _ h => h, fun j hj v hv => upd_other _ _ (hne j hj)⟩
theorem Sub.oldRow (h1 : E.hdr k = some hd) (h2 : E.sz k = sz) (N : Nat → Prop) : Sub E (E.rowAt k hd sz bs) N := by
 refine ⟨fun _ _ h => h, fun _ _ _ => rfl, fun j _ => ?_, fun _ _ _ h => h, fun j _ v hv => ?_⟩
 ·by_cases e : j = k
  ·subst e; simp [Env.rowAt, upd_same, h1]
  ·exact upd_other _ _ e
 ·by_cases e : j = k
  ·subst e; simp [Env.rowAt, upd_same, h2]
  ·exact upd_other _ _ e
theorem RelH.putRow {H : Heap} (h : RelH F H E) (hkr : H.rows k = none) (hkb : H.boxes k = none) (hl : ∀ e ∈ r.es, e.length = r.sz) (hf : Flat r.es)
  (hin : RowIn E hd r bs) (hnd : bs.Nodup) (hg : ∀ g ∈ bs, (∀ c, ¬ E.S c g) ∧ (∀ k, ¬ Own E k g) ∧ g < E.w.heap.size ∧ (F.w0.heap.size ≤ g ∨ F.T g))
  (s : Sub E (E.rowAt k hd r.sz bs) (fun k => H.used k = true)) (hrk : ∀ v, H.hv k = some v → hd = v) (hlk : ∀ n, H.lens k = some n → ∃ a cap, hd = .slice a n cap) : RelH F (H.addRow k r) (E.rowAt k hd r.sz bs) := by
 have hku := fun j hj => Heap.addRow_used (H := H) (k := k) (r := r) j hj
 have hown : ∀ j b, Own (E.rowAt k hd r.sz bs) j b → (j ≠ k ∧ Own E j b) ∨ (j = k ∧ b ∈ bs) := by
  intro j b hj
  by_cases e : j = k
  ·subst e
   rcases hj with hj | hj
   ·simp only [Env.rowAt, upd_same] at hj; exact .inr ⟨rfl, hj⟩
   ·have := h.blk0 j hkb
    simp only [Env.rowAt] at hj
    rw [this] at hj; cases hj
  ·refine .inl ⟨e, ?_⟩
   rcases hj with hj | hj
   ·exact .inl (by simpa only [Env.rowAt, upd_other _ _ e] using hj)
   ·exact .inr hj
 refine ⟨fun j q hq => ?_, fun j cs hc => ?_, fun j hj => ?_, h.blk0, fun j => ?_, fun j j' b hj hj' => ?_, fun j b hj => ?_, h.S, h.SS, h.Ssub, h.Ssup, h.pt, h.fr, fun j hj => ?_, fun j cs hc => ?_, fun j => ?_, fun j n hn => ?_, fun j v hv => ?_⟩
 ·by_cases e : j = k
  ·subst e
   simp only [Heap.addRow, upd_same] at hq; cases hq
   refine ⟨hl, hf, hd, by simp [Env.rowAt, upd_same], by simp [Env.rowAt, upd_same], ?_⟩
   simp only [Env.rowAt, upd_same]
   exact hin.chg s hf (fun _ _ => rfl)
  ·simp only [Heap.addRow, upd_other _ _ e] at hq
   obtain ⟨h1, h2, hd', h3, h4, h5⟩ := h.rows j q hq
   exact ⟨h1, h2, hd', by simpa only [Env.rowAt, upd_other _ _ e] using h3, by simpa only [Env.rowAt, upd_other _ _ e] using h4, by simp only [Env.rowAt, upd_other _ _ e]; exact RowIn.chg s h2 (fun _ _ => rfl) h5⟩
 ·obtain ⟨g, us, h1, h2, h3, h4⟩ := h.boxes j cs hc
  exact ⟨g, us, h1, h2.sub s ((h.usedB j cs hc).2), h3, h4⟩
 ·by_cases e : j = k
  ·subst e; simp [Heap.addRow, upd_same] at hj
  ·simp only [Heap.addRow, Env.rowAt, upd_other _ _ e] at hj ⊢; exact h.hdr0 j hj
 ·by_cases e : j = k
  ·subst e; exact .inr (h.blk0 j hkb)
  ·simp only [Heap.addRow, Env.rowAt, upd_other _ _ e]; exact h.both j
 ·rcases hown j b hj with ⟨e, o⟩ | ⟨e, o⟩ <;> rcases hown j' b hj' with ⟨e', o'⟩ | ⟨e', o'⟩
  ·exact h.uniq j j' b o o'
  ·exact absurd o ((hg b o').2.1 j)
  ·exact absurd o' ((hg b o).2.1 j')
  ·rw [e, e']
 ·rcases hown j b hj with ⟨e, o⟩ | ⟨e, o⟩
  ·exact h.own j b o
  ·exact ⟨(hg b o).1, (hg b o).2.2.1, (hg b o).2.2.2⟩
 ·by_cases e : j = k
  ·subst e; simp [Heap.used, Heap.addRow, upd_same]
  ·simp only [Heap.addRow, upd_other _ _ e] at hj; exact hku j (h.usedR j hj)
 ·exact ⟨hku j (h.usedB j cs hc).1, fun i hi => hku i ((h.usedB j cs hc).2 i hi)⟩
 ·by_cases e : j = k
  ·subst e; simpa [Env.rowAt, upd_same] using hnd
  ·simp only [Env.rowAt, upd_other _ _ e]; exact h.nodup j
 ·obtain ⟨h1, h2⟩ := h.lens j n hn
  refine ⟨hku j h1, ?_⟩
  by_cases e : j = k
  ·subst e; simp only [Env.rowAt, upd_same, Option.some.injEq]; exact hlk n hn
  ·simp only [Env.rowAt, upd_other _ _ e]; exact h2
 ·obtain ⟨h1, h2⟩ := h.hv j v hv
  refine ⟨hku j h1, ?_⟩
  by_cases e : j = k
  ·subst e; simp only [Env.rowAt, upd_same, Option.some.injEq]; exact hrk v hv
  ·simp only [Env.rowAt, upd_other _ _ e]; exact h2
theorem RelH.addRow {H : Heap} (h : RelH F H E) (hk : H.used k = false) (hl : ∀ e ∈ r.es, e.length = r.sz) (hf : Flat r.es)
  (hin : RowIn E hd r bs) (hnd : bs.Nodup) (hg : ∀ g ∈ bs, (∀ c, ¬ E.S c g) ∧ (∀ k, ¬ Own E k g) ∧ g < E.w.heap.size ∧ (F.w0.heap.size ≤ g ∨ F.T g)) :
  RelH F { H with rows := upd H.rows k (some r), made := upd H.made k true } (E.rowAt k hd r.sz bs) ∧ Sub E (E.rowAt k hd r.sz bs) (fun k => H.used k = true) := by
 have hkr : H.rows k = none := by
  refine Classical.byContradiction fun hne => ?_
  have := h.usedR k hne; simp [hk] at this
 have hkb : H.boxes k = none := by
  cases hb : H.boxes k with
  | none => rfl
  | some cs => have := (h.usedB k cs hb).1; simp [hk] at this
 exact ⟨h.putRow hkr hkb hl hf hin hnd hg (Sub.newRow hk) (fun v hv => by have := (h.hv k v hv).1; simp [hk] at this) (fun n hn => by have := (h.lens k n hn).1; simp [hk] at this), Sub.newRow hk⟩
theorem RelH.addBox {H : Heap} (h : RelH F H E) {cs : List Cell} {g : Nat} (hk : H.used k = false) (hr : RCs E cs us) (hn : ∀ j ∈ cnames cs, H.used j = true)
  (hat : E.w.rangeAt g 0 us) (hth : E.w.there g 0 cs.length) (hg : (∀ c, ¬ E.S c g) ∧ (∀ k, ¬ Own E k g) ∧ g < E.w.heap.size ∧ (F.w0.heap.size ≤ g ∨ F.T g)) :
  RelH F { H with boxes := upd H.boxes k (some cs), made := upd H.made k true } { E with blk := upd E.blk k (some g), pt := upd E.pt k (some g) } ∧
  Sub E { E with blk := upd E.blk k (some g), pt := upd E.pt k (some g) } (fun k => H.used k = true) := by
 have s : Sub E { E with blk := upd E.blk k (some g), pt := upd E.pt k (some g) } (fun k => H.used k = true) := by
  refine ⟨fun _ _ h => h, fun _ _ _ => rfl, fun _ _ => rfl, fun j hj v hv => ?_, fun _ _ _ _ => rfl⟩
  have : j ≠ k := fun e => by subst e; simp [hk] at hj
  simpa only [upd_other _ _ this] using hv
 have hku : ∀ j, H.used j = true → Heap.used { H with boxes := upd H.boxes k (some cs), made := upd H.made k true } j = true := by
  intro j hj
  by_cases e : j = k
  ·subst e; simp [Heap.used, upd_same]
  ·simpa [Heap.used, upd_other _ _ e] using hj
 have hkr : H.rows k = none := by
  refine Classical.byContradiction fun hne => ?_
  have := h.usedR k hne; simp [hk] at this
 have hown : ∀ j b, Own { E with blk := upd E.blk k (some g), pt := upd E.pt k (some g) } j b → (j ≠ k ∧ Own E j b) ∨ (j = k ∧ b = g) := by
  intro j b hj
  by_cases e : j = k
  ·subst e
   rcases hj with hj | hj
   ·simp only at hj; rw [h.hdr0 j hkr] at hj; cases hj
   ·simp only [upd_same] at hj; exact .inr ⟨rfl, by simpa using hj.symm⟩
  ·refine .inl ⟨e, ?_⟩
   rcases hj with hj | hj
   ·exact .inl hj
   ·exact .inr (by simpa only [upd_other _ _ e] using hj)
 refine ⟨⟨fun j q hq => ?_, fun j ds hc => ?_, h.hdr0, fun j hj => ?_, fun j => ?_, fun j j' b hj hj' => ?_, fun j b hj => ?_, h.S, h.SS, h.Ssub, h.Ssup, fun j v hv => ?_, h.fr, fun j hj => ?_, fun j ds hc => ?_, h.nodup, fun j n hn => ⟨hku j (h.lens j n hn).1, (h.lens j n hn).2⟩, fun j n hn => ⟨hku j (h.hv j n hn).1, (h.hv j n hn).2⟩⟩, s⟩
 ·obtain ⟨h1, h2, hd', h3, h4, h5⟩ := h.rows j q hq
  exact ⟨h1, h2, hd', h3, h4, RowIn.chg s h2 (fun _ _ => rfl) h5⟩
 ·by_cases e : j = k
  ·subst e
   simp only [upd_same] at hc; cases hc
   exact ⟨g, us, by simp [upd_same], hr.sub s hn, hat, hth⟩
  ·simp only [upd_other _ _ e] at hc
   obtain ⟨g', us', h1, h2, h3, h4⟩ := h.boxes j ds hc
   exact ⟨g', us', by simpa only [upd_other _ _ e] using h1, h2.sub s ((h.usedB j ds hc).2), h3, h4⟩
 ·by_cases e : j = k
  ·subst e; simp [upd_same] at hj
  ·simp only [upd_other _ _ e] at hj ⊢; exact h.blk0 j hj
 ·by_cases e : j = k
  ·subst e; exact .inl hkr
  ·simp only [upd_other _ _ e]; exact h.both j
 ·rcases hown j b hj with ⟨e, o⟩ | ⟨e, o⟩ <;> rcases hown j' b hj' with ⟨e', o'⟩ | ⟨e', o'⟩
  ·exact h.uniq j j' b o o'
  ·subst o'; exact absurd o (hg.2.1 j)
  ·subst o; exact absurd o' (hg.2.1 j')
  ·rw [e, e']
 ·rcases hown j b hj with ⟨e, o⟩ | ⟨e, o⟩
  ·exact h.own j b o
  ·subst o; exact ⟨hg.1, hg.2.2.1, hg.2.2.2⟩
 ·by_cases e : j = k
  ·subst e; simp only [upd_same] at hv ⊢; exact hv
  ·simp only [upd_other _ _ e] at hv ⊢; exact h.pt j v hv
 ·exact hku j (h.usedR j hj)
 ·by_cases e : j = k
  ·subst e
   simp only [upd_same] at hc; cases hc
   exact ⟨by simp [Heap.used, upd_same], fun i hi => hku i (hn i hi)⟩
  ·simp only [upd_other _ _ e] at hc
   exact ⟨hku j (h.usedB j ds hc).1, fun i hi => hku i ((h.usedB j ds hc).2 i hi)⟩
structure Only (w w' : World) (g : Nat) : Prop where
 os : w'.os = w.os
 tape : w'.tape = w.tape
 output : w'.output = w.output
 size : w'.heap.size = w.heap.size
 block : ∀ b, b ≠ g → w'.heap[b]? = w.heap[b]?
theorem Fr.only {g : Nat} (h : Fr F.w0 F.T w) (c : Only w w' g) (hg : F.w0.heap.size ≤ g ∨ F.T g) : Fr F.w0 F.T w' := by
 refine ⟨c.os.trans h.os, c.tape.trans h.tape, c.output.trans h.output, by rw [c.size]; exact h.size, fun b hb hT => ?_⟩
 rw [c.block b (fun e => by subst e; exact hg.elim (fun h1 => by omega) hT)]
 exact h.block b hb hT
theorem Sub.only {g : Nat} (c : Only E.w w' g) (hg : ∀ k, ¬ E.S k g) (N : Nat → Prop) : Sub E { E with w := w' } N :=
 ⟨fun _ _ h => h, fun k b hS => c.block b (fun e => hg k (e ▸ hS)), fun _ _ => rfl, fun _ _ _ h => h, fun _ _ _ _ => rfl⟩
variable {j : Nat}
theorem Own.set {b : Nat} (h : Own { E with w := w', ob := upd E.ob k bs } j b) : (j = k ∧ b ∈ bs) ∨ Own E j b := by
 rcases h with h | h
 ·by_cases e : j = k
  ·subst e; simp only [upd_same] at h; exact .inl ⟨rfl, h⟩
  ·simp only [upd_other _ _ e] at h; exact .inr (.inl h)
 ·exact .inr (.inr h)
variable {cs' : List Cell}
theorem RelH.setBox {H : Heap} (h : RelH F H E) {g : Nat} {cs : List Cell} {us' : List Value} (hk : H.boxes k = some cs) (hb : E.blk k = some g) (c : Only E.w w' g)
  (hr : RCs E cs' us') (hn : ∀ j ∈ cnames cs', H.used j = true) (hat : w'.rangeAt g 0 us') (hth : w'.there g 0 cs'.length) :
  RelH F { H with boxes := upd H.boxes k (some cs') } { E with w := w' } ∧ Sub E { E with w := w' } (fun k => H.used k = true) := by
 have ho := h.own k g (.inr hb)
 have s := fun N => Sub.only c ho.1 N
 have hku : ∀ j, Heap.used { H with boxes := upd H.boxes k (some cs') } j = H.used j := fun j => rfl
 refine ⟨⟨fun j q hq => ?_, fun j ds hc => ?_, h.hdr0, fun j hj => ?_, h.both, h.uniq, fun j b hj => ?_, fun x b hS => by rw [c.size]; exact h.S x b hS, h.SS, h.Ssub, h.Ssup, h.pt, h.fr.only c ho.2.2, h.usedR, fun j ds hc => ?_, h.nodup, h.lens, h.hv⟩, s _⟩
 ·obtain ⟨h1, h2, hd', h3, h4, h5⟩ := h.rows j q hq
  refine ⟨h1, h2, hd', h3, h4, h5.chg (s fun _ => True) h2 (fun b hbj => c.block b fun e' => ?_)⟩
  subst e'
  have := h.uniq j k b (.inl hbj) (.inr hb)
  subst this
  rcases h.both j with e1 | e1
  ·rw [hq] at e1; cases e1
  ·rw [hb] at e1; cases e1
 ·by_cases e : j = k
  ·subst e
   simp only [upd_same] at hc; cases hc
   exact ⟨g, us', hb, hr.sub (s fun _ => True) (fun _ _ => trivial), hat, hth⟩
  ·simp only [upd_other _ _ e] at hc
   obtain ⟨g', us, h1, h2, h3, h4⟩ := h.boxes j ds hc
   have hg' : w'.heap[g']? = E.w.heap[g']? := c.block g' fun e' => e (h.uniq j k g' (.inr h1) (.inr (by rw [e', hb])))
   exact ⟨g', us, h1, h2.sub (s fun _ => True) (fun _ _ => trivial), rangeAt_of_block hg' h3, there_of_block hg' h4⟩
 ·by_cases e : j = k
  ·subst e; simp [upd_same] at hj
  ·simp only [upd_other _ _ e] at hj; exact h.blk0 j hj
 ·have := h.own j b hj; exact ⟨this.1, by rw [c.size]; exact this.2.1, this.2.2⟩
 ·by_cases e : j = k
  ·subst e
   simp only [upd_same] at hc; cases hc
   exact ⟨(h.usedB j cs hk).1, hn⟩
  ·simp only [upd_other _ _ e] at hc; exact h.usedB j ds hc
theorem RelH.setRow {H : Heap} (h : RelH F H E) {g cap : Nat} {r' : Row} (hk : H.rows k = some r) (hb : E.hdr k = some (.slice (some ⟨g, 0, none⟩) n cap)) (c : Only E.w w' g)
  (hl : r'.es.length = r.es.length) (hsz : r'.sz = r.sz) (hle : ∀ e ∈ r'.es, e.length = r'.sz) (hf : Flat r'.es) (hth : w'.there g 0 (cap * r.sz)) (hrow : RXRow { E with w := w' } g 0 r'.sz r'.es bs)
  (hnd : (g :: bs).Nodup) (hbs : ∀ b ∈ bs, b ∈ E.ob k ∨ ((∀ c, ¬ E.S c b) ∧ (∀ j, ¬ Own E j b) ∧ b < E.w.heap.size ∧ (F.w0.heap.size ≤ b ∨ F.T b))) :
  RelH F { H with rows := upd H.rows k (some r') } { E with w := w', ob := upd E.ob k (g :: bs) } ∧ Sub E { E with w := w', ob := upd E.ob k (g :: bs) } (fun k => H.used k = true) := by
 have hg : g ∈ E.ob k := by
  obtain ⟨_, _, hd', h3, _, h5⟩ := h.rows k r hk
  rw [hb] at h3; cases h3; exact h5.head
 have ho := h.own k g (.inl hg)
 have s : ∀ N, Sub E { E with w := w', ob := upd E.ob k (g :: bs) } N := fun N => by
  have := Sub.only c ho.1 N
  exact ⟨this.S, this.mem, this.hdrE, this.pt, this.sz⟩
 have hin : ∀ b ∈ g :: bs, b ∈ E.ob k ∨ ((∀ c, ¬ E.S c b) ∧ (∀ j, ¬ Own E j b) ∧ b < E.w.heap.size ∧ (F.w0.heap.size ≤ b ∨ F.T b)) := fun b hb => by
  rcases List.mem_cons.1 hb with rfl | hb
  ·exact .inl hg
  ·exact hbs b hb
 refine ⟨⟨fun j q hq => ?_, fun j ds hc => ?_, fun j hj => ?_, h.blk0, fun j => ?_, fun j j' b hj hj' => ?_, fun j b hj => ?_, fun x b hS => by rw [c.size]; exact h.S x b hS, h.SS, h.Ssub, h.Ssup, h.pt, h.fr.only c ho.2.2, fun j hj => ?_, h.usedB, fun j => ?_, h.lens, h.hv⟩, s _⟩
 ·by_cases e : j = k
  ·subst e
   simp only [upd_same] at hq; cases hq
   obtain ⟨h1, h2, hd', h3, h4, h5⟩ := h.rows j r hk
   rw [hb] at h3; cases h3
   refine ⟨hle, hf, _, hb, by rw [hsz]; exact h4, ?_⟩
   simp only [upd_same]
   rcases h5 with ⟨h6, _⟩ | ⟨g', cap', bs', h6, h7, h8, h9, h10⟩
   ·cases h6
   ·cases h6
    refine .inr ⟨g, cap, bs, by rw [hl], by rw [hl]; exact h7, by rw [hsz]; exact hth, ?_, rfl⟩
    exact RXRow.sub (E := { E with w := w' }) (E' := { E with w := w', ob := upd E.ob j (g :: bs) }) (N := fun _ => True) ⟨fun _ _ h => h, fun _ _ _ => rfl, fun _ _ => rfl, fun _ _ _ h => h, fun _ _ _ _ => rfl⟩ rfl (fun _ _ => rfl) (fun _ _ => trivial) hrow
  ·simp only [upd_other _ _ e] at hq
   obtain ⟨h1, h2, hd', h3, h4, h5⟩ := h.rows j q hq
   refine ⟨h1, h2, hd', h3, h4, ?_⟩
   simp only [upd_other _ _ e]
   exact h5.chg (s fun _ => True) h2 (fun b hbj => c.block b fun e' => e (h.uniq j k b (.inl hbj) (.inl (e' ▸ hg))))
 ·obtain ⟨g', us, h1, h2, h3, h4⟩ := h.boxes j ds hc
  have hg' : w'.heap[g']? = E.w.heap[g']? := c.block g' fun e' => by
   subst e'
   have := h.uniq j k g' (.inr h1) (.inl hg)
   subst this
   rcases h.both j with e1 | e1
   ·rw [hk] at e1; cases e1
   ·rw [h1] at e1; cases e1
  exact ⟨g', us, h1, h2.sub (s fun _ => True) (fun _ _ => trivial), rangeAt_of_block hg' h3, there_of_block hg' h4⟩
 ·by_cases e : j = k
  ·subst e; simp [upd_same] at hj
  ·simp only [upd_other _ _ e] at hj ⊢; exact h.hdr0 j hj
 ·by_cases e : j = k
  ·subst e
   rcases h.both j with e1 | e1
   ·rw [hk] at e1; cases e1
   ·exact .inr e1
  ·simp only [upd_other _ _ e]; exact h.both j
 ·rcases Own.set hj with ⟨e1, o1⟩ | o1 <;> rcases Own.set hj' with ⟨e2, o2⟩ | o2
  ·rw [e1, e2]
  ·rcases hin b o1 with h1 | h1
   ·rw [e1]; exact h.uniq k j' b (.inl h1) o2
   ·exact absurd o2 (h1.2.1 j')
  ·rcases hin b o2 with h1 | h1
   ·rw [e2]; exact h.uniq j k b o1 (.inl h1)
   ·exact absurd o1 (h1.2.1 j)
  ·exact h.uniq j j' b o1 o2
 ·have key : (∀ g, ¬ E.S g b) ∧ b < E.w.heap.size ∧ (F.w0.heap.size ≤ b ∨ F.T b) := by
   rcases Own.set hj with ⟨e1, o1⟩ | o1
   ·rcases hin b o1 with h1 | h1
    ·exact h.own k b (.inl h1)
    ·exact ⟨h1.1, h1.2.2⟩
   ·exact h.own j b o1
  exact ⟨key.1, by rw [c.size]; exact key.2.1, key.2.2⟩
 ·by_cases e : j = k
  ·subst e; exact h.usedR j (by rw [hk]; simp)
  ·simp only [upd_other _ _ e] at hj; exact h.usedR j hj
 ·by_cases e : j = k
  ·subst e; simpa only [upd_same] using hnd
  ·simp only [upd_other _ _ e]; exact h.nodup j
def Env.gone (E : Env) (k : Nat) : Env := { E with ob := upd E.ob k [] }
theorem Own.drop {b : Nat} (h : Own (E.gone k) j b) : Own E j b := by
 rcases h with h | h
 ·by_cases e : j = k
  ·subst e; simp [Env.gone, upd_same] at h
  ·exact .inl (by simpa only [Env.gone, upd_other _ _ e] using h)
 ·exact .inr h
theorem RelH.dropRow {H : Heap} (h : RelH F H E) (k : Nat) :
  RelH F { H with rows := upd H.rows k none } (E.gone k) ∧ Sub E (E.gone k) (fun k => H.used k = true) := by
 have s : ∀ N, Sub E (E.gone k) N := fun N => ⟨fun _ _ h => h, fun _ _ _ => rfl, fun _ _ => rfl, fun _ _ _ h => h, fun _ _ _ _ => rfl⟩
 refine ⟨⟨fun j q hq => ?_, fun j ds hc => ?_, fun j hj => ?_, h.blk0, fun j => ?_, fun j j' b hj hj' => h.uniq j j' b hj.drop hj'.drop, fun j b hj => h.own j b hj.drop, h.S, h.SS, h.Ssub, h.Ssup, h.pt, h.fr, fun j hj => ?_, h.usedB, fun j => ?_, h.lens, h.hv⟩, s _⟩
 ·by_cases e : j = k
  ·subst e; simp [upd_same] at hq
  ·simp only [upd_other _ _ e] at hq
   obtain ⟨h1, h2, hd', h3, h4, h5⟩ := h.rows j q hq
   exact ⟨h1, h2, hd', h3, h4, by simp only [Env.gone, upd_other _ _ e]; exact h5.chg (s fun _ => True) h2 (fun _ _ => rfl)⟩
 ·obtain ⟨g', us, h1, h2, h3, h4⟩ := h.boxes j ds hc
  exact ⟨g', us, h1, h2.sub (s fun _ => True) (fun _ _ => trivial), h3, h4⟩
 ·by_cases e : j = k
  ·subst e; simp [Env.gone, upd_same]
  ·simp only [Env.gone, upd_other _ _ e] at hj ⊢; exact h.hdr0 j hj
 ·by_cases e : j = k
  ·subst e; simp [upd_same]
  ·simp only [Env.gone, upd_other _ _ e]; exact h.both j
 ·by_cases e : j = k
  ·subst e; simp [upd_same] at hj
  ·simp only [upd_other _ _ e] at hj; exact h.usedR j hj
 ·by_cases e : j = k
  ·subst e; simp [Env.gone, upd_same]
  ·simp only [Env.gone, upd_other _ _ e]; exact h.nodup j
theorem RelH.setLen {H : Heap} (h : RelH F H E) (hu : H.used k = true) (hn : ∃ a cap, E.hdr k = some (.slice a n cap)) : RelH F { H with lens := upd H.lens k (some n) } E :=
 ⟨h.rows, h.boxes, h.hdr0, h.blk0, h.both, h.uniq, h.own, h.S, h.SS, h.Ssub, h.Ssup, h.pt, h.fr, h.usedR, h.usedB, h.nodup, fun j m hm => by
  by_cases e : j = k
  ·subst e; simp only [upd_same, Option.some.injEq] at hm; subst hm; exact ⟨hu, hn⟩
  ·simp only [upd_other _ _ e] at hm; exact h.lens j m hm, h.hv⟩
theorem RelH.dropped {H : Heap} (h : RelH F H E) {g : Nat} (hr : H.rows k = some r) (hb : g ∈ E.ob k) :
  (∀ c, ¬ E.S c g) ∧ (∀ j, ¬ Own (E.gone k) j g) ∧ g < E.w.heap.size ∧ (F.w0.heap.size ≤ g ∨ F.T g) := by
 have ho := h.own k g (.inl hb)
 refine ⟨ho.1, fun j hj => ?_, ho.2.1, ho.2.2⟩
 have := h.uniq j k g hj.drop (.inl hb)
 subst this
 rcases hj with hj | hj
 ·simp [Env.gone, upd_same] at hj
 ·rcases h.both j with e1 | e1
  ·rw [hr] at e1; cases e1
  ·simp only [Env.gone] at hj; rw [hj] at e1; cases e1
theorem Own.dropB {b : Nat} (h : Own { E with blk := upd E.blk k none } j b) : Own E j b := by
 rcases h with h | h
 ·exact .inl h
 ·by_cases e : j = k
  ·subst e; simp [upd_same] at h
  ·exact .inr (by simpa only [upd_other _ _ e] using h)
theorem RelH.dropBox {H : Heap} (h : RelH F H E) (k : Nat) :
  RelH F { H with boxes := upd H.boxes k none } { E with blk := upd E.blk k none } ∧ Sub E { E with blk := upd E.blk k none } (fun k => H.used k = true) := by
 have s : ∀ N, Sub E { E with blk := upd E.blk k none } N := fun N => by
  exact ⟨fun _ _ h => h, fun _ _ _ => rfl, fun _ _ => rfl, fun _ _ _ h => h, fun _ _ _ _ => rfl⟩
 refine ⟨⟨fun j q hq => ?_, fun j ds hc => ?_, h.hdr0, fun j hj => ?_, fun j => ?_, fun j j' b hj hj' => h.uniq j j' b hj.dropB hj'.dropB, fun j b hj => h.own j b hj.dropB, h.S, h.SS, h.Ssub, h.Ssup, fun j v hv => ?_, h.fr, h.usedR, fun j ds hc => ?_, h.nodup, h.lens, h.hv⟩, s _⟩
 ·obtain ⟨h1, h2, hd', h3, h4, h5⟩ := h.rows j q hq
  exact ⟨h1, h2, hd', h3, h4, h5.chg (s fun _ => True) h2 (fun _ _ => rfl)⟩
 ·by_cases e : j = k
  ·subst e; simp [upd_same] at hc
  ·simp only [upd_other _ _ e] at hc
   obtain ⟨g', us, h1, h2, h3, h4⟩ := h.boxes j ds hc
   exact ⟨g', us, by simpa only [upd_other _ _ e] using h1, h2.sub (s fun _ => True) (fun _ _ => trivial), h3, h4⟩
 ·by_cases e : j = k
  ·subst e; simp [upd_same]
  ·simp only [upd_other _ _ e] at hj ⊢; exact h.blk0 j hj
 ·by_cases e : j = k
  ·subst e; simp [upd_same]
  ·simp only [upd_other _ _ e]; exact h.both j
 ·by_cases e : j = k
  ·subst e; simp [upd_same] at hv
  ·simp only [upd_other _ _ e] at hv; exact h.pt j v hv
 ·by_cases e : j = k
  ·subst e; simp [upd_same] at hc
  ·simp only [upd_other _ _ e] at hc; exact h.usedB j ds hc
theorem RelH.share {H : Heap} (h : RelH F H E) (hg : ∀ g ∈ bs, (∀ j, ¬ Own E j g) ∧ g < E.w.heap.size ∧ (F.w0.heap.size ≤ g ∨ F.T g)) :
  RelH F H { E with S := fun c b => E.S c b ∨ b ∈ bs } ∧ Sub E { E with S := fun c b => E.S c b ∨ b ∈ bs } (fun k => H.used k = true) := by
 have s : ∀ N, Sub E { E with S := fun c b => E.S c b ∨ b ∈ bs } N := fun N =>
  ⟨fun _ _ h => .inl h, fun _ _ _ => rfl, fun _ _ => rfl, fun _ _ _ h => h, fun _ _ _ _ => rfl⟩
 refine ⟨⟨fun j q hq => ?_, fun j ds hd => ?_, h.hdr0, h.blk0, h.both, h.uniq, fun j b hj => ?_, fun c b hb => ?_, fun b hb => hb.imp (h.SS b) id, fun c b hb => ?_, fun c b hb => .inl (h.Ssup c b hb), h.pt, h.fr, h.usedR, h.usedB, h.nodup, h.lens, h.hv⟩, s _⟩
 ·obtain ⟨h1, h2, hd', h3, h4, h5⟩ := h.rows j q hq
  exact ⟨h1, h2, hd', h3, h4, h5.chg (s fun _ => True) h2 (fun _ _ => rfl)⟩
 ·obtain ⟨g', us, h1, h2, h3, h4⟩ := h.boxes j ds hd
  exact ⟨g', us, h1, h2.sub (s fun _ => True) (fun _ _ => trivial), h3, h4⟩
 ·have := h.own j b hj
  exact ⟨fun c hb => hb.elim (this.1 c) (fun e => (hg b e).1 j hj), this.2⟩
 ·rcases hb with hb | hb
  ·exact h.S c b hb
  ·exact (hg b hb).2.1
 ·rcases hb with hb | hb
  ·exact h.Ssub c b hb
  ·exact .inr (hg b hb).2.2
def Cell.ofVal (v : Value) : Option Cell :=
 if isImm v then some (.imm v) else match v with
 | .slice none 0 0 => some .nil
 | _ => none
def cellsOfVals : List Value → Option (List Cell)
 | [] => some []
 | v :: vs => match Cell.ofVal v, cellsOfVals vs with
  | some c, some cs => some (c :: cs)
  | _, _ => none
def V.ofVal : Value → Option V
 | .agg cs => (cellsOfVals cs.toList).map .agg
 | v => (Cell.ofVal v).map .one
theorem RC.ofVal {v : Value} {c : Cell} (h : Cell.ofVal v = some c) : RC E c v ∧ c.names = [] := by
 unfold Cell.ofVal at h
 split at h
 ·rename_i hi; cases h; exact ⟨by simp only [RC]; exact ⟨trivial, hi⟩, rfl⟩
 ·split at h
  ·cases h; exact ⟨by simp only [RC], rfl⟩
  ·cases h
theorem RCs.ofVals {E : Env} : ∀ {vs : List Value} {cs : List Cell}, cellsOfVals vs = some cs → RCs E cs vs ∧ cnames cs = []
 | [], cs, h => by simp [cellsOfVals] at h; subst h; exact ⟨by simp only [RCs], rfl⟩
 | v :: vs, cs, h => by
  unfold cellsOfVals at h
  split at h
  ·rename_i c cs' hc hcs
   cases h
   have h1 := RC.ofVal (E := E) hc
   have h2 := RCs.ofVals (E := E) hcs
   exact ⟨by simp only [RCs]; exact ⟨v, vs, rfl, h1.1, h2.1⟩, by simp [cnames, h1.2, h2.2]⟩
  ·cases h
theorem cellsOfVals_clean : ∀ {vs : List Value} {cs : List Cell}, cellsOfVals vs = some cs → cclean cs = true
 | [], cs, h => by simp [cellsOfVals] at h; subst h; rfl
 | v :: vs, cs, h => by
  unfold cellsOfVals at h
  split at h
  ·rename_i c cs' hc hcs
   cases h
   have h2 := cellsOfVals_clean hcs
   have h1 : c.clean = true := by
    unfold Cell.ofVal at hc
    split at hc
    ·cases hc; rfl
    ·split at hc <;> cases hc; rfl
   simp [cclean, h1, h2]
  ·cases h
theorem RV.ofVal {v : Value} {x : V} (h : V.ofVal v = some x) : RV E x v ∧ x.names = [] := by
 unfold V.ofVal at h
 split at h
 ·rename_i cs
  cases hc : cellsOfVals cs.toList with
  | none => simp [hc] at h
  | some ds =>
   simp [hc] at h; subst h
   have := RCs.ofVals (E := E) hc
   exact ⟨⟨_, by simp, this.1⟩, this.2⟩
 ·cases hc : Cell.ofVal v with
  | none => simp [hc] at h
  | some c =>
   simp [hc] at h; subst h
   have := RC.ofVal (E := E) hc
   exact ⟨this.1, by simp [V.names, V.cells, cnames, this.2]⟩
def opnd (sl : Nat → Option Slot) : Operand → Option Slot
 | .tmp t => sl t
 | .const v => (V.ofVal v).map .v
 | .func f => some (.v (.one (.clo f [])))
 | .global _ => none
variable {x : Operand}
theorem opnd_ok {H : Heap} {a : Act} (h : RelS F sl H a E) {s : Slot} (hx : opnd sl x = some s) :
  RSlot E s (a.eval x) ∧ ∀ k ∈ s.names, H.used k = true := by
 cases x with
 | tmp t => exact ⟨h.slots t s hx, h.used t s hx⟩
 | const v =>
  simp only [opnd, Option.map_eq_some_iff] at hx
  obtain ⟨y, hy, rfl⟩ := hx
  have := RV.ofVal (E := E) hy
  exact ⟨this.1, fun k hk => by simp [Slot.names, this.2] at hk⟩
 | func f => cases hx; exact ⟨by simp [RSlot, RV, RC, RCs, Act.eval], fun k hk => by simp [Slot.names, V.names, V.cells, cnames, Cell.names] at hk⟩
 | global g => cases hx
def Cell.val? : Cell → Option Value
 | .imm v => some v
 | .nil => some (.slice none 0 0)
 | _ => none
def cellVals : List Cell → Option (List Value)
 | [] => some []
 | c :: cs => match c.val?, cellVals cs with
  | some v, some vs => some (v :: vs)
  | _, _ => none
def V.val? : V → Option Value
 | .one c => c.val?
 | .agg cs => (cellVals cs).map fun vs => .agg vs.toArray
def Slot.val? : Slot → Option Value
 | .v x => x.val?
 | .tup _ => none
theorem RC.val? {c : Cell} {v : Value} (h : RC E c u) (hv : c.val? = some v) : u = v := by
 cases c <;> simp only [Cell.val?] at hv <;> try cases hv
 ·simp only [RC] at h; exact h.1
 ·simpa only [RC] using h
theorem RCs.vals : ∀ {cs : List Cell} {us vs : List Value}, RCs E cs us → cellVals cs = some vs → us = vs
 | [], _, _, h, hv => by simp only [RCs] at h; simp [cellVals] at hv; rw [h, hv]
 | c :: cs, _, _, h, hv => by
  simp only [RCs] at h
  obtain ⟨u, us', rfl, h1, h2⟩ := h
  unfold cellVals at hv
  split at hv
  ·rename_i v vs' hc hcs
   cases hv
   rw [h1.val? hc, h2.vals hcs]
  ·cases hv
theorem RSlot.val? {s : Slot} {v : Value} (h : RSlot E s u) (hv : s.val? = some v) : u = v := by
 cases s with
 | tup xs => cases hv
 | v x =>
  cases x with
  | one c => exact RC.val? h hv
  | agg cs =>
   obtain ⟨us, rfl, hr⟩ := h
   simp only [Slot.val?, V.val?, Option.map_eq_some_iff] at hv
   obtain ⟨vs, hv, rfl⟩ := hv
   rw [hr.vals hv]
abbrev im (v : Value) : Slot := .v (.one (.imm v))
def Done (P : Program) (F : Fix) (H : Heap) (E : Env) (m : Sem Next) (Q : Option Slot → Heap → Prop) : Prop :=
 ∃ (r : Next) (E' : Env) (x : Option Slot) (H' : Heap), m.run P E.w = .ok r E'.w ∧ Q x H' ∧ RelH F H' E' ∧ Sub E E' (fun k => H.used k = true) ∧ (∀ k, H.used k = true → H'.used k = true) ∧
  match x with
  | some s => ∃ u, r = .value u ∧ RSlot E' s u ∧ ∀ k ∈ s.names, H'.used k = true
  | none => r = .skip
variable {P : Program}
theorem Done.same {H : Heap} (hH : RelH F H E) {m : Sem Next} {Q : Option Slot → Heap → Prop} {s : Slot} (hm : m.run P E.w = .ok (.value u) E.w) (hq : Q (some s) H)
  (hs : RSlot E s u) (hn : ∀ k ∈ s.names, H.used k = true) : Done P F H E m Q :=
 ⟨.value u, E, some s, H, hm, hq, hH, Sub.refl _ _, fun _ h => h, u, rfl, hs, hn⟩
abbrev Rho := Operand → Option Slot
def RhoOk (H : Heap) (E : Env) (ρ : Rho) (ev : Operand → Value) : Prop := ∀ x s, ρ x = some s → RSlot E s (ev x) ∧ ∀ k ∈ s.names, H.used k = true
variable {ev : Operand → Value} {ρ : Rho}
theorem im_ok {H : Heap} (h : RhoOk H E ρ ev) {s : Slot} {v : Value} (hx : ρ x = some s) (hv : s.val? = some v) : ev x = v := (h x s hx).1.val? hv
section
variable {P : Program} {F : Fix} {H : Heap} {E : Env} {ρ : Rho} {ev : Operand → Value} {Q : Option Slot → Heap → Prop}
theorem done_move (hH : RelH F H E) (hρ : RhoOk H E ρ ev) {o : Oper} (ho : o.op = .move x ∨ o.op = .assign x) {s : Slot} (hx : ρ x = some s) (hq : Q (some s) H) : Done P F H E (execOp ev o) Q :=
 Done.same hH (u := ev x) (by rcases ho with h | h <;> simp [execOp, h]) hq (hρ x s hx).1 (hρ x s hx).2
theorem done_pick (hH : RelH F H E) (hρ : RhoOk H E ρ ev) {o : Oper} {c a b : Operand} (ho : o.op = .pick c a b) {t : Bool} {sc s : Slot} (hc : ρ c = some sc) (hcv : sc.val? = some (.bool t)) (hx : ρ (if t then a else b) = some s)
  (hq : Q (some s) H) : Done P F H E (execOp ev o) Q := by
 have h1 := im_ok hρ hc hcv
 refine Done.same hH (u := ev (if t then a else b)) ?_ hq (hρ _ s hx).1 (hρ _ s hx).2
 cases t <;> simp [execOp, ho, h1, asBool]
variable {xs : List V}
theorem done_extract (hH : RelH F H E) (hρ : RhoOk H E ρ ev) {o : Oper} {t : Operand} (ho : o.op = .extract t i) (ht : ρ t = some (.tup xs)) {x : V} (hx : xs[i]? = some x) (hq : Q (some (.v x)) H) :
  Done P F H E (execOp ev o) Q := by
 obtain ⟨⟨us, hu, hr⟩, hn⟩ := hρ t _ ht
 have get : ∀ {xs : List V} {us : List Value} (i : Nat) {x : V}, RVs E xs us → xs[i]? = some x → ∃ u, us[i]? = some u ∧ RV E x u := by
  intro xs
  induction xs with
  | nil => intro us i x _ h; simp at h
  | cons y ys ih =>
   intro us i x h hx
   obtain ⟨u, us', rfl, h1, h2⟩ := h
   cases i with
   | zero => simp at hx; subst hx; exact ⟨u, by simp, h1⟩
   | succ i => obtain ⟨u', h3, h4⟩ := ih i h2 (by simpa using hx); exact ⟨u', by simpa using h3, h4⟩
 obtain ⟨u, h1, h2⟩ := get i hr hx
 refine Done.same hH (u := u) (by simp [execOp, ho, hu, Instr.extract, h1]) hq h2 (fun k hk => hn k ?_)
 simp only [Slot.names, List.mem_flatMap]
 exact ⟨x, List.mem_of_getElem? hx, hk⟩
theorem there_new (w : World) (cur : Array Value) (e : TypeId) : (w.alloc (.cells cur e)).there w.heap.size 0 cur.size := by
 intro j hj
 have h := heap_alloc_new w (.cells cur e)
 constructor
 ·show (match (w.alloc (.cells cur e)).heap[w.heap.size]? with | some (.cells c _ _) => if (none : Option Nat).isSome then none else c[0 + j]? | _ => none).isSome = true
  rw [h]; simp [hj]
 ·show (match (w.alloc (.cells cur e)).heap[w.heap.size]? with | some (.cells _ _ (lo, hi)) => decide (lo ≤ 0 + j) && decide (0 + j < hi) | _ => false) = false
  rw [h]; simp
theorem range_new (w : World) (cur : Array Value) (e : TypeId) : (w.alloc (.cells cur e)).rangeAt w.heap.size 0 cur.toList := by
 intro j v hv
 have h := heap_alloc_new w (.cells cur e)
 show (match (w.alloc (.cells cur e)).heap[w.heap.size]? with | some (.cells c _ _) => if (none : Option Nat).isSome then none else c[0 + j]? | _ => none) = some v
 rw [h]; simpa using hv
theorem chg_alloc (_hH : RelH F H E) (o : Obj) : Chg F E (E.w.alloc o) :=
 ⟨rfl, rfl, rfl, by simp, fun b hb hne => absurd (heap_alloc_old E.w o (h := hb)) hne⟩
theorem new_free (hH : RelH F H E) (o : Obj) : (∀ c, ¬ E.S c E.w.heap.size) ∧ (∀ k, ¬ Own { E with w := E.w.alloc o } k E.w.heap.size) ∧ E.w.heap.size < (E.w.alloc o).heap.size ∧ (F.w0.heap.size ≤ E.w.heap.size ∨ F.T E.w.heap.size) :=
 ⟨fun c h => by have := hH.S c _ h; omega, fun k h => by have := (hH.own k _ h).2.1; omega, by simp, .inl hH.fr.size⟩
theorem Sub.trans {E'' : Env} {N : Nat → Prop} (h : Sub E E' N) (h' : Sub E' E'' N) : Sub E E'' N :=
 ⟨fun g b hS => h'.S g b (h.S g b hS), fun g b hS => (h'.mem g b (h.S g b hS)).trans (h.mem g b hS), fun k hk => (h'.hdrE k hk).trans (h.hdrE k hk), fun k hk v hv => h.pt k hk v (h'.pt k hk v hv),
  fun k hk v hv => (h'.sz k hk v hv).trans (h.sz k hk v (h'.hdr k hk v hv))⟩
theorem done_newBox (hH : RelH F H E) {cs : List Cell} {e : TypeId} {m : Sem Next} (hm : m.run P E.w = .ok (.value (.pointer (some ⟨E.w.heap.size, 0, none⟩))) (E.w.alloc (.cells us.toArray e)))
  (hk : H.used k = false) (hr : RCs E cs us) (hn : ∀ j ∈ cnames cs, H.used j = true) (hq : Q (some (.v (.one (.ptr k 0)))) { H with boxes := upd H.boxes k (some cs), made := upd H.made k true }) : Done P F H E m Q := by
 have c := chg_alloc hH (.cells us.toArray e)
 have s := Sub.chg hH c (fun k => H.used k = true)
 have hl := hr.length
 obtain ⟨h1, h2⟩ := (hH.chg c).addBox (g := E.w.heap.size) hk (hr.sub s hn) hn (by simpa using range_new E.w us.toArray e) (by have := there_new E.w us.toArray e; simpa [hl] using this) (new_free hH _)
 refine ⟨_, _, _, _, hm, hq, h1, s.trans h2, fun j hj => ?_, _, rfl, ?_, fun j hj => ?_⟩
 ·by_cases e : j = k
  ·subst e; simp [Heap.used, upd_same]
  ·simpa [Heap.used, upd_other _ _ e] using hj
 ·simp only [RSlot, RV, RC, upd_same]
  exact ⟨rfl, fun b hb => by cases hb; rfl⟩
 ·simp [Slot.names, V.names, V.cells, cnames, Cell.names] at hj
  subst hj; simp [Heap.used, upd_same]
theorem run_newVar (P : Program) (t : TypeId) (v : Value) (w : World) : (newVar t v).run P w = .ok ⟨w.heap.size, 0, none⟩ (w.alloc (.cells v.cells t)) := by
 simp [newVar, newRow]
variable {z : Value} {elem : TypeId}
theorem done_alloc (hH : RelH F H E) {o : Oper} (ho : o.op = .alloc elem) {i : TypeInfo} (hi : P.info? elem = some i) (hz : i.zero = some z) {x : V} (hx : V.ofVal z = some x) (hk : H.used k = false)
  (hq : Q (some (.v (.one (.ptr k 0)))) { H with boxes := upd H.boxes k (some x.cells), made := upd H.made k true }) : Done P F H E (execOp ev o) Q := by
 have hv := RV.ofVal (E := E) hx
 obtain ⟨us, hr, hu⟩ := hv.1.cells
 refine done_newBox hH (us := us) (e := elem) ?_ hk hr (fun j hj => by simp [V.names] at hv; rw [hv.2] at hj; cases hj) hq
 simp [execOp, ho, Instr.alloc, zeroValue, typeInfo, hi, hz, run_newVar, hu]
variable {y : Operand}
theorem done_box (hH : RelH F H E) (hρ : RhoOk H E ρ ev) {o : Oper} (ho : o.op = .box elem y) {x : V} (hx : ρ y = some (.v x)) (hk : H.used k = false)
  (hq : Q (some (.v (.one (.ptr k 0)))) { H with boxes := upd H.boxes k (some x.cells), made := upd H.made k true }) : Done P F H E (execOp ev o) Q := by
 obtain ⟨hv, hn⟩ := hρ y _ hx
 obtain ⟨us, hr, hu⟩ := RV.cells hv
 refine done_newBox hH (us := us) (e := elem) ?_ hk hr hn hq
 simp [execOp, ho, Instr.box, run_newVar, hu]
end
def shape (P : Program) (t : TypeId) : Option (Bool × Nat) :=
 match P.underlying t, P.info? t with
 | some d, some i => some (d.isRow, i.size)
 | _, _ => none
def mkV : Bool → List Cell → Option V
 | true, cs => some (.agg cs)
 | false, [c] => some (.one c)
 | false, _ => none
section
variable {P : Program} {F : Fix} {H : Heap} {E : Env} {ρ : Rho} {ev : Operand → Value} {Q : Option Slot → Heap → Prop}
variable {t : TypeId}
theorem shape_some {ag : Bool} (h : shape P t = some (ag, n)) : ∃ d i, P.underlying t = some d ∧ d.isRow = ag ∧ P.info? t = some i ∧ i.size = n := by
 unfold shape at h
 split at h
 ·rename_i d i hd hi; cases h; exact ⟨d, i, hd, rfl, hi, rfl⟩
 ·cases h
theorem run_isAgg {d : TypeDesc} (hd : P.underlying t = some d) (w : World) : (isAgg t).run P w = .ok d.isRow w := by
 unfold isAgg
 rw [Sem.run_bind, run_underlying hd w]
 cases d <;> simp [TypeDesc.isRow]
theorem load_ok {ag : Bool} (hs : shape P t = some (ag, n)) {cs : List Cell} {b o : Nat} (hr : RCs E cs us) (hat : E.w.rangeAt b o us) (hl : cs.length = n) {x : V} (hx : mkV ag cs = some x) :
  ∃ u, (Instr.loadAt t (.pointer (some ⟨b, o, none⟩))).run P E.w = .ok u E.w ∧ RV E x u := by
 obtain ⟨d, i, hd, hag, hi, hn⟩ := shape_some hs
 have hul := hr.length
 cases ag with
 | true =>
  simp [mkV] at hx; subst hx
  exact ⟨_, run_loadAt_mid E.w b o t us d hat hd hag (by simp [hi]; omega), us, rfl, hr⟩
 | false =>
  cases cs with
  | nil => simp [mkV] at hx
  | cons c cs =>
   cases cs with
   | cons c' cs => simp [mkV] at hx
   | nil =>
    simp [mkV] at hx; subst hx
    simp only [RCs] at hr
    obtain ⟨u, us', rfl, h1, rfl⟩ := hr
    refine ⟨u, ?_, h1⟩
    have := hat 0 u (by simp)
    have hagg := run_isAgg hd E.w
    rw [hag] at hagg
    simp only [Nat.add_zero] at this
    simp [Instr.loadAt, Instr.sureAddr, loadVar, hagg, this]
theorem store_ok {ag : Bool} (hs : shape P t = some (ag, n)) {b o : Nat} (hu : u.cells = us.toArray) (hl : us.length = n) (h1 : ∀ v ∈ us, v.oneCell' = true) (hth : E.w.there b o n) :
  (Instr.storeAt t (.pointer (some ⟨b, o, none⟩)) u).run P E.w = .ok () (E.w.setCells b o us) := by
 obtain ⟨d, i, hd, hag, hi, hn⟩ := shape_some hs
 have hst := run_storeCells_cells (P := P) b o us 0 E.w (fun j hj => by simpa using (hth j (by omega)).1) (fun j hj => by simpa using (hth j (by omega)).2) h1
 simp only [Nat.add_zero] at hst
 simp [Instr.storeAt, Instr.sureAddr, storeVar, sizeOf, typeInfo, hi, hu, hl, hn, hst]
theorem setCells_only (b : Nat) : ∀ (vs : List Value) (o : Nat) (w : World), Only w (w.setCells b o vs) b
 | [], _, w => ⟨rfl, rfl, rfl, rfl, fun _ _ => rfl⟩
 | v :: r, o, w => by
  rw [World.setCells]
  have h := setCells_only b r (o + 1) (w.setCell ⟨b, o, none⟩ v)
  refine ⟨h.os, h.tape, h.output, h.size.trans (by simp [World.setCell]), fun k hk => (h.block k hk).trans ?_⟩
  simp only [World.setCell, Array.getElem?_modify]
  rw [if_neg (Ne.symm hk)]
variable {y : Operand}
theorem done_load_ptr (hH : RelH F H E) (hρ : RhoOk H E ρ ev) {o : Oper} (ho : o.op = .load t y) (hy : ρ y = some (.v (.one (.ptr k j)))) {cs : List Cell} (hk : H.boxes k = some cs) {ag : Bool}
  (hs : shape P t = some (ag, n)) (hl : j + n ≤ cs.length) {x : V} (hx : mkV ag ((cs.drop j).take n) = some x) (hq : Q (some (.v x)) H) : Done P F H E (execOp ev o) Q := by
 have hv := (hρ y _ hy).1
 obtain ⟨g, us, hb, hr, hat, hth⟩ := hH.boxes k cs hk
 simp only [RSlot, RV, RC] at hv
 have hp := hv.2 g (hH.pt k g hb)
 have hr' : RCs E ((cs.drop j).take n) ((us.drop j).take n) := (hr.drop j).take n
 have hat' : E.w.rangeAt g j ((us.drop j).take n) := fun i v hi => by
  rw [List.getElem?_take] at hi
  split at hi
  ·rw [List.getElem?_drop] at hi; have := hat _ v hi; simpa using this
  ·cases hi
 obtain ⟨u, h1, h2⟩ := load_ok hs hr' hat' (by simp; omega) hx
 refine Done.same hH (u := u) (by simp [execOp, ho, hp, h1]) hq h2 (fun i hi => (hH.usedB k cs hk).2 i ?_)
 have : i ∈ cnames ((cs.drop j).take n) := by
  cases ag with
  | true => simp [mkV] at hx; subst hx; exact hi
  | false =>
   generalize (cs.drop j).take n = ds at hx ⊢
   match ds, hx with
   | [c], hx => simp [mkV] at hx; subst hx; exact hi
 obtain ⟨c, hc, hi'⟩ := mem_cnames.1 this
 exact mem_cnames.2 ⟨c, List.mem_of_mem_drop (List.mem_of_mem_take hc), hi'⟩
theorem rnames_get (h : rnames es = []) {e : List Cell} (he : es[i]? = some e) : cnames e = [] := by
 cases hc : cnames e with
 | nil => rfl
 | cons k ks =>
  have : k ∈ rnames es := mem_rnames.2 ⟨e, List.mem_of_getElem? he, by rw [hc]; simp⟩
  rw [h] at this; cases this
theorem cnames_part {cs : List Cell} (h : cnames cs = []) (j n : Nat) : cnames ((cs.drop j).take n) = [] := by
 cases hc : cnames ((cs.drop j).take n) with
 | nil => rfl
 | cons k ks =>
  obtain ⟨c, hm, hi⟩ := mem_cnames.1 (show k ∈ cnames ((cs.drop j).take n) by rw [hc]; simp)
  have : k ∈ cnames cs := mem_cnames.2 ⟨c, List.mem_of_mem_drop (List.mem_of_mem_take hm), hi⟩
  rw [h] at this; cases this
theorem names_mkV {ag : Bool} {cs : List Cell} {x : V} (hx : mkV ag cs = some x) (h : cnames cs = []) : x.names = [] := by
 cases ag with
 | true => simp [mkV] at hx; subst hx; exact h
 | false =>
  match cs, hx with
  | [c], hx => simp [mkV] at hx; subst hx; exact h
theorem range_part {g o : Nat} (h : w.rangeAt g o us) (j n : Nat) : w.rangeAt g (o + j) ((us.drop j).take n) := fun i v hi => by
 rw [List.getElem?_take] at hi
 split at hi
 ·rw [List.getElem?_drop] at hi; have := h _ v hi; rwa [← Nat.add_assoc] at this
 ·cases hi
theorem done_load_ep (hH : RelH F H E) (hρ : RhoOk H E ρ ev) {o : Oper} (ho : o.op = .load t y) (hy : ρ y = some (.v (.one (.ep k i j)))) (hk : H.rows k = some r) {e : List Cell} (he : r.es[i]? = some e)
  {ag : Bool} (hs : shape P t = some (ag, n)) (hl : j + n ≤ e.length) {x : V} (hx : mkV ag ((e.drop j).take n) = some x) (hno : noOw ((e.drop j).take n) = true) (hq : Q (some (.v x)) H) : Done P F H E (execOp ev o) Q := by
 have hv := (hρ y _ hy).1
 obtain ⟨h1, h2, hd, h3, h4, h5⟩ := hH.rows k r hk
 simp only [RSlot, RV, RC] at hv
 obtain ⟨g, len, cap, hg, hlt, hu⟩ := hv.2 hd h3
 obtain ⟨bs', hrow⟩ : ∃ bs', RXRow E g 0 r.sz r.es bs' := by
  rcases h5 with ⟨h6, _⟩ | ⟨g', cap', bs', h6, _, _, h9, _⟩
  ·rw [h6] at hg; cases hg
  ·rw [h6] at hg; cases hg; exact ⟨bs', h9⟩
 obtain ⟨hel, us, b1, hr, _, hat⟩ := hrow.get i e he
 obtain ⟨b2, hr2, _⟩ := hr.part j n
 have hlen := hr.length
 obtain ⟨u, hm, hR⟩ := load_ok hs (hr2.plain hno).1 (b := g) (o := 0 + i * r.sz + j) (range_part hat j n) (by simp; omega) hx
 refine Done.same hH (u := u) ?_ hq hR (fun c hc => ?_)
 ·rw [h4] at hu
  simp only [Nat.zero_add] at hm
  simp [execOp, ho, hu, hm]
 ·rw [show Slot.names (.v x) = x.names from rfl, names_mkV hx (cnames_part (rnames_get h2.2 he) j n)] at hc; cases hc
def ldC (g : Bool) : Cell → Cell
 | .ow _ es => .sl g es
 | c => c
theorem ldC_ok (hs : ∀ b, E.S true b → E.S false b) {g : Bool} {c : Cell} (h : RC (E.cap g) c u) : RC E (ldC g c) u := by
 have plain : ∀ {c : Cell}, RC (E.cap g) c u → RC E c u := fun h => RC.sub (Sub.uncap hs g (fun _ => True)) (fun _ _ => trivial) h
 cases c with
 | ow sz es =>
  simp only [RC, ldC] at h ⊢
  obtain ⟨hf, a, cap, hu, hc, h⟩ := h
  refine ⟨hf, a, cap, hu, hc, h.imp id ?_⟩
  rintro ⟨b, o, ha, hS, hr⟩
  exact ⟨b, o, sz, ha, hS, hr⟩
 | _ => exact plain h
theorem ldCs_ok (hs : ∀ b, E.S true b → E.S false b) {g : Bool} : ∀ {cs : List Cell} {us : List Value}, RCs (E.cap g) cs us → RCs E (cs.map (ldC g)) us
 | [], _, h => by simpa only [RCs, List.map_nil] using h
 | c :: cs, _, h => by
  simp only [RCs, List.map_cons] at h ⊢
  obtain ⟨u, us', rfl, h1, h2⟩ := h
  exact ⟨u, us', rfl, ldC_ok hs h1, ldCs_ok hs h2⟩
theorem ldC_names {g : Bool} : ∀ {cs : List Cell}, cnames cs = [] → cnames (cs.map (ldC g)) = []
 | [], _ => rfl
 | c :: cs, h => by
  simp only [cnames, List.append_eq_nil_iff] at h
  simp only [List.map_cons, cnames, ldC_names h.2, List.append_nil]
  cases c <;> simp [ldC, Cell.names] at h ⊢
  exact h.1
theorem done_load_pe (hH : RelH F H E) (hρ : RhoOk H E ρ ev) {o : Oper} (ho : o.op = .load t y) {g : Bool} {e : List Cell} (hy : ρ y = some (.v (.one (.pe g e j))))
  {ag : Bool} (hs : shape P t = some (ag, n)) (hl : j + n ≤ e.length) {x : V} (hx : mkV ag (((e.drop j).take n).map (ldC g)) = some x) (hq : Q (some (.v x)) H) : Done P F H E (execOp ev o) Q := by
 obtain ⟨hv, hn⟩ := hρ y _ hy
 simp only [RSlot, RV, RC] at hv
 obtain ⟨hf, b, p, us, hu, hS, hr, hat⟩ := hv
 obtain ⟨u, hm, hR⟩ := load_ok hs (ldCs_ok hH.SS ((hr.drop j).take n)) (range_part hat j n) (by simp; omega) hx
 refine Done.same hH (u := u) (by simp [execOp, ho, hu, hm]) hq hR (fun c hc => ?_)
 rw [show Slot.names (.v x) = x.names from rfl, names_mkV hx (ldC_names (cnames_part hf.one j n))] at hc; cases hc
theorem done_nilCheck (hH : RelH F H E) (hρ : RhoOk H E ρ ev) {o : Oper} (ho : o.op = .nilCheck y) {c : Cell} (hy : ρ y = some (.v (.one c)))
  (hc : (∃ k j, c = .ptr k j ∧ H.boxes k ≠ none) ∨ (∃ k i j, c = .ep k i j ∧ H.rows k ≠ none) ∨ ∃ g e j, c = .pe g e j) (hq : Q (some (.v (.one c))) H) : Done P F H E (execOp ev o) Q := by
 obtain ⟨hv, hn⟩ := hρ y _ hy
 have hp : ∃ a, ev y = .pointer (some a) := by
  simp only [RSlot, RV] at hv
  rcases hc with ⟨k, j, rfl, hk⟩ | ⟨k, i, j, rfl, hk⟩ | ⟨g, e, j, rfl⟩
  ·cases hb : H.boxes k with
   | none => exact absurd hb hk
   | some cs =>
    obtain ⟨g, us, h1, _⟩ := hH.boxes k cs hb
    simp only [RC] at hv
    exact ⟨_, hv.2 g (hH.pt k g h1)⟩
  ·cases hb : H.rows k with
   | none => exact absurd hb hk
   | some r =>
    obtain ⟨_, _, hd, h3, _⟩ := hH.rows k r hb
    simp only [RC] at hv
    obtain ⟨g, len, cap, _, _, hu⟩ := hv.2 hd h3
    exact ⟨_, hu⟩
  ·simp only [RC] at hv
   obtain ⟨_, b, p, us, hu, _⟩ := hv
   exact ⟨_, hu⟩
 obtain ⟨a, ha⟩ := hp
 exact Done.same hH (u := ev y) (by simp [execOp, ho, ha]) hq hv hn
def Cell.shift (d : Nat) : Cell → Option Cell
 | .ptr k j => some (.ptr k (j + d))
 | .ep k i j => some (.ep k i (j + d))
 | .pe g e j => some (.pe g e (j + d))
 | _ => none
variable {c' : Cell} {fd : Field} {fs : Array Field}
theorem done_fieldAddr (hH : RelH F H E) (hρ : RhoOk H E ρ ev) {o : Oper} {s : TypeId} {f : Nat} (ho : o.op = .fieldAddr s y f) (hs : P.underlying s = some (.struct fs)) (hf : fs[f]? = some fd) {i : TypeInfo}
  (hi : P.info? fd.type = some i) (h0 : i.size ≠ 0) {c : Cell} (hy : ρ y = some (.v (.one c))) (hc : c.shift fd.offset = some c')
  (hlive : (∃ k j, c = .ptr k j ∧ H.boxes k ≠ none) ∨ (∃ k i j, c = .ep k i j ∧ H.rows k ≠ none) ∨ ∃ g e j, c = .pe g e j) (hq : Q (some (.v (.one c'))) H) : Done P F H E (execOp ev o) Q := by
 obtain ⟨hv, hn⟩ := hρ y _ hy
 have key : ∃ b q, ev y = .pointer (some ⟨b, q, none⟩) ∧ RC E c' (.pointer (some ⟨b, q + fd.offset, none⟩)) ∧ c'.names = c.names := by
  simp only [RSlot, RV] at hv
  rcases hlive with ⟨k, j, rfl, hk⟩ | ⟨k, i, j, rfl, hk⟩ | ⟨g, e, j, rfl⟩ <;> simp [Cell.shift] at hc <;> subst hc
  ·cases hb : H.boxes k with
   | none => exact absurd hb hk
   | some cs =>
    obtain ⟨g, us, h1, _⟩ := hH.boxes k cs hb
    simp only [RC] at hv ⊢
    exact ⟨g, j, hv.2 g (hH.pt k g h1), ⟨rfl, fun b hb => by rw [hH.pt k g h1] at hb; cases hb; rfl⟩, rfl⟩
  ·cases hb : H.rows k with
   | none => exact absurd hb hk
   | some r =>
    obtain ⟨_, _, hd, h3, _⟩ := hH.rows k r hb
    simp only [RC] at hv ⊢
    obtain ⟨g, len, cap, h6, h7, hu⟩ := hv.2 hd h3
    exact ⟨g, _, hu, ⟨rfl, fun h hh => by rw [h3] at hh; cases hh; exact ⟨g, len, cap, h6, h7, by rw [Nat.add_assoc]⟩⟩, rfl⟩
  ·simp only [RC] at hv ⊢
   obtain ⟨hf, b, p, us, hu, h1, h2, h3⟩ := hv
   exact ⟨b, _, hu, ⟨hf, b, p, us, by rw [Nat.add_assoc], h1, h2, h3⟩, rfl⟩
 obtain ⟨b, q, h1, h2, h3⟩ := key
 refine Done.same hH (u := .pointer (some ⟨b, q + fd.offset, none⟩)) ?_ hq h2 (fun k hk => hn k ?_)
 ·have hsz : (sizeOf fd.type).run P E.w = .ok i.size E.w := by simp [sizeOf, typeInfo, hi]
  have hadd := Addr.add_mid b q fd.offset
  simp [execOp, ho, h1, Instr.fieldAt, run_underlying hs, hf, Instr.sureAddr, fieldPlace, hsz, h0, hadd]
 ·simpa [Slot.names, V.names, V.cells, cnames, h3] using hk
def Heap.elemAt (H : Heap) (c : Cell) (i : Nat) : Option (Cell × List Cell) :=
 match c with
 | .sl g es => (es[i]?).map fun e => (.pe g e 0, e)
 | .own k => (H.rows k).bind fun r => (r.es[i]?).map fun e => (.ep k i 0, e)
 | .sub k lo n => if i < n then (H.rows k).bind fun r => (r.es[lo + i]?).map fun e => (.ep k (lo + i) 0, e) else none
 | _ => none
variable {ti : TypeInfo} {el : TypeId}
theorem done_indexAddr (hH : RelH F H E) (hρ : RhoOk H E ρ ev) {o : Oper} {z : Operand} (ho : o.op = .indexAddr t y z) (ht : P.underlying t = some (.slice el)) (hti : P.info? el = some ti)
  {c : Cell} (hy : ρ y = some (.v (.one c))) {ik : IntKind} {sz : Slot} (hz : ρ z = some sz) (hzv : sz.val? = some (.int ik i)) {e : List Cell} (he : H.elemAt c i = some (c', e)) (hel : e.length = ti.size)
  (hq : Q (some (.v (.one c'))) H) : Done P F H E (execOp ev o) Q := by
 obtain ⟨hv, hn⟩ := hρ y _ hy
 have hi := im_ok hρ hz hzv
 have key : ∃ b q len cap, ev y = .slice (some ⟨b, q, none⟩) len cap ∧ i < len ∧ RC E c' (.pointer (some ⟨b, q + i * ti.size, none⟩)) ∧ c'.names ⊆ c.names := by
  simp only [RSlot, RV] at hv
  cases c with
  | sl g es =>
   simp only [Heap.elemAt, Option.map_eq_some_iff] at he
   obtain ⟨e', he', h⟩ := he
   cases h
   simp only [RC] at hv ⊢
   obtain ⟨hf, a, cap, hu, hc, h⟩ := hv
   rcases h with h | ⟨b, p, sz', ha, hS, hr⟩
   ·subst h; simp at he'
   ·obtain ⟨h1, us, h2, h3⟩ := hr.get i e he'
    refine ⟨b, p, _, cap, by rw [hu, ha], (List.getElem?_eq_some_iff.1 he').1, ⟨hf.get he', b, p + i * ti.size, us, by simp, hS, h2, by rw [← hel, h1]; exact h3⟩, fun k hk => hk⟩
  | own k =>
   simp only [Heap.elemAt, Option.bind_eq_some_iff, Option.map_eq_some_iff] at he
   obtain ⟨r, hr, e', he', h⟩ := he
   cases h
   obtain ⟨h1, h2, hd, h3, h4, h5⟩ := hH.rows k r hr
   simp only [RC] at hv ⊢
   have hu := hv.2 hd h3
   have hlt := (List.getElem?_eq_some_iff.1 he').1
   rcases h5 with ⟨_, h6, _⟩ | ⟨g, cap, bs', h6, h7, h8, h9, h10⟩
   ·rw [h6] at he'; simp at he'
   ·have hsz : ti.size = r.sz := by rw [← hel]; exact h1 e (List.mem_of_getElem? he')
    refine ⟨g, 0, _, cap, by rw [hu, h6], hlt, ⟨rfl, fun h hh => ?_⟩, fun j hj => hj⟩
    rw [h3] at hh; cases hh
    exact ⟨g, _, cap, h6, hlt, by rw [h4, hsz]; simp⟩
  | sub k lo n =>
   simp only [Heap.elemAt] at he
   split at he
   ·rename_i hin
    simp only [Option.bind_eq_some_iff, Option.map_eq_some_iff] at he
    obtain ⟨r, hr, e', he', h⟩ := he
    cases h
    obtain ⟨h1, h2, hd, h3, h4, h5⟩ := hH.rows k r hr
    simp only [RC] at hv ⊢
    have hlt := (List.getElem?_eq_some_iff.1 he').1
    have hsz : ti.size = r.sz := by rw [← hel]; exact h1 e (List.mem_of_getElem? he')
    rcases hv.2 hd h3 with ⟨_, _, h8, _⟩ | ⟨g, len, cap, a, h8, h9, h10, h11, _⟩
    ·omega
    ·rcases h11 with h11 | h11
     ·omega
     ·refine ⟨g, lo * E.sz k, n, cap - lo, by rw [h10, h11], hin, ⟨rfl, fun h hh => ?_⟩, fun j hj => hj⟩
      rw [h3] at hh; cases hh
      exact ⟨g, len, cap, h8, by omega, by rw [h4, hsz, Nat.add_mul]; simp⟩
   ·cases he
  | _ => simp [Heap.elemAt] at he
 obtain ⟨b, q, len, cap, h1, h2, h3, h4⟩ := key
 refine Done.same hH (u := .pointer (some ⟨b, q + i * ti.size, none⟩)) ?_ hq h3 (fun k hk => hn k ?_)
 ·have hsz : (sizeOf el).run P E.w = .ok ti.size E.w := by simp [sizeOf, typeInfo, hti]
  have hadd := Addr.add_mid b q (i * ti.size)
  simp [execOp, ho, h1, hi, Instr.indexAt, asIntOf, run_underlying ht, hsz, h2, hadd]
 ·simp only [Slot.names, V.names, V.cells, cnames, List.append_nil] at hk ⊢
  exact h4 hk
end
def splice (cs : List α) (j : Nat) (new : List α) : List α := cs.take j ++ new ++ cs.drop (j + new.length)
theorem splice_get {cs new : List α} (h : j + new.length ≤ cs.length) (k : Nat) :
  (splice cs j new)[k]? = if j ≤ k ∧ k < j + new.length then new[k - j]? else cs[k]? := by
 unfold splice
 rw [List.append_assoc, List.getElem?_append]
 simp only [List.length_take]
 rw [show min j cs.length = j by omega]
 by_cases h1 : k < j
 ·rw [if_pos h1, if_neg (by omega), List.getElem?_take, if_pos h1]
 ·rw [if_neg h1, List.getElem?_append]
  by_cases h2 : k - j < new.length
  ·rw [if_pos h2, if_pos (by omega)]
  ·rw [if_neg h2, if_neg (by omega), List.getElem?_drop]
   congr 1; omega
theorem splice_length {cs new : List α} (h : j + new.length ≤ cs.length) : (splice cs j new).length = cs.length := by
 simp [splice]; omega
theorem RCs.splice {cs new : List Cell} {vs : List Value} (h : RCs E cs us) (h' : RCs E new vs) : RCs E (splice cs j new) (splice us j vs) := by
 unfold MG.splice
 rw [h'.length]
 exact ((h.take j).append h').append (h.drop _)
theorem RXCs.splice {cs new : List Cell} {vs : List Value} {bn : List Nat} (h : RXCs E cs us bs) (h' : RXCs E new vs bn) : ∃ b1 b2 b3, bs = b1 ++ (b2 ++ b3) ∧ RXCs E (splice cs j new) (splice us j vs) (b1 ++ bn ++ b3) := by
 obtain ⟨b1, b', rfl, h1, h2⟩ := h.cut j
 obtain ⟨b2, b3, rfl, _, h3⟩ := h2.cut new.length
 refine ⟨b1, b2, b3, rfl, ?_⟩
 unfold MG.splice
 rw [h'.length]
 rw [List.drop_drop, List.drop_drop] at h3
 exact (h1.append h').append h3
theorem mem_splice {cs new : List α} {c : α} (h : c ∈ splice cs j new) : c ∈ cs ∨ c ∈ new := by
 unfold MG.splice at h
 simp only [List.mem_append] at h
 rcases h with (h | h) | h
 ·exact .inl (List.mem_of_mem_take h)
 ·exact .inr h
 ·exact .inl (List.mem_of_mem_drop h)
theorem cnames_splice {cs new : List Cell} (h : k ∈ cnames (splice cs j new)) : k ∈ cnames cs ∨ k ∈ cnames new := by
 unfold splice at h
 simp only [cnames_append, List.mem_append] at h
 rcases h with (h | h) | h
 ·obtain ⟨c, hc, hk⟩ := mem_cnames.1 h; exact .inl (mem_cnames.2 ⟨c, List.mem_of_mem_take hc, hk⟩)
 ·exact .inr h
 ·obtain ⟨c, hc, hk⟩ := mem_cnames.1 h; exact .inl (mem_cnames.2 ⟨c, List.mem_of_mem_drop hc, hk⟩)
theorem range_splice {g o : Nat} {vs : List Value} (h : w.rangeAt g o us) (hl : j + vs.length ≤ us.length) : (w.setCells g (o + j) vs).rangeAt g o (splice us j vs) := by
 intro k v hv
 rw [splice_get hl] at hv
 have hs : ∀ i, i < vs.length → (w.cell? ⟨g, o + j + i, none⟩).isSome = true := fun i hi => by
  have hlt : j + i < us.length := by omega
  have := h (j + i) us[j + i] (List.getElem?_eq_getElem hlt)
  rw [← Nat.add_assoc] at this
  rw [this]; rfl
 by_cases hk : j ≤ k ∧ k < j + vs.length
 ·rw [if_pos hk] at hv
  have hlt : k - j < vs.length := by omega
  have := World.cell?_setCells_in g vs (o + j) w hs (k - j) hlt
  rw [show o + j + (k - j) = o + k by omega] at this
  rw [this, ← hv, List.getElem?_eq_getElem hlt]
 ·rw [if_neg hk] at hv
  rw [World.cell?_setCells_out g vs (o + j) w ⟨g, o + k, none⟩ (fun _ _ => by
   show o + k < o + j ∨ o + j + vs.length ≤ o + k
   omega)]
  exact h k v hv
def Heap.shareOne (H : Heap) (c : Cell) : Option (Heap × Cell) :=
 match c with
 | .own k => (H.rows k).map fun r => ({ H with rows := upd H.rows k none }, .sl true r.es)
 | .sub k lo n => (H.rows k).map fun r => ({ H with rows := upd H.rows k none }, .sl true ((r.es.drop lo).take n))
 | .nil => some (H, .sl true [])
 | .ow .. | .bx .. => none
 | c => if c.names.isEmpty && c.clean then some (H, c) else none
def Heap.share (H : Heap) : List Cell → Option (Heap × List Cell)
 | [] => some (H, [])
 | c :: cs => match H.shareOne c with
  | some (H1, c') => match H1.share cs with
   | some (H2, cs') => some (H2, c' :: cs')
   | none => none
  | none => none
section
variable {P : Program} {F : Fix} {H : Heap} {E : Env} {ρ : Rho} {ev : Operand → Value} {Q : Option Slot → Heap → Prop}
theorem share_row (hH : RelH F H E) (hk : H.rows k = some r) :
  ∃ E', E'.w = E.w ∧ RelH F { H with rows := upd H.rows k none } E' ∧ Sub E E' (fun k => H.used k = true) ∧ ∃ hd, E.hdr k = some hd ∧ E.sz k = r.sz ∧
   ((hd = .slice none 0 0 ∧ r.es = []) ∨ ∃ g cap, hd = .slice (some ⟨g, 0, none⟩) r.es.length cap ∧ r.es.length ≤ cap ∧ E'.S true g ∧ RRow (E'.cap true) g 0 r.sz r.es) := by
 obtain ⟨h1, h2, hd, h3, h4, h5⟩ := hH.rows k r hk
 obtain ⟨d1, d2⟩ := hH.dropRow k
 rcases h5 with ⟨h6, h7, _⟩ | ⟨g, cap, bs', h6, h7, h8, h9, h10⟩
 ·exact ⟨E.gone k, rfl, d1, d2, hd, h3, h4, .inl ⟨h6, h7⟩⟩
 ·have hf := fun b hb => hH.dropped (k := k) (g := b) hk hb
  obtain ⟨s1, s2⟩ := d1.share (bs := E.ob k) (fun b hb => ⟨(hf b hb).2.1, (hf b hb).2.2.1, (hf b hb).2.2.2⟩)
  refine ⟨{ E.gone k with S := fun c b => E.S c b ∨ b ∈ E.ob k }, rfl, s1, d2.trans s2, hd, h3, h4, .inr ⟨g, cap, h6, h7, .inr (by rw [h10]; simp), ?_⟩⟩
  exact RXRow.view (E' := Env.cap { E.gone k with S := fun c b => E.S c b ∨ b ∈ E.ob k } true) ⟨fun b hb => Or.inl hb, fun _ _ => rfl, fun _ h => h.elim, fun _ h => h.elim, fun _ h => h.elim⟩ rfl
   (fun b hb => ⟨rfl, Or.inr (by rw [h10]; simp [hb])⟩) h2.1 h2.2 h9
variable {c' : Cell}
theorem share_one (hH : RelH F H E) {c : Cell} (h : H.shareOne c = some (H', c')) (hc : RC E c u) (_hn : ∀ k ∈ c.names, H.used k = true) :
  ∃ E', E'.w = E.w ∧ RelH F H' E' ∧ Sub E E' (fun k => H.used k = true) ∧ RC E' c' u ∧ (c'.names = [] ∧ c'.clean = true ∧ c'.isOw = false) ∧ (∀ k, H.used k = H'.used k) := by
 have plain : ∀ {c : Cell}, c.isOw = false → RC E c u → (if c.names.isEmpty && c.clean then some (H, c) else none) = some (H', c') → ∃ E', E'.w = E.w ∧ RelH F H' E' ∧ Sub E E' (fun k => H.used k = true) ∧ RC E' c' u ∧ (c'.names = [] ∧ c'.clean = true ∧ c'.isOw = false) ∧ (∀ k, H.used k = H'.used k) := by
  intro c ho hc h
  split at h
  ·rename_i he; cases h
   simp only [Bool.and_eq_true, List.isEmpty_iff] at he
   exact ⟨E, rfl, hH, Sub.refl _ _, hc, ⟨he.1, he.2, ho⟩, fun _ => rfl⟩
  ·cases h
 have row : ∀ {k : Nat} {r : Row}, H.rows k = some r → Flat r.es := fun hk => (hH.rows _ _ hk).flat
 cases c with
 | own k =>
  simp only [Heap.shareOne, Option.map_eq_some_iff] at h
  obtain ⟨r, hr, h⟩ := h
  cases h
  obtain ⟨E', e1, e2, e3, hd, e4, e5, e6⟩ := share_row hH hr
  refine ⟨E', e1, e2, e3, ?_, ⟨rfl, rfl, rfl⟩, fun _ => rfl⟩
  simp only [RC] at hc ⊢
  have hu := hc.2 hd e4
  rcases e6 with ⟨h6, h7⟩ | ⟨g, cap, h6, h7, h8, h9⟩
  ·exact ⟨row hr, none, 0, by rw [hu, h6, h7]; rfl, by simp [h7], .inl h7⟩
  ·exact ⟨row hr, _, cap, by rw [hu, h6], h7, .inr ⟨g, 0, r.sz, rfl, h8, h9⟩⟩
 | sub k lo n =>
  simp only [Heap.shareOne, Option.map_eq_some_iff] at h
  obtain ⟨r, hr, h⟩ := h
  cases h
  obtain ⟨E', e1, e2, e3, hd, e4, e5, e6⟩ := share_row hH hr
  refine ⟨E', e1, e2, e3, ?_, ⟨rfl, rfl, rfl⟩, fun _ => rfl⟩
  ·simp only [RC] at hc ⊢
   rcases hc.2 hd e4 with ⟨h6, rfl, rfl, hu⟩ | ⟨g, len, cap, a, h6, h7, h8, h9, _⟩
   ·exact ⟨(row hr).part _ _, none, 0, by rw [hu, h6]; simp, by simp, .inl (by simp)⟩
   ·rcases e6 with ⟨h10, _⟩ | ⟨g', cap', h10, h11, h12, h13⟩
    ·rw [h10] at h6; cases h6
    ·rw [h10] at h6; cases h6
     have hlen : ((r.es.drop lo).take n).length = n := by simp; omega
     refine ⟨(row hr).part _ _, some a, cap - lo, by rw [h8, hlen], by rw [hlen]; omega, ?_⟩
     rcases h9 with h9 | h9
     ·exact .inl (by simp [h9])
     ·exact .inr ⟨g, lo * r.sz, r.sz, by rw [h9, e5], h12, by have := (h13.drop lo).take n; simpa using this⟩
 | nil =>
  simp only [Heap.shareOne, Option.some.injEq, Prod.mk.injEq] at h
  obtain ⟨rfl, rfl⟩ := h
  refine ⟨E, rfl, hH, Sub.refl _ _, ?_, ⟨rfl, rfl, rfl⟩, fun _ => rfl⟩
  simp only [RC] at hc ⊢
  exact ⟨Flat.nil, none, 0, hc, by simp, .inl trivial⟩
 | ow sz es => simp [Heap.shareOne] at h
 | bx cs => simp [Heap.shareOne] at h
 | _ => exact plain rfl hc h
theorem share_ok : ∀ {cs cs' : List Cell} {H H' : Heap} {E : Env} {us : List Value} (_ : RelH F H E) (_ : H.share cs = some (H', cs')) (_ : RCs E cs us) (_ : ∀ k ∈ cnames cs, H.used k = true),
  ∃ E', E'.w = E.w ∧ RelH F H' E' ∧ Sub E E' (fun k => H.used k = true) ∧ RCs E' cs' us ∧ (cnames cs' = [] ∧ cclean cs' = true ∧ noOw cs' = true) ∧ (∀ k, H.used k = H'.used k)
 | [], cs', H, H', E, us, hH, h, hr, hn => by
  simp [Heap.share] at h
  obtain ⟨rfl, rfl⟩ := h
  exact ⟨E, rfl, hH, Sub.refl _ _, hr, ⟨rfl, rfl, rfl⟩, fun _ => rfl⟩
 | c :: cs, cs', H, H', E, us, hH, h, hr, hn => by
  simp only [RCs] at hr
  obtain ⟨u, us', rfl, h1, h2⟩ := hr
  simp only [cnames, List.mem_append] at hn
  unfold Heap.share at h
  split at h
  ·rename_i H1 c' hc
   split at h
   ·rename_i H2 cs2 hcs
    cases h
    obtain ⟨E1, a1, a2, a3, a4, a5, a6⟩ := share_one hH hc h1 (fun k hk => hn k (.inl hk))
    obtain ⟨E2, b1, b2, b3, b4, b5, b6⟩ := share_ok a2 hcs (h2.sub a3 (fun k hk => hn k (.inr hk))) (fun k hk => by rw [← a6]; exact hn k (.inr hk))
    refine ⟨E2, b1.trans a1, b2, a3.trans ⟨b3.S, b3.mem, fun k hk => b3.hdrE k (by rw [← a6]; exact hk), fun k hk => b3.pt k (by rw [← a6]; exact hk), fun k hk => b3.sz k (by rw [← a6]; exact hk)⟩, ?_, by simp [cnames, cclean, noOw, a5, b5], fun k => (a6 k).trans (b6 k)⟩
    simp only [RCs]
    exact ⟨u, us', rfl, a4.sub b3 (fun k hk => by rw [a5.1] at hk; cases hk), b4⟩
   ·cases h
  ·cases h
theorem sub_used {H : Heap} (h : ∀ k, H.used k = H'.used k) (s : Sub E E' (fun k => H'.used k = true)) : Sub E E' (fun k => H.used k = true) :=
 ⟨s.S, s.mem, fun k hk => s.hdrE k (by rw [← h]; exact hk), fun k hk => s.pt k (by rw [← h]; exact hk), fun k hk => s.sz k (by rw [← h]; exact hk)⟩
variable {y : Operand} {t : TypeId}
theorem done_store_ptr (hH : RelH F H E) (hρ : RhoOk H E ρ ev) {o : Oper} {z : Operand} (ho : o.op = .store t y z) (hy : ρ y = some (.v (.one (.ptr k j)))) {cs : List Cell} (hk : H.boxes k = some cs) {x : V} (hz : ρ z = some (.v x))
  {ag : Bool} (hs : shape P t = some (ag, x.cells.length)) (hl : j + x.cells.length ≤ cs.length) (hq : Q none { H with boxes := upd H.boxes k (some (splice cs j x.cells)) }) : Done P F H E (execOp ev o) Q := by
 have hv := (hρ y _ hy).1
 obtain ⟨g, us, hb, hr, hat, hth⟩ := hH.boxes k cs hk
 simp only [RSlot, RV, RC] at hv
 have hp := hv.2 g (hH.pt k g hb)
 obtain ⟨hx, hn⟩ := hρ z _ hz
 obtain ⟨vs, hrx, hvs⟩ := RV.cells hx
 have hvl := hrx.length
 have hul := hr.length
 have hrun := store_ok (P := P) hs (b := g) (o := j) hvs hvl hrx.one (fun i hi => by have := hth (j + i) (by omega); simpa using this)
 have honly := setCells_only g vs j E.w
 have hat' := range_splice (j := j) hat (by omega : j + vs.length ≤ us.length)
 simp only [Nat.zero_add] at hat'
 obtain ⟨b1, b2⟩ := hH.setBox hk hb honly (hr.splice hrx (j := j)) (fun i hi => (cnames_splice hi).elim ((hH.usedB k cs hk).2 i) (hn i)) hat' (by rw [splice_length hl]; exact World.there_setCells hth g j vs)
 refine ⟨.skip, _, none, _, ?_, hq, b1, b2, fun _ h => h, rfl⟩
 simp [execOp, ho, hp, hrun]
theorem take_add (a F : List α) (m : Nat) : (a ++ F).take (a.length + m) = a ++ F.take m := by
 rw [List.take_append, List.take_of_length_le (by omega), Nat.add_sub_cancel_left]
theorem drop_add (a F : List α) (m : Nat) : (a ++ F).drop (a.length + m) = F.drop m := by
 rw [List.drop_append, List.drop_of_length_le (by omega), Nat.add_sub_cancel_left, List.nil_append]
theorem flatten_set (hl : ∀ e ∈ es, e.length = sz) {e : List Cell} (hi : i < es.length) (he : e.length = sz) : (es.set i e).flatten = splice es.flatten (i * sz) e := by
 induction es generalizing i with
 | nil => simp at hi
 | cons a es ih =>
  have ha : a.length = sz := hl a (by simp)
  cases i with
  | zero =>
   simp only [List.set_cons_zero, List.flatten_cons, splice, Nat.zero_mul, List.take_zero, List.nil_append, Nat.zero_add]
   rw [he, ← ha]
   simp
  | succ i =>
   have := ih (fun e h => hl e (by simp [h])) (i := i) (by simpa using hi)
   simp only [List.set_cons_succ, List.flatten_cons, this, splice]
   have h1 : (i + 1) * sz = a.length + i * sz := by rw [Nat.add_mul, ha]; omega
   rw [h1, take_add, Nat.add_assoc, drop_add]
   simp [List.append_assoc]
theorem flatten_seg (h1 : ∀ e ∈ es, e.length = sz) {e : List Cell} (he : es[i]? = some e) : (es.flatten.drop (i * sz)).take sz = e := by
 induction es generalizing i with
 | nil => simp at he
 | cons a es ih =>
  have ha : a.length = sz := h1 a (by simp)
  cases i with
  | zero => simp at he; subst he; simp [← ha]
  | succ i =>
   have := ih (fun e h => h1 e (by simp [h])) (i := i) (by simpa using he)
   rw [List.flatten_cons, show (i + 1) * sz = a.length + i * sz by rw [Nat.add_mul, ha]; omega, drop_add]
   exact this
theorem store_row {H : Heap} (hH : RelH F H E) (hk : H.rows k = some r) {e : List Cell} (he : r.es[i]? = some e) {u0 : Value} (hv : RC E (.ep k i j) u0) {vs : List Value} {bn : List Nat} (a4 : RXCs E cs' vs bn)
  (a5 : cnames cs' = [] ∧ cclean cs' = true) (hbn : bn.Nodup) (hfree : ∀ b ∈ bn, (∀ c, ¬ E.S c b) ∧ (∀ j, ¬ Own E j b) ∧ b < E.w.heap.size ∧ (F.w0.heap.size ≤ b ∨ F.T b)) {ag : Bool} (hs : shape P t = some (ag, cs'.length)) (hl : j + cs'.length ≤ e.length)
(hvs : u.cells = vs.toArray) : ∃ E', (Instr.storeAt t u0 u).run P E.w = .ok () E'.w ∧ RelH F { H with rows := upd H.rows k (some { r with es := r.es.set i (MG.splice e j cs') }) } E' ∧ Sub E E' (fun k => H.used k = true) := by
 obtain ⟨h1, h2, hd, h3, h4, h5⟩ := hH.rows k r hk
 simp only [RC] at hv
 obtain ⟨g, len, cap, hg, hlt, hu⟩ := hv.2 hd h3
 have hlen' := a4.length
 have hei : e.length = r.sz := h1 e (List.mem_of_getElem? he)
 have hil : i < r.es.length := (List.getElem?_eq_some_iff.1 he).1
 rcases h5 with ⟨h6, _⟩ | ⟨g', cap', bs0, h6, h7, h8, h9, h10⟩
 ·rw [h6] at hg; cases hg
 ·rw [h6] at hg; cases hg
  have hmul : (i + 1) * r.sz ≤ cap * r.sz := Nat.mul_le_mul_right _ (by omega)
  rw [Nat.add_mul] at hmul
  have hrun := store_ok (P := P) (E := E) hs (b := g) (o := i * r.sz + j) hvs hlen' a4.one (fun q hq' => by
   have := h8 (i * r.sz + j + q) (by omega)
   simpa using this)
  have honly := setCells_only g vs (i * r.sz + j) E.w
  obtain ⟨us, f1, f2, f3⟩ := h9.flat
  have fl := f1.length
  have hflat : (r.es.set i (MG.splice e j cs')).flatten = MG.splice r.es.flatten (i * r.sz + j) cs' := by
   rw [flatten_set h1 hil (by rw [splice_length hl]; exact hei)]
   have hflen : r.es.flatten.length = r.es.length * r.sz := by rw [← fl]; exact f2
   have hmul2 : (i + 1) * r.sz ≤ r.es.length * r.sz := Nat.mul_le_mul_right _ hil
   rw [Nat.add_mul] at hmul2
   apply List.ext_getElem?
   intro q
   have hseg : ∀ m, m < r.sz → r.es.flatten[i * r.sz + m]? = e[m]? := by
    intro m hm
    have := flatten_seg h1 he
    rw [← this, List.getElem?_take, if_pos hm, List.getElem?_drop]
   have g1 := splice_get (cs := r.es.flatten) (new := cs') (j := i * r.sz + j) (by rw [hflen]; omega) q
   have g2 := splice_get (cs := r.es.flatten) (new := MG.splice e j cs') (j := i * r.sz) (by rw [splice_length hl, hflen]; omega) q
   rw [g1, g2, splice_length hl]
   by_cases c1 : i * r.sz + j ≤ q ∧ q < i * r.sz + j + cs'.length
   ·rw [if_pos (by omega), if_pos c1, splice_get hl, if_pos (by omega)]
    congr 1; omega
   ·rw [if_neg c1]
    by_cases c2 : i * r.sz ≤ q ∧ q < i * r.sz + e.length
    ·rw [if_pos c2, splice_get hl, if_neg (by omega), ← hseg _ (by omega)]
     congr 1; omega
    ·rw [if_neg c2]
  have hgS := (hH.own k g (.inl (by rw [h10]; simp))).1
  have hndk := hH.nodup k
  rw [h10] at hndk
  obtain ⟨b1, b2, b3, hbs, hsp⟩ := f1.splice a4 (j := i * r.sz + j)
  have hsub : (b1 ++ b3).Sublist bs0 := by
   rw [hbs]; exact List.Sublist.append (List.Sublist.refl _) (List.sublist_append_right _ _)
  have hfr : ∀ b ∈ bn, b ∉ g :: bs0 := fun b hb h => (hfree b hb).2.1 k (.inl (by rw [h10]; exact h))
  have hnd : (g :: (b1 ++ bn ++ b3)).Nodup := by
   have h0 : (g :: (b1 ++ b3)).Nodup := hndk.sublist (hsub.cons_cons g)
   rw [List.nodup_cons] at h0 ⊢
   obtain ⟨x1, x2⟩ := h0
   obtain ⟨y1, y2, y3⟩ := List.nodup_append.1 x2
   have o1 : ∀ b ∈ b1, b ∈ bs0 := fun b hb => by rw [hbs]; simp [hb]
   have o3 : ∀ b ∈ b3, b ∈ bs0 := fun b hb => by rw [hbs]; simp [hb]
   refine ⟨fun h => ?_, ?_⟩
   ·simp only [List.mem_append] at h x1
    rcases h with (h | h) | h
    ·exact x1 (.inl h)
    ·exact hfr g h (by simp)
    ·exact x1 (.inr h)
   ·refine List.nodup_append.2 ⟨List.nodup_append.2 ⟨y1, hbn, fun a ha b hb e => ?_⟩, y2, fun a ha b hb e => ?_⟩
    ·subst e; exact hfr a hb (by simp [o1 a ha])
    ·subst e
     rcases List.mem_append.1 ha with ha | ha
     ·exact y3 a ha a hb rfl
     ·exact hfr a ha (by simp [o3 a hb])
  have hrr : RXRow { E with w := E.w.setCells g (i * r.sz + j) vs } g 0 r.sz (r.es.set i (MG.splice e j cs')) (b1 ++ bn ++ b3) := by
   refine RXRow.of_flat (us := MG.splice us (i * r.sz + j) vs) (fun e' he' => ?_) ?_ ?_
   ·rcases List.mem_or_eq_of_mem_set he' with h | h
    ·exact h1 e' h
    ·rw [h, splice_length hl]; exact hei
   ·rw [hflat]
    refine RXCs.sub (N := fun _ => True) (Sub.only honly hgS _) (fun b hb => honly.block b fun e' => ?_) (fun _ _ => trivial) hsp
    subst e'
    exact (List.nodup_cons.1 hnd).1 hb
   ·have hmul2 : (i + 1) * r.sz ≤ r.es.length * r.sz := Nat.mul_le_mul_right _ hil
    rw [Nat.add_mul] at hmul2
    have := range_splice (j := i * r.sz + j) f3 (by omega : i * r.sz + j + vs.length ≤ us.length)
    simpa using this
  obtain ⟨c1, c2⟩ := hH.setRow (r' := { r with es := r.es.set i (MG.splice e j cs') }) hk (by rw [h3, h6]) honly (by simp) rfl (fun e' he' => by
    rcases List.mem_or_eq_of_mem_set he' with h | h
    ·exact h1 e' h
    ·rw [h, splice_length hl]; exact hei) (by
    refine Flat.iff.2 fun e' he' => ?_
    rcases List.mem_or_eq_of_mem_set he' with h | h
    ·exact Flat.iff.1 h2 e' h
    ·rw [h]
     have he2 := Flat.iff.1 h2 e (List.mem_of_getElem? he)
     refine ⟨cclean_iff.2 fun c hc => ?_, cnames_iff.2 fun c hc => ?_⟩
     ·rcases mem_splice hc with h | h
      ·exact cclean_iff.1 he2.1 c h
      ·exact cclean_iff.1 a5.2 c h
     ·rcases mem_splice hc with h | h
      ·exact cnames_iff.1 he2.2 c h
      ·exact cnames_iff.1 a5.1 c h) (World.there_setCells h8 g _ vs) hrr hnd (fun b hb => by
    simp only [List.mem_append] at hb
    rcases hb with (hb | hb) | hb
    ·exact .inl (by rw [h10, hbs]; simp [hb])
    ·exact .inr (hfree b hb)
    ·exact .inl (by rw [h10, hbs]; simp [hb]))
  refine ⟨_, ?_, c1, c2⟩
  rw [h4] at hu
  rw [hu]; exact hrun
theorem done_store_ep (hH : RelH F H E) (hρ : RhoOk H E ρ ev) {o : Oper} {z : Operand} (ho : o.op = .store t y z) (hy : ρ y = some (.v (.one (.ep k i j)))) {x : V} (hz : ρ z = some (.v x))
  (hsh : H.share x.cells = some (H', cs')) (hk : H'.rows k = some r) {e : List Cell} (he : r.es[i]? = some e)
  {ag : Bool} (hs : shape P t = some (ag, x.cells.length)) (hl : j + cs'.length ≤ e.length) (hq : Q none { H' with rows := upd H'.rows k (some { r with es := r.es.set i (splice e j cs') }) }) : Done P F H E (execOp ev o) Q := by
 have hv0 := (hρ y _ hy).1
 obtain ⟨hx, hn⟩ := hρ z _ hz
 obtain ⟨vs, hrx, hvs⟩ := RV.cells hx
 obtain ⟨E1, a1, a2, a3, a4, a5, a6⟩ := share_ok hH hsh hrx hn
 have hv : RC E1 (.ep k i j) (ev y) := RC.sub a3 (fun c hc => (hρ y _ hy).2 c (by simpa [Slot.names, V.names, V.cells, cnames] using hc)) hv0
 have hlen : cs'.length = x.cells.length := by rw [← a4.length, hrx.length]
 obtain ⟨E2, b0, b1, b2⟩ := store_row (P := P) a2 hk he hv (RXCs.of a5.2.2 a4) ⟨a5.1, a5.2.1⟩ List.nodup_nil (fun b hb => by cases hb) (by rw [hlen]; exact hs) hl hvs
 refine ⟨.skip, E2, none, _, ?_, hq, b1, a3.trans (sub_used a6 b2), fun c hc => by have := a6 c; rw [hc] at this; exact this.symm, rfl⟩
 rw [← a1]
 simp [execOp, ho, b0]
end
def Heap.lenOf (H : Heap) : Cell → Option Nat
 | .nil => some 0
 | .sl _ es => some es.length
 | .own k => match H.rows k with
  | some r => some r.es.length
  | none => H.lens k
 | .sub k _ n => if (H.rows k).isSome then some n else none
 | _ => none
def Heap.cut (H : Heap) (c : Cell) (l h : Nat) : Option Cell :=
 match c with
 | .nil => if l = 0 ∧ h = 0 then some .nil else none
 | .sl g es => if l ≤ h ∧ h ≤ es.length then some (.sl g ((es.drop l).take (h - l))) else none
 | .own k => match H.rows k with
  | some r => if l ≤ h ∧ h ≤ r.es.length then some (.sub k l (h - l)) else none
  | none => none
 | .sub k lo n => if (H.rows k).isSome ∧ l ≤ h ∧ h ≤ n then some (.sub k (lo + l) (h - l)) else none
 | _ => none
def Heap.wide (H : Heap) (n : Nat) : Cell → Prop
 | .sl _ es => ∀ e ∈ es, e.length = n
 | .own k | .sub k _ _ => ∀ r, H.rows k = some r → r.sz = n
 | _ => True
def capCells (ρ : Rho) : List Operand → Option (List Cell)
 | [] => some []
 | x :: xs => match ρ x, capCells ρ xs with
  | some (.v (.one c)), some cs => some (c :: cs)
  | _, _ => none
def fillA (place : Nat → Option (Nat × Nat)) (cs : List Cell) : List (Nat × V) → Option (List Cell)
 | [] => some cs
 | (i, x) :: rest => match place i with
  | none => none
  | some (off, size) => if x.cells.length = size ∧ off + size ≤ cs.length then fillA place (splice cs off x.cells) rest else none
def partsV (ρ : Rho) : List (Nat × Operand) → Option (List (Nat × V))
 | [] => some []
 | (i, x) :: xs => match ρ x, partsV ρ xs with
  | some (.v v), some vs => some ((i, v) :: vs)
  | _, _ => none
def builtA (P : Program) (t : TypeId) (parts : List (Nat × V)) : Option (List Cell) :=
 match P.info? t, P.underlying t with
 | some it, some (.struct fields) =>
  match it.zero, fields.toList.mapM (fun f => (P.info? f.type).map fun i => (f.offset, i.size)) with
  | some z, some places => match cellsOfVals z.cells.toList with
   | some zc => fillA (places[·]?) zc parts
   | none => none
  | _, _ => none
 | _, _ => none
section
variable {P : Program} {F : Fix} {H : Heap} {E : Env} {ρ : Rho} {ev : Operand → Value} {Q : Option Slot → Heap → Prop}
variable {el t : TypeId} {y : Operand}
theorem done_len (hH : RelH F H E) (hρ : RhoOk H E ρ ev) {o : Oper} (ho : o.op = .call { callee := .builtin .len, args := #[y], argTypes := #[t] }) (ht : P.underlying t = some (.slice el))
  {c : Cell} (hy : ρ y = some (.v (.one c))) (hn : H.lenOf c = some n) (hq : Q (some (im (.int .i64 n))) H) : Done P F H E (execOp ev o) Q := by
 have hv := (hρ y _ hy).1
 have key : ∃ a cap, ev y = .slice a n cap := by
  simp only [RSlot, RV] at hv
  cases c with
  | nil => simp [Heap.lenOf] at hn; subst hn; simp only [RC] at hv; exact ⟨_, _, hv⟩
  | sl g es => simp [Heap.lenOf] at hn; subst hn; simp only [RC] at hv; obtain ⟨_, a, cap, hu, _⟩ := hv; exact ⟨_, _, hu⟩
  | own k =>
   simp only [RC] at hv
   cases hr : H.rows k with
   | some r =>
    simp only [Heap.lenOf, hr, Option.some.injEq] at hn
    subst hn
    obtain ⟨_, _, hd, h3, _, h5⟩ := hH.rows k r hr
    rw [hv.2 hd h3]
    rcases h5 with ⟨h6, h7, _⟩ | ⟨g, cap, _, h6, _⟩
    ·exact ⟨none, 0, by rw [h6, h7]; rfl⟩
    ·exact ⟨_, _, h6⟩
   | none =>
    simp only [Heap.lenOf, hr] at hn
    obtain ⟨_, a, cap, h⟩ := hH.lens k n hn
    exact ⟨a, cap, hv.2 _ h⟩
  | sub k lo m =>
   simp only [Heap.lenOf] at hn
   split at hn
   ·rename_i hs
    cases hn
    obtain ⟨r, hr⟩ := Option.isSome_iff_exists.1 hs
    obtain ⟨_, _, hd, h3, _, _⟩ := hH.rows k r hr
    simp only [RC] at hv
    rcases hv.2 hd h3 with ⟨h6, _, h8, h9⟩ | ⟨_, _, _, _, _, _, h9, _⟩
    ·exact ⟨none, 0, by rw [h9, h6, h8]⟩
    ·exact ⟨_, _, h9⟩
   ·cases hn
  | _ => simp [Heap.lenOf] at hn
 obtain ⟨a, cap, hu⟩ := key
 refine Done.same hH (u := .int .i64 n) ?_ hq (by simp [RSlot, RV, RC, isImm]) (fun k hk => by simp [Slot.names, V.names, V.cells, cnames, Cell.names] at hk)
 simp [execOp, ho, resolve, invoke, builtin, Builtin.len_, run_underlying ht, hu, goInt]
def bound (ρ : Rho) (d : Nat) : Option Operand → Nat → Prop
 | none, n => n = d
 | some x, n => ∃ s k, ρ x = some s ∧ s.val? = some (.int k n)
theorem run_slice (t el : TypeId) (ht : P.underlying t = some (.slice el)) (ti : TypeInfo) (hti : P.info? el = some ti) (w : World) (a : Option Addr) (len cap l h : Nat) (lo hi : Option Operand) (hρ : RhoOk H E ρ ev)
  (hl : bound ρ 0 lo l) (hh : bound ρ len hi h) (h1 : l ≤ h) (h2 : h ≤ len) (h3 : len ≤ cap) :
  (Instr.sliceAt t (.slice a len cap) (lo.map ev) (hi.map ev) none).run P w = .ok (.slice (if cap = l then a else a.map (·.add (l * ti.size))) (h - l) (cap - l)) w := by
 have hsz : (sizeOf el).run P w = .ok ti.size w := by simp [sizeOf, typeInfo, hti]
 have bl : ∀ y : Nat, ∀ n : Nat, n ≤ y → ∀ code k, (Instr.sliceBound (.int k n) y code).run P w = .ok n w := fun y n hn code k => by
  have : (0 : Int) ≤ n ∧ (n : Int) ≤ y := by omega
  simp [Instr.sliceBound, asIntOf, hn]
 have hlo : ∀ x, lo = some x → ∃ k, ev x = .int k l := fun x e => by subst e; obtain ⟨s, k, a1, a2⟩ := hl; exact ⟨k, im_ok hρ a1 a2⟩
 have hhi : ∀ x, hi = some x → ∃ k, ev x = .int k h := fun x e => by subst e; obtain ⟨s, k, a1, a2⟩ := hh; exact ⟨k, im_ok hρ a1 a2⟩
 cases lo with
 | none =>
  simp only [bound] at hl; subst hl
  cases hi with
  | none => simp only [bound] at hh; subst hh; simp [Instr.sliceAt, Instr.slice, run_underlying ht, Instr.sliceBounds, hsz]
  | some y => obtain ⟨k, hy⟩ := hhi y rfl; simp [Instr.sliceAt, Instr.slice, run_underlying ht, Instr.sliceBounds, hsz, hy, bl cap h (by omega)]
 | some x =>
  obtain ⟨k, hx⟩ := hlo x rfl
  cases hi with
  | none => simp only [bound] at hh; subst hh; simp [Instr.sliceAt, Instr.slice, run_underlying ht, Instr.sliceBounds, hsz, hx, bl h l h1]
  | some y => obtain ⟨k', hy⟩ := hhi y rfl; simp [Instr.sliceAt, Instr.slice, run_underlying ht, Instr.sliceBounds, hsz, hx, hy, bl cap h (by omega), bl h l h1]
variable {c' : Cell} {ti : TypeInfo} {hi : Option Operand}
theorem done_slice (hH : RelH F H E) (hρ : RhoOk H E ρ ev) {o : Oper} {lo : Option Operand} (ho : o.op = .slice t y lo hi none) (ht : P.underlying t = some (.slice el)) (hti : P.info? el = some ti)
  {c : Cell} (hy : ρ y = some (.v (.one c))) {len l h : Nat} (hlen : H.lenOf c = some len) (hl : bound ρ 0 lo l) (hh : bound ρ len hi h) (hc : H.cut c l h = some c') (hw : H.wide ti.size c) (hq : Q (some (.v (.one c'))) H) : Done P F H E (execOp ev o) Q := by
 obtain ⟨hv, hn⟩ := hρ y _ hy
 have key : ∃ a cap, ev y = .slice a len cap ∧ len ≤ cap ∧ l ≤ h ∧ h ≤ len ∧ RC E c' (.slice (if cap = l then a else a.map (·.add (l * ti.size))) (h - l) (cap - l)) ∧ c'.names ⊆ c.names := by
  simp only [RSlot, RV] at hv
  cases c with
  | nil =>
   simp [Heap.lenOf] at hlen; subst hlen
   simp only [Heap.cut] at hc
   split at hc
   ·rename_i h0; cases hc; obtain ⟨rfl, rfl⟩ := h0
    simp only [RC] at hv ⊢
    exact ⟨none, 0, hv, by omega, by omega, by omega, by simp, fun _ h => h⟩
   ·cases hc
  | sl g es =>
   simp [Heap.lenOf] at hlen; subst hlen
   simp only [Heap.cut] at hc
   split at hc
   ·rename_i h0; cases hc
    simp only [RC] at hv ⊢
    obtain ⟨hf, a, cap, hu, hcap, hr⟩ := hv
    refine ⟨a, cap, hu, hcap, h0.1, h0.2, ?_, fun k hk => hk⟩
    ·have hl' : ((es.drop l).take (h - l)).length = h - l := by simp; omega
     refine ⟨hf.part _ _, _, _, by rw [hl'], by rw [hl']; omega, ?_⟩
     rcases hr with hr | ⟨b, p, sz, ha, hS, hr⟩
     ·exact .inl (by simp [hr])
     ·by_cases e : cap = l
      ·left; simp; omega
      ·by_cases e0 : h - l = 0
       ·left; simp; omega
       ·right
        have hsz : sz = ti.size := by
         have hlt : 0 < es.length := by omega
         have := hr.get 0 es[0] (List.getElem?_eq_getElem hlt)
         rw [← this.1]; exact hw _ (List.getElem_mem hlt)
        refine ⟨b, p + l * sz, sz, ?_, hS, (hr.drop l).take _⟩
        rw [if_neg e, ha, hsz]; simp [Addr.add_mid]
   ·cases hc
  | own k =>
   cases hr : H.rows k with
   | none => simp only [Heap.cut, hr] at hc; cases hc
   | some r =>
   simp only [Heap.lenOf, hr, Option.some.injEq] at hlen
   subst hlen
   simp only [Heap.cut, hr] at hc
   split at hc
   ·rename_i h0; cases hc
    obtain ⟨_, _, hd, h3, h4, h5⟩ := hH.rows k r hr
    simp only [RC] at hv ⊢
    have hu := hv.2 hd h3
    have hrs := hw r hr
    rcases h5 with ⟨h6, h7, h10⟩ | ⟨g, cap, bs0, h6, h7, h8, h9, h10⟩
    ·rw [h7] at h0; simp at h0
     obtain ⟨rfl, rfl⟩ : l = 0 ∧ h = 0 := by omega
     refine ⟨none, 0, by rw [hu, h6, h7]; rfl, by simp [h7], by omega, by omega, ⟨rfl, fun hd' e => ?_⟩, fun _ h => h⟩
     rw [h3] at e; cases e; left; simp [h6]
    ·refine ⟨_, cap, by rw [hu, h6], h7, h0.1, h0.2, ⟨rfl, fun hd' e => ?_⟩, fun _ h => h⟩
     rw [h3] at e; cases e
     refine .inr ⟨g, _, cap, if cap = l then ⟨g, 0, none⟩ else ⟨g, l * ti.size, none⟩, h6, by omega, ?_, ?_, fun e => ?_⟩
     ·by_cases e : cap = l
      ·simp [e]
      ·simp [e, Addr.add_mid]
     ·by_cases e : cap = l
      ·left; omega
      ·right; rw [if_neg e, h4, hrs]
     ·subst e; simp
   ·cases hc
  | sub k p n =>
   simp only [Heap.lenOf] at hlen
   split at hlen
   ·rename_i hs
    cases hlen
    obtain ⟨r, hr⟩ := Option.isSome_iff_exists.1 hs
    simp only [Heap.cut] at hc
    split at hc
    ·rename_i h0; cases hc
     obtain ⟨_, _, hd, h3, h4, h5⟩ := hH.rows k r hr
     simp only [RC] at hv ⊢
     have hrs := hw r hr
     rcases hv.2 hd h3 with ⟨h6, h7, h8, h9⟩ | ⟨g, m, cap, a, h6, h7, h8, h9, h10⟩
     ·obtain ⟨rfl, rfl⟩ : l = 0 ∧ h = 0 := by omega
      subst h7
      refine ⟨none, 0, by rw [h9, h6, h8], by omega, by omega, by omega, ⟨rfl, fun hd' e => ?_⟩, fun _ h => h⟩
      rw [h3] at e; cases e; left; simp [h6]
     ·have hmc : m ≤ cap := by
       rcases h5 with ⟨h11, _⟩ | ⟨_, _, _, h11, h12, _⟩
       ·rw [h11] at h6; cases h6
       ·rw [h11] at h6; cases h6; exact h12
      refine ⟨_, cap - p, h8, by omega, h0.2.1, h0.2.2, ⟨rfl, fun hd' e => ?_⟩, fun _ h => h⟩
      rw [h3] at e; cases e
      refine .inr ⟨g, m, cap, if cap - p = l then a else a.add (l * ti.size), h6, by omega, ?_, ?_, fun e => ?_⟩
      ·by_cases e : cap - p = l
       ·simp [e]; omega
       ·simp [e]; omega
      ·by_cases e : cap - p = l
       ·left; omega
       ·rcases h9 with h9 | h9
        ·left; omega
        ·right; rw [if_neg e, h9, Addr.add_mid, Nat.add_mul, h4, hrs]
      ·have e1 : p = 0 := by omega
       have e2 : l = 0 := by omega
       rw [h10 e1, e2]; simp [Addr.add_mid]
    ·cases hc
   ·cases hlen
  | _ => simp [Heap.lenOf] at hlen
 obtain ⟨a, cap, h1, h2, h3, h4, h5, h6⟩ := key
 refine Done.same hH (u := .slice (if cap = l then a else a.map (·.add (l * ti.size))) (h - l) (cap - l)) ?_ hq h5 (fun k hk => hn k ?_)
 ·have := run_slice t el ht ti hti E.w a len cap l h lo hi hρ hl hh h3 h4 h2
  simp [execOp, ho, h1, this]
 ·simp only [Slot.names, V.names, V.cells, cnames, List.append_nil] at hk ⊢
  exact h6 hk
theorem capCells_ok (hρ : RhoOk H E ρ ev) : ∀ {xs : List Operand} {cs : List Cell}, capCells ρ xs = some cs → RCs E cs (xs.map ev) ∧ ∀ k ∈ cnames cs, H.used k = true
 | [], cs, h => by simp [capCells] at h; subst h; exact ⟨by simp only [RCs, List.map_nil], fun k hk => by cases hk⟩
 | x :: xs, cs, h => by
  unfold capCells at h
  split at h
  ·rename_i c cs' hc hcs
   cases h
   obtain ⟨h1, h2⟩ := hρ x _ hc
   obtain ⟨h3, h4⟩ := capCells_ok hρ hcs
   refine ⟨by simp only [RCs, List.map_cons]; exact ⟨_, _, rfl, h1, h3⟩, fun k hk => ?_⟩
   simp only [cnames, List.mem_append] at hk
   rcases hk with hk | hk
   ·exact h2 k (by simpa [Slot.names, V.names, V.cells, cnames] using hk)
   ·exact h4 k hk
  ·cases h
theorem done_makeFunc (hH : RelH F H E) (hρ : RhoOk H E ρ ev) {o : Oper} {f : FuncId} {caps : Array Operand} (ho : o.op = .makeFunc (.func f) #[] caps) {cs : List Cell} (hc : capCells ρ caps.toList = some cs) (hq : Q (some (.v (.one (.clo f cs)))) H) :
  Done P F H E (execOp ev o) Q := by
 obtain ⟨h1, h2⟩ := capCells_ok hρ hc
 refine Done.same hH (u := .func (.func f) #[] (caps.map ev)) (by simp [execOp, ho, Instr.makeFunc]) hq ?_ (fun k hk => h2 k ?_)
 ·simp only [RSlot, RV, RC]
  exact ⟨caps.toList.map ev, by congr 1; apply Array.ext'; simp, h1⟩
 ·simpa [Slot.names, V.names, V.cells, cnames, Cell.names] using hk
theorem partsV_ok (hρ : RhoOk H E ρ ev) : ∀ {xs : List (Nat × Operand)} {vs : List (Nat × V)}, partsV ρ xs = some vs →
  ∃ us : List (Nat × Value), (xs.map fun p => (p.1, ev p.2)) = us ∧ us.length = vs.length ∧ (∀ i (h : i < vs.length) (h' : i < us.length), us[i].1 = vs[i].1 ∧ RV E vs[i].2 us[i].2) ∧ ∀ p ∈ vs, ∀ k ∈ p.2.names, H.used k = true
 | [], vs, h => by simp [partsV] at h; subst h; exact ⟨[], rfl, rfl, fun i h => by simp at h, fun p hp => by cases hp⟩
 | (i, x) :: xs, vs, h => by
  unfold partsV at h
  split at h
  ·rename_i v vs' hv hvs
   cases h
   obtain ⟨h1, h2⟩ := hρ x _ hv
   obtain ⟨us, g1, g2, g3, g4⟩ := partsV_ok hρ hvs
   refine ⟨(i, ev x) :: us, by simp [g1], by simp [g2], fun j hj hj' => ?_, fun p hp => ?_⟩
   ·cases j with
    | zero => exact ⟨rfl, h1⟩
    | succ j => simpa using g3 j (by simpa using hj) (by simpa using hj')
   ·rcases List.mem_cons.1 hp with rfl | hp
    ·exact h2
    ·exact g4 p hp
  ·cases h
theorem foldl_splice {off : Nat} {l : List Value} {base : Array Value} (h : off + l.length ≤ base.size) : (l.zipIdx.foldl (fun cs (x : Value × Nat) => cs.setIfInBounds (off + x.2) x.1) base).toList = splice base.toList off l := by
 obtain ⟨h1, h2⟩ := Great.foldl_set off l 0 base
 apply List.ext_getElem?
 intro k
 have := h2 k
 simp only [Nat.add_zero] at this
 rw [Array.getElem?_toList, this, splice_get (by simpa using h)]
 by_cases hk : off ≤ k ∧ k < off + l.length
 ·rw [if_pos ⟨hk.1, hk.2, by omega⟩, if_pos hk]
 ·rw [if_neg (fun h => hk ⟨h.1, h.2.1⟩), if_neg hk, Array.getElem?_toList]
theorem fill_ok {place : Nat → Option (Nat × Nat)} : ∀ {vs : List (Nat × V)} {cs cs' : List Cell} {us : List (Nat × Value)} {bs : List Value}, us.length = vs.length → (∀ i (h : i < vs.length) (h' : i < us.length), us[i].1 = vs[i].1 ∧ RV E vs[i].2 us[i].2) →
  RCs E cs bs → fillA place cs vs = some cs' → ∃ bs', Instr.fill place bs.toArray us = some bs'.toArray ∧ RCs E cs' bs'
 | [], cs, cs', us, bs, hl, _, hr, h => by
  simp [fillA] at h; subst h
  obtain rfl : us = [] := by simpa using hl
  exact ⟨bs, rfl, hr⟩
 | (i, x) :: vs, cs, cs', us, bs, hl, hp, hr, h => by
  cases us with
  | nil => simp at hl
  | cons u us =>
   have h0 := hp 0 (by simp) (by simp)
   simp at h0
   unfold fillA at h
   split at h
   ·cases h
   ·rename_i off size hpl
    split at h
    ·rename_i hc
     obtain ⟨ws, g1, g2⟩ := RV.cells h0.2
     have gl := g1.length
     have bl := hr.length
     obtain ⟨bs', r1, r2⟩ := fill_ok (us := us) (by simpa using hl) (fun j hj hj' => hp (j + 1) (by simpa using hj) (by simpa using hj')) (hr.splice g1 (j := off)) h
     refine ⟨bs', ?_, r2⟩
     obtain ⟨ui, uv⟩ := u
     simp only at h0 g2
     unfold Instr.fill
     rw [h0.1, hpl]
     simp only
     rw [if_neg (by simp [g2]; omega), ← r1]
     congr 1
     apply Array.ext'
     rw [← Array.foldl_toList, Array.toList_zipIdx, g2]
     have := foldl_splice (off := off) (l := ws) (base := bs.toArray) (by simp; omega)
     simpa using this
    ·cases h
variable {place : Nat → Option (Nat × Nat)}
theorem fillA_names : ∀ {vs : List (Nat × V)} {cs cs' : List Cell}, fillA place cs vs = some cs' → ∀ k ∈ cnames cs', k ∈ cnames cs ∨ ∃ p ∈ vs, k ∈ p.2.names
 | [], cs, cs', h, k, hk => by simp [fillA] at h; subst h; exact .inl hk
 | (i, x) :: vs, cs, cs', h, k, hk => by
  unfold fillA at h
  split at h
  ·cases h
  ·split at h
   ·rcases fillA_names h k hk with h1 | ⟨p, hp, h1⟩
    ·rcases cnames_splice h1 with h2 | h2
     ·exact .inl h2
     ·exact .inr ⟨(i, x), by simp, h2⟩
    ·exact .inr ⟨p, by simp [hp], h1⟩
   ·cases h
variable {parts : Array (Nat × Operand)}
theorem done_build (hH : RelH F H E) (hρ : RhoOk H E ρ ev) {o : Oper} (ho : o.op = .build t parts) {vs : List (Nat × V)} (hp : partsV ρ parts.toList = some vs) {cs : List Cell} (hb : builtA P t vs = some cs)
  (hq : Q (some (.v (.agg cs))) H) : Done P F H E (execOp ev o) Q := by
 obtain ⟨us, g1, g2, g3, g4⟩ := partsV_ok hρ hp
 unfold builtA at hb
 split at hb
 ·rename_i it fields hit hu
  split at hb
  ·rename_i z places hz hpl
   split at hb
   ·rename_i zc hzc
    have hz' := RCs.ofVals (E := E) hzc
    obtain ⟨bs', r1, r2⟩ := fill_ok g2 g3 hz'.1 hb
    have hbuilt : P.built t us = some bs'.toArray := by
     unfold Program.built
     simp only [hit, hu, hz, hpl]
     rw [← r1]
     congr 1
     funext x; simp
    refine Done.same hH (u := .agg bs'.toArray) ?_ hq ⟨bs', rfl, r2⟩ (fun k hk => ?_)
    ·have hr := run_build (P := P) E.w t (parts.map fun p => (p.1, ev p.2)) bs'.toArray (by rw [Array.toList_map, g1]; exact hbuilt)
     simp only [execOp, ho, Sem.run_bind, hr, Result.andThen_ok, Sem.run_pure]
    ·rcases fillA_names hb k hk with h | ⟨p, hp', h⟩
     ·rw [hz'.2] at h; cases h
     ·exact g4 p hp' k h
   ·cases hb
  ·cases hb
 ·cases hb
end
def Heap.shareAll (H : Heap) : List (List Cell) → Option (Heap × List (List Cell))
 | [] => some (H, [])
 | e :: es => match H.share e with
  | some (H1, e') => match H1.shareAll es with
   | some (H2, es') => some (H2, e' :: es')
   | none => none
  | none => none
def Heap.content (H : Heap) : Cell → Option (List (List Cell))
 | .nil => some []
 | .sl _ es => some es
 | .own k => (H.rows k).map fun r => r.es
 | .sub k lo n => (H.rows k).map fun r => (r.es.drop lo).take n
 | .imm (.string s) => some (s.data.toList.map fun b => [.imm (.int .u8 b.toNat)])
 | _ => none
def Heap.toGrow (H : Heap) : Cell → Option (Heap × List (List Cell))
 | .nil => some (H, [])
 | .own k => (H.rows k).map fun r => ({ H with rows := upd H.rows k none, lens := upd H.lens k (some r.es.length) }, r.es)
 | _ => none
section
variable {P : Program} {F : Fix} {H : Heap} {E : Env} {ρ : Rho} {ev : Operand → Value} {Q : Option Slot → Heap → Prop}
variable {E1 : Env} {H1 : Heap}
theorem Done.from {m : Sem Next} (s : Sub E E1 (fun k => H.used k = true)) (hu : ∀ k, H.used k = H1.used k) (hw : E1.w = E.w) (h : Done P F H1 E1 m Q) : Done P F H E m Q := by
 obtain ⟨r, E', x, H', h1, h2, h3, h4, h5, h6⟩ := h
 exact ⟨r, E', x, H', by rw [← hw]; exact h1, h2, h3, s.trans (sub_used hu h4), fun k hk => h5 k (by rw [← hu]; exact hk), h6⟩
theorem shareAll_ok : ∀ {es es' : List (List Cell)} {H H' : Heap} {E : Env} {us : List Value} (_ : RelH F H E) (_ : H.shareAll es = some (H', es')) (_ : RCs E es.flatten us) (_ : ∀ k ∈ cnames es.flatten, H.used k = true),
  ∃ E', E'.w = E.w ∧ RelH F H' E' ∧ Sub E E' (fun k => H.used k = true) ∧ RCs E' es'.flatten us ∧ (Flat es' ∧ pl es' = true) ∧ (∀ k, H.used k = H'.used k) ∧ es'.map List.length = es.map List.length
 | [], es', H, H', E, us, hH, h, hr, hn => by
  simp [Heap.shareAll] at h
  obtain ⟨rfl, rfl⟩ := h
  exact ⟨E, rfl, hH, Sub.refl _ _, hr, ⟨Flat.nil, rfl⟩, fun _ => rfl, rfl⟩
 | e :: es, es', H, H', E, us, hH, h, hr, hn => by
  rw [List.flatten_cons] at hr hn
  rw [cnames_append] at hn
  have h1 : RCs E e (us.take e.length) := by have := hr.take e.length; simpa using this
  have h2 : RCs E es.flatten (us.drop e.length) := by have := hr.drop e.length; simpa using this
  unfold Heap.shareAll at h
  split at h
  ·rename_i H1 e1 hc
   split at h
   ·rename_i H2 es2 hcs
    cases h
    obtain ⟨E1, a1, a2, a3, a4, a5, a6⟩ := share_ok hH hc h1 (fun k hk => hn k (List.mem_append.2 (.inl hk)))
    obtain ⟨E2, b1, b2, b3, b4, b5, b6, b7⟩ := shareAll_ok a2 hcs (h2.sub a3 (fun k hk => hn k (List.mem_append.2 (.inr hk)))) (fun k hk => by rw [← a6]; exact hn k (List.mem_append.2 (.inr hk)))
    have hlen : e1.length = e.length := by have x1 := a4.length; have x2 := h1.length; omega
    refine ⟨E2, b1.trans a1, b2, a3.trans (sub_used a6 b3), ?_, ⟨⟨by simp [rclean, a5.2.1, b5.1.1], by simp [rnames, a5.1, b5.1.2]⟩, by simp [pl, a5.2.2, b5.2]⟩, fun k => (a6 k).trans (b6 k), by simp [hlen, b7]⟩
    rw [List.flatten_cons]
    have := (a4.sub b3 (fun k hk => by rw [a5.1] at hk; cases hk)).append b4
    rwa [List.take_append_drop] at this
   ·cases h
  ·cases h
theorem done_newRow (hH : RelH F H E) {cap : Nat} {cur : Array Value} {e : TypeId} {m : Sem Next} {w1 : World} (hw : w1.heap = E.w.heap ∧ w1.os = E.w.os ∧ w1.tape = E.w.tape ∧ w1.output = E.w.output)
  (hm : m.run P E.w = .ok (.value (.slice (some ⟨E.w.heap.size, 0, none⟩) r.es.length cap)) (w1.alloc (.cells cur e)))
  (hk : H.used k = false) (hl : ∀ e ∈ r.es, e.length = r.sz) (hf : Flat r.es) {bn : List Nat} (hr : RXCs E r.es.flatten us bn) (hbn : bn.Nodup) (hfree : ∀ b ∈ bn, (∀ c, ¬ E.S c b) ∧ (∀ j, ¬ Own E j b) ∧ b < E.w.heap.size ∧ (F.w0.heap.size ≤ b ∨ F.T b))
  (hcur : cur.toList.take us.length = us) (hcap : r.es.length ≤ cap) (hsz : cur.size = cap * r.sz)
  (hq : Q (some (.v (.one (.own k)))) { H with rows := upd H.rows k (some r), made := upd H.made k true }) : Done P F H E m Q := by
 have c : Chg F E (w1.alloc (.cells cur e)) := by
  refine ⟨hw.2.1, hw.2.2.1, hw.2.2.2, by simp [hw.1], fun b hb hne => absurd ?_ hne⟩
  rw [heap_alloc_old w1 _ (h := by rw [hw.1]; exact hb), hw.1]
 have s := Sub.chg hH c (fun k => H.used k = true)
 have hsize : w1.heap.size = E.w.heap.size := by rw [hw.1]
 have hat : (w1.alloc (.cells cur e)).rangeAt E.w.heap.size 0 us := fun j v hv => by
  have := range_new w1 cur e
  rw [hsize] at this
  refine this j v ?_
  rw [← hcur, List.getElem?_take] at hv
  split at hv
  ·exact hv
  ·cases hv
 have hth : (w1.alloc (.cells cur e)).there E.w.heap.size 0 (cap * r.sz) := by
  have := there_new w1 cur e
  rwa [hsize, hsz] at this
 have hold : ∀ b, b < E.w.heap.size → (w1.alloc (.cells cur e)).heap[b]? = E.w.heap[b]? := fun b hb => by
  rw [heap_alloc_old w1 _ (h := by rw [hw.1]; exact hb), hw.1]
 obtain ⟨h1, h2⟩ := (hH.chg c).addRow (r := r) (hd := .slice (some ⟨E.w.heap.size, 0, none⟩) r.es.length cap) (bs := E.w.heap.size :: bn) hk hl hf
  (.inr ⟨_, cap, bn, rfl, hcap, hth, RXRow.of_flat hl (RXCs.sub (Sub.chg hH c (fun _ => True)) (fun b hb => hold b (hfree b hb).2.2.1) (fun _ _ => trivial) hr) hat, rfl⟩)
  (List.nodup_cons.2 ⟨fun h => by have := (hfree _ h).2.2.1; omega, hbn⟩)
  (fun g hg => by
   rcases List.mem_cons.1 hg with rfl | hg
   ·exact ⟨fun c h => by have := hH.S c _ h; omega, fun k h => by have := (hH.own k _ h).2.1; omega, by simp [hw.1], .inl hH.fr.size⟩
   ·obtain ⟨f1, f2, f3, f4⟩ := hfree g hg
    exact ⟨f1, f2, by simp [hw.1]; omega, f4⟩)
 refine ⟨_, _, _, _, hm, hq, h1, s.trans h2, fun j hj => ?_, _, rfl, ?_, fun j hj => ?_⟩
 ·by_cases e : j = k
  ·subst e; simp [Heap.used, upd_same]
  ·simpa [Heap.used, upd_other _ _ e] using hj
 ·simp only [RSlot, RV, RC, Env.rowAt, upd_same]
  exact ⟨rfl, fun b hb => by cases hb; rfl⟩
 ·simp [Slot.names, V.names, V.cells, cnames, Cell.names] at hj
  subst hj; simp [Heap.used, upd_same]
theorem partsV_fst : ∀ {xs : List (Nat × Operand)} {vs : List (Nat × V)}, partsV ρ xs = some vs → vs.map (·.1) = xs.map (·.1)
 | [], vs, h => by simp [partsV] at h; subst h; rfl
 | (i, x) :: xs, vs, h => by
  unfold partsV at h
  split at h
  ·rename_i v vs' hv hvs; cases h; simp [partsV_fst hvs]
  ·cases h
variable {z : Value} {ti : TypeInfo} {el t : TypeId} {parts : Array (Nat × Operand)}
theorem done_buildSlice' (hH : RelH F H E) (hρ : RhoOk H E ρ ev) {o : Oper} {len : Nat} (ho : o.op = .buildSlice t len parts) (ht : P.underlying t = some (.slice el)) (hti : P.info? el = some ti)
(hz : ti.zero = some z) (h0 : 0 < ti.size) (hbig : len * ti.size ≤ 16777216) {vs : List (Nat × V)} (hp : partsV ρ parts.toList = some vs) (hd : parts.toList.map (·.1) = List.range len) (hl : ∀ p ∈ vs, p.2.cells.length = ti.size)
(hsh : ∀ us, RCs E (vs.map fun p => p.2.cells).flatten us → (∀ k ∈ cnames (vs.map fun p => p.2.cells).flatten, H.used k = true) → ∃ E' bn, E'.w = E.w ∧ RelH F H' E' ∧ Sub E E' (fun k => H.used k = true) ∧ RXCs E' es.flatten us bn ∧ Flat es ∧ (∀ k, H.used k = H'.used k) ∧ es.map List.length = (vs.map fun p => p.2.cells).map List.length ∧
   bn.Nodup ∧ ∀ b ∈ bn, (∀ c, ¬ E'.S c b) ∧ (∀ j, ¬ Own E' j b) ∧ b < E'.w.heap.size ∧ (F.w0.heap.size ≤ b ∨ F.T b)) (hk : H.used k = false)
  (hq : Q (some (.v (.one (.own k)))) { H' with rows := upd H'.rows k (some ⟨ti.size, es⟩), made := upd H'.made k true }) : Done P F H E (execOp ev o) Q := by
 obtain ⟨us, g1, g2, g3, g4⟩ := partsV_ok hρ hp
 have hfst : vs.map (·.1) = List.range len := by rw [partsV_fst hp, hd]
 have hvl : vs.length = len := by have := congrArg List.length hfst; simpa using this
 -- the values, element by element
 have hcells : ∀ (vs : List (Nat × V)) (us : List (Nat × Value)), us.length = vs.length → (∀ i (h : i < vs.length) (h' : i < us.length), us[i].1 = vs[i].1 ∧ RV E vs[i].2 us[i].2) →
   RCs E (vs.map fun p => p.2.cells).flatten (us.map fun p => p.2.cells.toList).flatten ∧ (us.map fun p => p.2.cells.size) = vs.map fun p => p.2.cells.length := by
  intro vs
  induction vs with
  | nil =>
   intro us hl _
   obtain rfl : us = [] := by simpa using hl
   exact ⟨by simp [RCs], rfl⟩
  | cons v vs ih =>
   intro us hl hp
   cases us with
   | nil => simp at hl
   | cons u us =>
    obtain ⟨i1, i2⟩ := ih us (by simpa using hl) (fun j hj hj' => hp (j + 1) (by simpa using hj) (by simpa using hj'))
    obtain ⟨ws, w1, w2⟩ := RV.cells (hp 0 (by simp) (by simp)).2
    simp only [List.getElem_cons_zero] at w1 w2
    refine ⟨by simp only [List.map_cons, List.flatten_cons, w2]; exact w1.append i1, by simp [w2, i2, w1.length]⟩
 obtain ⟨hR, hS⟩ := hcells vs us g2 g3
 have hNames : ∀ k ∈ cnames (vs.map fun p => p.2.cells).flatten, H.used k = true := by
  intro k hk
  obtain ⟨c, hc, hk⟩ := mem_cnames.1 hk
  obtain ⟨l, hl', hc⟩ := List.mem_flatten.1 hc
  obtain ⟨p, hp', rfl⟩ := List.mem_map.1 hl'
  exact g4 p hp' k (mem_cnames.2 ⟨c, hc, hk⟩)
 obtain ⟨E1, bn, b1, b2, b3, b4, b5, b6, b7, b8, b9⟩ := hsh _ hR hNames
 have hesl : es.length = len := by have := congrArg List.length b7; simpa [hvl] using this
 have hel : ∀ e ∈ es, e.length = ti.size := by
  intro e he
  have : e.length ∈ es.map List.length := List.mem_map_of_mem he
  rw [b7, List.map_map] at this
  obtain ⟨p, hp', h⟩ := List.mem_map.1 this
  simp only [Function.comp] at h
  rw [← h]; exact hl p hp'
 have husz : ∀ p ∈ us, p.2.cells.size = ti.size := by
  intro p hp'
  have : p.2.cells.size ∈ us.map fun p => p.2.cells.size := List.mem_map_of_mem (f := fun p : Nat × Value => p.2.cells.size) hp'
  rw [hS] at this
  obtain ⟨q, hq', h⟩ := List.mem_map.1 this
  rw [← h]; exact hl q hq'
 -- the machine's own fill
 have husfst : us = (us.map (·.2)).zipIdx.map fun x => (x.2, x.1) := by
  have h1 : us.map (·.1) = List.range len := by
   rw [← g1, List.map_map]; exact hd
  apply List.ext_getElem
  ·simp
  ·intro i h h'
   have : (us.map (·.1))[i]'(by simpa using h) = i := by simp [h1]
   simp only [List.getElem_map] at this
   simp only [List.getElem_map, List.getElem_zipIdx, Nat.zero_add]
   exact Prod.ext this rfl
 by_cases hlen : len = 0
 ·subst hlen
  obtain rfl : vs = [] := by simpa using hvl
  obtain rfl : us = [] := by simpa using g2
  obtain rfl : es = [] := by simpa using hesl
  refine Done.from b3 b6 b1 (done_newRow b2 (r := ⟨ti.size, []⟩) (cap := 0) (cur := #[]) (us := []) (e := el) (w1 := E1.w) ⟨rfl, rfl, rfl, rfl⟩ ?_ (by rw [← b6]; exact hk) (by simp) Flat.nil (bn := []) (by simp [RXCs]) List.nodup_nil (fun b hb => by cases hb) (by simp) (by simp) (by simp) hq)
  have hpe : parts = #[] := by apply Array.ext'; simpa using hd
  simp [execOp, ho, hpe, Instr.buildSlice, run_underlying ht, sizeOf, typeInfo, hti, Instr.fill, newRow, Array.range_zero']
 ·have hpos : ¬ len * ti.size = 0 := by
   intro h; rcases Nat.mul_eq_zero.1 h with h | h <;> omega
  obtain ⟨r, r1, r2, r3⟩ := Great.fill_dense h0 (us.map (·.2)) 0 ((Array.range (len * ti.size)).map (z.cells[· % z.cells.size]!)) (by
   intro v hv; obtain ⟨p, hp', rfl⟩ := List.mem_map.1 hv; exact husz p hp') (by simp [g2, hvl])
  have hrun := run_buildSlice (P := P) E1.w t el len (parts.map fun p => (p.1, ev p.2)) r ti z ht hti hz (by omega) hpos (by rw [Array.toList_map, g1, husfst]; simpa using r1)
  have hflat : r.toList = (us.map fun p => p.2.cells.toList).flatten := by
   have hlenr : r.toList.length = len * ti.size := by simp [r2]
   have hlenf : (us.map fun p => p.2.cells.toList).flatten.length = len * ti.size := by
    have := hR.length
    rw [this, List.length_flatten, List.map_map]
    have : ((vs.map fun p => p.2.cells.length)) = List.replicate len ti.size := by
     apply List.ext_getElem
     ·simp [hvl]
     ·intro i h h'; simp; exact hl _ (List.getElem_mem _)
    rw [show (List.length ∘ fun p : Nat × V => p.2.cells) = fun p => p.2.cells.length from rfl, this]
    simp
   apply List.ext_getElem?
   intro q
   by_cases hq' : q < len * ti.size
   ·have hdiv : q / ti.size < us.length := by rw [g2, hvl]; exact Nat.div_lt_of_lt_mul (by rw [Nat.mul_comm]; exact hq')
    rw [Array.getElem?_toList, r3 q, if_pos ⟨by omega, by simpa [g2, hvl] using hq'⟩]
    simp only [Nat.sub_zero, List.getElem?_map, List.getElem?_eq_getElem hdiv, Option.map_some, Option.bind_some]
    have seg : ∀ (ls : List (List Value)) (i : Nat) (l : List Value), (∀ l ∈ ls, l.length = ti.size) → ls[i]? = some l → ∀ m, m < ti.size → ls.flatten[i * ti.size + m]? = l[m]? := by
     intro ls
     induction ls with
     | nil => intro i l _ h; simp at h
     | cons a ls ih =>
      intro i l hls h m hm
      have ha : a.length = ti.size := hls a (by simp)
      cases i with
      | zero => simp at h; subst h; simp [List.getElem?_append, ha, hm]
      | succ i =>
       rw [List.flatten_cons, List.getElem?_append, if_neg (by rw [Nat.add_mul]; omega), show (i + 1) * ti.size + m - a.length = i * ti.size + m by rw [Nat.add_mul]; omega]
       exact ih i l (fun l hl => hls l (by simp [hl])) (by simpa using h) m hm
    have := seg (us.map fun p => p.2.cells.toList) (q / ti.size) us[q / ti.size].2.cells.toList (by
     intro l hl'; obtain ⟨p, hp', rfl⟩ := List.mem_map.1 hl'; simpa using husz p hp') (by simp [List.getElem?_eq_getElem hdiv]) (q % ti.size) (Nat.mod_lt _ h0)
    rw [Nat.div_add_mod' q ti.size] at this
    rw [this, Array.getElem?_toList]
   ·rw [List.getElem?_eq_none (by omega), List.getElem?_eq_none (by omega)]
  refine Done.from b3 b6 b1 (done_newRow b2 (r := ⟨ti.size, es⟩) (cap := len) (cur := r) (us := (us.map fun p => p.2.cells.toList).flatten) (e := el) (w1 := E1.w) ⟨rfl, rfl, rfl, rfl⟩ ?_ (by rw [← b6]; exact hk) hel b5 b4 b8 b9 (by rw [← hflat]; exact List.take_of_length_le (Nat.le_refl _)) (by simp [hesl]) (by simp [r2]) hq)
  simp only [execOp, ho, Sem.run_bind]
  rw [show (Array.map (fun x => match x with | (i, x) => (i, ev x)) parts) = parts.map fun p => (p.1, ev p.2) from rfl, hrun]
  simp [hesl]
theorem done_buildSlice (hH : RelH F H E) (hρ : RhoOk H E ρ ev) {o : Oper} {len : Nat} (ho : o.op = .buildSlice t len parts) (ht : P.underlying t = some (.slice el)) (hti : P.info? el = some ti)
(hz : ti.zero = some z) (h0 : 0 < ti.size) (hbig : len * ti.size ≤ 16777216) {vs : List (Nat × V)} (hp : partsV ρ parts.toList = some vs) (hd : parts.toList.map (·.1) = List.range len) (hl : ∀ p ∈ vs, p.2.cells.length = ti.size)
(hsh : H.shareAll (vs.map fun p => p.2.cells) = some (H', es)) (hk : H.used k = false)
  (hq : Q (some (.v (.one (.own k)))) { H' with rows := upd H'.rows k (some ⟨ti.size, es⟩), made := upd H'.made k true }) : Done P F H E (execOp ev o) Q :=
 done_buildSlice' hH hρ ho ht hti hz h0 hbig hp hd hl (fun us hr hn => by
  obtain ⟨E1, b1, b2, b3, b4, b5, b6, b7⟩ := shareAll_ok hH hsh hr hn
  exact ⟨E1, [], b1, b2, b3, RXCs.of (pl_flat b5.2) b4, b5.1, b6, b7, List.nodup_nil, fun b hb => by cases hb⟩) hk hq
variable {zc : List Cell}
theorem madeCells_flat (hz : RCs E zc z.cells.toList) (n : Nat) : RCs E (List.replicate n zc).flatten (madeCells z.cells (n * zc.length)).toList := by
 have hl : z.cells.size = zc.length := by simpa using hz.length
 have : (madeCells z.cells (n * zc.length)).toList = (List.replicate n z.cells.toList).flatten := by
  by_cases h0 : zc.length = 0
  ·have hz0 : z.cells = #[] := by apply Array.eq_empty_of_size_eq_zero; omega
   simp [madeCells, h0, hz0]
  ·induction n with
   | zero => simp [madeCells]
   | succ n ih =>
    rw [List.replicate_succ', List.flatten_append, ← ih]
    apply List.ext_getElem?
    intro q
    simp only [madeCells, Array.toList_map, Array.toList_range, List.getElem?_map, List.flatten_cons, List.flatten_nil, List.append_nil, List.getElem?_append, List.length_map, List.length_range]
    by_cases h1 : q < n * zc.length
    ·rw [if_pos h1, List.getElem?_range (by rw [Nat.add_mul]; omega), List.getElem?_range h1]
    ·rw [if_neg h1]
     by_cases h2 : q < (n + 1) * zc.length
     ·rw [List.getElem?_range h2]
      rw [Nat.add_mul] at h2
      have hq : q % z.cells.size = q - n * zc.length := by
       rw [hl, Nat.mod_eq_sub_mul_div]
       have : q / zc.length = n := by
        apply Nat.div_eq_of_lt_le
        ·rw [Nat.mul_comm]; rw [Nat.mul_comm] at h1; omega
        ·rw [Nat.mul_comm, Nat.mul_add]; rw [Nat.mul_comm] at h2; omega
       rw [this, Nat.mul_comm]
      simp only [Option.map_some, hq]
      have hlt : q - n * zc.length < z.cells.size := by omega
      rw [Array.getElem?_toList, Array.getElem?_eq_getElem hlt, getElem!_pos z.cells _ hlt]
     ·rw [List.getElem?_eq_none (by simpa using h2), List.getElem?_eq_none (by simp; rw [Nat.add_mul] at h2; omega)]
      rfl
 rw [this]
 clear this
 induction n with
 | zero => simp [RCs]
 | succ n ih =>
  rw [List.replicate_succ, List.replicate_succ, List.flatten_cons, List.flatten_cons]
  exact hz.append ih
theorem cellsOfVals_noOw : ∀ {vs : List Value} {cs : List Cell}, cellsOfVals vs = some cs → noOw cs = true
 | [], cs, h => by simp [cellsOfVals] at h; subst h; rfl
 | v :: vs, cs, h => by
  unfold cellsOfVals at h
  split at h
  ·rename_i c cs' hc hcs
   cases h
   have h2 := cellsOfVals_noOw hcs
   have h1 : c.isOw = false := by
    unfold Cell.ofVal at hc
    split at hc
    ·cases hc; rfl
    ·split at hc <;> cases hc; rfl
   simp [noOw, h1, h2]
  ·cases h
variable {y : Operand}
theorem done_makeSlice (hH : RelH F H E) (hρ : RhoOk H E ρ ev) {o : Oper} (ho : o.op = .makeSlice t y x) (ht : P.underlying t = some (.slice el)) (hti : P.info? el = some ti)
(hz : ti.zero = some z) (hzc : cellsOfVals z.cells.toList = some zc) (hsz : zc.length = ti.size) {c : Nat} {kl kc : IntKind} {sy sx : Slot} (hy : ρ y = some sy) (hyv : sy.val? = some (.int kl n)) (hx : ρ x = some sx) (hxv : sx.val? = some (.int kc c)) (hnc : n ≤ c)
  (hb : ti.bytes * c ≤ 281474976710656) (h63 : c ≤ 9223372036854775807) (hk : H.used k = false)
  (hq : Q (some (.v (.one (.own k)))) { H with rows := upd H.rows k (some ⟨ti.size, List.replicate n zc⟩), made := upd H.made k true }) : Done P F H E (execOp ev o) Q := by
 have h1 := im_ok hρ hy hyv
 have h2 := im_ok hρ hx hxv
 have hz' := RCs.ofVals (E := E) hzc
 have hrun := run_make (P := P) E.w t el ti z ht hti hz kl kc n c (by omega) (by omega) (by
  have h : ((ti.bytes * c : Nat) : Int) ≤ 281474976710656 := by omega
  rwa [Int.natCast_mul] at h) (by omega)
 simp only [Int.toNat_natCast] at hrun
 have hflat := madeCells_flat hz'.1 n
 refine done_newRow hH (r := ⟨ti.size, List.replicate n zc⟩) (cap := c) (cur := madeCells z.cells (c * ti.size)) (us := (madeCells z.cells (n * zc.length)).toList) (e := el) (w1 := E.w) ⟨rfl, rfl, rfl, rfl⟩ ?_ hk (by
   intro e he; rw [(List.mem_replicate.1 he).2, hsz]) ?_ (RXCs.of (pl_flat (pl_iff.2 fun e he => by rw [(List.mem_replicate.1 he).2]; exact cellsOfVals_noOw hzc)) hflat) List.nodup_nil (fun b hb => by cases hb) ?_ (by simpa using hnc) (by simp [size_madeCells]) hq
 ·simp [execOp, ho, h1, h2, hrun]
 ·refine Flat.iff.2 fun e he => ?_
  rw [(List.mem_replicate.1 he).2]
  exact ⟨cellsOfVals_clean hzc, hz'.2⟩
 ·rw [hsz]
  have hle : n * ti.size ≤ c * ti.size := Nat.mul_le_mul_right _ hnc
  apply List.ext_getElem?
  intro q
  rw [List.getElem?_take]
  simp only [madeCells, Array.toList_map, Array.toList_range, List.getElem?_map, List.length_map, List.length_range]
  by_cases hq : q < n * ti.size
  ·rw [if_pos hq, List.getElem?_range hq, List.getElem?_range (by omega)]
  ·rw [if_neg hq, List.getElem?_eq_none (by simpa using hq)]; rfl
end
theorem growBy_le (need : Nat) : ∀ n c, c < need → Builtin.growBy need n c ≤ 2 * need + 192
 | 0, c, h => by simp [Builtin.growBy]; omega
 | n + 1, c, h => by
  unfold Builtin.growBy
  rw [if_neg (by omega)]
  by_cases h2 : c + (c + 768) / 4 < need
  ·exact growBy_le need n _ h2
  ·have : Builtin.growBy need n (c + (c + 768) / 4) = c + (c + 768) / 4 := by
    cases n with
    | zero => rfl
    | succ n => unfold Builtin.growBy; rw [if_pos (by omega)]
   rw [this]; omega
theorem nextcap_le {need cap : Nat} (h : cap < need) : Builtin.nextslicecap need cap ≤ 2 * need + 192 := by
 unfold Builtin.nextslicecap
 split
 ·omega
 ·split
  ·omega
  ·exact growBy_le need 4 cap h
section
variable {P : Program} {F : Fix} {H : Heap} {E : Env} {ρ : Rho} {ev : Operand → Value} {Q : Option Slot → Heap → Prop}
def srcKind (P : Program) (tx : TypeId) (n : Nat) : Cell → Prop
 | .imm _ => P.underlying tx = some .string ∧ n = 1
 | _ => ∃ e', P.underlying tx = some (.slice e')
variable {tx : TypeId}
theorem flat_src {e' : TypeId} (hk : P.underlying tx = some (.slice e')) {b o cap : Nat} (hr : RRow E b o sz es) (hn : es = [] ∨ sz = n) :
  ∃ news, Src P n tx (.slice (some ⟨b, o, none⟩) es.length cap) es.length news E.w ∧ RCs E es.flatten news := by
 obtain ⟨us, h1, h2, h3⟩ := hr.flat
 refine ⟨us, Src.ofSlice E.w hk _ _ cap us ?_ (fun j u hu => by rw [Addr.add_mid]; exact h3 j u hu) h1.one, h1⟩
 rcases hn with h | h
 ·subst h; simp at h2 ⊢; exact h2
 ·rw [← h]; exact h2
theorem RXRow.plain {b o : Nat} (hl : ∀ e ∈ es, e.length = sz) (hp : pl es = true) (h : RXRow E b o sz es bs) : RRow E b o sz es := by
 obtain ⟨us, h1, _, h3⟩ := h.flat
 exact RRow.of_flat hl (h1.plain (pl_flat hp)).1 h3
theorem content_ok (hH : RelH F H E) {c : Cell} (hc : RC E c u) (he : H.content c = some es) (hl : ∀ e ∈ es, e.length = n) (hk : srcKind P tx n c) (hpl : pl es = true) :
  ∃ news, Src P n tx u es.length news E.w ∧ RCs E es.flatten news ∧ Flat es := by
 have nonempty : ∀ {es : List (List Cell)} {sz : Nat}, (∀ e ∈ es, e.length = n) → (∀ e ∈ es, e.length = sz) → es = [] ∨ sz = n := by
  intro es sz h1 h2
  cases es with
  | nil => exact .inl rfl
  | cons e es => exact .inr ((h2 e (by simp)).symm.trans (h1 e (by simp)))
 cases c with
 | nil =>
  simp [Heap.content] at he; subst he
  obtain ⟨e', hk⟩ := hk
  simp only [RC] at hc; subst hc
  exact ⟨[], Src.ofNil E.w hk 0, by simp [RCs], Flat.nil⟩
 | sl g ds =>
  simp only [Heap.content] at he
  cases he
  obtain ⟨e', hk⟩ := hk
  simp only [RC] at hc
  obtain ⟨hf, a, cap, rfl, hcap, h⟩ := hc
  rcases h with h | ⟨b, o, sz, rfl, hS, hr⟩
  ·subst h
   cases a with
   | none => exact ⟨[], Src.ofNil E.w hk cap, by simp [RCs], Flat.nil⟩
   | some a => exact ⟨[], Src.ofSlice E.w hk a 0 cap [] (by simp) (fun j u hu => by simp at hu) (fun u hu => by cases hu), by simp [RCs], Flat.nil⟩
  ·obtain ⟨news, s1, s2⟩ := flat_src (P := P) (n := n) (cap := cap) hk hr (nonempty hl (fun e he => by
    obtain ⟨i, hi⟩ := List.mem_iff_getElem?.1 he
    exact (hr.get i e hi).1))
   exact ⟨news, s1, s2.sub (Sub.uncap hH.SS g (fun _ => True)) (fun _ _ => trivial), hf⟩
 | own k =>
  simp only [Heap.content, Option.map_eq_some_iff] at he
  obtain ⟨r, hr, rfl⟩ := he
  obtain ⟨e', hk⟩ := hk
  obtain ⟨h1, h2, hd, h3, h4, h5⟩ := hH.rows k r hr
  simp only [RC] at hc
  have hu := hc.2 hd h3
  rcases h5 with ⟨h6, h7, h10⟩ | ⟨g, cap, bs0, h6, h7, h8, h9, h10⟩
  ·rw [hu, h6, h7]
   exact ⟨[], Src.ofNil E.w hk 0, by simp [RCs], Flat.nil⟩
  ·rw [hu, h6]
   obtain ⟨news, s1, s2⟩ := flat_src (P := P) (n := n) (cap := cap) hk (RXRow.plain h1 hpl h9) (nonempty hl h1)
   exact ⟨news, s1, s2, h2⟩
 | sub k lo m =>
  simp only [Heap.content, Option.map_eq_some_iff] at he
  obtain ⟨r, hr, rfl⟩ := he
  obtain ⟨e', hk⟩ := hk
  obtain ⟨h1, h2, hd, h3, h4, h5⟩ := hH.rows k r hr
  simp only [RC] at hc
  rcases hc.2 hd h3 with ⟨h6, rfl, rfl, hu⟩ | ⟨g, len, cap, a, h6, h7, h8, h9, _⟩
  ·rw [hu, h6]
   exact ⟨[], by simpa using Src.ofNil E.w hk 0, by simp [RCs], by simpa using Flat.nil⟩
  ·rcases h5 with ⟨h10, _⟩ | ⟨g', cap', bs0, h10, h11, h12, h13, h14⟩
   ·rw [h10] at h6; cases h6
   ·rw [h10] at h6; cases h6
    have hlen : ((r.es.drop lo).take m).length = m := by simp; omega
    rw [h8]
    rcases h9 with h9 | h9
    ·subst h9
     exact ⟨[], by simpa using Src.ofSlice E.w hk a 0 (cap - lo) [] (by simp) (fun j u hu => by simp at hu) (fun u hu => by cases hu), by simp [RCs], by simpa using Flat.nil⟩
    ·have hr' : RRow E g (0 + lo * r.sz) r.sz ((r.es.drop lo).take m) := by
      obtain ⟨us, f1, f2, f3⟩ := h13.flat
      obtain ⟨b1, p1, _⟩ := f1.part (lo * r.sz) (m * r.sz)
      have hfl : ((r.es.drop lo).take m).flatten = (r.es.flatten.drop (lo * r.sz)).take (m * r.sz) := by
       clear f1 f2 f3 p1 hl hpl h13 hlen h9 h7 h11 h2
       have hd : ∀ (es : List (List Cell)) (lo : Nat), (∀ e ∈ es, e.length = r.sz) → (es.drop lo).flatten = es.flatten.drop (lo * r.sz) := by
        intro es
        induction es with
        | nil => intro lo _; simp
        | cons a es ih =>
         intro lo hs
         cases lo with
         | zero => simp
         | succ lo =>
          have ha : a.length = r.sz := hs a (by simp)
          rw [List.drop_succ_cons, ih lo (fun e h => hs e (by simp [h])), List.flatten_cons, show (lo + 1) * r.sz = a.length + lo * r.sz by rw [Nat.add_mul, ha]; omega, drop_add]
       have ht : ∀ (es : List (List Cell)) (m : Nat), (∀ e ∈ es, e.length = r.sz) → (es.take m).flatten = es.flatten.take (m * r.sz) := by
        intro es
        induction es with
        | nil => intro m _; simp
        | cons a es ih =>
         intro m hs
         cases m with
         | zero => simp
         | succ m =>
          have ha : a.length = r.sz := hs a (by simp)
          rw [List.take_succ_cons, List.flatten_cons, ih m (fun e h => hs e (by simp [h])), List.flatten_cons, show (m + 1) * r.sz = a.length + m * r.sz by rw [Nat.add_mul, ha]; omega, take_add]
       rw [ht _ m (fun e he => h1 e (List.mem_of_mem_drop he)), hd _ lo h1]
      refine RRow.of_flat (us := (us.drop (lo * r.sz)).take (m * r.sz)) (fun e he => h1 e (List.mem_of_mem_drop (List.mem_of_mem_take he))) ?_ (by have := range_part f3 (lo * r.sz) (m * r.sz); simpa using this)
      rw [hfl]
      exact (p1.plain (by rw [← hfl]; exact pl_flat hpl)).1
     obtain ⟨news, s1, s2⟩ := flat_src (P := P) (n := n) (cap := cap - lo) hk hr' (nonempty hl (fun e he => h1 e (List.mem_of_mem_drop (List.mem_of_mem_take he))))
     refine ⟨news, ?_, s2, h2.part lo m⟩
     rw [h9, h4]
     rw [hlen] at s1 ⊢
     simpa using s1
 | imm v =>
  cases v <;> simp [Heap.content] at he
  rename_i s
  subst he
  obtain ⟨hk, rfl⟩ := hk
  simp only [RC] at hc
  rw [hc.1]
  refine ⟨byteCells s, by simpa [byteCells] using Src.ofString E.w hk s, ?_, ?_⟩
  ·unfold byteCells
   generalize s.data.toList = l
   induction l with
   | nil => simp [RCs]
   | cons b l ih => simp only [List.map_cons, List.flatten_cons, List.cons_append, List.nil_append, RCs]; exact ⟨_, _, rfl, by simp [RC, isImm], ih⟩
  ·refine Flat.iff.2 fun e he => ?_
   obtain ⟨b, _, rfl⟩ := List.mem_map.1 he
   exact ⟨rfl, rfl⟩
 | _ => simp [Heap.content] at he
theorem done_append' (hH : RelH F H E) {ev : Operand → Value} {o : Oper} {y x : Operand} {t tx : TypeId} (ho : o.op = .call { callee := .builtin .append, args := #[y, x], argTypes := #[t, tx] }) {el : TypeId} (ht : P.underlying t = some (.slice el)) {ti : TypeInfo} (hti : P.info? el = some ti)
  {z : Value} (hz : ti.zero = some z) (hzs : z.cells.size = ti.size) {c : Cell} (hvy : RSlot E (.v (.one c)) (ev y)) {H1 : Heap} {es1 es2 : List (List Cell)} (h1 : H.toGrow c = some (H1, es1)) {news : List Value} {bs2 : List Nat} (s1 : Src P ti.size tx (ev x) es2.length news E.w) (s2 : RXCs E es2.flatten news bs2) (s3 : Flat es2)
  (hb2 : bs2.Nodup) (hf2 : ∀ b ∈ bs2, (∀ c, ¬ E.S c b) ∧ (∀ j, ¬ Own E j b) ∧ b < E.w.heap.size ∧ (F.w0.heap.size ≤ b ∨ F.T b))
  (hl1 : ∀ k r, c = .own k → H.rows k = some r → r.sz = ti.size) (hl2 : ∀ e ∈ es2, e.length = ti.size) (hbig : (2 * (es1.length + es2.length) + 192) * ti.bytes ≤ 281474976710656) (h63 : es1.length + es2.length ≤ 4611686018427387904)
  {k : Nat} (hk : H.used k = false) (hq : Q (some (.v (.one (.own k)))) { H1 with rows := upd H1.rows k (some ⟨ti.size, es1 ++ es2⟩), made := upd H1.made k true }) : Done P F H E (execOp ev o) Q := by
 have hnl : news.length = es2.length * ti.size := s1.newsLen
 have hexec : ∀ w r w', (Builtin.append_ #[t, tx] o.type #[ev y, ev x]).run P w = .ok r w' → (execOp ev o).run P w = .ok (.value r) w' := by
  intro w r w' h
  simp [execOp, ho, resolve, invoke, builtin, h]
 -- where the row lies
 have key : ∃ base cap E1 olds bs1, ev y = .slice base es1.length cap ∧ E1.w = E.w ∧ RelH F H1 E1 ∧ Sub E E1 (fun k => H.used k = true) ∧ (∀ k, H.used k = H1.used k) ∧ RXCs E es1.flatten olds bs1 ∧ bs1.Nodup ∧ (∀ b ∈ bs1, (∀ c, ¬ E1.S c b) ∧ (∀ j, ¬ Own E1 j b) ∧ b < E.w.heap.size ∧ (F.w0.heap.size ≤ b ∨ F.T b)) ∧ (∀ b ∈ bs2, b ∉ bs1 ∧ (∀ c, ¬ E1.S c b) ∧ (∀ j, ¬ Own E1 j b)) ∧ olds.length = es1.length * ti.size ∧ Flat es1 ∧ (∀ e ∈ es1, e.length = ti.size) ∧ es1.length ≤ cap ∧
   ((base = none ∧ es1 = [] ∧ cap = 0) ∨ ∃ g, base = some ⟨g, 0, none⟩ ∧ E.w.rangeAt g 0 olds ∧ E.w.there g 0 (cap * ti.size) ∧ (∀ c, ¬ E1.S c g) ∧ (∀ j, ¬ Own E1 j g) ∧ g < E.w.heap.size ∧ (F.w0.heap.size ≤ g ∨ F.T g) ∧ g ∉ bs1 ∧ g ∉ bs2) := by
  cases c with
  | nil =>
   simp [Heap.toGrow] at h1
   obtain ⟨rfl, rfl⟩ := h1
   simp only [RSlot, RV, RC] at hvy
   exact ⟨none, 0, E, [], [], hvy, rfl, hH, Sub.refl _ _, fun _ => rfl, by simp [RXCs], List.nodup_nil, (fun b hb => by cases hb), (fun b hb => ⟨by simp, (hf2 b hb).1, (hf2 b hb).2.1⟩), by simp, Flat.nil, by simp, by simp, .inl ⟨rfl, rfl, rfl⟩⟩
  | own j =>
   simp only [Heap.toGrow, Option.map_eq_some_iff] at h1
   obtain ⟨r, hr, h⟩ := h1
   cases h
   obtain ⟨a1, a2, hd, a3, a4, a5⟩ := hH.rows j r hr
   obtain ⟨d1, d2⟩ := hH.dropRow j
   have d1 : RelH F { H with rows := upd H.rows j none, lens := upd H.lens j (some r.es.length) } (E.gone j) := d1.setLen (hH.usedR j (by rw [hr]; simp)) (by
    show ∃ a cap, E.hdr j = _
    rw [a3]
    rcases a5 with ⟨h6, h7, _⟩ | ⟨g, cap, _, h6, _⟩
    ·exact ⟨none, 0, by rw [h6, h7]; rfl⟩
    ·exact ⟨_, cap, by rw [h6]⟩)
   have hsz := hl1 j r rfl hr
   simp only [RSlot, RV, RC] at hvy
   have hu := hvy.2 hd a3
   rcases a5 with ⟨h6, h7, h10⟩ | ⟨g, cap, bs0, h6, h7, h8, h9, h10⟩
   ·exact ⟨none, 0, E.gone j, [], [], by rw [hu, h6, h7]; rfl, rfl, d1, d2, fun _ => rfl, by simp [h7, RXCs], List.nodup_nil, (fun b hb => by cases hb), (fun b hb => ⟨by simp, (hf2 b hb).1, fun q hq => (hf2 b hb).2.1 q hq.drop⟩), by simp [h7], a2, by rw [← hsz]; exact a1, by simp [h7], .inl ⟨rfl, h7, rfl⟩⟩
   ·have hf := hH.dropped (k := j) (g := g) hr (by rw [h10]; simp)
    have hnd := hH.nodup j
    rw [h10, List.nodup_cons] at hnd
    obtain ⟨us, f1, f2, f3⟩ := h9.flat
    exact ⟨_, cap, E.gone j, us, bs0, by rw [hu, h6], rfl, d1, d2, fun _ => rfl, f1, hnd.2, (fun b hb => hH.dropped (k := j) (g := b) hr (by rw [h10]; simp [hb])), (fun b hb => ⟨fun h => (hf2 b hb).2.1 j (.inl (by rw [h10]; simp [h])), (hf2 b hb).1, fun q hq => (hf2 b hb).2.1 q hq.drop⟩), by rw [← hsz]; exact f2, a2, by rw [← hsz]; exact a1, h7,
     .inr ⟨g, rfl, f3, by rw [← hsz]; exact h8, hf.1, hf.2.1, hf.2.2.1, hf.2.2.2, hnd.1, fun h => (hf2 g h).2.1 j (.inl (by rw [h10]; simp))⟩⟩
  | _ => simp [Heap.toGrow] at h1
 obtain ⟨base, cap, E1, olds, bs1, hey, hw1, hH1, hs1, hu1, hro, hnb1, hfb1, hfb2, holen, hro0, hel1, hcap, hbase⟩ := key
 have hk1 : H1.used k = false := by rw [← hu1]; exact hk
 have hflat : RXCs E1 (es1 ++ es2).flatten (olds ++ news) (bs1 ++ bs2) := by
  rw [List.flatten_append]
  have n1 : ∀ k ∈ cnames es1.flatten, H.used k = true := by
   intro j hj
   obtain ⟨c, hc, hj⟩ := mem_cnames.1 hj
   obtain ⟨e, he, hc⟩ := List.mem_flatten.1 hc
   have : j ∈ rnames es1 := mem_rnames.2 ⟨e, he, mem_cnames.2 ⟨c, hc, hj⟩⟩
   rw [hro0.2] at this; cases this
  have n2 : ∀ k ∈ cnames es2.flatten, H.used k = true := by
   intro j hj
   obtain ⟨c, hc, hj⟩ := mem_cnames.1 hj
   obtain ⟨e, he, hc⟩ := List.mem_flatten.1 hc
   have : j ∈ rnames es2 := mem_rnames.2 ⟨e, he, mem_cnames.2 ⟨c, hc, hj⟩⟩
   rw [s3.2] at this; cases this
  exact (RXCs.sub hs1 (fun _ _ => by rw [hw1]) n1 hro).append (RXCs.sub hs1 (fun _ _ => by rw [hw1]) n2 s2)
 have hndb : (bs1 ++ bs2).Nodup := List.nodup_append.2 ⟨hnb1, hb2, fun a ha b hb e => (hfb2 b hb).1 (e ▸ ha)⟩
 have hfrb : ∀ b ∈ bs1 ++ bs2, (∀ c, ¬ E1.S c b) ∧ (∀ j, ¬ Own E1 j b) ∧ b < E1.w.heap.size ∧ (F.w0.heap.size ≤ b ∨ F.T b) := fun b hb => by
  rw [hw1]
  rcases List.mem_append.1 hb with hb | hb
  ·exact hfb1 b hb
  ·exact ⟨(hfb2 b hb).2.1, (hfb2 b hb).2.2, (hf2 b hb).2.2⟩
 have hel : ∀ e ∈ es1 ++ es2, e.length = ti.size := fun e he => (List.mem_append.1 he).elim (hel1 e) (hl2 e)
 have hrn : Flat (es1 ++ es2) := hro0.append s3
 have usedNew : ∀ j, H.used j = true → Heap.used { H1 with rows := upd H1.rows k (some ⟨ti.size, es1 ++ es2⟩), made := upd H1.made k true } j = true := by
  intro j hj
  rw [hu1] at hj
  by_cases e : j = k
  ·subst e; simp [Heap.used, upd_same]
  ·simpa [Heap.used, upd_other _ _ e] using hj
 have namesNew : ∀ j ∈ Slot.names (.v (.one (.own k))), Heap.used { H1 with rows := upd H1.rows k (some ⟨ti.size, es1 ++ es2⟩), made := upd H1.made k true } j = true := by
  intro j hj
  simp [Slot.names, V.names, V.cells, cnames, Cell.names] at hj
  subst hj; simp [Heap.used, upd_same]
 by_cases hroom : es1.length + es2.length ≤ cap
 ·-- in place
  rcases hbase with ⟨hb, he1, hc0⟩ | ⟨g, hb, hat, hth, hgS, hgO, hgs, hgT, hg1, hg2⟩
  ·-- nothing there, nothing appended
   have hbs2 : True := trivial
   have he2 : es2 = [] := by cases es2 with | nil => rfl | cons e es => simp [hc0] at hroom
   subst he1; subst he2; subst hb; subst hc0
   have hnews : news = [] := by simpa using hnl
   subst hnews
   have hrun := run_append_nothing (P := P) E.w t tx o.type el ti ht hti none 0 0 (Nat.le_refl _) (ev x) s1
   obtain ⟨b1, b2⟩ := hH1.addRow (r := ⟨ti.size, []⟩) (hd := .slice none 0 0) hk1 (by simp) Flat.nil (bs := []) (.inl ⟨rfl, rfl, rfl⟩) List.nodup_nil (fun g hg => by cases hg)
   refine ⟨_, _, _, _, hexec _ _ _ (by rw [hey]; show _ = Result.ok (.slice none 0 0) E1.w; rw [hw1]; exact hrun), hq, b1, hs1.trans (sub_used hu1 b2), usedNew, _, rfl, ?_, namesNew⟩
   simp only [RSlot, RV, RC, Env.rowAt, upd_same]
   exact ⟨rfl, fun b hb => by cases hb; rfl⟩
  ·subst hb
   have hin : es1.length * ti.size + news.length ≤ cap * ti.size := by
    rw [hnl, ← Nat.add_mul]; exact Nat.mul_le_mul_right _ hroom
   have hrun := run_append_room_src (P := P) E.w t tx o.type el ti ht hti g 0 es1.length cap (ev x) es2.length news s1 hroom (fun j hj => by have := (hth (0 + es1.length * ti.size + j) (by omega)).1; simpa using this) (fun j hj => by have := (hth (0 + es1.length * ti.size + j) (by omega)).2; simpa using this)
   have honly := setCells_only g news (0 + es1.length * ti.size) E.w
   have hchg : Chg F E1 (E.w.setCells g (0 + es1.length * ti.size) news) := by
    refine ⟨by rw [hw1]; exact honly.os, by rw [hw1]; exact honly.tape, by rw [hw1]; exact honly.output, by rw [hw1, honly.size]; exact Nat.le_refl _, fun b hb hne => ?_⟩
    have : b = g := Classical.byContradiction fun h => hne (by rw [hw1]; exact honly.block b h)
    subst this
    exact ⟨hgS, hgO, hgT⟩
   have hH2 := hH1.chg hchg
   have hs2 := Sub.chg hH1 hchg (fun k => H1.used k = true)
   have hat' : (E.w.setCells g (0 + es1.length * ti.size) news).rangeAt g 0 (olds ++ news) := by
    intro j v hv
    rw [List.getElem?_append] at hv
    split at hv
    ·rename_i hlt
     rw [World.cell?_setCells_out g news _ E.w ⟨g, 0 + j, none⟩ (fun _ _ => .inl (by show 0 + j < _; omega))]
     exact hat j v hv
    ·have hj : j - olds.length < news.length := (List.getElem?_eq_some_iff.1 hv).1
     have := World.cell?_setCells_in g news (0 + es1.length * ti.size) E.w (fun i hi => by have := hth (0 + es1.length * ti.size + i) (by omega); simpa using this.1) (j - olds.length) hj
     rw [show 0 + es1.length * ti.size + (j - olds.length) = 0 + j by omega] at this
     rw [this, ← hv, List.getElem?_eq_getElem hj]
   obtain ⟨b1, b2⟩ := hH2.addRow (r := ⟨ti.size, es1 ++ es2⟩) (hd := .slice (some ⟨g, 0, none⟩) (es1 ++ es2).length cap) hk1 hel hrn
    (bs := g :: (bs1 ++ bs2)) (.inr ⟨g, cap, bs1 ++ bs2, rfl, by simpa using hroom, World.there_setCells hth g _ _, RXRow.of_flat hel (RXCs.sub (Sub.chg hH1 hchg (fun _ => True)) (fun b hb => by rw [hw1]; exact honly.block b (fun e => by subst e; rcases List.mem_append.1 hb with h | h; exact hg1 h; exact hg2 h)) (fun _ _ => trivial) hflat) hat', rfl⟩)
    (List.nodup_cons.2 ⟨fun h => (List.mem_append.1 h).elim hg1 hg2, hndb⟩)
    (fun b hb => by
     rcases List.mem_cons.1 hb with rfl | hb
     ·exact ⟨hgS, fun j hj => hgO j hj, by show b < (E.w.setCells _ _ _).heap.size; rw [honly.size]; exact hgs, hgT⟩
     ·obtain ⟨f1, f2, f3, f4⟩ := hfrb b hb
      exact ⟨f1, fun j hj => f2 j hj, by show b < (E.w.setCells _ _ _).heap.size; rw [honly.size, ← hw1]; exact f3, f4⟩)
   refine ⟨_, _, _, _, hexec _ _ _ (by rw [hey]; exact hrun), hq, b1, hs1.trans ((sub_used hu1 hs2).trans (sub_used hu1 b2)), usedNew, _, rfl, ?_, namesNew⟩
   simp only [RSlot, RV, RC, Env.rowAt, upd_same]
   exact ⟨rfl, fun b hb => by cases hb; simp⟩
 ·-- a new block
  have hold : (Builtin.firstCells ti.size es1.length (.slice base es1.length cap)).run P E.w.drew = .ok olds.toArray E.w.drew := by
   rcases hbase with ⟨hb, he1, hc0⟩ | ⟨g, hb, hat, _⟩
   ·subst hb; subst he1
    have : olds = [] := by simpa using holen
    subst this
    exact run_firstCells_none E.w.drew _ _ _ _
   ·subst hb
    exact run_firstCells_some E.w.drew ti.size es1.length ⟨g, 0, none⟩ es1.length cap olds holen (fun j v hv => by rw [Addr.add_mid]; simpa using hat j v hv)
  have hrun := run_append_grow_src (P := P) E.w t tx o.type el ti z ht hti hz base es1.length cap olds hold (ev x) es2.length news s1 (by omega) (by omega)
   (Nat.le_trans (Nat.mul_le_mul_right _ (nextcap_le (by omega))) hbig)
  have hge := grownCap_ge E.w (es1.length + es2.length) cap el
  refine Done.from hs1 hu1 hw1 (done_newRow hH1 (r := ⟨ti.size, es1 ++ es2⟩) (cap := grownCap E.w (es1.length + es2.length) cap el) (cur := (olds ++ news).toArray ++ Builtin.zeroCells z.cells (grownCap E.w (es1.length + es2.length) cap el - (es1.length + es2.length)))
   (us := olds ++ news) (e := el) (w1 := E.w.drew) ⟨by rw [hw1]; rfl, by rw [hw1]; rfl, by rw [hw1]; rfl, by rw [hw1]; rfl⟩ ?_ hk1 hel hrn hflat hndb hfrb ?_ (by simpa using hge) ?_ hq)
  ·rw [hw1]
   exact hexec _ _ _ (by rw [hey]; simpa using hrun)
  ·simp only [Array.toList_append, List.take_append, List.length_append]
   rw [List.take_of_length_le (by omega)]
   simp
  ·simp only [Array.size_append, List.size_toArray, List.length_append, size_zeroCells, hzs, holen, hnl, ← Nat.add_mul]
   congr 1; omega
theorem done_append (hH : RelH F H E) (hρ : RhoOk H E ρ ev) {o : Oper} {y x : Operand} {t tx : TypeId} (ho : o.op = .call { callee := .builtin .append, args := #[y, x], argTypes := #[t, tx] }) {el : TypeId} (ht : P.underlying t = some (.slice el)) {ti : TypeInfo} (hti : P.info? el = some ti)
  {z : Value} (hz : ti.zero = some z) (hzs : z.cells.size = ti.size) {c cx : Cell} (hy : ρ y = some (.v (.one c))) (hx : ρ x = some (.v (.one cx))) {H1 : Heap} {es1 es2 : List (List Cell)} (h1 : H.toGrow c = some (H1, es1)) (h2 : H.content cx = some es2)
  (hl1 : ∀ k r, c = .own k → H.rows k = some r → r.sz = ti.size) (hl2 : ∀ e ∈ es2, e.length = ti.size) (hk2 : srcKind P tx ti.size cx) (hbig : (2 * (es1.length + es2.length) + 192) * ti.bytes ≤ 281474976710656) (h63 : es1.length + es2.length ≤ 4611686018427387904)
  {k : Nat} (hk : H.used k = false) (hpl : pl es2 = true) (hq : Q (some (.v (.one (.own k)))) { H1 with rows := upd H1.rows k (some ⟨ti.size, es1 ++ es2⟩), made := upd H1.made k true }) : Done P F H E (execOp ev o) Q := by
 obtain ⟨hvy, hny⟩ := hρ y _ hy
 obtain ⟨hvx, hnx⟩ := hρ x _ hx
 obtain ⟨news, s1, s2, s3⟩ := content_ok (P := P) hH (c := cx) hvx h2 hl2 hk2 hpl
 exact done_append' hH ho ht hti hz hzs hvy h1 s1 (RXCs.of (pl_flat hpl) s2) s3 List.nodup_nil (fun b hb => by cases hb) hl1 hl2 hbig h63 hk hq
variable {es1 : List (List Cell)} {H1 : Heap} {z : Value} {ti : TypeInfo} {el t : TypeId} {y : Operand}
theorem done_appendN (hH : RelH F H E) (hρ : RhoOk H E ρ ev) {o : Oper} (ho : o.op = .call { callee := .builtin .append, args := #[y, x], argTypes := #[t, tx] }) {e' : TypeId} (ht : P.underlying t = some (.slice el)) (hti : P.info? el = some ti)
(hz : ti.zero = some z) (hzs : z.cells.size = ti.size) {c : Cell} {kx : Nat} (hy : ρ y = some (.v (.one c))) (hx : ρ x = some (.v (.one (.own kx)))) (h2 : H.rows kx = some r) (h1 : Heap.toGrow { H with rows := upd H.rows kx none } c = some (H1, es1))
  (hl1 : ∀ k r, c = .own k → H.rows k = some r → r.sz = ti.size) (hl2 : r.sz = ti.size) (hk2 : P.underlying tx = some (.slice e')) (hbig : (2 * (es1.length + r.es.length) + 192) * ti.bytes ≤ 281474976710656) (h63 : es1.length + r.es.length ≤ 4611686018427387904)
(hk : H.used k = false) (hq : Q (some (.v (.one (.own k)))) { H1 with rows := upd H1.rows k (some ⟨ti.size, es1 ++ r.es⟩), made := upd H1.made k true }) : Done P F H E (execOp ev o) Q := by
 obtain ⟨hvy, hny⟩ := hρ y _ hy
 obtain ⟨hvx, hnx⟩ := hρ x _ hx
 obtain ⟨a1, a2, hd, a3, a4, a5⟩ := hH.rows kx r h2
 obtain ⟨d1, d2⟩ := hH.dropRow kx
 have hfr := fun b hb => hH.dropped (k := kx) (g := b) h2 hb
 simp only [RSlot, RV, RC] at hvx
 have hu := hvx.2 hd a3
 have key : ∃ news bs2, Src P ti.size tx (ev x) r.es.length news E.w ∧ RXCs E r.es.flatten news bs2 ∧ bs2.Nodup ∧ ∀ b ∈ bs2, b ∈ E.ob kx := by
  rcases a5 with ⟨h6, h7, h10⟩ | ⟨g, cap, bs0, h6, h7, h8, h9, h10⟩
  ·rw [hu, h6, h7]
   exact ⟨[], [], Src.ofNil E.w hk2 0, by simp [RXCs], List.nodup_nil, fun b hb => by cases hb⟩
  ·obtain ⟨us, f1, f2, f3⟩ := h9.flat
   have hnd := hH.nodup kx
   rw [h10, List.nodup_cons] at hnd
   rw [hu, h6]
   exact ⟨us, bs0, Src.ofSlice E.w hk2 _ _ cap us (by rw [← hl2]; exact f2) (fun j u hu => by rw [Addr.add_mid]; exact f3 j u hu) f1.one, f1, hnd.2, fun b hb => by rw [h10]; simp [hb]⟩
 obtain ⟨news, bs2, s1, s2, s3, s4⟩ := key
 have hnn : ∀ k ∈ cnames r.es.flatten, H.used k = true := by
  intro j hj
  obtain ⟨c, hc, hj⟩ := mem_cnames.1 hj
  obtain ⟨e, he, hc⟩ := List.mem_flatten.1 hc
  have : j ∈ rnames r.es := mem_rnames.2 ⟨e, he, mem_cnames.2 ⟨c, hc, hj⟩⟩
  rw [a2.2] at this; cases this
 refine Done.from d2 (fun _ => rfl) rfl (done_append' (E := E.gone kx) d1 ho ht hti hz hzs (c := c) (RSlot.sub d2 hny hvy) h1 s1 (RXCs.sub d2 (fun _ _ => rfl) hnn s2) a2 s3 (fun b hb => hfr b (s4 b hb)) (fun k r' hc hr' => ?_) (fun e he => by rw [← hl2]; exact a1 e he) hbig h63 hk hq)
 by_cases e : k = kx
 ·subst e; simp [upd_same] at hr'
 ·exact hl1 k r' hc (by simpa only [upd_other _ _ e] using hr')
end
def RXV (E : Env) : V → Value → List Nat → Prop
 | .one c, u, bs => RXC E c u bs
 | .agg cs, u, bs => ∃ us, u = .agg us.toArray ∧ RXCs E cs us bs
def RXVs (E : Env) : List V → List Value → List Nat → Prop
 | [], us, bs => us = [] ∧ bs = []
 | x :: xs, us, bs => ∃ u us' b bs', us = u :: us' ∧ bs = b ++ bs' ∧ RXV E x u b ∧ RXVs E xs us' bs'
def RXOuts (E : Env) : List (List Cell) → List Nat → List Nat → Prop
 | [], ob, bs => ob = [] ∧ bs = []
 | cs :: css, ob, bs => ∃ g ob' us b bs', ob = g :: ob' ∧ bs = b ++ bs' ∧ RXCs E cs us b ∧ E.w.rangeAt g 0 us ∧ E.w.there g 0 cs.length ∧ RXOuts E css ob' bs'
def envI (w : World) (S : Bool → Nat → Prop) (ob : List Nat) : Env := ⟨w, S, fun _ => none, fun _ => none, fun i => ob[i]?, fun _ => 0, fun _ => []⟩
structure InOk (w : World) (S : Bool → Nat → Prop) (args : List V) (outs : List (List Cell)) (us : List Value) (ob bs obs : List Nat) : Prop where
 args : RXVs (envI w S ob) args us bs
 outs : RXOuts (envI w S ob) outs ob obs
 nodup : (bs ++ obs ++ ob).Nodup
 own : ∀ b ∈ bs ++ obs ++ ob, b < w.heap.size ∧ ∀ g, ¬ S g b
 bnd : ∀ g b, S g b → b < w.heap.size
 cls : ∀ b, S true b → S false b
def retVal : List Value → Value
 | [u] => u
 | us => .tuple us.toArray
structure OutOk (w : World) (S : Bool → Nat → Prop) (T : List Nat) (ob : List Nat) (res bk : List V) (outs' : List (List Cell)) (e : Ending) (w' : World) (S' : Bool → Nat → Prop) (us' ub : List Value) (bs' obs' : List Nat) : Prop where
 ret : e = .returned (retVal us')
 len : us'.length = res.length
 ok : InOk w' S' (res ++ bk) outs' (us' ++ ub) ob bs' obs'
 own : ∀ b ∈ bs' ++ obs', b ∈ T ∨ w.heap.size ≤ b
 sup : ∀ g b, S g b → S' g b
 sub : ∀ g b, S' g b → S g b ∨ w.heap.size ≤ b ∨ b ∈ T
 fr : Fr w (· ∈ T) w'
def pickV (bp : List Nat) (xs : List V) : List V := bp.map fun i => xs.getD i (.one .bad)
def pickU (bp : List Nat) (us : List Value) : List Value := bp.map fun i => us.getD i undef
def Holds (P : Program) (f : FuncId) (args : List V) (outs : List (List Cell)) (bp : List Nat) (Post : List V → List (List Cell) → List V → Prop) : Prop :=
 ∀ w S us ob bs obs, InOk w S args outs us ob bs obs → Calls P f us.toArray w fun e w' =>
  ∃ res outs' bk S' us' bs' obs', Post res outs' bk ∧ OutOk w S (bs ++ obs ++ ob) ob res bk outs' e w' S' us' (pickU bp us) bs' obs'
theorem RXVs.split : ∀ {xs ys : List V} {us vs : List Value} {bs : List Nat}, us.length = xs.length → RXVs E (xs ++ ys) (us ++ vs) bs → ∃ b1 b2, bs = b1 ++ b2 ∧ RXVs E xs us b1 ∧ RXVs E ys vs b2
 | [], ys, us, vs, bs, hl, h => by
  obtain rfl : us = [] := by simpa using hl
  exact ⟨[], bs, rfl, ⟨rfl, rfl⟩, h⟩
 | x :: xs, ys, [], vs, bs, hl, h => by simp at hl
 | x :: xs, ys, u :: us, vs, bs, hl, h => by
  obtain ⟨u', us', b, bs', e1, rfl, h1, h2⟩ := h
  simp only [List.cons_append, List.cons.injEq] at e1
  obtain ⟨rfl, rfl⟩ := e1
  obtain ⟨b1, b2, rfl, h3, h4⟩ := RXVs.split (by simpa using hl) h2
  exact ⟨b ++ b1, b2, by simp, ⟨u, us, b, b1, rfl, rfl, h1, h3⟩, h4⟩
theorem RXVs.join : ∀ {xs ys : List V} {us vs : List Value} {b1 b2 : List Nat}, RXVs E xs us b1 → RXVs E ys vs b2 → RXVs E (xs ++ ys) (us ++ vs) (b1 ++ b2)
 | [], ys, us, vs, b1, b2, h, h' => by obtain ⟨rfl, rfl⟩ := h; exact h'
 | x :: xs, ys, us, vs, b1, b2, h, h' => by
  obtain ⟨u, us', b, bs', rfl, rfl, h1, h2⟩ := h
  exact ⟨u, us' ++ vs, b, bs' ++ b2, rfl, by simp, h1, RXVs.join h2 h'⟩
theorem RXVs.len : ∀ {xs : List V} {us : List Value} {bs : List Nat}, RXVs E xs us bs → us.length = xs.length
 | [], us, bs, h => by obtain ⟨rfl, _⟩ := h; rfl
 | x :: xs, us, bs, h => by obtain ⟨u, us', b, bs', rfl, _, _, h2⟩ := h; simp [RXVs.len h2]
def Heap.internC (H : Heap) (k : Nat) : Cell → Heap × Cell
 | .ow sz es => (H.ownRow k ⟨sz, es⟩, .own k)
 | .bx cs => (H.ownBox k cs, .ptr k 0)
 | c => (H, c)
def Heap.internCs (H : Heap) (k : Nat) : List Cell → Heap × List Cell
 | [] => (H, [])
 | c :: cs => let (H1, c') := H.internC k c; let (H2, cs') := H1.internCs (k + 1) cs; (H2, c' :: cs')
def namedC (k : Nat) : Cell → Cell
 | .ow _ _ => .own k
 | .bx _ => .ptr k 0
 | c => c
def namedCs (k : Nat) : List Cell → List Cell
 | [] => []
 | c :: cs => namedC k c :: namedCs (k + 1) cs
theorem internC_named (H : Heap) (k : Nat) (c : Cell) : (H.internC k c).2 = namedC k c := by cases c <;> rfl
theorem internCs_named : ∀ (cs : List Cell) (H : Heap) (k : Nat), (H.internCs k cs).2 = namedCs k cs
 | [], _, _ => rfl
 | c :: cs, H, k => by simp [Heap.internCs, namedCs, internC_named, internCs_named cs]
def Heap.internV (H : Heap) (k : Nat) : V → Heap × V
 | .one c => let (H1, c') := H.internC k c; (H1, .one c')
 | .agg cs => let (H1, cs') := H.internCs k cs; (H1, .agg cs')
def Heap.internVs (H : Heap) (k : Nat) : List V → Heap × List V
 | [] => (H, [])
 | x :: xs => let (H1, x') := H.internV k x; let (H2, xs') := H1.internVs (k + x.cells.length) xs; (H2, x' :: xs')
def Free (F : Fix) (E : Env) (bs : List Nat) : Prop := ∀ b ∈ bs, (∀ c, ¬ E.S c b) ∧ (∀ k, ¬ Own E k b) ∧ b < E.w.heap.size ∧ (F.w0.heap.size ≤ b ∨ F.T b)
section
variable {F : Fix}
variable {c' : Cell}
theorem intern_one {H : Heap} {c : Cell} (hH : RelH F H E) (hk : H.used k = false) (h : RXC E c u bs) (hn : ∀ j ∈ c.names, H.used j = true) (hf : Free F E bs) (hd : bs.Nodup) (hi : H.internC k c = (H', c')) :
  ∃ E', E'.w = E.w ∧ E'.S = E.S ∧ RelH F H' E' ∧ Sub E E' (fun k => H.used k = true) ∧ RC E' c' u ∧ (∀ j ∈ c'.names, H'.used j = true) ∧ (∀ j, H.used j = true → H'.used j = true) ∧ (∀ j, H'.used j = true → H.used j = true ∨ j = k) ∧ (∀ j b, Own E' j b → Own E j b ∨ b ∈ bs) ∧ (∀ j, H.used j = true → E'.pt j = E.pt j) := by
 have umono : ∀ {f g}, ∀ j, H.used j = true → Heap.used { H with rows := f, boxes := g, made := upd H.made k true } j = true := by
  intro f g j hj
  by_cases e : j = k
  ·subst e; simp [Heap.used, upd_same]
  ·simpa [Heap.used, upd_other _ _ e] using hj
 have uinv : ∀ {f g}, ∀ j, Heap.used { H with rows := f, boxes := g, made := upd H.made k true } j = true → H.used j = true ∨ j = k := by
  intro f g j hj
  by_cases e : j = k
  ·exact .inr e
  ·exact .inl (by simpa [Heap.used, upd_other _ _ e] using hj)
 have plain : ∀ {c : Cell}, (∀ j ∈ c.names, H.used j = true) → RC E c u ∧ bs = [] → (H, c) = (H', c') →
   ∃ E', E'.w = E.w ∧ E'.S = E.S ∧ RelH F H' E' ∧ Sub E E' (fun k => H.used k = true) ∧ RC E' c' u ∧ (∀ j ∈ c'.names, H'.used j = true) ∧ (∀ j, H.used j = true → H'.used j = true) ∧ (∀ j, H'.used j = true → H.used j = true ∨ j = k) ∧ (∀ j b, Own E' j b → Own E j b ∨ b ∈ bs) ∧ (∀ j, H.used j = true → E'.pt j = E.pt j) := by
  intro c hn h hi
  cases hi
  exact ⟨E, rfl, rfl, hH, Sub.refl _ _, h.1, hn, fun _ h => h, fun _ h => .inl h, fun _ _ h => .inl h, fun _ _ => rfl⟩
 cases c with
 | ow sz es =>
  simp only [Heap.internC, Heap.ownRow, Heap.ownBox] at hi
  cases hi
  simp only [RXC] at h
  obtain ⟨h1, h2, h3⟩ := h
  have hin : RowIn E u ⟨sz, es⟩ bs := by
   rcases h3 with ⟨h4, h5, h6⟩ | ⟨g, cap, bs', h4, h5, h6, h7, h8⟩
   ·exact .inl ⟨h4, h5, h6⟩
   ·exact .inr ⟨g, cap, bs', h4, h5, h6, h7, h8⟩
  obtain ⟨a1, a2⟩ := hH.addRow (r := ⟨sz, es⟩) hk h1 h2 hin hd (fun g hg => hf g hg)
  refine ⟨E.rowAt k u sz bs, rfl, rfl, a1, a2, ?_, ?_, umono, uinv, fun j b hj => ?_, fun _ _ => rfl⟩
  ·simp only [RC, Env.rowAt, upd_same]
   refine ⟨?_, fun b hb => by cases hb; rfl⟩
   rcases h3 with ⟨h4, _⟩ | ⟨g, cap, _, h4, _⟩ <;> rw [h4] <;> rfl
  ·intro j hj; simp [Cell.names] at hj; subst hj; simp [Heap.used, upd_same]
  ·rcases hj with hj | hj
   ·by_cases e : j = k
    ·subst e; simp only [Env.rowAt, upd_same] at hj; exact .inr hj
    ·exact .inl (.inl (by simpa only [Env.rowAt, upd_other _ _ e] using hj))
   ·exact .inl (.inr hj)
 | bx cs =>
  simp only [Heap.internC, Heap.ownRow, Heap.ownBox] at hi
  cases hi
  simp only [RXC] at h
  obtain ⟨h1, g, us, h2, h3, h4, h5, h6⟩ := h
  obtain ⟨a1, a2⟩ := hH.addBox hk h3 (by simp [h1]) h4 h5 (hf g (by rw [h6]; simp))
  refine ⟨{ E with blk := upd E.blk k (some g), pt := upd E.pt k (some g) }, rfl, rfl, a1, a2, ?_, ?_, umono, uinv, fun j b hj => ?_, fun j hj => upd_other _ _ (fun e => by subst e; rw [hk] at hj; cases hj)⟩
  ·simp only [RC, upd_same]
   exact ⟨by rw [h2]; rfl, fun b hb => by cases hb; exact h2⟩
  ·intro j hj; simp [Cell.names] at hj; subst hj; simp [Heap.used, upd_same]
  ·rcases hj with hj | hj
   ·exact .inl (.inl hj)
   ·by_cases e : j = k
    ·subst e; simp only [upd_same] at hj; cases hj; exact .inr (by rw [h6]; simp)
    ·exact .inl (.inr (by simpa only [upd_other _ _ e] using hj))
 | _ => exact plain hn (by simpa only [RXC] using h) (by simpa only [Heap.internC] using hi)
theorem RXV.sub {N : Nat → Prop} (s : Sub E E' N) {x : V} (hm : ∀ b ∈ bs, E'.w.heap[b]? = E.w.heap[b]?) (hn : ∀ k ∈ x.names, N k) (h : RXV E x u bs) : RXV E' x u bs := by
 cases x with
 | one c => exact RXC.sub s hm (fun k hk => hn k (by simpa [V.names, V.cells, cnames] using hk)) h
 | agg cs => obtain ⟨us, h1, h2⟩ := h; exact ⟨us, h1, RXCs.sub s hm hn h2⟩
theorem RXVs.sub {N : Nat → Prop} (s : Sub E E' N) : ∀ {xs : List V} {us : List Value} {bs : List Nat}, (∀ b ∈ bs, E'.w.heap[b]? = E.w.heap[b]?) → (∀ k ∈ xs.flatMap V.names, N k) → RXVs E xs us bs → RXVs E' xs us bs
 | [], _, _, _, _, h => h
 | x :: xs, _, _, hm, hn, h => by
  obtain ⟨u, us', b, bs', rfl, rfl, h1, h2⟩ := h
  simp only [List.flatMap_cons, List.mem_append] at hn
  exact ⟨u, us', b, bs', rfl, rfl, h1.sub s (fun x hx => hm x (by simp [hx])) (fun k hk => hn k (.inl hk)), RXVs.sub s (fun x hx => hm x (by simp [hx])) (fun k hk => hn k (.inr hk)) h2⟩
structure Took (F : Fix) (H : Heap) (E : Env) (H' : Heap) (E' : Env) (k n : Nat) (bs : List Nat) : Prop where
 w : E'.w = E.w
 S : E'.S = E.S
 rel : RelH F H' E'
 sub : Sub E E' (fun k => H.used k = true)
 up : ∀ j, H.used j = true → H'.used j = true
 down : ∀ j, H'.used j = true → H.used j = true ∨ (k ≤ j ∧ j < k + n)
 own : ∀ j b, Own E' j b → Own E j b ∨ b ∈ bs
 pt : ∀ j, H.used j = true → E'.pt j = E.pt j
variable {bs' : List Nat} {E1 : Env} {H1 H2 : Heap}
theorem Took.trans {H : Heap} {E2 : Env} {m : Nat} (h : Took F H E H1 E1 k n bs) (h' : Took F H1 E1 H2 E2 (k + n) m bs') : Took F H E H2 E2 k (n + m) (bs ++ bs') := by
 refine ⟨h'.w.trans h.w, h'.S.trans h.S, h'.rel, h.sub.trans ⟨h'.sub.S, h'.sub.mem, fun j hj => h'.sub.hdrE j (h.up j hj), fun j hj => h'.sub.pt j (h.up j hj), fun j hj => h'.sub.sz j (h.up j hj)⟩, fun j hj => h'.up j (h.up j hj), fun j hj => ?_, fun j b hj => ?_, fun j hj => (h'.pt j (h.up j hj)).trans (h.pt j hj)⟩
 ·rcases h'.down j hj with h1 | h1
  ·rcases h.down j h1 with h2 | h2
   ·exact .inl h2
   ·exact .inr ⟨h2.1, by omega⟩
  ·exact .inr ⟨by omega, by omega⟩
 ·rcases h'.own j b hj with h1 | h1
  ·rcases h.own j b h1 with h2 | h2
   ·exact .inl h2
   ·exact .inr (List.mem_append_left _ h2)
  ·exact .inr (List.mem_append_right _ h1)
theorem Took.free {H : Heap} (h : Took F H E H1 E1 k n bs) (hd : ∀ b ∈ bs', b ∉ bs) (hf : Free F E bs') : Free F E1 bs' := fun b hb => by
 obtain ⟨h1, h2, h3, h4⟩ := hf b hb
 exact ⟨fun c hc => h1 c (by rw [h.S] at hc; exact hc), fun j hj => (h.own j b hj).elim (h2 j) (hd b hb), by rw [h.w]; exact h3, h4⟩
theorem intern_cells : ∀ {cs cs' : List Cell} {H H' : Heap} {E : Env} {k : Nat} {us : List Value} {bs : List Nat} (_ : RelH F H E) (_ : ∀ j, k ≤ j → j < k + cs.length → H.used j = false) (_ : RXCs E cs us bs) (_ : ∀ j ∈ cnames cs, H.used j = true) (_ : Free F E bs) (_ : bs.Nodup)
  (_ : H.internCs k cs = (H', cs')), ∃ E', Took F H E H' E' k cs.length bs ∧ RCs E' cs' us ∧ (∀ j ∈ cnames cs', H'.used j = true) ∧ cs'.length = cs.length
 | [], cs', H, H', E, k, us, bs, hH, hk, h, hn, hf, hd, hi => by
  simp [Heap.internCs] at hi
  obtain ⟨rfl, rfl⟩ := hi
  simp only [RXCs] at h
  obtain ⟨rfl, rfl⟩ := h
  exact ⟨E, ⟨rfl, rfl, hH, Sub.refl _ _, fun _ h => h, fun _ h => .inl h, fun _ _ h => .inl h, fun _ _ => rfl⟩, by simp [RCs], (fun j hj => by cases hj), rfl⟩
 | c :: cs, cs', H, H', E, k, us, bs, hH, hk, h, hn, hf, hd, hi => by
  simp only [RXCs] at h
  obtain ⟨u, us', b, bs', rfl, rfl, h1, h2⟩ := h
  simp only [cnames, List.mem_append] at hn
  cases hi1 : H.internC k c with
  | mk H1 c1 =>
   cases hi2 : H1.internCs (k + 1) cs with
   | mk H2 cs2 =>
    simp only [Heap.internCs, hi1, hi2] at hi
    cases hi
    obtain ⟨hd1, hd2, hd3⟩ := List.nodup_append.1 hd
    obtain ⟨E1, a1, a2, a3, a4, a5, a6, a7, a8, a9, a10⟩ := intern_one hH (hk k (Nat.le_refl _) (by simp)) h1 (fun j hj => hn j (.inl hj)) (fun x hx => hf x (by simp [hx])) hd1 hi1
    have T1 : Took F H E H1 E1 k 1 b := ⟨a1, a2, a3, a4, a7, fun j hj => (a8 j hj).imp id (fun e => by omega), a9, a10⟩
    obtain ⟨E2, b1, b2, b3, b4⟩ := intern_cells (k := k + 1) a3 (fun j hj hj' => by
      cases hu : H1.used j with
      | false => rfl
      | true =>
       rcases a8 j hu with h | h
       ·have := hk j (by omega) (by simp; omega); rw [h] at this; cases this
       ·omega) (RXCs.sub a4 (fun x hx => by rw [a1]) (fun j hj => hn j (.inr hj)) h2) (fun j hj => a7 j (hn j (.inr hj)))
     (T1.free (fun x hx hx' => hd3 x hx' x hx rfl) (fun x hx => hf x (by simp [hx]))) hd2 hi2
    refine ⟨E2, by have := T1.trans b1; simpa [Nat.add_comm] using this, ?_, fun j hj => ?_, by simp [b4]⟩
    ·simp only [RCs]
     exact ⟨u, us', rfl, RC.sub b1.sub a6 a5, b2⟩
    ·simp only [cnames, List.mem_append] at hj
     exact hj.elim (fun h => b1.up j (a6 j h)) (b3 j)
variable {x' : V}
theorem intern_V {x : V} {H : Heap} (hH : RelH F H E) (hk : ∀ j, k ≤ j → j < k + x.cells.length → H.used j = false) (h : RXV E x u bs) (hn : ∀ j ∈ x.names, H.used j = true) (hf : Free F E bs) (hd : bs.Nodup)
  (hi : H.internV k x = (H', x')) : ∃ E', Took F H E H' E' k x.cells.length bs ∧ RV E' x' u ∧ (∀ j ∈ x'.names, H'.used j = true) := by
 cases x with
 | one c =>
  cases hi1 : H.internC k c with
  | mk H1 c1 =>
   simp only [Heap.internV, hi1] at hi
   cases hi
   obtain ⟨E1, a1, a2, a3, a4, a5, a6, a7, a8, a9, a10⟩ := intern_one hH (hk k (Nat.le_refl _) (by simp [V.cells])) h (fun j hj => hn j (by simpa [V.names, V.cells, cnames] using hj)) hf hd hi1
   exact ⟨E1, ⟨a1, a2, a3, a4, a7, fun j hj => (a8 j hj).imp id (fun e => by simp [V.cells]; omega), a9, a10⟩, a5, fun j hj => a6 j (by simpa [V.names, V.cells, cnames] using hj)⟩
 | agg cs =>
  obtain ⟨us, rfl, h⟩ := h
  cases hi1 : H.internCs k cs with
  | mk H1 cs1 =>
   simp only [Heap.internV, hi1] at hi
   cases hi
   obtain ⟨E1, a1, a2, a3, _⟩ := intern_cells hH hk h hn hf hd hi1
   exact ⟨E1, a1, ⟨us, rfl, a2⟩, a3⟩
theorem intern_Vs : ∀ {xs xs' : List V} {H H' : Heap} {E : Env} {k : Nat} {us : List Value} {bs : List Nat} (_ : RelH F H E) (_ : ∀ j, k ≤ j → j < k + (xs.flatMap V.cells).length → H.used j = false) (_ : RXVs E xs us bs) (_ : ∀ j ∈ xs.flatMap V.names, H.used j = true) (_ : Free F E bs) (_ : bs.Nodup)
  (_ : H.internVs k xs = (H', xs')), ∃ E', Took F H E H' E' k (xs.flatMap V.cells).length bs ∧ RVs E' xs' us ∧ (∀ j ∈ xs'.flatMap V.names, H'.used j = true)
 | [], xs', H, H', E, k, us, bs, hH, hk, h, hn, hf, hd, hi => by
  simp [Heap.internVs] at hi
  obtain ⟨rfl, rfl⟩ := hi
  obtain ⟨rfl, rfl⟩ := h
  exact ⟨E, ⟨rfl, rfl, hH, Sub.refl _ _, fun _ h => h, fun _ h => .inl h, fun _ _ h => .inl h, fun _ _ => rfl⟩, rfl, fun j hj => by simp at hj⟩
 | x :: xs, xs', H, H', E, k, us, bs, hH, hk, h, hn, hf, hd, hi => by
  obtain ⟨u, us', b, bs', rfl, rfl, h1, h2⟩ := h
  simp only [List.flatMap_cons, List.mem_append] at hn
  simp only [List.flatMap_cons, List.length_append] at hk
  cases hi1 : H.internV k x with
  | mk H1 x1 =>
   cases hi2 : H1.internVs (k + x.cells.length) xs with
   | mk H2 xs2 =>
    simp only [Heap.internVs, hi1, hi2] at hi
    cases hi
    obtain ⟨hd1, hd2, hd3⟩ := List.nodup_append.1 hd
    obtain ⟨E1, T1, a2, a3⟩ := intern_V hH (fun j hj hj' => hk j hj (by omega)) h1 (fun j hj => hn j (.inl hj)) (fun x hx => hf x (by simp [hx])) hd1 hi1
    obtain ⟨E2, b1, b2, b3⟩ := intern_Vs (k := k + x.cells.length) T1.rel (fun j hj hj' => by
      cases hu : H1.used j with
      | false => rfl
      | true =>
       rcases T1.down j hu with h | h
       ·have := hk j (by omega) (by omega); rw [h] at this; cases this
       ·omega) (h2.sub T1.sub (fun x hx => by rw [T1.w]) (fun j hj => hn j (.inr hj))) (fun j hj => T1.up j (hn j (.inr hj)))
     (T1.free (fun x hx hx' => hd3 x hx' x hx rfl) (fun x hx => hf x (by simp [hx]))) hd2 hi2
    refine ⟨E2, by have := T1.trans b1; simpa using this, ⟨u, us', rfl, RV.sub b1.sub a3 a2, b2⟩, fun j hj => ?_⟩
    simp only [List.flatMap_cons, List.mem_append] at hj
    exact hj.elim (fun h => b1.up j (a3 j h)) (b3 j)
end
abbrev Keep := Nat → Option Nat
def keepC (kp : Keep) : Cell → Option Cell
 | .ptr k j => (kp k).map fun i => .ptr i j
 | c => if c.names.isEmpty then some c else none
def keepCs (kp : Keep) : List Cell → Option (List Cell)
 | [] => some []
 | c :: cs => match keepC kp c, keepCs kp cs with
  | some c', some cs' => some (c' :: cs')
  | _, _ => none
def Heap.giveC (H : Heap) (kp : Keep) : Cell → Option (Heap × Cell)
 | .own k => (H.rows k).map fun r => ({ H with rows := upd H.rows k none }, .ow r.sz r.es)
 | .sub k lo n => if lo = 0 then (H.rows k).bind fun r => if n ≤ r.es.length then some ({ H with rows := upd H.rows k none }, .ow r.sz (r.es.take n)) else none else none
 | .ptr k j => match kp k with
  | some i => some (H, .ptr i j)
  | none => if j = 0 then (H.boxes k).bind fun cs => if (cnames cs).isEmpty then some ({ H with boxes := upd H.boxes k none }, .bx cs) else none else none
 | .clo f caps => (keepCs kp caps).map fun cs => (H, .clo f cs)
 | .ow .. | .bx .. => none
 | c => if c.names.isEmpty then some (H, c) else none
def Heap.viewC (H : Heap) (kp : Keep) (L : List Nat) : Cell → Option Cell
 | .own k => if L.contains k then (H.rows k).map fun r => .sl false r.es else none
 | .sub k lo n => if L.contains k then (H.rows k).map fun r => .sl false ((r.es.drop lo).take n) else none
 | .nil => some (.sl true [])
 | .ptr k j => (kp k).map fun i => .ptr i j
 | .clo f caps => (keepCs kp caps).map fun cs => .clo f cs
 | .ow .. | .bx .. => none
 | c => if c.names.isEmpty then some c else none
def Heap.passC (H : Heap) (kp : Keep) (L : List Nat) (mv : Bool) (c : Cell) : Option (Heap × Cell) :=
 if mv then H.giveC kp c else (H.viewC kp L c).map fun c' => (H, c')
def Heap.passCs (H : Heap) (kp : Keep) (L : List Nat) (mv : Bool) : List Cell → Option (Heap × List Cell)
 | [] => some (H, [])
 | c :: cs => match H.passC kp L mv c with
  | some (H1, c') => match H1.passCs kp L mv cs with
   | some (H2, cs') => some (H2, c' :: cs')
   | none => none
  | none => none
def Heap.passV (H : Heap) (kp : Keep) (L : List Nat) (mv : Bool) : V → Option (Heap × V)
 | .one c => (H.passC kp L mv c).map fun (H1, c') => (H1, .one c')
 | .agg cs => (H.passCs kp L mv cs).map fun (H1, cs') => (H1, .agg cs')
def Heap.passVs (H : Heap) (kp : Keep) (L : List Nat) : List (Bool × V) → Option (Heap × List V)
 | [] => some (H, [])
 | (mv, x) :: xs => match H.passV kp L mv x with
  | some (H1, x') => match H1.passVs kp L xs with
   | some (H2, xs') => some (H2, x' :: xs')
   | none => none
  | none => none
section
variable {F : Fix}
structure Face (E Ei : Env) (kp : Keep) (L : List Nat) : Prop where
 w : Ei.w = E.w
 S : ∀ g b, E.S g b → Ei.S g b
 lent : ∀ k ∈ L, ∀ b, Own E k b → Ei.S false b
 pt : ∀ k i, kp k = some i → ∀ b, Ei.pt i = some b → E.pt k = some b
variable {kp : Keep} {Ei : Env}
theorem Face.sub {L : List Nat} (f : Face E Ei kp L) : Sub E Ei (fun _ => False) :=
 ⟨f.S, fun _ _ _ => by rw [f.w], fun _ h => h.elim, fun _ h => h.elim, fun _ h => h.elim⟩
variable {c' : Cell}
theorem keepC_ok {L : List Nat} (f : Face E Ei kp L) {c : Cell} (h : keepC kp c = some c') (hc : RC E c u) : RC Ei c' u := by
 have plain : ∀ {c : Cell}, RC E c u → (if c.names.isEmpty then some c else none) = some c' → RC Ei c' u := by
  intro c hc h
  split at h
  ·rename_i he; cases h
   exact RC.sub f.sub (fun k hk => by simp at he; rw [he] at hk; cases hk) hc
  ·cases h
 cases c with
 | ptr k j =>
  simp only [keepC, Option.map_eq_some_iff] at h
  obtain ⟨i, hi, rfl⟩ := h
  simp only [RC] at hc ⊢
  exact ⟨hc.1, fun b hb => hc.2 b (f.pt k i hi b hb)⟩
 | _ => exact plain hc h
theorem keepCs_ok {L : List Nat} (f : Face E Ei kp L) : ∀ {cs cs' : List Cell} {us : List Value}, keepCs kp cs = some cs' → RCs E cs us → RCs Ei cs' us
 | [], cs', us, h, hc => by simp [keepCs] at h; subst h; simpa only [RCs] using hc
 | c :: cs, cs', us, h, hc => by
  unfold keepCs at h
  split at h
  ·rename_i c1 cs1 h1 h2
   cases h
   simp only [RCs] at hc ⊢
   obtain ⟨u, us', rfl, h3, h4⟩ := hc
   exact ⟨u, us', rfl, keepC_ok f h1 h3, keepCs_ok f h2 h4⟩
  ·cases h
structure Gave (F : Fix) (H : Heap) (E : Env) (H' : Heap) (E' : Env) (bs : List Nat) : Prop where
 w : E'.w = E.w
 S : E'.S = E.S
 rel : RelH F H' E'
 sub : Sub E E' (fun k => H.used k = true)
 used : ∀ j, H.used j = H'.used j
 own : ∀ j b, Own E' j b → Own E j b
 was : ∀ b ∈ bs, ∃ k, Own E k b
 gone : ∀ b ∈ bs, ∀ k, ¬ Own E' k b
 nodup : bs.Nodup
 pt : E'.pt = E.pt
 rows : ∀ k, H'.rows k ≠ none → H.rows k ≠ none
 ob : ∀ k, H'.rows k ≠ none → E'.ob k = E.ob k
theorem Gave.refl {H : Heap} (h : RelH F H E) : Gave F H E H E [] :=
 ⟨rfl, rfl, h, Sub.refl _ _, fun _ => rfl, fun _ _ h => h, (fun b hb => by cases hb), (fun b hb => by cases hb), List.nodup_nil, rfl, fun _ h => h, fun _ _ => rfl⟩
variable {bs' : List Nat} {E1 : Env} {H1 H2 : Heap}
theorem Gave.trans {H : Heap} {E2 : Env} (h : Gave F H E H1 E1 bs) (h' : Gave F H1 E1 H2 E2 bs') : Gave F H E H2 E2 (bs ++ bs') := by
 refine ⟨h'.w.trans h.w, h'.S.trans h.S, h'.rel, h.sub.trans (sub_used h.used h'.sub), fun j => (h.used j).trans (h'.used j), fun j b hj => h.own j b (h'.own j b hj), fun b hb => ?_, fun b hb k hk => ?_, ?_, h'.pt.trans h.pt, fun k hk => h.rows k (h'.rows k hk), fun k hk => (h'.ob k hk).trans (h.ob k (h'.rows k hk))⟩
 ·rcases List.mem_append.1 hb with hb | hb
  ·exact h.was b hb
  ·obtain ⟨k, hk⟩ := h'.was b hb; exact ⟨k, h.own k b hk⟩
 ·rcases List.mem_append.1 hb with hb | hb
  ·exact h.gone b hb k (h'.own k b hk)
  ·exact h'.gone b hb k hk
 ·refine List.nodup_append.2 ⟨h.nodup, h'.nodup, fun x hx y hy e => ?_⟩
  subst e
  obtain ⟨k, hk⟩ := h'.was x hy
  exact h.gone x hx k hk
theorem give_row' {H : Heap} (hH : RelH F H E) (hr : H.rows k = some r) (n : Nat) (hn : n ≤ r.es.length)
  (hu : ∀ hd, E.hdr k = some hd → (hd = .slice none 0 0 ∧ u = hd) ∨ ∃ g len cap, hd = .slice (some ⟨g, 0, none⟩) len cap ∧ u = .slice (some ⟨g, 0, none⟩) n cap) :
  ∃ bs, Gave F H E { H with rows := upd H.rows k none } (E.gone k) bs ∧ ∀ Ei : Env, Ei.w = E.w → (∀ g b, E.S g b → Ei.S g b) → RXC Ei (.ow r.sz (r.es.take n)) u bs := by
 obtain ⟨h1, h2, hd, h3, h4, h5⟩ := hH.rows k r hr
 obtain ⟨d1, d2⟩ := hH.dropRow k
 have hlt : (r.es.take n).length = n := by simp; omega
 have hcon : ∀ e ∈ r.es.take n, e.length = r.sz := fun e he => h1 e (List.mem_of_mem_take he)
 have hnames : Flat (r.es.take n) := by have := h2.part 0 n; simpa using this
 have hrows : ∀ j, upd H.rows k none j ≠ none → H.rows j ≠ none := fun j hj => by
  by_cases e : j = k
  ·subst e; rw [upd_same] at hj; exact absurd rfl hj
  ·rwa [upd_other _ _ e] at hj
 have hob : ∀ j, upd H.rows k none j ≠ none → (E.gone k).ob j = E.ob j := fun j hj => by
  by_cases e : j = k
  ·subst e; rw [upd_same] at hj; exact absurd rfl hj
  ·exact upd_other _ _ e
 rcases h5 with ⟨h6, h7, h10⟩ | ⟨g, cap, bs0, h6, h7, h8, h9, h10⟩
 ·refine ⟨[], ⟨rfl, rfl, d1, d2, fun _ => rfl, fun j b hj => hj.drop, (fun b hb => by cases hb), (fun b hb => by cases hb), List.nodup_nil, rfl, hrows, hob⟩, fun Ei fw fS => ?_⟩
  simp only [RXC]
  refine ⟨hcon, hnames, .inl ?_⟩
  rcases hu hd h3 with ⟨h8, h9⟩ | ⟨g, len, cap, h8, _⟩
  ·exact ⟨by rw [h9, h8], by simp [h7], trivial⟩
  ·rw [h6] at h8; cases h8
 ·have hf := fun b hb => hH.dropped (k := k) (g := b) hr hb
  have hnd := hH.nodup k
  rw [h10] at hnd
  obtain ⟨b1, p1, p2⟩ := h9.take n
  have hin : ∀ b ∈ g :: b1, b ∈ E.ob k := fun b hb => by
   rw [h10]
   rcases List.mem_cons.1 hb with rfl | hb
   ·simp
   ·simp [p2.subset hb]
  refine ⟨g :: b1, ⟨rfl, rfl, d1, d2, fun _ => rfl, fun j b hj => hj.drop, fun b hb => ⟨k, .inl (hin b hb)⟩, fun b hb j hj => (hf b (hin b hb)).2.1 j hj, hnd.sublist (List.Sublist.cons_cons g p2), rfl, hrows, hob⟩, fun Ei fw fS => ?_⟩
  simp only [RXC]
  refine ⟨hcon, hnames, .inr ?_⟩
  rcases hu hd h3 with ⟨h8', _⟩ | ⟨g', len, cap', h8', h9'⟩
  ·rw [h6] at h8'; cases h8'
  ·rw [h6] at h8'; cases h8'
   exact ⟨g, cap, b1, by rw [h9', hlt], by rw [hlt]; omega, by rw [fw]; exact h8, RXRow.sub (N := fun _ => False) ⟨fS, fun _ _ _ => by rw [fw], fun _ h => h.elim, fun _ h => h.elim, fun _ h => h.elim⟩ (by rw [fw]) (fun _ _ => by rw [fw]) (fun k hk => by rw [hnames.2] at hk; cases hk) p1, rfl⟩
theorem give_row {H : Heap} (hH : RelH F H E) (hr : H.rows k = some r) (n : Nat) (hn : n ≤ r.es.length)
  (hu : ∀ hd, E.hdr k = some hd → (hd = .slice none 0 0 ∧ u = hd) ∨ ∃ g len cap, hd = .slice (some ⟨g, 0, none⟩) len cap ∧ u = .slice (some ⟨g, 0, none⟩) n cap) :
  ∃ E' bs, Gave F H E { H with rows := upd H.rows k none } E' bs ∧ ∀ Ei L, Face E Ei kp L → RXC Ei (.ow r.sz (r.es.take n)) u bs := by
 obtain ⟨bs, h1, h2⟩ := give_row' hH hr n hn hu
 exact ⟨_, bs, h1, fun Ei L f => h2 Ei f.w f.S⟩
theorem give_one {H : Heap} {c : Cell} (hH : RelH F H E) (h : H.giveC kp c = some (H', c')) (hc : RC E c u) :
  ∃ E' bs, Gave F H E H' E' bs ∧ ∀ Ei L, Face E Ei kp L → RXC Ei c' u bs := by
 have plain : ∀ {c : Cell}, c.isOw = false → RC E c u → (if c.names.isEmpty then some (H, c) else none) = some (H', c') →
   ∃ E' bs, Gave F H E H' E' bs ∧ ∀ Ei L, Face E Ei kp L → RXC Ei c' u bs := by
  intro c ho hc h
  split at h
  ·rename_i he; cases h
   refine ⟨E, [], Gave.refl hH, fun Ei L f => ?_⟩
   exact RXC.of (RC.sub f.sub (fun k hk => by simp at he; rw [he] at hk; cases hk) hc) ho
  ·cases h
 have row := fun {k r} hr n hn hu => give_row (kp := kp) (u := u) hH (k := k) (r := r) hr n hn hu
 cases c with
 | own k =>
  simp only [Heap.giveC, Option.map_eq_some_iff] at h
  obtain ⟨r, hr, h⟩ := h
  cases h
  obtain ⟨_, _, hd, h3, _, h5⟩ := hH.rows k r hr
  simp only [RC] at hc
  have := row hr r.es.length (Nat.le_refl _) (fun hd' h' => by
   rw [h3] at h'; cases h'
   have hu := hc.2 hd h3
   rcases h5 with ⟨h6, _⟩ | ⟨g, cap, _, h6, _⟩
   ·exact .inl ⟨h6, hu⟩
   ·exact .inr ⟨g, _, cap, h6, by rw [hu, h6]⟩)
  simpa using this
 | sub k lo n =>
  simp only [Heap.giveC] at h
  split at h
  ·rename_i hlo; subst hlo
   simp only [Option.bind_eq_some_iff] at h
   obtain ⟨r, hr, h⟩ := h
   split at h
   ·rename_i hn; cases h
    obtain ⟨_, _, hd, h3, _, h5⟩ := hH.rows k r hr
    simp only [RC] at hc
    exact row hr n hn (fun hd' h' => by
     rw [h3] at h'; cases h'
     rcases hc.2 hd h3 with ⟨h6, _, h7, h8⟩ | ⟨g, len, cap, a, h6, h7, h8, h9, h10⟩
     ·exact .inl ⟨h6, h8⟩
     ·exact .inr ⟨g, len, cap, h6, by rw [h8, show a = ⟨g, 0, none⟩ by first | exact h10 | exact h10 rfl | exact h10 trivial]; simp⟩)
   ·cases h
  ·cases h
 | ptr k j =>
  simp only [Heap.giveC] at h
  split at h
  ·rename_i i hi; cases h
   refine ⟨E, [], Gave.refl hH, fun Ei L f => RXC.of ?_ rfl⟩
   simp only [RC] at hc ⊢
   exact ⟨hc.1, fun b hb => hc.2 b (f.pt k i hi b hb)⟩
  ·split at h
   ·rename_i hj; subst hj
    simp only [Option.bind_eq_some_iff] at h
    obtain ⟨cs, hcs, h⟩ := h
    split at h
    ·rename_i he; cases h
     obtain ⟨g, us, h1, h2, h3, h4⟩ := hH.boxes k cs hcs
     obtain ⟨d1, d2⟩ := hH.dropBox k
     simp only [RC] at hc
     refine ⟨{ E with blk := upd E.blk k none }, [g], ⟨rfl, rfl, d1, d2, fun _ => rfl, fun j b hj => hj.dropB, fun b hb => ?_, fun b hb j hj => ?_, by simp, rfl, fun _ h => h, fun _ _ => rfl⟩, fun Ei L f => by simp only [RXC]; exact ⟨by simpa using he, g, us, hc.2 g (hH.pt k g h1), h2.sub f.sub (by simp at he; simp [he]), by rw [f.w]; exact h3, by rw [f.w]; exact h4, rfl⟩⟩
     ·simp at hb; subst hb; exact ⟨k, .inr h1⟩
     ·simp at hb; subst hb
      have := hH.uniq j k _ hj.dropB (.inr h1)
      subst this
      rcases hj with hj | hj
      ·have hrk : H.rows j = none := by
        rcases hH.both j with e1 | e1
        ·exact e1
        ·rw [h1] at e1; cases e1
       simp only at hj; rw [hH.hdr0 j hrk] at hj; cases hj
      ·simp [upd_same] at hj
    ·cases h
   ·cases h
 | clo f caps =>
  simp only [Heap.giveC, Option.map_eq_some_iff] at h
  obtain ⟨cs, hcs, h⟩ := h
  cases h
  refine ⟨E, [], Gave.refl hH, fun Ei L fc => RXC.of ?_ rfl⟩
  simp only [RC] at hc ⊢
  obtain ⟨us, hu, hr⟩ := hc
  exact ⟨us, hu, keepCs_ok fc hcs hr⟩
 | ow sz es => cases h
 | bx cs => cases h
 | _ => exact plain rfl hc h
theorem view_one {H : Heap} {L : List Nat} {c : Cell} (hH : RelH F H E) (h : H.viewC kp L c = some c') (hc : RC E c u) : ∀ Ei, Face E Ei kp L → RXC Ei c' u [] := by
 intro Ei f
 have plain : ∀ {c : Cell}, c.isOw = false → RC E c u → (if c.names.isEmpty then some c else none) = some c' → RXC Ei c' u [] := by
  intro c ho hc h
  split at h
  ·rename_i he; cases h
   exact RXC.of (RC.sub f.sub (fun k hk => by simp at he; rw [he] at hk; cases hk) hc) ho
  ·cases h
 have row : ∀ {k : Nat} {r : Row} (lo n : Nat), L.contains k → H.rows k = some r → (∀ hd, E.hdr k = some hd → (hd = .slice none 0 0 ∧ n = 0 ∧ u = hd) ∨
   ∃ g len cap a, hd = .slice (some ⟨g, 0, none⟩) len cap ∧ lo + n ≤ len ∧ u = .slice (some a) n (cap - lo) ∧ (n = 0 ∨ a = ⟨g, lo * E.sz k, none⟩)) → RXC Ei (.sl false ((r.es.drop lo).take n)) u [] := by
  intro k r lo n hL hr hu
  have hL : k ∈ L := by simpa using hL
  obtain ⟨h1, h2, hd, h3, h4, h5⟩ := hH.rows k r hr
  refine RXC.of ?_ rfl
  simp only [RC]
  rcases hu hd h3 with ⟨h6, rfl, h7⟩ | ⟨g, len, cap, a, h6, h7, h8, h9⟩
  ·exact ⟨h2.part _ _, none, 0, by rw [h7, h6]; simp, by simp, .inl (by simp)⟩
  ·rcases h5 with ⟨h10, _⟩ | ⟨g', cap', bs0, h10, h11, h12, h13, h14⟩
   ·rw [h10] at h6; cases h6
   ·rw [h10] at h6; cases h6
    have hlen : ((r.es.drop lo).take n).length = n := by simp; omega
    refine ⟨h2.part _ _, some a, cap - lo, by rw [h8, hlen], by rw [hlen]; omega, ?_⟩
    rcases h9 with h9 | h9
    ·exact .inl (by simp [h9])
    ·right
     have hlk : ∀ b ∈ g :: bs0, Ei.S false b := fun b hb => f.lent k hL b (.inl (by rw [h14]; exact hb))
     have hv : RRow Ei g 0 r.sz r.es := RXRow.view ⟨f.S true, fun _ _ => by rw [f.w], fun _ h => h.elim, fun _ h => h.elim, fun _ h => h.elim⟩ (by rw [f.w]) (fun b hb => ⟨by rw [f.w], hlk b (by simp [hb])⟩) h2.1 h2.2 h13
     have hr' : RRow Ei g (0 + lo * r.sz) r.sz ((r.es.drop lo).take n) := (hv.drop lo).take n
     refine ⟨g, lo * r.sz, r.sz, by rw [h9, h4], hlk g (by simp), ?_⟩
     have hcap : Ei.cap false = Ei := by simp [Env.cap]
     rw [hcap]
     simpa using hr'
 cases c with
 | own k =>
  simp only [Heap.viewC] at h
  split at h
  ·rename_i hL
   simp only [Option.map_eq_some_iff] at h
   obtain ⟨r, hr, rfl⟩ := h
   obtain ⟨_, _, hd, h3, _, h5⟩ := hH.rows k r hr
   simp only [RC] at hc
   have := row 0 r.es.length hL hr (fun hd' h' => by
    rw [h3] at h'; cases h'
    have hu := hc.2 hd h3
    rcases h5 with ⟨h6, h7, _⟩ | ⟨g, cap, _, h6, _⟩
    ·exact .inl ⟨h6, by simp [h7], hu⟩
    ·exact .inr ⟨g, _, cap, ⟨g, 0, none⟩, h6, by omega, by rw [hu, h6]; simp, .inr (by simp)⟩)
   simpa using this
  ·cases h
 | sub k lo n =>
  simp only [Heap.viewC] at h
  split at h
  ·rename_i hL
   simp only [Option.map_eq_some_iff] at h
   obtain ⟨r, hr, rfl⟩ := h
   simp only [RC] at hc
   exact row lo n hL hr (fun hd' h' => by
    rcases hc.2 hd' h' with ⟨h6, _, h7, h8⟩ | ⟨g, len, cap, a, h6, h7, h8, h9, _⟩
    ·exact .inl ⟨h6, h7, h8⟩
    ·exact .inr ⟨g, len, cap, a, h6, h7, h8, h9⟩)
  ·cases h
 | nil =>
  simp [Heap.viewC] at h; subst h
  simp only [RC] at hc
  refine RXC.of ?_ rfl
  simp only [RC]
  exact ⟨Flat.nil, none, 0, by rw [hc]; rfl, by simp, .inl trivial⟩
 | ptr k j =>
  simp only [Heap.viewC, Option.map_eq_some_iff] at h
  obtain ⟨i, hi, rfl⟩ := h
  refine RXC.of ?_ rfl
  simp only [RC] at hc ⊢
  exact ⟨hc.1, fun b hb => hc.2 b (f.pt k i hi b hb)⟩
 | clo g caps =>
  simp only [Heap.viewC, Option.map_eq_some_iff] at h
  obtain ⟨cs, hcs, rfl⟩ := h
  refine RXC.of ?_ rfl
  simp only [RC] at hc ⊢
  obtain ⟨us, hu, hr⟩ := hc
  exact ⟨us, hu, keepCs_ok f hcs hr⟩
 | ow sz es => cases h
 | bx cs => cases h
 | _ => exact plain rfl hc h
theorem Face.gave {H : Heap} {L : List Nat} (f : Face E Ei kp L) (g : Gave F H E H' E' bs) : Face E' Ei kp L :=
 ⟨f.w.trans g.w.symm, fun x b h => f.S x b (by rw [← g.S]; exact h), fun k hk b h => f.lent k hk b (g.own k b h), fun k i hi b hb => by rw [g.pt]; exact f.pt k i hi b hb⟩
theorem pass_one {H : Heap} {L : List Nat} {mv : Bool} {c : Cell} (hH : RelH F H E) (h : H.passC kp L mv c = some (H', c')) (hc : RC E c u) :
  ∃ E' bs, Gave F H E H' E' bs ∧ ∀ Ei, Face E Ei kp L → RXC Ei c' u bs := by
 unfold Heap.passC at h
 split at h
 ·obtain ⟨E', bs, h1, h3⟩ := give_one hH h hc
  exact ⟨E', bs, h1, fun Ei f => h3 Ei L f⟩
 ·simp only [Option.map_eq_some_iff] at h
  obtain ⟨c1, hc1, h⟩ := h
  cases h
  exact ⟨E, [], Gave.refl hH, view_one hH hc1 hc⟩
theorem pass_cells {L : List Nat} {mv : Bool} : ∀ {cs cs' : List Cell} {H H' : Heap} {E : Env} {us : List Value} (_ : RelH F H E) (_ : H.passCs kp L mv cs = some (H', cs')) (_ : RCs E cs us) (_ : ∀ j ∈ cnames cs, H.used j = true),
  ∃ E' bs, Gave F H E H' E' bs ∧ ∀ Ei, Face E Ei kp L → RXCs Ei cs' us bs
 | [], cs', H, H', E, us, hH, h, hc, hn => by
  simp [Heap.passCs] at h
  obtain ⟨rfl, rfl⟩ := h
  simp only [RCs] at hc
  exact ⟨E, [], Gave.refl hH, fun Ei f => by simp only [RXCs]; exact ⟨hc, trivial⟩⟩
 | c :: cs, cs', H, H', E, us, hH, h, hc, hn => by
  simp only [RCs] at hc
  obtain ⟨u, us', rfl, h1, h2⟩ := hc
  simp only [cnames, List.mem_append] at hn
  unfold Heap.passCs at h
  split at h
  ·rename_i H1 c1 hp1
   split at h
   ·rename_i H2 cs2 hp2
    cases h
    obtain ⟨E1, b1, g1, g4⟩ := pass_one hH hp1 h1
    obtain ⟨E2, b2, k1, k4⟩ := pass_cells g1.rel hp2 (h2.sub g1.sub (fun j hj => hn j (.inr hj))) (fun j hj => by rw [← g1.used]; exact hn j (.inr hj))
    refine ⟨E2, b1 ++ b2, g1.trans k1, fun Ei f => by simp only [RXCs]; exact ⟨u, us', b1, b2, rfl, rfl, g4 Ei f, k4 Ei (f.gave g1)⟩⟩
   ·cases h
  ·cases h
variable {x' : V}
theorem pass_V {L : List Nat} {mv : Bool} {x : V} {H : Heap} (hH : RelH F H E) (h : H.passV kp L mv x = some (H', x')) (hc : RV E x u) (hn : ∀ j ∈ x.names, H.used j = true) :
  ∃ E' bs, Gave F H E H' E' bs ∧ ∀ Ei, Face E Ei kp L → RXV Ei x' u bs := by
 cases x with
 | one c =>
  simp only [Heap.passV, Option.map_eq_some_iff] at h
  obtain ⟨⟨H1, c1⟩, h1, h⟩ := h
  cases h
  obtain ⟨E1, b1, g1, g4⟩ := pass_one hH h1 hc
  exact ⟨E1, b1, g1, g4⟩
 | agg cs =>
  simp only [Heap.passV, Option.map_eq_some_iff] at h
  obtain ⟨⟨H1, c1⟩, h1, h⟩ := h
  cases h
  obtain ⟨us, rfl, hr⟩ := hc
  obtain ⟨E1, b1, g1, g4⟩ := pass_cells hH h1 hr hn
  exact ⟨E1, b1, g1, fun Ei f => ⟨us, rfl, g4 Ei f⟩⟩
theorem pass_Vs {L : List Nat} : ∀ {xs : List (Bool × V)} {xs' : List V} {H H' : Heap} {E : Env} {us : List Value} (_ : RelH F H E) (_ : H.passVs kp L xs = some (H', xs')) (_ : RVs E (xs.map (·.2)) us) (_ : ∀ p ∈ xs, ∀ j ∈ p.2.names, H.used j = true),
  ∃ E' bs, Gave F H E H' E' bs ∧ ∀ Ei, Face E Ei kp L → RXVs Ei xs' us bs
 | [], xs', H, H', E, us, hH, h, hc, hn => by
  simp [Heap.passVs] at h
  obtain ⟨rfl, rfl⟩ := h
  exact ⟨E, [], Gave.refl hH, fun Ei f => ⟨hc, rfl⟩⟩
 | (mv, x) :: xs, xs', H, H', E, us, hH, h, hc, hn => by
  obtain ⟨u, us', rfl, h1, h2⟩ := hc
  unfold Heap.passVs at h
  split at h
  ·rename_i H1 c1 hp1
   split at h
   ·rename_i H2 cs2 hp2
    cases h
    obtain ⟨E1, b1, g1, g4⟩ := pass_V hH hp1 h1 (hn (mv, x) (by simp))
    have hn2 : ∀ k ∈ (xs.map (·.2)).flatMap V.names, H.used k = true := by
     intro k hk
     obtain ⟨v, hv, hk⟩ := List.mem_flatMap.1 hk
     obtain ⟨p, hp, rfl⟩ := List.mem_map.1 hv
     exact hn p (by simp [hp]) k hk
    obtain ⟨E2, b2, k1, k4⟩ := pass_Vs g1.rel hp2 (h2.sub g1.sub hn2) (fun p hp j hj => by rw [← g1.used]; exact hn p (by simp [hp]) j hj)
    refine ⟨E2, b1 ++ b2, g1.trans k1, fun Ei f => ⟨u, us', b1, b2, rfl, rfl, g4 Ei f, k4 Ei (f.gave g1)⟩⟩
   ·cases h
  ·cases h
end
def Heap.innerC (H : Heap) : Cell → Option (Heap × Cell)
 | .own k => (H.rows k).map fun r => (H.dropRow k, .ow r.sz r.es)
 | .sub k lo n => if lo = 0 then (H.rows k).bind fun r => if n ≤ r.es.length then some (H.dropRow k, .ow r.sz (r.es.take n)) else none else none
 | .ow .. | .bx .. => none
 | c => if c.names.isEmpty then some (H, c) else none
def Heap.innerCs (H : Heap) : List Cell → Option (Heap × List Cell)
 | [] => some (H, [])
 | c :: cs => match H.innerC c with
  | some (H1, c') => match H1.innerCs cs with
   | some (H2, cs') => some (H2, c' :: cs')
   | none => none
  | none => none
def Heap.giveOuts (H : Heap) : List Nat → Option (Heap × List (List Cell))
 | [] => some (H, [])
 | k :: ks => match H.boxes k with
  | some cs => match H.innerCs cs with
   | some (H1, cs') => match Heap.giveOuts (H1.dropBox k) ks with
    | some (H2, css) => some (H2, cs' :: css)
    | none => none
   | none => none
  | none => none
def Heap.takeOuts (H : Heap) (k : Nat) : List Nat → List (List Cell) → Heap
 | b :: bs, cs :: css => Heap.takeOuts ((H.internCs k cs).1.putBox b (namedCs k cs)) (k + cs.length) bs css
 | _, _ => H
section
variable {F : Fix}
variable {c' : Cell}
theorem inner_one {H : Heap} {c : Cell} (hH : RelH F H E) (h : H.innerC c = some (H', c')) (hc : RC E c u) :
  ∃ E' bs, Gave F H E H' E' bs ∧ H'.boxes = H.boxes ∧ E'.blk = E.blk ∧ ∀ Ei : Env, Ei.w = E.w → (∀ g b, E.S g b → Ei.S g b) → RXC Ei c' u bs := by
 have plain : ∀ {c : Cell}, c.isOw = false → RC E c u → (if c.names.isEmpty then some (H, c) else none) = some (H', c') →
   ∃ E' bs, Gave F H E H' E' bs ∧ H'.boxes = H.boxes ∧ E'.blk = E.blk ∧ ∀ Ei : Env, Ei.w = E.w → (∀ g b, E.S g b → Ei.S g b) → RXC Ei c' u bs := by
  intro c ho hc h
  split at h
  ·rename_i he; cases h
   exact ⟨E, [], Gave.refl hH, rfl, rfl, fun Ei fw fS => RXC.of (RC.sub (N := fun _ => False) ⟨fS, fun _ _ _ => by rw [fw], fun _ h => h.elim, fun _ h => h.elim, fun _ h => h.elim⟩ (fun k hk => by simp at he; rw [he] at hk; cases hk) hc) ho⟩
  ·cases h
 cases c with
 | own k =>
  simp only [Heap.innerC, Option.map_eq_some_iff] at h
  obtain ⟨r, hr, h⟩ := h
  cases h
  obtain ⟨_, _, hd, h3, _, h5⟩ := hH.rows k r hr
  simp only [RC] at hc
  obtain ⟨bs, g1, g2⟩ := give_row' hH hr r.es.length (Nat.le_refl _) (fun hd' h' => by
   rw [h3] at h'; cases h'
   have hu := hc.2 hd h3
   rcases h5 with ⟨h6, _⟩ | ⟨g, cap, _, h6, _⟩
   ·exact .inl ⟨h6, hu⟩
   ·exact .inr ⟨g, _, cap, h6, by rw [hu, h6]⟩)
  exact ⟨_, bs, g1, rfl, rfl, by simpa using g2⟩
 | sub k lo n =>
  simp only [Heap.innerC] at h
  split at h
  ·rename_i hlo; subst hlo
   simp only [Option.bind_eq_some_iff] at h
   obtain ⟨r, hr, h⟩ := h
   split at h
   ·rename_i hn; cases h
    obtain ⟨_, _, hd, h3, _, h5⟩ := hH.rows k r hr
    simp only [RC] at hc
    obtain ⟨bs, g1, g2⟩ := give_row' hH hr n hn (fun hd' h' => by
     rw [h3] at h'; cases h'
     rcases hc.2 hd h3 with ⟨h6, _, h7, h8⟩ | ⟨g, len, cap, a, h6, h7, h8, h9, h10⟩
     ·exact .inl ⟨h6, h8⟩
     ·exact .inr ⟨g, len, cap, h6, by rw [h8, show a = ⟨g, 0, none⟩ by first | exact h10 | exact h10 rfl | exact h10 trivial]; simp⟩)
    exact ⟨_, bs, g1, rfl, rfl, g2⟩
   ·cases h
  ·cases h
 | ow sz es => cases h
 | bx cs => cases h
 | _ => exact plain rfl hc h
theorem inner_cells : ∀ {cs cs' : List Cell} {H H' : Heap} {E : Env} {us : List Value} (_ : RelH F H E) (_ : H.innerCs cs = some (H', cs')) (_ : RCs E cs us) (_ : ∀ j ∈ cnames cs, H.used j = true),
  ∃ E' bs, Gave F H E H' E' bs ∧ H'.boxes = H.boxes ∧ E'.blk = E.blk ∧ cs'.length = cs.length ∧ ∀ Ei : Env, Ei.w = E.w → (∀ g b, E.S g b → Ei.S g b) → RXCs Ei cs' us bs
 | [], cs', H, H', E, us, hH, h, hc, hn => by
  simp [Heap.innerCs] at h
  obtain ⟨rfl, rfl⟩ := h
  simp only [RCs] at hc
  exact ⟨E, [], Gave.refl hH, rfl, rfl, rfl, fun Ei _ _ => by simp only [RXCs]; exact ⟨hc, trivial⟩⟩
 | c :: cs, cs', H, H', E, us, hH, h, hc, hn => by
  simp only [RCs] at hc
  obtain ⟨u, us', rfl, h1, h2⟩ := hc
  simp only [cnames, List.mem_append] at hn
  unfold Heap.innerCs at h
  split at h
  ·rename_i H1 c1 hp1
   split at h
   ·rename_i H2 cs2 hp2
    cases h
    obtain ⟨E1, b1, g1, g2, g3, g4⟩ := inner_one hH hp1 h1
    obtain ⟨E2, b2, k1, k2, k3, k4, k5⟩ := inner_cells g1.rel hp2 (h2.sub g1.sub (fun j hj => hn j (.inr hj))) (fun j hj => by rw [← g1.used]; exact hn j (.inr hj))
    refine ⟨E2, b1 ++ b2, g1.trans k1, k2.trans g2, k3.trans g3, by simp [k4], fun Ei fw fS => by simp only [RXCs]; exact ⟨u, us', b1, b2, rfl, rfl, g4 Ei fw fS, k5 Ei (fw.trans g1.w.symm) (fun x b hb => fS x b (by rwa [← g1.S]))⟩⟩
   ·cases h
  ·cases h
def Heap.innerV (H : Heap) : V → Option (Heap × V)
 | .one c => (H.innerC c).map fun p => (p.1, .one p.2)
 | .agg cs => (H.innerCs cs).map fun p => (p.1, .agg p.2)
def Heap.innerVs (H : Heap) : List V → Option (Heap × List V)
 | [] => some (H, [])
 | x :: xs => match H.innerV x with
  | some (H1, x') => match H1.innerVs xs with
   | some (H2, xs') => some (H2, x' :: xs')
   | none => none
  | none => none
variable {x' : V}
theorem inner_V {x : V} {H : Heap} (hH : RelH F H E) (h : H.innerV x = some (H', x')) (hc : RV E x u) (hn : ∀ j ∈ x.names, H.used j = true) :
  ∃ E' bs, Gave F H E H' E' bs ∧ ∀ Ei : Env, Ei.w = E.w → (∀ g b, E.S g b → Ei.S g b) → RXV Ei x' u bs := by
 cases x with
 | one c =>
  simp only [Heap.innerV, Option.map_eq_some_iff] at h
  obtain ⟨⟨H1, c1⟩, h1, h⟩ := h
  cases h
  obtain ⟨E1, b1, g1, _, _, g4⟩ := inner_one hH h1 hc
  exact ⟨E1, b1, g1, g4⟩
 | agg cs =>
  simp only [Heap.innerV, Option.map_eq_some_iff] at h
  obtain ⟨⟨H1, c1⟩, h1, h⟩ := h
  cases h
  obtain ⟨us, rfl, hc⟩ := hc
  obtain ⟨E1, b1, g1, _, _, _, g4⟩ := inner_cells hH h1 hc hn
  exact ⟨E1, b1, g1, fun Ei fw fS => ⟨us, rfl, g4 Ei fw fS⟩⟩
theorem inner_Vs : ∀ {xs xs' : List V} {H H' : Heap} {E : Env} {us : List Value} (_ : RelH F H E) (_ : H.innerVs xs = some (H', xs')) (_ : RVs E xs us) (_ : ∀ x ∈ xs, ∀ j ∈ x.names, H.used j = true),
  ∃ E' bs, Gave F H E H' E' bs ∧ ∀ Ei : Env, Ei.w = E.w → (∀ g b, E.S g b → Ei.S g b) → RXVs Ei xs' us bs
 | [], xs', H, H', E, us, hH, h, hc, hn => by
  simp [Heap.innerVs] at h
  obtain ⟨rfl, rfl⟩ := h
  exact ⟨E, [], Gave.refl hH, fun Ei _ _ => ⟨hc, rfl⟩⟩
 | x :: xs, xs', H, H', E, us, hH, h, hc, hn => by
  obtain ⟨u, us', rfl, h1, h2⟩ := hc
  unfold Heap.innerVs at h
  split at h
  ·rename_i H1 x1 hp1
   split at h
   ·rename_i H2 xs2 hp2
    cases h
    obtain ⟨E1, b1, g1, g2⟩ := inner_V hH hp1 h1 (hn x (by simp))
    obtain ⟨E2, b2, k1, k2⟩ := inner_Vs g1.rel hp2 (h2.sub g1.sub (fun j hj => by
     obtain ⟨y, hy, hj⟩ := List.mem_flatMap.1 hj
     exact hn y (by simp [hy]) j hj)) (fun y hy j hj => by rw [← g1.used]; exact hn y (by simp [hy]) j hj)
    exact ⟨E2, b1 ++ b2, g1.trans k1, fun Ei fw fS => ⟨u, us', b1, b2, rfl, rfl, g2 Ei fw fS, k2 Ei (fw.trans g1.w.symm) (fun x b hb => fS x b (by rwa [← g1.S]))⟩⟩
   ·cases h
  ·cases h
theorem give_outs : ∀ {ks : List Nat} {H H' : Heap} {E : Env} {css : List (List Cell)} (_ : RelH F H E) (_ : H.giveOuts ks = some (H', css)),
  ∃ E' ob bs, Gave F H E H' E' (bs ++ ob) ∧ (∀ k ∈ ks, H.boxes k ≠ none) ∧ (∀ k, H'.boxes k = if k ∈ ks then none else H.boxes k) ∧ ob.length = ks.length ∧ css.length = ks.length ∧ (∀ (i k : Nat), ks[i]? = some k → E.blk k = ob[i]?) ∧
   ∀ Ei : Env, Ei.w = E.w → (∀ g b, E.S g b → Ei.S g b) → RXOuts Ei css ob bs
 | [], H, H', E, css, hH, h => by
  simp [Heap.giveOuts] at h
  obtain ⟨rfl, rfl⟩ := h
  exact ⟨E, [], [], Gave.refl hH, (fun k hk => by cases hk), (fun k => by simp), rfl, rfl, (fun i k h => by simp at h), fun Ei _ _ => ⟨rfl, rfl⟩⟩
 | k :: ks, H, H', E, css, hH, h => by
  unfold Heap.giveOuts at h
  split at h
  ·rename_i cs hcs
   split at h
   ·rename_i H1 cs1 hp
    split at h
    ·rename_i H2 css2 hr
     cases h
     obtain ⟨g, us, h1, h2, h3, h4⟩ := hH.boxes k cs hcs
     obtain ⟨E1, b1, g1, g2, g3, gl, g4⟩ := inner_cells hH hp h2 (hH.usedB k cs hcs).2
     obtain ⟨d1, d2⟩ := g1.rel.dropBox k
     have hb1 : E1.blk k = some g := by rw [g3]; exact h1
     have hnr : E1.ob k = [] := by
      rcases g1.rel.both k with e1 | e1
      ·exact g1.rel.hdr0 k e1
      ·rw [hb1] at e1; cases e1
     have T1 : Gave F H E { H1 with boxes := upd H1.boxes k none } { E1 with blk := upd E1.blk k none } (b1 ++ [g]) := by
      refine ⟨g1.w, g1.S, d1, g1.sub.trans (sub_used g1.used d2), g1.used, fun j b hj => g1.own j b hj.dropB, fun b hb => ?_, fun b hb j hj => ?_, ?_, g1.pt, g1.rows, g1.ob⟩
      ·rcases List.mem_append.1 hb with hb | hb
       ·exact g1.was b hb
       ·simp at hb; subst hb; exact ⟨k, .inr h1⟩
      ·rcases List.mem_append.1 hb with hb | hb
       ·exact g1.gone b hb j hj.dropB
       ·simp at hb; subst hb
        have := g1.rel.uniq j k _ hj.dropB (.inr hb1)
        subst this
        rcases hj with hj | hj
        ·simp only [hnr] at hj; cases hj
        ·simp [upd_same] at hj
      ·refine List.nodup_append.2 ⟨g1.nodup, by simp, fun x hx y hy e => ?_⟩
       simp at hy; subst e; subst hy
       exact g1.gone x hx k (.inr hb1)
     obtain ⟨E2, ob, bs, k1, k2, k3, k4, k5, k6, k7⟩ := give_outs (ks := ks) d1 hr
     have hbox : ∀ j, upd H1.boxes k none j ≠ none → j ≠ k ∧ H.boxes j ≠ none := fun j hj => by
      by_cases e : j = k
      ·subst e; simp [upd_same] at hj
      ·rw [upd_other _ _ e, g2] at hj; exact ⟨e, hj⟩
     have T2 := T1.trans k1
     refine ⟨E2, g :: ob, b1 ++ bs, ?_, fun j hj => ?_, fun j => ?_, by simp [k4], by simp [k5], fun i j hij => ?_, fun Ei hw hS => ?_⟩
     ·have hperm : List.Perm (b1 ++ [g] ++ (bs ++ ob)) (b1 ++ bs ++ g :: ob) := by
       simp only [List.append_assoc, List.singleton_append]
       exact List.Perm.append_left b1 (List.perm_middle (l₁ := bs) (l₂ := ob) (a := g)).symm
      exact ⟨T2.w, T2.S, T2.rel, T2.sub, T2.used, T2.own, fun b hb => T2.was b (hperm.mem_iff.2 hb), fun b hb => T2.gone b (hperm.mem_iff.2 hb), hperm.nodup_iff.1 T2.nodup, T2.pt, T2.rows, T2.ob⟩
     ·rcases List.mem_cons.1 hj with rfl | hj
      ·rw [hcs]; simp
      ·exact (hbox j (k2 j hj)).2
     ·rw [k3 j]
      by_cases e : j = k
      ·subst e; simp [upd_same]
      ·simp only [upd_other _ _ e, g2, List.mem_cons, e, false_or]
     ·cases i with
      | zero => simp at hij; subst hij; simpa using h1
      | succ i =>
       simp only [List.getElem?_cons_succ] at hij ⊢
       have := k6 i j hij
       have hne := (hbox j (k2 j (List.mem_of_getElem? hij))).1
       simp only [upd_other _ _ hne, g3] at this
       exact this
     ·refine ⟨g, ob, us, b1, bs, rfl, rfl, g4 Ei hw hS, by rw [hw]; exact h3, by rw [hw, gl]; exact h4, k7 Ei (by rw [hw]; exact g1.w.symm) (fun x b hb => hS x b (by have := g1.S; simp only at hb; rw [this] at hb; exact hb))⟩
    ·cases h
   ·cases h
  ·cases h
end
section
variable {P : Program} {F : Fix}
theorem RelH.reBox {H : Heap} (h : RelH F H E) {cs : List Cell} {g : Nat} (hk : H.used k = true) (hr0 : H.rows k = none) (hr : RCs E cs us) (hn : ∀ j ∈ cnames cs, H.used j = true)
  (hat : E.w.rangeAt g 0 us) (hth : E.w.there g 0 cs.length) (hg : (∀ c, ¬ E.S c g) ∧ (∀ k, ¬ Own E k g) ∧ g < E.w.heap.size ∧ (F.w0.heap.size ≤ g ∨ F.T g)) (hp : E.pt k = some g) :
  RelH F { H with boxes := upd H.boxes k (some cs) } { E with blk := upd E.blk k (some g) } ∧ (∀ N, Sub E { E with blk := upd E.blk k (some g) } N) ∧ (∀ j b, Own { E with blk := upd E.blk k (some g) } j b → Own E j b ∨ b = g) := by
 have s : ∀ N, Sub E { E with blk := upd E.blk k (some g) } N := fun N => ⟨fun _ _ h => h, fun _ _ _ => rfl, fun _ _ => rfl, fun _ _ _ h => h, fun _ _ _ _ => rfl⟩
 have hown : ∀ j b, Own { E with blk := upd E.blk k (some g) } j b → (j ≠ k ∧ Own E j b) ∨ (j = k ∧ b = g) := by
  intro j b hj
  by_cases e : j = k
  ·subst e
   rcases hj with hj | hj
   ·simp only at hj; rw [h.hdr0 j hr0] at hj; cases hj
   ·simp only [upd_same] at hj; exact .inr ⟨rfl, by simpa using hj.symm⟩
  ·refine .inl ⟨e, ?_⟩
   rcases hj with hj | hj
   ·exact .inl hj
   ·exact .inr (by simpa only [upd_other _ _ e] using hj)
 refine ⟨⟨fun j q hq => ?_, fun j ds hc => ?_, h.hdr0, fun j hj => ?_, fun j => ?_, fun j j' b hj hj' => ?_, fun j b hj => ?_, h.S, h.SS, h.Ssub, h.Ssup, fun j v hv => ?_, h.fr, h.usedR, fun j ds hc => ?_, h.nodup, h.lens, h.hv⟩, s, fun j b hj => (hown j b hj).elim (fun h => .inl h.2) (fun h => .inr h.2)⟩
 ·obtain ⟨h1, h2, hd', h3, h4, h5⟩ := h.rows j q hq
  exact ⟨h1, h2, hd', h3, h4, RowIn.chg (s fun _ => True) h2 (fun _ _ => rfl) h5⟩
 ·by_cases e : j = k
  ·subst e
   simp only [upd_same] at hc; cases hc
   exact ⟨g, us, by simp [upd_same], hr.sub (s fun _ => True) (fun _ _ => trivial), hat, hth⟩
  ·simp only [upd_other _ _ e] at hc
   obtain ⟨g', us', h1, h2, h3, h4⟩ := h.boxes j ds hc
   exact ⟨g', us', by simpa only [upd_other _ _ e] using h1, h2.sub (s fun _ => True) (fun _ _ => trivial), h3, h4⟩
 ·by_cases e : j = k
  ·subst e; simp [upd_same] at hj
  ·simp only [upd_other _ _ e] at hj ⊢; exact h.blk0 j hj
 ·by_cases e : j = k
  ·subst e; exact .inl hr0
  ·simp only [upd_other _ _ e]; exact h.both j
 ·rcases hown j b hj with ⟨e, o⟩ | ⟨e, o⟩ <;> rcases hown j' b hj' with ⟨e', o'⟩ | ⟨e', o'⟩
  ·exact h.uniq j j' b o o'
  ·subst o'; exact absurd o (hg.2.1 j)
  ·subst o; exact absurd o' (hg.2.1 j')
  ·rw [e, e']
 ·rcases hown j b hj with ⟨e, o⟩ | ⟨e, o⟩
  ·exact h.own j b o
  ·subst o; exact ⟨hg.1, hg.2.2.1, hg.2.2.2⟩
 ·by_cases e : j = k
  ·subst e; simp only [upd_same] at hv; cases hv; exact hp
  ·simp only [upd_other _ _ e] at hv; exact h.pt j v hv
 ·by_cases e : j = k
  ·subst e
   simp only [upd_same] at hc; cases hc
   exact ⟨hk, hn⟩
  ·simp only [upd_other _ _ e] at hc
   exact h.usedB j ds hc
theorem internC_rows {H : Heap} {c : Cell} (h : j ≠ k) : (H.internC k c).1.rows j = H.rows j ∧ (H.internC k c).1.boxes j = H.boxes j := by
 cases c <;> simp [Heap.internC, Heap.ownRow, Heap.ownBox, upd_other _ _ h]
theorem internCs_rows : ∀ {cs : List Cell} {H : Heap} {k j : Nat}, (j < k ∨ k + cs.length ≤ j) → (H.internCs k cs).1.rows j = H.rows j ∧ (H.internCs k cs).1.boxes j = H.boxes j
 | [], H, k, j, _ => ⟨rfl, rfl⟩
 | c :: cs, H, k, j, h => by
  simp only [List.length_cons] at h
  have h1 := internC_rows (H := H) (c := c) (show j ≠ k by omega)
  have h2 := internCs_rows (cs := cs) (H := (H.internC k c).1) (k := k + 1) (j := j) (by omega)
  simp only [Heap.internCs]
  exact ⟨h2.1.trans h1.1, h2.2.trans h1.2⟩
def V.clean (x : V) : Bool := cclean x.cells
theorem RXV.clean {N : Nat → Prop} (s : SubT E E' N) {x : V} (hm : ∀ b ∈ bs, E'.w.heap[b]? = E.w.heap[b]?) (hc : x.clean = true) (hn : ∀ k ∈ x.names, N k) (h : RXV E x u bs) : RXV E' x u bs := by
 cases x with
 | one c => exact RXC.clean s hm (by simpa [V.clean, V.cells, cclean] using hc) (fun k hk => hn k (by simpa [V.names, V.cells, cnames] using hk)) h
 | agg cs => obtain ⟨us, h1, h2⟩ := h; exact ⟨us, h1, RXCs.clean s hm hc hn h2⟩
theorem RXVs.clean {N : Nat → Prop} (s : SubT E E' N) : ∀ {xs : List V} {us : List Value} {bs : List Nat}, (∀ b ∈ bs, E'.w.heap[b]? = E.w.heap[b]?) → (∀ x ∈ xs, x.clean = true) → (∀ k ∈ xs.flatMap V.names, N k) → RXVs E xs us bs → RXVs E' xs us bs
 | [], _, _, _, _, _, h => h
 | x :: xs, _, _, hm, hc, hn, h => by
  obtain ⟨u, us', b, bs', rfl, rfl, h1, h2⟩ := h
  simp only [List.flatMap_cons, List.mem_append] at hn
  exact ⟨u, us', b, bs', rfl, rfl, h1.clean s (fun x hx => hm x (by simp [hx])) (hc x (by simp)) (fun k hk => hn k (.inl hk)), RXVs.clean s (fun x hx => hm x (by simp [hx])) (fun x hx => hc x (by simp [hx])) (fun k hk => hn k (.inr hk)) h2⟩
theorem take_outs : ∀ {ks : List Nat} {css : List (List Cell)} {H : Heap} {E Eo : Env} {ob bs : List Nat} {k0 : Nat} (_ : RelH F H E) (_ : css.length = ks.length) (_ : ob.length = ks.length) (_ : RXOuts Eo css ob bs) (_ : Eo.w = E.w) (_ : SubT Eo E (fun _ => False))
  (_ : ∀ cs ∈ css, cclean cs = true ∧ cnames cs = []) (_ : ∀ j, k0 ≤ j → j < k0 + css.flatten.length → H.used j = false) (_ : ∀ k ∈ ks, H.used k = true ∧ H.rows k = none) (_ : ∀ (i k : Nat), ks[i]? = some k → E.pt k = ob[i]?)
  (_ : Free F E (bs ++ ob)) (_ : (bs ++ ob).Nodup),
  ∃ E', E'.w = E.w ∧ E'.S = E.S ∧ RelH F (H.takeOuts k0 ks css) E' ∧ Sub E E' (fun k => H.used k = true) ∧ (∀ j, H.used j = true → (H.takeOuts k0 ks css).used j = true) ∧ (∀ j b, Own E' j b → Own E j b ∨ b ∈ bs ++ ob)
 | [], css, H, E, Eo, ob, bs, k0, hH, hl, _, _, _, _, _, _, _, _, _, _ => by
  obtain rfl : css = [] := by simpa using hl
  exact ⟨E, rfl, rfl, hH, Sub.refl _ _, fun _ h => h, fun _ _ h => .inl h⟩
 | k :: ks, css, H, E, Eo, ob, bs, k0, hH, hl, hlo, h, hw, hs, hc, hk0, hks, hp, hf, hd => by
  cases css with
  | nil => simp at hl
  | cons cs css =>
   obtain ⟨g, ob', us, b, bs', rfl, rfl, h1, h2, h3, h4⟩ := h
   obtain ⟨hc1, hc2⟩ := hc cs (by simp)
   simp only [List.flatten_cons, List.length_append] at hk0
   have hfb : Free F E b := fun x hx => hf x (by simp [hx])
   have hnd : b.Nodup := by
    have := hd; simp only [List.append_assoc] at this; exact (List.nodup_append.1 this).1
   have hX : RXCs E cs us b := RXCs.clean hs (fun x hx => by rw [hw]) hc1 (fun k hk => by rw [hc2] at hk; cases hk) h1
   cases hi : H.internCs k0 cs with
   | mk H1 cs1 =>
    obtain ⟨E1, T1, a2, a3, a4⟩ := intern_cells hH (fun j hj hj' => hk0 j hj (by omega)) hX (by simp [hc2]) hfb hnd hi
    have hd' : (b ++ (bs' ++ (g :: ob'))).Nodup := by simpa [List.append_assoc] using hd
    obtain ⟨hn1, hn2, hn3⟩ := List.nodup_append.1 hd'
    have hf1 : Free F E1 (bs' ++ (g :: ob')) := T1.free (fun x hx hxb => hn3 x hxb x hx rfl) (fun x hx => hf x (by rw [List.append_assoc]; exact List.mem_append_right _ hx))
    have hku := hks k (by simp)
    have rows1 : ∀ j, H.used j = true → H1.rows j = H.rows j := fun j hj => by
     have := internCs_rows (cs := cs) (H := H) (k := k0) (j := j) (by
      rcases Nat.lt_or_ge j k0 with h | h
      ·exact .inl h
      ·right
       refine Classical.byContradiction fun hh => ?_
       have := hk0 j h (by omega)
       rw [hj] at this; cases this)
     rw [hi] at this; exact this.1
    have hpt1 : E1.pt k = some g := by
     rw [T1.pt k hku.1]; have := hp 0 k (by simp); simpa using this
    obtain ⟨r1, r2, r3⟩ := T1.rel.reBox (k := k) (T1.up k hku.1) (by rw [rows1 k hku.1]; exact hku.2) a2 a3 (by rw [T1.w, ← hw]; exact h2) (by rw [T1.w, ← hw, a4]; exact h3) (hf1 g (by simp)) hpt1
    obtain ⟨hg1, hg2, hg3⟩ := List.nodup_append.1 hn2
    have hf2 : Free F { E1 with blk := upd E1.blk k (some g) } (bs' ++ ob') := fun x hx => by
     have hx' : x ∈ bs' ++ (g :: ob') := by
      rcases List.mem_append.1 hx with h | h
      ·exact List.mem_append_left _ h
      ·exact List.mem_append_right _ (List.mem_cons_of_mem _ h)
     obtain ⟨f1, f2, f3, f4⟩ := hf1 x hx'
     refine ⟨f1, fun j hj => (r3 j x hj).elim (f2 j) (fun e => ?_), f3, f4⟩
     subst e
     rcases List.mem_append.1 hx with h | h
     ·exact hg3 x h x (by simp) rfl
     ·exact (List.nodup_cons.1 hg2).1 h
    have hd2 : (bs' ++ ob').Nodup := List.nodup_append.2 ⟨hg1, (List.nodup_cons.1 hg2).2, fun x hx y hy => hg3 x hx y (by simp [hy])⟩
    obtain ⟨E2, k1, k2, k3, k4, k5, k6⟩ := take_outs (ks := ks) (css := css) (k0 := k0 + cs.length) r1 (by simpa using hl) (by simpa using hlo) h4 (by rw [hw]; exact T1.w.symm)
     ⟨fun b hb => by have := hs.S b hb; simp only; rw [T1.S]; exact this, fun b hb => by have := hs.mem b hb; simp only; rw [T1.w]; exact this, fun _ h => h.elim, fun _ h => h.elim, fun _ h => h.elim⟩
     (fun cs hcs => hc cs (by simp [hcs])) (fun j hj hj' => by
      cases hu : H1.used j with
      | false => exact hu
      | true =>
       rcases T1.down j hu with h | h
       ·have := hk0 j (by omega) (by omega); rw [h] at this; cases this
       ·omega) (fun j hj => ⟨T1.up j (hks j (by simp [hj])).1, by
        show H1.rows j = none
        rw [rows1 j (hks j (by simp [hj])).1]; exact (hks j (by simp [hj])).2⟩)
     (fun i j hij => by
      have hj := hks j (by simp [List.mem_of_getElem? hij])
      show E1.pt j = _
      rw [T1.pt j hj.1]
      have := hp (i + 1) j (by simpa using hij)
      simpa using this) hf2 hd2
    have htake : H.takeOuts k0 (k :: ks) (cs :: css) = Heap.takeOuts { H1 with boxes := upd H1.boxes k (some cs1) } (k0 + cs.length) ks css := by
     simp only [Heap.takeOuts, Heap.putBox, hi, show namedCs k0 cs = cs1 by rw [← internCs_named cs H k0, hi]]
    refine ⟨E2, k1.trans T1.w, k2.trans T1.S, by rw [htake]; exact k3, ?_, fun j hj => by rw [htake]; exact k5 j (T1.up j hj), fun j x hj => by
     rcases k6 j x hj with h | h
     ·rcases r3 j x h with h | h
      ·rcases T1.own j x h with h | h
       ·exact .inl h
       ·exact .inr (by simp [h])
      ·exact .inr (by simp [h])
     ·exact .inr (by
       rcases List.mem_append.1 h with h | h
       ·simp [h]
       ·simp [h])⟩
    have s1 := T1.sub.trans (r2 (fun k => H.used k = true))
    exact s1.trans ⟨k4.S, k4.mem, fun j hj => k4.hdrE j (T1.up j hj), fun j hj => k4.pt j (T1.up j hj), fun j hj => k4.sz j (T1.up j hj)⟩
def Heap.backCs (H0 : Heap) (H : Heap) : List Cell → List Cell → Option Heap
 | [], [] => some H
 | .own k :: cs, .ow sz es :: ds => match H0.rows k, H.rows k, H.boxes k with
  | some r, none, none => if r.sz == sz then Heap.backCs H0 (H.addRow k ⟨sz, es⟩) cs ds else none
  | _, _, _ => none
 | _ :: _, .ow .. :: _ => none
 | _ :: _, .bx _ :: _ => none
 | _ :: cs, _ :: ds => Heap.backCs H0 H cs ds
 | _, _ => none
def Heap.backV (H0 : Heap) (H : Heap) : V → V → Option Heap
 | .one c, .one d => Heap.backCs H0 H [c] [d]
 | .agg cs, .agg ds => Heap.backCs H0 H cs ds
 | _, _ => none
def Heap.backVs (H0 : Heap) (H : Heap) : List V → List V → Option Heap
 | [], [] => some H
 | x :: xs, y :: ys => match Heap.backV H0 H x y with
  | some H1 => Heap.backVs H0 H1 xs ys
  | none => none
 | _, _ => none
structure Backed (F : Fix) (H : Heap) (E : Env) (H' : Heap) (E' : Env) (bs : List Nat) : Prop where
 w : E'.w = E.w
 S : E'.S = E.S
 rel : RelH F H' E'
 sub : ∀ N, Sub E E' N
 up : ∀ j, H.used j = true → H'.used j = true
 own : ∀ j b, Own E' j b → Own E j b ∨ b ∈ bs
variable {bs' : List Nat} {E1 : Env} {H1 H2 : Heap}
theorem Backed.trans {H : Heap} {E2 : Env} (h : Backed F H E H1 E1 bs) (h' : Backed F H1 E1 H2 E2 bs') : Backed F H E H2 E2 (bs ++ bs') :=
 ⟨h'.w.trans h.w, h'.S.trans h.S, h'.rel, fun N => (h.sub N).trans (h'.sub N), fun j hj => h'.up j (h.up j hj), fun j b hj => by
  rcases h'.own j b hj with h1 | h1
  ·rcases h.own j b h1 with h2 | h2
   ·exact .inl h2
   ·exact .inr (List.mem_append_left _ h2)
  ·exact .inr (List.mem_append_right _ h1)⟩
theorem Backed.free {H : Heap} (h : Backed F H E H1 E1 bs) (hd : ∀ b ∈ bs', b ∉ bs) (hf : Free F E bs') : Free F E1 bs' := fun b hb => by
 obtain ⟨h1, h2, h3, h4⟩ := hf b hb
 exact ⟨fun c hc => h1 c (by rw [h.S] at hc; exact hc), fun j hj => (h.own j b hj).elim (h2 j) (hd b hb), by rw [h.w]; exact h3, h4⟩
theorem back_one {H0 H : Heap} {E0 Eo : Env} (h0 : RelH F H0 E0) (hH : RelH F H E) (hr : H0.rows k = some r) (h1 : H.rows k = none) (h2 : H.boxes k = none) (hsz : r.sz = sz)
  (hu : RC E0 (.own k) u) (hX : RXC Eo (.ow sz es) u bs) (hw : Eo.w = E.w) (hs : SubT Eo E (fun _ => False)) (hh : ∀ j, H0.used j = true → E.hdr j = E0.hdr j) (hz : ∀ j, H0.used j = true → ∀ v, E.hdr j = some v → E.sz j = E0.sz j) (hf : Free F E bs) (hnd : bs.Nodup) :
  ∃ E', Backed F H E (H.addRow k ⟨sz, es⟩) E' bs := by
 obtain ⟨_, _, hd, a3, a4, _⟩ := h0.rows k r hr
 simp only [RC] at hu
 have hu' := hu.2 hd a3
 subst hu'
 have hk := h0.usedR k (by rw [hr]; simp)
 have e1 : E.hdr k = some u := by rw [hh k hk]; exact a3
 have e2 : E.sz k = sz := by rw [hz k hk u e1, a4, hsz]
 simp only [RXC] at hX
 obtain ⟨b1, b2, b3⟩ := hX
 have key : RowIn E u ⟨sz, es⟩ bs := by
  rcases b3 with ⟨c1, c2, c3⟩ | ⟨g, cap, bs', c1, c2, c3, c4, c5⟩
  ·exact .inl ⟨c1, c2, c3⟩
  ·exact .inr ⟨g, cap, bs', c1, c2, by rw [← hw]; exact c3, RXRow.clean hs (by rw [hw]) (fun _ _ => by rw [hw]) b2.1 (fun k hk => by rw [b2.2] at hk; cases hk) c4, c5⟩
 have s := fun N => Sub.oldRow (E := E) (k := k) (hd := u) (sz := sz) (bs := bs) e1 e2 N
 refine ⟨E.rowAt k u sz bs, rfl, rfl, hH.putRow h1 h2 b1 b2 key hnd (fun g hg => hf g hg) (s _) (fun v hv => by have := (hH.hv k v hv).2; rw [e1] at this; cases this; rfl) (fun n hn => by obtain ⟨_, a, cap, h⟩ := hH.lens k n hn; rw [e1] at h; cases h; exact ⟨a, cap, rfl⟩), s, fun j hj => Heap.addRow_used j hj, fun j b hj => ?_⟩
 rcases hj with hj | hj
 ·by_cases e : j = k
  ·subst e; simp only [Env.rowAt, upd_same] at hj; exact .inr hj
  ·exact .inl (.inl (by simpa only [Env.rowAt, upd_other _ _ e] using hj))
 ·exact .inl (.inr hj)
theorem back_cells {H0 : Heap} {E0 Eo : Env} (h0 : RelH F H0 E0) : ∀ {cs ds : List Cell} {H H' : Heap} {E : Env} {us : List Value} {bs : List Nat} (_ : RelH F H E) (_ : Heap.backCs H0 H cs ds = some H') (_ : RCs E0 cs us) (_ : RXCs Eo ds us bs) (_ : Eo.w = E.w) (_ : SubT Eo E (fun _ => False)) (_ : cclean ds = true ∧ cnames ds = [])
  (_ : ∀ j, H0.used j = true → E.hdr j = E0.hdr j) (_ : ∀ j, H0.used j = true → ∀ v, E.hdr j = some v → E.sz j = E0.sz j) (_ : Free F E bs) (_ : bs.Nodup), ∃ E', Backed F H E H' E' bs
 | [], [], H, H', E, us, bs, hH, h, hc, hX, hw, hs, hcl, hh, hz, hf, hd => by
  simp only [Heap.backCs, Option.some.injEq] at h; subst h
  simp only [RXCs] at hX
  obtain ⟨_, rfl⟩ := hX
  exact ⟨E, rfl, rfl, hH, fun N => Sub.refl _ N, fun _ h => h, fun _ _ h => .inl h⟩
 | [], _ :: _, H, H', E, us, bs, hH, h, hc, hX, hw, hs, hcl, hh, hz, hf, hd => by simp [Heap.backCs] at h
 | _ :: _, [], H, H', E, us, bs, hH, h, hc, hX, hw, hs, hcl, hh, hz, hf, hd => by simp [Heap.backCs] at h
 | c :: cs, d :: ds, H, H', E, us, bs, hH, h, hc, hX, hw, hs, hcl, hh, hz, hf, hd => by
  simp only [RXCs] at hX
  obtain ⟨u, us', b, bs', rfl, rfl, x1, x2⟩ := hX
  simp only [RCs] at hc
  obtain ⟨u', us'', he, c1, c2⟩ := hc
  simp only [List.cons.injEq] at he
  obtain ⟨rfl, rfl⟩ := he
  simp only [cclean, Bool.and_eq_true, cnames, List.append_eq_nil_iff] at hcl
  obtain ⟨hd1, hd2, hd3⟩ := List.nodup_append.1 hd
  have plain : b = [] → Heap.backCs H0 H cs ds = some H' → ∃ E', Backed F H E H' E' (b ++ bs') := by
   intro hb h
   subst hb
   exact back_cells h0 hH h c2 x2 hw hs ⟨hcl.1.2, hcl.2.2⟩ hh hz hf hd2
  cases d with
  | ow sz es =>
   cases c with
   | own k =>
    simp only [Heap.backCs] at h
    split at h
    ·rename_i r hr h1 h2
     split at h
     ·rename_i hsz
      obtain ⟨E1, B1⟩ := back_one h0 hH hr h1 h2 (eq_of_beq hsz) c1 x1 hw hs hh hz (fun x hx => hf x (by simp [hx])) hd1
      obtain ⟨E2, B2⟩ := back_cells h0 B1.rel h c2 x2 (hw.trans B1.w.symm) ⟨fun b hb => by rw [B1.S]; exact hs.S b hb, fun b hb => by rw [B1.w]; exact hs.mem b hb, fun _ h => h.elim, fun _ h => h.elim, fun _ h => h.elim⟩ ⟨hcl.1.2, hcl.2.2⟩
       (fun j hj => by rw [(B1.sub (fun _ => True)).hdrE j trivial]; exact hh j hj) (fun j hj v hv => by
        have e := (B1.sub (fun _ => True)).hdrE j trivial
        rw [(B1.sub (fun _ => True)).sz j trivial v hv]
        exact hz j hj v (by rw [← e]; exact hv)) (B1.free (fun x hx hxb => hd3 x hxb x hx rfl) (fun x hx => hf x (by simp [hx]))) hd2
      exact ⟨E2, B1.trans B2⟩
     ·cases h
    ·cases h
   | _ => simp [Heap.backCs] at h
  | bx es => cases c <;> simp [Heap.backCs] at h
  | _ =>
   simp only [RXC] at x1
   cases c <;> exact plain x1.2 (by simpa only [Heap.backCs] using h)
theorem back_Vs {H0 : Heap} {E0 Eo : Env} (h0 : RelH F H0 E0) : ∀ {xs ys : List V} {H H' : Heap} {E : Env} {us : List Value} {bs : List Nat} (_ : RelH F H E) (_ : Heap.backVs H0 H xs ys = some H') (_ : RVs E0 xs us) (_ : RXVs Eo ys us bs) (_ : Eo.w = E.w) (_ : SubT Eo E (fun _ => False)) (_ : ∀ y ∈ ys, V.clean y = true ∧ y.names = [])
  (_ : ∀ j, H0.used j = true → E.hdr j = E0.hdr j) (_ : ∀ j, H0.used j = true → ∀ v, E.hdr j = some v → E.sz j = E0.sz j) (_ : Free F E bs) (_ : bs.Nodup), ∃ E', Backed F H E H' E' bs
 | [], [], H, H', E, us, bs, hH, h, hc, hX, hw, hs, hcl, hh, hz, hf, hd => by
  simp only [Heap.backVs, Option.some.injEq] at h; subst h
  obtain ⟨_, rfl⟩ := hX
  exact ⟨E, rfl, rfl, hH, fun N => Sub.refl _ N, fun _ h => h, fun _ _ h => .inl h⟩
 | [], _ :: _, H, H', E, us, bs, hH, h, hc, hX, hw, hs, hcl, hh, hz, hf, hd => by simp [Heap.backVs] at h
 | _ :: _, [], H, H', E, us, bs, hH, h, hc, hX, hw, hs, hcl, hh, hz, hf, hd => by simp [Heap.backVs] at h
 | x :: xs, y :: ys, H, H', E, us, bs, hH, h, hc, hX, hw, hs, hcl, hh, hz, hf, hd => by
  obtain ⟨u, us', b, bs', rfl, rfl, x1, x2⟩ := hX
  obtain ⟨u', us'', he, c1, c2⟩ := hc
  simp only [List.cons.injEq] at he
  obtain ⟨rfl, rfl⟩ := he
  obtain ⟨hd1, hd2, hd3⟩ := List.nodup_append.1 hd
  unfold Heap.backVs at h
  split at h
  ·rename_i H1 h1
   have one : ∃ E', Backed F H E H1 E' b := by
    have hy := hcl y (by simp)
    have hf1 : Free F E b := fun x hx => hf x (by simp [hx])
    cases x with
    | one c => cases y with
     | one d =>
      exact back_cells h0 hH h1 (us := [u]) (by simp only [RCs]; exact ⟨u, [], rfl, c1, rfl⟩) (bs := b) (by simp only [RXCs]; exact ⟨u, [], b, [], rfl, by simp, x1, rfl, rfl⟩) hw hs hy hh hz hf1 hd1
     | agg ds => simp [Heap.backV] at h1
    | agg cs => cases y with
     | one d => simp [Heap.backV] at h1
     | agg ds =>
      obtain ⟨us1, rfl, c1⟩ := c1
      obtain ⟨us2, e, x1⟩ := x1
      have : us1 = us2 := by simpa using e
      subst this
      exact back_cells h0 hH h1 c1 x1 hw hs hy hh hz hf1 hd1
   obtain ⟨E1, B1⟩ := one
   obtain ⟨E2, B2⟩ := back_Vs h0 B1.rel h c2 x2 (hw.trans B1.w.symm) ⟨fun b hb => by rw [B1.S]; exact hs.S b hb, fun b hb => by rw [B1.w]; exact hs.mem b hb, fun _ h => h.elim, fun _ h => h.elim, fun _ h => h.elim⟩ (fun z hz => hcl z (by simp [hz]))
    (fun j hj => by rw [(B1.sub (fun _ => True)).hdrE j trivial]; exact hh j hj) (fun j hj v hv => by
     have e := (B1.sub (fun _ => True)).hdrE j trivial
     rw [(B1.sub (fun _ => True)).sz j trivial v hv]
     exact hz j hj v (by rw [← e]; exact hv)) (B1.free (fun x hx hxb => hd3 x hxb x hx rfl) (fun x hx => hf x (by simp [hx]))) hd2
   exact ⟨E2, B1.trans B2⟩
  ·cases h
end
def slotOf : List V → Slot
 | [x] => .v x
 | xs => .tup xs
section
variable {P : Program} {F : Fix}
theorem RelH.extS {H : Heap} (h : RelH F H E) {S : Bool → Nat → Prop} (h1 : ∀ g b, E.S g b → S g b) (h2 : ∀ g b, S g b → E.S g b ∨ ((∀ k, ¬ Own E k b) ∧ b < E.w.heap.size ∧ (F.w0.heap.size ≤ b ∨ F.T b))) (h3 : ∀ b, S true b → S false b) :
  RelH F H { E with S := S } ∧ ∀ N, Sub E { E with S := S } N := by
 have s : ∀ N, Sub E { E with S := S } N := fun N => ⟨h1, fun _ _ _ => rfl, fun _ _ => rfl, fun _ _ _ h => h, fun _ _ _ _ => rfl⟩
 refine ⟨⟨fun j q hq => ?_, fun j ds hd => ?_, h.hdr0, h.blk0, h.both, h.uniq, fun j b hj => ?_, fun c b hb => ?_, h3, fun c b hb => ?_, fun c b hb => h1 c b (h.Ssup c b hb), h.pt, h.fr, h.usedR, h.usedB, h.nodup, h.lens, h.hv⟩, s⟩
 ·obtain ⟨a1, a2, hd', a3, a4, a5⟩ := h.rows j q hq
  exact ⟨a1, a2, hd', a3, a4, a5.chg (s fun _ => True) a2 (fun _ _ => rfl)⟩
 ·obtain ⟨g', us, a1, a2, a3, a4⟩ := h.boxes j ds hd
  exact ⟨g', us, a1, a2.sub (s fun _ => True) (fun _ _ => trivial), a3, a4⟩
 ·have := h.own j b hj
  refine ⟨fun c hb => ?_, this.2⟩
  rcases h2 c b hb with h4 | h4
  ·exact this.1 c h4
  ·exact h4.1 j hj
 ·rcases h2 c b hb with h4 | h4
  ·exact h.S c b h4
  ·exact h4.2.1
 ·rcases h2 c b hb with h4 | h4
  ·exact h.Ssub c b h4
  ·exact .inr h4.2.2
variable {xs : List V}
theorem RVs.slot (h : RVs E xs us) : RSlot E (slotOf xs) (retVal us) := by
 cases xs with
 | nil => obtain rfl : us = [] := h; exact ⟨[], rfl, rfl⟩
 | cons x xs =>
  obtain ⟨u, us', rfl, h1, h2⟩ := h
  cases xs with
  | nil => obtain rfl : us' = [] := h2; exact h1
  | cons y ys =>
   obtain ⟨v, vs, rfl, h3, h4⟩ := h2
   exact ⟨u :: v :: vs, rfl, u, _, rfl, h1, v, _, rfl, h3, h4⟩
theorem slotOf_names (xs : List V) : (slotOf xs).names = xs.flatMap V.names := by
 cases xs with
 | nil => rfl
 | cons x xs => cases xs with
  | nil => simp [slotOf, Slot.names]
  | cons y ys => rfl
theorem RVs.nth : ∀ {xs : List V} {us : List Value} {i : Nat}, RVs E xs us → i < xs.length → RV E (xs.getD i (.one .bad)) (us.getD i undef)
 | [], us, i, h, hi => by simp at hi
 | x :: xs, us, i, h, hi => by
  obtain ⟨u, us', rfl, h1, h2⟩ := h
  cases i with
  | zero => simpa using h1
  | succ i => simpa using RVs.nth h2 (by simpa using hi)
theorem RVs.pick (h : RVs E xs us) : ∀ {bp : List Nat}, (∀ i ∈ bp, i < xs.length) → RVs E (pickV bp xs) (pickU bp us)
 | [], _ => rfl
 | i :: bp, hb => ⟨_, _, rfl, h.nth (hb i (by simp)), RVs.pick h (fun j hj => hb j (by simp [hj]))⟩
def After (F : Fix) (H : Heap) (E : Env) (Q : Slot → Heap → Prop) (v : Value) (w' : World) : Prop :=
 ∃ s H' E', E'.w = w' ∧ RelH F H' E' ∧ Sub E E' (fun k => H.used k = true) ∧ (∀ k, H.used k = true → H'.used k = true) ∧ RSlot E' s v ∧ (∀ k ∈ s.names, H'.used k = true) ∧ Q s H'
structure Good (H2 : Heap) (ks : List Nat) (kb : Nat) (res : List V) (outs' : List (List Cell)) (bk : List V) : Prop where
 cback : ∀ x ∈ bk, x.clean = true ∧ x.names = []
 cres : ∀ x ∈ res, x.clean = true ∧ x.names = []
 len : outs'.length = ks.length
 couts : ∀ cs ∈ outs', cclean cs = true ∧ cnames cs = []
 fresh : ∀ j, kb ≤ j → j < kb + (res.flatMap V.cells).length + outs'.flatten.length → H2.used j = false
theorem internV_same : ∀ (x : V) (H : Heap) (k j : Nat), (j < k ∨ k + x.cells.length ≤ j) → (H.internV k x).1.rows j = H.rows j
 | .one c, H, k, j, h => by simp [V.cells] at h; exact (internC_rows (H := H) (c := c) (show j ≠ k by omega)).1
 | .agg cs, H, k, j, h => (internCs_rows (cs := cs) (H := H) (k := k) (j := j) h).1
theorem internVs_same : ∀ (xs : List V) (H : Heap) (k j : Nat), (j < k ∨ k + (xs.flatMap V.cells).length ≤ j) → (H.internVs k xs).1.rows j = H.rows j
 | [], _, _, _, _ => rfl
 | x :: xs, H, k, j, h => by
  simp only [List.flatMap_cons, List.length_append] at h
  simp only [Heap.internVs]
  rw [internVs_same xs _ _ j (by omega), internV_same x H k j (by omega)]
variable {bp : List Nat} {outs : List (List Cell)} {H1 H2 : Heap} {kp : Keep} {vs : List (Bool × V)}
theorem call_ok {H : Heap} (hH : RelH F H E) (hvs : RVs E (vs.map (·.2)) us) (hn : ∀ p ∈ vs, ∀ j ∈ p.2.names, H.used j = true) {L ks : List Nat}
  (hpass : H.passVs kp L vs = some (H1, xs)) (houts : H1.giveOuts ks = some (H2, outs)) (hkp : ∀ (k i : Nat), kp k = some i → ks[i]? = some k) (hL : ∀ k ∈ L, H2.rows k ≠ none) {f : FuncId} {Post : List V → List (List Cell) → List V → Prop} (hf : Holds P f xs outs bp Post) (hbp : ∀ i ∈ bp, i < vs.length)
  {kb : Nat} {Q : Slot → Heap → Prop} (hq : ∀ res outs' bk, Post res outs' bk → Good H2 ks kb res outs' bk ∧ ∃ H3, Heap.backVs H ((H2.internVs kb res).1.takeOuts (kb + (res.flatMap V.cells).length) ks outs') (pickV bp (vs.map (·.2))) bk = some H3 ∧ Q (slotOf (H2.internVs kb res).2) H3) :
  Calls P f us.toArray E.w fun e w' => ∃ v, e = .returned v ∧ After F H E Q v w' := by
 obtain ⟨E1, bs1, G1, hX⟩ := pass_Vs hH hpass hvs hn
 obtain ⟨E2, ob, obs, G2, ks0, kbox, hobl, houtl, hobk, hO⟩ := give_outs G1.rel houts
 have G := G1.trans G2
 -- the callee's view
 let Sin : Bool → Nat → Prop := fun g b => E.S g b ∨ (g = false ∧ ∃ k ∈ L, Own E k b)
 have hface : Face E (envI E.w Sin ob) kp L := by
  refine ⟨rfl, fun g b h => .inl h, fun k hk b hb => .inr ⟨rfl, k, hk, hb⟩, fun k i hi b hb => ?_⟩
  have h1 := hobk i k (hkp k i hi)
  have hb' : ob[i]? = some b := hb
  rw [hb'] at h1
  have := G1.rel.pt k b h1
  rwa [G1.pt] at this
 have hlentOwn : ∀ k ∈ L, ∀ b, Own E k b → Own E2 k b := by
  intro k hk b hb
  have h2 := hL k hk
  rcases hb with hb | hb
  ·exact .inl (by rw [G.ob k h2]; exact hb)
  ·have hrk : H.rows k ≠ none := G.rows k h2
   rcases hH.both k with e | e
   ·exact absurd e hrk
   ·rw [hb] at e; cases e
 have hin : InOk E.w Sin xs outs us ob bs1 obs := by
  refine ⟨hX _ hface, hO _ (by rw [G1.w]; rfl) (fun g b h => .inl (by rw [← G1.S]; exact h)), by rw [List.append_assoc]; exact G.nodup, fun b hb => ?_, fun g b hb => ?_, fun b hb => ?_⟩
  ·rw [List.append_assoc] at hb
   obtain ⟨k, hk⟩ := G.was b hb
   have ho := hH.own k b hk
   refine ⟨ho.2.1, fun g hg => ?_⟩
   rcases hg with hg | ⟨_, j, hj, hjb⟩
   ·exact ho.1 g hg
   ·exact G.gone b hb j (hlentOwn j hj b hjb)
  ·rcases hb with hb | ⟨_, j, hj, hjb⟩
   ·exact hH.S g b hb
   ·exact (hH.own j b hjb).2.1
  ·rcases hb with hb | ⟨h, _⟩
   ·exact .inl (hH.SS b hb)
   ·cases h
 refine (hf E.w Sin us ob bs1 obs hin).mono fun e w' => ?_
 rintro ⟨res, outs', bk, S', us', bs0', obs', hp, hret, hlenr, hok, hown, hsup, hsub, hfr⟩
 obtain ⟨hgood, H6, hback, hQ⟩ := hq res outs' bk hp
 obtain ⟨bs', bsb, rfl, hargs, hargsB⟩ := RXVs.split hlenr hok.args
 refine ⟨retVal us', hret, ?_⟩
 have hT : ∀ b, b ∈ bs1 ++ obs ++ ob → (∃ k, Own E k b) ∧ (∀ k, ¬ Own E2 k b) := fun b hb => by
  rw [List.append_assoc] at hb; exact ⟨G.was b hb, G.gone b hb⟩
 have hw2 : E2.w = E.w := G.w
 have hS2 : E2.S = E.S := G.S
 -- the world behind the call
 have hchg : Chg F E2 w' := by
  refine ⟨by rw [hw2]; exact hfr.os, by rw [hw2]; exact hfr.tape, by rw [hw2]; exact hfr.output, by rw [hw2]; exact hfr.size, fun b hb hne => ?_⟩
  rw [hw2] at hb hne
  have hbT : b ∈ bs1 ++ obs ++ ob := Classical.byContradiction fun h => hne (hfr.block b hb h)
  obtain ⟨⟨k, hk⟩, hgone⟩ := hT b hbT
  have ho := hH.own k b hk
  exact ⟨fun g hg => ho.1 g (by rw [← hS2]; exact hg), hgone, ho.2.2⟩
 have r1 := G.rel.chg hchg
 have s1 := Sub.chg G.rel hchg (fun k => H2.used k = true)
 have loc : ∀ b, (E.w.heap.size ≤ b ∨ b ∈ bs1 ++ obs ++ ob) → (∀ k, ¬ Own E2 k b) ∧ (F.w0.heap.size ≤ b ∨ F.T b) := by
  intro b hb
  rcases hb with hb | hb
  ·exact ⟨fun k hk => by have := (G.rel.own k b hk).2.1; rw [hw2] at this; omega, .inl (Nat.le_trans hH.fr.size hb)⟩
  ·obtain ⟨⟨k, hk⟩, hgone⟩ := hT b hb
   exact ⟨hgone, (hH.own k b hk).2.2⟩
 obtain ⟨r2, s2⟩ := r1.extS (S := fun g b => E.S g b ∨ (S' g b ∧ (E.w.heap.size ≤ b ∨ b ∈ bs1 ++ obs ++ ob))) (fun g b h => .inl (by rw [← hS2]; exact h))
  (fun g b h => h.elim (fun h => .inl (by simp only; rw [hS2]; exact h)) (fun h => .inr ⟨(loc b h.2).1, hok.bnd g b h.1, (loc b h.2).2⟩))
  (fun b h => h.imp (hH.SS b) (fun h => ⟨hok.cls b h.1, h.2⟩))
 -- what comes back
 have hT3 : SubT (envI w' S' ob) { E2 with w := w', S := fun g b => E.S g b ∨ (S' g b ∧ (E.w.heap.size ≤ b ∨ b ∈ bs1 ++ obs ++ ob)) } (fun _ => False) := by
  refine ⟨fun b hb => ?_, fun _ _ => rfl, fun _ h => h.elim, fun _ h => h.elim, fun _ h => h.elim⟩
  rcases hsub true b hb with h | h
  ·rcases h with h | ⟨h, _⟩
   ·exact .inl h
   ·cases h
  ·exact .inr ⟨hb, h⟩
 have hfree : ∀ b, b ∈ bs' ++ bsb ++ obs' ++ ob → (∀ c, ¬ (E.S c b ∨ (S' c b ∧ (E.w.heap.size ≤ b ∨ b ∈ bs1 ++ obs ++ ob)))) ∧ (∀ k, ¬ Own { E2 with w := w', S := fun g b => E.S g b ∨ (S' g b ∧ (E.w.heap.size ≤ b ∨ b ∈ bs1 ++ obs ++ ob)) } k b) ∧ b < w'.heap.size ∧ (F.w0.heap.size ≤ b ∨ F.T b) := by
  intro b hb
  have hlocb : E.w.heap.size ≤ b ∨ b ∈ bs1 ++ obs ++ ob := by
   rcases List.mem_append.1 hb with h | h
   ·exact (hown b h).symm
   ·exact .inr (List.mem_append_right _ h)
  have ho := hok.own b hb
  refine ⟨fun c hc => ?_, fun k hk => (loc b hlocb).1 k hk, ho.1, (loc b hlocb).2⟩
  rcases hc with hc | hc
  ·exact ho.2 c (hsup c b (.inl hc))
  ·exact ho.2 c hc.1
 have hnd := hok.nodup
 rw [List.append_assoc, List.append_assoc] at hnd
 obtain ⟨hnd1, hnd2', hnd3'⟩ := List.nodup_append.1 hnd
 obtain ⟨hnd4, hnd2, hnd5⟩ := List.nodup_append.1 hnd2'
 have hnd3 : ∀ a ∈ bs', ∀ b ∈ obs' ++ ob, a ≠ b := fun a ha b hb => hnd3' a ha b (List.mem_append_right _ hb)
 have hRX : RXVs { E2 with w := w', S := fun g b => E.S g b ∨ (S' g b ∧ (E.w.heap.size ≤ b ∨ b ∈ bs1 ++ obs ++ ob)) } res us' bs' :=
  RXVs.clean hT3 (fun _ _ => rfl) (fun x hx => (hgood.cres x hx).1) (fun k hk => by
   obtain ⟨x, hx, hk⟩ := List.mem_flatMap.1 hk
   rw [(hgood.cres x hx).2] at hk; cases hk) hargs
 cases hi : H2.internVs kb res with
 | mk H3 res' =>
  obtain ⟨E4, T4, q1, q2⟩ := intern_Vs r2 (fun j hj hj' => hgood.fresh j hj (by omega)) hRX (fun k hk => by
   obtain ⟨x, hx, hk⟩ := List.mem_flatMap.1 hk
   rw [(hgood.cres x hx).2] at hk; cases hk) (fun b hb => hfree b (by simp [hb])) hnd1 hi
  rw [hi] at hQ hback
  have hfr4 : Free F E4 (obs' ++ ob) := T4.free (fun b hb hb' => hnd3 b hb' b hb rfl) (fun b hb => hfree b (by rw [List.append_assoc]; exact List.mem_append_right _ hb))
  have hfr4b : Free F E4 bsb := T4.free (fun b hb hb' => hnd3' b hb' b (List.mem_append_left _ hb) rfl) (fun b hb => hfree b (by simp [hb]))
  have husedk : ∀ k ∈ ks, H2.used k = true ∧ H2.rows k = none := by
   intro k hk
   have hb := ks0 k hk
   cases hbx : H1.boxes k with
   | none => exact absurd hbx hb
   | some cs =>
    have hu := (G1.rel.usedB k cs hbx).1
    refine ⟨by rw [← G2.used]; exact hu, ?_⟩
    refine Classical.byContradiction fun hr => ?_
    have hr1 := G2.rows k hr
    cases hrx : H1.rows k with
    | none => exact hr1 hrx
    | some r =>
     obtain ⟨g, us, h1, _⟩ := G1.rel.boxes k cs hbx
     rcases G1.rel.both k with e | e
     ·rw [hrx] at e; cases e
     ·rw [h1] at e; cases e
  obtain ⟨E5, t1, t2, t3, t4, t5, t6⟩ := take_outs (k0 := kb + (res.flatMap V.cells).length) (Eo := envI w' S' ob) T4.rel hgood.len hobl hok.outs T4.w.symm
   ⟨fun b hb => by rw [T4.S]; exact hT3.S b hb, fun b hb => by rw [T4.w]; rfl, fun _ h => h.elim, fun _ h => h.elim, fun _ h => h.elim⟩ hgood.couts
   (fun j hj hj' => by
    cases hu : H3.used j with
    | false => rfl
    | true =>
     rcases T4.down j hu with h | h
     ·have := hgood.fresh j (by omega) (by omega); rw [h] at this; cases this
     ·omega)
   (fun k hk => ⟨T4.up k (husedk k hk).1, by
    have := internVs_same res H2 kb k (by
     rcases Nat.lt_or_ge k kb with h | h
     ·exact .inl h
     ·right
      refine Classical.byContradiction fun hh => ?_
      have := hgood.fresh k h (by omega)
      rw [(husedk k hk).1] at this; cases this)
    rw [hi] at this; rw [this]; exact (husedk k hk).2⟩)
   (fun i k hik => by
    have hk := husedk k (List.mem_of_getElem? hik)
    rw [T4.pt k hk.1]
    show E2.pt k = _
    have h1 := hobk i k hik
    have hlt : i < ob.length := by rw [hobl]; exact (List.getElem?_eq_some_iff.1 hik).1
    rw [List.getElem?_eq_getElem hlt] at h1 ⊢
    rw [G2.pt]; exact G1.rel.pt k _ h1)
   hfr4 hnd2
  have hsub5 : Sub E E5 (fun k => H.used k = true) := G.sub.trans (sub_used G.used ((s1.trans (s2 _)).trans (T4.sub.trans ⟨t4.S, t4.mem, fun j hj => t4.hdrE j (T4.up j hj), fun j hj => t4.pt j (T4.up j hj), fun j hj => t4.sz j (T4.up j hj)⟩)))
  have hfr5 : Free F E5 bsb := fun b hb => by
   obtain ⟨f1, f2, f3, f4⟩ := hfr4b b hb
   refine ⟨fun c hc => f1 c (by rw [t2] at hc; exact hc), fun j hj => (t6 j b hj).elim (f2 j) (fun h => hnd5 b hb b h rfl), by rw [t1]; exact f3, f4⟩
  obtain ⟨E6, B6⟩ := back_Vs hH t3 hback (hvs.pick (fun i hi => by simpa using hbp i hi)) hargsB (by rw [t1, T4.w]; rfl) ⟨fun b hb => by rw [t2, T4.S]; exact hT3.S b hb, fun b hb => by rw [t1, T4.w]; rfl, fun _ h => h.elim, fun _ h => h.elim, fun _ h => h.elim⟩ hgood.cback
   (fun j hj => hsub5.hdrE j hj) (fun j hj v hv => hsub5.sz j hj v hv) hfr5 hnd4
  refine ⟨slotOf res', _, E6, B6.w.trans (t1.trans T4.w), B6.rel, hsub5.trans (B6.sub _), fun k hk => B6.up k (t5 k (T4.up k (by rw [← G.used]; exact hk))), ?_, fun k hk => ?_, hQ⟩
  ·exact RSlot.sub (B6.sub (fun _ => True)) (fun _ _ => trivial) (RSlot.sub t4 (fun k hk => by rw [slotOf_names] at hk; exact q2 k hk) q1.slot)
  ·rw [slotOf_names] at hk; exact B6.up k (t5 k (q2 k hk))
end
end Go.MG
