/- Cells that own memory: what is owned through them, in order. -/
import Derived.Test.YtbjbagemlclgcaaMgA
namespace Go.MG
set_option linter.unusedVariables false
set_option linter.unusedSimpArgs false
set_option linter.unnecessarySimpa false

/-- As 'Sub', for clean cells. -/
structure SubT (E E' : Env) (N : Nat → Prop) : Prop where
  S : ∀ b, E.S true b → E'.S true b
  mem : ∀ b, E.S true b → E'.w.heap[b]? = E.w.heap[b]?
  hdr : ∀ k, N k → ∀ h, E'.hdr k = some h → E.hdr k = some h
  pt : ∀ k, N k → ∀ b, E'.pt k = some b → E.pt k = some b
  sz : ∀ k, N k → ∀ h, E'.hdr k = some h → E'.sz k = E.sz k
theorem SubT.none {E E' : Env} {N : Nat → Prop} (s : SubT E E' N) : SubT E E' (fun _ => False) := ⟨s.S, s.mem, fun _ h => h.elim, fun _ h => h.elim, fun _ h => h.elim⟩
theorem SubT.capS {E E' : Env} {N : Nat → Prop} (s : SubT E E' N) : Sub (E.cap true) (E'.cap true) (fun _ => False) :=
  ⟨fun c b h => by cases c <;> exact s.S b h, fun c b h => by cases c <;> exact s.mem b h, fun _ h => h.elim, fun _ h => h.elim, fun _ h => h.elim⟩
theorem Sub.toT {E E' : Env} {N : Nat → Prop} (s : Sub E E' N) : SubT E E' N := ⟨s.S true, s.mem true, s.hdr, s.pt, s.sz⟩

mutual
theorem RC.clean {E E' : Env} {N : Nat → Prop} (s : SubT E E' N) : ∀ {c : Cell} {u : Value}, c.clean = true → c.isOw = false → (∀ k ∈ c.names, N k) → RC E c u → RC E' c u
  | .imm _, _, _, _, _, h => by simpa only [RC] using h
  | .nil, _, _, _, _, h => by simpa only [RC] using h
  | .sl g es, u, hc, _, hn, h => by
    obtain rfl : g = true := hc
    simp only [RC] at h ⊢
    obtain ⟨hf, a, cap, rfl, hcap, h⟩ := h
    refine ⟨hf, a, cap, rfl, hcap, ?_⟩
    rcases h with h | ⟨b, o, sz, ha, hS, hr⟩
    · exact .inl h
    · exact .inr ⟨b, o, sz, ha, s.S b hS, RRow.sub s.capS (s.mem b hS) (fun k hk => by rw [hf.2] at hk; cases hk) hr⟩
  | .own k, u, _, _, hn, h => by
    simp only [RC] at h ⊢
    exact ⟨h.1, fun h' hh => h.2 h' (s.hdr k (hn k (by simp [Cell.names])) h' hh)⟩
  | .sub k lo n, u, _, _, hn, h => by
    simp only [RC] at h ⊢
    have hk := hn k (by simp [Cell.names])
    refine ⟨h.1, fun h' hh => ?_⟩
    rcases h.2 h' (s.hdr k hk h' hh) with h1 | ⟨g, len, cap, a, h1, h2, h3, h4⟩
    · exact .inl h1
    · exact .inr ⟨g, len, cap, a, h1, h2, h3, by rw [s.sz k hk h' hh]; exact h4⟩
  | .ptr k j, u, _, _, hn, h => by
    simp only [RC] at h ⊢
    exact ⟨h.1, fun b hb => h.2 b (s.pt k (hn k (by simp [Cell.names])) b hb)⟩
  | .ep k i j, u, _, _, hn, h => by
    simp only [RC] at h ⊢
    have hk := hn k (by simp [Cell.names])
    refine ⟨h.1, fun h' hh => ?_⟩
    rw [s.sz k hk h' hh]
    exact h.2 h' (s.hdr k hk h' hh)
  | .pe g e j, u, hc, _, hn, h => by
    obtain rfl : g = true := hc
    simp only [RC] at h ⊢
    obtain ⟨hf, b, o, us, hu, hS, hr, ha⟩ := h
    exact ⟨hf, b, o, us, hu, s.S b hS, RCs.sub s.capS (fun k hk => by rw [hf.one] at hk; cases hk) hr, rangeAt_of_block (s.mem b hS) ha⟩
  | .clo f caps, u, hc, _, hn, h => by
    simp only [Cell.clean, Bool.and_eq_true] at hc
    simp only [RC] at h ⊢
    obtain ⟨us, hu, hr⟩ := h
    exact ⟨us, hu, RCs.clean s hc.1 hc.2 (by simpa only [Cell.names] using hn) hr⟩
  | .ow .., _, _, ho, _, h => by simp [Cell.isOw] at ho
  | .bx .., _, _, ho, _, h => by simp [Cell.isOw] at ho
  | .raw _, _, _, _, _, h => by simpa only [RC] using h
  | .bad, _, _, _, _, h => by simpa only [RC] using h
theorem RCs.clean {E E' : Env} {N : Nat → Prop} (s : SubT E E' N) : ∀ {cs : List Cell} {us : List Value}, cclean cs = true → noOw cs = true → (∀ k ∈ cnames cs, N k) → RCs E cs us → RCs E' cs us
  | [], _, _, _, _, h => by simpa only [RCs] using h
  | c :: cs, us, hc, ho, hn, h => by
    simp only [cclean, Bool.and_eq_true] at hc
    simp only [noOw, Bool.and_eq_true, Bool.not_eq_true'] at ho
    simp only [RCs] at h ⊢
    obtain ⟨u, us', rfl, h1, h2⟩ := h
    simp only [cnames, List.mem_append] at hn
    exact ⟨u, us', rfl, RC.clean s hc.1 ho.1 (fun k hk => hn k (.inl hk)) h1, RCs.clean s hc.2 ho.2 (fun k hk => hn k (.inr hk)) h2⟩
end

mutual
def RXC : Env → Cell → Value → List Nat → Prop
  | E, .ow sz es, u, bs => (∀ e ∈ es, e.length = sz) ∧ Flat es ∧ ((u = .slice none 0 0 ∧ es = [] ∧ bs = []) ∨
      ∃ g cap bs', u = .slice (some ⟨g, 0, none⟩) es.length cap ∧ es.length ≤ cap ∧ E.w.there g 0 (cap * sz) ∧ RXRow E g 0 sz es bs' ∧ bs = g :: bs')
  | E, .bx cs, u, bs => cnames cs = [] ∧ ∃ g us, u = .pointer (some ⟨g, 0, none⟩) ∧ RCs E cs us ∧ E.w.rangeAt g 0 us ∧ E.w.there g 0 cs.length ∧ bs = [g]
  | E, c, u, bs => RC E c u ∧ bs = []
def RXCs : Env → List Cell → List Value → List Nat → Prop
  | _, [], us, bs => us = [] ∧ bs = []
  | E, c :: cs, us, bs => ∃ u us' b bs', us = u :: us' ∧ bs = b ++ bs' ∧ RXC E c u b ∧ RXCs E cs us' bs'
def RXRow : Env → Nat → Nat → Nat → List (List Cell) → List Nat → Prop
  | _, _, _, _, [], bs => bs = []
  | E, b, o, sz, e :: es, bs => ∃ us b1 b2, bs = b1 ++ b2 ∧ e.length = sz ∧ RXCs E e us b1 ∧ E.w.rangeAt b o us ∧ RXRow E b (o + sz) sz es b2
end

theorem RXC.iff {E : Env} {c : Cell} {u : Value} {bs : List Nat} (h : c.isOw = false) : RXC E c u bs ↔ RC E c u ∧ bs = [] := by
  cases c <;> simp [Cell.isOw] at h <;> simp only [RXC]
theorem RXC.of {E : Env} {c : Cell} {u : Value} (h : RC E c u) (ho : c.isOw = false) : RXC E c u [] := (RXC.iff ho).2 ⟨h, rfl⟩
theorem RXC.one {E : Env} {c : Cell} {u : Value} {bs : List Nat} (h : RXC E c u bs) : u.oneCell' = true := by
  cases hc : c.isOw with
  | false => exact ((RXC.iff hc).1 h).1.one
  | true =>
    cases c <;> simp [Cell.isOw] at hc
    · simp only [RXC] at h
      obtain ⟨_, _, h | ⟨g, cap, bs', h, _⟩⟩ := h
      · rw [h.1]; rfl
      · rw [h]; rfl
    · simp only [RXC] at h
      obtain ⟨_, g, us, h, _⟩ := h
      rw [h]; rfl
theorem RXCs.one {E : Env} : ∀ {cs : List Cell} {us : List Value} {bs : List Nat}, RXCs E cs us bs → ∀ u ∈ us, u.oneCell' = true
  | [], _, _, h => by simp only [RXCs] at h; simp [h.1]
  | _ :: cs, _, _, h => by
    simp only [RXCs] at h
    obtain ⟨u, us', b, bs', rfl, rfl, h1, h2⟩ := h
    intro x hx
    rcases List.mem_cons.1 hx with rfl | hx
    · exact h1.one
    · exact RXCs.one h2 x hx
theorem RXCs.length {E : Env} : ∀ {cs : List Cell} {us : List Value} {bs : List Nat}, RXCs E cs us bs → us.length = cs.length
  | [], _, _, h => by simp only [RXCs] at h; simp [h.1]
  | c :: cs, _, _, h => by simp only [RXCs] at h; obtain ⟨u, us', b, bs', rfl, rfl, _, h⟩ := h; simp [RXCs.length h]
theorem RXCs.plain {E : Env} : ∀ {cs : List Cell} {us : List Value} {bs : List Nat}, noOw cs = true → RXCs E cs us bs → RCs E cs us ∧ bs = []
  | [], _, _, _, h => by simp only [RXCs] at h; simpa only [RCs] using h
  | c :: cs, _, _, ho, h => by
    simp only [RXCs] at h
    simp only [noOw, Bool.and_eq_true, Bool.not_eq_true'] at ho
    obtain ⟨u, us', b, bs', rfl, rfl, h1, h2⟩ := h
    obtain ⟨a1, rfl⟩ := (RXC.iff ho.1).1 h1
    obtain ⟨a2, rfl⟩ := RXCs.plain ho.2 h2
    exact ⟨by simp only [RCs]; exact ⟨u, us', rfl, a1, a2⟩, rfl⟩
theorem RXCs.of {E : Env} : ∀ {cs : List Cell} {us : List Value}, noOw cs = true → RCs E cs us → RXCs E cs us []
  | [], _, _, h => by simp only [RCs] at h; simp [RXCs, h]
  | c :: cs, _, ho, h => by
    simp only [RCs] at h
    simp only [noOw, Bool.and_eq_true, Bool.not_eq_true'] at ho
    obtain ⟨u, us', rfl, h1, h2⟩ := h
    simp only [RXCs]
    exact ⟨u, us', [], [], rfl, rfl, RXC.of h1 ho.1, RXCs.of ho.2 h2⟩
theorem noOw_append {a b : List Cell} : noOw (a ++ b) = (noOw a && noOw b) := by
  induction a with
  | nil => rfl
  | cons c cs ih => simp [noOw, ih, Bool.and_assoc]
theorem RXCs.append {E : Env} : ∀ {cs : List Cell} {us : List Value} {bs : List Nat} {cs' us' bs'}, RXCs E cs us bs → RXCs E cs' us' bs' → RXCs E (cs ++ cs') (us ++ us') (bs ++ bs')
  | [], _, _, _, _, _, h, h' => by simp only [RXCs] at h; obtain ⟨rfl, rfl⟩ := h; simpa using h'
  | c :: cs, _, _, _, _, _, h, h' => by
    simp only [RXCs, List.cons_append] at h ⊢
    obtain ⟨u, us', b, bs', rfl, rfl, h1, h2⟩ := h
    exact ⟨u, _, b, _, rfl, by rw [List.append_assoc], h1, RXCs.append h2 h'⟩
theorem RXCs.cut {E : Env} : ∀ (n : Nat) {cs : List Cell} {us : List Value} {bs : List Nat}, RXCs E cs us bs → ∃ b1 b2, bs = b1 ++ b2 ∧ RXCs E (cs.take n) (us.take n) b1 ∧ RXCs E (cs.drop n) (us.drop n) b2
  | 0, cs, us, bs, h => ⟨[], bs, rfl, by simp [RXCs], by simpa using h⟩
  | n + 1, [], us, bs, h => by
    simp only [RXCs] at h
    obtain ⟨rfl, rfl⟩ := h
    exact ⟨[], [], rfl, by simp [RXCs], by simp [RXCs]⟩
  | n + 1, c :: cs, us, bs, h => by
    simp only [RXCs] at h
    obtain ⟨u, us', b, bs', rfl, rfl, h1, h2⟩ := h
    obtain ⟨b1, b2, rfl, h3, h4⟩ := RXCs.cut n h2
    refine ⟨b ++ b1, b2, by simp, ?_, by simpa using h4⟩
    simp only [List.take_succ_cons, RXCs]
    exact ⟨u, _, b, b1, rfl, rfl, h1, h3⟩
theorem RXCs.part {E : Env} {cs : List Cell} {us : List Value} {bs : List Nat} (h : RXCs E cs us bs) (j n : Nat) : ∃ b, RXCs E ((cs.drop j).take n) ((us.drop j).take n) b ∧ b.Sublist bs := by
  obtain ⟨b1, b2, rfl, _, h2⟩ := h.cut j
  obtain ⟨b3, b4, rfl, h3, _⟩ := h2.cut n
  exact ⟨b3, h3, (List.sublist_append_left b3 b4).trans (List.sublist_append_right b1 _)⟩

/-! ### rows -/
theorem RXRow.get {E : Env} {b sz : Nat} : ∀ {es : List (List Cell)} {o : Nat} {bs : List Nat}, RXRow E b o sz es bs → ∀ (i : Nat) (e : List Cell), es[i]? = some e → e.length = sz ∧ ∃ us b1, RXCs E e us b1 ∧ b1.Sublist bs ∧ E.w.rangeAt b (o + i * sz) us
  | [], _, _, _, _, _, he => by simp at he
  | e' :: es, o, bs, h, i, e, he => by
    simp only [RXRow] at h
    obtain ⟨us, b1, b2, rfl, h1, h2, h3, h4⟩ := h
    cases i with
    | zero => simp at he; subst he; exact ⟨h1, us, b1, h2, List.sublist_append_left _ _, by simpa using h3⟩
    | succ i =>
      simp at he
      obtain ⟨g1, us', b', g2, g3, g4⟩ := RXRow.get h4 i e he
      exact ⟨g1, us', b', g2, g3.trans (List.sublist_append_right _ _), by rw [show o + (i + 1) * sz = o + sz + i * sz by rw [Nat.add_mul]; omega]; exact g4⟩
theorem RXRow.flat {E : Env} {b sz : Nat} : ∀ {es : List (List Cell)} {o : Nat} {bs : List Nat}, RXRow E b o sz es bs → ∃ us, RXCs E es.flatten us bs ∧ us.length = es.length * sz ∧ E.w.rangeAt b o us
  | [], o, bs, h => by simp only [RXRow] at h; subst h; exact ⟨[], by simp [RXCs], by simp, fun j v hv => by simp at hv⟩
  | e :: es, o, bs, h => by
    simp only [RXRow] at h
    obtain ⟨us, b1, b2, rfl, h1, h2, h3, h4⟩ := h
    obtain ⟨us', g1, g2, g3⟩ := RXRow.flat h4
    have hl := h2.length
    refine ⟨us ++ us', by simpa using h2.append g1, by simp [hl, h1, g2, Nat.add_mul, Nat.add_comm], fun j v hv => ?_⟩
    rw [List.getElem?_append] at hv
    split at hv
    · exact h3 j v hv
    · have := g3 _ v hv
      rw [show o + j = o + sz + (j - us.length) by omega]
      exact this
theorem RXRow.of_flat {E : Env} {b sz : Nat} : ∀ {es : List (List Cell)} {o : Nat} {us : List Value} {bs : List Nat}, (∀ e ∈ es, e.length = sz) → RXCs E es.flatten us bs → E.w.rangeAt b o us → RXRow E b o sz es bs
  | [], _, us, bs, _, h, _ => by simp only [List.flatten_nil, RXCs] at h; simp only [RXRow]; exact h.2
  | e :: es, o, us, bs, hs, h, hr => by
    have he : e.length = sz := hs e (by simp)
    obtain ⟨b1, b2, rfl, h1, h2⟩ := h.cut sz
    rw [List.flatten_cons, List.take_append_of_le_length (by omega), List.take_of_length_le (by omega)] at h1
    rw [List.flatten_cons, List.drop_append_of_le_length (by omega), List.drop_of_length_le (by omega), List.nil_append] at h2
    simp only [RXRow]
    refine ⟨_, b1, b2, rfl, he, h1, fun j v hv => hr j v ?_, RXRow.of_flat (fun e' h' => hs e' (by simp [h'])) h2 (fun j v hv => ?_)⟩
    · rw [List.getElem?_take] at hv; split at hv
      · exact hv
      · simp at hv
    · rw [List.getElem?_drop] at hv
      have := hr _ v hv
      rw [show o + sz + j = o + (sz + j) by omega]; exact this
theorem RXRow.take {E : Env} {b sz : Nat} : ∀ (n : Nat) {es : List (List Cell)} {o : Nat} {bs : List Nat}, RXRow E b o sz es bs → ∃ b1, RXRow E b o sz (es.take n) b1 ∧ b1.Sublist bs
  | 0, es, o, bs, _ => ⟨[], by simp [RXRow], List.nil_sublist _⟩
  | n + 1, [], o, bs, h => ⟨bs, by simpa using h, List.Sublist.refl _⟩
  | n + 1, e :: es, o, bs, h => by
    simp only [RXRow] at h
    obtain ⟨us, b1, b2, rfl, h1, h2, h3, h4⟩ := h
    obtain ⟨b3, g1, g2⟩ := RXRow.take n h4
    refine ⟨b1 ++ b3, ?_, List.Sublist.append_left g2 b1⟩
    simp only [List.take_succ_cons, RXRow]
    exact ⟨us, b1, b3, rfl, h1, h2, h3, g1⟩

mutual
theorem RXC.sub {E E' : Env} {N : Nat → Prop} (s : Sub E E' N) : ∀ {c : Cell} {u : Value} {bs : List Nat}, (∀ b ∈ bs, E'.w.heap[b]? = E.w.heap[b]?) → (∀ k ∈ c.names, N k) → RXC E c u bs → RXC E' c u bs
  | .ow sz es, u, bs, hm, hn, h => by
    simp only [RXC] at h ⊢
    obtain ⟨h1, h2, h3⟩ := h
    refine ⟨h1, h2, h3.imp id ?_⟩
    rintro ⟨g, cap, bs', h4, h5, h6, h7, h8⟩
    have hg := hm g (by rw [h8]; simp)
    exact ⟨g, cap, bs', h4, h5, there_of_block hg h6, RXRow.sub s hg (fun x hx => hm x (by rw [h8]; simp [hx])) (fun k hk => by rw [h2.2] at hk; cases hk) h7, h8⟩
  | .bx cs, u, bs, hm, hn, h => by
    simp only [RXC] at h ⊢
    obtain ⟨h1, g, us, h2, h3, h4, h5, h6⟩ := h
    have hg := hm g (by rw [h6]; simp)
    exact ⟨h1, g, us, h2, h3.sub s (by simp [h1]), rangeAt_of_block hg h4, there_of_block hg h5, h6⟩
  | .imm v, u, bs, hm, hn, h => (RXC.iff rfl).2 (((RXC.iff rfl).1 h).imp (RC.sub s hn) id)
  | .nil, u, bs, hm, hn, h => (RXC.iff rfl).2 (((RXC.iff rfl).1 h).imp (RC.sub s hn) id)
  | .sl .., u, bs, hm, hn, h => (RXC.iff rfl).2 (((RXC.iff rfl).1 h).imp (RC.sub s hn) id)
  | .own .., u, bs, hm, hn, h => (RXC.iff rfl).2 (((RXC.iff rfl).1 h).imp (RC.sub s hn) id)
  | .sub .., u, bs, hm, hn, h => (RXC.iff rfl).2 (((RXC.iff rfl).1 h).imp (RC.sub s hn) id)
  | .ptr .., u, bs, hm, hn, h => (RXC.iff rfl).2 (((RXC.iff rfl).1 h).imp (RC.sub s hn) id)
  | .ep .., u, bs, hm, hn, h => (RXC.iff rfl).2 (((RXC.iff rfl).1 h).imp (RC.sub s hn) id)
  | .pe .., u, bs, hm, hn, h => (RXC.iff rfl).2 (((RXC.iff rfl).1 h).imp (RC.sub s hn) id)
  | .clo .., u, bs, hm, hn, h => (RXC.iff rfl).2 (((RXC.iff rfl).1 h).imp (RC.sub s hn) id)
  | .raw .., u, bs, hm, hn, h => (RXC.iff rfl).2 (((RXC.iff rfl).1 h).imp (RC.sub s hn) id)
  | .bad, u, bs, hm, hn, h => (RXC.iff rfl).2 (((RXC.iff rfl).1 h).imp (RC.sub s hn) id)
theorem RXCs.sub {E E' : Env} {N : Nat → Prop} (s : Sub E E' N) : ∀ {cs : List Cell} {us : List Value} {bs : List Nat}, (∀ b ∈ bs, E'.w.heap[b]? = E.w.heap[b]?) → (∀ k ∈ cnames cs, N k) → RXCs E cs us bs → RXCs E' cs us bs
  | [], _, _, _, _, h => by simpa only [RXCs] using h
  | c :: cs, _, _, hm, hn, h => by
    simp only [RXCs] at h ⊢
    obtain ⟨u, us', b, bs', rfl, rfl, h1, h2⟩ := h
    simp only [cnames, List.mem_append] at hn
    exact ⟨u, us', b, bs', rfl, rfl, RXC.sub s (fun x hx => hm x (by simp [hx])) (fun k hk => hn k (.inl hk)) h1, RXCs.sub s (fun x hx => hm x (by simp [hx])) (fun k hk => hn k (.inr hk)) h2⟩
theorem RXRow.sub {E E' : Env} {N : Nat → Prop} (s : Sub E E' N) {b sz : Nat} (hb : E'.w.heap[b]? = E.w.heap[b]?) : ∀ {es : List (List Cell)} {o : Nat} {bs : List Nat}, (∀ b ∈ bs, E'.w.heap[b]? = E.w.heap[b]?) → (∀ k ∈ rnames es, N k) → RXRow E b o sz es bs → RXRow E' b o sz es bs
  | [], _, _, _, _, h => by simpa only [RXRow] using h
  | e :: es, o, bs, hm, hn, h => by
    simp only [RXRow] at h ⊢
    obtain ⟨us, b1, b2, rfl, h1, h2, h3, h4⟩ := h
    simp only [rnames, List.mem_append] at hn
    exact ⟨us, b1, b2, rfl, h1, RXCs.sub s (fun x hx => hm x (by simp [hx])) (fun k hk => hn k (.inl hk)) h2, rangeAt_of_block hb h3, RXRow.sub s hb (fun x hx => hm x (by simp [hx])) (fun k hk => hn k (.inr hk)) h4⟩
end

mutual
theorem RXC.clean {E E' : Env} {N : Nat → Prop} (s : SubT E E' N) : ∀ {c : Cell} {u : Value} {bs : List Nat}, (∀ b ∈ bs, E'.w.heap[b]? = E.w.heap[b]?) → c.clean = true → (∀ k ∈ c.names, N k) → RXC E c u bs → RXC E' c u bs
  | .ow sz es, u, bs, hm, hc, hn, h => by
    simp only [RXC] at h ⊢
    obtain ⟨h1, h2, h3⟩ := h
    refine ⟨h1, h2, h3.imp id ?_⟩
    rintro ⟨g, cap, bs', h4, h5, h6, h7, h8⟩
    have hg := hm g (by rw [h8]; simp)
    exact ⟨g, cap, bs', h4, h5, there_of_block hg h6, RXRow.clean s hg (fun x hx => hm x (by rw [h8]; simp [hx])) h2.1 (fun k hk => by rw [h2.2] at hk; cases hk) h7, h8⟩
  | .bx cs, u, bs, hm, hc, hn, h => by
    simp only [Cell.clean, Bool.and_eq_true] at hc
    simp only [RXC] at h ⊢
    obtain ⟨h1, g, us, h2, h3, h4, h5, h6⟩ := h
    have hg := hm g (by rw [h6]; simp)
    exact ⟨h1, g, us, h2, h3.clean s hc.1 hc.2 (by simp [h1]), rangeAt_of_block hg h4, there_of_block hg h5, h6⟩
  | .imm v, u, bs, hm, hc, hn, h => (RXC.iff rfl).2 (((RXC.iff rfl).1 h).imp (RC.clean s hc rfl hn) id)
  | .nil, u, bs, hm, hc, hn, h => (RXC.iff rfl).2 (((RXC.iff rfl).1 h).imp (RC.clean s hc rfl hn) id)
  | .sl .., u, bs, hm, hc, hn, h => (RXC.iff rfl).2 (((RXC.iff rfl).1 h).imp (RC.clean s hc rfl hn) id)
  | .own .., u, bs, hm, hc, hn, h => (RXC.iff rfl).2 (((RXC.iff rfl).1 h).imp (RC.clean s hc rfl hn) id)
  | .sub .., u, bs, hm, hc, hn, h => (RXC.iff rfl).2 (((RXC.iff rfl).1 h).imp (RC.clean s hc rfl hn) id)
  | .ptr .., u, bs, hm, hc, hn, h => (RXC.iff rfl).2 (((RXC.iff rfl).1 h).imp (RC.clean s hc rfl hn) id)
  | .ep .., u, bs, hm, hc, hn, h => (RXC.iff rfl).2 (((RXC.iff rfl).1 h).imp (RC.clean s hc rfl hn) id)
  | .pe .., u, bs, hm, hc, hn, h => (RXC.iff rfl).2 (((RXC.iff rfl).1 h).imp (RC.clean s hc rfl hn) id)
  | .clo .., u, bs, hm, hc, hn, h => (RXC.iff rfl).2 (((RXC.iff rfl).1 h).imp (RC.clean s hc rfl hn) id)
  | .raw .., u, bs, hm, hc, hn, h => (RXC.iff rfl).2 (((RXC.iff rfl).1 h).imp (RC.clean s hc rfl hn) id)
  | .bad, u, bs, hm, hc, hn, h => (RXC.iff rfl).2 (((RXC.iff rfl).1 h).imp (RC.clean s hc rfl hn) id)
theorem RXCs.clean {E E' : Env} {N : Nat → Prop} (s : SubT E E' N) : ∀ {cs : List Cell} {us : List Value} {bs : List Nat}, (∀ b ∈ bs, E'.w.heap[b]? = E.w.heap[b]?) → cclean cs = true → (∀ k ∈ cnames cs, N k) → RXCs E cs us bs → RXCs E' cs us bs
  | [], _, _, _, _, _, h => by simpa only [RXCs] using h
  | c :: cs, _, _, hm, hc, hn, h => by
    simp only [RXCs] at h ⊢
    simp only [cclean, Bool.and_eq_true] at hc
    obtain ⟨u, us', b, bs', rfl, rfl, h1, h2⟩ := h
    simp only [cnames, List.mem_append] at hn
    exact ⟨u, us', b, bs', rfl, rfl, RXC.clean s (fun x hx => hm x (by simp [hx])) hc.1 (fun k hk => hn k (.inl hk)) h1, RXCs.clean s (fun x hx => hm x (by simp [hx])) hc.2 (fun k hk => hn k (.inr hk)) h2⟩
theorem RXRow.clean {E E' : Env} {N : Nat → Prop} (s : SubT E E' N) {b sz : Nat} (hb : E'.w.heap[b]? = E.w.heap[b]?) : ∀ {es : List (List Cell)} {o : Nat} {bs : List Nat}, (∀ b ∈ bs, E'.w.heap[b]? = E.w.heap[b]?) → rclean es = true → (∀ k ∈ rnames es, N k) → RXRow E b o sz es bs → RXRow E' b o sz es bs
  | [], _, _, _, _, _, h => by simpa only [RXRow] using h
  | e :: es, o, bs, hm, hc, hn, h => by
    simp only [RXRow] at h ⊢
    simp only [rclean, Bool.and_eq_true] at hc
    obtain ⟨us, b1, b2, rfl, h1, h2, h3, h4⟩ := h
    simp only [rnames, List.mem_append] at hn
    exact ⟨us, b1, b2, rfl, h1, RXCs.clean s (fun x hx => hm x (by simp [hx])) hc.1 (fun k hk => hn k (.inl hk)) h2, rangeAt_of_block hb h3, RXRow.clean s hb (fun x hx => hm x (by simp [hx])) hc.2 (fun k hk => hn k (.inr hk)) h4⟩
end

/-! ### owned memory, seen by those who may read it -/
mutual
theorem RXC.view {E E' : Env} (s : SubT E E' (fun _ => False)) : ∀ {c : Cell} {u : Value} {bs : List Nat}, (∀ b ∈ bs, E'.w.heap[b]? = E.w.heap[b]? ∧ E'.S false b) → c.clean = true → c.names = [] → RXC E c u bs → RC E' c u
  | .ow sz es, u, bs, hm, hc, hn, h => by
    simp only [RXC] at h
    simp only [RC]
    obtain ⟨h1, h2, h3⟩ := h
    refine ⟨h2, ?_⟩
    rcases h3 with ⟨h4, h5, h6⟩ | ⟨g, cap, bs', h4, h5, h6, h7, h8⟩
    · exact ⟨none, 0, by rw [h4, h5]; rfl, by rw [h5]; exact Nat.le_refl _, .inl h5⟩
    · have hg := hm g (by rw [h8]; simp)
      exact ⟨_, cap, h4, h5, .inr ⟨g, 0, rfl, hg.2, RXRow.view s hg.1 (fun x hx => hm x (by rw [h8]; simp [hx])) h2.1 h2.2 h7⟩⟩
  | .bx cs, u, bs, hm, hc, hn, h => by
    simp only [Cell.clean, Bool.and_eq_true] at hc
    simp only [RXC] at h
    simp only [RC]
    obtain ⟨h1, g, us, h2, h3, h4, h5, h6⟩ := h
    have hg := hm g (by rw [h6]; simp)
    exact ⟨h1, g, us, h2, hg.2, h3.clean s hc.1 hc.2 (by simp [h1]), rangeAt_of_block hg.1 h4⟩
  | .imm v, u, bs, hm, hc, hn, h => RC.clean s hc rfl (by simp [hn]) ((RXC.iff rfl).1 h).1
  | .nil, u, bs, hm, hc, hn, h => RC.clean s hc rfl (by simp [hn]) ((RXC.iff rfl).1 h).1
  | .sl .., u, bs, hm, hc, hn, h => RC.clean s hc rfl (by simp [hn]) ((RXC.iff rfl).1 h).1
  | .own .., u, bs, hm, hc, hn, h => RC.clean s hc rfl (by simp [hn]) ((RXC.iff rfl).1 h).1
  | .sub .., u, bs, hm, hc, hn, h => RC.clean s hc rfl (by simp [hn]) ((RXC.iff rfl).1 h).1
  | .ptr .., u, bs, hm, hc, hn, h => RC.clean s hc rfl (by simp [hn]) ((RXC.iff rfl).1 h).1
  | .ep .., u, bs, hm, hc, hn, h => RC.clean s hc rfl (by simp [hn]) ((RXC.iff rfl).1 h).1
  | .pe .., u, bs, hm, hc, hn, h => RC.clean s hc rfl (by simp [hn]) ((RXC.iff rfl).1 h).1
  | .clo .., u, bs, hm, hc, hn, h => RC.clean s hc rfl (by simp [hn]) ((RXC.iff rfl).1 h).1
  | .raw .., u, bs, hm, hc, hn, h => RC.clean s hc rfl (by simp [hn]) ((RXC.iff rfl).1 h).1
  | .bad, u, bs, hm, hc, hn, h => RC.clean s hc rfl (by simp [hn]) ((RXC.iff rfl).1 h).1
theorem RXCs.view {E E' : Env} (s : SubT E E' (fun _ => False)) : ∀ {cs : List Cell} {us : List Value} {bs : List Nat}, (∀ b ∈ bs, E'.w.heap[b]? = E.w.heap[b]? ∧ E'.S false b) → cclean cs = true → cnames cs = [] → RXCs E cs us bs → RCs E' cs us
  | [], _, _, _, _, _, h => by simp only [RXCs] at h; simp only [RCs]; exact h.1
  | c :: cs, _, _, hm, hc, hn, h => by
    simp only [RXCs] at h
    simp only [cclean, Bool.and_eq_true] at hc
    simp only [RCs]
    obtain ⟨u, us', b, bs', rfl, rfl, h1, h2⟩ := h
    simp only [cnames, List.append_eq_nil_iff] at hn
    exact ⟨u, us', rfl, RXC.view s (fun x hx => hm x (by simp [hx])) hc.1 hn.1 h1, RXCs.view s (fun x hx => hm x (by simp [hx])) hc.2 hn.2 h2⟩
theorem RXRow.view {E E' : Env} (s : SubT E E' (fun _ => False)) {b sz : Nat} (hb : E'.w.heap[b]? = E.w.heap[b]?) : ∀ {es : List (List Cell)} {o : Nat} {bs : List Nat}, (∀ b ∈ bs, E'.w.heap[b]? = E.w.heap[b]? ∧ E'.S false b) → rclean es = true → rnames es = [] → RXRow E b o sz es bs → RRow E' b o sz es
  | [], _, _, _, _, _, _ => by simp only [RRow]
  | e :: es, o, bs, hm, hc, hn, h => by
    simp only [RXRow] at h
    simp only [rclean, Bool.and_eq_true] at hc
    simp only [RRow]
    obtain ⟨us, b1, b2, rfl, h1, h2, h3, h4⟩ := h
    simp only [rnames, List.append_eq_nil_iff] at hn
    exact ⟨h1, ⟨us, RXCs.view s (fun x hx => hm x (by simp [hx])) hc.1 hn.1 h2, rangeAt_of_block hb h3⟩, RXRow.view s hb (fun x hx => hm x (by simp [hx])) hc.2 hn.2 h4⟩
end
/-- Is there nothing that is owned through elements? -/
def pl : List (List Cell) → Bool
  | [] => true
  | e :: es => noOw e && pl es
theorem pl_iff {es : List (List Cell)} : pl es = true ↔ ∀ e ∈ es, noOw e = true := by
  induction es with
  | nil => simp [pl]
  | cons e es ih => simp [pl, ih]
theorem pl_flat {es : List (List Cell)} (h : pl es = true) : noOw es.flatten = true := by
  induction es with
  | nil => rfl
  | cons e es ih =>
    simp only [pl, Bool.and_eq_true] at h
    simp [noOw_append, h.1, ih h.2]
theorem pl_map {α : Type} {f : α → List Cell} {xs : List α} (h : ∀ x, noOw (f x) = true) : pl (xs.map f) = true := pl_iff.2 fun e he => by
  obtain ⟨x, _, rfl⟩ := List.mem_map.1 he; exact h x
theorem pl_part {es : List (List Cell)} (h : pl es = true) (lo n : Nat) : pl ((es.drop lo).take n) = true := pl_iff.2 fun e he => pl_iff.1 h e (List.mem_of_mem_drop (List.mem_of_mem_take he))
end Go.MG
