/- Slices that are owned through the elements of others: put in, taken out, put back. -/
import Derived.Test.YtbjbagemlclgcaaMgZc
namespace Go.MG
set_option linter.unusedSimpArgs false
set_option linter.unusedVariables false
set_option linter.unnecessarySimpa false

theorem RXCs.focus {E : Env} : ∀ {cs : List Cell} {us : List Value} {bs : List Nat} (p : Nat) {c : Cell}, RXCs E cs us bs → cs[p]? = some c →
    ∃ u b1 b2 b3, us[p]? = some u ∧ bs = b1 ++ (b2 ++ b3) ∧ RXC E c u b2 ∧ ∀ c' b', RXC E c' u b' → RXCs E (cs.set p c') us (b1 ++ b' ++ b3)
  | [], _, _, p, c, _, hc => by simp at hc
  | d :: cs, _, _, 0, c, h, hc => by
    simp only [RXCs] at h
    obtain ⟨u, us', b, bs', rfl, rfl, h1, h2⟩ := h
    simp at hc; subst hc
    refine ⟨u, [], b, bs', rfl, rfl, h1, fun c' b' h' => ?_⟩
    simp only [List.set_cons_zero, List.nil_append, RXCs]
    exact ⟨u, us', b', bs', rfl, rfl, h', h2⟩
  | d :: cs, _, _, p + 1, c, h, hc => by
    simp only [RXCs] at h
    obtain ⟨u, us', b, bs', rfl, rfl, h1, h2⟩ := h
    obtain ⟨v, b1, b2, b3, g1, rfl, g3, g4⟩ := RXCs.focus p h2 (by simpa using hc)
    refine ⟨v, b ++ b1, b2, b3, by simpa using g1, by simp, g3, fun c' b' h' => ?_⟩
    simp only [List.set_cons_succ, RXCs]
    exact ⟨u, us', b, _, rfl, by simp, h1, g4 c' b' h'⟩
theorem RXRow.focus {E : Env} {b sz : Nat} : ∀ {es : List (List Cell)} {o : Nat} {bs : List Nat} (i p : Nat) {e : List Cell} {c : Cell}, RXRow E b o sz es bs → es[i]? = some e → e[p]? = some c →
    ∃ u us b1 b2 b3, us[p]? = some u ∧ E.w.rangeAt b (o + i * sz) us ∧ bs = b1 ++ (b2 ++ b3) ∧ RXC E c u b2 ∧ (∃ be, RXCs E e us be) ∧ ∀ c' b', RXC E c' u b' → RXRow E b o sz (es.set i (e.set p c')) (b1 ++ b' ++ b3)
  | [], _, _, i, p, e, c, _, he, _ => by simp at he
  | d :: es, o, _, 0, p, e, c, h, he, hc => by
    simp only [RXRow] at h
    obtain ⟨us, b1, b2, rfl, h1, h2, h3, h4⟩ := h
    simp at he; subst he
    obtain ⟨u, c1, c2, c3, g1, rfl, g3, g4⟩ := RXCs.focus p h2 hc
    refine ⟨u, us, c1, c2, c3 ++ b2, g1, by simpa using h3, by simp, g3, ⟨_, h2⟩, fun c' b' h' => ?_⟩
    simp only [List.set_cons_zero, RXRow]
    exact ⟨us, _, b2, by simp, by simpa using h1, g4 c' b' h', h3, h4⟩
  | d :: es, o, _, i + 1, p, e, c, h, he, hc => by
    simp only [RXRow] at h
    obtain ⟨us, b1, b2, rfl, h1, h2, h3, h4⟩ := h
    obtain ⟨u, us', c1, c2, c3, g1, g2, rfl, g3, g5, g4⟩ := RXRow.focus i p h4 (by simpa using he) hc
    refine ⟨u, us', b1 ++ c1, c2, c3, g1, by rw [show o + (i + 1) * sz = o + sz + i * sz by rw [Nat.add_mul]; omega]; exact g2, by simp, g3, g5, fun c' b' h' => ?_⟩
    simp only [List.set_cons_succ, RXRow]
    exact ⟨us, b1, _, by simp, h1, h2, h3, g4 c' b' h'⟩

/-- Cells that are put into an element: own slices with what they hold. -/
def Heap.nestC (H : Heap) (n : Nat) : Cell → Option (Heap × Cell)
  | .own k => (H.rows k).map fun r => ({ H with rows := upd H.rows k none }, .ow r.sz r.es)
  | .nil => some (H, .ow n [])
  | .ow .. | .bx .. => none
  | c => if c.names.isEmpty && c.clean then some (H, c) else none
def Heap.nestCs (H : Heap) (n : Nat) : List Cell → Option (Heap × List Cell)
  | [] => some (H, [])
  | c :: cs => match H.nestC n c with
    | some (H1, c') => match H1.nestCs n cs with
      | some (H2, cs') => some (H2, c' :: cs')
      | none => none
    | none => none
def Heap.nestAll (H : Heap) (n : Nat) : List (List Cell) → Option (Heap × List (List Cell))
  | [] => some (H, [])
  | e :: es => match H.nestCs n e with
    | some (H1, e') => match H1.nestAll n es with
      | some (H2, es') => some (H2, e' :: es')
      | none => none
    | none => none

section
variable {P : Program} {F : Fix} {H : Heap} {E : Env} {ρ : Rho} {ev : Operand → Value} {Q : Option Slot → Heap → Prop}

theorem nest_one {H' : Heap} {n : Nat} {c c' : Cell} {u : Value} (hH : RelH F H E) (h : H.nestC n c = some (H', c')) (hc : RC E c u) :
    ∃ E' bs, Gave F H E H' E' bs ∧ RXC E' c' u bs ∧ c'.names = [] ∧ c'.clean = true := by
  have plain : ∀ {c : Cell}, c.isOw = false → RC E c u → (if c.names.isEmpty && c.clean then some (H, c) else none) = some (H', c') → ∃ E' bs, Gave F H E H' E' bs ∧ RXC E' c' u bs ∧ c'.names = [] ∧ c'.clean = true := by
    intro c ho hc h
    split at h
    · rename_i he; cases h
      simp only [Bool.and_eq_true, List.isEmpty_iff] at he
      exact ⟨E, [], Gave.refl hH, RXC.of hc ho, he.1, he.2⟩
    · cases h
  cases c with
  | own k =>
    simp only [Heap.nestC, Option.map_eq_some_iff] at h
    obtain ⟨r, hr, h⟩ := h
    cases h
    obtain ⟨_, _, hd, h3, _, h5⟩ := hH.rows k r hr
    simp only [RC] at hc
    obtain ⟨bs, g1, g2⟩ := give_row' hH hr r.es.length (Nat.le_refl _) (fun hd' h' => by
      rw [h3] at h'; cases h'
      have hu := hc.2 hd h3
      rcases h5 with ⟨h6, _⟩ | ⟨g, cap, _, h6, _⟩
      · exact .inl ⟨h6, hu⟩
      · exact .inr ⟨g, _, cap, h6, by rw [hu, h6]⟩)
    exact ⟨_, bs, g1, by simpa using g2 (E.gone k) rfl (fun _ _ h => h), rfl, rfl⟩
  | nil =>
    simp only [Heap.nestC, Option.some.injEq, Prod.mk.injEq] at h
    obtain ⟨rfl, rfl⟩ := h
    simp only [RC] at hc
    refine ⟨E, [], Gave.refl hH, ?_, rfl, rfl⟩
    simp only [RXC]
    exact ⟨by simp, Flat.nil, .inl ⟨hc, trivial, trivial⟩⟩
  | ow sz es => simp [Heap.nestC] at h
  | bx cs => simp [Heap.nestC] at h
  | _ => exact plain rfl hc h

theorem nest_cells {n : Nat} : ∀ {cs cs' : List Cell} {H H' : Heap} {E : Env} {us : List Value} (_ : RelH F H E) (_ : H.nestCs n cs = some (H', cs')) (_ : RCs E cs us) (_ : ∀ j ∈ cnames cs, H.used j = true),
    ∃ E' bs, Gave F H E H' E' bs ∧ RXCs E' cs' us bs ∧ cnames cs' = [] ∧ cclean cs' = true ∧ cs'.length = cs.length
  | [], cs', H, H', E, us, hH, h, hr, hn => by
    simp [Heap.nestCs] at h
    obtain ⟨rfl, rfl⟩ := h
    simp only [RCs] at hr
    exact ⟨E, [], Gave.refl hH, by simp [RXCs, hr], rfl, rfl, rfl⟩
  | c :: cs, cs', H, H', E, us, hH, h, hr, hn => by
    simp only [RCs] at hr
    obtain ⟨u, us', rfl, h1, h2⟩ := hr
    simp only [cnames, List.mem_append] at hn
    unfold Heap.nestCs at h
    split at h
    · rename_i H1 c1 hc
      split at h
      · rename_i H2 cs2 hcs
        cases h
        obtain ⟨E1, b1, g1, g2, g3, g4⟩ := nest_one hH hc h1
        obtain ⟨E2, b2, k1, k2, k3, k4, k5⟩ := nest_cells g1.rel hcs (h2.sub g1.sub (fun j hj => hn j (.inr hj))) (fun j hj => by rw [← g1.used]; exact hn j (.inr hj))
        refine ⟨E2, b1 ++ b2, g1.trans k1, ?_, by simp [cnames, g3, k3], by simp [cclean, g4, k4], by simp [k5]⟩
        simp only [RXCs]
        exact ⟨u, us', b1, b2, rfl, rfl, RXC.sub k1.sub (fun _ _ => by rw [k1.w]) (fun k hk => by rw [g3] at hk; cases hk) g2, k2⟩
      · cases h
    · cases h

theorem Gave.free {H' : Heap} {E' : Env} {bs : List Nat} (hH : RelH F H E) (g : Gave F H E H' E' bs) : ∀ b ∈ bs, (∀ c, ¬ E'.S c b) ∧ (∀ j, ¬ Own E' j b) ∧ b < E'.w.heap.size ∧ (F.w0.heap.size ≤ b ∨ F.T b) := fun b hb => by
  obtain ⟨k, hk⟩ := g.was b hb
  have := hH.own k b hk
  exact ⟨fun c hc => this.1 c (by rw [← g.S]; exact hc), g.gone b hb, by rw [g.w]; exact this.2.1, this.2.2⟩

theorem nest_all {n : Nat} : ∀ {es es' : List (List Cell)} {H H' : Heap} {E : Env} {us : List Value} (_ : RelH F H E) (_ : H.nestAll n es = some (H', es')) (_ : RCs E es.flatten us) (_ : ∀ k ∈ cnames es.flatten, H.used k = true),
    ∃ E' bs, Gave F H E H' E' bs ∧ RXCs E' es'.flatten us bs ∧ Flat es' ∧ es'.map List.length = es.map List.length
  | [], es', H, H', E, us, hH, h, hr, hn => by
    simp [Heap.nestAll] at h
    obtain ⟨rfl, rfl⟩ := h
    simp only [List.flatten_nil, RCs] at hr
    exact ⟨E, [], Gave.refl hH, by simp [RXCs, hr], Flat.nil, rfl⟩
  | e :: es, es', H, H', E, us, hH, h, hr, hn => by
    rw [List.flatten_cons] at hr hn
    rw [cnames_append] at hn
    have h1 : RCs E e (us.take e.length) := by have := hr.take e.length; simpa using this
    have h2 : RCs E es.flatten (us.drop e.length) := by have := hr.drop e.length; simpa using this
    unfold Heap.nestAll at h
    split at h
    · rename_i H1 e1 hc
      split at h
      · rename_i H2 es2 hcs
        cases h
        obtain ⟨E1, b1, g1, g2, g3, g4, g5⟩ := nest_cells hH hc h1 (fun k hk => hn k (List.mem_append.2 (.inl hk)))
        obtain ⟨E2, b2, k1, k2, k3, k4⟩ := nest_all g1.rel hcs (h2.sub g1.sub (fun k hk => hn k (List.mem_append.2 (.inr hk)))) (fun k hk => by rw [← g1.used]; exact hn k (List.mem_append.2 (.inr hk)))
        refine ⟨E2, b1 ++ b2, g1.trans k1, ?_, ⟨by simp [rclean, g4, k3.1], by simp [rnames, g3, k3.2]⟩, by simp [g5, k4]⟩
        rw [List.flatten_cons]
        have := (RXCs.sub k1.sub (fun _ _ => by rw [k1.w]) (fun k hk => by rw [g3] at hk; cases hk) g2).append k2
        rwa [List.take_append_drop] at this
      · cases h
    · cases h

theorem done_store_epN (hH : RelH F H E) (hρ : RhoOk H E ρ ev) {o : Oper} {t : TypeId} {y z : Operand} (ho : o.op = .store t y z) {k i j n : Nat} (hy : ρ y = some (.v (.one (.ep k i j)))) {x : V} (hz : ρ z = some (.v x)) {H' : Heap} {cs' : List Cell}
    (hsh : H.nestCs n x.cells = some (H', cs')) {r : Row} (hk : H'.rows k = some r) {e : List Cell} (he : r.es[i]? = some e)
    {ag : Bool} (hs : shape P t = some (ag, x.cells.length)) (hl : j + cs'.length ≤ e.length) (hq : Q none { H' with rows := upd H'.rows k (some { r with es := r.es.set i (splice e j cs') }) }) : Done P F H E (execOp ev o) Q := by
  have hv0 := (hρ y _ hy).1
  obtain ⟨hx, hn⟩ := hρ z _ hz
  obtain ⟨vs, hrx, hvs⟩ := RV.cells hx
  obtain ⟨E1, bs, g1, g2, g3, g4, g5⟩ := nest_cells hH hsh hrx hn
  have hv : RC E1 (.ep k i j) (ev y) := RC.sub g1.sub (fun c hc => (hρ y _ hy).2 c (by simpa [Slot.names, V.names, V.cells, cnames] using hc)) hv0
  obtain ⟨E2, b0, b1, b2⟩ := store_row (P := P) g1.rel hk he hv g2 ⟨g3, g4⟩ g1.nodup (g1.free hH) (by rw [g5]; exact hs) hl hvs
  refine ⟨.skip, E2, none, _, ?_, hq, b1, g1.sub.trans (sub_used g1.used b2), fun c hc => by have := g1.used c; rw [hc] at this; exact this.symm, rfl⟩
  rw [← g1.w]
  simp [execOp, ho, b0]

theorem done_buildSliceN (hH : RelH F H E) (hρ : RhoOk H E ρ ev) {o : Oper} {t : TypeId} {len n : Nat} {parts : Array (Nat × Operand)} (ho : o.op = .buildSlice t len parts) {el : TypeId} (ht : P.underlying t = some (.slice el)) {ti : TypeInfo} (hti : P.info? el = some ti)
    {z : Value} (hz : ti.zero = some z) (h0 : 0 < ti.size) (hbig : len * ti.size ≤ 16777216) {vs : List (Nat × V)} (hp : partsV ρ parts.toList = some vs) (hd : parts.toList.map (·.1) = List.range len) (hl : ∀ p ∈ vs, p.2.cells.length = ti.size)
    {H' : Heap} {es : List (List Cell)} (hsh : H.nestAll n (vs.map fun p => p.2.cells) = some (H', es)) {k : Nat} (hk : H.used k = false)
    (hq : Q (some (.v (.one (.own k)))) { H' with rows := upd H'.rows k (some ⟨ti.size, es⟩), made := upd H'.made k true }) : Done P F H E (execOp ev o) Q :=
  done_buildSlice' hH hρ ho ht hti hz h0 hbig hp hd hl (fun us hr hn => by
    obtain ⟨E1, bs, g1, g2, g3, g4⟩ := nest_all hH hsh hr hn
    exact ⟨E1, bs, g1.w, g1.rel, g1.sub, g2, g3, g1.used, g4, g1.nodup, g1.free hH⟩) hk hq

/-- A row's element is told in another way; nothing is written. -/
theorem RelH.tellRow {k i p g m cap : Nat} (hH : RelH F H E) {r : Row} (hr : H.rows k = some r) {e : List Cell} (he : r.es[i]? = some e) {c' : Cell} {bs : List Nat} (hd : E.hdr k = some (.slice (some ⟨g, 0, none⟩) m cap)) (hth : E.w.there g 0 (cap * r.sz)) (hx : RXRow E g 0 r.sz (r.es.set i (e.set p c')) bs)
    (hc : c'.clean = true ∧ c'.names = []) (hnd : (g :: bs).Nodup) (hbs : ∀ b ∈ bs, b ∈ E.ob k ∨ ((∀ c, ¬ E.S c b) ∧ (∀ j, ¬ Own E j b) ∧ b < E.w.heap.size ∧ (F.w0.heap.size ≤ b ∨ F.T b))) :
    RelH F { H with rows := upd H.rows k (some ⟨r.sz, r.es.set i (e.set p c')⟩) } { E with ob := upd E.ob k (g :: bs) } ∧ Sub E { E with ob := upd E.ob k (g :: bs) } (fun k => H.used k = true) := by
  obtain ⟨h1, h2, _⟩ := hH.rows k r hr
  have hel : (e.set p c').length = r.sz := by rw [List.length_set]; exact h1 e (List.mem_of_getElem? he)
  exact hH.setRow (r' := ⟨r.sz, r.es.set i (e.set p c')⟩) hr hd (w' := E.w) ⟨rfl, rfl, rfl, rfl, fun _ _ => rfl⟩ (by simp) rfl (fun x hx => by
    rcases List.mem_or_eq_of_mem_set hx with h | h
    · exact h1 x h
    · rw [h]; exact hel) (Flat.iff.2 fun x hx => by
    rcases List.mem_or_eq_of_mem_set hx with h | h
    · exact Flat.iff.1 h2 x h
    · rw [h]
      have he2 := Flat.iff.1 h2 e (List.mem_of_getElem? he)
      refine ⟨cclean_iff.2 fun c hcm => ?_, cnames_iff.2 fun c hcm => ?_⟩
      · rcases List.mem_or_eq_of_mem_set hcm with h | h
        · exact cclean_iff.1 he2.1 c h
        · rw [h]; exact hc.1
      · rcases List.mem_or_eq_of_mem_set hcm with h | h
        · exact cnames_iff.1 he2.2 c h
        · rw [h]; exact hc.2) hth hx hnd hbs

def Heap.outRow (H : Heap) (k i p q : Nat) (r : Row) (e : List Cell) (u : Value) (r2 : Row) : Heap :=
  { H with rows := upd (upd H.rows k (some ⟨r.sz, r.es.set i (e.set p (.raw u))⟩)) q (some r2), made := upd H.made q true, hv := upd H.hv q (some u) }

/-- An element's own slice is taken out. -/
theorem RelH.takeOut {k i p q : Nat} (hH : RelH F H E) {r : Row} (hr : H.rows k = some r) {e : List Cell} (he : r.es[i]? = some e) {sz2 : Nat} {es2 : List (List Cell)} (hp : e[p]? = some (.ow sz2 es2)) (hq : H.used q = false) :
    ∃ u us E' g cap, E.hdr k = some (.slice (some ⟨g, 0, none⟩) r.es.length cap) ∧ E.w.rangeAt g (i * r.sz) us ∧ us[p]? = some u ∧ (∃ be, RXCs E e us be) ∧ E'.w = E.w ∧ RelH F (H.outRow k i p q r e u ⟨sz2, es2⟩) E' ∧ Sub E E' (fun k => H.used k = true) ∧ RC E' (.own q) u := by
  obtain ⟨h1, h2, hd, h3, h4, h5⟩ := hH.rows k r hr
  have hk : H.used k = true := hH.usedR k (by rw [hr]; simp)
  have hkq : k ≠ q := fun e => by subst e; rw [hq] at hk; cases hk
  rcases h5 with ⟨h6, h7, _⟩ | ⟨g, cap, bs0, h6, h7, h8, h9, h10⟩
  · rw [h7] at he; simp at he
  · obtain ⟨u, us, b1, b2, b3, f1, f2, f3, f4, f5, f6⟩ := h9.focus i p he hp
    have hone := f4.one
    have hnd := hH.nodup k
    rw [h10, f3] at hnd
    have hsl : (g :: (b1 ++ b3)).Sublist (g :: (b1 ++ (b2 ++ b3))) := List.Sublist.cons_cons g (List.Sublist.append (List.Sublist.refl _) (List.sublist_append_right _ _))
    have hx := f6 (.raw u) [] ((RXC.iff rfl).2 ⟨by simp only [RC]; exact ⟨trivial, hone⟩, rfl⟩)
    rw [List.append_nil] at hx
    obtain ⟨d1, d2⟩ := hH.tellRow hr he (by rw [h3, h6]) h8 hx ⟨rfl, rfl⟩ (hnd.sublist hsl) (fun b hb => .inl (by
      rw [h10, f3]; simp only [List.mem_cons, List.mem_append] at hb ⊢; rcases hb with hb | hb
      · exact .inr (.inl hb)
      · exact .inr (.inr (.inr hb))))
    have hb2 : ∀ b ∈ b2, b ∈ E.ob k := fun b hb => by rw [h10, f3]; simp [hb]
    have hn2 : b2.Nodup := by
      have := (List.nodup_cons.1 hnd).2
      exact (List.nodup_append.1 (List.nodup_append.1 this).2.1).1
    have hdis : ∀ b ∈ b2, b ∉ g :: (b1 ++ b3) := fun b hb h => by
      have h0 := List.nodup_cons.1 hnd
      have h00 := List.nodup_append.1 h0.2
      have h01 := List.nodup_append.1 h00.2.1
      simp only [List.mem_cons, List.mem_append] at h
      rcases h with h | h | h
      · subst h; exact h0.1 (by simp [hb])
      · exact h00.2.2 b h b (by simp [hb]) rfl
      · exact h01.2.2 b hb b h rfl
    simp only [RXC] at f4
    obtain ⟨k1, k2, k3⟩ := f4
    have hin : RowIn { E with ob := upd E.ob k (g :: (b1 ++ b3)) } u ⟨sz2, es2⟩ b2 := by
      rcases k3 with ⟨k4, k5, k6⟩ | ⟨g', cap', bs', k4, k5, k6, k7, k8⟩
      · exact .inl ⟨k4, k5, k6⟩
      · exact .inr ⟨g', cap', bs', k4, k5, k6, RXRow.sub (E := E) (E' := { E with ob := upd E.ob k (g :: (b1 ++ b3)) }) (N := fun _ => True) ⟨fun _ _ h => h, fun _ _ _ => rfl, fun _ _ => rfl, fun _ _ _ h => h, fun _ _ _ _ => rfl⟩ rfl (fun _ _ => rfl) (fun _ _ => trivial) k7, k8⟩
    have hu1 : Heap.used { H with rows := upd H.rows k (some ⟨r.sz, r.es.set i (e.set p (.raw u))⟩) } q = false := hq
    obtain ⟨c1, c2⟩ := d1.addRow (k := q) (r := ⟨sz2, es2⟩) (hd := u) (bs := b2) hu1 k1 k2 hin hn2 (fun b hb => by
      have ho := hH.own k b (.inl (hb2 b hb))
      refine ⟨ho.1, fun j hj => ?_, ho.2⟩
      rcases Own.set (w' := E.w) hj with ⟨_, h⟩ | h
      · exact hdis b hb h
      · have := hH.uniq j k b h (.inl (hb2 b hb))
        subst this
        rcases hj with hj | hj
        · simp only [upd_same] at hj; exact hdis b hb hj
        · rcases hH.both j with e1 | e1
          · rw [hr] at e1; cases e1
          · simp only at hj; rw [hj] at e1; cases e1)
    refine ⟨u, us, _, g, cap, by rw [h3, h6], by simpa using f2, f1, f5, ?_, ⟨c1.rows, c1.boxes, c1.hdr0, c1.blk0, c1.both, c1.uniq, c1.own, c1.S, c1.SS, c1.Ssub, c1.Ssup, c1.pt, c1.fr, c1.usedR, c1.usedB, c1.nodup, c1.lens, fun j v hv => ?_⟩, d2.trans c2, ?_⟩
    · rfl
    · by_cases e : j = q
      · subst e
        have hv : upd H.hv j (some u) j = some v := hv
        rw [upd_same] at hv; cases hv
        exact ⟨by simp [Heap.used, Heap.outRow, upd_same], by simp [Env.rowAt, upd_same]⟩
      · have hv : upd H.hv q (some u) j = some v := hv
        rw [upd_other _ _ e] at hv
        exact c1.hv j v hv
    · simp only [RC, Env.rowAt, upd_same]
      exact ⟨hone, fun h hh => by cases hh; rfl⟩

theorem done_take_ep (hH : RelH F H E) (hρ : RhoOk H E ρ ev) {o : Oper} {t : TypeId} {y : Operand} (ho : o.op = .load t y) {k i j p q : Nat} (hy : ρ y = some (.v (.one (.ep k i j)))) {r : Row} (hr : H.rows k = some r) {e : List Cell} (he : r.es[i]? = some e)
    {sz2 : Nat} {es2 : List (List Cell)} (hp : e[p]? = some (.ow sz2 es2)) (hq0 : H.used q = false) {ag : Bool} {n : Nat} (hs : shape P t = some (ag, n)) (hl : j + n ≤ e.length) {x : V} (hx : mkV ag (((e.set p (.own q)).drop j).take n) = some x) (hno : noOw (e.set p (.own q)) = true)
    (hq : ∀ u, Q (some (.v x)) (H.outRow k i p q r e u ⟨sz2, es2⟩)) : Done P F H E (execOp ev o) Q := by
  have hv := (hρ y _ hy).1
  obtain ⟨u, us, E', g, cap, a1, a2, a3, ⟨be, a4⟩, a5, a6, a7, a8⟩ := hH.takeOut hr he hp hq0
  obtain ⟨h1, h2, hd, h3, h4, h5⟩ := hH.rows k r hr
  simp only [RSlot, RV, RC] at hv
  obtain ⟨g', len, cap', hg, hlt, hu⟩ := hv.2 _ a1
  cases hg
  have hnm : ∀ c ∈ cnames e, H.used c = true := fun c hc => by
    have := rnames_get h2.2 he
    rw [this] at hc; cases hc
  -- the element's cells, as they are called now
  have hcells : RCs E' (e.set p (.own q)) us := by
    obtain ⟨v, b1, b2, b3, c1, c2, c3, c4⟩ := a4.focus p hp
    rw [a3] at c1; cases c1
    have a4' := RXCs.sub a7 (fun _ _ => by rw [a5]) hnm a4
    obtain ⟨v, b1', b2', b3', c1', c2', c3', c4'⟩ := a4'.focus p hp
    rw [a3] at c1'; cases c1'
    exact (RXCs.plain hno (c4' (.own q) [] (RXC.of a8 rfl))).1
  have hlen := hcells.length
  rw [List.length_set] at hlen
  obtain ⟨v, hm, hR⟩ := load_ok (P := P) (E := E') hs ((hcells.drop j).take n) (b := g) (o := i * r.sz + j) (by
    have := range_part a2 j n
    rw [a5]; exact this) (by simp; omega) hx
  refine ⟨.value v, E', some (.v x), _, ?_, hq u, a6, a7, fun c hc => ?_, v, rfl, hR, fun c hc => ?_⟩
  · rw [h4] at hu
    rw [← a5]
    simp [execOp, ho, hu, hm]
  · by_cases e0 : c = q
    · subst e0; simp [Heap.used, Heap.outRow, upd_same]
    · simp only [Heap.used, Heap.outRow, upd_other _ _ e0]; exact hc
  · have hcn : c ∈ cnames (((e.set p (.own q)).drop j).take n) := by
      cases ag with
      | true => simp [mkV] at hx; subst hx; exact hc
      | false =>
        generalize ((e.set p (.own q)).drop j).take n = ds at hx ⊢
        match ds, hx with
        | [d], hx => simp [mkV] at hx; subst hx; exact hc
    obtain ⟨d, hd', hcd⟩ := mem_cnames.1 hcn
    have hd2 := List.mem_of_mem_drop (List.mem_of_mem_take hd')
    rcases List.mem_or_eq_of_mem_set hd2 with h | h
    · have := hnm c (mem_cnames.2 ⟨d, h, hcd⟩)
      by_cases e0 : c = q
      · subst e0; simp [Heap.used, Heap.outRow, upd_same]
      · simp only [Heap.used, Heap.outRow, upd_other _ _ e0]; exact this
    · subst h
      simp [Cell.names] at hcd
      subst hcd; simp [Heap.used, Heap.outRow, upd_same]

/-- It is put back. -/
theorem Le.putIn {sl : Nat → Option Slot} {H : Heap} (k i p q : Nat) {r r2 : Row} {e : List Cell} {u : Value} (hr : H.rows k = some r) (he : r.es[i]? = some e) (hp : e[p]? = some (.raw u)) (h2 : H.rows q = some r2) (hv : H.hv q = some u) (hkq : (k == q) = false) :
    Le F ⟨sl, H⟩ ⟨sl, { H with rows := upd (upd H.rows q none) k (some ⟨r.sz, r.es.set i (e.set p (.ow r2.sz r2.es))⟩) }⟩ := by
  rintro a w ⟨E, rfl, hH, hS, hP⟩
  have hH : RelH F H E := hH
  have hkq : k ≠ q := by simpa using hkq
  obtain ⟨a1, a2, hd2, a3, a4, a5⟩ := hH.rows q r2 h2
  have hu := (hH.hv q u hv).2
  rw [a3] at hu; cases hu
  obtain ⟨d1, d2⟩ := hH.dropRow q
  have hr1 : Heap.rows { H with rows := upd H.rows q none } k = some r := by simp only [upd_other _ _ hkq]; exact hr
  obtain ⟨h1, h2', hd, h3, h4, h5⟩ := d1.rows k r hr1
  have hx : RXC (E.gone q) (.ow r2.sz r2.es) u (E.ob q) := by
    simp only [RXC]
    refine ⟨a1, a2, ?_⟩
    rcases a5 with ⟨k1, k2, k3⟩ | ⟨g', cap', bs', k1, k2, k3, k4, k5⟩
    · exact .inl ⟨k1, k2, k3⟩
    · exact .inr ⟨g', cap', bs', k1, k2, k3, RXRow.sub d2 rfl (fun _ _ => rfl) (fun k hk => by rw [a2.2] at hk; cases hk) k4, k5⟩
  have hobk : (E.gone q).ob k = E.ob k := upd_other _ _ hkq
  rcases h5 with ⟨h6, h7, _⟩ | ⟨g, cap, bs0, h6, h7, h8, h9, h10⟩
  · rw [h7] at he; simp at he
  · obtain ⟨u', us, b1, b2, b3, f1, f2, f3, f4, f5, f6⟩ := h9.focus i p he hp
    have f4 := (RXC.iff rfl).1 f4
    simp only [RC] at f4
    obtain ⟨⟨rfl, _⟩, rfl⟩ := f4
    rw [List.nil_append] at f3
    have hnd := hH.nodup k
    rw [hobk] at h10
    rw [h10, f3] at hnd
    have hdis : ∀ b ∈ E.ob q, b ∉ g :: (b1 ++ b3) := fun b hb h => hkq (hH.uniq k q b (.inl (by rw [h10, f3]; exact h)) (.inl hb))
    obtain ⟨c1, c2⟩ := d1.tellRow (k := k) (i := i) (p := p) hr1 he (c' := .ow r2.sz r2.es) (bs := b1 ++ E.ob q ++ b3) (by rw [h3, h6]) h8 (f6 _ _ hx) ⟨rfl, rfl⟩ (by
      obtain ⟨x1, x2⟩ := List.nodup_cons.1 hnd
      obtain ⟨y1, y2, y3⟩ := List.nodup_append.1 x2
      refine List.nodup_cons.2 ⟨fun h => ?_, List.nodup_append.2 ⟨List.nodup_append.2 ⟨y1, hH.nodup q, fun a ha b hb e => ?_⟩, y2, fun a ha b hb e => ?_⟩⟩
      · simp only [List.mem_append] at h x1
        rcases h with (h | h) | h
        · exact x1 (.inl h)
        · exact hdis g h (by simp)
        · exact x1 (.inr h)
      · subst e; exact hdis a hb (by simp [ha])
      · subst e
        rcases List.mem_append.1 ha with ha | ha
        · exact y3 a ha a hb rfl
        · exact hdis a ha (by simp [hb])) (fun b hb => by
      simp only [List.mem_append] at hb
      rcases hb with (hb | hb) | hb
      · exact .inl (by rw [hobk, h10, f3]; simp [hb])
      · exact .inr (hH.dropped (k := q) (g := b) h2 hb)
      · exact .inl (by rw [hobk, h10, f3]; simp [hb]))
    have hs := d2.trans c2
    exact ⟨{ E.gone q with ob := upd (E.gone q).ob k (g :: (b1 ++ E.ob q ++ b3)) }, rfl, c1, ⟨hS.size, hS.defers, fun t s hs' => (hS.slots t s hs').sub hs (hS.used t s hs'), hS.used⟩, hP.sub hs fun _ h => h⟩
end

theorem hvOk1 {π : Nat → Option Nat} {σ : St} {k' k : Nat} {v : Value} (h1 : π k' = some k) (h2 : σ.H.hv k = some v) : HvOk π σ [(k', v)] := fun p hp => by
  rw [List.mem_singleton.1 hp]; exact ⟨k, h1, h2⟩
/-! ### the rules -/
section
variable {P : Program} {F : Fix} {ops : Array Oper} {Q : St → Prop} {N : Nat}
variable {dst : Option Nat} {ty : TypeId} {pos : String} {aft : Array Edge} {grd : Option (Nat × Bool)} {rest : List Oper} {sl : Nat → Option Slot} {H : Heap}

theorem L.storeEpN {α : Type} {xs : List α} {e : α → List Cell} {a a' : α} {t : TypeId} {y z : Operand} {q i j n sz : Nat} {x : V} {ag : Bool} {H' : Heap} {cs' : List Cell} (m : Nat) (hs : shape P t = some (ag, n)) (hn : F.n = N)
    (hg : guardOf ops sl ⟨dst, .store t y z, ty, pos, aft, grd⟩ = some true) (hd : dstB N dst = true) (hy : opnd sl y = some (.v (.one (.ep q i j)))) (hz : opnd sl z = some (.v x)) (hx : x.cells.length = n) (hsh : H.nestCs m x.cells = some (H', cs'))
    (hb : H'.rows q = some ⟨sz, xs.map e⟩) (ha : xs[i]? = some a) (hl : Nat.ble (j + cs'.length) (e a).length = true) (he : splice (e a) j cs' = e a')
    (k : WpL P F ops Q rest ⟨setD sl dst none, (Heap.setRow H' q ⟨sz, (xs.set i a').map e⟩)⟩) : WpL P F ops Q (⟨dst, .store t y z, ty, pos, aft, grd⟩ :: rest) ⟨sl, H⟩ := by
  subst hx
  refine L.op hn hg hd fun _ _ hH hρ => done_store_epN hH hρ rfl hy hz hsh hb (by simp [ha]) hs (Nat.le_of_ble_eq_true hl) ?_
  simp only [he]
  rw [List.map_set] at k
  exact k
/-- A store into the element whose slice was taken out. -/
theorem L.storeEpH {α : Type} {xs : List α} {e : α → List Cell} {a a' : α} {e0 : List Cell} {t : TypeId} {y z : Operand} {q i j n sz : Nat} {x : V} {ag : Bool} {H' : Heap} {cs' : List Cell} (m : Nat) (hs : shape P t = some (ag, n)) (hn : F.n = N)
    (hg : guardOf ops sl ⟨dst, .store t y z, ty, pos, aft, grd⟩ = some true) (hd : dstB N dst = true) (hy : opnd sl y = some (.v (.one (.ep q i j)))) (hz : opnd sl z = some (.v x)) (hx : x.cells.length = n) (hsh : H.nestCs m x.cells = some (H', cs'))
    (hb : H'.rows q = some ⟨sz, (xs.map e).set i e0⟩) (ha : xs[i]? = some a) (hl : Nat.ble (j + cs'.length) e0.length = true) (he : splice e0 j cs' = e a')
    (k : WpL P F ops Q rest ⟨setD sl dst none, (Heap.setRow H' q ⟨sz, (xs.set i a').map e⟩)⟩) : WpL P F ops Q (⟨dst, .store t y z, ty, pos, aft, grd⟩ :: rest) ⟨sl, H⟩ := by
  subst hx
  have hi := (List.getElem?_eq_some_iff.1 ha).1
  refine L.op hn hg hd fun _ _ hH hρ => done_store_epN hH hρ rfl hy hz hsh hb (e := e0) (by rw [List.getElem?_set_self (by simpa using hi)]) hs (Nat.le_of_ble_eq_true hl) ?_
  simp only [he, List.set_set]
  rw [List.map_set] at k
  exact k

theorem L.buildSliceN {α : Type} {e : α → List Cell} {t : TypeId} {len : Nat} {parts : Array (Nat × Operand)} {el : TypeId} {ti : TypeInfo} {z : Value} {vs : List (Nat × V)} {H' : Heap} {es : List (List Cell)} (m q : Nat) (xs : List α) (ht : P.underlying t = some (.slice el)) (hti : P.info? el = some ti)
    (hz : ti.zero = some z) (h0 : Nat.blt 0 ti.size = true) (hbig : Nat.ble (len * ti.size) 16777216 = true) (hn : F.n = N) (hg : guardOf ops sl ⟨dst, .buildSlice t len parts, ty, pos, aft, grd⟩ = some true) (hd : dstB N dst = true)
    (hp : partsV (opnd sl) parts.toList = some vs) (hr : parts.toList.map (·.1) = List.range len) (hl : allLen ti.size (vs.map fun p => p.2.cells) = true) (hsh : H.nestAll m (vs.map fun p => p.2.cells) = some (H', es)) (hq : H.used q = false) (hes : es = xs.map e)
    (k : WpL P F ops Q rest ⟨setD sl dst (some (.v (.one (.own q)))), (Heap.newRow H' q ⟨ti.size, xs.map e⟩)⟩) : WpL P F ops Q (⟨dst, .buildSlice t len parts, ty, pos, aft, grd⟩ :: rest) ⟨sl, H⟩ := by
  subst hes
  exact L.op hn hg hd fun _ _ hH hρ => done_buildSliceN hH hρ rfl ht hti hz (by simpa using h0) (Nat.le_of_ble_eq_true hbig) hp hr (fun p hp => allLen_ok hl _ (List.mem_map.2 ⟨p, hp, rfl⟩)) hsh hq k

theorem L.appendN {α : Type} {xs ys : List α} {e : α → List Cell} {y x : Operand} {t tx el e' : TypeId} {ti : TypeInfo} {z : Value} {c : Cell} {kx : Nat} {H1 : Heap} {sx : Nat} {es1 es2 : List (List Cell)} (q : Nat) (ht : P.underlying t = some (.slice el)) (hti : P.info? el = some ti) (hz : ti.zero = some z) (hzs : z.cells.size = ti.size)
    (hn : F.n = N) (hg : guardOf ops sl ⟨dst, .call { callee := .builtin .append, args := #[y, x], argTypes := #[t, tx] }, ty, pos, aft, grd⟩ = some true) (hd : dstB N dst = true) (hy : opnd sl y = some (.v (.one c))) (hx : opnd sl x = some (.v (.one (.own kx))))
    (h2 : H.rows kx = some ⟨sx, es2⟩) (h1 : Heap.toGrow { H with rows := upd H.rows kx none } c = some (H1, es1)) (he1 : es1 = xs.map e) (he2 : es2 = ys.map e) (hsx : sx = ti.size) (hl1 : ∀ k r, c = .own k → H.rows k = some r → r.sz = ti.size) (hk2 : P.underlying tx = some (.slice e'))
    (hbig : (2 * (xs.length + ys.length) + 192) * ti.bytes ≤ 281474976710656) (hb0 : Nat.blt 0 ti.bytes = true) (hq : H.used q = false)
    (k : WpL P F ops Q rest ⟨setD sl dst (some (.v (.one (.own q)))), (Heap.newRow H1 q ⟨ti.size, (xs ++ ys).map e⟩)⟩) :
    WpL P F ops Q (⟨dst, .call { callee := .builtin .append, args := #[y, x], argTypes := #[t, tx] }, ty, pos, aft, grd⟩ :: rest) ⟨sl, H⟩ := by
  subst he1; subst he2
  rw [List.map_append] at k
  have hb : 0 < ti.bytes := by simpa using hb0
  refine L.op hn hg hd fun _ _ hH hρ => done_appendN hH hρ rfl ht hti hz hzs hy hx h2 h1 hl1 hsx hk2 (by simpa using hbig) ?_ hq k
  have : (2 * (xs.length + ys.length) + 192) * 1 ≤ (2 * (xs.length + ys.length) + 192) * ti.bytes := Nat.mul_le_mul_left _ (by omega)
  simp
  omega

/-- Slice p of element i of row k goes out, as row q. -/
def Heap.out (H : Heap) (k i p q : Nat) {α : Type} (xs : List α) (e : α → List Cell) (a : α) (sz : Nat) (u : Value) (r2 : Row) : Heap :=
  { H with rows := upd (upd H.rows k (some ⟨sz, (xs.map e).set i ((e a).set p (.raw u))⟩)) q (some r2), made := upd H.made q true, hv := upd H.hv q (some u) }
theorem Rel.out {α : Type} {xs : List α} {e : α → List Cell} {a : α} {sz sz2 : Nat} {es2 : List (List Cell)} (k i p q : Nat) (hb : H.rows k = some ⟨sz, xs.map e⟩) (ha : xs[i]? = some a) (hp : (e a)[p]? = some (.ow sz2 es2)) (hq : H.used q = false) {ac : Act} {w : World} (h : Rel F ⟨sl, H⟩ ac w) :
    ∃ u, Rel F ⟨sl, H.out k i p q xs e a sz u ⟨sz2, es2⟩⟩ ac w := by
  obtain ⟨E, rfl, hH, hS, hP⟩ := h
  obtain ⟨u, us, E', g, cap, _, _, _, _, a5, a6, a7, _⟩ := RelH.takeOut (k := k) (i := i) (p := p) (q := q) hH hb (e := e a) (by simp [ha]) hp hq
  have hu : ∀ j, H.used j = true → Heap.used (H.out k i p q xs e a sz u ⟨sz2, es2⟩) j = true := fun j hj => by
    by_cases e0 : j = q
    · subst e0; simp [Heap.used, Heap.out, upd_same]
    · simp only [Heap.used, Heap.out, upd_other _ _ e0]; exact hj
  exact ⟨u, E', a5, a6, ⟨hS.size, hS.defers, fun t s hs => (hS.slots t s hs).sub a7 (hS.used t s hs), fun t s hs j hj => hu j (hS.used t s hs j hj)⟩, hP.sub a7 hu⟩
theorem L.out {α : Type} {xs : List α} {e : α → List Cell} {a : α} {sz sz2 : Nat} {es2 : List (List Cell)} (k i p q : Nat) (hb : H.rows k = some ⟨sz, xs.map e⟩) (ha : xs[i]? = some a) (hp : (e a)[p]? = some (.ow sz2 es2)) (hq : H.used q = false)
    (h : ∀ u, WpL P F ops Q rest ⟨sl, H.out k i p q xs e a sz u ⟨sz2, es2⟩⟩) : WpL P F ops Q rest ⟨sl, H⟩ := fun idx hidx ac w hr => by
  obtain ⟨u, hu⟩ := Rel.out k i p q hb ha hp hq hr
  exact h u idx hidx ac w hu
theorem WpC.out {α : Type} {xs : List α} {e : α → List Cell} {a : α} {sz sz2 : Nat} {es2 : List (List Cell)} {c : Code} {Q : Exit → St → Prop} (k i p q : Nat) (hb : H.rows k = some ⟨sz, xs.map e⟩) (ha : xs[i]? = some a) (hp : (e a)[p]? = some (.ow sz2 es2)) (hq : H.used q = false)
    (h : ∀ u, WpC P F c Q ⟨sl, H.out k i p q xs e a sz u ⟨sz2, es2⟩⟩) : WpC P F c Q ⟨sl, H⟩ := fun ac w hr => by
  obtain ⟨u, hu⟩ := Rel.out k i p q hb ha hp hq hr
  exact h u ac w hu
/-- It comes back. -/
theorem Le.back {α : Type} {xs : List α} {e : α → List Cell} {a a' : α} {sz sz2 : Nat} {es2 : List (List Cell)} {u : Value} (k i p q : Nat) (hb : H.rows k = some ⟨sz, (xs.map e).set i ((e a).set p (.raw u))⟩) (ha : xs[i]? = some a) (hl : Nat.blt p (e a).length = true) (h2 : H.rows q = some ⟨sz2, es2⟩) (hv : H.hv q = some u) (hkq : (k == q) = false) (he : (e a).set p (.ow sz2 es2) = e a') :
    Le F ⟨sl, H⟩ ⟨sl, { H with rows := upd (upd H.rows q none) k (some ⟨sz, (xs.set i a').map e⟩) }⟩ := by
  have hi := (List.getElem?_eq_some_iff.1 ha).1
  have hl' : p < (e a).length := by simpa using hl
  have := Le.putIn (F := F) (sl := sl) k i p q (r := ⟨sz, (xs.map e).set i ((e a).set p (.raw u))⟩) hb (e := (e a).set p (.raw u)) (by simp [hi]) (List.getElem?_set_self hl') h2 hv hkq
  simp only [List.set_set, he] at this
  rw [List.map_set]
  exact this

/-- What is loaded is the slice that is out. -/
theorem done_load_epR {E : Env} {ρ : Rho} {ev : Operand → Value} {Q : Option Slot → Heap → Prop} (hH : RelH F H E) (hρ : RhoOk H E ρ ev) {o : Oper} {t : TypeId} {y : Operand} (ho : o.op = .load t y) {k i j p q : Nat} (hy : ρ y = some (.v (.one (.ep k i j)))) {r : Row} (hk : H.rows k = some r) {e : List Cell} (he : r.es[i]? = some e)
    {u : Value} (hp : e[p]? = some (.raw u)) (hv : H.hv q = some u) {ag : Bool} {n : Nat} (hs : shape P t = some (ag, n)) (hl : j + n ≤ e.length) {x : V} (hx : mkV ag (((e.set p (.own q)).drop j).take n) = some x) (hno : noOw (((e.set p (.own q)).drop j).take n) = true) (hq : Q (some (.v x)) H) : Done P F H E (execOp ev o) Q := by
  have hv0 := (hρ y _ hy).1
  obtain ⟨h1, h2, hd, h3, h4, h5⟩ := hH.rows k r hk
  simp only [RSlot, RV, RC] at hv0
  obtain ⟨g, len, cap, hg, hlt, hu⟩ := hv0.2 hd h3
  obtain ⟨bs', hrow⟩ : ∃ bs', RXRow E g 0 r.sz r.es bs' := by
    rcases h5 with ⟨h6, _⟩ | ⟨g', cap', bs', h6, _, _, h9, _⟩
    · rw [h6] at hg; cases hg
    · rw [h6] at hg; cases hg; exact ⟨bs', h9⟩
  obtain ⟨hel, us, b1, hr, _, hat⟩ := hrow.get i e he
  obtain ⟨v, c1, c2, c3, f1, f2, f3, f4⟩ := hr.focus p hp
  have f3 := (RXC.iff rfl).1 f3
  simp only [RC] at f3
  obtain ⟨⟨rfl, hone⟩, rfl⟩ := f3
  have hown : RC E (.own q) v := by
    simp only [RC]
    exact ⟨hone, fun h hh => by rw [(hH.hv q v hv).2] at hh; cases hh; rfl⟩
  have hxs := f4 (.own q) [] (RXC.of hown rfl)
  obtain ⟨bp, hpart, _⟩ := hxs.part j n
  have hcells := (RXCs.plain hno hpart).1
  have hlen := hxs.length
  rw [List.length_set] at hlen
  obtain ⟨w, hm, hR⟩ := load_ok (P := P) hs hcells (b := g) (o := 0 + i * r.sz + j) (range_part hat j n) (by simp; omega) hx
  refine Done.same hH (u := w) ?_ hq hR (fun c hc => ?_)
  · rw [h4] at hu
    simp only [Nat.zero_add] at hm
    simp [execOp, ho, hu, hm]
  · have hcn : c ∈ cnames (((e.set p (.own q)).drop j).take n) := by
      cases ag with
      | true => simp [mkV] at hx; subst hx; exact hc
      | false =>
        generalize ((e.set p (.own q)).drop j).take n = ds at hx ⊢
        match ds, hx with
        | [d], hx => simp [mkV] at hx; subst hx; exact hc
    obtain ⟨d, hd', hcd⟩ := mem_cnames.1 hcn
    have hd2 := List.mem_of_mem_drop (List.mem_of_mem_take hd')
    rcases List.mem_or_eq_of_mem_set hd2 with h | h
    · have : c ∈ cnames e := mem_cnames.2 ⟨d, h, hcd⟩
      rw [rnames_get h2.2 he] at this; cases this
    · subst h
      simp [Cell.names] at hcd
      subst hcd; exact (hH.hv _ v hv).1
theorem L.loadEpR {α : Type} {xs : List α} {e : α → List Cell} {a : α} {t : TypeId} {y : Operand} {k i j n sz : Nat} {u : Value} {ag : Bool} {x : V} (p q : Nat) (hs : shape P t = some (ag, n)) (hn : F.n = N) (hg : guardOf ops sl ⟨dst, .load t y, ty, pos, aft, grd⟩ = some true) (hd : dstB N dst = true)
    (hy : opnd sl y = some (.v (.one (.ep k i j)))) (hb : H.rows k = some ⟨sz, (xs.map e).set i ((e a).set p (.raw u))⟩) (ha : xs[i]? = some a) (hv : H.hv q = some u) (hl : Nat.ble (j + n) (e a).length = true) (hpl : Nat.blt p (e a).length = true) (hx : mkV ag ((((e a).set p (.own q)).drop j).take n) = some x) (hno : noOw ((((e a).set p (.own q)).drop j).take n) = true)
    (k : WpL P F ops Q rest ⟨setD sl dst (some (.v x)), H⟩) : WpL P F ops Q (⟨dst, .load t y, ty, pos, aft, grd⟩ :: rest) ⟨sl, H⟩ := by
  have hi := (List.getElem?_eq_some_iff.1 ha).1
  have hp : p < (e a).length := by simpa using hpl
  refine L.op hn hg hd fun _ _ hH hρ => done_load_epR hH hρ rfl hy hb (e := (e a).set p (.raw u)) (by simp [hi]) (List.getElem?_set_self hp) hv hs (by rw [List.length_set]; exact Nat.le_of_ble_eq_true hl) (by rw [List.set_set]; exact hx) (by rw [List.set_set]; exact hno) k
theorem L.lenRH {α : Type} {xs : List α} {e : α → List Cell} {x : Operand} {t el : TypeId} {q i sz : Nat} {e0 : List Cell} (ht : P.underlying t = some (.slice el)) (hn : F.n = N) (hg : guardOf ops sl ⟨dst, .call { callee := .builtin .len, args := #[x], argTypes := #[t] }, ty, pos, aft, grd⟩ = some true) (hd : dstB N dst = true)
    (hx : opnd sl x = some (.v (.one (.own q)))) (hc : H.rows q = some ⟨sz, (xs.map e).set i e0⟩)
    (k : WpL P F ops Q rest ⟨setD sl dst (some (im (i64 (xs.length : Int)))), H⟩) : WpL P F ops Q (⟨dst, .call { callee := .builtin .len, args := #[x], argTypes := #[t] }, ty, pos, aft, grd⟩ :: rest) ⟨sl, H⟩ :=
  L.op hn hg hd fun _ _ hH hρ => done_len hH hρ rfl ht hx (n := xs.length) (by simp [Heap.lenOf, hc]) k
theorem Ca.lenRH {α : Type} {xs : List α} {e : α → List Cell} {x : Operand} {t el : TypeId} {q i sz : Nat} {e0 : List Cell} (ht : P.underlying t = some (.slice el)) (hx : opnd sl x = some (.v (.one (.own q)))) (hc : H.rows q = some ⟨sz, (xs.map e).set i e0⟩) :
    CalmAt P F sl H ⟨dst, .call { callee := .builtin .len, args := #[x], argTypes := #[t] }, ty, pos, aft, grd⟩ :=
  Ca.lenR (xs := (xs.map e).set i e0) (e := id) ht hx (by simp [Heap.lenOf, hc])
theorem L.idxRH {α : Type} {xs : List α} {e : α → List Cell} {a : α} {t el : TypeId} {x y : Operand} {q i0 sz : Nat} {e0 : List Cell} {kd : IntKind} {i : Int} {ti : TypeInfo} (ht : P.underlying t = some (.slice el)) (hti : P.info? el = some ti) (hn : F.n = N)
    (hg : guardOf ops sl ⟨dst, .indexAddr t x y, ty, pos, aft, grd⟩ = some true) (hd : dstB N dst = true) (hx : opnd sl x = some (.v (.one (.own q)))) (hy : opnd sl y = some (im (.int kd i))) (hc : H.rows q = some ⟨sz, (xs.map e).set i0 e0⟩)
    (ha : at? xs i = some a) (hel : (e a).length = ti.size) (hel0 : e0.length = ti.size)
    (k : WpL P F ops Q rest ⟨setD sl dst (some (.v (.one (.ep q i.toNat 0)))), H⟩) : WpL P F ops Q (⟨dst, .indexAddr t x y, ty, pos, aft, grd⟩ :: rest) ⟨sl, H⟩ := by
  obtain ⟨h0, hget⟩ := at?_get ha
  have hi : (i.toNat : Int) = i := Int.toNat_of_nonneg h0
  have hlt := (List.getElem?_eq_some_iff.1 hget).1
  have hex : ∃ e1, ((xs.map e).set i0 e0)[i.toNat]? = some e1 ∧ e1.length = ti.size := by
    by_cases h : i0 = i.toNat
    · subst h; exact ⟨e0, List.getElem?_set_self (by simpa using hlt), hel0⟩
    · exact ⟨e a, by rw [List.getElem?_set_ne h]; simp [hget], hel⟩
  obtain ⟨e1, h1, h2⟩ := hex
  refine L.op hn hg hd fun _ _ hH hρ => done_indexAddr hH hρ rfl ht hti hx (ik := kd) (i := i.toNat) hy (by simp [Slot.val?, V.val?, Cell.val?, hi]) (c' := .ep q i.toNat 0) (e := e1) (by simp [Heap.elemAt, hc, h1]) h2 k
end

/-! ### the elements of a shared slice told in another way -/
inductive ReC : Cell → Cell → Prop
  | refl (c : Cell) : ReC c c
  | to (sz : Nat) (ss : List (List Cell)) (h : ∀ s ∈ ss, s.length = sz) : ReC (.sl true ss) (.ow sz ss)
  | of (sz : Nat) (ss : List (List Cell)) : ReC (.ow sz ss) (.sl true ss)
inductive ReCs : List Cell → List Cell → Prop
  | nil : ReCs [] []
  | cons {c c' : Cell} {cs cs' : List Cell} (h : ReC c c') (hs : ReCs cs cs') : ReCs (c :: cs) (c' :: cs')
theorem ReCs.length {cs cs' : List Cell} (h : ReCs cs cs') : cs'.length = cs.length := by
  induction h with
  | nil => rfl
  | cons _ _ ih => simp [ih]
theorem ReC.names {c c' : Cell} (h : ReC c c') : c'.names = c.names := by
  cases h <;> rfl
theorem ReC.clean {c c' : Cell} (h : ReC c c') : c'.clean = c.clean := by
  cases h <;> rfl
theorem ReCs.names {cs cs' : List Cell} (h : ReCs cs cs') : cnames cs' = cnames cs := by
  induction h with
  | nil => rfl
  | cons h _ ih => simp only [cnames, h.names, ih]
theorem ReCs.clean {cs cs' : List Cell} (h : ReCs cs cs') : cclean cs' = cclean cs := by
  induction h with
  | nil => rfl
  | cons h _ ih => simp only [cclean, h.clean, ih]
theorem Env.cap_cap (E : Env) : (E.cap true).cap true = E.cap true := by
  unfold Env.cap
  congr 1
  funext c b
  simp
theorem ReC.rc {E : Env} {c c' : Cell} {u : Value} (h : ReC c c') (hc : RC (E.cap true) c u) : RC (E.cap true) c' u := by
  cases h with
  | refl => exact hc
  | to sz ss hl =>
    simp only [RC] at hc ⊢
    obtain ⟨hf, a, cap, hu, hle, h⟩ := hc
    refine ⟨hf, a, cap, hu, hle, ?_⟩
    rcases h with h | ⟨b, o, sz', ha, hS, hr⟩
    · exact .inl h
    · refine .inr ⟨b, o, ha, hS, ?_⟩
      rw [Env.cap_cap] at hr
      cases ss with
      | nil => trivial
      | cons e es =>
        have h1 := hr.1
        rw [hl e (by simp)] at h1
        rw [h1]; exact hr
  | of sz ss =>
    simp only [RC] at hc ⊢
    obtain ⟨hf, a, cap, hu, hle, h⟩ := hc
    refine ⟨hf, a, cap, hu, hle, ?_⟩
    rcases h with h | ⟨b, o, ha, hS, hr⟩
    · exact .inl h
    · exact .inr ⟨b, o, sz, ha, hS, by rw [Env.cap_cap]; exact hr⟩
theorem ReCs.rcs {E : Env} {cs cs' : List Cell} (h : ReCs cs cs') : ∀ {us : List Value}, RCs (E.cap true) cs us → RCs (E.cap true) cs' us := by
  induction h with
  | nil => intro us h; exact h
  | cons h _ ih =>
    intro us hc
    simp only [RCs] at hc ⊢
    obtain ⟨u, us', hu, h1, h2⟩ := hc
    exact ⟨u, us', hu, h.rc h1, ih h2⟩
theorem ReCs.row {α : Type} {E : Env} {b sz : Nat} {e e' : α → List Cell} (h : ∀ a, ReCs (e a) (e' a)) : ∀ {xs : List α} {o : Nat}, RRow (E.cap true) b o sz (xs.map e) → RRow (E.cap true) b o sz (xs.map e')
  | [], _, _ => trivial
  | x :: xs, o, hr => by
    simp only [List.map_cons, RRow] at hr ⊢
    obtain ⟨h1, ⟨us, h2, h3⟩, h4⟩ := hr
    exact ⟨by rw [(h x).length]; exact h1, ⟨us, (h x).rcs h2, h3⟩, ReCs.row h h4⟩
theorem ReCs.flat {α : Type} {e e' : α → List Cell} (h : ∀ a, ReCs (e a) (e' a)) : ∀ {xs : List α}, Flat (xs.map e) → Flat (xs.map e')
  | [], _ => Flat.nil
  | x :: xs, hf => by
    obtain ⟨h1, h2⟩ := hf
    simp only [List.map_cons, rclean, Bool.and_eq_true] at h1
    simp only [List.map_cons, rnames, List.append_eq_nil_iff] at h2
    have ih := ReCs.flat h (xs := xs) ⟨h1.2, h2.2⟩
    constructor
    · simp only [List.map_cons, rclean, Bool.and_eq_true]
      exact ⟨by rw [(h x).clean]; exact h1.1, ih.1⟩
    · simp only [List.map_cons, rnames, List.append_eq_nil_iff]
      exact ⟨by rw [(h x).names]; exact h2.1, ih.2⟩
/-- An element that is stored twice. -/
theorem Le.ss {F : Fix} {sl : Nat → Option Slot} {H : Heap} {α : Type} {xs : List α} {e : α → List Cell} {i sz : Nat} {a b : α} (k : Nat) (hb : H.rows k = some ⟨sz, (((xs.set i a).set i b)).map e⟩) : Le F ⟨sl, H⟩ ⟨sl, Heap.setRow H k ⟨sz, (xs.set i b).map e⟩⟩ := by
  have : Heap.setRow H k ⟨sz, (xs.set i b).map e⟩ = H := by
    rw [List.set_set] at hb
    have h : upd H.rows k (some ⟨sz, (xs.set i b).map e⟩) = H.rows := by
      funext j
      by_cases hj : j = k
      · subst hj; rw [upd_same, hb]
      · rw [upd_other _ _ hj]
    unfold Heap.setRow
    rw [h]
  rw [this]
  exact fun _ _ h => h
theorem Le.reE {F : Fix} {σ : St} {s : Slot} {α : Type} {xs : List α} {e e' : α → List Cell} (t p : Nat) (hs : σ.slots t = some s) (hp : s.cs[p]? = some (.sl true (xs.map e))) (hc : ∀ a, ReCs (e a) (e' a)) : Le F σ ⟨upd σ.slots t (some (s.setC p (.sl true (xs.map e')))), σ.H⟩ := by
  rintro a w ⟨E, rfl, hH, hS, hP⟩
  refine ⟨E, rfl, hH, ⟨hS.size, hS.defers, fun t' s' (h : upd σ.slots t (some (s.setC p (.sl true (xs.map e')))) t' = some s') => ?_, fun t' s' (h : upd σ.slots t (some (s.setC p (.sl true (xs.map e')))) t' = some s') k hk => ?_⟩, hP⟩
  · by_cases e0 : t' = t
    · subst e0
      rw [upd_same] at h; cases h
      refine RSlot.setC (hS.slots t' s hs) hp fun v hv => ?_
      simp only [RC, List.length_map] at hv ⊢
      obtain ⟨hf, a, cap, hu, hle, h⟩ := hv
      refine ⟨ReCs.flat hc hf, a, cap, hu, hle, ?_⟩
      rcases h with h | ⟨b, o, sz, ha, hS, hr⟩
      · left; have : xs = [] := by simpa using h
        rw [this]; rfl
      · exact .inr ⟨b, o, sz, ha, hS, ReCs.row hc hr⟩
    · rw [upd_other _ _ e0] at h
      exact hS.slots t' s' h
  · by_cases e0 : t' = t
    · subst e0
      rw [upd_same] at h; cases h
      rcases setC_names hk with h | h
      · exact hS.used t' s hs k h
      · simp [Cell.names] at h
    · rw [upd_other _ _ e0] at h
      exact hS.used t' s' h k hk
end Go.MG
