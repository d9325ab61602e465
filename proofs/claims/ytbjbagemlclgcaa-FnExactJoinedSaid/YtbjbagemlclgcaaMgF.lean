/- Stores; sharing; lengths, parts of slices; closures; structs and slices that are written out. -/
import Derived.Test.YtbjbagemlclgcaaMgE
import Derived.Great.BuildSlice
namespace Go.MG
set_option linter.unusedVariables false
set_option linter.unusedSimpArgs false
set_option linter.unnecessarySimpa false

def splice {α : Type} (cs : List α) (j : Nat) (new : List α) : List α := cs.take j ++ new ++ cs.drop (j + new.length)

theorem splice_get {α : Type} {cs new : List α} {j : Nat} (h : j + new.length ≤ cs.length) (k : Nat) :
    (splice cs j new)[k]? = if j ≤ k ∧ k < j + new.length then new[k - j]? else cs[k]? := by
  unfold splice
  rw [List.append_assoc, List.getElem?_append]
  simp only [List.length_take]
  rw [show min j cs.length = j by omega]
  by_cases h1 : k < j
  · rw [if_pos h1, if_neg (by omega), List.getElem?_take, if_pos h1]
  · rw [if_neg h1, List.getElem?_append]
    by_cases h2 : k - j < new.length
    · rw [if_pos h2, if_pos (by omega)]
    · rw [if_neg h2, if_neg (by omega), List.getElem?_drop]
      congr 1; omega

theorem splice_length {α : Type} {cs new : List α} {j : Nat} (h : j + new.length ≤ cs.length) : (splice cs j new).length = cs.length := by
  simp [splice]; omega

theorem RCs.splice {E : Env} {cs new : List Cell} {us vs : List Value} {j : Nat} (h : RCs E cs us) (h' : RCs E new vs) : RCs E (splice cs j new) (splice us j vs) := by
  unfold MG.splice
  rw [h'.length]
  exact ((h.take j).append h').append (h.drop _)

theorem RXCs.splice {E : Env} {cs new : List Cell} {us vs : List Value} {bs bn : List Nat} {j : Nat} (h : RXCs E cs us bs) (h' : RXCs E new vs bn) : ∃ b1 b2 b3, bs = b1 ++ (b2 ++ b3) ∧ RXCs E (splice cs j new) (splice us j vs) (b1 ++ bn ++ b3) := by
  obtain ⟨b1, b', rfl, h1, h2⟩ := h.cut j
  obtain ⟨b2, b3, rfl, _, h3⟩ := h2.cut new.length
  refine ⟨b1, b2, b3, rfl, ?_⟩
  unfold MG.splice
  rw [h'.length]
  rw [List.drop_drop, List.drop_drop] at h3
  exact (h1.append h').append h3

theorem mem_splice {α : Type} {cs new : List α} {j : Nat} {c : α} (h : c ∈ splice cs j new) : c ∈ cs ∨ c ∈ new := by
  unfold MG.splice at h
  simp only [List.mem_append] at h
  rcases h with (h | h) | h
  · exact .inl (List.mem_of_mem_take h)
  · exact .inr h
  · exact .inl (List.mem_of_mem_drop h)

theorem cnames_splice {cs new : List Cell} {j k : Nat} (h : k ∈ cnames (splice cs j new)) : k ∈ cnames cs ∨ k ∈ cnames new := by
  unfold splice at h
  simp only [cnames_append, List.mem_append] at h
  rcases h with (h | h) | h
  · obtain ⟨c, hc, hk⟩ := mem_cnames.1 h; exact .inl (mem_cnames.2 ⟨c, List.mem_of_mem_take hc, hk⟩)
  · exact .inr h
  · obtain ⟨c, hc, hk⟩ := mem_cnames.1 h; exact .inl (mem_cnames.2 ⟨c, List.mem_of_mem_drop hc, hk⟩)

theorem range_splice {w : World} {g o j : Nat} {us vs : List Value} (h : w.rangeAt g o us) (hl : j + vs.length ≤ us.length) : (w.setCells g (o + j) vs).rangeAt g o (splice us j vs) := by
  intro k v hv
  rw [splice_get hl] at hv
  have hs : ∀ i, i < vs.length → (w.cell? ⟨g, o + j + i, none⟩).isSome = true := fun i hi => by
    have hlt : j + i < us.length := by omega
    have := h (j + i) us[j + i] (List.getElem?_eq_getElem hlt)
    rw [← Nat.add_assoc] at this
    rw [this]; rfl
  by_cases hk : j ≤ k ∧ k < j + vs.length
  · rw [if_pos hk] at hv
    have hlt : k - j < vs.length := by omega
    have := World.cell?_setCells_in g vs (o + j) w hs (k - j) hlt
    rw [show o + j + (k - j) = o + k by omega] at this
    rw [this, ← hv, List.getElem?_eq_getElem hlt]
  · rw [if_neg hk] at hv
    rw [World.cell?_setCells_out g vs (o + j) w ⟨g, o + k, none⟩ (fun _ _ => by
      show o + k < o + j ∨ o + j + vs.length ≤ o + k
      omega)]
    exact h k v hv

/-- A row's cells, shared for good. -/
def Heap.shareOne (H : Heap) (c : Cell) : Option (Heap × Cell) :=
  match c with
  | .own k => (H.rows k).map fun r => ({ H with rows := upd H.rows k none }, .sl true r.es)
  | .sub k lo n => (H.rows k).map fun r => ({ H with rows := upd H.rows k none }, .sl true ((r.es.drop lo).take n))
  | .nil => some (H, .sl true [])
  | .ow .. | .bx .. => none
  | c => if c.names.isEmpty && c.clean then some (H, c) else none
def Heap.share (H : Heap) : List Cell → Option (Heap × List Cell)
  | [] => some (H, [])
  | c :: cs => match H.shareOne c with
    | some (H1, c') => match H1.share cs with
      | some (H2, cs') => some (H2, c' :: cs')
      | none => none
    | none => none

section
variable {P : Program} {F : Fix} {H : Heap} {E : Env} {ρ : Rho} {ev : Operand → Value} {Q : Option Slot → Heap → Prop}

theorem used_mono_rows {H : Heap} {f : Nat → Option Row} (k : Nat) (h : H.used k = true) : Heap.used { H with rows := f } k = true := h

theorem share_row (hH : RelH F H E) {k : Nat} {r : Row} (hk : H.rows k = some r) :
    ∃ E', E'.w = E.w ∧ RelH F { H with rows := upd H.rows k none } E' ∧ Sub E E' (fun k => H.used k = true) ∧ ∃ hd, E.hdr k = some hd ∧ E.sz k = r.sz ∧
      ((hd = .slice none 0 0 ∧ r.es = []) ∨ ∃ g cap, hd = .slice (some ⟨g, 0, none⟩) r.es.length cap ∧ r.es.length ≤ cap ∧ E'.S true g ∧ RRow (E'.cap true) g 0 r.sz r.es) := by
  obtain ⟨h1, h2, hd, h3, h4, h5⟩ := hH.rows k r hk
  obtain ⟨d1, d2⟩ := hH.dropRow k
  rcases h5 with ⟨h6, h7, _⟩ | ⟨g, cap, bs', h6, h7, h8, h9, h10⟩
  · exact ⟨E.gone k, rfl, d1, d2, hd, h3, h4, .inl ⟨h6, h7⟩⟩
  · have hf := fun b hb => hH.dropped (k := k) (g := b) hk hb
    obtain ⟨s1, s2⟩ := d1.share (bs := E.ob k) (fun b hb => ⟨(hf b hb).2.1, (hf b hb).2.2.1, (hf b hb).2.2.2⟩)
    refine ⟨{ E.gone k with S := fun c b => E.S c b ∨ b ∈ E.ob k }, rfl, s1, d2.trans s2, hd, h3, h4, .inr ⟨g, cap, h6, h7, .inr (by rw [h10]; simp), ?_⟩⟩
    exact RXRow.view (E' := Env.cap { E.gone k with S := fun c b => E.S c b ∨ b ∈ E.ob k } true) ⟨fun b hb => Or.inl hb, fun _ _ => rfl, fun _ h => h.elim, fun _ h => h.elim, fun _ h => h.elim⟩ rfl
      (fun b hb => ⟨rfl, Or.inr (by rw [h10]; simp [hb])⟩) h2.1 h2.2 h9

theorem share_one (hH : RelH F H E) {c c' : Cell} {H' : Heap} {u : Value} (h : H.shareOne c = some (H', c')) (hc : RC E c u) (_hn : ∀ k ∈ c.names, H.used k = true) :
    ∃ E', E'.w = E.w ∧ RelH F H' E' ∧ Sub E E' (fun k => H.used k = true) ∧ RC E' c' u ∧ (c'.names = [] ∧ c'.clean = true ∧ c'.isOw = false) ∧ (∀ k, H.used k = H'.used k) := by
  have plain : ∀ {c : Cell}, c.isOw = false → RC E c u → (if c.names.isEmpty && c.clean then some (H, c) else none) = some (H', c') → ∃ E', E'.w = E.w ∧ RelH F H' E' ∧ Sub E E' (fun k => H.used k = true) ∧ RC E' c' u ∧ (c'.names = [] ∧ c'.clean = true ∧ c'.isOw = false) ∧ (∀ k, H.used k = H'.used k) := by
    intro c ho hc h
    split at h
    · rename_i he; cases h
      simp only [Bool.and_eq_true, List.isEmpty_iff] at he
      exact ⟨E, rfl, hH, Sub.refl _ _, hc, ⟨he.1, he.2, ho⟩, fun _ => rfl⟩
    · cases h
  have row : ∀ {k : Nat} {r : Row}, H.rows k = some r → Flat r.es := fun hk => (hH.rows _ _ hk).flat
  cases c with
  | own k =>
    simp only [Heap.shareOne, Option.map_eq_some_iff] at h
    obtain ⟨r, hr, h⟩ := h
    cases h
    obtain ⟨E', e1, e2, e3, hd, e4, e5, e6⟩ := share_row hH hr
    refine ⟨E', e1, e2, e3, ?_, ⟨rfl, rfl, rfl⟩, fun _ => rfl⟩
    simp only [RC] at hc ⊢
    have hu := hc.2 hd e4
    rcases e6 with ⟨h6, h7⟩ | ⟨g, cap, h6, h7, h8, h9⟩
    · exact ⟨row hr, none, 0, by rw [hu, h6, h7]; rfl, by simp [h7], .inl h7⟩
    · exact ⟨row hr, _, cap, by rw [hu, h6], h7, .inr ⟨g, 0, r.sz, rfl, h8, h9⟩⟩
  | sub k lo n =>
    simp only [Heap.shareOne, Option.map_eq_some_iff] at h
    obtain ⟨r, hr, h⟩ := h
    cases h
    obtain ⟨E', e1, e2, e3, hd, e4, e5, e6⟩ := share_row hH hr
    refine ⟨E', e1, e2, e3, ?_, ⟨rfl, rfl, rfl⟩, fun _ => rfl⟩
    · simp only [RC] at hc ⊢
      rcases hc.2 hd e4 with ⟨h6, rfl, rfl, hu⟩ | ⟨g, len, cap, a, h6, h7, h8, h9, _⟩
      · exact ⟨(row hr).part _ _, none, 0, by rw [hu, h6]; simp, by simp, .inl (by simp)⟩
      · rcases e6 with ⟨h10, _⟩ | ⟨g', cap', h10, h11, h12, h13⟩
        · rw [h10] at h6; cases h6
        · rw [h10] at h6; cases h6
          have hlen : ((r.es.drop lo).take n).length = n := by simp; omega
          refine ⟨(row hr).part _ _, some a, cap - lo, by rw [h8, hlen], by rw [hlen]; omega, ?_⟩
          rcases h9 with h9 | h9
          · exact .inl (by simp [h9])
          · exact .inr ⟨g, lo * r.sz, r.sz, by rw [h9, e5], h12, by have := (h13.drop lo).take n; simpa using this⟩
  | nil =>
    simp only [Heap.shareOne, Option.some.injEq, Prod.mk.injEq] at h
    obtain ⟨rfl, rfl⟩ := h
    refine ⟨E, rfl, hH, Sub.refl _ _, ?_, ⟨rfl, rfl, rfl⟩, fun _ => rfl⟩
    simp only [RC] at hc ⊢
    exact ⟨Flat.nil, none, 0, hc, by simp, .inl trivial⟩
  | ow sz es => simp [Heap.shareOne] at h
  | bx cs => simp [Heap.shareOne] at h
  | _ => exact plain rfl hc h

theorem share_ok : ∀ {cs cs' : List Cell} {H H' : Heap} {E : Env} {us : List Value} (_ : RelH F H E) (_ : H.share cs = some (H', cs')) (_ : RCs E cs us) (_ : ∀ k ∈ cnames cs, H.used k = true),
    ∃ E', E'.w = E.w ∧ RelH F H' E' ∧ Sub E E' (fun k => H.used k = true) ∧ RCs E' cs' us ∧ (cnames cs' = [] ∧ cclean cs' = true ∧ noOw cs' = true) ∧ (∀ k, H.used k = H'.used k)
  | [], cs', H, H', E, us, hH, h, hr, hn => by
    simp [Heap.share] at h
    obtain ⟨rfl, rfl⟩ := h
    exact ⟨E, rfl, hH, Sub.refl _ _, hr, ⟨rfl, rfl, rfl⟩, fun _ => rfl⟩
  | c :: cs, cs', H, H', E, us, hH, h, hr, hn => by
    simp only [RCs] at hr
    obtain ⟨u, us', rfl, h1, h2⟩ := hr
    simp only [cnames, List.mem_append] at hn
    unfold Heap.share at h
    split at h
    · rename_i H1 c' hc
      split at h
      · rename_i H2 cs2 hcs
        cases h
        obtain ⟨E1, a1, a2, a3, a4, a5, a6⟩ := share_one hH hc h1 (fun k hk => hn k (.inl hk))
        obtain ⟨E2, b1, b2, b3, b4, b5, b6⟩ := share_ok a2 hcs (h2.sub a3 (fun k hk => hn k (.inr hk))) (fun k hk => by rw [← a6]; exact hn k (.inr hk))
        refine ⟨E2, b1.trans a1, b2, a3.trans ⟨b3.S, b3.mem, fun k hk => b3.hdrE k (by rw [← a6]; exact hk), fun k hk => b3.pt k (by rw [← a6]; exact hk), fun k hk => b3.sz k (by rw [← a6]; exact hk)⟩, ?_, by simp [cnames, cclean, noOw, a5, b5], fun k => (a6 k).trans (b6 k)⟩
        simp only [RCs]
        exact ⟨u, us', rfl, a4.sub b3 (fun k hk => by rw [a5.1] at hk; cases hk), b4⟩
      · cases h
    · cases h

theorem sub_used {E E' : Env} {H H' : Heap} (h : ∀ k, H.used k = H'.used k) (s : Sub E E' (fun k => H'.used k = true)) : Sub E E' (fun k => H.used k = true) :=
  ⟨s.S, s.mem, fun k hk => s.hdrE k (by rw [← h]; exact hk), fun k hk => s.pt k (by rw [← h]; exact hk), fun k hk => s.sz k (by rw [← h]; exact hk)⟩

/-! ### stores -/
theorem done_store_ptr (hH : RelH F H E) (hρ : RhoOk H E ρ ev) {o : Oper} {t : TypeId} {y z : Operand} (ho : o.op = .store t y z) {k j : Nat} (hy : ρ y = some (.v (.one (.ptr k j)))) {cs : List Cell} (hk : H.boxes k = some cs) {x : V} (hz : ρ z = some (.v x))
    {ag : Bool} (hs : shape P t = some (ag, x.cells.length)) (hl : j + x.cells.length ≤ cs.length) (hq : Q none { H with boxes := upd H.boxes k (some (splice cs j x.cells)) }) : Done P F H E (execOp ev o) Q := by
  have hv := (hρ y _ hy).1
  obtain ⟨g, us, hb, hr, hat, hth⟩ := hH.boxes k cs hk
  simp only [RSlot, RV, RC] at hv
  have hp := hv.2 g (hH.pt k g hb)
  obtain ⟨hx, hn⟩ := hρ z _ hz
  obtain ⟨vs, hrx, hvs⟩ := RV.cells hx
  have hvl := hrx.length
  have hul := hr.length
  have hrun := store_ok (P := P) hs (b := g) (o := j) hvs hvl hrx.one (fun i hi => by have := hth (j + i) (by omega); simpa using this)
  have honly := setCells_only g vs j E.w
  have hat' := range_splice (j := j) hat (by omega : j + vs.length ≤ us.length)
  simp only [Nat.zero_add] at hat'
  obtain ⟨b1, b2⟩ := hH.setBox hk hb honly (hr.splice hrx (j := j)) (fun i hi => (cnames_splice hi).elim ((hH.usedB k cs hk).2 i) (hn i)) hat' (by rw [splice_length hl]; exact World.there_setCells hth g j vs)
  refine ⟨.skip, _, none, _, ?_, hq, b1, b2, fun _ h => h, rfl⟩
  simp [execOp, ho, hp, hrun]

theorem take_add {α : Type} (a F : List α) (m : Nat) : (a ++ F).take (a.length + m) = a ++ F.take m := by
  rw [List.take_append, List.take_of_length_le (by omega), Nat.add_sub_cancel_left]
theorem drop_add {α : Type} (a F : List α) (m : Nat) : (a ++ F).drop (a.length + m) = F.drop m := by
  rw [List.drop_append, List.drop_of_length_le (by omega), Nat.add_sub_cancel_left, List.nil_append]

theorem flatten_set {es : List (List Cell)} {sz : Nat} (hl : ∀ e ∈ es, e.length = sz) {i : Nat} {e : List Cell} (hi : i < es.length) (he : e.length = sz) : (es.set i e).flatten = splice es.flatten (i * sz) e := by
  induction es generalizing i with
  | nil => simp at hi
  | cons a es ih =>
    have ha : a.length = sz := hl a (by simp)
    cases i with
    | zero =>
      simp only [List.set_cons_zero, List.flatten_cons, splice, Nat.zero_mul, List.take_zero, List.nil_append, Nat.zero_add]
      rw [he, ← ha]
      simp
    | succ i =>
      have := ih (fun e h => hl e (by simp [h])) (i := i) (by simpa using hi)
      simp only [List.set_cons_succ, List.flatten_cons, this, splice]
      have h1 : (i + 1) * sz = a.length + i * sz := by rw [Nat.add_mul, ha]; omega
      rw [h1, take_add, Nat.add_assoc, drop_add]
      simp [List.append_assoc]

theorem flatten_seg {es : List (List Cell)} {sz : Nat} (h1 : ∀ e ∈ es, e.length = sz) {i : Nat} {e : List Cell} (he : es[i]? = some e) : (es.flatten.drop (i * sz)).take sz = e := by
  induction es generalizing i with
  | nil => simp at he
  | cons a es ih =>
    have ha : a.length = sz := h1 a (by simp)
    cases i with
    | zero => simp at he; subst he; simp [← ha]
    | succ i =>
      have := ih (fun e h => h1 e (by simp [h])) (i := i) (by simpa using he)
      rw [List.flatten_cons, show (i + 1) * sz = a.length + i * sz by rw [Nat.add_mul, ha]; omega, drop_add]
      exact this

/-- A store into an owned slice's element. -/
theorem store_row {H : Heap} {E : Env} (hH : RelH F H E) {k i j : Nat} {r : Row} (hk : H.rows k = some r) {e : List Cell} (he : r.es[i]? = some e) {u0 : Value} (hv : RC E (.ep k i j) u0) {cs' : List Cell} {vs : List Value} {bn : List Nat} (a4 : RXCs E cs' vs bn)
    (a5 : cnames cs' = [] ∧ cclean cs' = true) (hbn : bn.Nodup) (hfree : ∀ b ∈ bn, (∀ c, ¬ E.S c b) ∧ (∀ j, ¬ Own E j b) ∧ b < E.w.heap.size ∧ (F.w0.heap.size ≤ b ∨ F.T b)) {t : TypeId} {ag : Bool} (hs : shape P t = some (ag, cs'.length)) (hl : j + cs'.length ≤ e.length)
    {u : Value} (hvs : u.cells = vs.toArray) : ∃ E', (Instr.storeAt t u0 u).run P E.w = .ok () E'.w ∧ RelH F { H with rows := upd H.rows k (some { r with es := r.es.set i (MG.splice e j cs') }) } E' ∧ Sub E E' (fun k => H.used k = true) := by
  obtain ⟨h1, h2, hd, h3, h4, h5⟩ := hH.rows k r hk
  simp only [RC] at hv
  obtain ⟨g, len, cap, hg, hlt, hu⟩ := hv.2 hd h3
  have hlen' := a4.length
  have hei : e.length = r.sz := h1 e (List.mem_of_getElem? he)
  have hil : i < r.es.length := (List.getElem?_eq_some_iff.1 he).1
  rcases h5 with ⟨h6, _⟩ | ⟨g', cap', bs0, h6, h7, h8, h9, h10⟩
  · rw [h6] at hg; cases hg
  · rw [h6] at hg; cases hg
    have hmul : (i + 1) * r.sz ≤ cap * r.sz := Nat.mul_le_mul_right _ (by omega)
    rw [Nat.add_mul] at hmul
    have hrun := store_ok (P := P) (E := E) hs (b := g) (o := i * r.sz + j) hvs hlen' a4.one (fun q hq' => by
      have := h8 (i * r.sz + j + q) (by omega)
      simpa using this)
    have honly := setCells_only g vs (i * r.sz + j) E.w
    obtain ⟨us, f1, f2, f3⟩ := h9.flat
    have fl := f1.length
    have hflat : (r.es.set i (MG.splice e j cs')).flatten = MG.splice r.es.flatten (i * r.sz + j) cs' := by
      rw [flatten_set h1 hil (by rw [splice_length hl]; exact hei)]
      have hflen : r.es.flatten.length = r.es.length * r.sz := by rw [← fl]; exact f2
      have hmul2 : (i + 1) * r.sz ≤ r.es.length * r.sz := Nat.mul_le_mul_right _ hil
      rw [Nat.add_mul] at hmul2
      apply List.ext_getElem?
      intro q
      have hseg : ∀ m, m < r.sz → r.es.flatten[i * r.sz + m]? = e[m]? := by
        intro m hm
        have := flatten_seg h1 he
        rw [← this, List.getElem?_take, if_pos hm, List.getElem?_drop]
      have g1 := splice_get (cs := r.es.flatten) (new := cs') (j := i * r.sz + j) (by rw [hflen]; omega) q
      have g2 := splice_get (cs := r.es.flatten) (new := MG.splice e j cs') (j := i * r.sz) (by rw [splice_length hl, hflen]; omega) q
      rw [g1, g2, splice_length hl]
      by_cases c1 : i * r.sz + j ≤ q ∧ q < i * r.sz + j + cs'.length
      · rw [if_pos (by omega), if_pos c1, splice_get hl, if_pos (by omega)]
        congr 1; omega
      · rw [if_neg c1]
        by_cases c2 : i * r.sz ≤ q ∧ q < i * r.sz + e.length
        · rw [if_pos c2, splice_get hl, if_neg (by omega), ← hseg _ (by omega)]
          congr 1; omega
        · rw [if_neg c2]
    have hgS := (hH.own k g (.inl (by rw [h10]; simp))).1
    have hndk := hH.nodup k
    rw [h10] at hndk
    obtain ⟨b1, b2, b3, hbs, hsp⟩ := f1.splice a4 (j := i * r.sz + j)
    have hsub : (b1 ++ b3).Sublist bs0 := by
      rw [hbs]; exact List.Sublist.append (List.Sublist.refl _) (List.sublist_append_right _ _)
    have hfr : ∀ b ∈ bn, b ∉ g :: bs0 := fun b hb h => (hfree b hb).2.1 k (.inl (by rw [h10]; exact h))
    have hnd : (g :: (b1 ++ bn ++ b3)).Nodup := by
      have h0 : (g :: (b1 ++ b3)).Nodup := hndk.sublist (hsub.cons_cons g)
      rw [List.nodup_cons] at h0 ⊢
      obtain ⟨x1, x2⟩ := h0
      obtain ⟨y1, y2, y3⟩ := List.nodup_append.1 x2
      have o1 : ∀ b ∈ b1, b ∈ bs0 := fun b hb => by rw [hbs]; simp [hb]
      have o3 : ∀ b ∈ b3, b ∈ bs0 := fun b hb => by rw [hbs]; simp [hb]
      refine ⟨fun h => ?_, ?_⟩
      · simp only [List.mem_append] at h x1
        rcases h with (h | h) | h
        · exact x1 (.inl h)
        · exact hfr g h (by simp)
        · exact x1 (.inr h)
      · refine List.nodup_append.2 ⟨List.nodup_append.2 ⟨y1, hbn, fun a ha b hb e => ?_⟩, y2, fun a ha b hb e => ?_⟩
        · subst e; exact hfr a hb (by simp [o1 a ha])
        · subst e
          rcases List.mem_append.1 ha with ha | ha
          · exact y3 a ha a hb rfl
          · exact hfr a ha (by simp [o3 a hb])
    have hrr : RXRow { E with w := E.w.setCells g (i * r.sz + j) vs } g 0 r.sz (r.es.set i (MG.splice e j cs')) (b1 ++ bn ++ b3) := by
      refine RXRow.of_flat (us := MG.splice us (i * r.sz + j) vs) (fun e' he' => ?_) ?_ ?_
      · rcases List.mem_or_eq_of_mem_set he' with h | h
        · exact h1 e' h
        · rw [h, splice_length hl]; exact hei
      · rw [hflat]
        refine RXCs.sub (N := fun _ => True) (Sub.only honly hgS _) (fun b hb => honly.block b fun e' => ?_) (fun _ _ => trivial) hsp
        subst e'
        exact (List.nodup_cons.1 hnd).1 hb
      · have hmul2 : (i + 1) * r.sz ≤ r.es.length * r.sz := Nat.mul_le_mul_right _ hil
        rw [Nat.add_mul] at hmul2
        have := range_splice (j := i * r.sz + j) f3 (by omega : i * r.sz + j + vs.length ≤ us.length)
        simpa using this
    obtain ⟨c1, c2⟩ := hH.setRow (r' := { r with es := r.es.set i (MG.splice e j cs') }) hk (by rw [h3, h6]) honly (by simp) rfl (fun e' he' => by
        rcases List.mem_or_eq_of_mem_set he' with h | h
        · exact h1 e' h
        · rw [h, splice_length hl]; exact hei) (by
        refine Flat.iff.2 fun e' he' => ?_
        rcases List.mem_or_eq_of_mem_set he' with h | h
        · exact Flat.iff.1 h2 e' h
        · rw [h]
          have he2 := Flat.iff.1 h2 e (List.mem_of_getElem? he)
          refine ⟨cclean_iff.2 fun c hc => ?_, cnames_iff.2 fun c hc => ?_⟩
          · rcases mem_splice hc with h | h
            · exact cclean_iff.1 he2.1 c h
            · exact cclean_iff.1 a5.2 c h
          · rcases mem_splice hc with h | h
            · exact cnames_iff.1 he2.2 c h
            · exact cnames_iff.1 a5.1 c h) (World.there_setCells h8 g _ vs) hrr hnd (fun b hb => by
        simp only [List.mem_append] at hb
        rcases hb with (hb | hb) | hb
        · exact .inl (by rw [h10, hbs]; simp [hb])
        · exact .inr (hfree b hb)
        · exact .inl (by rw [h10, hbs]; simp [hb]))
    refine ⟨_, ?_, c1, c2⟩
    rw [h4] at hu
    rw [hu]; exact hrun

theorem done_store_ep (hH : RelH F H E) (hρ : RhoOk H E ρ ev) {o : Oper} {t : TypeId} {y z : Operand} (ho : o.op = .store t y z) {k i j : Nat} (hy : ρ y = some (.v (.one (.ep k i j)))) {x : V} (hz : ρ z = some (.v x)) {H' : Heap} {cs' : List Cell}
    (hsh : H.share x.cells = some (H', cs')) {r : Row} (hk : H'.rows k = some r) {e : List Cell} (he : r.es[i]? = some e)
    {ag : Bool} (hs : shape P t = some (ag, x.cells.length)) (hl : j + cs'.length ≤ e.length) (hq : Q none { H' with rows := upd H'.rows k (some { r with es := r.es.set i (splice e j cs') }) }) : Done P F H E (execOp ev o) Q := by
  have hv0 := (hρ y _ hy).1
  obtain ⟨hx, hn⟩ := hρ z _ hz
  obtain ⟨vs, hrx, hvs⟩ := RV.cells hx
  obtain ⟨E1, a1, a2, a3, a4, a5, a6⟩ := share_ok hH hsh hrx hn
  have hv : RC E1 (.ep k i j) (ev y) := RC.sub a3 (fun c hc => (hρ y _ hy).2 c (by simpa [Slot.names, V.names, V.cells, cnames] using hc)) hv0
  have hlen : cs'.length = x.cells.length := by rw [← a4.length, hrx.length]
  obtain ⟨E2, b0, b1, b2⟩ := store_row (P := P) a2 hk he hv (RXCs.of a5.2.2 a4) ⟨a5.1, a5.2.1⟩ List.nodup_nil (fun b hb => by cases hb) (by rw [hlen]; exact hs) hl hvs
  refine ⟨.skip, E2, none, _, ?_, hq, b1, a3.trans (sub_used a6 b2), fun c hc => by have := a6 c; rw [hc] at this; exact this.symm, rfl⟩
  rw [← a1]
  simp [execOp, ho, b0]
end
end Go.MG
