/- More steps: shared for good everywhere; slices of slices; least and greatest; regions in any order. -/
import Derived.Test.YtbjbagemlclgcaaMgY
import Derived.Orders
namespace Go.MG
set_option linter.unusedSimpArgs false
set_option linter.unusedVariables false
set_option linter.unnecessarySimpa false

/-- The cell, once row q is shared for good. -/
def shC (q : Nat) (es : List (List Cell)) : Cell → Cell
  | .own k => if k = q then .sl true es else .own k
  | .sub k lo n => if k = q then .sl true ((es.drop lo).take n) else .sub k lo n
  | c => c
def shV (q : Nat) (es : List (List Cell)) : V → V
  | .one c => .one (shC q es c)
  | .agg cs => .agg (cs.map (shC q es))
def shS (q : Nat) (es : List (List Cell)) : Slot → Slot
  | .v x => .v (shV q es x)
  | .tup xs => .tup (xs.map (shV q es))
def shSl (q : Nat) (es : List (List Cell)) (sl : Nat → Option Slot) : Nat → Option Slot := fun t => (sl t).map (shS q es)
def Heap.shRow (H : Heap) (q : Nat) (es : List (List Cell)) : Heap := { rows := upd H.rows q none, boxes := fun k => (H.boxes k).map (List.map (shC q es)), base := H.base, made := H.made, lens := H.lens, hv := H.hv }

section
variable {F : Fix}
theorem Le.shareAll {sl : Nat → Option Slot} {H : Heap} {r : Row} (q : Nat) (hq : H.rows q = some r) : Le F ⟨sl, H⟩ ⟨shSl q r.es sl, H.shRow q r.es⟩ := by
  rintro a w ⟨E, rfl, hH, hS, hP⟩
  have hH : RelH F H E := hH
  obtain ⟨h1, h2, hd, h3, h4, h5⟩ := hH.rows q r hq
  obtain ⟨E', e1, e2, e3, e4, e5⟩ : ∃ E', E'.w = E.w ∧ RelH F { H with rows := upd H.rows q none } E' ∧ Sub E E' (fun k => H.used k = true) ∧ E'.blk = E.blk ∧
      ((hd = .slice none 0 0 ∧ r.es = []) ∨ ∃ g cap, hd = .slice (some ⟨g, 0, none⟩) r.es.length cap ∧ r.es.length ≤ cap ∧ E'.S true g ∧ RRow (E'.cap true) g 0 r.sz r.es) := by
    obtain ⟨d1, d2⟩ := hH.dropRow q
    rcases h5 with ⟨h6, h7, h10⟩ | ⟨g, cap, bs', h6, h7, h8, h9, h10⟩
    · exact ⟨E.gone q, rfl, d1, d2, rfl, .inl ⟨h6, h7⟩⟩
    · have hf := fun b hb => hH.dropped (k := q) (g := b) hq hb
      obtain ⟨s1, s2⟩ := d1.share (bs := E.ob q) (fun b hb => ⟨(hf b hb).2.1, (hf b hb).2.2.1, (hf b hb).2.2.2⟩)
      refine ⟨{ E.gone q with S := fun c b => E.S c b ∨ b ∈ E.ob q }, rfl, s1, d2.trans s2, rfl, .inr ⟨g, cap, h6, h7, .inr (by rw [h10]; simp), ?_⟩⟩
      exact RXRow.view (E' := Env.cap { E.gone q with S := fun c b => E.S c b ∨ b ∈ E.ob q } true) ⟨fun b hb => Or.inl hb, fun _ _ => rfl, fun _ h => h.elim, fun _ h => h.elim, fun _ h => h.elim⟩ rfl
        (fun b hb => ⟨rfl, Or.inr (by rw [h10]; simp [hb])⟩) h2.1 h2.2 h9
  have conv : ∀ (c : Cell) (u : Value), (∀ k ∈ c.names, H.used k = true) → RC E c u → RC E' (shC q r.es c) u := by
    intro c u hn hc
    cases c with
    | own k =>
      simp only [shC]
      split
      · rename_i e; subst e
        simp only [RC] at hc ⊢
        have hu := hc.2 hd h3
        rcases e5 with ⟨h6, h7⟩ | ⟨g, cap, h6, h7, h8, h9⟩
        · exact ⟨h2, none, 0, by rw [hu, h6, h7]; rfl, by simp [h7], .inl h7⟩
        · exact ⟨h2, _, cap, by rw [hu, h6], h7, .inr ⟨g, 0, r.sz, rfl, h8, h9⟩⟩
      · exact RC.sub e3 hn hc
    | sub k lo n =>
      simp only [shC]
      split
      · rename_i e; subst e
        simp only [RC] at hc ⊢
        rcases hc.2 hd h3 with ⟨h6, rfl, rfl, hu⟩ | ⟨g, len, cap, a, h6, h7, h8, h9, _⟩
        · exact ⟨h2.part _ _, none, 0, by rw [hu, h6]; simp, by simp, .inl (by simp)⟩
        · rcases e5 with ⟨h10, _⟩ | ⟨g', cap', h10, h11, h12, h13⟩
          · rw [h10] at h6; cases h6
          · rw [h10] at h6; cases h6
            have hlen : ((r.es.drop lo).take n).length = n := by simp; omega
            refine ⟨h2.part _ _, some a, cap - lo, by rw [h8, hlen], by rw [hlen]; omega, ?_⟩
            rcases h9 with h9 | h9
            · exact .inl (by simp [h9])
            · exact .inr ⟨g, lo * r.sz, r.sz, by rw [h9, h4], h12, by have := (h13.drop lo).take n; simpa using this⟩
      · exact RC.sub e3 hn hc
    | _ => exact RC.sub e3 hn hc
  have nm : ∀ (c : Cell) (k : Nat), k ∈ (shC q r.es c).names → k ∈ c.names := by
    intro c k hk
    cases c <;> simp only [shC] at hk <;> first | exact hk | (split at hk <;> first | exact hk | (simp [Cell.names] at hk))
  have convs : ∀ (cs : List Cell) (us : List Value), (∀ k ∈ cnames cs, H.used k = true) → RCs E cs us → RCs E' (cs.map (shC q r.es)) us := by
    intro cs
    induction cs with
    | nil => intro us _ h; exact h
    | cons c cs ih =>
      intro us hn h
      simp only [cnames, List.mem_append] at hn
      obtain ⟨u, us', rfl, h1, h2⟩ := h
      exact ⟨u, us', rfl, conv c u (fun k hk => hn k (.inl hk)) h1, ih us' (fun k hk => hn k (.inr hk)) h2⟩
  have nms : ∀ (cs : List Cell) (k : Nat), k ∈ cnames (cs.map (shC q r.es)) → k ∈ cnames cs := by
    intro cs k hk
    obtain ⟨c, hc, hk⟩ := mem_cnames.1 hk
    obtain ⟨c', hc', rfl⟩ := List.mem_map.1 hc
    exact mem_cnames.2 ⟨c', hc', nm _ _ hk⟩
  have convV : ∀ (x : V) (u : Value), (∀ k ∈ x.names, H.used k = true) → RV E x u → RV E' (shV q r.es x) u := by
    intro x u hn h
    cases x with
    | one c => exact conv c u (fun k hk => hn k (by simpa [V.names, V.cells, cnames] using hk)) h
    | agg cs => obtain ⟨us, hu, h⟩ := h; exact ⟨us, hu, convs cs us hn h⟩
  have nmV : ∀ (x : V) (k : Nat), k ∈ (shV q r.es x).names → k ∈ x.names := by
    intro x k hk
    cases x with
    | one c => simp only [shV, V.names, V.cells, cnames, List.append_nil] at hk ⊢; exact nm _ _ hk
    | agg cs => exact nms _ _ hk
  have convVs : ∀ (xs : List V) (us : List Value), (∀ k ∈ xs.flatMap V.names, H.used k = true) → RVs E xs us → RVs E' (xs.map (shV q r.es)) us := by
    intro xs
    induction xs with
    | nil => intro us _ h; exact h
    | cons x xs ih =>
      intro us hn h
      simp only [List.flatMap_cons, List.mem_append] at hn
      obtain ⟨u, us', rfl, h1, h2⟩ := h
      exact ⟨u, us', rfl, convV x u (fun k hk => hn k (.inl hk)) h1, ih us' (fun k hk => hn k (.inr hk)) h2⟩
  have convS : ∀ (s : Slot) (u : Value), (∀ k ∈ s.names, H.used k = true) → RSlot E s u → RSlot E' (shS q r.es s) u := by
    intro s u hn h
    cases s with
    | v x => exact convV x u hn h
    | tup xs =>
      obtain ⟨us, hu, h⟩ := h
      exact ⟨us, hu, convVs xs us hn h⟩
  have nmS : ∀ (s : Slot) (k : Nat), k ∈ (shS q r.es s).names → k ∈ s.names := by
    intro s k hk
    cases s with
    | v x => exact nmV x k hk
    | tup xs =>
      simp only [shS, Slot.names, List.mem_flatMap, List.mem_map] at hk ⊢
      obtain ⟨_, ⟨x, hx, rfl⟩, hk⟩ := hk
      exact ⟨x, hx, nmV x k hk⟩
  refine ⟨E', e1, ⟨e2.rows, fun k cs' hk => ?_, e2.hdr0, fun k hk => ?_, e2.both, e2.uniq, e2.own, e2.S, e2.SS, e2.Ssub, e2.Ssup, e2.pt, e2.fr, e2.usedR, fun k cs' hk => ?_, e2.nodup, e2.lens, e2.hv⟩, ⟨hS.size, hS.defers, fun t s' hs => ?_, fun t s' hs k hk => ?_⟩, hP.sub e3 fun _ h => h⟩
  · obtain ⟨cs, hc, rfl⟩ := Option.map_eq_some_iff.1 hk
    obtain ⟨g, us, b1, b2, b3, b4⟩ := hH.boxes k cs hc
    refine ⟨g, us, by rw [e4]; exact b1, convs cs us (hH.usedB k cs hc).2 b2, by rw [e1]; exact b3, by rw [e1, List.length_map]; exact b4⟩
  · have hk' : H.boxes k = none := by
      cases h : H.boxes k with
      | none => rfl
      | some cs => have hk : (H.boxes k).map (List.map (shC q r.es)) = none := hk; rw [h] at hk; cases hk
    exact e2.blk0 k hk'
  · obtain ⟨cs, hc, rfl⟩ := Option.map_eq_some_iff.1 hk
    have := hH.usedB k cs hc
    exact ⟨this.1, fun j hj => this.2 j (nms _ _ hj)⟩
  · obtain ⟨s, hs0, rfl⟩ := Option.map_eq_some_iff.1 hs
    exact convS s _ (hS.used t s hs0) (hS.slots t s hs0)
  · obtain ⟨s, hs0, rfl⟩ := Option.map_eq_some_iff.1 hs
    exact hS.used t s hs0 k (nmS _ _ hk)

/-- A cell of a variable is told in another way. -/
theorem Le.reBox {sl : Nat → Option Slot} {H : Heap} {cs cs' : List Cell} (k : Nat) (hb : H.boxes k = some cs) (hl : cs'.length = cs.length) (hr : ∀ E : Env, RelH F H E → ∀ us, RCs E cs us → RCs E cs' us) (hn : ∀ j ∈ cnames cs', j ∈ cnames cs) : Le F ⟨sl, H⟩ ⟨sl, H.setBox k cs'⟩ := by
  rintro a w ⟨E, rfl, hH, hS, hP⟩
  have hH : RelH F H E := hH
  refine ⟨E, rfl, ⟨hH.rows, fun j ds hj => ?_, hH.hdr0, fun j hj => ?_, hH.both, hH.uniq, hH.own, hH.S, hH.SS, hH.Ssub, hH.Ssup, hH.pt, hH.fr, hH.usedR, fun j ds hj => ?_, hH.nodup, hH.lens, hH.hv⟩, ⟨hS.size, hS.defers, hS.slots, hS.used⟩, hP⟩
  · by_cases e : j = k
    · subst e
      have hj : upd H.boxes j (some cs') j = some ds := hj
      rw [upd_same] at hj; cases hj
      obtain ⟨g, us, b1, b2, b3, b4⟩ := hH.boxes j cs hb
      exact ⟨g, us, b1, hr E hH us b2, b3, by rw [hl]; exact b4⟩
    · have hj : upd H.boxes k (some cs') j = some ds := hj
      rw [upd_other _ _ e] at hj
      exact hH.boxes j ds hj
  · by_cases e : j = k
    · subst e
      have hj : upd H.boxes j (some cs') j = none := hj
      rw [upd_same] at hj; cases hj
    · have hj : upd H.boxes k (some cs') j = none := hj
      rw [upd_other _ _ e] at hj
      exact hH.blk0 j hj
  · by_cases e : j = k
    · subst e
      have hj : upd H.boxes j (some cs') j = some ds := hj
      rw [upd_same] at hj; cases hj
      have := hH.usedB j cs hb
      exact ⟨this.1, fun i hi => this.2 i (hn i hi)⟩
    · have hj : upd H.boxes k (some cs') j = some ds := hj
      rw [upd_other _ _ e] at hj
      exact hH.usedB j ds hj

theorem RC.nil_sl {E : Env} {g : Bool} {u : Value} (h : RC E .nil u) : RC E (.sl g []) u := by
  simp only [RC] at h ⊢
  exact ⟨Flat.nil, none, 0, h, by simp, .inl trivial⟩
theorem RC.lend {E : Env} (hs : ∀ b, E.S true b → E.S false b) {g : Bool} {es : List (List Cell)} {u : Value} (h : RC E (.sl true es) u) : RC E (.sl g es) u := by
  cases g with
  | true => exact h
  | false =>
    simp only [RC] at h ⊢
    obtain ⟨hf, a, cap, hu, hc, h⟩ := h
    exact ⟨hf, a, cap, hu, hc, h.imp id fun ⟨b, o, sz, h1, h2, h3⟩ => ⟨b, o, sz, h1, hs b h2, h3.sub (E := E.cap true) (E' := E.cap false) (N := fun _ => False) ⟨fun c b h => by cases c <;> first | exact h | exact hs b h, fun _ _ _ => rfl, fun _ _ => rfl, fun _ _ _ h => h, fun _ _ _ _ => rfl⟩ rfl (fun k hk => by rw [hf.2] at hk; cases hk)⟩⟩

theorem RCs.setOne {E : Env} {cs : List Cell} {us : List Value} {p : Nat} {c c' : Cell} (h : RCs E cs us) (hp : cs[p]? = some c) (hc : ∀ u, RC E c u → RC E c' u) : RCs E (cs.set p c') us := by
  obtain ⟨v, hv, hr⟩ := h.get p c hp
  have := RCs.set p h (hc v hr)
  obtain ⟨h1, h2⟩ := List.getElem?_eq_some_iff.1 hv
  rw [← h2, List.set_getElem_self] at this
  exact this
theorem cnames_setOne {cs : List Cell} {p k : Nat} {c' : Cell} (h0 : c'.names = []) (h : k ∈ cnames (cs.set p c')) : k ∈ cnames cs := by
  obtain ⟨d, hd, hk⟩ := mem_cnames.1 h
  rcases List.mem_or_eq_of_mem_set hd with h1 | h1
  · exact mem_cnames.2 ⟨d, h1, hk⟩
  · subst h1; rw [h0] at hk; cases hk

theorem Le.emptyB {sl : Nat → Option Slot} {H : Heap} {cs : List Cell} (k p : Nat) (g : Bool) (hb : H.boxes k = some cs) (hp : cs[p]? = some .nil) : Le F ⟨sl, H⟩ ⟨sl, H.setBox k (cs.set p (.sl g []))⟩ :=
  Le.reBox k hb (by simp) (fun E _ us h => h.setOne hp fun u hu => hu.nil_sl) (fun j hj => cnames_setOne (by rfl) hj)
theorem Le.lendB {sl : Nat → Option Slot} {H : Heap} {cs : List Cell} {es : List (List Cell)} (k p : Nat) (g : Bool) (hb : H.boxes k = some cs) (hp : cs[p]? = some (.sl true es)) : Le F ⟨sl, H⟩ ⟨sl, H.setBox k (cs.set p (.sl g es))⟩ :=
  Le.reBox k hb (by simp) (fun E hE us h => h.setOne hp fun u hu => hu.lend hE.SS) (fun j hj => cnames_setOne (by rfl) hj)

/-- A cell of a slot is told in another way. -/
theorem Le.reSlot {sl : Nat → Option Slot} {H : Heap} {s : Slot} {c c' : Cell} (t p : Nat) (hs : sl t = some s) (hp : s.cs[p]? = some c) (hr : ∀ E : Env, RelH F H E → ∀ u, RC E c u → RC E c' u) (hn : c'.names = []) : Le F ⟨sl, H⟩ ⟨upd sl t (some (s.setC p c')), H⟩ := by
  rintro a w ⟨E, rfl, hH, hS, hP⟩
  refine ⟨E, rfl, hH, ⟨hS.size, hS.defers, fun t' s' (h : upd sl t (some (s.setC p c')) t' = some s') => ?_, fun t' s' (h : upd sl t (some (s.setC p c')) t' = some s') k hk => ?_⟩, hP⟩
  · by_cases e : t' = t
    · subst e
      rw [upd_same] at h; cases h
      exact RSlot.setC (hS.slots t' s hs) hp fun v hv => hr E hH v hv
    · rw [upd_other _ _ e] at h
      exact hS.slots t' s' h
  · by_cases e : t' = t
    · subst e
      rw [upd_same] at h; cases h
      rcases setC_names hk with h | h
      · exact hS.used t' s hs k h
      · rw [hn] at h; cases h
    · rw [upd_other _ _ e] at h
      exact hS.used t' s' h k hk
theorem Le.emptyS {sl : Nat → Option Slot} {H : Heap} {s : Slot} (t p : Nat) (g : Bool) (hs : sl t = some s) (hp : s.cs[p]? = some .nil) : Le F ⟨sl, H⟩ ⟨upd sl t (some (s.setC p (.sl g []))), H⟩ :=
  Le.reSlot t p hs hp (fun E _ u hu => hu.nil_sl) rfl
theorem Le.lendS {sl : Nat → Option Slot} {H : Heap} {s : Slot} {es : List (List Cell)} (t p : Nat) (g : Bool) (hs : sl t = some s) (hp : s.cs[p]? = some (.sl true es)) : Le F ⟨sl, H⟩ ⟨upd sl t (some (s.setC p (.sl g es))), H⟩ :=
  Le.reSlot t p hs hp (fun E hE u hu => hu.lend hE.SS) rfl

theorem Le.badB {sl : Nat → Option Slot} {H : Heap} {cs : List Cell} {c : Cell} (k p : Nat) (hb : H.boxes k = some cs) (hp : cs[p]? = some c) : Le F ⟨sl, H⟩ ⟨sl, H.setBox k (cs.set p .bad)⟩ :=
  Le.reBox k hb (by simp) (fun E _ us h => h.setOne hp fun u hu => by simp only [RC]; exact hu.one) (fun j hj => cnames_setOne (by rfl) hj)
/-- An empty slice in a variable becomes one's own. -/
theorem Le.ownB {sl : Nat → Option Slot} {H : Heap} {cs : List Cell} (k p q sz : Nat) (hb : H.boxes k = some cs) (hp : cs[p]? = some .nil) (hq : H.used q = false) : Le F ⟨sl, H⟩ ⟨sl, (H.newRow q ⟨sz, []⟩).setBox k (cs.set p (.own q))⟩ := by
  rintro a w ⟨E, rfl, hH, hS, hP⟩
  have hH : RelH F H E := hH
  have hqk : k ≠ q := fun e => by
    have := (hH.usedB k cs hb).1
    subst e; rw [hq] at this; cases this
  obtain ⟨b1, b2⟩ := hH.addRow (r := ⟨sz, []⟩) (hd := .slice none 0 0) (bs := []) hq (by simp) Flat.nil (.inl ⟨rfl, rfl, rfl⟩) List.nodup_nil (fun g hg => by cases hg)
  have hu : ∀ j, H.used j = true → (H.newRow q ⟨sz, []⟩).used j = true := by
    intro j hj
    exact used_row j hj
  have b1' : RelH F (H.newRow q ⟨sz, []⟩) (E.rowAt q (.slice none 0 0) sz []) := b1
  refine ⟨E.rowAt q (.slice none 0 0) sz [], rfl, ⟨b1'.rows, fun j ds hj => ?_, b1'.hdr0, fun j hj => ?_, b1'.both, b1'.uniq, b1'.own, b1'.S, b1'.SS, b1'.Ssub, b1'.Ssup, b1'.pt, b1'.fr, b1'.usedR, fun j ds hj => ?_, b1'.nodup, b1'.lens, b1'.hv⟩, ⟨hS.size, hS.defers, fun t s hs => (hS.slots t s hs).sub b2 (hS.used t s hs), fun t s hs j hj => hu j (hS.used t s hs j hj)⟩, hP.sub b2 hu⟩
  · by_cases e : j = k
    · subst e
      have hj : upd H.boxes j (some (cs.set p (.own q))) j = some ds := hj
      rw [upd_same] at hj; cases hj
      obtain ⟨g, us, c1, c2, c3, c4⟩ := hH.boxes j cs hb
      refine ⟨g, us, c1, ?_, c3, by rw [List.length_set]; exact c4⟩
      refine (c2.sub b2 (hH.usedB j cs hb).2).setOne hp fun u hu => ?_
      simp only [RC, Env.rowAt, upd_same] at hu ⊢
      rw [hu]
      exact ⟨rfl, fun h hh => by cases hh; rfl⟩
    · have hj : upd H.boxes k (some (cs.set p (.own q))) j = some ds := hj
      rw [upd_other _ _ e] at hj
      exact b1'.boxes j ds hj
  · by_cases e : j = k
    · subst e
      have hj : upd H.boxes j (some (cs.set p (.own q))) j = none := hj
      rw [upd_same] at hj; cases hj
    · have hj : upd H.boxes k (some (cs.set p (.own q))) j = none := hj
      rw [upd_other _ _ e] at hj
      exact b1'.blk0 j hj
  · by_cases e : j = k
    · subst e
      have hj : upd H.boxes j (some (cs.set p (.own q))) j = some ds := hj
      rw [upd_same] at hj; cases hj
      have := hH.usedB j cs hb
      refine ⟨hu j this.1, fun i hi => ?_⟩
      obtain ⟨d, hd, hk⟩ := mem_cnames.1 hi
      rcases List.mem_or_eq_of_mem_set hd with h1 | h1
      · exact hu i (this.2 i (mem_cnames.2 ⟨d, h1, hk⟩))
      · subst h1
        simp [Cell.names] at hk
        subst hk
        show Heap.used { H with rows := upd H.rows i (some ⟨sz, []⟩), made := upd H.made i true } i = true
        simp [Heap.used, upd_same]
    · have hj : upd H.boxes k (some (cs.set p (.own q))) j = some ds := hj
      rw [upd_other _ _ e] at hj
      exact b1'.usedB j ds hj
end

section
variable {P : Program} {F : Fix} {ops : Array Oper} {Q : St → Prop} {N : Nat}
variable {dst : Option Nat} {ty : TypeId} {pos : String} {aft : Array Edge} {grd : Option (Nat × Bool)} {rest : List Oper} {sl : Nat → Option Slot} {H : Heap}

/-- A part of a list, where its bounds are within. -/
def part? {α : Type} (l : List α) (a b : Int) : Option (List α) := if 0 ≤ a ∧ a ≤ b ∧ b ≤ l.length then some ((l.drop a.toNat).take (b.toNat - a.toNat)) else none

theorem L.cutR {α : Type} {xs ys : List α} {e : α → List Cell} {g : Bool} {t el : TypeId} {ti : TypeInfo} {x : Operand} {lo hi : Option Operand} {a b : Int} (ht : P.underlying t = some (.slice el)) (hti : P.info? el = some ti) (hn : F.n = N) (hg : guardOf ops sl ⟨dst, .slice t x lo hi none, ty, pos, aft, grd⟩ = some true) (hd : dstB N dst = true)
    (hx : opnd sl x = some (.v (.one (.sl g (xs.map e))))) (ha : bndS sl 0 lo = some a) (hb : bndS sl xs.length hi = some b) (hc : part? xs a b = some ys) (hl : ∀ y, (e y).length = ti.size)
    (k : WpL P F ops Q rest ⟨setD sl dst (some (.v (.one (.sl g (ys.map e))))), H⟩) : WpL P F ops Q (⟨dst, .slice t x lo hi none, ty, pos, aft, grd⟩ :: rest) ⟨sl, H⟩ := by
  unfold part? at hc
  split at hc
  · rename_i h
    obtain ⟨h1, h2, h3⟩ := h
    cases hc
    have bd : ∀ {d : Nat} {y : Option Operand} {n : Int}, 0 ≤ n → bndS sl d y = some n → bound (opnd sl) d y n.toNat := by
      intro d y n h0 h
      cases y with
      | none => simp only [bndS, Option.some.injEq] at h; simp only [bound]; omega
      | some y =>
        simp only [bndS] at h
        split at h
        · rename_i kd n' hy
          cases h
          exact ⟨_, kd, hy, by simp [Slot.val?, V.val?, Cell.val?]; omega⟩
        · cases h
    refine L.op hn hg hd fun _ _ hH hρ => done_slice hH hρ rfl ht hti hx (len := xs.length) (l := a.toNat) (h := b.toNat) (by simp [Heap.lenOf]) (bd h1 ha) (bd (by omega) hb) (c' := .sl g ((((xs.drop a.toNat).take (b.toNat - a.toNat))).map e)) ?_ ?_ k
    · have : a.toNat ≤ b.toNat ∧ b.toNat ≤ xs.length := by omega
      simp [Heap.cut, this, List.map_drop, List.map_take]
    · intro e' he'
      obtain ⟨y, _, rfl⟩ := List.mem_map.1 he'
      exact hl y
  · cases hc

theorem L.minI {x y : Operand} {t1 t2 : TypeId} {a b : Int} {kd : IntKind} (hn : F.n = N) (hg : guardOf ops sl ⟨dst, .call { callee := .builtin .min, args := #[x, y], argTypes := #[t1, t2] }, ty, pos, aft, grd⟩ = some true) (hd : dstB N dst = true)
    (hx : opnd sl x = some (im (.int kd a))) (hy : opnd sl y = some (im (.int kd b)))
    (k : WpL P F ops Q rest ⟨setD sl dst (some (im (.int kd (if b < a then b else a)))), H⟩) : WpL P F ops Q (⟨dst, .call { callee := .builtin .min, args := #[x, y], argTypes := #[t1, t2] }, ty, pos, aft, grd⟩ :: rest) ⟨sl, H⟩ := by
  refine L.val hn hg hd rfl (fun E ev hρ => ?_) k
  have h1 := im_ok hρ hx rfl
  have h2 := im_ok hρ hy rfl
  simp [execOp, resolve, invoke, builtin, run_min_int2, h1, h2]
theorem L.maxI {x y : Operand} {t1 t2 : TypeId} {a b : Int} {kd : IntKind} (hn : F.n = N) (hg : guardOf ops sl ⟨dst, .call { callee := .builtin .max, args := #[x, y], argTypes := #[t1, t2] }, ty, pos, aft, grd⟩ = some true) (hd : dstB N dst = true)
    (hx : opnd sl x = some (im (.int kd a))) (hy : opnd sl y = some (im (.int kd b)))
    (k : WpL P F ops Q rest ⟨setD sl dst (some (im (.int kd (if b > a then b else a)))), H⟩) : WpL P F ops Q (⟨dst, .call { callee := .builtin .max, args := #[x, y], argTypes := #[t1, t2] }, ty, pos, aft, grd⟩ :: rest) ⟨sl, H⟩ := by
  refine L.val hn hg hd rfl (fun E ev hρ => ?_) k
  have h1 := im_ok hρ hx rfl
  have h2 := im_ok hρ hy rfl
  simp [execOp, resolve, invoke, builtin, run_max_int2, h1, h2]

theorem L.makeFunc {f : FuncId} {caps : Array Operand} {cs : List Cell} (hn : F.n = N) (hg : guardOf ops sl ⟨dst, .makeFunc (.func f) #[] caps, ty, pos, aft, grd⟩ = some true) (hd : dstB N dst = true) (hc : capCells (opnd sl) caps.toList = some cs)
    (k : WpL P F ops Q rest ⟨setD sl dst (some (.v (.one (.clo f cs)))), H⟩) : WpL P F ops Q (⟨dst, .makeFunc (.func f) #[] caps, ty, pos, aft, grd⟩ :: rest) ⟨sl, H⟩ :=
  L.op hn hg hd fun _ _ hH hρ => done_makeFunc hH hρ rfl hc k
theorem L.buildF {t : TypeId} {parts : Array (Nat × Operand)} {vs : List (Nat × V)} {cs : List Cell} {fill : List (Nat × V) → Option (List Cell)} (hf : builtA P t = fill) (hn : F.n = N) (hg : guardOf ops sl ⟨dst, .build t parts, ty, pos, aft, grd⟩ = some true) (hd : dstB N dst = true) (hp : partsV (opnd sl) parts.toList = some vs) (hb : fill vs = some cs)
    (k : WpL P F ops Q rest ⟨setD sl dst (some (.v (.agg cs))), H⟩) : WpL P F ops Q (⟨dst, .build t parts, ty, pos, aft, grd⟩ :: rest) ⟨sl, H⟩ :=
  L.build hn hg hd hp (by rw [hf]; exact hb) k
end
end Go.MG
