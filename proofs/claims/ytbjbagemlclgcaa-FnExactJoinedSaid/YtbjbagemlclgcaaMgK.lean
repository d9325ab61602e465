/- Giving out: arguments, variables by address, results. -/
import Derived.Test.YtbjbagemlclgcaaMgJ
namespace Go.MG
set_option linter.unusedVariables false
set_option linter.unusedSimpArgs false
set_option linter.unnecessarySimpa false

abbrev Keep := Nat → Option Nat

/-- A captured cell, as a callee sees it. -/
def keepC (kp : Keep) : Cell → Option Cell
  | .ptr k j => (kp k).map fun i => .ptr i j
  | c => if c.names.isEmpty then some c else none
def keepCs (kp : Keep) : List Cell → Option (List Cell)
  | [] => some []
  | c :: cs => match keepC kp c, keepCs kp cs with
    | some c', some cs' => some (c' :: cs')
    | _, _ => none

def Heap.giveC (H : Heap) (kp : Keep) : Cell → Option (Heap × Cell)
  | .own k => (H.rows k).map fun r => ({ H with rows := upd H.rows k none }, .ow r.sz r.es)
  | .sub k lo n => if lo = 0 then (H.rows k).bind fun r => if n ≤ r.es.length then some ({ H with rows := upd H.rows k none }, .ow r.sz (r.es.take n)) else none else none
  | .ptr k j => match kp k with
    | some i => some (H, .ptr i j)
    | none => if j = 0 then (H.boxes k).bind fun cs => if (cnames cs).isEmpty then some ({ H with boxes := upd H.boxes k none }, .bx cs) else none else none
  | .clo f caps => (keepCs kp caps).map fun cs => (H, .clo f cs)
  | .ow .. | .bx .. => none
  | c => if c.names.isEmpty then some (H, c) else none

def Heap.viewC (H : Heap) (kp : Keep) (L : List Nat) : Cell → Option Cell
  | .own k => if L.contains k then (H.rows k).map fun r => .sl false r.es else none
  | .sub k lo n => if L.contains k then (H.rows k).map fun r => .sl false ((r.es.drop lo).take n) else none
  | .nil => some (.sl true [])
  | .ptr k j => (kp k).map fun i => .ptr i j
  | .clo f caps => (keepCs kp caps).map fun cs => .clo f cs
  | .ow .. | .bx .. => none
  | c => if c.names.isEmpty then some c else none

def Heap.passC (H : Heap) (kp : Keep) (L : List Nat) (mv : Bool) (c : Cell) : Option (Heap × Cell) :=
  if mv then H.giveC kp c else (H.viewC kp L c).map fun c' => (H, c')
def Heap.passCs (H : Heap) (kp : Keep) (L : List Nat) (mv : Bool) : List Cell → Option (Heap × List Cell)
  | [] => some (H, [])
  | c :: cs => match H.passC kp L mv c with
    | some (H1, c') => match H1.passCs kp L mv cs with
      | some (H2, cs') => some (H2, c' :: cs')
      | none => none
    | none => none
def Heap.passV (H : Heap) (kp : Keep) (L : List Nat) (mv : Bool) : V → Option (Heap × V)
  | .one c => (H.passC kp L mv c).map fun (H1, c') => (H1, .one c')
  | .agg cs => (H.passCs kp L mv cs).map fun (H1, cs') => (H1, .agg cs')
def Heap.passVs (H : Heap) (kp : Keep) (L : List Nat) : List (Bool × V) → Option (Heap × List V)
  | [] => some (H, [])
  | (mv, x) :: xs => match H.passV kp L mv x with
    | some (H1, x') => match H1.passVs kp L xs with
      | some (H2, xs') => some (H2, x' :: xs')
      | none => none
    | none => none

section
variable {F : Fix}

/-- An env of an interface, over the caller's. -/
structure Face (E Ei : Env) (kp : Keep) (L : List Nat) : Prop where
  w : Ei.w = E.w
  S : ∀ g b, E.S g b → Ei.S g b
  lent : ∀ k ∈ L, ∀ b, Own E k b → Ei.S false b
  pt : ∀ k i, kp k = some i → ∀ b, Ei.pt i = some b → E.pt k = some b

theorem Face.sub {E Ei : Env} {kp : Keep} {L : List Nat} (f : Face E Ei kp L) : Sub E Ei (fun _ => False) :=
  ⟨f.S, fun _ _ _ => by rw [f.w], fun _ h => h.elim, fun _ h => h.elim, fun _ h => h.elim⟩

theorem keepC_ok {E Ei : Env} {kp : Keep} {L : List Nat} (f : Face E Ei kp L) {c c' : Cell} {u : Value} (h : keepC kp c = some c') (hc : RC E c u) : RC Ei c' u := by
  have plain : ∀ {c : Cell}, RC E c u → (if c.names.isEmpty then some c else none) = some c' → RC Ei c' u := by
    intro c hc h
    split at h
    · rename_i he; cases h
      exact RC.sub f.sub (fun k hk => by simp at he; rw [he] at hk; cases hk) hc
    · cases h
  cases c with
  | ptr k j =>
    simp only [keepC, Option.map_eq_some_iff] at h
    obtain ⟨i, hi, rfl⟩ := h
    simp only [RC] at hc ⊢
    exact ⟨hc.1, fun b hb => hc.2 b (f.pt k i hi b hb)⟩
  | _ => exact plain hc h

theorem keepCs_ok {E Ei : Env} {kp : Keep} {L : List Nat} (f : Face E Ei kp L) : ∀ {cs cs' : List Cell} {us : List Value}, keepCs kp cs = some cs' → RCs E cs us → RCs Ei cs' us
  | [], cs', us, h, hc => by simp [keepCs] at h; subst h; simpa only [RCs] using hc
  | c :: cs, cs', us, h, hc => by
    unfold keepCs at h
    split at h
    · rename_i c1 cs1 h1 h2
      cases h
      simp only [RCs] at hc ⊢
      obtain ⟨u, us', rfl, h3, h4⟩ := hc
      exact ⟨u, us', rfl, keepC_ok f h1 h3, keepCs_ok f h2 h4⟩
    · cases h

/-- What the giving out of cells brings about. -/
structure Gave (F : Fix) (H : Heap) (E : Env) (H' : Heap) (E' : Env) (bs : List Nat) : Prop where
  w : E'.w = E.w
  S : E'.S = E.S
  rel : RelH F H' E'
  sub : Sub E E' (fun k => H.used k = true)
  used : ∀ j, H.used j = H'.used j
  own : ∀ j b, Own E' j b → Own E j b
  was : ∀ b ∈ bs, ∃ k, Own E k b
  gone : ∀ b ∈ bs, ∀ k, ¬ Own E' k b
  nodup : bs.Nodup
  pt : E'.pt = E.pt
  rows : ∀ k, H'.rows k ≠ none → H.rows k ≠ none
  ob : ∀ k, H'.rows k ≠ none → E'.ob k = E.ob k

theorem Gave.refl {H : Heap} {E : Env} (h : RelH F H E) : Gave F H E H E [] :=
  ⟨rfl, rfl, h, Sub.refl _ _, fun _ => rfl, fun _ _ h => h, (fun b hb => by cases hb), (fun b hb => by cases hb), List.nodup_nil, rfl, fun _ h => h, fun _ _ => rfl⟩

theorem Gave.trans {H H1 H2 : Heap} {E E1 E2 : Env} {bs bs' : List Nat} (h : Gave F H E H1 E1 bs) (h' : Gave F H1 E1 H2 E2 bs') : Gave F H E H2 E2 (bs ++ bs') := by
  refine ⟨h'.w.trans h.w, h'.S.trans h.S, h'.rel, h.sub.trans (sub_used h.used h'.sub), fun j => (h.used j).trans (h'.used j), fun j b hj => h.own j b (h'.own j b hj), fun b hb => ?_, fun b hb k hk => ?_, ?_, h'.pt.trans h.pt, fun k hk => h.rows k (h'.rows k hk), fun k hk => (h'.ob k hk).trans (h.ob k (h'.rows k hk))⟩
  · rcases List.mem_append.1 hb with hb | hb
    · exact h.was b hb
    · obtain ⟨k, hk⟩ := h'.was b hb; exact ⟨k, h.own k b hk⟩
  · rcases List.mem_append.1 hb with hb | hb
    · exact h.gone b hb k (h'.own k b hk)
    · exact h'.gone b hb k hk
  · refine List.nodup_append.2 ⟨h.nodup, h'.nodup, fun x hx y hy e => ?_⟩
    subst e
    obtain ⟨k, hk⟩ := h'.was x hy
    exact h.gone x hx k hk

theorem give_row' {H : Heap} {E : Env} {u : Value} (hH : RelH F H E) {k : Nat} {r : Row} (hr : H.rows k = some r) (n : Nat) (hn : n ≤ r.es.length)
    (hu : ∀ hd, E.hdr k = some hd → (hd = .slice none 0 0 ∧ u = hd) ∨ ∃ g len cap, hd = .slice (some ⟨g, 0, none⟩) len cap ∧ u = .slice (some ⟨g, 0, none⟩) n cap) :
    ∃ bs, Gave F H E { H with rows := upd H.rows k none } (E.gone k) bs ∧ ∀ Ei : Env, Ei.w = E.w → (∀ g b, E.S g b → Ei.S g b) → RXC Ei (.ow r.sz (r.es.take n)) u bs := by
  obtain ⟨h1, h2, hd, h3, h4, h5⟩ := hH.rows k r hr
  obtain ⟨d1, d2⟩ := hH.dropRow k
  have hlt : (r.es.take n).length = n := by simp; omega
  have hcon : ∀ e ∈ r.es.take n, e.length = r.sz := fun e he => h1 e (List.mem_of_mem_take he)
  have hnames : Flat (r.es.take n) := by have := h2.part 0 n; simpa using this
  have hrows : ∀ j, upd H.rows k none j ≠ none → H.rows j ≠ none := fun j hj => by
    by_cases e : j = k
    · subst e; rw [upd_same] at hj; exact absurd rfl hj
    · rwa [upd_other _ _ e] at hj
  have hob : ∀ j, upd H.rows k none j ≠ none → (E.gone k).ob j = E.ob j := fun j hj => by
    by_cases e : j = k
    · subst e; rw [upd_same] at hj; exact absurd rfl hj
    · exact upd_other _ _ e
  rcases h5 with ⟨h6, h7, h10⟩ | ⟨g, cap, bs0, h6, h7, h8, h9, h10⟩
  · refine ⟨[], ⟨rfl, rfl, d1, d2, fun _ => rfl, fun j b hj => hj.drop, (fun b hb => by cases hb), (fun b hb => by cases hb), List.nodup_nil, rfl, hrows, hob⟩, fun Ei fw fS => ?_⟩
    simp only [RXC]
    refine ⟨hcon, hnames, .inl ?_⟩
    rcases hu hd h3 with ⟨h8, h9⟩ | ⟨g, len, cap, h8, _⟩
    · exact ⟨by rw [h9, h8], by simp [h7], trivial⟩
    · rw [h6] at h8; cases h8
  · have hf := fun b hb => hH.dropped (k := k) (g := b) hr hb
    have hnd := hH.nodup k
    rw [h10] at hnd
    obtain ⟨b1, p1, p2⟩ := h9.take n
    have hin : ∀ b ∈ g :: b1, b ∈ E.ob k := fun b hb => by
      rw [h10]
      rcases List.mem_cons.1 hb with rfl | hb
      · simp
      · simp [p2.subset hb]
    refine ⟨g :: b1, ⟨rfl, rfl, d1, d2, fun _ => rfl, fun j b hj => hj.drop, fun b hb => ⟨k, .inl (hin b hb)⟩, fun b hb j hj => (hf b (hin b hb)).2.1 j hj, hnd.sublist (List.Sublist.cons_cons g p2), rfl, hrows, hob⟩, fun Ei fw fS => ?_⟩
    simp only [RXC]
    refine ⟨hcon, hnames, .inr ?_⟩
    rcases hu hd h3 with ⟨h8', _⟩ | ⟨g', len, cap', h8', h9'⟩
    · rw [h6] at h8'; cases h8'
    · rw [h6] at h8'; cases h8'
      exact ⟨g, cap, b1, by rw [h9', hlt], by rw [hlt]; omega, by rw [fw]; exact h8, RXRow.sub (N := fun _ => False) ⟨fS, fun _ _ _ => by rw [fw], fun _ h => h.elim, fun _ h => h.elim, fun _ h => h.elim⟩ (by rw [fw]) (fun _ _ => by rw [fw]) (fun k hk => by rw [hnames.2] at hk; cases hk) p1, rfl⟩

theorem give_row {H : Heap} {E : Env} {kp : Keep} {u : Value} (hH : RelH F H E) {k : Nat} {r : Row} (hr : H.rows k = some r) (n : Nat) (hn : n ≤ r.es.length)
    (hu : ∀ hd, E.hdr k = some hd → (hd = .slice none 0 0 ∧ u = hd) ∨ ∃ g len cap, hd = .slice (some ⟨g, 0, none⟩) len cap ∧ u = .slice (some ⟨g, 0, none⟩) n cap) :
    ∃ E' bs, Gave F H E { H with rows := upd H.rows k none } E' bs ∧ ∀ Ei L, Face E Ei kp L → RXC Ei (.ow r.sz (r.es.take n)) u bs := by
  obtain ⟨bs, h1, h2⟩ := give_row' hH hr n hn hu
  exact ⟨_, bs, h1, fun Ei L f => h2 Ei f.w f.S⟩

theorem give_one {H H' : Heap} {E : Env} {kp : Keep} {c c' : Cell} {u : Value} (hH : RelH F H E) (h : H.giveC kp c = some (H', c')) (hc : RC E c u) :
    ∃ E' bs, Gave F H E H' E' bs ∧ ∀ Ei L, Face E Ei kp L → RXC Ei c' u bs := by
  have plain : ∀ {c : Cell}, c.isOw = false → RC E c u → (if c.names.isEmpty then some (H, c) else none) = some (H', c') →
      ∃ E' bs, Gave F H E H' E' bs ∧ ∀ Ei L, Face E Ei kp L → RXC Ei c' u bs := by
    intro c ho hc h
    split at h
    · rename_i he; cases h
      refine ⟨E, [], Gave.refl hH, fun Ei L f => ?_⟩
      exact RXC.of (RC.sub f.sub (fun k hk => by simp at he; rw [he] at hk; cases hk) hc) ho
    · cases h
  have row := fun {k r} hr n hn hu => give_row (kp := kp) (u := u) hH (k := k) (r := r) hr n hn hu
  cases c with
  | own k =>
    simp only [Heap.giveC, Option.map_eq_some_iff] at h
    obtain ⟨r, hr, h⟩ := h
    cases h
    obtain ⟨_, _, hd, h3, _, h5⟩ := hH.rows k r hr
    simp only [RC] at hc
    have := row hr r.es.length (Nat.le_refl _) (fun hd' h' => by
      rw [h3] at h'; cases h'
      have hu := hc.2 hd h3
      rcases h5 with ⟨h6, _⟩ | ⟨g, cap, _, h6, _⟩
      · exact .inl ⟨h6, hu⟩
      · exact .inr ⟨g, _, cap, h6, by rw [hu, h6]⟩)
    simpa using this
  | sub k lo n =>
    simp only [Heap.giveC] at h
    split at h
    · rename_i hlo; subst hlo
      simp only [Option.bind_eq_some_iff] at h
      obtain ⟨r, hr, h⟩ := h
      split at h
      · rename_i hn; cases h
        obtain ⟨_, _, hd, h3, _, h5⟩ := hH.rows k r hr
        simp only [RC] at hc
        exact row hr n hn (fun hd' h' => by
          rw [h3] at h'; cases h'
          rcases hc.2 hd h3 with ⟨h6, _, h7, h8⟩ | ⟨g, len, cap, a, h6, h7, h8, h9, h10⟩
          · exact .inl ⟨h6, h8⟩
          · exact .inr ⟨g, len, cap, h6, by rw [h8, show a = ⟨g, 0, none⟩ by first | exact h10 | exact h10 rfl | exact h10 trivial]; simp⟩)
      · cases h
    · cases h
  | ptr k j =>
    simp only [Heap.giveC] at h
    split at h
    · rename_i i hi; cases h
      refine ⟨E, [], Gave.refl hH, fun Ei L f => RXC.of ?_ rfl⟩
      simp only [RC] at hc ⊢
      exact ⟨hc.1, fun b hb => hc.2 b (f.pt k i hi b hb)⟩
    · split at h
      · rename_i hj; subst hj
        simp only [Option.bind_eq_some_iff] at h
        obtain ⟨cs, hcs, h⟩ := h
        split at h
        · rename_i he; cases h
          obtain ⟨g, us, h1, h2, h3, h4⟩ := hH.boxes k cs hcs
          obtain ⟨d1, d2⟩ := hH.dropBox k
          simp only [RC] at hc
          refine ⟨{ E with blk := upd E.blk k none }, [g], ⟨rfl, rfl, d1, d2, fun _ => rfl, fun j b hj => hj.dropB, fun b hb => ?_, fun b hb j hj => ?_, by simp, rfl, fun _ h => h, fun _ _ => rfl⟩, fun Ei L f => by simp only [RXC]; exact ⟨by simpa using he, g, us, hc.2 g (hH.pt k g h1), h2.sub f.sub (by simp at he; simp [he]), by rw [f.w]; exact h3, by rw [f.w]; exact h4, rfl⟩⟩
          · simp at hb; subst hb; exact ⟨k, .inr h1⟩
          · simp at hb; subst hb
            have := hH.uniq j k _ hj.dropB (.inr h1)
            subst this
            rcases hj with hj | hj
            · have hrk : H.rows j = none := by
                rcases hH.both j with e1 | e1
                · exact e1
                · rw [h1] at e1; cases e1
              simp only at hj; rw [hH.hdr0 j hrk] at hj; cases hj
            · simp [upd_same] at hj
        · cases h
      · cases h
  | clo f caps =>
    simp only [Heap.giveC, Option.map_eq_some_iff] at h
    obtain ⟨cs, hcs, h⟩ := h
    cases h
    refine ⟨E, [], Gave.refl hH, fun Ei L fc => RXC.of ?_ rfl⟩
    simp only [RC] at hc ⊢
    obtain ⟨us, hu, hr⟩ := hc
    exact ⟨us, hu, keepCs_ok fc hcs hr⟩
  | ow sz es => cases h
  | bx cs => cases h
  | _ => exact plain rfl hc h

theorem view_one {H : Heap} {E : Env} {kp : Keep} {L : List Nat} {c c' : Cell} {u : Value} (hH : RelH F H E) (h : H.viewC kp L c = some c') (hc : RC E c u) : ∀ Ei, Face E Ei kp L → RXC Ei c' u [] := by
  intro Ei f
  have plain : ∀ {c : Cell}, c.isOw = false → RC E c u → (if c.names.isEmpty then some c else none) = some c' → RXC Ei c' u [] := by
    intro c ho hc h
    split at h
    · rename_i he; cases h
      exact RXC.of (RC.sub f.sub (fun k hk => by simp at he; rw [he] at hk; cases hk) hc) ho
    · cases h
  have row : ∀ {k : Nat} {r : Row} (lo n : Nat), L.contains k → H.rows k = some r → (∀ hd, E.hdr k = some hd → (hd = .slice none 0 0 ∧ n = 0 ∧ u = hd) ∨
      ∃ g len cap a, hd = .slice (some ⟨g, 0, none⟩) len cap ∧ lo + n ≤ len ∧ u = .slice (some a) n (cap - lo) ∧ (n = 0 ∨ a = ⟨g, lo * E.sz k, none⟩)) → RXC Ei (.sl false ((r.es.drop lo).take n)) u [] := by
    intro k r lo n hL hr hu
    have hL : k ∈ L := by simpa using hL
    obtain ⟨h1, h2, hd, h3, h4, h5⟩ := hH.rows k r hr
    refine RXC.of ?_ rfl
    simp only [RC]
    rcases hu hd h3 with ⟨h6, rfl, h7⟩ | ⟨g, len, cap, a, h6, h7, h8, h9⟩
    · exact ⟨h2.part _ _, none, 0, by rw [h7, h6]; simp, by simp, .inl (by simp)⟩
    · rcases h5 with ⟨h10, _⟩ | ⟨g', cap', bs0, h10, h11, h12, h13, h14⟩
      · rw [h10] at h6; cases h6
      · rw [h10] at h6; cases h6
        have hlen : ((r.es.drop lo).take n).length = n := by simp; omega
        refine ⟨h2.part _ _, some a, cap - lo, by rw [h8, hlen], by rw [hlen]; omega, ?_⟩
        rcases h9 with h9 | h9
        · exact .inl (by simp [h9])
        · right
          have hlk : ∀ b ∈ g :: bs0, Ei.S false b := fun b hb => f.lent k hL b (.inl (by rw [h14]; exact hb))
          have hv : RRow Ei g 0 r.sz r.es := RXRow.view ⟨f.S true, fun _ _ => by rw [f.w], fun _ h => h.elim, fun _ h => h.elim, fun _ h => h.elim⟩ (by rw [f.w]) (fun b hb => ⟨by rw [f.w], hlk b (by simp [hb])⟩) h2.1 h2.2 h13
          have hr' : RRow Ei g (0 + lo * r.sz) r.sz ((r.es.drop lo).take n) := (hv.drop lo).take n
          refine ⟨g, lo * r.sz, r.sz, by rw [h9, h4], hlk g (by simp), ?_⟩
          have hcap : Ei.cap false = Ei := by simp [Env.cap]
          rw [hcap]
          simpa using hr'
  cases c with
  | own k =>
    simp only [Heap.viewC] at h
    split at h
    · rename_i hL
      simp only [Option.map_eq_some_iff] at h
      obtain ⟨r, hr, rfl⟩ := h
      obtain ⟨_, _, hd, h3, _, h5⟩ := hH.rows k r hr
      simp only [RC] at hc
      have := row 0 r.es.length hL hr (fun hd' h' => by
        rw [h3] at h'; cases h'
        have hu := hc.2 hd h3
        rcases h5 with ⟨h6, h7, _⟩ | ⟨g, cap, _, h6, _⟩
        · exact .inl ⟨h6, by simp [h7], hu⟩
        · exact .inr ⟨g, _, cap, ⟨g, 0, none⟩, h6, by omega, by rw [hu, h6]; simp, .inr (by simp)⟩)
      simpa using this
    · cases h
  | sub k lo n =>
    simp only [Heap.viewC] at h
    split at h
    · rename_i hL
      simp only [Option.map_eq_some_iff] at h
      obtain ⟨r, hr, rfl⟩ := h
      simp only [RC] at hc
      exact row lo n hL hr (fun hd' h' => by
        rcases hc.2 hd' h' with ⟨h6, _, h7, h8⟩ | ⟨g, len, cap, a, h6, h7, h8, h9, _⟩
        · exact .inl ⟨h6, h7, h8⟩
        · exact .inr ⟨g, len, cap, a, h6, h7, h8, h9⟩)
    · cases h
  | nil =>
    simp [Heap.viewC] at h; subst h
    simp only [RC] at hc
    refine RXC.of ?_ rfl
    simp only [RC]
    exact ⟨Flat.nil, none, 0, by rw [hc]; rfl, by simp, .inl trivial⟩
  | ptr k j =>
    simp only [Heap.viewC, Option.map_eq_some_iff] at h
    obtain ⟨i, hi, rfl⟩ := h
    refine RXC.of ?_ rfl
    simp only [RC] at hc ⊢
    exact ⟨hc.1, fun b hb => hc.2 b (f.pt k i hi b hb)⟩
  | clo g caps =>
    simp only [Heap.viewC, Option.map_eq_some_iff] at h
    obtain ⟨cs, hcs, rfl⟩ := h
    refine RXC.of ?_ rfl
    simp only [RC] at hc ⊢
    obtain ⟨us, hu, hr⟩ := hc
    exact ⟨us, hu, keepCs_ok f hcs hr⟩
  | ow sz es => cases h
  | bx cs => cases h
  | _ => exact plain rfl hc h

theorem Face.gave {H H' : Heap} {E E' Ei : Env} {kp : Keep} {L : List Nat} {bs : List Nat} (f : Face E Ei kp L) (g : Gave F H E H' E' bs) : Face E' Ei kp L :=
  ⟨f.w.trans g.w.symm, fun x b h => f.S x b (by rw [← g.S]; exact h), fun k hk b h => f.lent k hk b (g.own k b h), fun k i hi b hb => by rw [g.pt]; exact f.pt k i hi b hb⟩

theorem pass_one {H H' : Heap} {E : Env} {kp : Keep} {L : List Nat} {mv : Bool} {c c' : Cell} {u : Value} (hH : RelH F H E) (h : H.passC kp L mv c = some (H', c')) (hc : RC E c u) :
    ∃ E' bs, Gave F H E H' E' bs ∧ ∀ Ei, Face E Ei kp L → RXC Ei c' u bs := by
  unfold Heap.passC at h
  split at h
  · obtain ⟨E', bs, h1, h3⟩ := give_one hH h hc
    exact ⟨E', bs, h1, fun Ei f => h3 Ei L f⟩
  · simp only [Option.map_eq_some_iff] at h
    obtain ⟨c1, hc1, h⟩ := h
    cases h
    exact ⟨E, [], Gave.refl hH, view_one hH hc1 hc⟩

theorem pass_cells {kp : Keep} {L : List Nat} {mv : Bool} : ∀ {cs cs' : List Cell} {H H' : Heap} {E : Env} {us : List Value} (_ : RelH F H E) (_ : H.passCs kp L mv cs = some (H', cs')) (_ : RCs E cs us) (_ : ∀ j ∈ cnames cs, H.used j = true),
    ∃ E' bs, Gave F H E H' E' bs ∧ ∀ Ei, Face E Ei kp L → RXCs Ei cs' us bs
  | [], cs', H, H', E, us, hH, h, hc, hn => by
    simp [Heap.passCs] at h
    obtain ⟨rfl, rfl⟩ := h
    simp only [RCs] at hc
    exact ⟨E, [], Gave.refl hH, fun Ei f => by simp only [RXCs]; exact ⟨hc, trivial⟩⟩
  | c :: cs, cs', H, H', E, us, hH, h, hc, hn => by
    simp only [RCs] at hc
    obtain ⟨u, us', rfl, h1, h2⟩ := hc
    simp only [cnames, List.mem_append] at hn
    unfold Heap.passCs at h
    split at h
    · rename_i H1 c1 hp1
      split at h
      · rename_i H2 cs2 hp2
        cases h
        obtain ⟨E1, b1, g1, g4⟩ := pass_one hH hp1 h1
        obtain ⟨E2, b2, k1, k4⟩ := pass_cells g1.rel hp2 (h2.sub g1.sub (fun j hj => hn j (.inr hj))) (fun j hj => by rw [← g1.used]; exact hn j (.inr hj))
        refine ⟨E2, b1 ++ b2, g1.trans k1, fun Ei f => by simp only [RXCs]; exact ⟨u, us', b1, b2, rfl, rfl, g4 Ei f, k4 Ei (f.gave g1)⟩⟩
      · cases h
    · cases h

theorem pass_V {kp : Keep} {L : List Nat} {mv : Bool} {x x' : V} {H H' : Heap} {E : Env} {u : Value} (hH : RelH F H E) (h : H.passV kp L mv x = some (H', x')) (hc : RV E x u) (hn : ∀ j ∈ x.names, H.used j = true) :
    ∃ E' bs, Gave F H E H' E' bs ∧ ∀ Ei, Face E Ei kp L → RXV Ei x' u bs := by
  cases x with
  | one c =>
    simp only [Heap.passV, Option.map_eq_some_iff] at h
    obtain ⟨⟨H1, c1⟩, h1, h⟩ := h
    cases h
    obtain ⟨E1, b1, g1, g4⟩ := pass_one hH h1 hc
    exact ⟨E1, b1, g1, g4⟩
  | agg cs =>
    simp only [Heap.passV, Option.map_eq_some_iff] at h
    obtain ⟨⟨H1, c1⟩, h1, h⟩ := h
    cases h
    obtain ⟨us, rfl, hr⟩ := hc
    obtain ⟨E1, b1, g1, g4⟩ := pass_cells hH h1 hr hn
    exact ⟨E1, b1, g1, fun Ei f => ⟨us, rfl, g4 Ei f⟩⟩

theorem pass_Vs {kp : Keep} {L : List Nat} : ∀ {xs : List (Bool × V)} {xs' : List V} {H H' : Heap} {E : Env} {us : List Value} (_ : RelH F H E) (_ : H.passVs kp L xs = some (H', xs')) (_ : RVs E (xs.map (·.2)) us) (_ : ∀ p ∈ xs, ∀ j ∈ p.2.names, H.used j = true),
    ∃ E' bs, Gave F H E H' E' bs ∧ ∀ Ei, Face E Ei kp L → RXVs Ei xs' us bs
  | [], xs', H, H', E, us, hH, h, hc, hn => by
    simp [Heap.passVs] at h
    obtain ⟨rfl, rfl⟩ := h
    exact ⟨E, [], Gave.refl hH, fun Ei f => ⟨hc, rfl⟩⟩
  | (mv, x) :: xs, xs', H, H', E, us, hH, h, hc, hn => by
    obtain ⟨u, us', rfl, h1, h2⟩ := hc
    unfold Heap.passVs at h
    split at h
    · rename_i H1 c1 hp1
      split at h
      · rename_i H2 cs2 hp2
        cases h
        obtain ⟨E1, b1, g1, g4⟩ := pass_V hH hp1 h1 (hn (mv, x) (by simp))
        have hn2 : ∀ k ∈ (xs.map (·.2)).flatMap V.names, H.used k = true := by
          intro k hk
          obtain ⟨v, hv, hk⟩ := List.mem_flatMap.1 hk
          obtain ⟨p, hp, rfl⟩ := List.mem_map.1 hv
          exact hn p (by simp [hp]) k hk
        obtain ⟨E2, b2, k1, k4⟩ := pass_Vs g1.rel hp2 (h2.sub g1.sub hn2) (fun p hp j hj => by rw [← g1.used]; exact hn p (by simp [hp]) j hj)
        refine ⟨E2, b1 ++ b2, g1.trans k1, fun Ei f => ⟨u, us', b1, b2, rfl, rfl, g4 Ei f, k4 Ei (f.gave g1)⟩⟩
      · cases h
    · cases h
end
end Go.MG
