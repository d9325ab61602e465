/- THE CALL, seen from the caller. -/
import Derived.Test.YtbjbagemlclgcaaMgL
namespace Go.MG
set_option linter.unusedVariables false
set_option linter.unusedSimpArgs false
set_option linter.unnecessarySimpa false

section
variable {P : Program} {F : Fix}

/-- A variable comes back under its old name. -/
theorem RelH.reBox {H : Heap} {E : Env} (h : RelH F H E) {k : Nat} {cs : List Cell} {us : List Value} {g : Nat} (hk : H.used k = true) (hr0 : H.rows k = none) (hr : RCs E cs us) (hn : ∀ j ∈ cnames cs, H.used j = true)
    (hat : E.w.rangeAt g 0 us) (hth : E.w.there g 0 cs.length) (hg : (∀ c, ¬ E.S c g) ∧ (∀ k, ¬ Own E k g) ∧ g < E.w.heap.size ∧ (F.w0.heap.size ≤ g ∨ F.T g)) (hp : E.pt k = some g) :
    RelH F { H with boxes := upd H.boxes k (some cs) } { E with blk := upd E.blk k (some g) } ∧ (∀ N, Sub E { E with blk := upd E.blk k (some g) } N) ∧ (∀ j b, Own { E with blk := upd E.blk k (some g) } j b → Own E j b ∨ b = g) := by
  have s : ∀ N, Sub E { E with blk := upd E.blk k (some g) } N := fun N => ⟨fun _ _ h => h, fun _ _ _ => rfl, fun _ _ => rfl, fun _ _ _ h => h, fun _ _ _ _ => rfl⟩
  have hown : ∀ j b, Own { E with blk := upd E.blk k (some g) } j b → (j ≠ k ∧ Own E j b) ∨ (j = k ∧ b = g) := by
    intro j b hj
    by_cases e : j = k
    · subst e
      rcases hj with hj | hj
      · simp only at hj; rw [h.hdr0 j hr0] at hj; cases hj
      · simp only [upd_same] at hj; exact .inr ⟨rfl, by simpa using hj.symm⟩
    · refine .inl ⟨e, ?_⟩
      rcases hj with hj | hj
      · exact .inl hj
      · exact .inr (by simpa only [upd_other _ _ e] using hj)
  refine ⟨⟨fun j q hq => ?_, fun j ds hc => ?_, h.hdr0, fun j hj => ?_, fun j => ?_, fun j j' b hj hj' => ?_, fun j b hj => ?_, h.S, h.SS, h.Ssub, h.Ssup, fun j v hv => ?_, h.fr, h.usedR, fun j ds hc => ?_, h.nodup, h.lens, h.hv⟩, s, fun j b hj => (hown j b hj).elim (fun h => .inl h.2) (fun h => .inr h.2)⟩
  · obtain ⟨h1, h2, hd', h3, h4, h5⟩ := h.rows j q hq
    exact ⟨h1, h2, hd', h3, h4, RowIn.chg (s fun _ => True) h2 (fun _ _ => rfl) h5⟩
  · by_cases e : j = k
    · subst e
      simp only [upd_same] at hc; cases hc
      exact ⟨g, us, by simp [upd_same], hr.sub (s fun _ => True) (fun _ _ => trivial), hat, hth⟩
    · simp only [upd_other _ _ e] at hc
      obtain ⟨g', us', h1, h2, h3, h4⟩ := h.boxes j ds hc
      exact ⟨g', us', by simpa only [upd_other _ _ e] using h1, h2.sub (s fun _ => True) (fun _ _ => trivial), h3, h4⟩
  · by_cases e : j = k
    · subst e; simp [upd_same] at hj
    · simp only [upd_other _ _ e] at hj ⊢; exact h.blk0 j hj
  · by_cases e : j = k
    · subst e; exact .inl hr0
    · simp only [upd_other _ _ e]; exact h.both j
  · rcases hown j b hj with ⟨e, o⟩ | ⟨e, o⟩ <;> rcases hown j' b hj' with ⟨e', o'⟩ | ⟨e', o'⟩
    · exact h.uniq j j' b o o'
    · subst o'; exact absurd o (hg.2.1 j)
    · subst o; exact absurd o' (hg.2.1 j')
    · rw [e, e']
  · rcases hown j b hj with ⟨e, o⟩ | ⟨e, o⟩
    · exact h.own j b o
    · subst o; exact ⟨hg.1, hg.2.2.1, hg.2.2.2⟩
  · by_cases e : j = k
    · subst e; simp only [upd_same] at hv; cases hv; exact hp
    · simp only [upd_other _ _ e] at hv; exact h.pt j v hv
  · by_cases e : j = k
    · subst e
      simp only [upd_same] at hc; cases hc
      exact ⟨hk, hn⟩
    · simp only [upd_other _ _ e] at hc
      exact h.usedB j ds hc

theorem internC_rows {H : Heap} {k j : Nat} {c : Cell} (h : j ≠ k) : (H.internC k c).1.rows j = H.rows j ∧ (H.internC k c).1.boxes j = H.boxes j := by
  cases c <;> simp [Heap.internC, upd_other _ _ h]
theorem internCs_rows : ∀ {cs : List Cell} {H : Heap} {k j : Nat}, (j < k ∨ k + cs.length ≤ j) → (H.internCs k cs).1.rows j = H.rows j ∧ (H.internCs k cs).1.boxes j = H.boxes j
  | [], H, k, j, _ => ⟨rfl, rfl⟩
  | c :: cs, H, k, j, h => by
    simp only [List.length_cons] at h
    have h1 := internC_rows (H := H) (c := c) (show j ≠ k by omega)
    have h2 := internCs_rows (cs := cs) (H := (H.internC k c).1) (k := k + 1) (j := j) (by omega)
    simp only [Heap.internCs]
    exact ⟨h2.1.trans h1.1, h2.2.trans h1.2⟩

def V.clean (x : V) : Bool := cclean x.cells
theorem RXV.clean {E E' : Env} {N : Nat → Prop} (s : SubT E E' N) {x : V} {u : Value} {bs : List Nat} (hm : ∀ b ∈ bs, E'.w.heap[b]? = E.w.heap[b]?) (hc : x.clean = true) (hn : ∀ k ∈ x.names, N k) (h : RXV E x u bs) : RXV E' x u bs := by
  cases x with
  | one c => exact RXC.clean s hm (by simpa [V.clean, V.cells, cclean] using hc) (fun k hk => hn k (by simpa [V.names, V.cells, cnames] using hk)) h
  | agg cs => obtain ⟨us, h1, h2⟩ := h; exact ⟨us, h1, RXCs.clean s hm hc hn h2⟩
theorem RXVs.clean {E E' : Env} {N : Nat → Prop} (s : SubT E E' N) : ∀ {xs : List V} {us : List Value} {bs : List Nat}, (∀ b ∈ bs, E'.w.heap[b]? = E.w.heap[b]?) → (∀ x ∈ xs, x.clean = true) → (∀ k ∈ xs.flatMap V.names, N k) → RXVs E xs us bs → RXVs E' xs us bs
  | [], _, _, _, _, _, h => h
  | x :: xs, _, _, hm, hc, hn, h => by
    obtain ⟨u, us', b, bs', rfl, rfl, h1, h2⟩ := h
    simp only [List.flatMap_cons, List.mem_append] at hn
    exact ⟨u, us', b, bs', rfl, rfl, h1.clean s (fun x hx => hm x (by simp [hx])) (hc x (by simp)) (fun k hk => hn k (.inl hk)), RXVs.clean s (fun x hx => hm x (by simp [hx])) (fun x hx => hc x (by simp [hx])) (fun k hk => hn k (.inr hk)) h2⟩

/-- The variables come back, with what they hold now. -/
theorem take_outs : ∀ {ks : List Nat} {css : List (List Cell)} {H : Heap} {E Eo : Env} {ob bs : List Nat} {k0 : Nat} (_ : RelH F H E) (_ : css.length = ks.length) (_ : ob.length = ks.length) (_ : RXOuts Eo css ob bs) (_ : Eo.w = E.w) (_ : SubT Eo E (fun _ => False))
    (_ : ∀ cs ∈ css, cclean cs = true ∧ cnames cs = []) (_ : ∀ j, k0 ≤ j → j < k0 + css.flatten.length → H.used j = false) (_ : ∀ k ∈ ks, H.used k = true ∧ H.rows k = none) (_ : ∀ (i k : Nat), ks[i]? = some k → E.pt k = ob[i]?)
    (_ : Free F E (bs ++ ob)) (_ : (bs ++ ob).Nodup),
    ∃ E', E'.w = E.w ∧ E'.S = E.S ∧ RelH F (H.takeOuts k0 ks css) E' ∧ Sub E E' (fun k => H.used k = true) ∧ (∀ j, H.used j = true → (H.takeOuts k0 ks css).used j = true) ∧ (∀ j b, Own E' j b → Own E j b ∨ b ∈ bs ++ ob)
  | [], css, H, E, Eo, ob, bs, k0, hH, hl, _, _, _, _, _, _, _, _, _, _ => by
    obtain rfl : css = [] := by simpa using hl
    exact ⟨E, rfl, rfl, hH, Sub.refl _ _, fun _ h => h, fun _ _ h => .inl h⟩
  | k :: ks, css, H, E, Eo, ob, bs, k0, hH, hl, hlo, h, hw, hs, hc, hk0, hks, hp, hf, hd => by
    cases css with
    | nil => simp at hl
    | cons cs css =>
      obtain ⟨g, ob', us, b, bs', rfl, rfl, h1, h2, h3, h4⟩ := h
      obtain ⟨hc1, hc2⟩ := hc cs (by simp)
      simp only [List.flatten_cons, List.length_append] at hk0
      have hfb : Free F E b := fun x hx => hf x (by simp [hx])
      have hnd : b.Nodup := by
        have := hd; simp only [List.append_assoc] at this; exact (List.nodup_append.1 this).1
      have hX : RXCs E cs us b := RXCs.clean hs (fun x hx => by rw [hw]) hc1 (fun k hk => by rw [hc2] at hk; cases hk) h1
      cases hi : H.internCs k0 cs with
      | mk H1 cs1 =>
        obtain ⟨E1, T1, a2, a3, a4⟩ := intern_cells hH (fun j hj hj' => hk0 j hj (by omega)) hX (by simp [hc2]) hfb hnd hi
        have hd' : (b ++ (bs' ++ (g :: ob'))).Nodup := by simpa [List.append_assoc] using hd
        obtain ⟨hn1, hn2, hn3⟩ := List.nodup_append.1 hd'
        have hf1 : Free F E1 (bs' ++ (g :: ob')) := T1.free (fun x hx hxb => hn3 x hxb x hx rfl) (fun x hx => hf x (by rw [List.append_assoc]; exact List.mem_append_right _ hx))
        have hku := hks k (by simp)
        have rows1 : ∀ j, H.used j = true → H1.rows j = H.rows j := fun j hj => by
          have := internCs_rows (cs := cs) (H := H) (k := k0) (j := j) (by
            rcases Nat.lt_or_ge j k0 with h | h
            · exact .inl h
            · right
              refine Classical.byContradiction fun hh => ?_
              have := hk0 j h (by omega)
              rw [hj] at this; cases this)
          rw [hi] at this; exact this.1
        have hpt1 : E1.pt k = some g := by
          rw [T1.pt k hku.1]; have := hp 0 k (by simp); simpa using this
        obtain ⟨r1, r2, r3⟩ := T1.rel.reBox (k := k) (T1.up k hku.1) (by rw [rows1 k hku.1]; exact hku.2) a2 a3 (by rw [T1.w, ← hw]; exact h2) (by rw [T1.w, ← hw, a4]; exact h3) (hf1 g (by simp)) hpt1
        obtain ⟨hg1, hg2, hg3⟩ := List.nodup_append.1 hn2
        have hf2 : Free F { E1 with blk := upd E1.blk k (some g) } (bs' ++ ob') := fun x hx => by
          have hx' : x ∈ bs' ++ (g :: ob') := by
            rcases List.mem_append.1 hx with h | h
            · exact List.mem_append_left _ h
            · exact List.mem_append_right _ (List.mem_cons_of_mem _ h)
          obtain ⟨f1, f2, f3, f4⟩ := hf1 x hx'
          refine ⟨f1, fun j hj => (r3 j x hj).elim (f2 j) (fun e => ?_), f3, f4⟩
          subst e
          rcases List.mem_append.1 hx with h | h
          · exact hg3 x h x (by simp) rfl
          · exact (List.nodup_cons.1 hg2).1 h
        have hd2 : (bs' ++ ob').Nodup := List.nodup_append.2 ⟨hg1, (List.nodup_cons.1 hg2).2, fun x hx y hy => hg3 x hx y (by simp [hy])⟩
        obtain ⟨E2, k1, k2, k3, k4, k5, k6⟩ := take_outs (ks := ks) (css := css) (k0 := k0 + cs.length) r1 (by simpa using hl) (by simpa using hlo) h4 (by rw [hw]; exact T1.w.symm)
          ⟨fun b hb => by have := hs.S b hb; simp only; rw [T1.S]; exact this, fun b hb => by have := hs.mem b hb; simp only; rw [T1.w]; exact this, fun _ h => h.elim, fun _ h => h.elim, fun _ h => h.elim⟩
          (fun cs hcs => hc cs (by simp [hcs])) (fun j hj hj' => by
            cases hu : H1.used j with
            | false => exact hu
            | true =>
              rcases T1.down j hu with h | h
              · have := hk0 j (by omega) (by omega); rw [h] at this; cases this
              · omega) (fun j hj => ⟨T1.up j (hks j (by simp [hj])).1, by
                show H1.rows j = none
                rw [rows1 j (hks j (by simp [hj])).1]; exact (hks j (by simp [hj])).2⟩)
          (fun i j hij => by
            have hj := hks j (by simp [List.mem_of_getElem? hij])
            show E1.pt j = _
            rw [T1.pt j hj.1]
            have := hp (i + 1) j (by simpa using hij)
            simpa using this) hf2 hd2
        have htake : H.takeOuts k0 (k :: ks) (cs :: css) = Heap.takeOuts { H1 with boxes := upd H1.boxes k (some cs1) } (k0 + cs.length) ks css := by
          simp only [Heap.takeOuts, hi]
        refine ⟨E2, k1.trans T1.w, k2.trans T1.S, by rw [htake]; exact k3, ?_, fun j hj => by rw [htake]; exact k5 j (T1.up j hj), fun j x hj => by
          rcases k6 j x hj with h | h
          · rcases r3 j x h with h | h
            · rcases T1.own j x h with h | h
              · exact .inl h
              · exact .inr (by simp [h])
            · exact .inr (by simp [h])
          · exact .inr (by
              rcases List.mem_append.1 h with h | h
              · simp [h]
              · simp [h])⟩
        have s1 := T1.sub.trans (r2 (fun k => H.used k = true))
        exact s1.trans ⟨k4.S, k4.mem, fun j hj => k4.hdrE j (T1.up j hj), fun j hj => k4.pt j (T1.up j hj), fun j hj => k4.sz j (T1.up j hj)⟩
/-! ### memory that comes back with the arguments -/
def Heap.backCs (H0 : Heap) (H : Heap) : List Cell → List Cell → Option Heap
  | [], [] => some H
  | .own k :: cs, .ow sz es :: ds => match H0.rows k, H.rows k, H.boxes k with
    | some r, none, none => if r.sz == sz then Heap.backCs H0 (H.addRow k ⟨sz, es⟩) cs ds else none
    | _, _, _ => none
  | _ :: _, .ow .. :: _ => none
  | _ :: _, .bx _ :: _ => none
  | _ :: cs, _ :: ds => Heap.backCs H0 H cs ds
  | _, _ => none
def Heap.backV (H0 : Heap) (H : Heap) : V → V → Option Heap
  | .one c, .one d => Heap.backCs H0 H [c] [d]
  | .agg cs, .agg ds => Heap.backCs H0 H cs ds
  | _, _ => none
def Heap.backVs (H0 : Heap) (H : Heap) : List V → List V → Option Heap
  | [], [] => some H
  | x :: xs, y :: ys => match Heap.backV H0 H x y with
    | some H1 => Heap.backVs H0 H1 xs ys
    | none => none
  | _, _ => none

/-- What the coming back of memory brings about. -/
structure Backed (F : Fix) (H : Heap) (E : Env) (H' : Heap) (E' : Env) (bs : List Nat) : Prop where
  w : E'.w = E.w
  S : E'.S = E.S
  rel : RelH F H' E'
  sub : ∀ N, Sub E E' N
  up : ∀ j, H.used j = true → H'.used j = true
  own : ∀ j b, Own E' j b → Own E j b ∨ b ∈ bs
theorem Backed.trans {H H1 H2 : Heap} {E E1 E2 : Env} {bs bs' : List Nat} (h : Backed F H E H1 E1 bs) (h' : Backed F H1 E1 H2 E2 bs') : Backed F H E H2 E2 (bs ++ bs') :=
  ⟨h'.w.trans h.w, h'.S.trans h.S, h'.rel, fun N => (h.sub N).trans (h'.sub N), fun j hj => h'.up j (h.up j hj), fun j b hj => by
    rcases h'.own j b hj with h1 | h1
    · rcases h.own j b h1 with h2 | h2
      · exact .inl h2
      · exact .inr (List.mem_append_left _ h2)
    · exact .inr (List.mem_append_right _ h1)⟩
theorem Backed.free {H H1 : Heap} {E E1 : Env} {bs bs' : List Nat} (h : Backed F H E H1 E1 bs) (hd : ∀ b ∈ bs', b ∉ bs) (hf : Free F E bs') : Free F E1 bs' := fun b hb => by
  obtain ⟨h1, h2, h3, h4⟩ := hf b hb
  exact ⟨fun c hc => h1 c (by rw [h.S] at hc; exact hc), fun j hj => (h.own j b hj).elim (h2 j) (hd b hb), by rw [h.w]; exact h3, h4⟩

theorem back_one {H0 H : Heap} {E0 E Eo : Env} {k sz : Nat} {es : List (List Cell)} {r : Row} {u : Value} {bs : List Nat} (h0 : RelH F H0 E0) (hH : RelH F H E) (hr : H0.rows k = some r) (h1 : H.rows k = none) (h2 : H.boxes k = none) (hsz : r.sz = sz)
    (hu : RC E0 (.own k) u) (hX : RXC Eo (.ow sz es) u bs) (hw : Eo.w = E.w) (hs : SubT Eo E (fun _ => False)) (hh : ∀ j, H0.used j = true → E.hdr j = E0.hdr j) (hz : ∀ j, H0.used j = true → ∀ v, E.hdr j = some v → E.sz j = E0.sz j) (hf : Free F E bs) (hnd : bs.Nodup) :
    ∃ E', Backed F H E (H.addRow k ⟨sz, es⟩) E' bs := by
  obtain ⟨_, _, hd, a3, a4, _⟩ := h0.rows k r hr
  simp only [RC] at hu
  have hu' := hu.2 hd a3
  subst hu'
  have hk := h0.usedR k (by rw [hr]; simp)
  have e1 : E.hdr k = some u := by rw [hh k hk]; exact a3
  have e2 : E.sz k = sz := by rw [hz k hk u e1, a4, hsz]
  simp only [RXC] at hX
  obtain ⟨b1, b2, b3⟩ := hX
  have key : RowIn E u ⟨sz, es⟩ bs := by
    rcases b3 with ⟨c1, c2, c3⟩ | ⟨g, cap, bs', c1, c2, c3, c4, c5⟩
    · exact .inl ⟨c1, c2, c3⟩
    · exact .inr ⟨g, cap, bs', c1, c2, by rw [← hw]; exact c3, RXRow.clean hs (by rw [hw]) (fun _ _ => by rw [hw]) b2.1 (fun k hk => by rw [b2.2] at hk; cases hk) c4, c5⟩
  have s := fun N => Sub.oldRow (E := E) (k := k) (hd := u) (sz := sz) (bs := bs) e1 e2 N
  refine ⟨E.rowAt k u sz bs, rfl, rfl, hH.putRow h1 h2 b1 b2 key hnd (fun g hg => hf g hg) (s _) (fun v hv => by have := (hH.hv k v hv).2; rw [e1] at this; cases this; rfl) (fun n hn => by obtain ⟨_, a, cap, h⟩ := hH.lens k n hn; rw [e1] at h; cases h; exact ⟨a, cap, rfl⟩), s, fun j hj => Heap.addRow_used j hj, fun j b hj => ?_⟩
  rcases hj with hj | hj
  · by_cases e : j = k
    · subst e; simp only [Env.rowAt, upd_same] at hj; exact .inr hj
    · exact .inl (.inl (by simpa only [Env.rowAt, upd_other _ _ e] using hj))
  · exact .inl (.inr hj)

theorem back_cells {H0 : Heap} {E0 Eo : Env} (h0 : RelH F H0 E0) : ∀ {cs ds : List Cell} {H H' : Heap} {E : Env} {us : List Value} {bs : List Nat} (_ : RelH F H E) (_ : Heap.backCs H0 H cs ds = some H') (_ : RCs E0 cs us) (_ : RXCs Eo ds us bs) (_ : Eo.w = E.w) (_ : SubT Eo E (fun _ => False)) (_ : cclean ds = true ∧ cnames ds = [])
    (_ : ∀ j, H0.used j = true → E.hdr j = E0.hdr j) (_ : ∀ j, H0.used j = true → ∀ v, E.hdr j = some v → E.sz j = E0.sz j) (_ : Free F E bs) (_ : bs.Nodup), ∃ E', Backed F H E H' E' bs
  | [], [], H, H', E, us, bs, hH, h, hc, hX, hw, hs, hcl, hh, hz, hf, hd => by
    simp only [Heap.backCs, Option.some.injEq] at h; subst h
    simp only [RXCs] at hX
    obtain ⟨_, rfl⟩ := hX
    exact ⟨E, rfl, rfl, hH, fun N => Sub.refl _ N, fun _ h => h, fun _ _ h => .inl h⟩
  | [], _ :: _, H, H', E, us, bs, hH, h, hc, hX, hw, hs, hcl, hh, hz, hf, hd => by simp [Heap.backCs] at h
  | _ :: _, [], H, H', E, us, bs, hH, h, hc, hX, hw, hs, hcl, hh, hz, hf, hd => by simp [Heap.backCs] at h
  | c :: cs, d :: ds, H, H', E, us, bs, hH, h, hc, hX, hw, hs, hcl, hh, hz, hf, hd => by
    simp only [RXCs] at hX
    obtain ⟨u, us', b, bs', rfl, rfl, x1, x2⟩ := hX
    simp only [RCs] at hc
    obtain ⟨u', us'', he, c1, c2⟩ := hc
    simp only [List.cons.injEq] at he
    obtain ⟨rfl, rfl⟩ := he
    simp only [cclean, Bool.and_eq_true, cnames, List.append_eq_nil_iff] at hcl
    obtain ⟨hd1, hd2, hd3⟩ := List.nodup_append.1 hd
    have plain : b = [] → Heap.backCs H0 H cs ds = some H' → ∃ E', Backed F H E H' E' (b ++ bs') := by
      intro hb h
      subst hb
      exact back_cells h0 hH h c2 x2 hw hs ⟨hcl.1.2, hcl.2.2⟩ hh hz hf hd2
    cases d with
    | ow sz es =>
      cases c with
      | own k =>
        simp only [Heap.backCs] at h
        split at h
        · rename_i r hr h1 h2
          split at h
          · rename_i hsz
            obtain ⟨E1, B1⟩ := back_one h0 hH hr h1 h2 (eq_of_beq hsz) c1 x1 hw hs hh hz (fun x hx => hf x (by simp [hx])) hd1
            obtain ⟨E2, B2⟩ := back_cells h0 B1.rel h c2 x2 (hw.trans B1.w.symm) ⟨fun b hb => by rw [B1.S]; exact hs.S b hb, fun b hb => by rw [B1.w]; exact hs.mem b hb, fun _ h => h.elim, fun _ h => h.elim, fun _ h => h.elim⟩ ⟨hcl.1.2, hcl.2.2⟩
              (fun j hj => by rw [(B1.sub (fun _ => True)).hdrE j trivial]; exact hh j hj) (fun j hj v hv => by
                have e := (B1.sub (fun _ => True)).hdrE j trivial
                rw [(B1.sub (fun _ => True)).sz j trivial v hv]
                exact hz j hj v (by rw [← e]; exact hv)) (B1.free (fun x hx hxb => hd3 x hxb x hx rfl) (fun x hx => hf x (by simp [hx]))) hd2
            exact ⟨E2, B1.trans B2⟩
          · cases h
        · cases h
      | _ => simp [Heap.backCs] at h
    | bx es => cases c <;> simp [Heap.backCs] at h
    | _ =>
      simp only [RXC] at x1
      cases c <;> exact plain x1.2 (by simpa only [Heap.backCs] using h)

theorem back_Vs {H0 : Heap} {E0 Eo : Env} (h0 : RelH F H0 E0) : ∀ {xs ys : List V} {H H' : Heap} {E : Env} {us : List Value} {bs : List Nat} (_ : RelH F H E) (_ : Heap.backVs H0 H xs ys = some H') (_ : RVs E0 xs us) (_ : RXVs Eo ys us bs) (_ : Eo.w = E.w) (_ : SubT Eo E (fun _ => False)) (_ : ∀ y ∈ ys, V.clean y = true ∧ y.names = [])
    (_ : ∀ j, H0.used j = true → E.hdr j = E0.hdr j) (_ : ∀ j, H0.used j = true → ∀ v, E.hdr j = some v → E.sz j = E0.sz j) (_ : Free F E bs) (_ : bs.Nodup), ∃ E', Backed F H E H' E' bs
  | [], [], H, H', E, us, bs, hH, h, hc, hX, hw, hs, hcl, hh, hz, hf, hd => by
    simp only [Heap.backVs, Option.some.injEq] at h; subst h
    obtain ⟨_, rfl⟩ := hX
    exact ⟨E, rfl, rfl, hH, fun N => Sub.refl _ N, fun _ h => h, fun _ _ h => .inl h⟩
  | [], _ :: _, H, H', E, us, bs, hH, h, hc, hX, hw, hs, hcl, hh, hz, hf, hd => by simp [Heap.backVs] at h
  | _ :: _, [], H, H', E, us, bs, hH, h, hc, hX, hw, hs, hcl, hh, hz, hf, hd => by simp [Heap.backVs] at h
  | x :: xs, y :: ys, H, H', E, us, bs, hH, h, hc, hX, hw, hs, hcl, hh, hz, hf, hd => by
    obtain ⟨u, us', b, bs', rfl, rfl, x1, x2⟩ := hX
    obtain ⟨u', us'', he, c1, c2⟩ := hc
    simp only [List.cons.injEq] at he
    obtain ⟨rfl, rfl⟩ := he
    obtain ⟨hd1, hd2, hd3⟩ := List.nodup_append.1 hd
    unfold Heap.backVs at h
    split at h
    · rename_i H1 h1
      have one : ∃ E', Backed F H E H1 E' b := by
        have hy := hcl y (by simp)
        have hf1 : Free F E b := fun x hx => hf x (by simp [hx])
        cases x with
        | one c => cases y with
          | one d =>
            exact back_cells h0 hH h1 (us := [u]) (by simp only [RCs]; exact ⟨u, [], rfl, c1, rfl⟩) (bs := b) (by simp only [RXCs]; exact ⟨u, [], b, [], rfl, by simp, x1, rfl, rfl⟩) hw hs hy hh hz hf1 hd1
          | agg ds => simp [Heap.backV] at h1
        | agg cs => cases y with
          | one d => simp [Heap.backV] at h1
          | agg ds =>
            obtain ⟨us1, rfl, c1⟩ := c1
            obtain ⟨us2, e, x1⟩ := x1
            have : us1 = us2 := by simpa using e
            subst this
            exact back_cells h0 hH h1 c1 x1 hw hs hy hh hz hf1 hd1
      obtain ⟨E1, B1⟩ := one
      obtain ⟨E2, B2⟩ := back_Vs h0 B1.rel h c2 x2 (hw.trans B1.w.symm) ⟨fun b hb => by rw [B1.S]; exact hs.S b hb, fun b hb => by rw [B1.w]; exact hs.mem b hb, fun _ h => h.elim, fun _ h => h.elim, fun _ h => h.elim⟩ (fun z hz => hcl z (by simp [hz]))
        (fun j hj => by rw [(B1.sub (fun _ => True)).hdrE j trivial]; exact hh j hj) (fun j hj v hv => by
          have e := (B1.sub (fun _ => True)).hdrE j trivial
          rw [(B1.sub (fun _ => True)).sz j trivial v hv]
          exact hz j hj v (by rw [← e]; exact hv)) (B1.free (fun x hx hxb => hd3 x hxb x hx rfl) (fun x hx => hf x (by simp [hx]))) hd2
      exact ⟨E2, B1.trans B2⟩
    · cases h
end
end Go.MG
