/- THE CALL, seen from the caller. -/
import Derived.Test.YtflcaebmammlfaaMgL
namespace Go.MG

section
variable {P : Program} {F : Fix}

/-- A variable comes back under its old name. -/
theorem RelH.reBox {H : Heap} {E : Env} (h : RelH F H E) {k : Nat} {cs : List Cell} {us : List Value} {g : Nat} (hk : H.used k = true) (hr0 : H.rows k = none) (hr : RCs E cs us) (hn : ∀ j ∈ cnames cs, H.used j = true)
    (hat : E.w.rangeAt g 0 us) (hth : E.w.there g 0 cs.length) (hg : (∀ c, ¬ E.S c g) ∧ (∀ k, ¬ Own E k g) ∧ g < E.w.heap.size ∧ (F.w0.heap.size ≤ g ∨ F.T g)) (hp : E.pt k = some g) :
    RelH F { H with boxes := upd H.boxes k (some cs) } { E with blk := upd E.blk k (some g) } ∧ (∀ N, Sub E { E with blk := upd E.blk k (some g) } N) ∧ (∀ j b, Own { E with blk := upd E.blk k (some g) } j b → Own E j b ∨ b = g) := by
  have s : ∀ N, Sub E { E with blk := upd E.blk k (some g) } N := fun N => ⟨fun _ _ h => h, fun _ _ _ => rfl, fun _ _ _ h => h, fun _ _ _ h => h, fun _ _ _ _ => rfl⟩
  have hown : ∀ j b, Own { E with blk := upd E.blk k (some g) } j b → (j ≠ k ∧ Own E j b) ∨ (j = k ∧ b = g) := by
    intro j b hj
    by_cases e : j = k
    · subst e
      rcases hj with ⟨n, cap, hj⟩ | hj
      · simp only at hj; rw [h.hdr0 j hr0] at hj; cases hj
      · simp only [upd_same] at hj; exact .inr ⟨rfl, by simpa using hj.symm⟩
    · refine .inl ⟨e, ?_⟩
      rcases hj with ⟨n, cap, hj⟩ | hj
      · exact .inl ⟨n, cap, hj⟩
      · exact .inr (by simpa only [upd_other _ _ e] using hj)
  refine ⟨⟨fun j q hq => ?_, fun j ds hc => ?_, h.hdr0, fun j hj => ?_, fun j => ?_, fun j j' b hj hj' => ?_, fun j b hj => ?_, h.S, h.SS, h.Ssub, h.Ssup, fun j v hv => ?_, h.fr, h.usedR, fun j ds hc => ?_⟩, s, fun j b hj => (hown j b hj).elim (fun h => .inl h.2) (fun h => .inr h.2)⟩
  · obtain ⟨h1, h2, hd', h3, h4, h5⟩ := h.rows j q hq
    exact ⟨h1, h2, hd', h3, h4, RowIn.chg (s fun _ => True) h2 (fun _ _ _ _ => rfl) h5⟩
  · by_cases e : j = k
    · subst e
      simp only [upd_same] at hc; cases hc
      exact ⟨g, us, by simp [upd_same], hr.sub (s fun _ => True) (fun _ _ => trivial), hat, hth⟩
    · simp only [upd_other _ _ e] at hc
      obtain ⟨g', us', h1, h2, h3, h4⟩ := h.boxes j ds hc
      exact ⟨g', us', by simpa only [upd_other _ _ e] using h1, h2.sub (s fun _ => True) (fun _ _ => trivial), h3, h4⟩
  · by_cases e : j = k
    · subst e; simp [upd_same] at hj
    · simp only [upd_other _ _ e] at hj ⊢; exact h.blk0 j hj
  · by_cases e : j = k
    · subst e; exact .inl (h.hdr0 j hr0)
    · simp only [upd_other _ _ e]; exact h.both j
  · rcases hown j b hj with ⟨e, o⟩ | ⟨e, o⟩ <;> rcases hown j' b hj' with ⟨e', o'⟩ | ⟨e', o'⟩
    · exact h.uniq j j' b o o'
    · subst o'; exact absurd o (hg.2.1 j)
    · subst o; exact absurd o' (hg.2.1 j')
    · rw [e, e']
  · rcases hown j b hj with ⟨e, o⟩ | ⟨e, o⟩
    · exact h.own j b o
    · subst o; exact ⟨hg.1, hg.2.2.1, hg.2.2.2⟩
  · by_cases e : j = k
    · subst e; simp only [upd_same] at hv; cases hv; exact hp
    · simp only [upd_other _ _ e] at hv; exact h.pt j v hv
  · by_cases e : j = k
    · subst e
      simp only [upd_same] at hc; cases hc
      exact ⟨hk, hn⟩
    · simp only [upd_other _ _ e] at hc
      exact h.usedB j ds hc

theorem internC_rows {H : Heap} {k j : Nat} {c : Cell} (h : j ≠ k) : (H.internC k c).1.rows j = H.rows j ∧ (H.internC k c).1.boxes j = H.boxes j := by
  cases c <;> simp [Heap.internC, upd_other _ _ h]
theorem internCs_rows : ∀ {cs : List Cell} {H : Heap} {k j : Nat}, (j < k ∨ k + cs.length ≤ j) → (H.internCs k cs).1.rows j = H.rows j ∧ (H.internCs k cs).1.boxes j = H.boxes j
  | [], H, k, j, _ => ⟨rfl, rfl⟩
  | c :: cs, H, k, j, h => by
    simp only [List.length_cons] at h
    have h1 := internC_rows (H := H) (c := c) (show j ≠ k by omega)
    have h2 := internCs_rows (cs := cs) (H := (H.internC k c).1) (k := k + 1) (j := j) (by omega)
    simp only [Heap.internCs]
    exact ⟨h2.1.trans h1.1, h2.2.trans h1.2⟩

theorem RXCs.length {E : Env} : ∀ {cs : List Cell} {us : List Value} {bs : List Nat}, RXCs E cs us bs → us.length = cs.length
  | [], _, _, h => by obtain ⟨rfl, rfl⟩ := h; rfl
  | c :: cs, _, _, h => by obtain ⟨u, us', b, bs', rfl, rfl, _, h⟩ := h; simp [RXCs.length h]

/-- Cells that came back, over a world that shares what clean cells read. -/
theorem RXC.clean {E E' : Env} {N : Nat → Prop} (s : SubT E E' N) {c : Cell} {u : Value} {bs : List Nat} (hm : ∀ b ∈ bs, E'.w.heap[b]? = E.w.heap[b]?) (hc : c.clean = true) (hn : ∀ k ∈ c.names, N k) (h : RXC E c u bs) : RXC E' c u bs := by
  have plain : ∀ {c : Cell}, c.clean = true → (∀ k ∈ c.names, N k) → RC E c u ∧ bs = [] → RC E' c u ∧ bs = [] := fun hc hn h => ⟨RC.clean s hc hn h.1, h.2⟩
  cases c with
  | ow sz es =>
    simp only [RXC] at h ⊢
    obtain ⟨h1, h2, h3⟩ := h
    refine ⟨h1, h2, h3.imp id ?_⟩
    rintro ⟨g, cap, h4, h5, h6, h7, h8⟩
    have hg := hm g (by rw [h8]; simp)
    exact ⟨g, cap, h4, h5, there_of_block hg h6, h7.clean s hg h2.1 (fun k hk => by rw [h2.2] at hk; cases hk), h8⟩
  | bx cs =>
    simp only [Cell.clean] at hc
    simp only [RXC] at h ⊢
    obtain ⟨h1, g, us, h2, h3, h4, h5, h6⟩ := h
    have hg := hm g (by rw [h6]; simp)
    exact ⟨h1, g, us, h2, h3.clean s hc (by simp [h1]), rangeAt_of_block hg h4, there_of_block hg h5, h6⟩
  | _ => simpa only [RXC] using plain hc hn (by simpa only [RXC] using h)
theorem RXCs.clean {E E' : Env} {N : Nat → Prop} (s : SubT E E' N) : ∀ {cs : List Cell} {us : List Value} {bs : List Nat}, (∀ b ∈ bs, E'.w.heap[b]? = E.w.heap[b]?) → cclean cs = true → (∀ k ∈ cnames cs, N k) → RXCs E cs us bs → RXCs E' cs us bs
  | [], _, _, _, _, _, h => h
  | c :: cs, _, _, hm, hc, hn, h => by
    obtain ⟨u, us', b, bs', rfl, rfl, h1, h2⟩ := h
    simp only [cclean, Bool.and_eq_true] at hc
    simp only [cnames, List.mem_append] at hn
    exact ⟨u, us', b, bs', rfl, rfl, h1.clean s (fun x hx => hm x (by simp [hx])) hc.1 (fun k hk => hn k (.inl hk)), RXCs.clean s (fun x hx => hm x (by simp [hx])) hc.2 (fun k hk => hn k (.inr hk)) h2⟩
def V.clean (x : V) : Bool := cclean x.cells
theorem RXV.clean {E E' : Env} {N : Nat → Prop} (s : SubT E E' N) {x : V} {u : Value} {bs : List Nat} (hm : ∀ b ∈ bs, E'.w.heap[b]? = E.w.heap[b]?) (hc : x.clean = true) (hn : ∀ k ∈ x.names, N k) (h : RXV E x u bs) : RXV E' x u bs := by
  cases x with
  | one c => exact RXC.clean s hm (by simpa [V.clean, V.cells, cclean] using hc) (fun k hk => hn k (by simpa [V.names, V.cells, cnames] using hk)) h
  | agg cs => obtain ⟨us, h1, h2⟩ := h; exact ⟨us, h1, h2.clean s hm hc hn⟩
theorem RXVs.clean {E E' : Env} {N : Nat → Prop} (s : SubT E E' N) : ∀ {xs : List V} {us : List Value} {bs : List Nat}, (∀ b ∈ bs, E'.w.heap[b]? = E.w.heap[b]?) → (∀ x ∈ xs, x.clean = true) → (∀ k ∈ xs.flatMap V.names, N k) → RXVs E xs us bs → RXVs E' xs us bs
  | [], _, _, _, _, _, h => h
  | x :: xs, _, _, hm, hc, hn, h => by
    obtain ⟨u, us', b, bs', rfl, rfl, h1, h2⟩ := h
    simp only [List.flatMap_cons, List.mem_append] at hn
    exact ⟨u, us', b, bs', rfl, rfl, h1.clean s (fun x hx => hm x (by simp [hx])) (hc x (by simp)) (fun k hk => hn k (.inl hk)), RXVs.clean s (fun x hx => hm x (by simp [hx])) (fun x hx => hc x (by simp [hx])) (fun k hk => hn k (.inr hk)) h2⟩

/-- The variables come back, with what they hold now. -/
theorem take_outs : ∀ {ks : List Nat} {css : List (List Cell)} {H : Heap} {E Eo : Env} {ob bs : List Nat} {k0 : Nat} (_ : RelH F H E) (_ : css.length = ks.length) (_ : ob.length = ks.length) (_ : RXOuts Eo css ob bs) (_ : Eo.w = E.w) (_ : SubT Eo E (fun _ => False))
    (_ : ∀ cs ∈ css, cclean cs = true ∧ cnames cs = []) (_ : ∀ j, k0 ≤ j → j < k0 + css.flatten.length → H.used j = false) (_ : ∀ k ∈ ks, H.used k = true ∧ H.rows k = none) (_ : ∀ (i k : Nat), ks[i]? = some k → E.pt k = ob[i]?)
    (_ : Free F E (bs ++ ob)) (_ : (bs ++ ob).Nodup),
    ∃ E', E'.w = E.w ∧ E'.S = E.S ∧ RelH F (H.takeOuts k0 ks css) E' ∧ Sub E E' (fun k => H.used k = true) ∧ (∀ j, H.used j = true → (H.takeOuts k0 ks css).used j = true)
  | [], css, H, E, Eo, ob, bs, k0, hH, hl, _, _, _, _, _, _, _, _, _, _ => by
    obtain rfl : css = [] := by simpa using hl
    exact ⟨E, rfl, rfl, hH, Sub.refl _ _, fun _ h => h⟩
  | k :: ks, css, H, E, Eo, ob, bs, k0, hH, hl, hlo, h, hw, hs, hc, hk0, hks, hp, hf, hd => by
    cases css with
    | nil => simp at hl
    | cons cs css =>
      obtain ⟨g, ob', us, b, bs', rfl, rfl, h1, h2, h3, h4⟩ := h
      obtain ⟨hc1, hc2⟩ := hc cs (by simp)
      simp only [List.flatten_cons, List.length_append] at hk0
      have hfb : Free F E b := fun x hx => hf x (by simp [hx])
      have hnd : b.Nodup := by
        have := hd; simp only [List.append_assoc] at this; exact (List.nodup_append.1 this).1
      have hX : RXCs E cs us b := h1.clean hs (fun x hx => by rw [hw]) hc1 (fun k hk => by rw [hc2] at hk; cases hk)
      cases hi : H.internCs k0 cs with
      | mk H1 cs1 =>
        obtain ⟨E1, T1, a2, a3, a4⟩ := intern_cells hH (fun j hj hj' => hk0 j hj (by omega)) hX (by simp [hc2]) hfb hnd hi
        have hd' : (b ++ (bs' ++ (g :: ob'))).Nodup := by simpa [List.append_assoc] using hd
        obtain ⟨hn1, hn2, hn3⟩ := List.nodup_append.1 hd'
        have hf1 : Free F E1 (bs' ++ (g :: ob')) := T1.free (fun x hx hxb => hn3 x hxb x hx rfl) (fun x hx => hf x (by rw [List.append_assoc]; exact List.mem_append_right _ hx))
        have hku := hks k (by simp)
        have rows1 : ∀ j, H.used j = true → H1.rows j = H.rows j := fun j hj => by
          have := internCs_rows (cs := cs) (H := H) (k := k0) (j := j) (by
            rcases Nat.lt_or_ge j k0 with h | h
            · exact .inl h
            · right
              refine Classical.byContradiction fun hh => ?_
              have := hk0 j h (by omega)
              rw [hj] at this; cases this)
          rw [hi] at this; exact this.1
        have hpt1 : E1.pt k = some g := by
          rw [T1.pt k hku.1]; have := hp 0 k (by simp); simpa using this
        obtain ⟨r1, r2, r3⟩ := T1.rel.reBox (k := k) (T1.up k hku.1) (by rw [rows1 k hku.1]; exact hku.2) a2 a3 (by rw [T1.w, ← hw]; exact h2) (by rw [T1.w, ← hw, a4]; exact h3) (hf1 g (by simp)) hpt1
        obtain ⟨hg1, hg2, hg3⟩ := List.nodup_append.1 hn2
        have hf2 : Free F { E1 with blk := upd E1.blk k (some g) } (bs' ++ ob') := fun x hx => by
          have hx' : x ∈ bs' ++ (g :: ob') := by
            rcases List.mem_append.1 hx with h | h
            · exact List.mem_append_left _ h
            · exact List.mem_append_right _ (List.mem_cons_of_mem _ h)
          obtain ⟨f1, f2, f3, f4⟩ := hf1 x hx'
          refine ⟨f1, fun j hj => (r3 j x hj).elim (f2 j) (fun e => ?_), f3, f4⟩
          subst e
          rcases List.mem_append.1 hx with h | h
          · exact hg3 x h x (by simp) rfl
          · exact (List.nodup_cons.1 hg2).1 h
        have hd2 : (bs' ++ ob').Nodup := List.nodup_append.2 ⟨hg1, (List.nodup_cons.1 hg2).2, fun x hx y hy => hg3 x hx y (by simp [hy])⟩
        obtain ⟨E2, k1, k2, k3, k4, k5⟩ := take_outs (ks := ks) (css := css) (k0 := k0 + cs.length) r1 (by simpa using hl) (by simpa using hlo) h4 (by rw [hw]; exact T1.w.symm)
          ⟨fun b hb => by have := hs.S b hb; simp only; rw [T1.S]; exact this, fun b hb => by have := hs.mem b hb; simp only; rw [T1.w]; exact this, fun _ h => h.elim, fun _ h => h.elim, fun _ h => h.elim⟩
          (fun cs hcs => hc cs (by simp [hcs])) (fun j hj hj' => by
            cases hu : H1.used j with
            | false => exact hu
            | true =>
              rcases T1.down j hu with h | h
              · have := hk0 j (by omega) (by omega); rw [h] at this; cases this
              · omega) (fun j hj => ⟨T1.up j (hks j (by simp [hj])).1, by
                show H1.rows j = none
                rw [rows1 j (hks j (by simp [hj])).1]; exact (hks j (by simp [hj])).2⟩)
          (fun i j hij => by
            have hj := hks j (by simp [List.mem_of_getElem? hij])
            show E1.pt j = _
            rw [T1.pt j hj.1]
            have := hp (i + 1) j (by simpa using hij)
            simpa using this) hf2 hd2
        have htake : H.takeOuts k0 (k :: ks) (cs :: css) = Heap.takeOuts { H1 with boxes := upd H1.boxes k (some cs1) } (k0 + cs.length) ks css := by
          simp only [Heap.takeOuts, hi]
        refine ⟨E2, k1.trans T1.w, k2.trans T1.S, by rw [htake]; exact k3, ?_, fun j hj => by rw [htake]; exact k5 j (T1.up j hj)⟩
        have s1 := T1.sub.trans (r2 (fun k => H.used k = true))
        exact s1.trans ⟨k4.S, k4.mem, fun j hj => k4.hdr j (T1.up j hj), fun j hj => k4.pt j (T1.up j hj), fun j hj => k4.sz j (T1.up j hj)⟩
end
end Go.MG
