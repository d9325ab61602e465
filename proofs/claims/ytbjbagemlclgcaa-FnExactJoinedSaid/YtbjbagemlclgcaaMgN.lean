/- THE CALL: from what the caller has, by the callee's contract, to what the caller has behind it. -/
import Derived.Test.YtbjbagemlclgcaaMgM
namespace Go.MG
set_option linter.unusedVariables false
set_option linter.unusedSimpArgs false
set_option linter.unnecessarySimpa false

def slotOf : List V → Slot
  | [x] => .v x
  | xs => .tup xs

section
variable {P : Program} {F : Fix}

theorem RelH.extS {H : Heap} {E : Env} (h : RelH F H E) {S : Bool → Nat → Prop} (h1 : ∀ g b, E.S g b → S g b) (h2 : ∀ g b, S g b → E.S g b ∨ ((∀ k, ¬ Own E k b) ∧ b < E.w.heap.size ∧ (F.w0.heap.size ≤ b ∨ F.T b))) (h3 : ∀ b, S true b → S false b) :
    RelH F H { E with S := S } ∧ ∀ N, Sub E { E with S := S } N := by
  have s : ∀ N, Sub E { E with S := S } N := fun N => ⟨h1, fun _ _ _ => rfl, fun _ _ => rfl, fun _ _ _ h => h, fun _ _ _ _ => rfl⟩
  refine ⟨⟨fun j q hq => ?_, fun j ds hd => ?_, h.hdr0, h.blk0, h.both, h.uniq, fun j b hj => ?_, fun c b hb => ?_, h3, fun c b hb => ?_, fun c b hb => h1 c b (h.Ssup c b hb), h.pt, h.fr, h.usedR, h.usedB, h.nodup, h.lens, h.hv⟩, s⟩
  · obtain ⟨a1, a2, hd', a3, a4, a5⟩ := h.rows j q hq
    exact ⟨a1, a2, hd', a3, a4, a5.chg (s fun _ => True) a2 (fun _ _ => rfl)⟩
  · obtain ⟨g', us, a1, a2, a3, a4⟩ := h.boxes j ds hd
    exact ⟨g', us, a1, a2.sub (s fun _ => True) (fun _ _ => trivial), a3, a4⟩
  · have := h.own j b hj
    refine ⟨fun c hb => ?_, this.2⟩
    rcases h2 c b hb with h4 | h4
    · exact this.1 c h4
    · exact h4.1 j hj
  · rcases h2 c b hb with h4 | h4
    · exact h.S c b h4
    · exact h4.2.1
  · rcases h2 c b hb with h4 | h4
    · exact h.Ssub c b h4
    · exact .inr h4.2.2

theorem RVs.slot {E : Env} {xs : List V} {us : List Value} (h : RVs E xs us) : RSlot E (slotOf xs) (retVal us) := by
  cases xs with
  | nil => obtain rfl : us = [] := h; exact ⟨[], rfl, rfl⟩
  | cons x xs =>
    obtain ⟨u, us', rfl, h1, h2⟩ := h
    cases xs with
    | nil => obtain rfl : us' = [] := h2; exact h1
    | cons y ys =>
      obtain ⟨v, vs, rfl, h3, h4⟩ := h2
      exact ⟨u :: v :: vs, rfl, u, _, rfl, h1, v, _, rfl, h3, h4⟩

theorem slotOf_names (xs : List V) : (slotOf xs).names = xs.flatMap V.names := by
  cases xs with
  | nil => rfl
  | cons x xs => cases xs with
    | nil => simp [slotOf, Slot.names]
    | cons y ys => rfl

theorem RVs.nth {E : Env} : ∀ {xs : List V} {us : List Value} {i : Nat}, RVs E xs us → i < xs.length → RV E (xs.getD i (.one .bad)) (us.getD i undef)
  | [], us, i, h, hi => by simp at hi
  | x :: xs, us, i, h, hi => by
    obtain ⟨u, us', rfl, h1, h2⟩ := h
    cases i with
    | zero => simpa using h1
    | succ i => simpa using RVs.nth h2 (by simpa using hi)
theorem RVs.pick {E : Env} {xs : List V} {us : List Value} (h : RVs E xs us) : ∀ {bp : List Nat}, (∀ i ∈ bp, i < xs.length) → RVs E (pickV bp xs) (pickU bp us)
  | [], _ => rfl
  | i :: bp, hb => ⟨_, _, rfl, h.nth (hb i (by simp)), RVs.pick h (fun j hj => hb j (by simp [hj]))⟩
/-- What a call leaves, for the caller. -/
def After (F : Fix) (H : Heap) (E : Env) (Q : Slot → Heap → Prop) (v : Value) (w' : World) : Prop :=
  ∃ s H' E', E'.w = w' ∧ RelH F H' E' ∧ Sub E E' (fun k => H.used k = true) ∧ (∀ k, H.used k = true → H'.used k = true) ∧ RSlot E' s v ∧ (∀ k ∈ s.names, H'.used k = true) ∧ Q s H'

structure Good (H2 : Heap) (ks : List Nat) (kb : Nat) (res : List V) (outs' : List (List Cell)) (bk : List V) : Prop where
  cback : ∀ x ∈ bk, x.clean = true ∧ x.names = []
  cres : ∀ x ∈ res, x.clean = true ∧ x.names = []
  len : outs'.length = ks.length
  couts : ∀ cs ∈ outs', cclean cs = true ∧ cnames cs = []
  fresh : ∀ j, kb ≤ j → j < kb + (res.flatMap V.cells).length + outs'.flatten.length → H2.used j = false

theorem internV_same : ∀ (x : V) (H : Heap) (k j : Nat), (j < k ∨ k + x.cells.length ≤ j) → (H.internV k x).1.rows j = H.rows j
  | .one c, H, k, j, h => by simp [V.cells] at h; exact (internC_rows (H := H) (c := c) (show j ≠ k by omega)).1
  | .agg cs, H, k, j, h => (internCs_rows (cs := cs) (H := H) (k := k) (j := j) h).1
theorem internVs_same : ∀ (xs : List V) (H : Heap) (k j : Nat), (j < k ∨ k + (xs.flatMap V.cells).length ≤ j) → (H.internVs k xs).1.rows j = H.rows j
  | [], _, _, _, _ => rfl
  | x :: xs, H, k, j, h => by
    simp only [List.flatMap_cons, List.length_append] at h
    simp only [Heap.internVs]
    rw [internVs_same xs _ _ j (by omega), internV_same x H k j (by omega)]

theorem call_ok {H : Heap} {E : Env} (hH : RelH F H E) {vs : List (Bool × V)} {us : List Value} (hvs : RVs E (vs.map (·.2)) us) (hn : ∀ p ∈ vs, ∀ j ∈ p.2.names, H.used j = true) {kp : Keep} {L ks : List Nat} {H1 H2 : Heap} {xs : List V} {outs : List (List Cell)}
    (hpass : H.passVs kp L vs = some (H1, xs)) (houts : H1.giveOuts ks = some (H2, outs)) (hkp : ∀ (k i : Nat), kp k = some i → ks[i]? = some k) (hL : ∀ k ∈ L, H2.rows k ≠ none) {f : FuncId} {bp : List Nat} {Post : List V → List (List Cell) → List V → Prop} (hf : Holds P f xs outs bp Post) (hbp : ∀ i ∈ bp, i < vs.length)
    {kb : Nat} {Q : Slot → Heap → Prop} (hq : ∀ res outs' bk, Post res outs' bk → Good H2 ks kb res outs' bk ∧ ∃ H3, Heap.backVs H ((H2.internVs kb res).1.takeOuts (kb + (res.flatMap V.cells).length) ks outs') (pickV bp (vs.map (·.2))) bk = some H3 ∧ Q (slotOf (H2.internVs kb res).2) H3) :
    Calls P f us.toArray E.w fun e w' => ∃ v, e = .returned v ∧ After F H E Q v w' := by
  obtain ⟨E1, bs1, G1, hX⟩ := pass_Vs hH hpass hvs hn
  obtain ⟨E2, ob, obs, G2, ks0, kbox, hobl, houtl, hobk, hO⟩ := give_outs G1.rel houts
  have G := G1.trans G2
  -- the callee's view
  let Sin : Bool → Nat → Prop := fun g b => E.S g b ∨ (g = false ∧ ∃ k ∈ L, Own E k b)
  have hface : Face E (envI E.w Sin ob) kp L := by
    refine ⟨rfl, fun g b h => .inl h, fun k hk b hb => .inr ⟨rfl, k, hk, hb⟩, fun k i hi b hb => ?_⟩
    have h1 := hobk i k (hkp k i hi)
    have hb' : ob[i]? = some b := hb
    rw [hb'] at h1
    have := G1.rel.pt k b h1
    rwa [G1.pt] at this
  have hlentOwn : ∀ k ∈ L, ∀ b, Own E k b → Own E2 k b := by
    intro k hk b hb
    have h2 := hL k hk
    rcases hb with hb | hb
    · exact .inl (by rw [G.ob k h2]; exact hb)
    · have hrk : H.rows k ≠ none := G.rows k h2
      rcases hH.both k with e | e
      · exact absurd e hrk
      · rw [hb] at e; cases e
  have hin : InOk E.w Sin xs outs us ob bs1 obs := by
    refine ⟨hX _ hface, hO _ (by rw [G1.w]; rfl) (fun g b h => .inl (by rw [← G1.S]; exact h)), by rw [List.append_assoc]; exact G.nodup, fun b hb => ?_, fun g b hb => ?_, fun b hb => ?_⟩
    · rw [List.append_assoc] at hb
      obtain ⟨k, hk⟩ := G.was b hb
      have ho := hH.own k b hk
      refine ⟨ho.2.1, fun g hg => ?_⟩
      rcases hg with hg | ⟨_, j, hj, hjb⟩
      · exact ho.1 g hg
      · exact G.gone b hb j (hlentOwn j hj b hjb)
    · rcases hb with hb | ⟨_, j, hj, hjb⟩
      · exact hH.S g b hb
      · exact (hH.own j b hjb).2.1
    · rcases hb with hb | ⟨h, _⟩
      · exact .inl (hH.SS b hb)
      · cases h
  refine (hf E.w Sin us ob bs1 obs hin).mono fun e w' => ?_
  rintro ⟨res, outs', bk, S', us', bs0', obs', hp, hret, hlenr, hok, hown, hsup, hsub, hfr⟩
  obtain ⟨hgood, H6, hback, hQ⟩ := hq res outs' bk hp
  obtain ⟨bs', bsb, rfl, hargs, hargsB⟩ := RXVs.split hlenr hok.args
  refine ⟨retVal us', hret, ?_⟩
  have hT : ∀ b, b ∈ bs1 ++ obs ++ ob → (∃ k, Own E k b) ∧ (∀ k, ¬ Own E2 k b) := fun b hb => by
    rw [List.append_assoc] at hb; exact ⟨G.was b hb, G.gone b hb⟩
  have hw2 : E2.w = E.w := G.w
  have hS2 : E2.S = E.S := G.S
  -- the world behind the call
  have hchg : Chg F E2 w' := by
    refine ⟨by rw [hw2]; exact hfr.os, by rw [hw2]; exact hfr.tape, by rw [hw2]; exact hfr.output, by rw [hw2]; exact hfr.size, fun b hb hne => ?_⟩
    rw [hw2] at hb hne
    have hbT : b ∈ bs1 ++ obs ++ ob := Classical.byContradiction fun h => hne (hfr.block b hb h)
    obtain ⟨⟨k, hk⟩, hgone⟩ := hT b hbT
    have ho := hH.own k b hk
    exact ⟨fun g hg => ho.1 g (by rw [← hS2]; exact hg), hgone, ho.2.2⟩
  have r1 := G.rel.chg hchg
  have s1 := Sub.chg G.rel hchg (fun k => H2.used k = true)
  have loc : ∀ b, (E.w.heap.size ≤ b ∨ b ∈ bs1 ++ obs ++ ob) → (∀ k, ¬ Own E2 k b) ∧ (F.w0.heap.size ≤ b ∨ F.T b) := by
    intro b hb
    rcases hb with hb | hb
    · exact ⟨fun k hk => by have := (G.rel.own k b hk).2.1; rw [hw2] at this; omega, .inl (Nat.le_trans hH.fr.size hb)⟩
    · obtain ⟨⟨k, hk⟩, hgone⟩ := hT b hb
      exact ⟨hgone, (hH.own k b hk).2.2⟩
  obtain ⟨r2, s2⟩ := r1.extS (S := fun g b => E.S g b ∨ (S' g b ∧ (E.w.heap.size ≤ b ∨ b ∈ bs1 ++ obs ++ ob))) (fun g b h => .inl (by rw [← hS2]; exact h))
    (fun g b h => h.elim (fun h => .inl (by simp only; rw [hS2]; exact h)) (fun h => .inr ⟨(loc b h.2).1, hok.bnd g b h.1, (loc b h.2).2⟩))
    (fun b h => h.imp (hH.SS b) (fun h => ⟨hok.cls b h.1, h.2⟩))
  -- what comes back
  have hT3 : SubT (envI w' S' ob) { E2 with w := w', S := fun g b => E.S g b ∨ (S' g b ∧ (E.w.heap.size ≤ b ∨ b ∈ bs1 ++ obs ++ ob)) } (fun _ => False) := by
    refine ⟨fun b hb => ?_, fun _ _ => rfl, fun _ h => h.elim, fun _ h => h.elim, fun _ h => h.elim⟩
    rcases hsub true b hb with h | h
    · rcases h with h | ⟨h, _⟩
      · exact .inl h
      · cases h
    · exact .inr ⟨hb, h⟩
  have hfree : ∀ b, b ∈ bs' ++ bsb ++ obs' ++ ob → (∀ c, ¬ (E.S c b ∨ (S' c b ∧ (E.w.heap.size ≤ b ∨ b ∈ bs1 ++ obs ++ ob)))) ∧ (∀ k, ¬ Own { E2 with w := w', S := fun g b => E.S g b ∨ (S' g b ∧ (E.w.heap.size ≤ b ∨ b ∈ bs1 ++ obs ++ ob)) } k b) ∧ b < w'.heap.size ∧ (F.w0.heap.size ≤ b ∨ F.T b) := by
    intro b hb
    have hlocb : E.w.heap.size ≤ b ∨ b ∈ bs1 ++ obs ++ ob := by
      rcases List.mem_append.1 hb with h | h
      · exact (hown b h).symm
      · exact .inr (List.mem_append_right _ h)
    have ho := hok.own b hb
    refine ⟨fun c hc => ?_, fun k hk => (loc b hlocb).1 k hk, ho.1, (loc b hlocb).2⟩
    rcases hc with hc | hc
    · exact ho.2 c (hsup c b (.inl hc))
    · exact ho.2 c hc.1
  have hnd := hok.nodup
  rw [List.append_assoc, List.append_assoc] at hnd
  obtain ⟨hnd1, hnd2', hnd3'⟩ := List.nodup_append.1 hnd
  obtain ⟨hnd4, hnd2, hnd5⟩ := List.nodup_append.1 hnd2'
  have hnd3 : ∀ a ∈ bs', ∀ b ∈ obs' ++ ob, a ≠ b := fun a ha b hb => hnd3' a ha b (List.mem_append_right _ hb)
  have hRX : RXVs { E2 with w := w', S := fun g b => E.S g b ∨ (S' g b ∧ (E.w.heap.size ≤ b ∨ b ∈ bs1 ++ obs ++ ob)) } res us' bs' :=
    RXVs.clean hT3 (fun _ _ => rfl) (fun x hx => (hgood.cres x hx).1) (fun k hk => by
      obtain ⟨x, hx, hk⟩ := List.mem_flatMap.1 hk
      rw [(hgood.cres x hx).2] at hk; cases hk) hargs
  cases hi : H2.internVs kb res with
  | mk H3 res' =>
    obtain ⟨E4, T4, q1, q2⟩ := intern_Vs r2 (fun j hj hj' => hgood.fresh j hj (by omega)) hRX (fun k hk => by
      obtain ⟨x, hx, hk⟩ := List.mem_flatMap.1 hk
      rw [(hgood.cres x hx).2] at hk; cases hk) (fun b hb => hfree b (by simp [hb])) hnd1 hi
    rw [hi] at hQ hback
    have hfr4 : Free F E4 (obs' ++ ob) := T4.free (fun b hb hb' => hnd3 b hb' b hb rfl) (fun b hb => hfree b (by rw [List.append_assoc]; exact List.mem_append_right _ hb))
    have hfr4b : Free F E4 bsb := T4.free (fun b hb hb' => hnd3' b hb' b (List.mem_append_left _ hb) rfl) (fun b hb => hfree b (by simp [hb]))
    have husedk : ∀ k ∈ ks, H2.used k = true ∧ H2.rows k = none := by
      intro k hk
      have hb := ks0 k hk
      cases hbx : H1.boxes k with
      | none => exact absurd hbx hb
      | some cs =>
        have hu := (G1.rel.usedB k cs hbx).1
        refine ⟨by rw [← G2.used]; exact hu, ?_⟩
        refine Classical.byContradiction fun hr => ?_
        have hr1 := G2.rows k hr
        cases hrx : H1.rows k with
        | none => exact hr1 hrx
        | some r =>
          obtain ⟨g, us, h1, _⟩ := G1.rel.boxes k cs hbx
          rcases G1.rel.both k with e | e
          · rw [hrx] at e; cases e
          · rw [h1] at e; cases e
    obtain ⟨E5, t1, t2, t3, t4, t5, t6⟩ := take_outs (k0 := kb + (res.flatMap V.cells).length) (Eo := envI w' S' ob) T4.rel hgood.len hobl hok.outs T4.w.symm
      ⟨fun b hb => by rw [T4.S]; exact hT3.S b hb, fun b hb => by rw [T4.w]; rfl, fun _ h => h.elim, fun _ h => h.elim, fun _ h => h.elim⟩ hgood.couts
      (fun j hj hj' => by
        cases hu : H3.used j with
        | false => rfl
        | true =>
          rcases T4.down j hu with h | h
          · have := hgood.fresh j (by omega) (by omega); rw [h] at this; cases this
          · omega)
      (fun k hk => ⟨T4.up k (husedk k hk).1, by
        have := internVs_same res H2 kb k (by
          rcases Nat.lt_or_ge k kb with h | h
          · exact .inl h
          · right
            refine Classical.byContradiction fun hh => ?_
            have := hgood.fresh k h (by omega)
            rw [(husedk k hk).1] at this; cases this)
        rw [hi] at this; rw [this]; exact (husedk k hk).2⟩)
      (fun i k hik => by
        have hk := husedk k (List.mem_of_getElem? hik)
        rw [T4.pt k hk.1]
        show E2.pt k = _
        have h1 := hobk i k hik
        have hlt : i < ob.length := by rw [hobl]; exact (List.getElem?_eq_some_iff.1 hik).1
        rw [List.getElem?_eq_getElem hlt] at h1 ⊢
        rw [G2.pt]; exact G1.rel.pt k _ h1)
      hfr4 hnd2
    have hsub5 : Sub E E5 (fun k => H.used k = true) := G.sub.trans (sub_used G.used ((s1.trans (s2 _)).trans (T4.sub.trans ⟨t4.S, t4.mem, fun j hj => t4.hdrE j (T4.up j hj), fun j hj => t4.pt j (T4.up j hj), fun j hj => t4.sz j (T4.up j hj)⟩)))
    have hfr5 : Free F E5 bsb := fun b hb => by
      obtain ⟨f1, f2, f3, f4⟩ := hfr4b b hb
      refine ⟨fun c hc => f1 c (by rw [t2] at hc; exact hc), fun j hj => (t6 j b hj).elim (f2 j) (fun h => hnd5 b hb b h rfl), by rw [t1]; exact f3, f4⟩
    obtain ⟨E6, B6⟩ := back_Vs hH t3 hback (hvs.pick (fun i hi => by simpa using hbp i hi)) hargsB (by rw [t1, T4.w]; rfl) ⟨fun b hb => by rw [t2, T4.S]; exact hT3.S b hb, fun b hb => by rw [t1, T4.w]; rfl, fun _ h => h.elim, fun _ h => h.elim, fun _ h => h.elim⟩ hgood.cback
      (fun j hj => hsub5.hdrE j hj) (fun j hj v hv => hsub5.sz j hj v hv) hfr5 hnd4
    refine ⟨slotOf res', _, E6, B6.w.trans (t1.trans T4.w), B6.rel, hsub5.trans (B6.sub _), fun k hk => B6.up k (t5 k (T4.up k (by rw [← G.used]; exact hk))), ?_, fun k hk => ?_, hQ⟩
    · exact RSlot.sub (B6.sub (fun _ => True)) (fun _ _ => trivial) (RSlot.sub t4 (fun k hk => by rw [slotOf_names] at hk; exact q2 k hk) q1.slot)
    · rw [slotOf_names] at hk; exact B6.up k (t5 k (q2 k hk))
end
end Go.MG
