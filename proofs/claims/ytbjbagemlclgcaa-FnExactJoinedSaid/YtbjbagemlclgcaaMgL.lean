/- Variables by address, out and back; THE CALL. -/
import Derived.Test.YtbjbagemlclgcaaMgK
namespace Go.MG
set_option linter.unusedVariables false
set_option linter.unusedSimpArgs false
set_option linter.unnecessarySimpa false

/-- A cell of a variable that is handed over by address. -/
def Heap.innerC (H : Heap) : Cell → Option (Heap × Cell)
  | .own k => (H.rows k).map fun r => ({ H with rows := upd H.rows k none }, .ow r.sz r.es)
  | .sub k lo n => if lo = 0 then (H.rows k).bind fun r => if n ≤ r.es.length then some ({ H with rows := upd H.rows k none }, .ow r.sz (r.es.take n)) else none else none
  | .ow .. | .bx .. => none
  | c => if c.names.isEmpty then some (H, c) else none
def Heap.innerCs (H : Heap) : List Cell → Option (Heap × List Cell)
  | [] => some (H, [])
  | c :: cs => match H.innerC c with
    | some (H1, c') => match H1.innerCs cs with
      | some (H2, cs') => some (H2, c' :: cs')
      | none => none
    | none => none
/-- Give out the variables ks: their cells, and the variables themselves. -/
def Heap.giveOuts (H : Heap) : List Nat → Option (Heap × List (List Cell))
  | [] => some (H, [])
  | k :: ks => match H.boxes k with
    | some cs => match H.innerCs cs with
      | some (H1, cs') => match Heap.giveOuts { H1 with boxes := upd H1.boxes k none } ks with
        | some (H2, css) => some (H2, cs' :: css)
        | none => none
      | none => none
    | none => none
/-- Take them back. -/
def Heap.takeOuts (H : Heap) (k : Nat) : List Nat → List (List Cell) → Heap
  | b :: bs, cs :: css => Heap.takeOuts { (H.internCs k cs).1 with boxes := upd (H.internCs k cs).1.boxes b (some (H.internCs k cs).2) } (k + cs.length) bs css
  | _, _ => H

section
variable {F : Fix}

theorem inner_one {H H' : Heap} {E : Env} {c c' : Cell} {u : Value} (hH : RelH F H E) (h : H.innerC c = some (H', c')) (hc : RC E c u) :
    ∃ E' bs, Gave F H E H' E' bs ∧ H'.boxes = H.boxes ∧ E'.blk = E.blk ∧ ∀ Ei : Env, Ei.w = E.w → (∀ g b, E.S g b → Ei.S g b) → RXC Ei c' u bs := by
  have plain : ∀ {c : Cell}, c.isOw = false → RC E c u → (if c.names.isEmpty then some (H, c) else none) = some (H', c') →
      ∃ E' bs, Gave F H E H' E' bs ∧ H'.boxes = H.boxes ∧ E'.blk = E.blk ∧ ∀ Ei : Env, Ei.w = E.w → (∀ g b, E.S g b → Ei.S g b) → RXC Ei c' u bs := by
    intro c ho hc h
    split at h
    · rename_i he; cases h
      exact ⟨E, [], Gave.refl hH, rfl, rfl, fun Ei fw fS => RXC.of (RC.sub (N := fun _ => False) ⟨fS, fun _ _ _ => by rw [fw], fun _ h => h.elim, fun _ h => h.elim, fun _ h => h.elim⟩ (fun k hk => by simp at he; rw [he] at hk; cases hk) hc) ho⟩
    · cases h
  cases c with
  | own k =>
    simp only [Heap.innerC, Option.map_eq_some_iff] at h
    obtain ⟨r, hr, h⟩ := h
    cases h
    obtain ⟨_, _, hd, h3, _, h5⟩ := hH.rows k r hr
    simp only [RC] at hc
    obtain ⟨bs, g1, g2⟩ := give_row' hH hr r.es.length (Nat.le_refl _) (fun hd' h' => by
      rw [h3] at h'; cases h'
      have hu := hc.2 hd h3
      rcases h5 with ⟨h6, _⟩ | ⟨g, cap, _, h6, _⟩
      · exact .inl ⟨h6, hu⟩
      · exact .inr ⟨g, _, cap, h6, by rw [hu, h6]⟩)
    exact ⟨_, bs, g1, rfl, rfl, by simpa using g2⟩
  | sub k lo n =>
    simp only [Heap.innerC] at h
    split at h
    · rename_i hlo; subst hlo
      simp only [Option.bind_eq_some_iff] at h
      obtain ⟨r, hr, h⟩ := h
      split at h
      · rename_i hn; cases h
        obtain ⟨_, _, hd, h3, _, h5⟩ := hH.rows k r hr
        simp only [RC] at hc
        obtain ⟨bs, g1, g2⟩ := give_row' hH hr n hn (fun hd' h' => by
          rw [h3] at h'; cases h'
          rcases hc.2 hd h3 with ⟨h6, _, h7, h8⟩ | ⟨g, len, cap, a, h6, h7, h8, h9, h10⟩
          · exact .inl ⟨h6, h8⟩
          · exact .inr ⟨g, len, cap, h6, by rw [h8, show a = ⟨g, 0, none⟩ by first | exact h10 | exact h10 rfl | exact h10 trivial]; simp⟩)
        exact ⟨_, bs, g1, rfl, rfl, g2⟩
      · cases h
    · cases h
  | ow sz es => cases h
  | bx cs => cases h
  | _ => exact plain rfl hc h

theorem inner_cells : ∀ {cs cs' : List Cell} {H H' : Heap} {E : Env} {us : List Value} (_ : RelH F H E) (_ : H.innerCs cs = some (H', cs')) (_ : RCs E cs us) (_ : ∀ j ∈ cnames cs, H.used j = true),
    ∃ E' bs, Gave F H E H' E' bs ∧ H'.boxes = H.boxes ∧ E'.blk = E.blk ∧ cs'.length = cs.length ∧ ∀ Ei : Env, Ei.w = E.w → (∀ g b, E.S g b → Ei.S g b) → RXCs Ei cs' us bs
  | [], cs', H, H', E, us, hH, h, hc, hn => by
    simp [Heap.innerCs] at h
    obtain ⟨rfl, rfl⟩ := h
    simp only [RCs] at hc
    exact ⟨E, [], Gave.refl hH, rfl, rfl, rfl, fun Ei _ _ => by simp only [RXCs]; exact ⟨hc, trivial⟩⟩
  | c :: cs, cs', H, H', E, us, hH, h, hc, hn => by
    simp only [RCs] at hc
    obtain ⟨u, us', rfl, h1, h2⟩ := hc
    simp only [cnames, List.mem_append] at hn
    unfold Heap.innerCs at h
    split at h
    · rename_i H1 c1 hp1
      split at h
      · rename_i H2 cs2 hp2
        cases h
        obtain ⟨E1, b1, g1, g2, g3, g4⟩ := inner_one hH hp1 h1
        obtain ⟨E2, b2, k1, k2, k3, k4, k5⟩ := inner_cells g1.rel hp2 (h2.sub g1.sub (fun j hj => hn j (.inr hj))) (fun j hj => by rw [← g1.used]; exact hn j (.inr hj))
        refine ⟨E2, b1 ++ b2, g1.trans k1, k2.trans g2, k3.trans g3, by simp [k4], fun Ei fw fS => by simp only [RXCs]; exact ⟨u, us', b1, b2, rfl, rfl, g4 Ei fw fS, k5 Ei (fw.trans g1.w.symm) (fun x b hb => fS x b (by rwa [← g1.S]))⟩⟩
      · cases h
    · cases h

def Heap.innerV (H : Heap) : V → Option (Heap × V)
  | .one c => (H.innerC c).map fun p => (p.1, .one p.2)
  | .agg cs => (H.innerCs cs).map fun p => (p.1, .agg p.2)
def Heap.innerVs (H : Heap) : List V → Option (Heap × List V)
  | [] => some (H, [])
  | x :: xs => match H.innerV x with
    | some (H1, x') => match H1.innerVs xs with
      | some (H2, xs') => some (H2, x' :: xs')
      | none => none
    | none => none
theorem inner_V {x x' : V} {H H' : Heap} {E : Env} {u : Value} (hH : RelH F H E) (h : H.innerV x = some (H', x')) (hc : RV E x u) (hn : ∀ j ∈ x.names, H.used j = true) :
    ∃ E' bs, Gave F H E H' E' bs ∧ ∀ Ei : Env, Ei.w = E.w → (∀ g b, E.S g b → Ei.S g b) → RXV Ei x' u bs := by
  cases x with
  | one c =>
    simp only [Heap.innerV, Option.map_eq_some_iff] at h
    obtain ⟨⟨H1, c1⟩, h1, h⟩ := h
    cases h
    obtain ⟨E1, b1, g1, _, _, g4⟩ := inner_one hH h1 hc
    exact ⟨E1, b1, g1, g4⟩
  | agg cs =>
    simp only [Heap.innerV, Option.map_eq_some_iff] at h
    obtain ⟨⟨H1, c1⟩, h1, h⟩ := h
    cases h
    obtain ⟨us, rfl, hc⟩ := hc
    obtain ⟨E1, b1, g1, _, _, _, g4⟩ := inner_cells hH h1 hc hn
    exact ⟨E1, b1, g1, fun Ei fw fS => ⟨us, rfl, g4 Ei fw fS⟩⟩
theorem inner_Vs : ∀ {xs xs' : List V} {H H' : Heap} {E : Env} {us : List Value} (_ : RelH F H E) (_ : H.innerVs xs = some (H', xs')) (_ : RVs E xs us) (_ : ∀ x ∈ xs, ∀ j ∈ x.names, H.used j = true),
    ∃ E' bs, Gave F H E H' E' bs ∧ ∀ Ei : Env, Ei.w = E.w → (∀ g b, E.S g b → Ei.S g b) → RXVs Ei xs' us bs
  | [], xs', H, H', E, us, hH, h, hc, hn => by
    simp [Heap.innerVs] at h
    obtain ⟨rfl, rfl⟩ := h
    exact ⟨E, [], Gave.refl hH, fun Ei _ _ => ⟨hc, rfl⟩⟩
  | x :: xs, xs', H, H', E, us, hH, h, hc, hn => by
    obtain ⟨u, us', rfl, h1, h2⟩ := hc
    unfold Heap.innerVs at h
    split at h
    · rename_i H1 x1 hp1
      split at h
      · rename_i H2 xs2 hp2
        cases h
        obtain ⟨E1, b1, g1, g2⟩ := inner_V hH hp1 h1 (hn x (by simp))
        obtain ⟨E2, b2, k1, k2⟩ := inner_Vs g1.rel hp2 (h2.sub g1.sub (fun j hj => by
          obtain ⟨y, hy, hj⟩ := List.mem_flatMap.1 hj
          exact hn y (by simp [hy]) j hj)) (fun y hy j hj => by rw [← g1.used]; exact hn y (by simp [hy]) j hj)
        exact ⟨E2, b1 ++ b2, g1.trans k1, fun Ei fw fS => ⟨u, us', b1, b2, rfl, rfl, g2 Ei fw fS, k2 Ei (fw.trans g1.w.symm) (fun x b hb => fS x b (by rwa [← g1.S]))⟩⟩
      · cases h
    · cases h

theorem give_outs : ∀ {ks : List Nat} {H H' : Heap} {E : Env} {css : List (List Cell)} (_ : RelH F H E) (_ : H.giveOuts ks = some (H', css)),
    ∃ E' ob bs, Gave F H E H' E' (bs ++ ob) ∧ (∀ k ∈ ks, H.boxes k ≠ none) ∧ (∀ k, H'.boxes k = if k ∈ ks then none else H.boxes k) ∧ ob.length = ks.length ∧ css.length = ks.length ∧ (∀ (i k : Nat), ks[i]? = some k → E.blk k = ob[i]?) ∧
      ∀ Ei : Env, Ei.w = E.w → (∀ g b, E.S g b → Ei.S g b) → RXOuts Ei css ob bs
  | [], H, H', E, css, hH, h => by
    simp [Heap.giveOuts] at h
    obtain ⟨rfl, rfl⟩ := h
    exact ⟨E, [], [], Gave.refl hH, (fun k hk => by cases hk), (fun k => by simp), rfl, rfl, (fun i k h => by simp at h), fun Ei _ _ => ⟨rfl, rfl⟩⟩
  | k :: ks, H, H', E, css, hH, h => by
    unfold Heap.giveOuts at h
    split at h
    · rename_i cs hcs
      split at h
      · rename_i H1 cs1 hp
        split at h
        · rename_i H2 css2 hr
          cases h
          obtain ⟨g, us, h1, h2, h3, h4⟩ := hH.boxes k cs hcs
          obtain ⟨E1, b1, g1, g2, g3, gl, g4⟩ := inner_cells hH hp h2 (hH.usedB k cs hcs).2
          obtain ⟨d1, d2⟩ := g1.rel.dropBox k
          have hb1 : E1.blk k = some g := by rw [g3]; exact h1
          have hnr : E1.ob k = [] := by
            rcases g1.rel.both k with e1 | e1
            · exact g1.rel.hdr0 k e1
            · rw [hb1] at e1; cases e1
          have T1 : Gave F H E { H1 with boxes := upd H1.boxes k none } { E1 with blk := upd E1.blk k none } (b1 ++ [g]) := by
            refine ⟨g1.w, g1.S, d1, g1.sub.trans (sub_used g1.used d2), g1.used, fun j b hj => g1.own j b hj.dropB, fun b hb => ?_, fun b hb j hj => ?_, ?_, g1.pt, g1.rows, g1.ob⟩
            · rcases List.mem_append.1 hb with hb | hb
              · exact g1.was b hb
              · simp at hb; subst hb; exact ⟨k, .inr h1⟩
            · rcases List.mem_append.1 hb with hb | hb
              · exact g1.gone b hb j hj.dropB
              · simp at hb; subst hb
                have := g1.rel.uniq j k _ hj.dropB (.inr hb1)
                subst this
                rcases hj with hj | hj
                · simp only [hnr] at hj; cases hj
                · simp [upd_same] at hj
            · refine List.nodup_append.2 ⟨g1.nodup, by simp, fun x hx y hy e => ?_⟩
              simp at hy; subst e; subst hy
              exact g1.gone x hx k (.inr hb1)
          obtain ⟨E2, ob, bs, k1, k2, k3, k4, k5, k6, k7⟩ := give_outs (ks := ks) d1 hr
          have hbox : ∀ j, upd H1.boxes k none j ≠ none → j ≠ k ∧ H.boxes j ≠ none := fun j hj => by
            by_cases e : j = k
            · subst e; simp [upd_same] at hj
            · rw [upd_other _ _ e, g2] at hj; exact ⟨e, hj⟩
          have T2 := T1.trans k1
          refine ⟨E2, g :: ob, b1 ++ bs, ?_, fun j hj => ?_, fun j => ?_, by simp [k4], by simp [k5], fun i j hij => ?_, fun Ei hw hS => ?_⟩
          · have hperm : List.Perm (b1 ++ [g] ++ (bs ++ ob)) (b1 ++ bs ++ g :: ob) := by
              simp only [List.append_assoc, List.singleton_append]
              exact List.Perm.append_left b1 (List.perm_middle (l₁ := bs) (l₂ := ob) (a := g)).symm
            exact ⟨T2.w, T2.S, T2.rel, T2.sub, T2.used, T2.own, fun b hb => T2.was b (hperm.mem_iff.2 hb), fun b hb => T2.gone b (hperm.mem_iff.2 hb), hperm.nodup_iff.1 T2.nodup, T2.pt, T2.rows, T2.ob⟩
          · rcases List.mem_cons.1 hj with rfl | hj
            · rw [hcs]; simp
            · exact (hbox j (k2 j hj)).2
          · rw [k3 j]
            by_cases e : j = k
            · subst e; simp [upd_same]
            · simp only [upd_other _ _ e, g2, List.mem_cons, e, false_or]
          · cases i with
            | zero => simp at hij; subst hij; simpa using h1
            | succ i =>
              simp only [List.getElem?_cons_succ] at hij ⊢
              have := k6 i j hij
              have hne := (hbox j (k2 j (List.mem_of_getElem? hij))).1
              simp only [upd_other _ _ hne, g3] at this
              exact this
          · refine ⟨g, ob, us, b1, bs, rfl, rfl, g4 Ei hw hS, by rw [hw]; exact h3, by rw [hw, gl]; exact h4, k7 Ei (by rw [hw]; exact g1.w.symm) (fun x b hb => hS x b (by have := g1.S; simp only at hb; rw [this] at hb; exact hb))⟩
        · cases h
      · cases h
    · cases h
end
end Go.MG
