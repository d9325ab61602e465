/- What may be forgotten, or named anew, between two steps. -/
import Derived.Test.YtbjbagemlclgcaaMgT
namespace Go.MG
set_option linter.unusedSimpArgs false
set_option linter.unusedVariables false
set_option linter.unnecessarySimpa false

mutual
def Cell.plain : Cell → Bool
  | .ow .. | .bx .. => false
  | .clo _ caps => cplain caps
  | _ => true
def cplain : List Cell → Bool
  | [] => true
  | c :: cs => c.plain && cplain cs
end
/-- Whatever is as the first tells is as the second tells. -/
def Le (F : Fix) (σ τ : St) : Prop := ∀ a w, Rel F σ a w → Rel F τ a w
theorem Le.refl (F : Fix) (σ : St) : Le F σ σ := fun _ _ h => h
theorem Le.trans {F : Fix} {σ τ υ : St} (h : Le F σ τ) (h' : Le F τ υ) : Le F σ υ := fun a w hr => h' a w (h a w hr)

theorem WpC.le {P : Program} {F : Fix} {c : Code} {Q : Exit → St → Prop} {σ τ : St} (h : Le F σ τ) (k : WpC P F c Q τ) : WpC P F c Q σ := fun a w hr => k a w (h a w hr)
theorem L.le {P : Program} {F : Fix} {ops : Array Oper} {Q : St → Prop} {l : List Oper} {σ τ : St} (h : Le F σ τ) (k : WpL P F ops Q l τ) : WpL P F ops Q l σ := fun idx hidx a w hr => k idx hidx a w (h a w hr)
/-- Behind the first part only what matters is kept. -/
theorem WpC.join {P : Program} {F : Fix} (I : St → Prop) {x y : Code} {Q : Exit → St → Prop} {σ : St} (h' : ∀ τ, I τ → WpC P F y Q τ) (h : WpC P F x (thenA (fun σ => ∃ τ, I τ ∧ Le F σ τ) Q) σ) : WpC P F (.seq x y) Q σ :=
  WpC.seq ((h.mono fun e σ hq => by
    cases e with
    | normal => obtain ⟨τ, h1, h2⟩ := hq; exact WpC.le h2 (h' τ h1)
    | _ => exact hq))
theorem WpC.loopL {P : Program} {F : Fix} {c : Code} {Q : Exit → St → Prop} (I : Nat → St → Prop) {σ : St} (n : Nat) (h0 : ∃ τ, I n τ ∧ Le F σ τ) (round : ∀ n σ, I n σ → WpC P F c (thenA (fun σ' => ∃ m τ, m < n ∧ I m τ ∧ Le F σ' τ) Q) σ) : WpC P F (.loop c) Q σ := by
  obtain ⟨τ, h1, h2⟩ := h0
  refine WpC.loop (fun n σ => ∃ τ, I n τ ∧ Le F σ τ) n ⟨τ, h1, h2⟩ fun n σ ⟨τ, h1, h2⟩ => ?_
  refine WpC.le h2 ((round n τ h1).mono fun e σ hq => ?_)
  cases e with
  | normal => obtain ⟨m, τ, h1, h2, h3⟩ := hq; exact ⟨m, h1, τ, h2, h3⟩
  | _ => exact hq

mutual
def renC (π : Nat → Option Nat) : Cell → Option Cell
  | .own k => (π k).map .own
  | .sub k lo n => (π k).map fun k => .sub k lo n
  | .ptr k j => (π k).map fun k => .ptr k j
  | .ep k i j => (π k).map fun k => .ep k i j
  | .clo f caps => (renCs π caps).map (.clo f)
  | .ow .. | .bx .. => none
  | c => some c
def renCs (π : Nat → Option Nat) : List Cell → Option (List Cell)
  | [] => some []
  | c :: cs => match renC π c, renCs π cs with
    | some c', some cs' => some (c' :: cs')
    | _, _ => none
end
def renV (π : Nat → Option Nat) : V → Option V
  | .one c => (renC π c).map .one
  | .agg cs => (renCs π cs).map .agg
def renVs (π : Nat → Option Nat) : List V → Option (List V)
  | [] => some []
  | x :: xs => match renV π x, renVs π xs with
    | some x', some xs' => some (x' :: xs')
    | _, _ => none
def renS (π : Nat → Option Nat) : Slot → Option Slot
  | .v x => (renV π x).map .v
  | .tup xs => (renVs π xs).map .tup

section
variable {F : Fix}

structure Weak (m : Nat) (hs : List V) (π : Nat → Option Nat) (σ τ : St) : Prop where
  slots : ∀ t s', τ.slots t = some s' → ∃ s, renS π s' = some s ∧ σ.slots t = some s
  rows : ∀ k' r, τ.H.rows k' = some r → ∃ k, π k' = some k ∧ σ.H.rows k = some r
  boxes : ∀ k' cs', τ.H.boxes k' = some cs' → ∃ k cs, π k' = some k ∧ renCs π cs' = some cs ∧ σ.H.boxes k = some cs
  inj : ∀ k1 k2 k, π k1 = some k → π k2 = some k → k1 = k2
  used : ∀ k' k, π k' = some k → τ.H.used k' = true
  pin : ∀ k, k < m → π k = some k
  pinV : ∀ x ∈ hs, renV π x = some x
  lens : ∀ k, τ.H.lens k = none
  hv : ∀ k' v, τ.H.hv k' = some v → ∃ k, π k' = some k ∧ σ.H.hv k = some v

/-- The names, as they are called now. -/
def Env.ren (E : Env) (π : Nat → Option Nat) (H : Heap) : Env :=
  ⟨E.w, E.S, fun k => (π k).bind E.hdr, fun k => if (H.boxes k).isSome then (π k).bind E.blk else none, fun k => (π k).bind E.pt, fun k => match π k with | some k => E.sz k | none => 0, fun k => if (H.rows k).isSome then (match π k with | some k => E.ob k | none => []) else []⟩

mutual
theorem RC.ren {E : Env} {π : Nat → Option Nat} {H : Heap} : ∀ {c c' : Cell} {u : Value}, renC π c' = some c → RC E c u → RC (E.ren π H) c' u
  | _, .own k, u, h, hc => by
    simp only [renC, Option.map_eq_some_iff] at h
    obtain ⟨j, hj, rfl⟩ := h
    simp only [RC] at hc ⊢
    refine ⟨hc.1, fun h hh => hc.2 h ?_⟩
    simpa only [Env.ren, hj, Option.bind_some] using hh
  | _, .sub k lo n, u, h, hc => by
    simp only [renC, Option.map_eq_some_iff] at h
    obtain ⟨j, hj, rfl⟩ := h
    simp only [RC] at hc ⊢
    refine ⟨hc.1, fun h hh => ?_⟩
    simp only [Env.ren, hj, Option.bind_some] at hh ⊢
    exact hc.2 h hh
  | _, .ptr k i, u, h, hc => by
    simp only [renC, Option.map_eq_some_iff] at h
    obtain ⟨j, hj, rfl⟩ := h
    simp only [RC] at hc ⊢
    refine ⟨hc.1, fun b hb => hc.2 b ?_⟩
    simpa only [Env.ren, hj, Option.bind_some] using hb
  | _, .ep k i q, u, h, hc => by
    simp only [renC, Option.map_eq_some_iff] at h
    obtain ⟨j, hj, rfl⟩ := h
    simp only [RC] at hc ⊢
    refine ⟨hc.1, fun h hh => ?_⟩
    simp only [Env.ren, hj, Option.bind_some] at hh ⊢
    exact hc.2 h hh
  | _, .clo f caps, u, h, hc => by
    simp only [renC, Option.map_eq_some_iff] at h
    obtain ⟨cs, hcs, rfl⟩ := h
    simp only [RC] at hc ⊢
    obtain ⟨us, hu, hr⟩ := hc
    exact ⟨us, hu, RCs.ren hcs hr⟩
  | _, .imm v, u, h, hc => by simp only [renC, Option.some.injEq] at h; subst h; simpa only [RC] using hc
  | _, .nil, u, h, hc => by simp only [renC, Option.some.injEq] at h; subst h; simpa only [RC] using hc
  | _, .bad, u, h, hc => by simp only [renC, Option.some.injEq] at h; subst h; simpa only [RC] using hc
  | _, .sl g es, u, h, hc => by
    simp only [renC, Option.some.injEq] at h; subst h
    exact RC.sub (E := E) (E' := E.ren π H) (N := fun _ => False) ⟨fun _ _ h => h, fun _ _ _ => rfl, fun _ h => h.elim, fun _ h => h.elim, fun _ h => h.elim⟩ (fun k hk => by cases hk) hc
  | _, .pe g e j, u, h, hc => by
    simp only [renC, Option.some.injEq] at h; subst h
    exact RC.sub (E := E) (E' := E.ren π H) (N := fun _ => False) ⟨fun _ _ h => h, fun _ _ _ => rfl, fun _ h => h.elim, fun _ h => h.elim, fun _ h => h.elim⟩ (fun k hk => by cases hk) hc
  | _, .ow .., u, h, hc => by simp [renC] at h
  | _, .bx .., u, h, hc => by simp [renC] at h
  | _, .raw v, u, h, hc => by simp only [renC, Option.some.injEq] at h; subst h; simpa only [RC] using hc
theorem RCs.ren {E : Env} {π : Nat → Option Nat} {H : Heap} : ∀ {cs cs' : List Cell} {us : List Value}, renCs π cs' = some cs → RCs E cs us → RCs (E.ren π H) cs' us
  | _, [], us, h, hc => by simp only [renCs, Option.some.injEq] at h; subst h; simpa only [RCs] using hc
  | _, c' :: cs', us, h, hc => by
    unfold renCs at h
    split at h
    · rename_i c cs h1 h2
      cases h
      simp only [RCs] at hc ⊢
      obtain ⟨u, us', hu, h3, h4⟩ := hc
      exact ⟨u, us', hu, RC.ren h1 h3, RCs.ren h2 h4⟩
    · cases h
end

mutual
theorem renC_names {π : Nat → Option Nat} : ∀ {c c' : Cell}, renC π c' = some c → ∀ k ∈ c'.names, ∃ j, π k = some j
  | _, .own k, h, q, hq => by simp [Cell.names] at hq; subst hq; simp only [renC, Option.map_eq_some_iff] at h; exact ⟨_, h.choose_spec.1⟩
  | _, .sub k lo n, h, q, hq => by simp [Cell.names] at hq; subst hq; simp only [renC, Option.map_eq_some_iff] at h; exact ⟨_, h.choose_spec.1⟩
  | _, .ptr k i, h, q, hq => by simp [Cell.names] at hq; subst hq; simp only [renC, Option.map_eq_some_iff] at h; exact ⟨_, h.choose_spec.1⟩
  | _, .ep k i j, h, q, hq => by simp [Cell.names] at hq; subst hq; simp only [renC, Option.map_eq_some_iff] at h; exact ⟨_, h.choose_spec.1⟩
  | _, .clo f caps, h, q, hq => by
    simp only [renC, Option.map_eq_some_iff] at h
    obtain ⟨cs, hcs, rfl⟩ := h
    exact renCs_names hcs q (by simpa [Cell.names] using hq)
  | _, .imm v, h, q, hq => by simp [Cell.names] at hq
  | _, .nil, h, q, hq => by simp [Cell.names] at hq
  | _, .bad, h, q, hq => by simp [Cell.names] at hq
  | _, .sl g es, h, q, hq => by simp [Cell.names] at hq
  | _, .pe g e j, h, q, hq => by simp [Cell.names] at hq
  | _, .ow .., h, q, hq => by simp [Cell.names] at hq
  | _, .bx .., h, q, hq => by simp [Cell.names] at hq
theorem renCs_names {π : Nat → Option Nat} : ∀ {cs cs' : List Cell}, renCs π cs' = some cs → ∀ k ∈ cnames cs', ∃ j, π k = some j
  | _, [], h, q, hq => by simp [cnames] at hq
  | _, c' :: cs', h, q, hq => by
    unfold renCs at h
    split at h
    · rename_i c cs h1 h2
      simp only [cnames, List.mem_append] at hq
      exact hq.elim (renC_names h1 q) (renCs_names h2 q)
    · cases h
end

theorem renV_ok {E : Env} {π : Nat → Option Nat} {H : Heap} {x x' : V} {u : Value} (h : renV π x' = some x) (hs : RV E x u) : RV (E.ren π H) x' u ∧ ∀ k ∈ x'.names, ∃ j, π k = some j := by
  cases x' with
  | one c' =>
    simp only [renV, Option.map_eq_some_iff] at h
    obtain ⟨c, hc, rfl⟩ := h
    exact ⟨RC.ren hc hs, fun k hk => renC_names hc k (by simpa [V.names, V.cells, cnames] using hk)⟩
  | agg cs' =>
    simp only [renV, Option.map_eq_some_iff] at h
    obtain ⟨cs, hc, rfl⟩ := h
    obtain ⟨us, hu, hr⟩ := hs
    exact ⟨⟨us, hu, RCs.ren hc hr⟩, fun k hk => renCs_names hc k hk⟩
theorem renVs_ok {E : Env} {π : Nat → Option Nat} {H : Heap} : ∀ {xs xs' : List V} {us : List Value}, renVs π xs' = some xs → RVs E xs us → RVs (E.ren π H) xs' us ∧ ∀ x ∈ xs', ∀ k ∈ x.names, ∃ j, π k = some j
  | _, [], us, h, hs => by simp only [renVs, Option.some.injEq] at h; subst h; exact ⟨hs, fun x hx => by cases hx⟩
  | _, x' :: xs', us, h, hs => by
    unfold renVs at h
    split at h
    · rename_i x xs h1 h2
      cases h
      obtain ⟨u, us', rfl, h3, h4⟩ := hs
      obtain ⟨a1, a2⟩ := renV_ok (H := H) h1 h3
      obtain ⟨b1, b2⟩ := renVs_ok h2 h4
      refine ⟨⟨u, us', rfl, a1, b1⟩, fun x hx => ?_⟩
      rcases List.mem_cons.1 hx with rfl | hx
      · exact a2
      · exact b2 x hx
    · cases h
theorem renS_ok {E : Env} {π : Nat → Option Nat} {H : Heap} {s s' : Slot} {u : Value} (h : renS π s' = some s) (hs : RSlot E s u) : RSlot (E.ren π H) s' u ∧ ∀ k ∈ s'.names, ∃ j, π k = some j := by
  cases s' with
  | tup xs =>
    simp only [renS, Option.map_eq_some_iff] at h
    obtain ⟨y, hy, rfl⟩ := h
    obtain ⟨us, hu, hr⟩ := hs
    obtain ⟨a1, a2⟩ := renVs_ok (H := H) hy hr
    refine ⟨⟨us, hu, a1⟩, fun k hk => ?_⟩
    simp only [Slot.names, List.mem_flatMap] at hk
    obtain ⟨x, hx, hk⟩ := hk
    exact a2 x hx k hk
  | v x =>
    simp only [renS, Option.map_eq_some_iff] at h
    obtain ⟨y, hy, rfl⟩ := h
    exact renV_ok hy hs

theorem Weak.le {m : Nat} {hs : List V} {π : Nat → Option Nat} {σ τ : St} (hm : Pinned F m hs) (h : Weak m hs π σ τ) : Le F σ τ := by
  rintro a w ⟨E, rfl, hH, hS, hP⟩
  have hdr : ∀ k' v, (E.ren π τ.H).hdr k' = some v → ∃ k, π k' = some k ∧ E.hdr k = some v := by
    intro k' v hv
    simpa [Env.ren, Option.bind_eq_some_iff] using hv
  have lv : ∀ k' b, b ∈ (E.ren π τ.H).ob k' → (τ.H.rows k').isSome = true ∧ ∃ k, π k' = some k ∧ b ∈ E.ob k := by
    intro k' b hv
    simp only [Env.ren] at hv
    split at hv
    · rename_i h1
      refine ⟨h1, ?_⟩
      cases hp : π k' with
      | none => rw [hp] at hv; cases hv
      | some k => rw [hp] at hv; exact ⟨k, rfl, hv⟩
    · cases hv
  have blk : ∀ k' v, (E.ren π τ.H).blk k' = some v → ∃ k, π k' = some k ∧ E.blk k = some v := by
    intro k' v hv
    simp only [Env.ren] at hv
    split at hv
    · simpa [Option.bind_eq_some_iff] using hv
    · cases hv
  have own : ∀ k' b, Own (E.ren π τ.H) k' b → ∃ k, π k' = some k ∧ Own E k b := by
    rintro k' b (hk | hk)
    · obtain ⟨_, k, h1, h2⟩ := lv _ _ hk
      exact ⟨k, h1, .inl h2⟩
    · obtain ⟨k, h1, h2⟩ := blk _ _ hk; exact ⟨k, h1, .inr h2⟩
  have s0 : Sub E (E.ren π τ.H) (fun _ => False) := ⟨fun _ _ h => h, fun _ _ _ => rfl, fun _ h => h.elim, fun _ h => h.elim, fun _ h => h.elim⟩
  refine ⟨E.ren π τ.H, rfl, ⟨fun k' r hr => ?_, fun k' cs' hc => ?_, fun k' hk => ?_, fun k' hk => ?_, fun k' => ?_, fun k1 k2 b h1 h2 => ?_, fun k' b hk => ?_, hH.S, hH.SS, hH.Ssub, hH.Ssup, fun k' g hk => ?_, hH.fr, fun k' hk => ?_, fun k' cs' hc => ?_, fun k' => ?_, fun k' n hn => (by rw [h.lens] at hn; cases hn), fun k' n hn => (by obtain ⟨k, h1, h2⟩ := h.hv k' n hn; exact ⟨h.used k' k h1, by simp [Env.ren, h1, (hH.hv k n h2).2]⟩)⟩, ⟨hS.size, hS.defers, fun t s' hs' => ?_, fun t s' hs' k' hk => ?_⟩, fun k hk => ?_, fun p hp => ?_⟩
  · obtain ⟨k, h1, h2⟩ := h.rows k' r hr
    obtain ⟨a1, a2, hd, a3, a4, a5⟩ := hH.rows k r h2
    refine ⟨a1, a2, hd, by simp [Env.ren, h1, a3], by simp [Env.ren, h1, a4], ?_⟩
    have e0 : (E.ren π τ.H).ob k' = E.ob k := by simp [Env.ren, h1, hr]
    rw [e0]
    exact a5.chg s0 a2 (fun _ _ => rfl)
  · obtain ⟨k, cs, h1, h2, h3⟩ := h.boxes k' cs' hc
    obtain ⟨g, us, b1, b2, b3, b4⟩ := hH.boxes k cs h3
    refine ⟨g, us, by simp [Env.ren, hc, h1, b1], RCs.ren h2 b2, b3, ?_⟩
    have e1 := b2.length
    have e2 := (RCs.ren (H := τ.H) h2 b2).length
    rw [← e2, e1]; exact b4
  · simp [Env.ren, hk]
  · simp [Env.ren, hk]
  · cases e1 : τ.H.rows k' with
    | none => exact .inl rfl
    | some r =>
      cases e2 : (E.ren π τ.H).blk k' with
      | none => exact .inr rfl
      | some v' =>
        obtain ⟨k, h1, h2⟩ := h.rows k' r e1
        obtain ⟨j, h3, h4⟩ := blk _ _ e2
        rw [h1] at h3; cases h3
        rcases hH.both k with e | e
        · rw [e] at h2; cases h2
        · rw [e] at h4; cases h4
  · obtain ⟨j1, a1, a2⟩ := own _ _ h1
    obtain ⟨j2, b1, b2⟩ := own _ _ h2
    have := hH.uniq _ _ _ a2 b2
    subst this
    exact h.inj _ _ _ a1 b1
  · obtain ⟨k, _, h2⟩ := own _ _ hk
    exact hH.own k b h2
  · obtain ⟨k, h1, h2⟩ := blk _ _ hk
    simp [Env.ren, h1, hH.pt k g h2]
  · cases hr : τ.H.rows k' with
    | none => exact absurd hr hk
    | some r => obtain ⟨k, h1, _⟩ := h.rows k' r hr; exact h.used k' k h1
  · obtain ⟨k, cs, h1, h2, _⟩ := h.boxes k' cs' hc
    refine ⟨h.used k' k h1, fun j hj => ?_⟩
    obtain ⟨i, hi⟩ := renCs_names h2 j hj
    exact h.used j i hi
  · simp only [Env.ren]
    split
    · split
      · exact hH.nodup _
      · exact List.nodup_nil
    · exact List.nodup_nil
  · obtain ⟨s, h1, h2⟩ := h.slots t s' hs'
    exact (renS_ok h1 (hS.slots t s h2)).1
  · obtain ⟨s, h1, h2⟩ := h.slots t s' hs'
    obtain ⟨i, hi⟩ := (renS_ok (H := τ.H) h1 (hS.slots t s h2)).2 k' hk
    exact h.used k' i hi
  · rw [hm.ob] at hk
    have hk' := h.pin k hk
    refine ⟨h.used k k hk', fun g hg => (hP.1 k (by rw [hm.ob]; exact hk)).2 g ?_⟩
    simpa [Env.ren, hk'] using hg
  · have h1 : renV π p.1 = some p.1 := h.pinV p.1 (by rw [← hm.oh]; exact List.mem_map_of_mem (f := Prod.fst) hp)
    obtain ⟨h2, h3⟩ := renV_ok (H := τ.H) h1 (hP.2 p hp).1
    refine ⟨h2, fun k hk => ?_⟩
    obtain ⟨j, hj⟩ := h3 k hk
    exact h.used k j hj

/-! ### the same, over lists -/
def mkSt (sl : List (Nat × Slot)) (rows : List (Nat × Row)) (boxes : List (Nat × List Cell)) (base : Nat) : St :=
  ⟨fun t => sl.lookup t, fun k => rows.lookup k, fun k => boxes.lookup k, base, fun _ => false, fun _ => none, fun _ => none⟩
def mkStH (sl : List (Nat × Slot)) (rows : List (Nat × Row)) (boxes : List (Nat × List Cell)) (base : Nat) (hvs : List (Nat × Value)) : St :=
  ⟨fun t => sl.lookup t, fun k => rows.lookup k, fun k => boxes.lookup k, base, fun _ => false, fun _ => none, fun k => hvs.lookup k⟩
def HvOk (π : Nat → Option Nat) (σ : St) (l : List (Nat × Value)) : Prop := ∀ p ∈ l, ∃ k, π p.1 = some k ∧ σ.H.hv k = some p.2
def SlotsOk (π : Nat → Option Nat) (σ : St) : List (Nat × Slot) → Prop
  | [] => True
  | (t, s') :: l => (∃ s, renS π s' = some s ∧ σ.slots t = some s) ∧ SlotsOk π σ l
def RowsOk (π : Nat → Option Nat) (σ : St) : List (Nat × Row) → Prop
  | [] => True
  | (k', r) :: l => (∃ k, π k' = some k ∧ σ.H.rows k = some r) ∧ RowsOk π σ l
def BoxesOk (π : Nat → Option Nat) (σ : St) : List (Nat × List Cell) → Prop
  | [] => True
  | (k', cs') :: l => (∃ k cs, π k' = some k ∧ renCs π cs' = some cs ∧ σ.H.boxes k = some cs) ∧ BoxesOk π σ l
def nodupB : List Nat → Bool
  | [] => true
  | a :: l => !l.contains a && nodupB l
/-- The names are few, unlike and below the base; the first m keep theirs. -/
def namesB (m base : Nat) (l : List (Nat × Nat)) : Bool :=
  nodupB (l.map (·.2)) && l.all (fun p => Nat.blt p.1 base) && (List.range m).all (fun k => l.lookup k == some k)

theorem lookup_mem {β : Type} : ∀ {l : List (Nat × β)} {k : Nat} {b : β}, l.lookup k = some b → (k, b) ∈ l
  | [], k, b, h => by simp at h
  | (j, c) :: l, k, b, h => by
    simp only [List.lookup] at h
    split at h
    · rename_i e; cases h; rw [eq_of_beq e]; simp
    · exact List.mem_cons_of_mem _ (lookup_mem h)

theorem nodupB_inj : ∀ {l : List (Nat × Nat)}, nodupB (l.map (·.2)) = true → ∀ k1 k2 k, l.lookup k1 = some k → l.lookup k2 = some k → k1 = k2
  | [], _, k1, k2, k, h1, _ => by simp at h1
  | (j, c) :: l, h, k1, k2, k, h1, h2 => by
    simp only [List.map_cons, nodupB, Bool.and_eq_true, Bool.not_eq_true'] at h
    have hin : ∀ q, l.lookup q = some c → False := by
      intro q hq
      have this : c ∈ l.map (fun x : Nat × Nat => x.2) := List.mem_map.2 ⟨(q, c), lookup_mem hq, rfl⟩
      have hc : (l.map (fun x : Nat × Nat => x.2)).contains c = true := by simpa using this
      rw [hc] at h; exact absurd h.1 (by simp)
    simp only [List.lookup] at h1 h2
    split at h1
    · rename_i e1
      cases h1
      split at h2
      · rename_i e2; rw [eq_of_beq e1, eq_of_beq e2]
      · exact (hin _ h2).elim
    · split at h2
      · cases h2; exact (hin _ h1).elim
      · exact nodupB_inj h.2 k1 k2 k h1 h2

theorem SlotsOk.get {π : Nat → Option Nat} {σ : St} : ∀ {l : List (Nat × Slot)}, SlotsOk π σ l → ∀ t s', l.lookup t = some s' → ∃ s, renS π s' = some s ∧ σ.slots t = some s
  | [], _, t, s', h => by simp at h
  | (j, c) :: l, hl, t, s', h => by
    simp only [List.lookup] at h
    split at h
    · rename_i e; cases h; rw [eq_of_beq e]; exact hl.1
    · exact SlotsOk.get hl.2 t s' h
theorem RowsOk.get {π : Nat → Option Nat} {σ : St} : ∀ {l : List (Nat × Row)}, RowsOk π σ l → ∀ k' r, l.lookup k' = some r → ∃ k, π k' = some k ∧ σ.H.rows k = some r
  | [], _, t, s', h => by simp at h
  | (j, c) :: l, hl, t, s', h => by
    simp only [List.lookup] at h
    split at h
    · rename_i e; cases h; rw [eq_of_beq e]; exact hl.1
    · exact RowsOk.get hl.2 t s' h
theorem BoxesOk.get {π : Nat → Option Nat} {σ : St} : ∀ {l : List (Nat × List Cell)}, BoxesOk π σ l → ∀ k' cs', l.lookup k' = some cs' → ∃ k cs, π k' = some k ∧ renCs π cs' = some cs ∧ σ.H.boxes k = some cs
  | [], _, t, s', h => by simp at h
  | (j, c) :: l, hl, t, s', h => by
    simp only [List.lookup] at h
    split at h
    · rename_i e; cases h; rw [eq_of_beq e]; exact hl.1
    · exact BoxesOk.get hl.2 t s' h

/-- The arguments that are given back keep their names. -/
def pinB (π : Nat → Option Nat) : List V → Bool
  | [] => true
  | x :: xs => x.names.all (fun k => π k == some k) && pinB π xs
mutual
theorem renC_same {π : Nat → Option Nat} : ∀ {c : Cell}, c.plain = true → (∀ k ∈ c.names, π k = some k) → renC π c = some c
  | .own k, _, h => by simp [renC, h k (by simp [Cell.names])]
  | .sub k lo n, _, h => by simp [renC, h k (by simp [Cell.names])]
  | .ptr k j, _, h => by simp [renC, h k (by simp [Cell.names])]
  | .ep k i j, _, h => by simp [renC, h k (by simp [Cell.names])]
  | .clo f caps, hp, h => by
    simp only [Cell.plain] at hp
    simp only [renC, renCs_same hp (by simpa only [Cell.names] using h), Option.map_some]
  | .imm v, _, _ => by simp [renC]
  | .nil, _, _ => by simp [renC]
  | .bad, _, _ => by simp [renC]
  | .raw _, _, _ => by simp [renC]
  | .sl g es, _, _ => by simp [renC]
  | .pe g e j, _, _ => by simp [renC]
  | .ow .., hp, _ => by simp [Cell.plain] at hp
  | .bx .., hp, _ => by simp [Cell.plain] at hp
theorem renCs_same {π : Nat → Option Nat} : ∀ {cs : List Cell}, cplain cs = true → (∀ k ∈ cnames cs, π k = some k) → renCs π cs = some cs
  | [], _, _ => by simp [renCs]
  | c :: cs, hp, h => by
    simp only [cplain, Bool.and_eq_true] at hp
    simp only [cnames, List.mem_append] at h
    simp only [renCs, renC_same hp.1 (fun k hk => h k (.inl hk)), renCs_same hp.2 (fun k hk => h k (.inr hk))]
end
theorem renV_same {π : Nat → Option Nat} {x : V} (hp : cplain x.cells = true) (h : ∀ k ∈ x.names, π k = some k) : renV π x = some x := by
  cases x with
  | one c =>
    simp only [V.cells, cplain, Bool.and_true] at hp
    simp only [renV, renC_same hp (fun k hk => h k (by simpa [V.names, V.cells, cnames] using hk)), Option.map_some]
  | agg cs =>
    have : renCs π cs = some cs := renCs_same hp h
    simp only [renV, this, Option.map_some]
theorem pinB_ok {π : Nat → Option Nat} : ∀ {xs : List V}, pinB π xs = true → (∀ x ∈ xs, cplain x.cells = true) → ∀ x ∈ xs, renV π x = some x
  | [], _, _, x, hx => by cases hx
  | y :: xs, h, hp, x, hx => by
    simp only [pinB, Bool.and_eq_true, List.all_eq_true, beq_iff_eq] at h
    rcases List.mem_cons.1 hx with rfl | hx
    · exact renV_same (hp x (by simp)) h.1
    · exact pinB_ok h.2 (fun x hx => hp x (by simp [hx])) x hx

theorem Le.mk {m : Nat} {hs : List V} {σ : St} {sl : List (Nat × Slot)} {rows : List (Nat × Row)} {boxes : List (Nat × List Cell)} {base : Nat} (π : List (Nat × Nat)) (hm : Pinned F m hs) (hn : (namesB m base π && pinB (π.lookup ·) hs && hs.all (fun x => cplain x.cells)) = true) (hs : SlotsOk (π.lookup ·) σ sl) (hr : RowsOk (π.lookup ·) σ rows) (hb : BoxesOk (π.lookup ·) σ boxes) :
    Le F σ (mkSt sl rows boxes base) := by
  simp only [Bool.and_eq_true] at hn
  obtain ⟨⟨hn, hp1⟩, hp2⟩ := hn
  simp only [namesB, Bool.and_eq_true, List.all_eq_true] at hn hp2
  refine Weak.le hm ⟨fun t s' h => hs.get t s' h, fun k' r h => hr.get k' r h, fun k' cs' h => hb.get k' cs' h, nodupB_inj hn.1.1, fun k' k h => ?_, fun k hk => ?_, fun x hx => ?_, fun _ => rfl, fun _ _ hv => by cases hv⟩
  · have := hn.1.2 _ (lookup_mem h)
    simp only [Nat.blt_eq] at this
    simp [mkSt, Heap.used, this]
  · exact eq_of_beq (hn.2 k (by simpa using hk))
  · exact pinB_ok hp1 hp2 x hx

theorem Le.mkH {m : Nat} {hs : List V} {σ : St} {sl : List (Nat × Slot)} {rows : List (Nat × Row)} {boxes : List (Nat × List Cell)} {base : Nat} {hvs : List (Nat × Value)} (π : List (Nat × Nat)) (hm : Pinned F m hs) (hn : (namesB m base π && pinB (π.lookup ·) hs && hs.all (fun x => cplain x.cells)) = true) (hs : SlotsOk (π.lookup ·) σ sl) (hr : RowsOk (π.lookup ·) σ rows) (hb : BoxesOk (π.lookup ·) σ boxes) (hvv : HvOk (π.lookup ·) σ hvs) :
    Le F σ (mkStH sl rows boxes base hvs) := by
  simp only [Bool.and_eq_true] at hn
  obtain ⟨⟨hn, hp1⟩, hp2⟩ := hn
  simp only [namesB, Bool.and_eq_true, List.all_eq_true] at hn hp2
  refine Weak.le hm ⟨fun t s' h => hs.get t s' h, fun k' r h => hr.get k' r h, fun k' cs' h => hb.get k' cs' h, nodupB_inj hn.1.1, fun k' k h => ?_, fun k hk => ?_, fun x hx => ?_, fun _ => rfl, fun k v hv => hvv (k, v) (lookup_mem hv)⟩
  · have := hn.1.2 _ (lookup_mem h)
    simp only [Nat.blt_eq] at this
    simp [mkStH, Heap.used, this]
  · exact eq_of_beq (hn.2 k (by simpa using hk))
  · exact pinB_ok hp1 hp2 x hx

/-- An empty slice that is nowhere becomes one's own. -/
theorem Le.adopt {σ : St} (t q sz : Nat) (hs : σ.slots t = some (.v (.one .nil))) (hq : σ.H.used q = false) : Le F σ ⟨upd σ.slots t (some (.v (.one (.own q)))), { σ.H with rows := upd σ.H.rows q (some ⟨sz, []⟩), made := upd σ.H.made q true }⟩ := by
  rintro a w ⟨E, rfl, hH, hS, hP⟩
  obtain ⟨b1, b2⟩ := hH.addRow (r := ⟨sz, []⟩) (hd := .slice none 0 0) (bs := []) hq (by simp) Flat.nil (.inl ⟨rfl, rfl, rfl⟩) List.nodup_nil (fun g hg => by cases hg)
  have hu : ∀ k, σ.H.used k = true → Heap.used { σ.H with rows := upd σ.H.rows q (some ⟨sz, []⟩), made := upd σ.H.made q true } k = true := by
    intro k hk
    by_cases e : k = q
    · subst e; simp [Heap.used, upd_same]
    · simpa [Heap.used, upd_other _ _ e] using hk
  have h0 := hS.slots t _ hs
  simp only [RSlot, RV, RC] at h0
  refine ⟨E.rowAt q (.slice none 0 0) sz [], rfl, b1, ⟨hS.size, hS.defers, fun t' s (h : upd σ.slots t (some (.v (.one (.own q)))) t' = some s) => ?_, fun t' s (h : upd σ.slots t (some (.v (.one (.own q)))) t' = some s) k hk => ?_⟩, hP.sub b2 hu⟩
  · by_cases e : t' = t
    · subst e
      rw [upd_same] at h; cases h
      simp only [RSlot, RV, RC, Env.rowAt, upd_same]
      rw [h0]
      exact ⟨rfl, fun h hh => by cases hh; rfl⟩
    · rw [upd_other _ _ e] at h
      exact (hS.slots t' s h).sub b2 (hS.used t' s h)
  · by_cases e : t' = t
    · subst e
      rw [upd_same] at h; cases h
      simp [Slot.names, V.names, V.cells, cnames, Cell.names] at hk
      subst hk; simp [Heap.used, upd_same]
    · rw [upd_other _ _ e] at h
      exact hu k (hS.used t' s h k hk)
end
end Go.MG
