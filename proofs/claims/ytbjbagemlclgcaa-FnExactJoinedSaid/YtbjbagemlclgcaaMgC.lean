/- Writing into owned memory; giving it up; sharing it for good. -/
import Derived.Test.YtbjbagemlclgcaaMgB
namespace Go.MG
set_option linter.unusedVariables false
set_option linter.unusedSimpArgs false
set_option linter.unnecessarySimpa false

/-- Only block g has turned. -/
structure Only (w w' : World) (g : Nat) : Prop where
  os : w'.os = w.os
  tape : w'.tape = w.tape
  output : w'.output = w.output
  size : w'.heap.size = w.heap.size
  block : ∀ b, b ≠ g → w'.heap[b]? = w.heap[b]?

theorem Fr.only {F : Fix} {w w' : World} {g : Nat} (h : Fr F.w0 F.T w) (c : Only w w' g) (hg : F.w0.heap.size ≤ g ∨ F.T g) : Fr F.w0 F.T w' := by
  refine ⟨c.os.trans h.os, c.tape.trans h.tape, c.output.trans h.output, by rw [c.size]; exact h.size, fun b hb hT => ?_⟩
  rw [c.block b (fun e => by subst e; exact hg.elim (fun h1 => by omega) hT)]
  exact h.block b hb hT

theorem Sub.only {E : Env} {w' : World} {g : Nat} (c : Only E.w w' g) (hg : ∀ k, ¬ E.S k g) (N : Nat → Prop) : Sub E { E with w := w' } N :=
  ⟨fun _ _ h => h, fun k b hS => c.block b (fun e => hg k (e ▸ hS)), fun _ _ => rfl, fun _ _ _ h => h, fun _ _ _ _ => rfl⟩

theorem Own.set {E : Env} {w' : World} {k : Nat} {bs : List Nat} {j b : Nat} (h : Own { E with w := w', ob := upd E.ob k bs } j b) : (j = k ∧ b ∈ bs) ∨ Own E j b := by
  rcases h with h | h
  · by_cases e : j = k
    · subst e; simp only [upd_same] at h; exact .inl ⟨rfl, h⟩
    · simp only [upd_other _ _ e] at h; exact .inr (.inl h)
  · exact .inr (.inr h)

theorem RelH.setBox {F : Fix} {H : Heap} {E : Env} (h : RelH F H E) {k g : Nat} {cs cs' : List Cell} {us' : List Value} {w' : World} (hk : H.boxes k = some cs) (hb : E.blk k = some g) (c : Only E.w w' g)
    (hr : RCs E cs' us') (hn : ∀ j ∈ cnames cs', H.used j = true) (hat : w'.rangeAt g 0 us') (hth : w'.there g 0 cs'.length) :
    RelH F { H with boxes := upd H.boxes k (some cs') } { E with w := w' } ∧ Sub E { E with w := w' } (fun k => H.used k = true) := by
  have ho := h.own k g (.inr hb)
  have s := fun N => Sub.only c ho.1 N
  have hku : ∀ j, Heap.used { H with boxes := upd H.boxes k (some cs') } j = H.used j := fun j => rfl
  refine ⟨⟨fun j q hq => ?_, fun j ds hc => ?_, h.hdr0, fun j hj => ?_, h.both, h.uniq, fun j b hj => ?_, fun x b hS => by rw [c.size]; exact h.S x b hS, h.SS, h.Ssub, h.Ssup, h.pt, h.fr.only c ho.2.2, h.usedR, fun j ds hc => ?_, h.nodup, h.lens, h.hv⟩, s _⟩
  · obtain ⟨h1, h2, hd', h3, h4, h5⟩ := h.rows j q hq
    refine ⟨h1, h2, hd', h3, h4, h5.chg (s fun _ => True) h2 (fun b hbj => c.block b fun e' => ?_)⟩
    subst e'
    have := h.uniq j k b (.inl hbj) (.inr hb)
    subst this
    rcases h.both j with e1 | e1
    · rw [hq] at e1; cases e1
    · rw [hb] at e1; cases e1
  · by_cases e : j = k
    · subst e
      simp only [upd_same] at hc; cases hc
      exact ⟨g, us', hb, hr.sub (s fun _ => True) (fun _ _ => trivial), hat, hth⟩
    · simp only [upd_other _ _ e] at hc
      obtain ⟨g', us, h1, h2, h3, h4⟩ := h.boxes j ds hc
      have hg' : w'.heap[g']? = E.w.heap[g']? := c.block g' fun e' => e (h.uniq j k g' (.inr h1) (.inr (by rw [e', hb])))
      exact ⟨g', us, h1, h2.sub (s fun _ => True) (fun _ _ => trivial), rangeAt_of_block hg' h3, there_of_block hg' h4⟩
  · by_cases e : j = k
    · subst e; simp [upd_same] at hj
    · simp only [upd_other _ _ e] at hj; exact h.blk0 j hj
  · have := h.own j b hj; exact ⟨this.1, by rw [c.size]; exact this.2.1, this.2.2⟩
  · by_cases e : j = k
    · subst e
      simp only [upd_same] at hc; cases hc
      exact ⟨(h.usedB j cs hk).1, hn⟩
    · simp only [upd_other _ _ e] at hc; exact h.usedB j ds hc

/-- A row's elements turn; what they own may turn, too. -/
theorem RelH.setRow {F : Fix} {H : Heap} {E : Env} (h : RelH F H E) {k g n cap : Nat} {r r' : Row} {w' : World} {bs : List Nat} (hk : H.rows k = some r) (hb : E.hdr k = some (.slice (some ⟨g, 0, none⟩) n cap)) (c : Only E.w w' g)
    (hl : r'.es.length = r.es.length) (hsz : r'.sz = r.sz) (hle : ∀ e ∈ r'.es, e.length = r'.sz) (hf : Flat r'.es) (hth : w'.there g 0 (cap * r.sz)) (hrow : RXRow { E with w := w' } g 0 r'.sz r'.es bs)
    (hnd : (g :: bs).Nodup) (hbs : ∀ b ∈ bs, b ∈ E.ob k ∨ ((∀ c, ¬ E.S c b) ∧ (∀ j, ¬ Own E j b) ∧ b < E.w.heap.size ∧ (F.w0.heap.size ≤ b ∨ F.T b))) :
    RelH F { H with rows := upd H.rows k (some r') } { E with w := w', ob := upd E.ob k (g :: bs) } ∧ Sub E { E with w := w', ob := upd E.ob k (g :: bs) } (fun k => H.used k = true) := by
  have hg : g ∈ E.ob k := by
    obtain ⟨_, _, hd', h3, _, h5⟩ := h.rows k r hk
    rw [hb] at h3; cases h3; exact h5.head
  have ho := h.own k g (.inl hg)
  have s : ∀ N, Sub E { E with w := w', ob := upd E.ob k (g :: bs) } N := fun N => by
    have := Sub.only c ho.1 N
    exact ⟨this.S, this.mem, this.hdrE, this.pt, this.sz⟩
  have hin : ∀ b ∈ g :: bs, b ∈ E.ob k ∨ ((∀ c, ¬ E.S c b) ∧ (∀ j, ¬ Own E j b) ∧ b < E.w.heap.size ∧ (F.w0.heap.size ≤ b ∨ F.T b)) := fun b hb => by
    rcases List.mem_cons.1 hb with rfl | hb
    · exact .inl hg
    · exact hbs b hb
  refine ⟨⟨fun j q hq => ?_, fun j ds hc => ?_, fun j hj => ?_, h.blk0, fun j => ?_, fun j j' b hj hj' => ?_, fun j b hj => ?_, fun x b hS => by rw [c.size]; exact h.S x b hS, h.SS, h.Ssub, h.Ssup, h.pt, h.fr.only c ho.2.2, fun j hj => ?_, h.usedB, fun j => ?_, h.lens, h.hv⟩, s _⟩
  · by_cases e : j = k
    · subst e
      simp only [upd_same] at hq; cases hq
      obtain ⟨h1, h2, hd', h3, h4, h5⟩ := h.rows j r hk
      rw [hb] at h3; cases h3
      refine ⟨hle, hf, _, hb, by rw [hsz]; exact h4, ?_⟩
      simp only [upd_same]
      rcases h5 with ⟨h6, _⟩ | ⟨g', cap', bs', h6, h7, h8, h9, h10⟩
      · cases h6
      · cases h6
        refine .inr ⟨g, cap, bs, by rw [hl], by rw [hl]; exact h7, by rw [hsz]; exact hth, ?_, rfl⟩
        exact RXRow.sub (E := { E with w := w' }) (E' := { E with w := w', ob := upd E.ob j (g :: bs) }) (N := fun _ => True) ⟨fun _ _ h => h, fun _ _ _ => rfl, fun _ _ => rfl, fun _ _ _ h => h, fun _ _ _ _ => rfl⟩ rfl (fun _ _ => rfl) (fun _ _ => trivial) hrow
    · simp only [upd_other _ _ e] at hq
      obtain ⟨h1, h2, hd', h3, h4, h5⟩ := h.rows j q hq
      refine ⟨h1, h2, hd', h3, h4, ?_⟩
      simp only [upd_other _ _ e]
      exact h5.chg (s fun _ => True) h2 (fun b hbj => c.block b fun e' => e (h.uniq j k b (.inl hbj) (.inl (e' ▸ hg))))
  · obtain ⟨g', us, h1, h2, h3, h4⟩ := h.boxes j ds hc
    have hg' : w'.heap[g']? = E.w.heap[g']? := c.block g' fun e' => by
      subst e'
      have := h.uniq j k g' (.inr h1) (.inl hg)
      subst this
      rcases h.both j with e1 | e1
      · rw [hk] at e1; cases e1
      · rw [h1] at e1; cases e1
    exact ⟨g', us, h1, h2.sub (s fun _ => True) (fun _ _ => trivial), rangeAt_of_block hg' h3, there_of_block hg' h4⟩
  · by_cases e : j = k
    · subst e; simp [upd_same] at hj
    · simp only [upd_other _ _ e] at hj ⊢; exact h.hdr0 j hj
  · by_cases e : j = k
    · subst e
      rcases h.both j with e1 | e1
      · rw [hk] at e1; cases e1
      · exact .inr e1
    · simp only [upd_other _ _ e]; exact h.both j
  · rcases Own.set hj with ⟨e1, o1⟩ | o1 <;> rcases Own.set hj' with ⟨e2, o2⟩ | o2
    · rw [e1, e2]
    · rcases hin b o1 with h1 | h1
      · rw [e1]; exact h.uniq k j' b (.inl h1) o2
      · exact absurd o2 (h1.2.1 j')
    · rcases hin b o2 with h1 | h1
      · rw [e2]; exact h.uniq j k b o1 (.inl h1)
      · exact absurd o1 (h1.2.1 j)
    · exact h.uniq j j' b o1 o2
  · have key : (∀ g, ¬ E.S g b) ∧ b < E.w.heap.size ∧ (F.w0.heap.size ≤ b ∨ F.T b) := by
      rcases Own.set hj with ⟨e1, o1⟩ | o1
      · rcases hin b o1 with h1 | h1
        · exact h.own k b (.inl h1)
        · exact ⟨h1.1, h1.2.2⟩
      · exact h.own j b o1
    exact ⟨key.1, by rw [c.size]; exact key.2.1, key.2.2⟩
  · by_cases e : j = k
    · subst e; exact h.usedR j (by rw [hk]; simp)
    · simp only [upd_other _ _ e] at hj; exact h.usedR j hj
  · by_cases e : j = k
    · subst e; simpa only [upd_same] using hnd
    · simp only [upd_other _ _ e]; exact h.nodup j

def Env.gone (E : Env) (k : Nat) : Env := { E with ob := upd E.ob k [] }
theorem Own.drop {E : Env} {k j b : Nat} (h : Own (E.gone k) j b) : Own E j b := by
  rcases h with h | h
  · by_cases e : j = k
    · subst e; simp [Env.gone, upd_same] at h
    · exact .inl (by simpa only [Env.gone, upd_other _ _ e] using h)
  · exact .inr h

/-- A row is given up. -/
theorem RelH.dropRow {F : Fix} {H : Heap} {E : Env} (h : RelH F H E) (k : Nat) :
    RelH F { H with rows := upd H.rows k none } (E.gone k) ∧ Sub E (E.gone k) (fun k => H.used k = true) := by
  have s : ∀ N, Sub E (E.gone k) N := fun N => ⟨fun _ _ h => h, fun _ _ _ => rfl, fun _ _ => rfl, fun _ _ _ h => h, fun _ _ _ _ => rfl⟩
  refine ⟨⟨fun j q hq => ?_, fun j ds hc => ?_, fun j hj => ?_, h.blk0, fun j => ?_, fun j j' b hj hj' => h.uniq j j' b hj.drop hj'.drop, fun j b hj => h.own j b hj.drop, h.S, h.SS, h.Ssub, h.Ssup, h.pt, h.fr, fun j hj => ?_, h.usedB, fun j => ?_, h.lens, h.hv⟩, s _⟩
  · by_cases e : j = k
    · subst e; simp [upd_same] at hq
    · simp only [upd_other _ _ e] at hq
      obtain ⟨h1, h2, hd', h3, h4, h5⟩ := h.rows j q hq
      exact ⟨h1, h2, hd', h3, h4, by simp only [Env.gone, upd_other _ _ e]; exact h5.chg (s fun _ => True) h2 (fun _ _ => rfl)⟩
  · obtain ⟨g', us, h1, h2, h3, h4⟩ := h.boxes j ds hc
    exact ⟨g', us, h1, h2.sub (s fun _ => True) (fun _ _ => trivial), h3, h4⟩
  · by_cases e : j = k
    · subst e; simp [Env.gone, upd_same]
    · simp only [Env.gone, upd_other _ _ e] at hj ⊢; exact h.hdr0 j hj
  · by_cases e : j = k
    · subst e; simp [upd_same]
    · simp only [Env.gone, upd_other _ _ e]; exact h.both j
  · by_cases e : j = k
    · subst e; simp [upd_same] at hj
    · simp only [upd_other _ _ e] at hj; exact h.usedR j hj
  · by_cases e : j = k
    · subst e; simp [Env.gone, upd_same]
    · simp only [Env.gone, upd_other _ _ e]; exact h.nodup j

/-- How long a slice is that was given up. -/
theorem RelH.setLen {F : Fix} {H : Heap} {E : Env} (h : RelH F H E) {k n : Nat} (hu : H.used k = true) (hn : ∃ a cap, E.hdr k = some (.slice a n cap)) : RelH F { H with lens := upd H.lens k (some n) } E :=
  ⟨h.rows, h.boxes, h.hdr0, h.blk0, h.both, h.uniq, h.own, h.S, h.SS, h.Ssub, h.Ssup, h.pt, h.fr, h.usedR, h.usedB, h.nodup, fun j m hm => by
    by_cases e : j = k
    · subst e; simp only [upd_same, Option.some.injEq] at hm; subst hm; exact ⟨hu, hn⟩
    · simp only [upd_other _ _ e] at hm; exact h.lens j m hm, h.hv⟩

/-- What becomes of the blocks of a row that was given up. -/
theorem RelH.dropped {F : Fix} {H : Heap} {E : Env} (h : RelH F H E) {k g : Nat} {r : Row} (hr : H.rows k = some r) (hb : g ∈ E.ob k) :
    (∀ c, ¬ E.S c g) ∧ (∀ j, ¬ Own (E.gone k) j g) ∧ g < E.w.heap.size ∧ (F.w0.heap.size ≤ g ∨ F.T g) := by
  have ho := h.own k g (.inl hb)
  refine ⟨ho.1, fun j hj => ?_, ho.2.1, ho.2.2⟩
  have := h.uniq j k g hj.drop (.inl hb)
  subst this
  rcases hj with hj | hj
  · simp [Env.gone, upd_same] at hj
  · rcases h.both j with e1 | e1
    · rw [hr] at e1; cases e1
    · simp only [Env.gone] at hj; rw [hj] at e1; cases e1

theorem Own.dropB {E : Env} {k j b : Nat} (h : Own { E with blk := upd E.blk k none } j b) : Own E j b := by
  rcases h with h | h
  · exact .inl h
  · by_cases e : j = k
    · subst e; simp [upd_same] at h
    · exact .inr (by simpa only [upd_other _ _ e] using h)

/-- A variable is given up. -/
theorem RelH.dropBox {F : Fix} {H : Heap} {E : Env} (h : RelH F H E) (k : Nat) :
    RelH F { H with boxes := upd H.boxes k none } { E with blk := upd E.blk k none } ∧ Sub E { E with blk := upd E.blk k none } (fun k => H.used k = true) := by
  have s : ∀ N, Sub E { E with blk := upd E.blk k none } N := fun N => by
    exact ⟨fun _ _ h => h, fun _ _ _ => rfl, fun _ _ => rfl, fun _ _ _ h => h, fun _ _ _ _ => rfl⟩
  refine ⟨⟨fun j q hq => ?_, fun j ds hc => ?_, h.hdr0, fun j hj => ?_, fun j => ?_, fun j j' b hj hj' => h.uniq j j' b hj.dropB hj'.dropB, fun j b hj => h.own j b hj.dropB, h.S, h.SS, h.Ssub, h.Ssup, fun j v hv => ?_, h.fr, h.usedR, fun j ds hc => ?_, h.nodup, h.lens, h.hv⟩, s _⟩
  · obtain ⟨h1, h2, hd', h3, h4, h5⟩ := h.rows j q hq
    exact ⟨h1, h2, hd', h3, h4, h5.chg (s fun _ => True) h2 (fun _ _ => rfl)⟩
  · by_cases e : j = k
    · subst e; simp [upd_same] at hc
    · simp only [upd_other _ _ e] at hc
      obtain ⟨g', us, h1, h2, h3, h4⟩ := h.boxes j ds hc
      exact ⟨g', us, by simpa only [upd_other _ _ e] using h1, h2.sub (s fun _ => True) (fun _ _ => trivial), h3, h4⟩
  · by_cases e : j = k
    · subst e; simp [upd_same]
    · simp only [upd_other _ _ e] at hj ⊢; exact h.blk0 j hj
  · by_cases e : j = k
    · subst e; simp [upd_same]
    · simp only [upd_other _ _ e]; exact h.both j
  · by_cases e : j = k
    · subst e; simp [upd_same] at hv
    · simp only [upd_other _ _ e] at hv; exact h.pt j v hv
  · by_cases e : j = k
    · subst e; simp [upd_same] at hc
    · simp only [upd_other _ _ e] at hc; exact h.usedB j ds hc

/-- Blocks that nobody owns may be read by all from now on. -/
theorem RelH.share {F : Fix} {H : Heap} {E : Env} (h : RelH F H E) {bs : List Nat} (hg : ∀ g ∈ bs, (∀ j, ¬ Own E j g) ∧ g < E.w.heap.size ∧ (F.w0.heap.size ≤ g ∨ F.T g)) :
    RelH F H { E with S := fun c b => E.S c b ∨ b ∈ bs } ∧ Sub E { E with S := fun c b => E.S c b ∨ b ∈ bs } (fun k => H.used k = true) := by
  have s : ∀ N, Sub E { E with S := fun c b => E.S c b ∨ b ∈ bs } N := fun N =>
    ⟨fun _ _ h => .inl h, fun _ _ _ => rfl, fun _ _ => rfl, fun _ _ _ h => h, fun _ _ _ _ => rfl⟩
  refine ⟨⟨fun j q hq => ?_, fun j ds hd => ?_, h.hdr0, h.blk0, h.both, h.uniq, fun j b hj => ?_, fun c b hb => ?_, fun b hb => hb.imp (h.SS b) id, fun c b hb => ?_, fun c b hb => .inl (h.Ssup c b hb), h.pt, h.fr, h.usedR, h.usedB, h.nodup, h.lens, h.hv⟩, s _⟩
  · obtain ⟨h1, h2, hd', h3, h4, h5⟩ := h.rows j q hq
    exact ⟨h1, h2, hd', h3, h4, h5.chg (s fun _ => True) h2 (fun _ _ => rfl)⟩
  · obtain ⟨g', us, h1, h2, h3, h4⟩ := h.boxes j ds hd
    exact ⟨g', us, h1, h2.sub (s fun _ => True) (fun _ _ => trivial), h3, h4⟩
  · have := h.own j b hj
    exact ⟨fun c hb => hb.elim (this.1 c) (fun e => (hg b e).1 j hj), this.2⟩
  · rcases hb with hb | hb
    · exact h.S c b hb
    · exact (hg b hb).2.1
  · rcases hb with hb | hb
    · exact h.Ssub c b hb
    · exact .inr (hg b hb).2.2
end Go.MG
