/- Short words for the printed texts; steps that turn one cell. -/
import Derived.Test.YtbjbagemlclgcaaMgV
namespace Go.MG
set_option linter.unusedSimpArgs false
set_option linter.unusedVariables false
set_option linter.unnecessarySimpa false

abbrev cI (n : Int) : Cell := .imm (i64 n)
abbrev cU (b : UInt8) : Cell := .imm (u8 b)
abbrev cL (b : Bool) : Cell := .imm (.bool b)
abbrev cS (l : List UInt8) : Cell := .imm (str l)
abbrev one (c : Cell) : Slot := .v (.one c)
abbrev agg (cs : List Cell) : Slot := .v (.agg cs)

/-- The cells of a slot that holds one value. -/
def Slot.cs : Slot → List Cell
  | .v x => x.cells
  | .tup _ => []
def Slot.setC (s : Slot) (p : Nat) (c : Cell) : Slot :=
  match s with
  | .v (.one _) => .v (.one c)
  | .v (.agg cs) => .v (.agg (cs.set p c))
  | s => s

section
variable {F : Fix}

theorem RSlot.setC {E : Env} {s : Slot} {u : Value} {p : Nat} {c c' : Cell} (hs : RSlot E s u) (hp : s.cs[p]? = some c) (h : ∀ v, RC E c v → RC E c' v) : RSlot E (s.setC p c') u := by
  cases s with
  | tup xs => simp [Slot.cs] at hp
  | v x =>
    cases x with
    | one d =>
      simp only [Slot.cs, V.cells] at hp
      cases p with
      | zero => simp at hp; subst hp; exact h _ hs
      | succ p => simp at hp
    | agg cs =>
      obtain ⟨us, hu, hr⟩ := hs
      refine ⟨us, hu, ?_⟩
      simp only [Slot.cs, V.cells] at hp
      obtain ⟨v, hv, hc⟩ := hr.get p c hp
      have := RCs.set p hr (h v hc)
      have hlt := (List.getElem?_eq_some_iff.1 hv)
      obtain ⟨h1, h2⟩ := hlt
      rw [← h2, List.set_getElem_self] at this
      exact this

theorem setC_names {s : Slot} {p : Nat} {c : Cell} {k : Nat} (h : k ∈ (s.setC p c).names) : k ∈ s.names ∨ k ∈ c.names := by
  cases s with
  | tup xs => exact .inl h
  | v x =>
    cases x with
    | one d => right; simpa [Slot.setC, Slot.names, V.names, V.cells, cnames] using h
    | agg cs =>
      simp only [Slot.setC, Slot.names, V.names, V.cells] at h ⊢
      obtain ⟨d, hd, hk⟩ := mem_cnames.1 h
      rcases List.mem_or_eq_of_mem_set hd with h1 | h1
      · exact .inl (mem_cnames.2 ⟨d, h1, hk⟩)
      · subst h1; exact .inr hk

theorem used_row {H : Heap} {q : Nat} {r : Option Row} (k : Nat) (hk : H.used k = true) : Heap.used { H with rows := upd H.rows q r, made := upd H.made q true } k = true := by
  by_cases e : k = q
  · subst e; simp [Heap.used, upd_same]
  · simpa [Heap.used, upd_other _ _ e] using hk

/-- An empty slice in a slot becomes one's own. -/
theorem Le.own {σ : St} {s : Slot} (t p q sz : Nat) (hs : σ.slots t = some s) (hp : s.cs[p]? = some .nil) (hq : σ.H.used q = false) : Le F σ ⟨upd σ.slots t (some (s.setC p (.own q))), { σ.H with rows := upd σ.H.rows q (some ⟨sz, []⟩), made := upd σ.H.made q true }⟩ := by
  rintro a w ⟨E, rfl, hH, hS, hP⟩
  obtain ⟨b1, b2⟩ := hH.addRow (r := ⟨sz, []⟩) (hd := .slice none 0 0) (bs := []) hq (by simp) Flat.nil (.inl ⟨rfl, rfl, rfl⟩) List.nodup_nil (fun g hg => by cases hg)
  refine ⟨E.rowAt q (.slice none 0 0) sz [], rfl, b1, ⟨hS.size, hS.defers, fun t' s' (h : upd σ.slots t (some (s.setC p (.own q))) t' = some s') => ?_, fun t' s' (h : upd σ.slots t (some (s.setC p (.own q))) t' = some s') k hk => ?_⟩, hP.sub b2 used_row⟩
  · by_cases e : t' = t
    · subst e
      rw [upd_same] at h; cases h
      refine RSlot.setC ((hS.slots t' s hs).sub b2 (hS.used t' s hs)) hp fun v hv => ?_
      simp only [RC, Env.rowAt, upd_same] at hv ⊢
      rw [hv]
      exact ⟨rfl, fun h hh => by cases hh; rfl⟩
    · rw [upd_other _ _ e] at h
      exact (hS.slots t' s' h).sub b2 (hS.used t' s' h)
  · by_cases e : t' = t
    · subst e
      rw [upd_same] at h; cases h
      rcases setC_names hk with h | h
      · exact used_row k (hS.used t' s hs k h)
      · simp [Cell.names] at h; subst h; simp [Heap.used, upd_same]
    · rw [upd_other _ _ e] at h
      exact used_row k (hS.used t' s' h k hk)

/-- A slice of one's own in a slot is shared for good. -/
theorem Le.share {σ : St} {s : Slot} {r : Row} (t p q : Nat) (hs : σ.slots t = some s) (hp : s.cs[p]? = some (.own q)) (hq : σ.H.rows q = some r) : Le F σ ⟨upd σ.slots t (some (s.setC p (.sl true r.es))), { σ.H with rows := upd σ.H.rows q none }⟩ := by
  rintro a w ⟨E, rfl, hH, hS, hP⟩
  have hc : ∀ u, RC E (.own q) u → ∃ E', E'.w = E.w ∧ RelH F { σ.H with rows := upd σ.H.rows q none } E' ∧ Sub E E' (fun k => σ.H.used k = true) ∧ (∀ v, RC E (.own q) v → RC E' (.sl true r.es) v) := by
    intro u _
    obtain ⟨E', e1, e2, e3, hd, e4, e5, e6⟩ := share_row hH hq
    refine ⟨E', e1, e2, e3, fun v hv => ?_⟩
    simp only [RC] at hv ⊢
    have hu := hv.2 hd e4
    have hf := (hH.rows q r hq).flat
    rcases e6 with ⟨h6, h7⟩ | ⟨g, cap, h6, h7, h8, h9⟩
    · exact ⟨hf, none, 0, by rw [hu, h6, h7]; rfl, by simp [h7], .inl h7⟩
    · exact ⟨hf, _, cap, by rw [hu, h6], h7, .inr ⟨g, 0, r.sz, rfl, h8, h9⟩⟩
  obtain ⟨E', e1, e2, e3, hd, e4, e5, e6⟩ := share_row hH hq
  have key : ∀ v, RC E (.own q) v → RC E' (.sl true r.es) v := by
    intro v hv
    simp only [RC] at hv ⊢
    have hu := hv.2 hd e4
    have hf := (hH.rows q r hq).flat
    rcases e6 with ⟨h6, h7⟩ | ⟨g, cap, h6, h7, h8, h9⟩
    · exact ⟨hf, none, 0, by rw [hu, h6, h7]; rfl, by simp [h7], .inl h7⟩
    · exact ⟨hf, _, cap, by rw [hu, h6], h7, .inr ⟨g, 0, r.sz, rfl, h8, h9⟩⟩
  have hset : ∀ u, RSlot E s u → RSlot E' (s.setC p (.sl true r.es)) u := by
    intro u hu
    cases s with
    | tup xs => simp [Slot.cs] at hp
    | v x =>
      cases x with
      | one d =>
        simp only [Slot.cs, V.cells] at hp
        cases p with
        | zero => simp at hp; subst hp; exact key _ hu
        | succ p => simp at hp
      | agg cs =>
        obtain ⟨us, hu, hr⟩ := hu
        refine ⟨us, hu, ?_⟩
        simp only [Slot.cs, V.cells] at hp
        obtain ⟨v, hv, hc⟩ := hr.get p _ hp
        have hn : ∀ k ∈ cnames cs, σ.H.used k = true := fun k hk => hS.used t _ hs k hk
        have := RCs.set p (hr.sub e3 hn) (key v hc)
        obtain ⟨h1, h2⟩ := (List.getElem?_eq_some_iff.1 hv)
        rw [← h2, List.set_getElem_self] at this
        exact this
  refine ⟨E', e1, e2, ⟨hS.size, hS.defers, fun t' s' (h : upd σ.slots t (some (s.setC p (.sl true r.es))) t' = some s') => ?_, fun t' s' (h : upd σ.slots t (some (s.setC p (.sl true r.es))) t' = some s') k hk => ?_⟩, hP.sub e3 fun _ h => h⟩
  · by_cases e : t' = t
    · subst e
      rw [upd_same] at h; cases h
      exact hset _ (hS.slots t' s hs)
    · rw [upd_other _ _ e] at h
      exact (hS.slots t' s' h).sub e3 (hS.used t' s' h)
  · by_cases e : t' = t
    · subst e
      rw [upd_same] at h; cases h
      rcases setC_names hk with h | h
      · exact hS.used t' s hs k h
      · simp [Cell.names] at h
    · rw [upd_other _ _ e] at h
      exact hS.used t' s' h k hk

/-- No slice at all is an empty one. -/
theorem Le.empty {σ : St} {s : Slot} (t p : Nat) (hs : σ.slots t = some s) (hp : s.cs[p]? = some .nil) : Le F σ ⟨upd σ.slots t (some (s.setC p (.sl true []))), σ.H⟩ := by
  rintro a w ⟨E, rfl, hH, hS, hP⟩
  refine ⟨E, rfl, hH, ⟨hS.size, hS.defers, fun t' s' (h : upd σ.slots t (some (s.setC p (.sl true []))) t' = some s') => ?_, fun t' s' (h : upd σ.slots t (some (s.setC p (.sl true []))) t' = some s') k hk => ?_⟩, hP⟩
  · by_cases e : t' = t
    · subst e
      rw [upd_same] at h; cases h
      refine RSlot.setC (hS.slots t' s hs) hp fun v hv => ?_
      simp only [RC] at hv ⊢
      exact ⟨Flat.nil, none, 0, hv, by simp, .inl trivial⟩
    · rw [upd_other _ _ e] at h
      exact hS.slots t' s' h
  · by_cases e : t' = t
    · subst e
      rw [upd_same] at h; cases h
      rcases setC_names hk with h | h
      · exact hS.used t' s hs k h
      · simp [Cell.names] at h
    · rw [upd_other _ _ e] at h
      exact hS.used t' s' h k hk
end
end Go.MG
