/- Regions whose operations may come up in any order: one step for each operation, whatever else is done. -/
import Derived.Test.YtbjbagemlclgcaaMgZf
namespace Go.MG
set_option linter.unusedSimpArgs false
set_option linter.unusedVariables false
set_option linter.unnecessarySimpa false

/-! ### states in which each thing hangs on what is done -/
def alt {α : Type} : List (Bool × Option α) → Option α
  | [] => none
  | (c, o) :: l => cond c o (alt l)
def pickL {α : Type} : List (Nat × List (Bool × Option α)) → Nat → Option α
  | [], _ => none
  | (j, l) :: r, k => cond (Nat.beq k j) (alt l) (pickL r k)
abbrev Alts (α : Type) := List (Nat × List (Bool × Option α))
def mkStL (sl : Alts Slot) (rows : Alts Row) (boxes : Alts (List Cell)) (base : Nat) : St :=
  ⟨fun t => pickL sl t, fun k => pickL rows k, fun k => pickL boxes k, base, fun _ => false, fun _ => none, fun _ => none⟩
def KeysOk {α : Type} (R : Nat → α → Prop) : Alts α → Prop
  | [] => True
  | (k, l) :: r => (∀ s, alt l = some s → R k s) ∧ KeysOk R r
theorem KeysOk.get {α : Type} {R : Nat → α → Prop} : ∀ {l : Alts α}, KeysOk R l → ∀ k s, pickL l k = some s → R k s
  | [], _, k, s, h => by simp [pickL] at h
  | (j, l) :: r, hl, k, s, h => by
    simp only [pickL] at h
    cases e : Nat.beq k j with
    | true =>
      rw [e] at h
      rw [Nat.eq_of_beq_eq_true e]
      exact hl.1 s h
    | false => rw [e] at h; exact KeysOk.get hl.2 k s h
/-- The names: new ones for what has just come up. -/
def piL (new : List (Nat × Nat)) (base : Nat) (k : Nat) : Option Nat := match new.lookup k with
  | some j => some j
  | none => cond (Nat.blt k base) (some k) none
def linB (m base : Nat) (new : List (Nat × Nat)) : Bool := nodupB (new.map (·.2)) && new.all (fun p => Nat.ble base p.2 && Nat.blt p.1 base && Nat.ble m p.1) && Nat.ble m base
def SlotR (π : Nat → Option Nat) (σ : St) (t : Nat) (s' : Slot) : Prop := ∃ s, renS π s' = some s ∧ σ.slots t = some s
def RowR (π : Nat → Option Nat) (σ : St) (k' : Nat) (r : Row) : Prop := ∃ k, π k' = some k ∧ σ.H.rows k = some r
def BoxR (π : Nat → Option Nat) (σ : St) (k' : Nat) (cs' : List Cell) : Prop := ∃ k cs, π k' = some k ∧ renCs π cs' = some cs ∧ σ.H.boxes k = some cs
theorem Le.lin {F : Fix} {m : Nat} {hs : List V} {σ : St} {sl : Alts Slot} {rows : Alts Row} {boxes : Alts (List Cell)} {base : Nat} (new : List (Nat × Nat)) (hm : Pinned F m hs)
    (hn : (linB m base new && pinB (piL new base) hs && hs.all (fun x => cplain x.cells)) = true) (h1 : KeysOk (SlotR (piL new base) σ) sl) (h2 : KeysOk (RowR (piL new base) σ) rows) (h3 : KeysOk (BoxR (piL new base) σ) boxes) : Le F σ (mkStL sl rows boxes base) := by
  simp only [linB, Bool.and_eq_true, List.all_eq_true] at hn
  obtain ⟨⟨⟨⟨hn1, hn2⟩, hn3⟩, hp1⟩, hp2⟩ := hn
  have hnew : ∀ {k j}, new.lookup k = some j → base ≤ j ∧ k < base ∧ m ≤ k := fun h => by
    have := hn2 _ (lookup_mem h)
    simp only [Bool.and_eq_true, Nat.blt_eq, Nat.ble_eq] at this
    exact ⟨this.1.1, this.1.2, this.2⟩
  have hpi : ∀ {k j}, piL new base k = some j → k < base ∧ ((new.lookup k = some j ∧ base ≤ j) ∨ (new.lookup k = none ∧ j = k)) := fun {k j} h => by
    unfold piL at h
    split at h
    · rename_i e; cases h
      have := hnew e
      exact ⟨this.2.1, .inl ⟨e, this.1⟩⟩
    · rename_i e
      cases hb : Nat.blt k base with
      | true => rw [hb] at h; cases h; exact ⟨by simpa using hb, .inr ⟨e, rfl⟩⟩
      | false => rw [hb] at h; cases h
  refine Weak.le hm ⟨fun t s' h => h1.get t s' h, fun k' r h => h2.get k' r h, fun k' cs' h => h3.get k' cs' h, fun k1 k2 k e1 e2 => ?_, fun k' k h => ?_, fun k hk => ?_, fun x hx => ?_, fun _ => rfl, fun _ _ hv => by cases hv⟩
  · obtain ⟨b1, c1⟩ := hpi e1
    obtain ⟨b2, c2⟩ := hpi e2
    rcases c1 with ⟨c1, d1⟩ | ⟨c1, rfl⟩ <;> rcases c2 with ⟨c2, d2⟩ | ⟨c2, d2⟩
    · exact nodupB_inj hn1 _ _ _ c1 c2
    · omega
    · omega
    · exact d2
  · have := (hpi h).1
    simp [mkStL, Heap.used, this]
  · have hmb : m ≤ base := by simpa using hn3
    unfold piL
    split
    · rename_i e; have := hnew e; omega
    · rw [show Nat.blt k base = true by simp; omega]; rfl
  · refine pinB_ok hp1 (fun x hx => ?_) x hx
    exact hp2 x hx

theorem kz {α : Type} {R : Nat → α → Prop} : KeysOk R [] := trivial
theorem kn {α : Type} {R : Nat → α → Prop} {k : Nat} {l : List (Bool × Option α)} {r : Alts α} (hr : KeysOk R r) (h : alt l = none := by exact rfl) : KeysOk R ((k, l) :: r) := ⟨fun s hs => by rw [h] at hs; (cases hs), hr⟩
/-- Names that stay. -/
def stayS (π : Nat → Option Nat) (s : Slot) : Bool := match s with
  | .v x => x.names.all (fun k => π k == some k) && cplain x.cells
  | .tup xs => xs.all fun x => x.names.all (fun k => π k == some k) && cplain x.cells
def stayL {α : Type} (f : α → Bool) : List (Bool × Option α) → Bool
  | [] => true
  | (_, none) :: l => stayL f l
  | (c, some s) :: l => (f s || !c) && stayL f l
abbrev al {α : Type} (c : Bool) (x : α) : List (Bool × Option α) := [(c, some x)]
abbrev ai {α : Type} (x : α) : List (Bool × Option α) := [(true, some x)]
theorem stayL_get {α : Type} {f : α → Bool} : ∀ {l : List (Bool × Option α)} {s : α}, stayL f l = true → alt l = some s → f s = true
  | [], s, _, h => by cases h
  | (c, none) :: l, s, hf, h => by
    simp only [alt] at h
    cases c with
    | true => cases h
    | false => exact stayL_get (by simpa only [stayL] using hf) h
  | (c, some x) :: l, s, hf, h => by
    simp only [alt] at h
    simp only [stayL, Bool.and_eq_true] at hf
    cases c with
    | true => cases h; simpa using hf.1
    | false => exact stayL_get hf.2 h
theorem renVs_same {π : Nat → Option Nat} : ∀ {xs : List V}, (∀ x ∈ xs, (x.names.all (fun k => π k == some k) && cplain x.cells) = true) → renVs π xs = some xs
  | [], _ => rfl
  | x :: xs, h => by
    have h1 := h x (by simp)
    simp only [Bool.and_eq_true, List.all_eq_true, beq_iff_eq] at h1
    have h2 : renVs π xs = some xs := renVs_same (fun y hy => h y (List.mem_cons_of_mem _ hy))
    simp only [renVs, renV_same h1.2 h1.1, h2]
theorem stayS_ok {π : Nat → Option Nat} {s : Slot} (h : stayS π s = true) : renS π s = some s := by
  cases s with
  | v x =>
    simp only [stayS, Bool.and_eq_true, List.all_eq_true, beq_iff_eq] at h
    simp only [renS, renV_same h.2 h.1, Option.map_some]
  | tup xs =>
    simp only [stayS, List.all_eq_true] at h
    simp only [renS, renVs_same h, Option.map_some]
def stayC (π : Nat → Option Nat) (cs : List Cell) : Bool := (cnames cs).all (fun k => π k == some k) && cplain cs
section
variable {π : Nat → Option Nat} {σ : St}
theorem su {t : Nat} {l : List (Bool × Option Slot)} {r : Alts Slot} (hr : KeysOk (SlotR π σ) r) (h : σ.slots t = alt l := by exact rfl) (hn : stayL (stayS π) l = true := by exact rfl) : KeysOk (SlotR π σ) ((t, l) :: r) :=
  ⟨fun s hs => ⟨s, stayS_ok (stayL_get hn hs), by rw [h, hs]⟩, hr⟩
theorem sa {t : Nat} {l : List (Bool × Option Slot)} {r : Alts Slot} {s0 s1 : Slot} (hr : KeysOk (SlotR π σ) r) (h : alt l = some s0 := by exact rfl) (h1 : renS π s0 = some s1 := by exact rfl) (h2 : σ.slots t = some s1 := by exact rfl) : KeysOk (SlotR π σ) ((t, l) :: r) :=
  ⟨fun s hs => by rw [h] at hs; cases hs; exact ⟨s1, h1, h2⟩, hr⟩
theorem ru {t : Nat} {l : List (Bool × Option Row)} {r : Alts Row} (hr : KeysOk (RowR π σ) r) (h : σ.H.rows t = alt l := by exact rfl) (hn : π t = some t := by exact rfl) : KeysOk (RowR π σ) ((t, l) :: r) :=
  ⟨fun s hs => ⟨t, hn, by rw [h, hs]⟩, hr⟩
theorem ra {t k : Nat} {l : List (Bool × Option Row)} {r : Alts Row} {s0 : Row} (hr : KeysOk (RowR π σ) r) (h : alt l = some s0 := by exact rfl) (h1 : π t = some k := by exact rfl) (h2 : σ.H.rows k = some s0 := by exact rfl) : KeysOk (RowR π σ) ((t, l) :: r) :=
  ⟨fun s hs => by rw [h] at hs; cases hs; exact ⟨k, h1, h2⟩, hr⟩
theorem bu {t : Nat} {l : List (Bool × Option (List Cell))} {r : Alts (List Cell)} (hr : KeysOk (BoxR π σ) r) (h : σ.H.boxes t = alt l := by exact rfl) (hn : (π t == some t && stayL (stayC π) l) = true := by exact rfl) : KeysOk (BoxR π σ) ((t, l) :: r) := by
  simp only [Bool.and_eq_true, beq_iff_eq] at hn
  refine ⟨fun s hs => ⟨t, s, hn.1, ?_, by rw [h, hs]⟩, hr⟩
  have := stayL_get hn.2 hs
  simp only [stayC, Bool.and_eq_true, List.all_eq_true, beq_iff_eq] at this
  exact renCs_same this.2 this.1
theorem ba {t k : Nat} {l : List (Bool × Option (List Cell))} {r : Alts (List Cell)} {s0 s1 : List Cell} (hr : KeysOk (BoxR π σ) r) (h : alt l = some s0 := by exact rfl) (h1 : π t = some k := by exact rfl) (h2 : renCs π s0 = some s1 := by exact rfl) (h3 : σ.H.boxes k = some s1 := by exact rfl) : KeysOk (BoxR π σ) ((t, l) :: r) :=
  ⟨fun s hs => by rw [h] at hs; cases hs; exact ⟨k, s1, h1, h2, h3⟩, hr⟩
end

/-! ### the rule -/
def memN (k : Nat) : List Nat → Bool
  | [] => false
  | j :: l => cond (Nat.beq k j) true (memN k l)
/-- What is done when i comes up: u what it waits for, d what waits for it. -/
def mk0 (u d : List Nat) (i : Nat) (b : Nat → Bool) (k : Nat) : Bool := cond (Nat.beq k i) false (cond (memN k u) true (cond (memN k d) false (b k)))
def mk1 (u d : List Nat) (i : Nat) (b : Nat → Bool) (k : Nat) : Bool := cond (Nat.beq k i) true (cond (memN k u) true (cond (memN k d) false (b k)))
theorem memN_iff {k : Nat} : ∀ {l : List Nat}, memN k l = true ↔ k ∈ l
  | [] => by simp [memN]
  | j :: l => by
    simp only [memN, List.mem_cons]
    cases e : Nat.beq k j with
    | true => simp [Nat.eq_of_beq_eq_true e]
    | false =>
      have : k ≠ j := fun h => by rw [h, Nat.beq_refl] at e; cases e
      simp [this, memN_iff]

def depsOf (o : Oper) : List Nat := (o.after.toList.filter fun e => Region.binds .any e).map (·.on)
def depsAt (ops : Array Oper) (i : Nat) : List Nat := ((ops[i]?).map depsOf).getD []
def upAt (ud : List (List Nat × List Nat)) (i : Nat) : List Nat := ((ud[i]?).map (·.1)).getD []
/-- The lists are right. -/
def linOk (ops : Array Oper) (ud : List (List Nat × List Nat)) : Bool := Nat.beq ud.length ops.size && (List.range ops.size).all fun i =>
  (depsAt ops i).all (fun j => Nat.blt j i) && (upAt ud i).all (fun j => memN j (depsAt ops i) || (depsAt ops i).any fun e => memN j (upAt ud e)) && (((ud[i]?).map (·.2)).getD []).all fun k => Nat.blt k ops.size && memN i (upAt ud k)

section
variable {P : Program} {F : Fix} {ops : Array Oper}
def Lins (P : Program) (F : Fix) (ops : Array Oper) (st : (Nat → Bool) → St) : Nat → List (List Nat × List Nat) → Prop
  | _, [] => True
  | i, (u, d) :: l => (∃ o, ops[i]? = some o ∧ ∀ b, WpL P F ops (fun τ => Le F τ (st (mk1 u d i b))) [o] (st (mk0 u d i b))) ∧ Lins P F ops st (i + 1) l
theorem Lins.get {st : (Nat → Bool) → St} : ∀ {l : List (List Nat × List Nat)} {i : Nat}, Lins P F ops st i l → ∀ j u d, l[j]? = some (u, d) → ∃ o, ops[i + j]? = some o ∧ ∀ b, WpL P F ops (fun τ => Le F τ (st (mk1 u d (i + j) b))) [o] (st (mk0 u d (i + j) b))
  | [], i, _, j, u, d, h => by simp at h
  | (u', d') :: l, i, hl, 0, u, d, h => by
    simp at h; obtain ⟨rfl, rfl⟩ := h
    exact hl.1
  | (u', d') :: l, i, hl, j + 1, u, d, h => by
    have := Lins.get hl.2 j u d (by simpa using h)
    rw [show i + 1 + j = i + (j + 1) by omega] at this
    exact this

/-- What is listed. -/
def lst (listed : Array Bool) (k : Nat) : Bool := listed.getD k true
def Closed (ops : Array Oper) (b : Nat → Bool) : Prop := ∀ k, k < ops.size → b k = true → ∀ e ∈ depsAt ops k, b e = true

theorem lst_set {listed : Array Bool} {i : Nat} (h : i < listed.size) (k : Nat) : lst (listed.setIfInBounds i true) k = if k = i then true else lst listed k := by
  unfold lst
  simp only [Array.getD_eq_getD_getElem?, Array.getElem?_setIfInBounds]
  by_cases e : i = k
  · subst e; simp [h]
  · rw [if_neg e, if_neg (fun h => e h.symm)]
theorem ready_iff {listed : Array Bool} {i : Nat} : i ∈ Region.ready .any ops listed ↔ i < ops.size ∧ lst listed i = false ∧ ∀ e ∈ depsAt ops i, listed.getD e false = true := by
  unfold Region.ready
  simp only [List.mem_filter, List.mem_range, Bool.and_eq_true, Bool.not_eq_true']
  constructor
  · rintro ⟨h1, h2, h3⟩
    refine ⟨h1, h2, fun e he => ?_⟩
    have ho : ops[i]? = some ops[i] := Array.getElem?_eq_getElem h1
    rw [ho] at h3
    simp only [depsAt, ho, Option.map_some, Option.getD_some, depsOf, List.mem_map, List.mem_filter] at he
    obtain ⟨x, ⟨hx, hb⟩, rfl⟩ := he
    simp only [Option.map_some, Option.getD_some, Array.all_eq_true_iff_forall_mem] at h3
    have := h3 x (by simpa using hx)
    rw [hb] at this
    simpa using this
  · rintro ⟨h1, h2, h3⟩
    refine ⟨h1, h2, ?_⟩
    have ho : ops[i]? = some ops[i] := Array.getElem?_eq_getElem h1
    rw [ho]
    simp only [Option.map_some, Option.getD_some, Array.all_eq_true_iff_forall_mem]
    intro x hx
    cases hb : Region.binds .any x with
    | false => rfl
    | true =>
      have := h3 x.on (by
        simp only [depsAt, ho, Option.map_some, Option.getD_some, depsOf, List.mem_map, List.mem_filter]
        exact ⟨x, ⟨by simpa using hx, hb⟩, rfl⟩)
      simpa using this

structure LinFacts (ops : Array Oper) (ud : List (List Nat × List Nat)) : Prop where
  len : ud.length = ops.size
  lt : ∀ i, i < ops.size → ∀ j ∈ depsAt ops i, j < i
  up : ∀ i, i < ops.size → ∀ j ∈ upAt ud i, j ∈ depsAt ops i ∨ ∃ e ∈ depsAt ops i, j ∈ upAt ud e
  down : ∀ i u d, ud[i]? = some (u, d) → ∀ k ∈ d, k < ops.size ∧ i ∈ upAt ud k
theorem linOk_facts {ud : List (List Nat × List Nat)} (h : linOk ops ud = true) : LinFacts ops ud := by
  unfold linOk at h
  simp only [Bool.and_eq_true, List.all_eq_true, List.mem_range, Bool.or_eq_true, List.any_eq_true, memN_iff, Nat.blt_eq] at h
  obtain ⟨h1, h2⟩ := h
  refine ⟨Nat.eq_of_beq_eq_true h1, fun i hi => (h2 i hi).1.1, fun i hi => (h2 i hi).1.2, fun i u d hg => ?_⟩
  have hi : i < ops.size := by rw [← Nat.eq_of_beq_eq_true h1]; exact (List.getElem?_eq_some_iff.1 hg).1
  have := (h2 i hi).2
  rw [hg] at this
  simpa using this

theorem closed_up {ud : List (List Nat × List Nat)} (f : LinFacts ops ud) {b : Nat → Bool} (hb : Closed ops b) : ∀ i, i < ops.size → (∀ e ∈ depsAt ops i, b e = true) → ∀ j ∈ upAt ud i, b j = true := by
  intro i
  induction i using Nat.strongRecOn with
  | _ i ih =>
    intro hi hd j hj
    rcases f.up i hi j hj with h | ⟨e, he, h⟩
    · exact hd j h
    · have hlt := f.lt i hi e he
      exact ih e hlt (by omega) (hb e (by omega) (hd e he)) j h

theorem count_set {listed : Array Bool} {i : Nat} (h : i < listed.size) (hf : lst listed i = false) : (listed.setIfInBounds i true).toList.count false + 1 = listed.toList.count false := by
  have h1 : listed.toList[i]'(by simpa using h) = false := by
    unfold lst at hf
    simp only [Array.getD_eq_getD_getElem?, Array.getElem?_eq_getElem h, Option.getD_some] at hf
    simpa using hf
  rw [Array.toList_setIfInBounds]
  have hl : i < listed.toList.length := by simpa using h
  rw [List.count_set hl, h1]
  have : 0 < listed.toList.count false := List.count_pos_iff.2 (by rw [← h1]; exact List.getElem_mem hl)
  have e : (true == false) = false := rfl
  simp only [beq_self_eq_true, if_true, e, Bool.false_eq_true, if_false]
  omega

theorem A.lin_go {Q : St → Prop} {st : (Nat → Bool) → St} {ud : List (List Nat × List Nat)} (f : LinFacts ops ud) (hL : Lins P F ops st 0 ud) (hd : ∃ τ, Le F (st fun _ => true) τ ∧ Q τ) :
    ∀ (fuel : Nat) (listed : Array Bool), listed.size = ops.size → Closed ops (lst listed) → listed.toList.count false ≤ fuel → WpA P F ops Q fuel listed (st (lst listed)) := by
  intro fuel
  have all : ∀ (listed : Array Bool), listed.size = ops.size → Region.ready .any ops listed = [] → lst listed = fun _ => true := by
    intro listed hsz hr
    funext k
    by_cases hk : k < ops.size
    · induction k using Nat.strongRecOn with
      | _ k ih =>
        cases e : lst listed k with
        | true => rfl
        | false =>
          exfalso
          have : k ∈ Region.ready .any ops listed := ready_iff.2 ⟨hk, e, fun j hj => by
            have hlt := f.lt k hk j hj
            have h1 := ih j hlt (by omega)
            unfold lst at h1
            have hj2 : j < listed.size := by omega
            simpa only [Array.getD_eq_getD_getElem?, Array.getElem?_eq_getElem hj2, Option.getD_some] using h1⟩
          rw [hr] at this; cases this
    · unfold lst
      rw [Array.getD_eq_getD_getElem?, Array.getElem?_eq_none (by omega)]; rfl
  have done : ∀ (listed : Array Bool), listed.size = ops.size → Region.ready .any ops listed = [] → ∀ a w, Rel F (st (lst listed)) a w → QN F Q .normal a w := by
    intro listed hsz hr a w hrel
    rw [all listed hsz hr] at hrel
    obtain ⟨τ, h1, h2⟩ := hd
    exact ⟨τ, rfl, h2, h1 a w hrel⟩
  induction fuel with
  | zero =>
    intro listed hsz hc hn a w hrel
    have hr : Region.ready .any ops listed = [] := by
      refine List.eq_nil_iff_forall_not_mem.2 fun i hi => ?_
      obtain ⟨h1, h2, _⟩ := ready_iff.1 hi
      have := count_set (listed := listed) (i := i) (by omega) h2
      omega
    exact ⟨hr, done listed hsz hr a w hrel⟩
  | succ fuel ih =>
    intro listed hsz hc hn a w hrel
    refine ⟨fun hr => done listed hsz hr a w hrel, fun i hi => ?_⟩
    obtain ⟨h1, h2, h3⟩ := ready_iff.1 hi
    have hi2 : i < listed.size := by omega
    have hdep : ∀ e ∈ depsAt ops i, lst listed e = true := fun e he => by
      have := f.lt i h1 e he
      have he2 : e < listed.size := by omega
      have := h3 e he
      unfold lst
      simpa only [Array.getD_eq_getD_getElem?, Array.getElem?_eq_getElem he2, Option.getD_some] using this
    obtain ⟨⟨u, d⟩, hud⟩ : ∃ p, ud[i]? = some p := ⟨_, List.getElem?_eq_getElem (by rw [f.len]; exact h1)⟩
    have hu : upAt ud i = u := by unfold upAt; rw [hud]; rfl
    have hup : ∀ j ∈ u, lst listed j = true := by rw [← hu]; exact closed_up f hc i h1 hdep
    have hdown : ∀ j ∈ d, lst listed j = false := fun j hj => by
      obtain ⟨g1, g2⟩ := f.down i u d hud j hj
      cases e : lst listed j with
      | false => rfl
      | true =>
        have := closed_up f hc j g1 (hc j g1 e) i g2
        rw [h2] at this; cases this
    have e0 : mk0 u d i (lst listed) = lst listed := by
      funext k
      unfold mk0
      cases e1 : Nat.beq k i with
      | true => rw [Nat.eq_of_beq_eq_true e1, h2]; rfl
      | false =>
        cases e2 : memN k u with
        | true => rw [hup k (memN_iff.1 e2)]; rfl
        | false =>
          cases e3 : memN k d with
          | true => rw [hdown k (memN_iff.1 e3)]; rfl
          | false => rfl
    have e1 : mk1 u d i (lst listed) = lst (listed.setIfInBounds i true) := by
      funext k
      rw [lst_set hi2]
      by_cases e : k = i
      · subst e; unfold mk1; rw [Nat.beq_refl, if_pos rfl]; rfl
      · rw [if_neg e]
        conv => rhs; rw [← e0]
        have : Nat.beq k i = false := by
          cases h : Nat.beq k i with
          | false => rfl
          | true => exact absurd (Nat.eq_of_beq_eq_true h) e
        unfold mk0 mk1; rw [this]; rfl
    obtain ⟨o, ho, hw⟩ := hL.get i u d hud
    simp only [Nat.zero_add] at ho hw
    have hw := hw (lst listed)
    rw [e0, e1] at hw
    have := hw [i] (by simp [ho]) a w hrel
    rw [wpOps_cons] at this
    have hsz2 : (listed.setIfInBounds i true).size = ops.size := by simpa using hsz
    have hc2 : Closed ops (lst (listed.setIfInBounds i true)) := fun k hk hb e he => by
      rw [lst_set hi2] at hb ⊢
      by_cases ek : e = i
      · rw [if_pos ek]
      · rw [if_neg ek]
        by_cases kk : k = i
        · subst kk; exact hdep e he
        · rw [if_neg kk] at hb; exact hc k hk hb e he
    have hn2 := count_set hi2 h2
    refine wpOp_turn (fun c a w h => ?_) (fun h => (noLets h).elim) (fun a' w' h => ?_) this
    · obtain ⟨_, h, _⟩ := h; cases h
    · obtain ⟨σ', _, g1, g2⟩ := h
      exact ih _ hsz2 hc2 (by omega) a' w' (g1 a' w' g2)

/-- A region whose operations may come up in any order: one step for each. -/
theorem A.lin {id : Nat} {Q : Exit → St → Prop} {σ : St} (st : (Nat → Bool) → St) (ud : List (List Nat × List Nat)) (N : Nat) (hm : P.follows .mixedOrders = true) (hN : ops.size = N) (hk : linOk ops ud = true)
    (hb : Le F σ (st fun k => !(Nat.blt k N))) (hL : Lins P F ops st 0 ud) (hd : ∃ τ, Le F (st fun _ => true) τ ∧ Q .normal τ) : WpC P F (.region id ops true) Q σ := by
  intro a w hr
  refine wp_mono (wp_region_any (Q := QN F (Q .normal)) hm ?_) fun e a' w' => ?_
  · have hr2 := hb a _ hr.drew
    have e : (fun k => !(Nat.blt k N)) = lst (Array.replicate ops.size false) := by
      funext k
      unfold lst
      rw [Array.getD_eq_getD_getElem?, Array.getElem?_replicate]
      by_cases h : k < ops.size
      · rw [if_pos h, show Nat.blt k N = true by simp; omega]; rfl
      · rw [if_neg h]
        cases hh : Nat.blt k N with
        | false => rfl
        | true => simp at hh; omega
    rw [e] at hr2
    refine A.lin_go (linOk_facts hk) hL hd _ _ (by simp) (fun k hk' hb' => ?_) (by simpa using List.count_le_length) a _ hr2
    unfold lst at hb'
    rw [Array.getD_eq_getD_getElem?, Array.getElem?_replicate, if_pos hk'] at hb'
    cases hb'
  · rintro ⟨σ', rfl, h1, h2⟩
    exact ⟨σ', h1, h2⟩
end
end Go.MG
