/- The operations over abstract heaps (calls aside), and that the machine's do the same: values, variables, memory reads. -/
import Derived.Test.YtbjbagemlclgcaaMgC
namespace Go.MG
set_option linter.unusedVariables false
set_option linter.unusedSimpArgs false
set_option linter.unnecessarySimpa false

def Cell.ofVal (v : Value) : Option Cell :=
  if isImm v then some (.imm v) else match v with
  | .slice none 0 0 => some .nil
  | _ => none
def cellsOfVals : List Value → Option (List Cell)
  | [] => some []
  | v :: vs => match Cell.ofVal v, cellsOfVals vs with
    | some c, some cs => some (c :: cs)
    | _, _ => none
def V.ofVal : Value → Option V
  | .agg cs => (cellsOfVals cs.toList).map .agg
  | v => (Cell.ofVal v).map .one

theorem RC.ofVal {E : Env} {v : Value} {c : Cell} (h : Cell.ofVal v = some c) : RC E c v ∧ c.names = [] := by
  unfold Cell.ofVal at h
  split at h
  · rename_i hi; cases h; exact ⟨by simp only [RC]; exact ⟨trivial, hi⟩, rfl⟩
  · split at h
    · cases h; exact ⟨by simp only [RC], rfl⟩
    · cases h

theorem RCs.ofVals {E : Env} : ∀ {vs : List Value} {cs : List Cell}, cellsOfVals vs = some cs → RCs E cs vs ∧ cnames cs = []
  | [], cs, h => by simp [cellsOfVals] at h; subst h; exact ⟨by simp only [RCs], rfl⟩
  | v :: vs, cs, h => by
    unfold cellsOfVals at h
    split at h
    · rename_i c cs' hc hcs
      cases h
      have h1 := RC.ofVal (E := E) hc
      have h2 := RCs.ofVals (E := E) hcs
      exact ⟨by simp only [RCs]; exact ⟨v, vs, rfl, h1.1, h2.1⟩, by simp [cnames, h1.2, h2.2]⟩
    · cases h

theorem cellsOfVals_clean : ∀ {vs : List Value} {cs : List Cell}, cellsOfVals vs = some cs → cclean cs = true
  | [], cs, h => by simp [cellsOfVals] at h; subst h; rfl
  | v :: vs, cs, h => by
    unfold cellsOfVals at h
    split at h
    · rename_i c cs' hc hcs
      cases h
      have h2 := cellsOfVals_clean hcs
      have h1 : c.clean = true := by
        unfold Cell.ofVal at hc
        split at hc
        · cases hc; rfl
        · split at hc <;> cases hc; rfl
      simp [cclean, h1, h2]
    · cases h

theorem RV.ofVal {E : Env} {v : Value} {x : V} (h : V.ofVal v = some x) : RV E x v ∧ x.names = [] := by
  unfold V.ofVal at h
  split at h
  · rename_i cs
    cases hc : cellsOfVals cs.toList with
    | none => simp [hc] at h
    | some ds =>
      simp [hc] at h; subst h
      have := RCs.ofVals (E := E) hc
      exact ⟨⟨_, by simp, this.1⟩, this.2⟩
  · cases hc : Cell.ofVal v with
    | none => simp [hc] at h
    | some c =>
      simp [hc] at h; subst h
      have := RC.ofVal (E := E) hc
      exact ⟨this.1, by simp [V.names, V.cells, cnames, this.2]⟩

def opnd (sl : Nat → Option Slot) : Operand → Option Slot
  | .tmp t => sl t
  | .const v => (V.ofVal v).map .v
  | .func f => some (.v (.one (.clo f [])))
  | .global _ => none

theorem opnd_ok {F : Fix} {sl : Nat → Option Slot} {H : Heap} {a : Act} {E : Env} (h : RelS F sl H a E) {x : Operand} {s : Slot} (hx : opnd sl x = some s) :
    RSlot E s (a.eval x) ∧ ∀ k ∈ s.names, H.used k = true := by
  cases x with
  | tmp t => exact ⟨h.slots t s hx, h.used t s hx⟩
  | const v =>
    simp only [opnd, Option.map_eq_some_iff] at hx
    obtain ⟨y, hy, rfl⟩ := hx
    have := RV.ofVal (E := E) hy
    exact ⟨this.1, fun k hk => by simp [Slot.names, this.2] at hk⟩
  | func f => cases hx; exact ⟨by simp [RSlot, RV, RC, RCs, Act.eval], fun k hk => by simp [Slot.names, V.names, V.cells, cnames, Cell.names] at hk⟩
  | global g => cases hx

/-! ### plain values -/
def Cell.val? : Cell → Option Value
  | .imm v => some v
  | .nil => some (.slice none 0 0)
  | _ => none
def cellVals : List Cell → Option (List Value)
  | [] => some []
  | c :: cs => match c.val?, cellVals cs with
    | some v, some vs => some (v :: vs)
    | _, _ => none
def V.val? : V → Option Value
  | .one c => c.val?
  | .agg cs => (cellVals cs).map fun vs => .agg vs.toArray
def Slot.val? : Slot → Option Value
  | .v x => x.val?
  | .tup _ => none

theorem RC.val? {E : Env} {c : Cell} {u v : Value} (h : RC E c u) (hv : c.val? = some v) : u = v := by
  cases c <;> simp only [Cell.val?] at hv <;> try cases hv
  · simp only [RC] at h; exact h.1
  · simpa only [RC] using h

theorem RCs.vals {E : Env} : ∀ {cs : List Cell} {us vs : List Value}, RCs E cs us → cellVals cs = some vs → us = vs
  | [], _, _, h, hv => by simp only [RCs] at h; simp [cellVals] at hv; rw [h, hv]
  | c :: cs, _, _, h, hv => by
    simp only [RCs] at h
    obtain ⟨u, us', rfl, h1, h2⟩ := h
    unfold cellVals at hv
    split at hv
    · rename_i v vs' hc hcs
      cases hv
      rw [h1.val? hc, h2.vals hcs]
    · cases hv

theorem RSlot.val? {E : Env} {s : Slot} {u v : Value} (h : RSlot E s u) (hv : s.val? = some v) : u = v := by
  cases s with
  | tup xs => cases hv
  | v x =>
    cases x with
    | one c => exact RC.val? h hv
    | agg cs =>
      obtain ⟨us, rfl, hr⟩ := h
      simp only [Slot.val?, V.val?, Option.map_eq_some_iff] at hv
      obtain ⟨vs, hv, rfl⟩ := hv
      rw [hr.vals hv]

abbrev im (v : Value) : Slot := .v (.one (.imm v))

/-! ### what is shown of an operation -/
def Done (P : Program) (F : Fix) (H : Heap) (E : Env) (m : Sem Next) (Q : Option Slot → Heap → Prop) : Prop :=
  ∃ (r : Next) (E' : Env) (x : Option Slot) (H' : Heap), m.run P E.w = .ok r E'.w ∧ Q x H' ∧ RelH F H' E' ∧ Sub E E' (fun k => H.used k = true) ∧ (∀ k, H.used k = true → H'.used k = true) ∧
    match x with
    | some s => ∃ u, r = .value u ∧ RSlot E' s u ∧ ∀ k ∈ s.names, H'.used k = true
    | none => r = .skip

theorem Done.same {P : Program} {F : Fix} {H : Heap} {E : Env} (hH : RelH F H E) {m : Sem Next} {Q : Option Slot → Heap → Prop} {s : Slot} {u : Value} (hm : m.run P E.w = .ok (.value u) E.w) (hq : Q (some s) H)
    (hs : RSlot E s u) (hn : ∀ k ∈ s.names, H.used k = true) : Done P F H E m Q :=
  ⟨.value u, E, some s, H, hm, hq, hH, Sub.refl _ _, fun _ h => h, u, rfl, hs, hn⟩

abbrev Rho := Operand → Option Slot
/-- The operands, as the machine has them. -/
def RhoOk (H : Heap) (E : Env) (ρ : Rho) (ev : Operand → Value) : Prop := ∀ x s, ρ x = some s → RSlot E s (ev x) ∧ ∀ k ∈ s.names, H.used k = true

theorem im_ok {H : Heap} {E : Env} {ρ : Rho} {ev : Operand → Value} (h : RhoOk H E ρ ev) {x : Operand} {s : Slot} {v : Value} (hx : ρ x = some s) (hv : s.val? = some v) : ev x = v := (h x s hx).1.val? hv

section
variable {P : Program} {F : Fix} {H : Heap} {E : Env} {ρ : Rho} {ev : Operand → Value} {Q : Option Slot → Heap → Prop}

theorem done_move (hH : RelH F H E) (hρ : RhoOk H E ρ ev) {o : Oper} {x : Operand} (ho : o.op = .move x ∨ o.op = .assign x) {s : Slot} (hx : ρ x = some s) (hq : Q (some s) H) : Done P F H E (execOp ev o) Q :=
  Done.same hH (u := ev x) (by rcases ho with h | h <;> simp [execOp, h]) hq (hρ x s hx).1 (hρ x s hx).2

theorem done_pick (hH : RelH F H E) (hρ : RhoOk H E ρ ev) {o : Oper} {c a b : Operand} (ho : o.op = .pick c a b) {t : Bool} {sc s : Slot} (hc : ρ c = some sc) (hcv : sc.val? = some (.bool t)) (hx : ρ (if t then a else b) = some s)
    (hq : Q (some s) H) : Done P F H E (execOp ev o) Q := by
  have h1 := im_ok hρ hc hcv
  refine Done.same hH (u := ev (if t then a else b)) ?_ hq (hρ _ s hx).1 (hρ _ s hx).2
  cases t <;> simp [execOp, ho, h1, asBool]

/-- Whatever is computed of plain values alone. -/
def Plain (P : Program) (op : Op) (ty : TypeId) (ev : Operand → Value) (r : Value) : Prop := ∀ (w : World) (o : Oper), o.op = op → o.type = ty → (execOp ev o).run P w = .ok (.value r) w

theorem done_plain (hH : RelH F H E) {o : Oper} {r : Value} (h : Plain P o.op o.type ev r) {x : V} (hr : V.ofVal r = some x) (hq : Q (some (.v x)) H) : Done P F H E (execOp ev o) Q := by
  have := RV.ofVal (E := E) hr
  exact Done.same hH (u := r) (h E.w o rfl rfl) hq this.1 (fun k hk => by simp [Slot.names, this.2] at hk)

theorem done_extract (hH : RelH F H E) (hρ : RhoOk H E ρ ev) {o : Oper} {t : Operand} {i : Nat} (ho : o.op = .extract t i) {xs : List V} (ht : ρ t = some (.tup xs)) {x : V} (hx : xs[i]? = some x) (hq : Q (some (.v x)) H) :
    Done P F H E (execOp ev o) Q := by
  obtain ⟨⟨us, hu, hr⟩, hn⟩ := hρ t _ ht
  have get : ∀ {xs : List V} {us : List Value} (i : Nat) {x : V}, RVs E xs us → xs[i]? = some x → ∃ u, us[i]? = some u ∧ RV E x u := by
    intro xs
    induction xs with
    | nil => intro us i x _ h; simp at h
    | cons y ys ih =>
      intro us i x h hx
      obtain ⟨u, us', rfl, h1, h2⟩ := h
      cases i with
      | zero => simp at hx; subst hx; exact ⟨u, by simp, h1⟩
      | succ i => obtain ⟨u', h3, h4⟩ := ih i h2 (by simpa using hx); exact ⟨u', by simpa using h3, h4⟩
  obtain ⟨u, h1, h2⟩ := get i hr hx
  refine Done.same hH (u := u) (by simp [execOp, ho, hu, Instr.extract, h1]) hq h2 (fun k hk => hn k ?_)
  simp only [Slot.names, List.mem_flatMap]
  exact ⟨x, List.mem_of_getElem? hx, hk⟩

/-! ### new variables -/
theorem there_new (w : World) (cur : Array Value) (e : TypeId) : (w.alloc (.cells cur e)).there w.heap.size 0 cur.size := by
  intro j hj
  have h := heap_alloc_new w (.cells cur e)
  constructor
  · show (match (w.alloc (.cells cur e)).heap[w.heap.size]? with | some (.cells c _ _) => if (none : Option Nat).isSome then none else c[0 + j]? | _ => none).isSome = true
    rw [h]; simp [hj]
  · show (match (w.alloc (.cells cur e)).heap[w.heap.size]? with | some (.cells _ _ (lo, hi)) => decide (lo ≤ 0 + j) && decide (0 + j < hi) | _ => false) = false
    rw [h]; simp
theorem range_new (w : World) (cur : Array Value) (e : TypeId) : (w.alloc (.cells cur e)).rangeAt w.heap.size 0 cur.toList := by
  intro j v hv
  have h := heap_alloc_new w (.cells cur e)
  show (match (w.alloc (.cells cur e)).heap[w.heap.size]? with | some (.cells c _ _) => if (none : Option Nat).isSome then none else c[0 + j]? | _ => none) = some v
  rw [h]; simpa using hv

theorem chg_alloc (_hH : RelH F H E) (o : Obj) : Chg F E (E.w.alloc o) :=
  ⟨rfl, rfl, rfl, by simp, fun b hb hne => absurd (heap_alloc_old E.w o b hb) hne⟩

theorem new_free (hH : RelH F H E) (o : Obj) : (∀ c, ¬ E.S c E.w.heap.size) ∧ (∀ k, ¬ Own { E with w := E.w.alloc o } k E.w.heap.size) ∧ E.w.heap.size < (E.w.alloc o).heap.size ∧ (F.w0.heap.size ≤ E.w.heap.size ∨ F.T E.w.heap.size) :=
  ⟨fun c h => by have := hH.S c _ h; omega, fun k h => by have := (hH.own k _ h).2.1; omega, by simp, .inl hH.fr.size⟩

theorem Sub.trans {E E' E'' : Env} {N : Nat → Prop} (h : Sub E E' N) (h' : Sub E' E'' N) : Sub E E'' N :=
  ⟨fun g b hS => h'.S g b (h.S g b hS), fun g b hS => (h'.mem g b (h.S g b hS)).trans (h.mem g b hS), fun k hk => (h'.hdrE k hk).trans (h.hdrE k hk), fun k hk v hv => h.pt k hk v (h'.pt k hk v hv),
    fun k hk v hv => (h'.sz k hk v hv).trans (h.sz k hk v (h'.hdr k hk v hv))⟩

/-- A new variable with these cells. -/
theorem done_newBox (hH : RelH F H E) {k : Nat} {cs : List Cell} {us : List Value} {e : TypeId} {m : Sem Next} (hm : m.run P E.w = .ok (.value (.pointer (some ⟨E.w.heap.size, 0, none⟩))) (E.w.alloc (.cells us.toArray e)))
    (hk : H.used k = false) (hr : RCs E cs us) (hn : ∀ j ∈ cnames cs, H.used j = true) (hq : Q (some (.v (.one (.ptr k 0)))) { H with boxes := upd H.boxes k (some cs), made := upd H.made k true }) : Done P F H E m Q := by
  have c := chg_alloc hH (.cells us.toArray e)
  have s := Sub.chg hH c (fun k => H.used k = true)
  have hl := hr.length
  obtain ⟨h1, h2⟩ := (hH.chg c).addBox (g := E.w.heap.size) hk (hr.sub s hn) hn (by simpa using range_new E.w us.toArray e) (by have := there_new E.w us.toArray e; simpa [hl] using this) (new_free hH _)
  refine ⟨_, _, _, _, hm, hq, h1, s.trans h2, fun j hj => ?_, _, rfl, ?_, fun j hj => ?_⟩
  · by_cases e : j = k
    · subst e; simp [Heap.used, upd_same]
    · simpa [Heap.used, upd_other _ _ e] using hj
  · simp only [RSlot, RV, RC, upd_same]
    exact ⟨rfl, fun b hb => by cases hb; rfl⟩
  · simp [Slot.names, V.names, V.cells, cnames, Cell.names] at hj
    subst hj; simp [Heap.used, upd_same]

theorem run_newVar (P : Program) (t : TypeId) (v : Value) (w : World) : (newVar t v).run P w = .ok ⟨w.heap.size, 0, none⟩ (w.alloc (.cells v.cells t)) := by
  simp [newVar, newRow]

theorem done_alloc (hH : RelH F H E) {o : Oper} {elem : TypeId} (ho : o.op = .alloc elem) {i : TypeInfo} {z : Value} (hi : P.info? elem = some i) (hz : i.zero = some z) {x : V} (hx : V.ofVal z = some x) {k : Nat} (hk : H.used k = false)
    (hq : Q (some (.v (.one (.ptr k 0)))) { H with boxes := upd H.boxes k (some x.cells), made := upd H.made k true }) : Done P F H E (execOp ev o) Q := by
  have hv := RV.ofVal (E := E) hx
  obtain ⟨us, hr, hu⟩ := hv.1.cells
  refine done_newBox hH (us := us) (e := elem) ?_ hk hr (fun j hj => by simp [V.names] at hv; rw [hv.2] at hj; cases hj) hq
  simp [execOp, ho, Instr.alloc, zeroValue, typeInfo, hi, hz, run_newVar, hu]

theorem done_box (hH : RelH F H E) (hρ : RhoOk H E ρ ev) {o : Oper} {elem : TypeId} {y : Operand} (ho : o.op = .box elem y) {x : V} (hx : ρ y = some (.v x)) {k : Nat} (hk : H.used k = false)
    (hq : Q (some (.v (.one (.ptr k 0)))) { H with boxes := upd H.boxes k (some x.cells), made := upd H.made k true }) : Done P F H E (execOp ev o) Q := by
  obtain ⟨hv, hn⟩ := hρ y _ hx
  obtain ⟨us, hr, hu⟩ := RV.cells hv
  refine done_newBox hH (us := us) (e := elem) ?_ hk hr hn hq
  simp [execOp, ho, Instr.box, run_newVar, hu]
end
end Go.MG
