/- Loads, stores, addresses. -/
import Derived.Test.YtbjbagemlclgcaaMgD
namespace Go.MG
set_option linter.unusedVariables false
set_option linter.unusedSimpArgs false
set_option linter.unnecessarySimpa false

/-- Is a type's value a row of cells, and how many has it? -/
def shape (P : Program) (t : TypeId) : Option (Bool × Nat) :=
  match P.underlying t, P.info? t with
  | some d, some i => some (d.isRow, i.size)
  | _, _ => none
def mkV : Bool → List Cell → Option V
  | true, cs => some (.agg cs)
  | false, [c] => some (.one c)
  | false, _ => none

section
variable {P : Program} {F : Fix} {H : Heap} {E : Env} {ρ : Rho} {ev : Operand → Value} {Q : Option Slot → Heap → Prop}

theorem shape_some {t : TypeId} {ag : Bool} {n : Nat} (h : shape P t = some (ag, n)) : ∃ d i, P.underlying t = some d ∧ d.isRow = ag ∧ P.info? t = some i ∧ i.size = n := by
  unfold shape at h
  split at h
  · rename_i d i hd hi; cases h; exact ⟨d, i, hd, rfl, hi, rfl⟩
  · cases h

theorem run_isAgg {t : TypeId} {d : TypeDesc} (hd : P.underlying t = some d) (w : World) : (isAgg t).run P w = .ok d.isRow w := by
  unfold isAgg
  rw [Sem.run_bind, run_underlying hd w]
  cases d <;> simp [TypeDesc.isRow]

theorem load_ok {t : TypeId} {ag : Bool} {n : Nat} (hs : shape P t = some (ag, n)) {cs : List Cell} {us : List Value} {b o : Nat} (hr : RCs E cs us) (hat : E.w.rangeAt b o us) (hl : cs.length = n) {x : V} (hx : mkV ag cs = some x) :
    ∃ u, (Instr.loadAt t (.pointer (some ⟨b, o, none⟩))).run P E.w = .ok u E.w ∧ RV E x u := by
  obtain ⟨d, i, hd, hag, hi, hn⟩ := shape_some hs
  have hul := hr.length
  cases ag with
  | true =>
    simp [mkV] at hx; subst hx
    exact ⟨_, run_loadAt_mid E.w b o t us d hat hd hag (by simp [hi]; omega), us, rfl, hr⟩
  | false =>
    cases cs with
    | nil => simp [mkV] at hx
    | cons c cs =>
      cases cs with
      | cons c' cs => simp [mkV] at hx
      | nil =>
        simp [mkV] at hx; subst hx
        simp only [RCs] at hr
        obtain ⟨u, us', rfl, h1, rfl⟩ := hr
        refine ⟨u, ?_, h1⟩
        have := hat 0 u (by simp)
        have hagg := run_isAgg hd E.w
        rw [hag] at hagg
        simp only [Nat.add_zero] at this
        simp [Instr.loadAt, Instr.sureAddr, loadVar, hagg, this]

theorem store_ok {E : Env} {t : TypeId} {ag : Bool} {n : Nat} (hs : shape P t = some (ag, n)) {u : Value} {us : List Value} {b o : Nat} (hu : u.cells = us.toArray) (hl : us.length = n) (h1 : ∀ v ∈ us, v.oneCell' = true) (hth : E.w.there b o n) :
    (Instr.storeAt t (.pointer (some ⟨b, o, none⟩)) u).run P E.w = .ok () (E.w.setCells b o us) := by
  obtain ⟨d, i, hd, hag, hi, hn⟩ := shape_some hs
  have hst := run_storeCells_cells (P := P) b o us 0 E.w (fun j hj => by simpa using (hth j (by omega)).1) (fun j hj => by simpa using (hth j (by omega)).2) h1
  simp only [Nat.add_zero] at hst
  simp [Instr.storeAt, Instr.sureAddr, storeVar, sizeOf, typeInfo, hi, hu, hl, hn, hst]

theorem setCells_only (b : Nat) : ∀ (vs : List Value) (o : Nat) (w : World), Only w (w.setCells b o vs) b
  | [], _, w => ⟨rfl, rfl, rfl, rfl, fun _ _ => rfl⟩
  | v :: r, o, w => by
    rw [World.setCells]
    have h := setCells_only b r (o + 1) (w.setCell ⟨b, o, none⟩ v)
    refine ⟨h.os, h.tape, h.output, h.size.trans (by simp [World.setCell]), fun k hk => (h.block k hk).trans ?_⟩
    simp only [World.setCell, Array.getElem?_modify]
    rw [if_neg (Ne.symm hk)]

/-! ### loads -/
theorem done_load_ptr (hH : RelH F H E) (hρ : RhoOk H E ρ ev) {o : Oper} {t : TypeId} {y : Operand} (ho : o.op = .load t y) {k j : Nat} (hy : ρ y = some (.v (.one (.ptr k j)))) {cs : List Cell} (hk : H.boxes k = some cs) {ag : Bool} {n : Nat}
    (hs : shape P t = some (ag, n)) (hl : j + n ≤ cs.length) {x : V} (hx : mkV ag ((cs.drop j).take n) = some x) (hq : Q (some (.v x)) H) : Done P F H E (execOp ev o) Q := by
  have hv := (hρ y _ hy).1
  obtain ⟨g, us, hb, hr, hat, hth⟩ := hH.boxes k cs hk
  simp only [RSlot, RV, RC] at hv
  have hp := hv.2 g (hH.pt k g hb)
  have hr' : RCs E ((cs.drop j).take n) ((us.drop j).take n) := (hr.drop j).take n
  have hat' : E.w.rangeAt g j ((us.drop j).take n) := fun i v hi => by
    rw [List.getElem?_take] at hi
    split at hi
    · rw [List.getElem?_drop] at hi; have := hat _ v hi; simpa using this
    · cases hi
  obtain ⟨u, h1, h2⟩ := load_ok hs hr' hat' (by simp; omega) hx
  refine Done.same hH (u := u) (by simp [execOp, ho, hp, h1]) hq h2 (fun i hi => (hH.usedB k cs hk).2 i ?_)
  have : i ∈ cnames ((cs.drop j).take n) := by
    cases ag with
    | true => simp [mkV] at hx; subst hx; exact hi
    | false =>
      generalize (cs.drop j).take n = ds at hx ⊢
      match ds, hx with
      | [c], hx => simp [mkV] at hx; subst hx; exact hi
  obtain ⟨c, hc, hi'⟩ := mem_cnames.1 this
  exact mem_cnames.2 ⟨c, List.mem_of_mem_drop (List.mem_of_mem_take hc), hi'⟩

theorem rnames_get {es : List (List Cell)} (h : rnames es = []) {i : Nat} {e : List Cell} (he : es[i]? = some e) : cnames e = [] := by
  cases hc : cnames e with
  | nil => rfl
  | cons k ks =>
    have : k ∈ rnames es := mem_rnames.2 ⟨e, List.mem_of_getElem? he, by rw [hc]; simp⟩
    rw [h] at this; cases this

theorem cnames_part {cs : List Cell} (h : cnames cs = []) (j n : Nat) : cnames ((cs.drop j).take n) = [] := by
  cases hc : cnames ((cs.drop j).take n) with
  | nil => rfl
  | cons k ks =>
    obtain ⟨c, hm, hi⟩ := mem_cnames.1 (show k ∈ cnames ((cs.drop j).take n) by rw [hc]; simp)
    have : k ∈ cnames cs := mem_cnames.2 ⟨c, List.mem_of_mem_drop (List.mem_of_mem_take hm), hi⟩
    rw [h] at this; cases this

theorem names_mkV {ag : Bool} {cs : List Cell} {x : V} (hx : mkV ag cs = some x) (h : cnames cs = []) : x.names = [] := by
  cases ag with
  | true => simp [mkV] at hx; subst hx; exact h
  | false =>
    match cs, hx with
    | [c], hx => simp [mkV] at hx; subst hx; exact h

theorem range_part {w : World} {g o : Nat} {us : List Value} (h : w.rangeAt g o us) (j n : Nat) : w.rangeAt g (o + j) ((us.drop j).take n) := fun i v hi => by
  rw [List.getElem?_take] at hi
  split at hi
  · rw [List.getElem?_drop] at hi; have := h _ v hi; rwa [← Nat.add_assoc] at this
  · cases hi

theorem done_load_ep (hH : RelH F H E) (hρ : RhoOk H E ρ ev) {o : Oper} {t : TypeId} {y : Operand} (ho : o.op = .load t y) {k i j : Nat} (hy : ρ y = some (.v (.one (.ep k i j)))) {r : Row} (hk : H.rows k = some r) {e : List Cell} (he : r.es[i]? = some e)
    {ag : Bool} {n : Nat} (hs : shape P t = some (ag, n)) (hl : j + n ≤ e.length) {x : V} (hx : mkV ag ((e.drop j).take n) = some x) (hno : noOw ((e.drop j).take n) = true) (hq : Q (some (.v x)) H) : Done P F H E (execOp ev o) Q := by
  have hv := (hρ y _ hy).1
  obtain ⟨h1, h2, hd, h3, h4, h5⟩ := hH.rows k r hk
  simp only [RSlot, RV, RC] at hv
  obtain ⟨g, len, cap, hg, hlt, hu⟩ := hv.2 hd h3
  obtain ⟨bs', hrow⟩ : ∃ bs', RXRow E g 0 r.sz r.es bs' := by
    rcases h5 with ⟨h6, _⟩ | ⟨g', cap', bs', h6, _, _, h9, _⟩
    · rw [h6] at hg; cases hg
    · rw [h6] at hg; cases hg; exact ⟨bs', h9⟩
  obtain ⟨hel, us, b1, hr, _, hat⟩ := hrow.get i e he
  obtain ⟨b2, hr2, _⟩ := hr.part j n
  have hlen := hr.length
  obtain ⟨u, hm, hR⟩ := load_ok hs (hr2.plain hno).1 (b := g) (o := 0 + i * r.sz + j) (range_part hat j n) (by simp; omega) hx
  refine Done.same hH (u := u) ?_ hq hR (fun c hc => ?_)
  · rw [h4] at hu
    simp only [Nat.zero_add] at hm
    simp [execOp, ho, hu, hm]
  · rw [show Slot.names (.v x) = x.names from rfl, names_mkV hx (cnames_part (rnames_get h2.2 he) j n)] at hc; cases hc

/-- What is loaded of lent elements: slices in them are lent, too. -/
def ldC (g : Bool) : Cell → Cell
  | .ow _ es => .sl g es
  | c => c
theorem ldC_ok {E : Env} (hs : ∀ b, E.S true b → E.S false b) {g : Bool} {c : Cell} {u : Value} (h : RC (E.cap g) c u) : RC E (ldC g c) u := by
  have plain : ∀ {c : Cell}, RC (E.cap g) c u → RC E c u := fun h => RC.sub (Sub.uncap hs g (fun _ => True)) (fun _ _ => trivial) h
  cases c with
  | ow sz es =>
    simp only [RC, ldC] at h ⊢
    obtain ⟨hf, a, cap, hu, hc, h⟩ := h
    refine ⟨hf, a, cap, hu, hc, h.imp id ?_⟩
    rintro ⟨b, o, ha, hS, hr⟩
    exact ⟨b, o, sz, ha, hS, hr⟩
  | _ => exact plain h
theorem ldCs_ok {E : Env} (hs : ∀ b, E.S true b → E.S false b) {g : Bool} : ∀ {cs : List Cell} {us : List Value}, RCs (E.cap g) cs us → RCs E (cs.map (ldC g)) us
  | [], _, h => by simpa only [RCs, List.map_nil] using h
  | c :: cs, _, h => by
    simp only [RCs, List.map_cons] at h ⊢
    obtain ⟨u, us', rfl, h1, h2⟩ := h
    exact ⟨u, us', rfl, ldC_ok hs h1, ldCs_ok hs h2⟩
theorem ldC_names {g : Bool} : ∀ {cs : List Cell}, cnames cs = [] → cnames (cs.map (ldC g)) = []
  | [], _ => rfl
  | c :: cs, h => by
    simp only [cnames, List.append_eq_nil_iff] at h
    simp only [List.map_cons, cnames, ldC_names h.2, List.append_nil]
    cases c <;> simp [ldC, Cell.names] at h ⊢
    exact h.1

theorem done_load_pe (hH : RelH F H E) (hρ : RhoOk H E ρ ev) {o : Oper} {t : TypeId} {y : Operand} (ho : o.op = .load t y) {g : Bool} {e : List Cell} {j : Nat} (hy : ρ y = some (.v (.one (.pe g e j))))
    {ag : Bool} {n : Nat} (hs : shape P t = some (ag, n)) (hl : j + n ≤ e.length) {x : V} (hx : mkV ag (((e.drop j).take n).map (ldC g)) = some x) (hq : Q (some (.v x)) H) : Done P F H E (execOp ev o) Q := by
  obtain ⟨hv, hn⟩ := hρ y _ hy
  simp only [RSlot, RV, RC] at hv
  obtain ⟨hf, b, p, us, hu, hS, hr, hat⟩ := hv
  obtain ⟨u, hm, hR⟩ := load_ok hs (ldCs_ok hH.SS ((hr.drop j).take n)) (range_part hat j n) (by simp; omega) hx
  refine Done.same hH (u := u) (by simp [execOp, ho, hu, hm]) hq hR (fun c hc => ?_)
  rw [show Slot.names (.v x) = x.names from rfl, names_mkV hx (ldC_names (cnames_part hf.one j n))] at hc; cases hc

/-! ### addresses -/
theorem done_nilCheck (hH : RelH F H E) (hρ : RhoOk H E ρ ev) {o : Oper} {y : Operand} (ho : o.op = .nilCheck y) {c : Cell} (hy : ρ y = some (.v (.one c)))
    (hc : (∃ k j, c = .ptr k j ∧ H.boxes k ≠ none) ∨ (∃ k i j, c = .ep k i j ∧ H.rows k ≠ none) ∨ ∃ g e j, c = .pe g e j) (hq : Q (some (.v (.one c))) H) : Done P F H E (execOp ev o) Q := by
  obtain ⟨hv, hn⟩ := hρ y _ hy
  have hp : ∃ a, ev y = .pointer (some a) := by
    simp only [RSlot, RV] at hv
    rcases hc with ⟨k, j, rfl, hk⟩ | ⟨k, i, j, rfl, hk⟩ | ⟨g, e, j, rfl⟩
    · cases hb : H.boxes k with
      | none => exact absurd hb hk
      | some cs =>
        obtain ⟨g, us, h1, _⟩ := hH.boxes k cs hb
        simp only [RC] at hv
        exact ⟨_, hv.2 g (hH.pt k g h1)⟩
    · cases hb : H.rows k with
      | none => exact absurd hb hk
      | some r =>
        obtain ⟨_, _, hd, h3, _⟩ := hH.rows k r hb
        simp only [RC] at hv
        obtain ⟨g, len, cap, _, _, hu⟩ := hv.2 hd h3
        exact ⟨_, hu⟩
    · simp only [RC] at hv
      obtain ⟨_, b, p, us, hu, _⟩ := hv
      exact ⟨_, hu⟩
  obtain ⟨a, ha⟩ := hp
  exact Done.same hH (u := ev y) (by simp [execOp, ho, ha]) hq hv hn

def Cell.shift (d : Nat) : Cell → Option Cell
  | .ptr k j => some (.ptr k (j + d))
  | .ep k i j => some (.ep k i (j + d))
  | .pe g e j => some (.pe g e (j + d))
  | _ => none

theorem done_fieldAddr (hH : RelH F H E) (hρ : RhoOk H E ρ ev) {o : Oper} {s : TypeId} {y : Operand} {f : Nat} (ho : o.op = .fieldAddr s y f) {fs : Array Field} (hs : P.underlying s = some (.struct fs)) {fd : Field} (hf : fs[f]? = some fd) {i : TypeInfo}
    (hi : P.info? fd.type = some i) (h0 : i.size ≠ 0) {c c' : Cell} (hy : ρ y = some (.v (.one c))) (hc : c.shift fd.offset = some c')
    (hlive : (∃ k j, c = .ptr k j ∧ H.boxes k ≠ none) ∨ (∃ k i j, c = .ep k i j ∧ H.rows k ≠ none) ∨ ∃ g e j, c = .pe g e j) (hq : Q (some (.v (.one c'))) H) : Done P F H E (execOp ev o) Q := by
  obtain ⟨hv, hn⟩ := hρ y _ hy
  have key : ∃ b q, ev y = .pointer (some ⟨b, q, none⟩) ∧ RC E c' (.pointer (some ⟨b, q + fd.offset, none⟩)) ∧ c'.names = c.names := by
    simp only [RSlot, RV] at hv
    rcases hlive with ⟨k, j, rfl, hk⟩ | ⟨k, i, j, rfl, hk⟩ | ⟨g, e, j, rfl⟩ <;> simp [Cell.shift] at hc <;> subst hc
    · cases hb : H.boxes k with
      | none => exact absurd hb hk
      | some cs =>
        obtain ⟨g, us, h1, _⟩ := hH.boxes k cs hb
        simp only [RC] at hv ⊢
        exact ⟨g, j, hv.2 g (hH.pt k g h1), ⟨rfl, fun b hb => by rw [hH.pt k g h1] at hb; cases hb; rfl⟩, rfl⟩
    · cases hb : H.rows k with
      | none => exact absurd hb hk
      | some r =>
        obtain ⟨_, _, hd, h3, _⟩ := hH.rows k r hb
        simp only [RC] at hv ⊢
        obtain ⟨g, len, cap, h6, h7, hu⟩ := hv.2 hd h3
        exact ⟨g, _, hu, ⟨rfl, fun h hh => by rw [h3] at hh; cases hh; exact ⟨g, len, cap, h6, h7, by rw [Nat.add_assoc]⟩⟩, rfl⟩
    · simp only [RC] at hv ⊢
      obtain ⟨hf, b, p, us, hu, h1, h2, h3⟩ := hv
      exact ⟨b, _, hu, ⟨hf, b, p, us, by rw [Nat.add_assoc], h1, h2, h3⟩, rfl⟩
  obtain ⟨b, q, h1, h2, h3⟩ := key
  refine Done.same hH (u := .pointer (some ⟨b, q + fd.offset, none⟩)) ?_ hq h2 (fun k hk => hn k ?_)
  · have hsz : (sizeOf fd.type).run P E.w = .ok i.size E.w := by simp [sizeOf, typeInfo, hi]
    have hadd := Addr.add_mid b q fd.offset
    simp [execOp, ho, h1, Instr.fieldAt, run_underlying hs, hf, Instr.sureAddr, fieldPlace, hsz, h0, hadd]
  · simpa [Slot.names, V.names, V.cells, cnames, h3] using hk

/-- The cells of an indexable slice: what an address of element i is. -/
def Heap.elemAt (H : Heap) (c : Cell) (i : Nat) : Option (Cell × List Cell) :=
  match c with
  | .sl g es => (es[i]?).map fun e => (.pe g e 0, e)
  | .own k => (H.rows k).bind fun r => (r.es[i]?).map fun e => (.ep k i 0, e)
  | .sub k lo n => if i < n then (H.rows k).bind fun r => (r.es[lo + i]?).map fun e => (.ep k (lo + i) 0, e) else none
  | _ => none

theorem done_indexAddr (hH : RelH F H E) (hρ : RhoOk H E ρ ev) {o : Oper} {t : TypeId} {y z : Operand} (ho : o.op = .indexAddr t y z) {el : TypeId} (ht : P.underlying t = some (.slice el)) {ti : TypeInfo} (hti : P.info? el = some ti)
    {c : Cell} (hy : ρ y = some (.v (.one c))) {ik : IntKind} {i : Nat} {sz : Slot} (hz : ρ z = some sz) (hzv : sz.val? = some (.int ik i)) {c' : Cell} {e : List Cell} (he : H.elemAt c i = some (c', e)) (hel : e.length = ti.size)
    (hq : Q (some (.v (.one c'))) H) : Done P F H E (execOp ev o) Q := by
  obtain ⟨hv, hn⟩ := hρ y _ hy
  have hi := im_ok hρ hz hzv
  have key : ∃ b q len cap, ev y = .slice (some ⟨b, q, none⟩) len cap ∧ i < len ∧ RC E c' (.pointer (some ⟨b, q + i * ti.size, none⟩)) ∧ c'.names ⊆ c.names := by
    simp only [RSlot, RV] at hv
    cases c with
    | sl g es =>
      simp only [Heap.elemAt, Option.map_eq_some_iff] at he
      obtain ⟨e', he', h⟩ := he
      cases h
      simp only [RC] at hv ⊢
      obtain ⟨hf, a, cap, hu, hc, h⟩ := hv
      rcases h with h | ⟨b, p, sz', ha, hS, hr⟩
      · subst h; simp at he'
      · obtain ⟨h1, us, h2, h3⟩ := hr.get i e he'
        refine ⟨b, p, _, cap, by rw [hu, ha], (List.getElem?_eq_some_iff.1 he').1, ⟨hf.get he', b, p + i * ti.size, us, by simp, hS, h2, by rw [← hel, h1]; exact h3⟩, fun k hk => hk⟩
    | own k =>
      simp only [Heap.elemAt, Option.bind_eq_some_iff, Option.map_eq_some_iff] at he
      obtain ⟨r, hr, e', he', h⟩ := he
      cases h
      obtain ⟨h1, h2, hd, h3, h4, h5⟩ := hH.rows k r hr
      simp only [RC] at hv ⊢
      have hu := hv.2 hd h3
      have hlt := (List.getElem?_eq_some_iff.1 he').1
      rcases h5 with ⟨_, h6, _⟩ | ⟨g, cap, bs', h6, h7, h8, h9, h10⟩
      · rw [h6] at he'; simp at he'
      · have hsz : ti.size = r.sz := by rw [← hel]; exact h1 e (List.mem_of_getElem? he')
        refine ⟨g, 0, _, cap, by rw [hu, h6], hlt, ⟨rfl, fun h hh => ?_⟩, fun j hj => hj⟩
        rw [h3] at hh; cases hh
        exact ⟨g, _, cap, h6, hlt, by rw [h4, hsz]; simp⟩
    | sub k lo n =>
      simp only [Heap.elemAt] at he
      split at he
      · rename_i hin
        simp only [Option.bind_eq_some_iff, Option.map_eq_some_iff] at he
        obtain ⟨r, hr, e', he', h⟩ := he
        cases h
        obtain ⟨h1, h2, hd, h3, h4, h5⟩ := hH.rows k r hr
        simp only [RC] at hv ⊢
        have hlt := (List.getElem?_eq_some_iff.1 he').1
        have hsz : ti.size = r.sz := by rw [← hel]; exact h1 e (List.mem_of_getElem? he')
        rcases hv.2 hd h3 with ⟨_, _, h8, _⟩ | ⟨g, len, cap, a, h8, h9, h10, h11, _⟩
        · omega
        · rcases h11 with h11 | h11
          · omega
          · refine ⟨g, lo * E.sz k, n, cap - lo, by rw [h10, h11], hin, ⟨rfl, fun h hh => ?_⟩, fun j hj => hj⟩
            rw [h3] at hh; cases hh
            exact ⟨g, len, cap, h8, by omega, by rw [h4, hsz, Nat.add_mul]; simp⟩
      · cases he
    | _ => simp [Heap.elemAt] at he
  obtain ⟨b, q, len, cap, h1, h2, h3, h4⟩ := key
  refine Done.same hH (u := .pointer (some ⟨b, q + i * ti.size, none⟩)) ?_ hq h3 (fun k hk => hn k ?_)
  · have hsz : (sizeOf el).run P E.w = .ok ti.size E.w := by simp [sizeOf, typeInfo, hti]
    have hadd := Addr.add_mid b q (i * ti.size)
    simp [execOp, ho, h1, hi, Instr.indexAt, asIntOf, run_underlying ht, hsz, h2, hadd]
  · simp only [Slot.names, V.names, V.cells, cnames, List.append_nil] at hk ⊢
    exact h4 hk
end
end Go.MG
