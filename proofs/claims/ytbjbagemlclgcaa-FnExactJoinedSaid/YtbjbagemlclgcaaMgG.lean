/- Lengths and parts of slices; closures; structs and slices that are written out; new slices. -/
import Derived.Test.YtbjbagemlclgcaaMgF
namespace Go.MG
set_option linter.unusedVariables false
set_option linter.unusedSimpArgs false
set_option linter.unnecessarySimpa false

def Heap.lenOf (H : Heap) : Cell → Option Nat
  | .nil => some 0
  | .sl _ es => some es.length
  | .own k => match H.rows k with
    | some r => some r.es.length
    | none => H.lens k
  | .sub k _ n => if (H.rows k).isSome then some n else none
  | _ => none

def Heap.cut (H : Heap) (c : Cell) (l h : Nat) : Option Cell :=
  match c with
  | .nil => if l = 0 ∧ h = 0 then some .nil else none
  | .sl g es => if l ≤ h ∧ h ≤ es.length then some (.sl g ((es.drop l).take (h - l))) else none
  | .own k => match H.rows k with
    | some r => if l ≤ h ∧ h ≤ r.es.length then some (.sub k l (h - l)) else none
    | none => none
  | .sub k lo n => if (H.rows k).isSome ∧ l ≤ h ∧ h ≤ n then some (.sub k (lo + l) (h - l)) else none
  | _ => none
/-- The elements of a slice have so many cells. -/
def Heap.wide (H : Heap) (n : Nat) : Cell → Prop
  | .sl _ es => ∀ e ∈ es, e.length = n
  | .own k | .sub k _ _ => ∀ r, H.rows k = some r → r.sz = n
  | _ => True

def capCells (ρ : Rho) : List Operand → Option (List Cell)
  | [] => some []
  | x :: xs => match ρ x, capCells ρ xs with
    | some (.v (.one c)), some cs => some (c :: cs)
    | _, _ => none

def fillA (place : Nat → Option (Nat × Nat)) (cs : List Cell) : List (Nat × V) → Option (List Cell)
  | [] => some cs
  | (i, x) :: rest => match place i with
    | none => none
    | some (off, size) => if x.cells.length = size ∧ off + size ≤ cs.length then fillA place (splice cs off x.cells) rest else none

def partsV (ρ : Rho) : List (Nat × Operand) → Option (List (Nat × V))
  | [] => some []
  | (i, x) :: xs => match ρ x, partsV ρ xs with
    | some (.v v), some vs => some ((i, v) :: vs)
    | _, _ => none

def builtA (P : Program) (t : TypeId) (parts : List (Nat × V)) : Option (List Cell) :=
  match P.info? t, P.underlying t with
  | some it, some (.struct fields) =>
    match it.zero, fields.toList.mapM (fun f => (P.info? f.type).map fun i => (f.offset, i.size)) with
    | some z, some places => match cellsOfVals z.cells.toList with
      | some zc => fillA (places[·]?) zc parts
      | none => none
    | _, _ => none
  | _, _ => none

section
variable {P : Program} {F : Fix} {H : Heap} {E : Env} {ρ : Rho} {ev : Operand → Value} {Q : Option Slot → Heap → Prop}

theorem done_len (hH : RelH F H E) (hρ : RhoOk H E ρ ev) {o : Oper} {y : Operand} {t : TypeId} (ho : o.op = .call { callee := .builtin .len, args := #[y], argTypes := #[t] }) {el : TypeId} (ht : P.underlying t = some (.slice el))
    {c : Cell} (hy : ρ y = some (.v (.one c))) {n : Nat} (hn : H.lenOf c = some n) (hq : Q (some (im (.int .i64 n))) H) : Done P F H E (execOp ev o) Q := by
  have hv := (hρ y _ hy).1
  have key : ∃ a cap, ev y = .slice a n cap := by
    simp only [RSlot, RV] at hv
    cases c with
    | nil => simp [Heap.lenOf] at hn; subst hn; simp only [RC] at hv; exact ⟨_, _, hv⟩
    | sl g es => simp [Heap.lenOf] at hn; subst hn; simp only [RC] at hv; obtain ⟨_, a, cap, hu, _⟩ := hv; exact ⟨_, _, hu⟩
    | own k =>
      simp only [RC] at hv
      cases hr : H.rows k with
      | some r =>
        simp only [Heap.lenOf, hr, Option.some.injEq] at hn
        subst hn
        obtain ⟨_, _, hd, h3, _, h5⟩ := hH.rows k r hr
        rw [hv.2 hd h3]
        rcases h5 with ⟨h6, h7, _⟩ | ⟨g, cap, _, h6, _⟩
        · exact ⟨none, 0, by rw [h6, h7]; rfl⟩
        · exact ⟨_, _, h6⟩
      | none =>
        simp only [Heap.lenOf, hr] at hn
        obtain ⟨_, a, cap, h⟩ := hH.lens k n hn
        exact ⟨a, cap, hv.2 _ h⟩
    | sub k lo m =>
      simp only [Heap.lenOf] at hn
      split at hn
      · rename_i hs
        cases hn
        obtain ⟨r, hr⟩ := Option.isSome_iff_exists.1 hs
        obtain ⟨_, _, hd, h3, _, _⟩ := hH.rows k r hr
        simp only [RC] at hv
        rcases hv.2 hd h3 with ⟨h6, _, h8, h9⟩ | ⟨_, _, _, _, _, _, h9, _⟩
        · exact ⟨none, 0, by rw [h9, h6, h8]⟩
        · exact ⟨_, _, h9⟩
      · cases hn
    | _ => simp [Heap.lenOf] at hn
  obtain ⟨a, cap, hu⟩ := key
  refine Done.same hH (u := .int .i64 n) ?_ hq (by simp [RSlot, RV, RC, isImm]) (fun k hk => by simp [Slot.names, V.names, V.cells, cnames, Cell.names] at hk)
  simp [execOp, ho, resolve, invoke, builtin, Builtin.len_, run_underlying ht, hu, goInt]

/-- A bound that is given or left out. -/
def bound (ρ : Rho) (d : Nat) : Option Operand → Nat → Prop
  | none, n => n = d
  | some x, n => ∃ s k, ρ x = some s ∧ s.val? = some (.int k n)

theorem run_slice (t el : TypeId) (ht : P.underlying t = some (.slice el)) (ti : TypeInfo) (hti : P.info? el = some ti) (w : World) (a : Option Addr) (len cap l h : Nat) (lo hi : Option Operand) (hρ : RhoOk H E ρ ev)
    (hl : bound ρ 0 lo l) (hh : bound ρ len hi h) (h1 : l ≤ h) (h2 : h ≤ len) (h3 : len ≤ cap) :
    (Instr.sliceAt t (.slice a len cap) (lo.map ev) (hi.map ev) none).run P w = .ok (.slice (if cap = l then a else a.map (·.add (l * ti.size))) (h - l) (cap - l)) w := by
  have hsz : (sizeOf el).run P w = .ok ti.size w := by simp [sizeOf, typeInfo, hti]
  have bl : ∀ y : Nat, ∀ n : Nat, n ≤ y → ∀ code k, (Instr.sliceBound (.int k n) y code).run P w = .ok n w := fun y n hn code k => by
    have : (0 : Int) ≤ n ∧ (n : Int) ≤ y := by omega
    simp [Instr.sliceBound, asIntOf, hn]
  have hlo : ∀ x, lo = some x → ∃ k, ev x = .int k l := fun x e => by subst e; obtain ⟨s, k, a1, a2⟩ := hl; exact ⟨k, im_ok hρ a1 a2⟩
  have hhi : ∀ x, hi = some x → ∃ k, ev x = .int k h := fun x e => by subst e; obtain ⟨s, k, a1, a2⟩ := hh; exact ⟨k, im_ok hρ a1 a2⟩
  cases lo with
  | none =>
    simp only [bound] at hl; subst hl
    cases hi with
    | none => simp only [bound] at hh; subst hh; simp [Instr.sliceAt, Instr.slice, run_underlying ht, Instr.sliceBounds, hsz]
    | some y => obtain ⟨k, hy⟩ := hhi y rfl; simp [Instr.sliceAt, Instr.slice, run_underlying ht, Instr.sliceBounds, hsz, hy, bl cap h (by omega)]
  | some x =>
    obtain ⟨k, hx⟩ := hlo x rfl
    cases hi with
    | none => simp only [bound] at hh; subst hh; simp [Instr.sliceAt, Instr.slice, run_underlying ht, Instr.sliceBounds, hsz, hx, bl h l h1]
    | some y => obtain ⟨k', hy⟩ := hhi y rfl; simp [Instr.sliceAt, Instr.slice, run_underlying ht, Instr.sliceBounds, hsz, hx, hy, bl cap h (by omega), bl h l h1]

theorem done_slice (hH : RelH F H E) (hρ : RhoOk H E ρ ev) {o : Oper} {y : Operand} {t : TypeId} {lo hi : Option Operand} (ho : o.op = .slice t y lo hi none) {el : TypeId} (ht : P.underlying t = some (.slice el)) {ti : TypeInfo} (hti : P.info? el = some ti)
    {c c' : Cell} (hy : ρ y = some (.v (.one c))) {len l h : Nat} (hlen : H.lenOf c = some len) (hl : bound ρ 0 lo l) (hh : bound ρ len hi h) (hc : H.cut c l h = some c') (hw : H.wide ti.size c) (hq : Q (some (.v (.one c'))) H) : Done P F H E (execOp ev o) Q := by
  obtain ⟨hv, hn⟩ := hρ y _ hy
  have key : ∃ a cap, ev y = .slice a len cap ∧ len ≤ cap ∧ l ≤ h ∧ h ≤ len ∧ RC E c' (.slice (if cap = l then a else a.map (·.add (l * ti.size))) (h - l) (cap - l)) ∧ c'.names ⊆ c.names := by
    simp only [RSlot, RV] at hv
    cases c with
    | nil =>
      simp [Heap.lenOf] at hlen; subst hlen
      simp only [Heap.cut] at hc
      split at hc
      · rename_i h0; cases hc; obtain ⟨rfl, rfl⟩ := h0
        simp only [RC] at hv ⊢
        exact ⟨none, 0, hv, by omega, by omega, by omega, by simp, fun _ h => h⟩
      · cases hc
    | sl g es =>
      simp [Heap.lenOf] at hlen; subst hlen
      simp only [Heap.cut] at hc
      split at hc
      · rename_i h0; cases hc
        simp only [RC] at hv ⊢
        obtain ⟨hf, a, cap, hu, hcap, hr⟩ := hv
        refine ⟨a, cap, hu, hcap, h0.1, h0.2, ?_, fun k hk => hk⟩
        · have hl' : ((es.drop l).take (h - l)).length = h - l := by simp; omega
          refine ⟨hf.part _ _, _, _, by rw [hl'], by rw [hl']; omega, ?_⟩
          rcases hr with hr | ⟨b, p, sz, ha, hS, hr⟩
          · exact .inl (by simp [hr])
          · by_cases e : cap = l
            · left; simp; omega
            · by_cases e0 : h - l = 0
              · left; simp; omega
              · right
                have hsz : sz = ti.size := by
                  have hlt : 0 < es.length := by omega
                  have := hr.get 0 es[0] (List.getElem?_eq_getElem hlt)
                  rw [← this.1]; exact hw _ (List.getElem_mem hlt)
                refine ⟨b, p + l * sz, sz, ?_, hS, (hr.drop l).take _⟩
                rw [if_neg e, ha, hsz]; simp [Addr.add_mid]
      · cases hc
    | own k =>
      cases hr : H.rows k with
      | none => simp only [Heap.cut, hr] at hc; cases hc
      | some r =>
      simp only [Heap.lenOf, hr, Option.some.injEq] at hlen
      subst hlen
      simp only [Heap.cut, hr] at hc
      split at hc
      · rename_i h0; cases hc
        obtain ⟨_, _, hd, h3, h4, h5⟩ := hH.rows k r hr
        simp only [RC] at hv ⊢
        have hu := hv.2 hd h3
        have hrs := hw r hr
        rcases h5 with ⟨h6, h7, h10⟩ | ⟨g, cap, bs0, h6, h7, h8, h9, h10⟩
        · rw [h7] at h0; simp at h0
          obtain ⟨rfl, rfl⟩ : l = 0 ∧ h = 0 := by omega
          refine ⟨none, 0, by rw [hu, h6, h7]; rfl, by simp [h7], by omega, by omega, ⟨rfl, fun hd' e => ?_⟩, fun _ h => h⟩
          rw [h3] at e; cases e; left; simp [h6]
        · refine ⟨_, cap, by rw [hu, h6], h7, h0.1, h0.2, ⟨rfl, fun hd' e => ?_⟩, fun _ h => h⟩
          rw [h3] at e; cases e
          refine .inr ⟨g, _, cap, if cap = l then ⟨g, 0, none⟩ else ⟨g, l * ti.size, none⟩, h6, by omega, ?_, ?_, fun e => ?_⟩
          · by_cases e : cap = l
            · simp [e]
            · simp [e, Addr.add_mid]
          · by_cases e : cap = l
            · left; omega
            · right; rw [if_neg e, h4, hrs]
          · subst e; simp
      · cases hc
    | sub k p n =>
      simp only [Heap.lenOf] at hlen
      split at hlen
      · rename_i hs
        cases hlen
        obtain ⟨r, hr⟩ := Option.isSome_iff_exists.1 hs
        simp only [Heap.cut] at hc
        split at hc
        · rename_i h0; cases hc
          obtain ⟨_, _, hd, h3, h4, h5⟩ := hH.rows k r hr
          simp only [RC] at hv ⊢
          have hrs := hw r hr
          rcases hv.2 hd h3 with ⟨h6, h7, h8, h9⟩ | ⟨g, m, cap, a, h6, h7, h8, h9, h10⟩
          · obtain ⟨rfl, rfl⟩ : l = 0 ∧ h = 0 := by omega
            subst h7
            refine ⟨none, 0, by rw [h9, h6, h8], by omega, by omega, by omega, ⟨rfl, fun hd' e => ?_⟩, fun _ h => h⟩
            rw [h3] at e; cases e; left; simp [h6]
          · have hmc : m ≤ cap := by
              rcases h5 with ⟨h11, _⟩ | ⟨_, _, _, h11, h12, _⟩
              · rw [h11] at h6; cases h6
              · rw [h11] at h6; cases h6; exact h12
            refine ⟨_, cap - p, h8, by omega, h0.2.1, h0.2.2, ⟨rfl, fun hd' e => ?_⟩, fun _ h => h⟩
            rw [h3] at e; cases e
            refine .inr ⟨g, m, cap, if cap - p = l then a else a.add (l * ti.size), h6, by omega, ?_, ?_, fun e => ?_⟩
            · by_cases e : cap - p = l
              · simp [e]; omega
              · simp [e]; omega
            · by_cases e : cap - p = l
              · left; omega
              · rcases h9 with h9 | h9
                · left; omega
                · right; rw [if_neg e, h9, Addr.add_mid, Nat.add_mul, h4, hrs]
            · have e1 : p = 0 := by omega
              have e2 : l = 0 := by omega
              rw [h10 e1, e2]; simp [Addr.add_mid]
        · cases hc
      · cases hlen
    | _ => simp [Heap.lenOf] at hlen
  obtain ⟨a, cap, h1, h2, h3, h4, h5, h6⟩ := key
  refine Done.same hH (u := .slice (if cap = l then a else a.map (·.add (l * ti.size))) (h - l) (cap - l)) ?_ hq h5 (fun k hk => hn k ?_)
  · have := run_slice t el ht ti hti E.w a len cap l h lo hi hρ hl hh h3 h4 h2
    simp [execOp, ho, h1, this]
  · simp only [Slot.names, V.names, V.cells, cnames, List.append_nil] at hk ⊢
    exact h6 hk

theorem capCells_ok (hρ : RhoOk H E ρ ev) : ∀ {xs : List Operand} {cs : List Cell}, capCells ρ xs = some cs → RCs E cs (xs.map ev) ∧ ∀ k ∈ cnames cs, H.used k = true
  | [], cs, h => by simp [capCells] at h; subst h; exact ⟨by simp only [RCs, List.map_nil], fun k hk => by cases hk⟩
  | x :: xs, cs, h => by
    unfold capCells at h
    split at h
    · rename_i c cs' hc hcs
      cases h
      obtain ⟨h1, h2⟩ := hρ x _ hc
      obtain ⟨h3, h4⟩ := capCells_ok hρ hcs
      refine ⟨by simp only [RCs, List.map_cons]; exact ⟨_, _, rfl, h1, h3⟩, fun k hk => ?_⟩
      simp only [cnames, List.mem_append] at hk
      rcases hk with hk | hk
      · exact h2 k (by simpa [Slot.names, V.names, V.cells, cnames] using hk)
      · exact h4 k hk
    · cases h

theorem done_makeFunc (hH : RelH F H E) (hρ : RhoOk H E ρ ev) {o : Oper} {f : FuncId} {caps : Array Operand} (ho : o.op = .makeFunc (.func f) #[] caps) {cs : List Cell} (hc : capCells ρ caps.toList = some cs) (hq : Q (some (.v (.one (.clo f cs)))) H) :
    Done P F H E (execOp ev o) Q := by
  obtain ⟨h1, h2⟩ := capCells_ok hρ hc
  refine Done.same hH (u := .func (.func f) #[] (caps.map ev)) (by simp [execOp, ho, Instr.makeFunc]) hq ?_ (fun k hk => h2 k ?_)
  · simp only [RSlot, RV, RC]
    exact ⟨caps.toList.map ev, by congr 1; apply Array.ext'; simp, h1⟩
  · simpa [Slot.names, V.names, V.cells, cnames, Cell.names] using hk

/-! ### structs that are written out -/
theorem partsV_ok (hρ : RhoOk H E ρ ev) : ∀ {xs : List (Nat × Operand)} {vs : List (Nat × V)}, partsV ρ xs = some vs →
    ∃ us : List (Nat × Value), (xs.map fun p => (p.1, ev p.2)) = us ∧ us.length = vs.length ∧ (∀ i (h : i < vs.length) (h' : i < us.length), us[i].1 = vs[i].1 ∧ RV E vs[i].2 us[i].2) ∧ ∀ p ∈ vs, ∀ k ∈ p.2.names, H.used k = true
  | [], vs, h => by simp [partsV] at h; subst h; exact ⟨[], rfl, rfl, fun i h => by simp at h, fun p hp => by cases hp⟩
  | (i, x) :: xs, vs, h => by
    unfold partsV at h
    split at h
    · rename_i v vs' hv hvs
      cases h
      obtain ⟨h1, h2⟩ := hρ x _ hv
      obtain ⟨us, g1, g2, g3, g4⟩ := partsV_ok hρ hvs
      refine ⟨(i, ev x) :: us, by simp [g1], by simp [g2], fun j hj hj' => ?_, fun p hp => ?_⟩
      · cases j with
        | zero => exact ⟨rfl, h1⟩
        | succ j => simpa using g3 j (by simpa using hj) (by simpa using hj')
      · rcases List.mem_cons.1 hp with rfl | hp
        · exact h2
        · exact g4 p hp
    · cases h

theorem foldl_splice {off : Nat} {l : List Value} {base : Array Value} (h : off + l.length ≤ base.size) : (l.zipIdx.foldl (fun cs (x : Value × Nat) => cs.setIfInBounds (off + x.2) x.1) base).toList = splice base.toList off l := by
  obtain ⟨h1, h2⟩ := Great.foldl_set off l 0 base
  apply List.ext_getElem?
  intro k
  have := h2 k
  simp only [Nat.add_zero] at this
  rw [Array.getElem?_toList, this, splice_get (by simpa using h)]
  by_cases hk : off ≤ k ∧ k < off + l.length
  · rw [if_pos ⟨hk.1, hk.2, by omega⟩, if_pos hk]
  · rw [if_neg (fun h => hk ⟨h.1, h.2.1⟩), if_neg hk, Array.getElem?_toList]

theorem fill_ok {place : Nat → Option (Nat × Nat)} : ∀ {vs : List (Nat × V)} {cs cs' : List Cell} {us : List (Nat × Value)} {bs : List Value}, us.length = vs.length → (∀ i (h : i < vs.length) (h' : i < us.length), us[i].1 = vs[i].1 ∧ RV E vs[i].2 us[i].2) →
    RCs E cs bs → fillA place cs vs = some cs' → ∃ bs', Instr.fill place bs.toArray us = some bs'.toArray ∧ RCs E cs' bs'
  | [], cs, cs', us, bs, hl, _, hr, h => by
    simp [fillA] at h; subst h
    obtain rfl : us = [] := by simpa using hl
    exact ⟨bs, rfl, hr⟩
  | (i, x) :: vs, cs, cs', us, bs, hl, hp, hr, h => by
    cases us with
    | nil => simp at hl
    | cons u us =>
      have h0 := hp 0 (by simp) (by simp)
      simp at h0
      unfold fillA at h
      split at h
      · cases h
      · rename_i off size hpl
        split at h
        · rename_i hc
          obtain ⟨ws, g1, g2⟩ := RV.cells h0.2
          have gl := g1.length
          have bl := hr.length
          obtain ⟨bs', r1, r2⟩ := fill_ok (us := us) (by simpa using hl) (fun j hj hj' => hp (j + 1) (by simpa using hj) (by simpa using hj')) (hr.splice g1 (j := off)) h
          refine ⟨bs', ?_, r2⟩
          obtain ⟨ui, uv⟩ := u
          simp only at h0 g2
          unfold Instr.fill
          rw [h0.1, hpl]
          simp only
          rw [if_neg (by simp [g2]; omega), ← r1]
          congr 1
          apply Array.ext'
          rw [← Array.foldl_toList, Array.toList_zipIdx, g2]
          have := foldl_splice (off := off) (l := ws) (base := bs.toArray) (by simp; omega)
          simpa using this
        · cases h

theorem fillA_names {place : Nat → Option (Nat × Nat)} : ∀ {vs : List (Nat × V)} {cs cs' : List Cell}, fillA place cs vs = some cs' → ∀ k ∈ cnames cs', k ∈ cnames cs ∨ ∃ p ∈ vs, k ∈ p.2.names
  | [], cs, cs', h, k, hk => by simp [fillA] at h; subst h; exact .inl hk
  | (i, x) :: vs, cs, cs', h, k, hk => by
    unfold fillA at h
    split at h
    · cases h
    · split at h
      · rcases fillA_names h k hk with h1 | ⟨p, hp, h1⟩
        · rcases cnames_splice h1 with h2 | h2
          · exact .inl h2
          · exact .inr ⟨(i, x), by simp, h2⟩
        · exact .inr ⟨p, by simp [hp], h1⟩
      · cases h

theorem done_build (hH : RelH F H E) (hρ : RhoOk H E ρ ev) {o : Oper} {t : TypeId} {parts : Array (Nat × Operand)} (ho : o.op = .build t parts) {vs : List (Nat × V)} (hp : partsV ρ parts.toList = some vs) {cs : List Cell} (hb : builtA P t vs = some cs)
    (hq : Q (some (.v (.agg cs))) H) : Done P F H E (execOp ev o) Q := by
  obtain ⟨us, g1, g2, g3, g4⟩ := partsV_ok hρ hp
  unfold builtA at hb
  split at hb
  · rename_i it fields hit hu
    split at hb
    · rename_i z places hz hpl
      split at hb
      · rename_i zc hzc
        have hz' := RCs.ofVals (E := E) hzc
        obtain ⟨bs', r1, r2⟩ := fill_ok g2 g3 hz'.1 hb
        have hbuilt : P.built t us = some bs'.toArray := by
          unfold Program.built
          simp only [hit, hu, hz, hpl]
          rw [← r1]
          congr 1
          funext x; simp
        refine Done.same hH (u := .agg bs'.toArray) ?_ hq ⟨bs', rfl, r2⟩ (fun k hk => ?_)
        · have hr := run_build (P := P) E.w t (parts.map fun p => (p.1, ev p.2)) bs'.toArray (by rw [Array.toList_map, g1]; exact hbuilt)
          simp only [execOp, ho, Sem.run_bind, hr, Result.andThen_ok, Sem.run_pure]
        · rcases fillA_names hb k hk with h | ⟨p, hp', h⟩
          · rw [hz'.2] at h; cases h
          · exact g4 p hp' k h
      · cases hb
    · cases hb
  · cases hb
end
end Go.MG
