/- The arguments of a statement, as what they stand for; from a contract to the row. -/
import Derived.Test.YtbjbagemlclgcaaMgX
import Derived.ChangeArms
import Derived.ChangeShapes
import Derived.WideShapes
import Derived.Carry
import Derived.SizedLaws
import Derived.ShutString
import Derived.ChangeOld
namespace Go.MG
set_option linter.unusedSimpArgs false
set_option linter.unusedVariables false
set_option linter.unnecessarySimpa false
open Go.RowKit

def lawS (W : World) : Bool → Nat → Prop := fun _ b => b < W.heap.size
abbrev lawE (W : World) : Env := envI W (lawS W) []
abbrev big : Nat := 9223372036854775807
def eR {α : Type} (e : α → List Cell) (xs : List α) : List Cell := [.sl true (xs.map e)]
def wfI (n : Int) : Prop := -9223372036854775808 ≤ n ∧ n ≤ 9223372036854775807
def wfS (l : List UInt8) : Prop := l.length ≤ big
def wfR {α : Type} (w : α → Prop) (xs : List α) : Prop := xs.length ≤ big ∧ ∀ x ∈ xs, w x

/-- What a reading of a type gives. -/
def Opens (P : Program) (t : TypeId) {α : Type} (e : α → List Cell) (wf : α → Prop) : Prop :=
  ∀ (H : Type) (enc : TypeId × Value → H) (W : World) (fuel : Nat) (cs : List Value) (x : DataW H × List MemPlace), DataW.trod enc P W 0 (fun _ => true) true fuel t cs = some x → ∃ a : α, RCs (lawE W) (e a) cs ∧ wf a

section
variable {P : Program} {t : TypeId}
theorem Opens.int (ht : P.underlying t = some (.int .i64)) : Opens P t eI wfI := by
  intro H enc W fuel cs x h
  obtain ⟨n, rfl, _, hw⟩ := DataW.trod_int ht h
  refine ⟨n, by simp [eI, RCs, RC, isImm], ?_⟩
  have e1 : IntKind.i64.min = -9223372036854775808 := by decide
  have e2 : IntKind.i64.max = 9223372036854775807 := by decide
  simp only [Lit.wf, e1, e2, Bool.and_eq_true, decide_eq_true_eq] at hw
  exact hw
theorem Opens.u8 (ht : P.underlying t = some (.int .u8)) : Opens P t eB (fun _ => True) := by
  intro H enc W fuel cs x h
  obtain ⟨n, rfl, _, hw⟩ := DataW.trod_int ht h
  have e1 : IntKind.u8.min = 0 := by decide
  have e2 : IntKind.u8.max = 255 := by decide
  simp only [Lit.wf, e1, e2, Bool.and_eq_true, decide_eq_true_eq] at hw
  refine ⟨UInt8.ofNat n.toNat, ?_, trivial⟩
  have e : ((UInt8.ofNat n.toNat).toNat : Int) = n := by
    rw [UInt8.toNat_ofNat']
    omega
  simp only [eB, RCs, RC]
  exact ⟨_, [], rfl, ⟨by rw [MG.u8, e], rfl⟩, rfl⟩
theorem Opens.bool (ht : P.underlying t = some .bool) : Opens P t eL (fun _ => True) := by
  intro H enc W fuel cs x h
  obtain ⟨b, rfl, _⟩ := DataW.trod_bool ht h
  exact ⟨b, by simp [eL, RCs, RC, isImm], trivial⟩
theorem Opens.str (ht : P.underlying t = some .string) : Opens P t eS wfS := by
  intro H enc W fuel cs x h
  obtain ⟨s, rfl, _, hs⟩ := DataW.trod_string ht h
  refine ⟨s.data.toList, ?_, ?_⟩
  · simp [eS, RCs, RC, isImm]
  · have e : maxLen = big := by decide
    rw [e] at hs
    exact hs

theorem Opens.slice {el : TypeId} {α : Type} {e : α → List Cell} {wf : α → Prop} (ht : P.underlying t = some (.slice el)) (h : Opens P el e wf) (hl : ∀ a, (e a).length = P.cellsOf el) (hc : ∀ a, cclean (e a) = true) (hn : ∀ a, cnames (e a) = []) (hz : (P.cellsOf el == 0) = false) : Opens P t (eR e) (wfR wf) := by
  intro H enc W fuel cs x hx
  rcases DataW.trod_slice ht hx with ⟨rfl, _⟩ | ⟨a, len, cap, elems, rest, n, _, rfl, _, _, hle, hm, hlen, hel, _⟩
  · refine ⟨[], ?_, by simp [wfR]⟩
    simp only [eR, RCs, RC, List.map_nil]
    exact ⟨_, [], rfl, ⟨Flat.nil, none, 0, rfl, by simp, .inl trivial⟩, rfl⟩
  · have one : ∀ i, i < len → ∃ (b : α) (us : List Value), W.cells? 0 (a.add (i * P.cellsOf el)) (P.cellsOf el) = some us ∧ RCs (lawE W) (e b) us ∧ wf b := by
      intro i hi
      have := hel i hi
      rw [List.getElem?_eq_getElem (by omega)] at this
      obtain ⟨us, h1, h2⟩ := Option.bind_eq_some_iff.1 this
      obtain ⟨b, h3, h4⟩ := h H enc W n us _ h2
      exact ⟨b, us, h1, h3, h4⟩
    have all : ∀ m, m ≤ len → ∃ xs : List α, xs.length = m ∧ (∀ i b, xs[i]? = some b → ∃ us, W.cells? 0 (a.add (i * P.cellsOf el)) (P.cellsOf el) = some us ∧ RCs (lawE W) (e b) us) ∧ ∀ b ∈ xs, wf b := by
      intro m
      induction m with
      | zero => intro _; exact ⟨[], rfl, by simp, by simp⟩
      | succ m ih =>
        intro hm
        obtain ⟨xs, h1, h2, h3⟩ := ih (by omega)
        obtain ⟨b, us, h4, h5, h6⟩ := one m (by omega)
        refine ⟨xs ++ [b], by simp [h1], fun i c hc => ?_, fun c hc => ?_⟩
        · rw [List.getElem?_append] at hc
          split at hc
          · exact h2 i c hc
          · rename_i hlt
            have hi : i = m := by
              by_cases e : i - xs.length = 0
              · omega
              · rw [List.getElem?_eq_none (by simp; omega)] at hc; cases hc
            subst hi
            rw [h1] at hc
            simp at hc
            subst hc
            exact ⟨us, h4, h5⟩
        · rcases List.mem_append.1 hc with hc | hc
          · exact h3 c hc
          · rw [List.mem_singleton.1 hc]; exact h6
    obtain ⟨xs, h1, h2, h3⟩ := all len (Nat.le_refl _)
    have hbig : maxLen = big := by decide
    refine ⟨xs, ?_, ⟨by rw [h1]; omega, h3⟩⟩
    simp only [eR, RCs]
    refine ⟨_, [], rfl, ?_, rfl⟩
    simp only [RC]
    have hflat : Flat (xs.map e) := Flat.iff.2 fun c hc' => by
      obtain ⟨b, _, rfl⟩ := List.mem_map.1 hc'
      exact ⟨hc b, hn b⟩
    refine ⟨hflat, some a, cap, by simp [h1], by simpa [h1] using hle, ?_⟩
    by_cases h0 : xs = []
    · exact .inl (by simp [h0])
    have hz : P.cellsOf el ≠ 0 := by simpa using hz
    right
    obtain ⟨b0, hb0⟩ : ∃ b, xs[0]? = some b := by
      cases xs with
      | nil => exact absurd rfl h0
      | cons b _ => exact ⟨b, rfl⟩
    obtain ⟨us0, hu0, _⟩ := h2 0 b0 hb0
    obtain ⟨_, hl0, hg0⟩ := World.cells?_some hu0
    have hc0 := hg0 0 (by omega)
    rw [List.getElem?_eq_getElem (by omega)] at hc0
    have hsp : a.spot = none ∧ a.block < W.heap.size := by
      have hadd : (a.add (0 * P.cellsOf el)).add 0 = a := by simp [Addr.add]
      rw [hadd] at hc0
      unfold World.cell? at hc0
      split at hc0
      · rename_i hb
        split at hc0
        · cases hc0
        · rename_i hs
          refine ⟨by simpa using hs, ?_⟩
          exact (Array.getElem?_eq_some_iff.1 hb).1
      · cases hc0
    obtain ⟨blk, off, spot⟩ := a
    obtain ⟨rfl, hb⟩ := hsp
    refine ⟨blk, off, P.cellsOf el, rfl, hb, RRow.of_get fun i c hc' => ?_⟩
    rw [List.getElem?_map] at hc'
    obtain ⟨b, hb', rfl⟩ := Option.map_eq_some_iff.1 hc'
    obtain ⟨us, hu, hr⟩ := h2 i b hb'
    obtain ⟨_, hl1, hg1⟩ := World.cells?_some hu
    refine ⟨hl b, us, hr, fun j v hv => ?_⟩
    have hj : j < us.length := (List.getElem?_eq_some_iff.1 hv).1
    have := hg1 j (by omega)
    rw [hv, Addr.add_mid, Addr.add_mid] at this
    exact this

/-- The parts of a struct's cells. -/
def PartsOk {H : Type} (enc : TypeId × Value → H) (P : Program) (W : World) (n : Nat) : List Field → List Value → Prop
  | [], cs => cs = []
  | f :: fs, cs => ∃ c1 c2 x, cs = c1 ++ c2 ∧ DataW.trod enc P W 0 (fun _ => true) true n f.type c1 = some x ∧ PartsOk enc P W n fs c2
def laidFrom (P : Program) : Nat → List Field → Nat → Bool
  | o, [], n => o == n
  | o, f :: fs, n => (f.offset == o) && laidFrom P (o + P.cellsOf f.type) fs n
theorem parts_from {H : Type} {enc : TypeId × Value → H} {W : World} {n : Nat} {cs : List Value} : ∀ {fs : List Field} {o : Nat}, laidFrom P o fs cs.length = true → o ≤ cs.length →
    (∀ f ∈ fs, ∃ x, DataW.trod enc P W 0 (fun _ => true) true n f.type ((cs.drop f.offset).take (P.cellsOf f.type)) = some x) → (∀ f ∈ fs, f.offset + P.cellsOf f.type ≤ cs.length) → PartsOk enc P W n fs (cs.drop o)
  | [], o, h, _, _, _ => by
    simp only [laidFrom, beq_iff_eq] at h
    simp [PartsOk, h]
  | f :: fs, o, h, ho, hf, hb => by
    simp only [laidFrom, Bool.and_eq_true, beq_iff_eq] at h
    obtain ⟨x, hx⟩ := hf f (by simp)
    have hb0 := hb f (by simp)
    rw [h.1] at hx hb0
    refine ⟨_, _, x, ?_, hx, parts_from (o := o + P.cellsOf f.type) h.2 (by omega) (fun g hg => hf g (by simp [hg])) (fun g hg => hb g (by simp [hg]))⟩
    rw [← List.drop_drop, List.take_append_drop]
theorem laidFrom_le : ∀ {fs : List Field} {o n : Nat}, laidFrom P o fs n = true → o ≤ n ∧ ∀ f ∈ fs, f.offset + P.cellsOf f.type ≤ n
  | [], o, n, h => by
    simp only [laidFrom, beq_iff_eq] at h
    exact ⟨by omega, by simp⟩
  | f :: fs, o, n, h => by
    simp only [laidFrom, Bool.and_eq_true, beq_iff_eq] at h
    obtain ⟨h1, h2⟩ := laidFrom_le h.2
    refine ⟨by omega, fun g hg => ?_⟩
    rcases List.mem_cons.1 hg with rfl | hg
    · omega
    · exact h2 g hg
theorem struct_parts {fs : Array Field} (ht : P.underlying t = some (.struct fs)) {m : Nat} (hm : P.cellsOf t = m) (hl : laidFrom P 0 fs.toList m = true) {H : Type} {enc : TypeId × Value → H} {W : World} {fuel : Nat} {cs : List Value} {x : DataW H × List MemPlace}
    (h : DataW.trod enc P W 0 (fun _ => true) true fuel t cs = some x) : ∃ n, PartsOk enc P W n fs.toList cs := by
  obtain ⟨xs, n, _, _, hlen, hx, hg⟩ := DataW.trod_struct ht h
  subst hm
  rw [← hlen] at hl
  refine ⟨n, ?_⟩
  have := parts_from (P := P) (enc := enc) (W := W) (n := n) (cs := cs) hl (Nat.zero_le _) (fun f hf => ?_) (laidFrom_le hl).2
  · simpa using this
  · obtain ⟨i, hi, hfi⟩ := List.getElem_of_mem hf
    have hi' : i < fs.size := by simpa using hi
    have := hg i f (by rw [Array.getElem?_eq_getElem hi', ← hfi]; simp)
    rw [this]
    exact ⟨xs[i]'(by omega), List.getElem?_eq_getElem (by omega)⟩

/-! ### the arguments -/
theorem RCs.rx {E : Env} {cs : List Cell} {us : List Value} (h : RCs E cs us) (ho : noOw cs = true) : RXCs E cs us [] := RXCs.of ho h

section
variable {H : Type} {enc : TypeId × Value → H} {W : World} {base : Nat} {v : Value} {d : DataW H} {p : List MemPlace} {α : Type} {e : α → List Cell} {wf : α → Prop}
theorem arg_agg (ho : Opens P t e wf) {fs : Array Field} (ht : P.underlying t = some (.struct fs)) (hv : Value.okWide P W .any base t v) (h : DataW.Trod enc P W 0 (fun _ => true) true t v d p) (hno : ∀ a, noOw (e a) = true := by exact fun _ => rfl) : ∃ a, RXV (lawE W) (.agg (e a)) v [] ∧ wf a := by
  obtain ⟨cs, rfl, _⟩ := Go.WideShapes.okWide_struct ht hv
  obtain ⟨n, h⟩ := h
  obtain ⟨a, h1, h2⟩ := ho _ _ _ _ _ _ h
  exact ⟨a, ⟨cs.toList, by simp, h1.rx (hno a)⟩, h2⟩
theorem arg_cell (ho : Opens P t e wf) {c : α → Cell} (he : ∀ a, e a = [c a]) (hv : v.cells = #[v]) (h : DataW.Trod enc P W 0 (fun _ => true) true t v d p) (hno : ∀ a, (c a).isOw = false := by exact fun _ => rfl) : ∃ a, RXV (lawE W) (.one (c a)) v [] ∧ wf a := by
  obtain ⟨n, h⟩ := h
  obtain ⟨a, h1, h2⟩ := ho _ _ _ _ _ _ h
  rw [he, hv] at h1
  simp only [RCs] at h1
  obtain ⟨u, us, hu, h1, rfl⟩ := h1
  simp at hu
  subst hu
  exact ⟨a, RXC.of h1 (hno a), h2⟩
theorem arg_int (ht : P.underlying t = some (.int .i64)) (hv : Value.okWide P W .any base t v) (h : DataW.Trod enc P W 0 (fun _ => true) true t v d p) : ∃ a : Int, RXV (lawE W) (.one (cI a)) v [] ∧ wfI a :=
  arg_cell (Opens.int ht) (fun _ => rfl) (by obtain ⟨n, rfl⟩ := Go.WideShapes.okWide_int ht hv; rfl) h
theorem arg_bool (ht : P.underlying t = some .bool) (hv : Value.okWide P W .any base t v) (h : DataW.Trod enc P W 0 (fun _ => true) true t v d p) : ∃ a : Bool, RXV (lawE W) (.one (cL a)) v [] ∧ True :=
  arg_cell (Opens.bool ht) (fun _ => rfl) (by obtain ⟨n, rfl⟩ := Go.WideShapes.okWide_bool ht hv; rfl) h
theorem arg_str (ht : P.underlying t = some .string) (hv : Value.okWide P W .any base t v) (h : DataW.Trod enc P W 0 (fun _ => true) true t v d p) : ∃ a : List UInt8, RXV (lawE W) (.one (cS a)) v [] ∧ wfS a :=
  arg_cell (Opens.str ht) (fun _ => rfl) (by obtain ⟨n, rfl⟩ := Go.WideShapes.okWide_string ht hv; rfl) h
theorem arg_slice {el : TypeId} (ht : P.underlying t = some (.slice el)) (ho : Opens P t (eR e) (wfR wf)) (hv : Value.okWide P W .any base t v) (h : DataW.Trod enc P W 0 (fun _ => true) true t v d p) : ∃ a : List α, RXV (lawE W) (.one (.sl true (a.map e))) v [] ∧ wfR wf a :=
  arg_cell ho (fun _ => rfl) (by obtain ⟨a, n, c, rfl⟩ := Go.WideShapes.okWide_slice ht hv; rfl) h
end

theorem lawIn {W : World} {vs : List V} {us : List Value} (h : RXVs (lawE W) vs us []) : InOk W (lawS W) vs [] us [] [] [] :=
  ⟨h, ⟨rfl, rfl⟩, by simp, by simp, fun _ _ h => h, fun _ h => h⟩
theorem RXVs.nil0 {E : Env} : RXVs E [] [] [] := ⟨rfl, rfl⟩
theorem RXVs.cons0 {E : Env} {x : V} {xs : List V} {u : Value} {us : List Value} (h : RXV E x u []) (h' : RXVs E xs us []) : RXVs E (x :: xs) (u :: us) [] := ⟨u, us, [], [], rfl, rfl, h, h'⟩

theorem trodAll_below {H : Type} {enc : TypeId × Value → H} (hl : laidOutB P = true) {W W' : World} (hb : Below W.heap.size W W') : ∀ {ts : List TypeId} {vs : List Value} {ds : List (DataW H)} {ps : List MemPlace}, ts.all (fun t => P.readableRec t && decide (t < P.types.size)) = true →
    (∀ x ∈ ps, x.block < W.heap.size) → DataW.TrodAll enc P W 0 (fun _ => true) true ts vs ds ps → DataW.TrodAll enc P W' 0 (fun b => decide (b < W.heap.size)) true ts vs ds ps
  | [], [], [], _, _, _, h => h
  | t :: ts, v :: vs, d :: ds, _, hr, hp, ⟨p, q, h1, h2, e⟩ => by
    subst e
    simp only [List.all_cons, Bool.and_eq_true, decide_eq_true_eq] at hr
    exact ⟨p, q, Below.trod hl hr.1.1 hr.1.2 h1 hb (fun x hx => hp x (by simp [hx])), trodAll_below hl hb hr.2 (fun x hx => hp x (by simp [hx])) h2, rfl⟩
end

/-- The row's contract, from a contract for arguments that are read. -/
theorem law_calls {H : Type} {enc : TypeId × Value → H} {P : Program} {f : FuncId} {fn : Func} {s : ChangeSpec} {W : World} {args : Array Value} {ds gs : List (DataW H)} {before : List MemPlace} {ts : List TypeId} {tb : TypeId}
    (hl : laidOutB P = true) (hts : fn.params.toList = ts) (hr : ts.all (fun t => P.readableRec t && decide (t < P.types.size)) = true) (hres : fn.resultTypes = #[tb]) (htb : P.underlying tb = some .bool) (hvars : s.vars = [])
    (hW : DataW.Whole enc P fn.params.toList s.vars false W args.toList ds gs before)
    (h : ∀ p, DataW.TrodAll enc P W 0 (fun _ => true) true ts args.toList ds p → ((s.fn H (ds ++ [])).results = [.lit (.bool true)] ∧ (s.fn H (ds ++ [])).args = ds ∧ (s.fn H (ds ++ [])).vars = []) ∧ ∃ vs, RXVs (lawE W) vs args.toList [] ∧ Gives P f vs [] [V.one (cL true)] []) :
    Calls P f args W fun e W' => ∃ v, e = .returned v ∧ s.post enc P fn false true false false W args v W' := by
  have hW' := hW
  obtain ⟨p, q, hA, hV, rfl, hfz, hnd⟩ := hW
  rw [hts] at hA
  obtain ⟨⟨s1, s2, s3⟩, vs, h1, h2⟩ := h p hA
  have hlt := hA.lt
  have hgs : gs = [] := by
    rw [hvars] at hV
    cases gs with
    | nil => rfl
    | cons _ _ => exact hV.elim
  subst hgs
  have h3 := Gives.walk h2 (lawIn h1)
  rw [Array.toArray_toList] at h3
  refine h3.mono fun e W' ⟨he, bel⟩ => ?_
  subst he
  refine ⟨_, rfl, ds, [], p ++ q, [], p, [], hW', ?_, ?_, ?_, bel.frame _, fun h => by cases h⟩
  · rw [s1, hres]
    exact Go.ChangeShapes.trodAll_mk1 (Go.RowKit.shut_bool htb true)
  · rw [s2, hts]
    exact trodAll_below hl bel hr hlt hA
  · rw [s3, hvars]
    rfl
end Go.MG
