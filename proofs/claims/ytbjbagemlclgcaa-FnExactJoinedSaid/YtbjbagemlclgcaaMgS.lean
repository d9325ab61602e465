/- Rules for memory: slices whose elements are encoded from a plain list. -/
import Derived.Test.YtbjbagemlclgcaaMgR
namespace Go.MG
set_option linter.unusedSimpArgs false
set_option linter.unusedVariables false
set_option linter.unnecessarySimpa false

section
variable {P : Program} {F : Fix} {ops : Array Oper} {Q : St → Prop} {N : Nat}
variable {dst : Option Nat} {ty : TypeId} {pos : String} {aft : Array Edge} {grd : Option (Nat × Bool)} {rest : List Oper} {sl : Nat → Option Slot} {H : Heap}

theorem at?_get {α : Type} {l : List α} {i : Int} {a : α} (h : at? l i = some a) : 0 ≤ i ∧ l[i.toNat]? = some a := by
  unfold at? at h
  split at h
  · rename_i h0; exact ⟨h0, h⟩
  · cases h

/-- A bound of a part, from the slots. -/
def bndS (sl : Nat → Option Slot) (d : Int) : Option Operand → Option Int
  | none => some d
  | some x => match opnd sl x with
    | some (.v (.one (.imm (.int _ n)))) => some n
    | _ => none

theorem L.cutS {t : TypeId} {x : Operand} {lo hi : Option Operand} {l m : List UInt8} {a b : Int} (ht : P.underlying t = some .string) (hn : F.n = N) (hg : guardOf ops sl ⟨dst, .slice t x lo hi none, ty, pos, aft, grd⟩ = some true) (hd : dstB N dst = true)
    (hx : opnd sl x = some (im (str l))) (ha : bndS sl 0 lo = some a) (hb : bndS sl l.length hi = some b) (hc : cut? l a b = some m)
    (k : WpL P F ops Q rest ⟨setD sl dst (some (im (str m))), H⟩) : WpL P F ops Q (⟨dst, .slice t x lo hi none, ty, pos, aft, grd⟩ :: rest) ⟨sl, H⟩ := by
  refine L.val hn hg hd rfl (fun E ev hρ => ?_) k
  unfold cut? at hc
  split at hc
  · rename_i h
    obtain ⟨h1, h2, h3⟩ := h
    cases hc
    have bd : ∀ {d : Int} {y : Operand} {n : Int}, bndS sl d (some y) = some n → ∃ kd, ev y = .int kd n := by
      intro d y n h
      simp only [bndS] at h
      split at h
      · rename_i kd n' hy; cases h; exact ⟨kd, im_ok hρ hy rfl⟩
      · cases h
    have bl : ∀ (y : Nat) (n : Int), 0 ≤ n → n ≤ y → ∀ code k, (Instr.sliceBound (.int k n) y code).run P E.w = .ok n.toNat E.w := fun y n h0 hn code k => by
      simp [Instr.sliceBound, asIntOf, h0, hn]
    have ex : (ByteArray.mk ⟨l⟩).extract a.toNat b.toNat = ByteArray.mk ⟨(l.drop a.toNat).take (b - a).toNat⟩ := by
      apply ByteArray.ext
      simp only [ByteArray.data_extract]
      apply Array.ext'
      simp [show b.toNat - a.toNat = (b - a).toNat by omega]
    have hsz : (ByteArray.mk ⟨l⟩).size = l.length := by simp [ByteArray.size]
    have hrun : (Instr.sliceAt t (.string ⟨⟨l⟩⟩) (lo.map ev) (hi.map ev) none).run P E.w = .ok (str ((l.drop a.toNat).take (b - a).toNat)) E.w := by
      cases lo with
      | none =>
        simp only [bndS, Option.some.injEq] at ha; subst ha
        cases hi with
        | none =>
          simp only [bndS, Option.some.injEq] at hb; subst hb
          simp at ex
          simp [Instr.sliceAt, Instr.slice, run_underlying ht, Instr.sliceBounds, hsz, ex]
        | some y =>
          obtain ⟨kd, hy⟩ := bd hb
          simp at ex
          simp [Instr.sliceAt, Instr.slice, run_underlying ht, Instr.sliceBounds, hsz, hy, bl l.length b (by omega) h3, ex]
      | some z =>
        obtain ⟨kd', hz⟩ := bd ha
        cases hi with
        | none =>
          simp only [bndS, Option.some.injEq] at hb; subst hb
          simp at ex
          simp [Instr.sliceAt, Instr.slice, run_underlying ht, Instr.sliceBounds, hsz, hz, bl l.length a h1 h2, ex]
        | some y =>
          obtain ⟨kd, hy⟩ := bd hb
          have := bl b.toNat a h1 (by omega)
          simp [Instr.sliceAt, Instr.slice, run_underlying ht, Instr.sliceBounds, hsz, hy, hz, bl l.length b (by omega) h3, this, ex]
    simp [execOp, im_ok hρ hx rfl, hrun]
  · cases hc

/-! ### slices -/
theorem L.lenR {α : Type} {xs : List α} {e : α → List Cell} {x : Operand} {t el : TypeId} {c : Cell} (ht : P.underlying t = some (.slice el)) (hn : F.n = N) (hg : guardOf ops sl ⟨dst, .call { callee := .builtin .len, args := #[x], argTypes := #[t] }, ty, pos, aft, grd⟩ = some true) (hd : dstB N dst = true)
    (hx : opnd sl x = some (.v (.one c))) (hc : H.lenOf c = some (xs.map e).length)
    (k : WpL P F ops Q rest ⟨setD sl dst (some (im (i64 (xs.length : Int)))), H⟩) : WpL P F ops Q (⟨dst, .call { callee := .builtin .len, args := #[x], argTypes := #[t] }, ty, pos, aft, grd⟩ :: rest) ⟨sl, H⟩ := by
  rw [List.length_map] at hc
  exact L.op hn hg hd fun _ _ hH hρ => done_len hH hρ rfl ht hx hc k

/-- The address of an element. -/
def addrOf (c : Cell) (i : Nat) (e : List Cell) : Option Cell :=
  match c with
  | .sl g _ => some (.pe g e 0)
  | .own k => some (.ep k i 0)
  | .sub k lo n => if i < n then some (.ep k (lo + i) 0) else none
  | _ => none
/-- What a slice shows. -/
def Heap.shows (H : Heap) : Cell → Option (List (List Cell))
  | .sl _ es => some es
  | .own k => (H.rows k).map fun r => r.es
  | _ => none

theorem L.idxR {α : Type} {xs : List α} {e : α → List Cell} {a : α} {t el : TypeId} {x y : Operand} {c c' : Cell} {kd : IntKind} {i : Int} {ti : TypeInfo} (ht : P.underlying t = some (.slice el)) (hti : P.info? el = some ti) (hn : F.n = N)
    (hg : guardOf ops sl ⟨dst, .indexAddr t x y, ty, pos, aft, grd⟩ = some true) (hd : dstB N dst = true) (hx : opnd sl x = some (.v (.one c))) (hy : opnd sl y = some (im (.int kd i))) (hc : H.shows c = some (xs.map e))
    (ha : at? xs i = some a) (hel : (e a).length = ti.size) (hc' : addrOf c i.toNat (e a) = some c')
    (k : WpL P F ops Q rest ⟨setD sl dst (some (.v (.one c'))), H⟩) : WpL P F ops Q (⟨dst, .indexAddr t x y, ty, pos, aft, grd⟩ :: rest) ⟨sl, H⟩ := by
  obtain ⟨h0, hget⟩ := at?_get ha
  have hi : (i.toNat : Int) = i := Int.toNat_of_nonneg h0
  have hget' : (xs.map e)[i.toNat]? = some (e a) := by simp [hget]
  refine L.op hn hg hd fun _ _ hH hρ => done_indexAddr hH hρ rfl ht hti hx (ik := kd) (i := i.toNat) hy (by simp [Slot.val?, V.val?, Cell.val?, hi]) (c' := c') (e := e a) ?_ hel k
  cases c with
  | sl g es => simp only [Heap.shows, Option.some.injEq] at hc; subst hc; cases hc'; simp [Heap.elemAt, hget]
  | own q =>
    simp only [Heap.shows, Option.map_eq_some_iff] at hc
    obtain ⟨r, hr, hc⟩ := hc
    cases hc'
    simp [Heap.elemAt, hr, hc, hget]
  | _ => simp [Heap.shows] at hc

theorem L.loadPe {t : TypeId} {y : Operand} {g : Bool} {el : List Cell} {j n : Nat} {ag : Bool} {x : V} (hs : shape P t = some (ag, n)) (hn : F.n = N) (hg : guardOf ops sl ⟨dst, .load t y, ty, pos, aft, grd⟩ = some true) (hd : dstB N dst = true)
    (hy : opnd sl y = some (.v (.one (.pe g el j)))) (hl : Nat.ble (j + n) el.length = true) (hx : mkV ag (((el.drop j).take n).map (ldC g)) = some x)
    (k : WpL P F ops Q rest ⟨setD sl dst (some (.v x)), H⟩) : WpL P F ops Q (⟨dst, .load t y, ty, pos, aft, grd⟩ :: rest) ⟨sl, H⟩ :=
  L.op hn hg hd fun _ _ hH hρ => done_load_pe hH hρ rfl hy hs (Nat.le_of_ble_eq_true hl) hx k
theorem L.loadPtr {t : TypeId} {y : Operand} {q j n : Nat} {cs : List Cell} {ag : Bool} {x : V} (hs : shape P t = some (ag, n)) (hn : F.n = N) (hg : guardOf ops sl ⟨dst, .load t y, ty, pos, aft, grd⟩ = some true) (hd : dstB N dst = true)
    (hy : opnd sl y = some (.v (.one (.ptr q j)))) (hb : H.boxes q = some cs) (hl : Nat.ble (j + n) cs.length = true) (hx : mkV ag ((cs.drop j).take n) = some x)
    (k : WpL P F ops Q rest ⟨setD sl dst (some (.v x)), H⟩) : WpL P F ops Q (⟨dst, .load t y, ty, pos, aft, grd⟩ :: rest) ⟨sl, H⟩ :=
  L.op hn hg hd fun _ _ hH hρ => done_load_ptr hH hρ rfl hy hb hs (Nat.le_of_ble_eq_true hl) hx k
theorem L.loadEp {α : Type} {xs : List α} {e : α → List Cell} {a : α} {t : TypeId} {y : Operand} {q i j n sz : Nat} {ag : Bool} {x : V} (hs : shape P t = some (ag, n)) (hn : F.n = N) (hg : guardOf ops sl ⟨dst, .load t y, ty, pos, aft, grd⟩ = some true) (hd : dstB N dst = true)
    (hy : opnd sl y = some (.v (.one (.ep q i j)))) (hb : H.rows q = some ⟨sz, xs.map e⟩) (ha : xs[i]? = some a) (hl : Nat.ble (j + n) (e a).length = true) (hx : mkV ag (((e a).drop j).take n) = some x)
    (k : WpL P F ops Q rest ⟨setD sl dst (some (.v x)), H⟩) (hno : noOw (((e a).drop j).take n) = true := by exact rfl) : WpL P F ops Q (⟨dst, .load t y, ty, pos, aft, grd⟩ :: rest) ⟨sl, H⟩ :=
  L.op hn hg hd fun _ _ hH hρ => done_load_ep hH hρ rfl hy hb (by simp [ha]) hs (Nat.le_of_ble_eq_true hl) hx hno k

/-- An address that leads somewhere. -/
def Heap.live (H : Heap) : Cell → Bool
  | .ptr k _ => (H.boxes k).isSome
  | .ep k _ _ => (H.rows k).isSome
  | .pe _ _ _ => true
  | _ => false
theorem live_ok {H : Heap} {c : Cell} (h : H.live c = true) : (∃ k j, c = .ptr k j ∧ H.boxes k ≠ none) ∨ (∃ k i j, c = .ep k i j ∧ H.rows k ≠ none) ∨ ∃ g e j, c = .pe g e j := by
  cases c <;> simp [Heap.live] at h
  · exact .inl ⟨_, _, rfl, fun e => by rw [e] at h; cases h⟩
  · exact .inr (.inl ⟨_, _, _, rfl, fun e => by rw [e] at h; cases h⟩)
  · exact .inr (.inr ⟨_, _, _, rfl⟩)

theorem L.fieldAddr {s : TypeId} {y : Operand} {f : Nat} {fs : Array Field} {fd : Field} {i : TypeInfo} {c c' : Cell} (hs : P.underlying s = some (.struct fs)) (hf : fs[f]? = some fd) (hi : P.info? fd.type = some i) (h0 : (i.size == 0) = false) (hn : F.n = N)
    (hg : guardOf ops sl ⟨dst, .fieldAddr s y f, ty, pos, aft, grd⟩ = some true) (hd : dstB N dst = true) (hy : opnd sl y = some (.v (.one c))) (hc : c.shift fd.offset = some c') (hl : H.live c = true)
    (k : WpL P F ops Q rest ⟨setD sl dst (some (.v (.one c'))), H⟩) : WpL P F ops Q (⟨dst, .fieldAddr s y f, ty, pos, aft, grd⟩ :: rest) ⟨sl, H⟩ :=
  L.op hn hg hd fun _ _ hH hρ => done_fieldAddr hH hρ rfl hs hf hi (by simpa using h0) hy hc (live_ok hl) k
theorem L.nilCheck {y : Operand} {c : Cell} (hn : F.n = N) (hg : guardOf ops sl ⟨dst, .nilCheck y, ty, pos, aft, grd⟩ = some true) (hd : dstB N dst = true) (hy : opnd sl y = some (.v (.one c))) (hl : H.live c = true)
    (k : WpL P F ops Q rest ⟨setD sl dst (some (.v (.one c))), H⟩) : WpL P F ops Q (⟨dst, .nilCheck y, ty, pos, aft, grd⟩ :: rest) ⟨sl, H⟩ :=
  L.op hn hg hd fun _ _ hH hρ => done_nilCheck hH hρ rfl hy (live_ok hl) k

theorem L.storePtr {t : TypeId} {y z : Operand} {q j n : Nat} {cs : List Cell} {x : V} {ag : Bool} (hs : shape P t = some (ag, n)) (hn : F.n = N) (hg : guardOf ops sl ⟨dst, .store t y z, ty, pos, aft, grd⟩ = some true) (hd : dstB N dst = true)
    (hy : opnd sl y = some (.v (.one (.ptr q j)))) (hb : H.boxes q = some cs) (hz : opnd sl z = some (.v x)) (hx : x.cells.length = n) (hl : Nat.ble (j + n) cs.length = true)
    (k : WpL P F ops Q rest ⟨setD sl dst none, (Heap.setBox H q (splice cs j x.cells))⟩) : WpL P F ops Q (⟨dst, .store t y z, ty, pos, aft, grd⟩ :: rest) ⟨sl, H⟩ := by
  subst hx
  exact L.op hn hg hd fun _ _ hH hρ => done_store_ptr hH hρ rfl hy hb hz hs (Nat.le_of_ble_eq_true hl) k

theorem L.storeEp {α : Type} {xs : List α} {e : α → List Cell} {a a' : α} {t : TypeId} {y z : Operand} {q i j n sz : Nat} {x : V} {ag : Bool} {H' : Heap} {cs' : List Cell} (hs : shape P t = some (ag, n)) (hn : F.n = N)
    (hg : guardOf ops sl ⟨dst, .store t y z, ty, pos, aft, grd⟩ = some true) (hd : dstB N dst = true) (hy : opnd sl y = some (.v (.one (.ep q i j)))) (hz : opnd sl z = some (.v x)) (hx : x.cells.length = n) (hsh : H.share x.cells = some (H', cs'))
    (hb : H'.rows q = some ⟨sz, xs.map e⟩) (ha : xs[i]? = some a) (hl : Nat.ble (j + cs'.length) (e a).length = true) (he : splice (e a) j cs' = e a')
    (k : WpL P F ops Q rest ⟨setD sl dst none, (Heap.setRow H' q ⟨sz, (xs.set i a').map e⟩)⟩) : WpL P F ops Q (⟨dst, .store t y z, ty, pos, aft, grd⟩ :: rest) ⟨sl, H⟩ := by
  subst hx
  refine L.op hn hg hd fun _ _ hH hρ => done_store_ep hH hρ rfl hy hz hsh hb (by simp [ha]) hs (Nat.le_of_ble_eq_true hl) ?_
  simp only [he]
  rw [List.map_set] at k
  exact k

/-! ### new memory -/
theorem L.alloc {elem : TypeId} {i : TypeInfo} {z : Value} {x : V} (q : Nat) (hi : P.info? elem = some i) (hz : i.zero = some z) (hn : F.n = N) (hg : guardOf ops sl ⟨dst, .alloc elem, ty, pos, aft, grd⟩ = some true) (hd : dstB N dst = true)
    (hx : V.ofVal z = some x) (hq : H.used q = false)
    (k : WpL P F ops Q rest ⟨setD sl dst (some (.v (.one (.ptr q 0)))), (Heap.newBox H q (x.cells))⟩) : WpL P F ops Q (⟨dst, .alloc elem, ty, pos, aft, grd⟩ :: rest) ⟨sl, H⟩ :=
  L.op hn hg hd fun _ _ hH _ => done_alloc hH rfl hi hz hx hq k
theorem L.box {elem : TypeId} {y : Operand} {x : V} (q : Nat) (hn : F.n = N) (hg : guardOf ops sl ⟨dst, .box elem y, ty, pos, aft, grd⟩ = some true) (hd : dstB N dst = true) (hy : opnd sl y = some (.v x)) (hq : H.used q = false)
    (k : WpL P F ops Q rest ⟨setD sl dst (some (.v (.one (.ptr q 0)))), (Heap.newBox H q (x.cells))⟩) : WpL P F ops Q (⟨dst, .box elem y, ty, pos, aft, grd⟩ :: rest) ⟨sl, H⟩ :=
  L.op hn hg hd fun _ _ hH hρ => done_box hH hρ rfl hy hq k
theorem L.build {t : TypeId} {parts : Array (Nat × Operand)} {vs : List (Nat × V)} {cs : List Cell} (hn : F.n = N) (hg : guardOf ops sl ⟨dst, .build t parts, ty, pos, aft, grd⟩ = some true) (hd : dstB N dst = true) (hp : partsV (opnd sl) parts.toList = some vs) (hb : builtA P t vs = some cs)
    (k : WpL P F ops Q rest ⟨setD sl dst (some (.v (.agg cs))), H⟩) : WpL P F ops Q (⟨dst, .build t parts, ty, pos, aft, grd⟩ :: rest) ⟨sl, H⟩ :=
  L.op hn hg hd fun _ _ hH hρ => done_build hH hρ rfl hp hb k

def allLen (n : Nat) : List (List Cell) → Bool
  | [] => true
  | e :: es => (e.length == n) && allLen n es
theorem allLen_ok {n : Nat} : ∀ {es : List (List Cell)}, allLen n es = true → ∀ e ∈ es, e.length = n
  | [], _, e, he => by cases he
  | e :: es, h, x, hx => by
    simp only [allLen, Bool.and_eq_true, beq_iff_eq] at h
    rcases List.mem_cons.1 hx with rfl | hx
    · exact h.1
    · exact allLen_ok h.2 x hx

theorem L.buildSlice {α : Type} {e : α → List Cell} {t : TypeId} {len : Nat} {parts : Array (Nat × Operand)} {el : TypeId} {ti : TypeInfo} {z : Value} {vs : List (Nat × V)} {H' : Heap} {es : List (List Cell)} (q : Nat) (xs : List α) (ht : P.underlying t = some (.slice el)) (hti : P.info? el = some ti)
    (hz : ti.zero = some z) (h0 : Nat.blt 0 ti.size = true) (hbig : Nat.ble (len * ti.size) 16777216 = true) (hn : F.n = N) (hg : guardOf ops sl ⟨dst, .buildSlice t len parts, ty, pos, aft, grd⟩ = some true) (hd : dstB N dst = true)
    (hp : partsV (opnd sl) parts.toList = some vs) (hr : parts.toList.map (·.1) = List.range len) (hl : allLen ti.size (vs.map fun p => p.2.cells) = true) (hsh : H.shareAll (vs.map fun p => p.2.cells) = some (H', es)) (hq : H.used q = false) (hes : es = xs.map e)
    (k : WpL P F ops Q rest ⟨setD sl dst (some (.v (.one (.own q)))), (Heap.newRow H' q ⟨ti.size, xs.map e⟩)⟩) : WpL P F ops Q (⟨dst, .buildSlice t len parts, ty, pos, aft, grd⟩ :: rest) ⟨sl, H⟩ := by
  subst hes
  exact L.op hn hg hd fun _ _ hH hρ => done_buildSlice hH hρ rfl ht hti hz (by simpa using h0) (Nat.le_of_ble_eq_true hbig) hp hr (fun p hp => allLen_ok hl _ (List.mem_map.2 ⟨p, hp, rfl⟩)) hsh hq k

theorem L.makeSlice {α : Type} {e : α → List Cell} {t el : TypeId} {y x : Operand} {ti : TypeInfo} {z : Value} {zc : List Cell} {kl kc : IntKind} {n c : Int} (q : Nat) (za : α) (ht : P.underlying t = some (.slice el)) (hti : P.info? el = some ti) (hz : ti.zero = some z) (hzc : cellsOfVals z.cells.toList = some zc)
    (hsz : zc.length = ti.size) (hn : F.n = N) (hg : guardOf ops sl ⟨dst, .makeSlice t y x, ty, pos, aft, grd⟩ = some true) (hd : dstB N dst = true) (hy : opnd sl y = some (im (.int kl n))) (hx : opnd sl x = some (im (.int kc c)))
    (hb : 0 ≤ n ∧ n ≤ c ∧ ti.bytes * c ≤ 281474976710656 ∧ c ≤ 9223372036854775807) (hq : H.used q = false) (hza : zc = e za)
    (k : WpL P F ops Q rest ⟨setD sl dst (some (.v (.one (.own q)))), (Heap.newRow H q ⟨ti.size, (List.replicate n.toNat za).map e⟩)⟩) : WpL P F ops Q (⟨dst, .makeSlice t y x, ty, pos, aft, grd⟩ :: rest) ⟨sl, H⟩ := by
  subst hza
  obtain ⟨h1, h2, h3, h4⟩ := hb
  have e1 : ((n.toNat : Nat) : Int) = n := Int.toNat_of_nonneg h1
  have e2 : ((c.toNat : Nat) : Int) = c := Int.toNat_of_nonneg (by omega)
  refine L.op hn hg hd fun _ _ hH hρ => done_makeSlice hH hρ rfl ht hti hz hzc hsz (n := n.toNat) (c := c.toNat) (kl := kl) (kc := kc) hy (by simp [Slot.val?, V.val?, Cell.val?, e1]) hx (by simp [Slot.val?, V.val?, Cell.val?, e2]) (by omega) ?_ (by omega) hq ?_
  · have : ((ti.bytes * c.toNat : Nat) : Int) ≤ 281474976710656 := by rw [Int.natCast_mul, e2]; exact h3
    omega
  · rw [List.map_replicate] at k; exact k
end
end Go.MG
