/- Rules for the operations, over lists of operations; values that are numbers, truth values and texts. -/
import Derived.Test.YtbjbagemlclgcaaMgQ
import Derived.Tactics
import Derived.Laws.Rows
import Derived.Laws.BitsLemmas
import Derived.Lib.ConvBytes
import Derived.Laws.Strings
import Derived.Laws.StructEq
import Derived.Laws.BytesString
namespace Go.MG
set_option linter.unusedSimpArgs false
set_option linter.unusedVariables false
set_option linter.unnecessarySimpa false

abbrev w64 (n : Int) : Int := IntKind.i64.wrap n
abbrev str (l : List UInt8) : Value := .string ⟨⟨l⟩⟩
abbrev i64 (n : Int) : Value := .int .i64 n
abbrev u8 (b : UInt8) : Value := .int .u8 (b.toNat : Int)
def eI (n : Int) : List Cell := [.imm (i64 n)]
def eS (l : List UInt8) : List Cell := [.imm (str l)]
def eB (b : UInt8) : List Cell := [.imm (u8 b)]
def eL (b : Bool) : List Cell := [.imm (.bool b)]

def WpL (P : Program) (F : Fix) (ops : Array Oper) (Q : St → Prop) (l : List Oper) (σ : St) : Prop :=
  ∀ idx : List Nat, idx.map (ops[·]?) = l.map some → WpO P F ops Q idx σ

def dstB (n : Nat) : Option Nat → Bool
  | some d => decide (d < n)
  | none => true

def Heap.newBox (H : Heap) (q : Nat) (cs : List Cell) : Heap := { H with boxes := upd H.boxes q (some cs), made := upd H.made q true }
def Heap.newRow (H : Heap) (q : Nat) (r : Row) : Heap := { H with rows := upd H.rows q (some r), made := upd H.made q true }
def Heap.setBox (H : Heap) (q : Nat) (cs : List Cell) : Heap := { H with boxes := upd H.boxes q (some cs) }
def Heap.setRow (H : Heap) (q : Nat) (r : Row) : Heap := { H with rows := upd H.rows q (some r) }

section
variable {P : Program} {F : Fix} {ops : Array Oper} {Q : St → Prop} {N : Nat}

theorem dstB_ok (hn : F.n = N) {d : Option Nat} (h : dstB N d = true) : DstOk F.n d := by
  cases d with
  | none => trivial
  | some d => rw [hn]; show d < N; exact of_decide_eq_true h

theorem Done.mono {H : Heap} {E : Env} {m : Sem Next} {Q Q' : Option Slot → Heap → Prop} (h : Done P F H E m Q) (hq : ∀ x H', Q x H' → Q' x H') : Done P F H E m Q' := by
  obtain ⟨r, E', x, H', h1, h2, h3⟩ := h
  exact ⟨r, E', x, H', h1, hq _ _ h2, h3⟩

theorem L.nil {σ : St} (h : Q σ) : WpL P F ops Q [] σ := by
  intro idx hidx
  have : idx = [] := by simpa using hidx
  subst this
  exact WpO.nil h

theorem L.off {o : Oper} {rest : List Oper} {sl : Nat → Option Slot} {H : Heap} (hn : F.n = N) (hg : guardOf ops sl o = some false) (hd : dstB N o.dst = true) (k : WpL P F ops Q rest ⟨setD sl o.dst (some (.tup [])), H⟩) : WpL P F ops Q (o :: rest) ⟨sl, H⟩ := by
  intro idx hidx
  cases idx with
  | nil => simp at hidx
  | cons i is =>
    simp only [List.map_cons, List.cons.injEq] at hidx
    exact WpO.off hidx.1 hg (dstB_ok hn hd) (k is hidx.2)

theorem L.op {o : Oper} {rest : List Oper} {sl : Nat → Option Slot} {H : Heap} (hn : F.n = N) (hg : guardOf ops sl o = some true) (hd : dstB N o.dst = true)
    (h : ∀ (E : Env) (ev : Operand → Value), RelH F H E → RhoOk H E (opnd sl) ev → Done P F H E (execOp ev o) (fun x H' => WpL P F ops Q rest ⟨setD sl o.dst x, H'⟩)) : WpL P F ops Q (o :: rest) ⟨sl, H⟩ := by
  intro idx hidx
  cases idx with
  | nil => simp at hidx
  | cons i is =>
    simp only [List.map_cons, List.cons.injEq] at hidx
    exact WpO.op hidx.1 hg (dstB_ok hn hd) fun E ev hH hρ => (h E ev hH hρ).mono fun x H' hk => hk is hidx.2

theorem WpC.regionL {id : Nat} {Q : Exit → St → Prop} {σ : St} (h : WpL P F ops (Q .normal) ops.toList σ) : WpC P F (.region id ops false) Q σ := by
  refine WpC.region rfl (h _ ?_)
  apply List.ext_getElem?
  intro i
  simp only [List.getElem?_map]
  by_cases hi : i < ops.size
  · rw [List.getElem?_range hi]; simp [hi]
  · rw [List.getElem?_eq_none (by simpa using hi)]; simp [hi]

/-! ### moves -/
section
variable {dst : Option Nat} {ty : TypeId} {pos : String} {aft : Array Edge} {grd : Option (Nat × Bool)} {rest : List Oper} {sl : Nat → Option Slot} {H : Heap}

theorem L.move {x : Operand} {s : Slot} (hn : F.n = N) (hg : guardOf ops sl ⟨dst, .move x, ty, pos, aft, grd⟩ = some true) (hd : dstB N dst = true) (hx : opnd sl x = some s)
    (k : WpL P F ops Q rest ⟨setD sl dst (some s), H⟩) : WpL P F ops Q (⟨dst, .move x, ty, pos, aft, grd⟩ :: rest) ⟨sl, H⟩ :=
  L.op hn hg hd fun _ _ hH hρ => done_move hH hρ (.inl rfl) hx k
theorem L.assign {x : Operand} {s : Slot} (hn : F.n = N) (hg : guardOf ops sl ⟨dst, .assign x, ty, pos, aft, grd⟩ = some true) (hd : dstB N dst = true) (hx : opnd sl x = some s)
    (k : WpL P F ops Q rest ⟨setD sl dst (some s), H⟩) : WpL P F ops Q (⟨dst, .assign x, ty, pos, aft, grd⟩ :: rest) ⟨sl, H⟩ :=
  L.op hn hg hd fun _ _ hH hρ => done_move hH hρ (.inr rfl) hx k
theorem L.pick {c a b : Operand} {t : Bool} {s : Slot} (hn : F.n = N) (hg : guardOf ops sl ⟨dst, .pick c a b, ty, pos, aft, grd⟩ = some true) (hd : dstB N dst = true) (hc : opnd sl c = some (im (.bool t)))
    (hx : opnd sl (if t then a else b) = some s) (k : WpL P F ops Q rest ⟨setD sl dst (some s), H⟩) : WpL P F ops Q (⟨dst, .pick c a b, ty, pos, aft, grd⟩ :: rest) ⟨sl, H⟩ :=
  L.op hn hg hd fun _ _ hH hρ => done_pick hH hρ rfl hc rfl hx k
theorem L.extract {t : Operand} {i : Nat} {xs : List V} {x : V} (hn : F.n = N) (hg : guardOf ops sl ⟨dst, .extract t i, ty, pos, aft, grd⟩ = some true) (hd : dstB N dst = true) (ht : opnd sl t = some (.tup xs)) (hx : xs[i]? = some x)
    (k : WpL P F ops Q rest ⟨setD sl dst (some (.v x)), H⟩) : WpL P F ops Q (⟨dst, .extract t i, ty, pos, aft, grd⟩ :: rest) ⟨sl, H⟩ :=
  L.op hn hg hd fun _ _ hH hρ => done_extract hH hρ rfl ht hx k

/-! ### scalars -/
/-- What an operation on two plain values gives, where it cannot fail. -/
def binV (op : BinOp) : Value → Value → Option Value
  | .int k a, .int k' b => if k = k' then match op with
    | .add => some (.int k (k.wrap (a + b)))
    | .sub => some (.int k (k.wrap (a - b)))
    | .mul => some (.int k (k.wrap (a * b)))
    | .and => some (.int k (Go.bits .and k a b))
    | .or => some (.int k (Go.bits .or k a b))
    | .xor => some (.int k (Go.bits .xor k a b))
    | .andNot => some (.int k (Go.bits .andNot k a b))
    | .eql => some (.bool (a == b))
    | .neq => some (.bool (a != b))
    | .lss => some (.bool (decide (a < b)))
    | .leq => some (.bool (decide (a ≤ b)))
    | .gtr => some (.bool (decide (a > b)))
    | .geq => some (.bool (decide (a ≥ b)))
    | _ => none else none
  | .string a, .string b => match op with
    | .eql => some (.bool (a.toList == b.toList))
    | .neq => some (.bool !(a.toList == b.toList))
    | .lss => some (.bool (Op.bytesLess a.toList b.toList))
    | .leq => some (.bool (Op.bytesLess a.toList b.toList || a.toList == b.toList))
    | .gtr => some (.bool !(Op.bytesLess a.toList b.toList || a.toList == b.toList))
    | .geq => some (.bool !(Op.bytesLess a.toList b.toList))
    | _ => none
  | _, _ => none

theorem run_binV {op : BinOp} {a b r : Value} (h : binV op a b = some r) (t : TypeId) (x y : Operand) (w : World) :
    (do eqGuard op t x y a b; binOp op t a b : Sem Value).run P w = .ok r w := by
  unfold binV at h
  split at h
  · rename_i k a k' b
    split at h
    · rename_i hk; subst hk
      cases op <;> simp at h <;> subst h <;> simp [eqGuard, go_sem]
    · cases h
  · rename_i a b
    cases op <;> simp at h <;> subst h <;> simp [eqGuard, binOp, Op.stringOp]
  · cases h

theorem L.bin {op : BinOp} {xt yt : TypeId} {x y : Operand} {a b r : Value} (hn : F.n = N) (hg : guardOf ops sl ⟨dst, .binOp op xt x y yt, ty, pos, aft, grd⟩ = some true) (hd : dstB N dst = true)
    (hx : opnd sl x = some (im a)) (hy : opnd sl y = some (im b)) (hr : binV op a b = some r) (hi : isImm r = true)
    (k : WpL P F ops Q rest ⟨setD sl dst (some (im r)), H⟩) : WpL P F ops Q (⟨dst, .binOp op xt x y yt, ty, pos, aft, grd⟩ :: rest) ⟨sl, H⟩ := by
  refine L.op hn hg hd fun E ev hH hρ => ?_
  have h1 := im_ok hρ hx rfl
  have h2 := im_ok hρ hy rfl
  refine Done.same hH (u := r) ?_ k (by simp only [RSlot, RV, RC]; exact ⟨trivial, hi⟩) (fun k hk => by simp [Slot.names, V.names, V.cells, cnames, Cell.names] at hk)
  have := run_binV (P := P) hr xt x y E.w
  have e : execOp ev ⟨dst, .binOp op xt x y yt, ty, pos, aft, grd⟩ = (do let v ← (do eqGuard op xt x y a b; binOp op xt a b : Sem Value); pure (.value v)) := by
    simp only [execOp, h1, h2]
  rw [e, Sem.run_bind, this]
  rfl

theorem L.val {o : Oper} {r : Value} (hn : F.n = N) (hg : guardOf ops sl o = some true) (hd : dstB N o.dst = true) (hi : isImm r = true)
    (hrun : ∀ (E : Env) (ev : Operand → Value), RhoOk H E (opnd sl) ev → (execOp ev o).run P E.w = .ok (.value r) E.w)
    (k : WpL P F ops Q rest ⟨setD sl o.dst (some (im r)), H⟩) : WpL P F ops Q (o :: rest) ⟨sl, H⟩ :=
  L.op hn hg hd fun E ev hH hρ => Done.same hH (u := r) (hrun E ev hρ) k (by simp only [RSlot, RV, RC]; exact ⟨trivial, hi⟩) (fun k hk => by simp [Slot.names, V.names, V.cells, cnames, Cell.names] at hk)

theorem toList_str (l : List UInt8) : (ByteArray.mk ⟨l⟩).toList = l := by
  rw [ByteArray.toList_eq]

/-- Comparisons of texts. -/
def txtV (op : BinOp) (a b : List UInt8) : Option Bool := match op with
  | .eql => some (a == b)
  | .neq => some (a != b)
  | .lss => some (Op.bytesLess a b)
  | .leq => some (Op.bytesLess a b || a == b)
  | .gtr => some (!(Op.bytesLess a b || a == b))
  | .geq => some (!(Op.bytesLess a b))
  | _ => none
theorem L.binS {op : BinOp} {xt yt : TypeId} {x y : Operand} {a b : List UInt8} {r : Bool} (hn : F.n = N) (hg : guardOf ops sl ⟨dst, .binOp op xt x y yt, ty, pos, aft, grd⟩ = some true) (hd : dstB N dst = true)
    (hx : opnd sl x = some (im (str a))) (hy : opnd sl y = some (im (str b))) (hr : txtV op a b = some r)
    (k : WpL P F ops Q rest ⟨setD sl dst (some (im (.bool r))), H⟩) : WpL P F ops Q (⟨dst, .binOp op xt x y yt, ty, pos, aft, grd⟩ :: rest) ⟨sl, H⟩ := by
  refine L.bin hn hg hd hx hy ?_ rfl k
  cases op <;> simp only [txtV, Option.some.injEq, reduceCtorEq] at hr <;> subst hr <;> simp only [binV, str, toList_str] <;> rfl

theorem L.catS {xt yt : TypeId} {x y : Operand} {a b : List UInt8} (hn : F.n = N) (hg : guardOf ops sl ⟨dst, .binOp .add xt x y yt, ty, pos, aft, grd⟩ = some true) (hd : dstB N dst = true)
    (hx : opnd sl x = some (im (str a))) (hy : opnd sl y = some (im (str b))) (hr : a.length + b.length ≤ 9223372036854775807)
    (k : WpL P F ops Q rest ⟨setD sl dst (some (im (str (a ++ b)))), H⟩) : WpL P F ops Q (⟨dst, .binOp .add xt x y yt, ty, pos, aft, grd⟩ :: rest) ⟨sl, H⟩ := by
  refine L.val hn hg hd rfl (fun E ev hρ => ?_) k
  have h1 := im_ok hρ hx rfl
  have h2 := im_ok hρ hy rfl
  have hlt : ¬ IntKind.i64.max < (a.length : Int) + (b.length : Int) := by
    have : IntKind.i64.max = 9223372036854775807 := by decide
    omega
  have e : (ByteArray.mk ⟨a⟩) ++ (ByteArray.mk ⟨b⟩) = ByteArray.mk ⟨a ++ b⟩ := by
    apply ByteArray.ext
    simp
  have hlt' : ¬ (9223372036854775807 : Int) < (a.length : Int) + (b.length : Int) := by omega
  simp [execOp, h1, h2, eqGuard, binOp, Op.stringOp, ByteArray.size, hlt', e]

/-- Operations on bytes. -/
def byteV (op : BinOp) (a b : UInt8) : Option Value := match op with
  | .eql => some (.bool (a == b))
  | .neq => some (.bool (a != b))
  | .lss => some (.bool (decide (a < b)))
  | .leq => some (.bool (decide (a ≤ b)))
  | .gtr => some (.bool (decide (b < a)))
  | .geq => some (.bool (decide (b ≤ a)))
  | .add => some (u8 (a + b))
  | .sub => some (u8 (a - b))
  | .and => some (u8 (a &&& b))
  | _ => none
theorem u8_beq (a b : UInt8) : ((a.toNat : Int) == (b.toNat : Int)) = (a == b) := by
  by_cases h : a = b
  · subst h; simp
  · have : ¬ a.toNat = b.toNat := fun e => h (UInt8.toNat_inj.1 e)
    rw [beq_eq_false_iff_ne.2 h, beq_eq_false_iff_ne.2 (fun e => this (by omega))]
theorem L.binB {op : BinOp} {xt yt : TypeId} {x y : Operand} {a b : UInt8} {r : Value} (hn : F.n = N) (hg : guardOf ops sl ⟨dst, .binOp op xt x y yt, ty, pos, aft, grd⟩ = some true) (hd : dstB N dst = true)
    (hx : opnd sl x = some (im (u8 a))) (hy : opnd sl y = some (im (u8 b))) (hr : byteV op a b = some r)
    (k : WpL P F ops Q rest ⟨setD sl dst (some (im r)), H⟩) : WpL P F ops Q (⟨dst, .binOp op xt x y yt, ty, pos, aft, grd⟩ :: rest) ⟨sl, H⟩ := by
  refine L.bin (r := r) hn hg hd hx hy ?_ ?_ k
  · cases op <;> simp only [byteV, Option.some.injEq, reduceCtorEq] at hr <;> subst hr <;> simp only [binV, u8, if_true, Option.some.injEq, Value.bool.injEq, Value.int.injEq, true_and]
    · rw [IntKind.wrap_u8, UInt8.toNat_add]; omega
    · have := a.toNat_lt; have := b.toNat_lt
      rw [IntKind.wrap_u8, UInt8.toNat_sub]; omega
    · have := (bits_nat .u8 8 (by decide) (fun n h0 h1 => wraps_u8 n h0 h1) a.toNat b.toNat a.toNat_lt b.toNat_lt).1
      rw [this, UInt8.toNat_and]
    · exact u8_beq a b
    · show (!((a.toNat : Int) == (b.toNat : Int))) = !(a == b)
      rw [u8_beq]
    · simp [UInt8.lt_iff_toNat_lt]
    · simp [UInt8.le_iff_toNat_le]
    · simp [UInt8.lt_iff_toNat_lt]
    · simp [UInt8.le_iff_toNat_le]
  · cases op <;> simp only [byteV, Option.some.injEq, reduceCtorEq] at hr <;> subst hr <;> rfl

theorem L.quo {xt yt : TypeId} {x y : Operand} {a b : Int} {kd : IntKind} (hn : F.n = N) (hg : guardOf ops sl ⟨dst, .binOp .quo xt x y yt, ty, pos, aft, grd⟩ = some true) (hd : dstB N dst = true)
    (hx : opnd sl x = some (im (.int kd a))) (hy : opnd sl y = some (im (.int kd b))) (hb : (b == 0) = false)
    (k : WpL P F ops Q rest ⟨setD sl dst (some (im (.int kd (kd.wrap (a.tdiv b))))), H⟩) : WpL P F ops Q (⟨dst, .binOp .quo xt x y yt, ty, pos, aft, grd⟩ :: rest) ⟨sl, H⟩ := by
  refine L.val hn hg hd rfl (fun E ev hρ => ?_) k
  have h0 : b ≠ 0 := by simpa using hb
  simp [execOp, im_ok hρ hx rfl, im_ok hρ hy rfl, eqGuard, binOp, Op.intDiv, h0]
theorem L.rem {xt yt : TypeId} {x y : Operand} {a b : Int} {kd : IntKind} (hn : F.n = N) (hg : guardOf ops sl ⟨dst, .binOp .rem xt x y yt, ty, pos, aft, grd⟩ = some true) (hd : dstB N dst = true)
    (hx : opnd sl x = some (im (.int kd a))) (hy : opnd sl y = some (im (.int kd b))) (hb : (b == 0) = false)
    (k : WpL P F ops Q rest ⟨setD sl dst (some (im (.int kd (a.tmod b)))), H⟩) : WpL P F ops Q (⟨dst, .binOp .rem xt x y yt, ty, pos, aft, grd⟩ :: rest) ⟨sl, H⟩ := by
  refine L.val hn hg hd rfl (fun E ev hρ => ?_) k
  have h0 : b ≠ 0 := by simpa using hb
  simp [execOp, im_ok hρ hx rfl, im_ok hρ hy rfl, eqGuard, binOp, Op.intDiv, h0]

def shlI (kd : IntKind) (a b : Int) : Int := kd.wrap (a * 2 ^ (min b.toNat kd.bits))
def shrI (kd : IntKind) (a b : Int) : Int := a.fdiv (2 ^ (min b.toNat kd.bits))
theorem L.shl {xt yt : TypeId} {x y : Operand} {a b : Int} {kd kd' : IntKind} (hn : F.n = N) (hg : guardOf ops sl ⟨dst, .binOp .shl xt x y yt, ty, pos, aft, grd⟩ = some true) (hd : dstB N dst = true)
    (hx : opnd sl x = some (im (.int kd a))) (hy : opnd sl y = some (im (.int kd' b))) (hb : decide (b < 0) = false)
    (k : WpL P F ops Q rest ⟨setD sl dst (some (im (.int kd (shlI kd a b)))), H⟩) : WpL P F ops Q (⟨dst, .binOp .shl xt x y yt, ty, pos, aft, grd⟩ :: rest) ⟨sl, H⟩ := by
  refine L.val hn hg hd rfl (fun E ev hρ => ?_) k
  have h0 : ¬ b < 0 := by simpa using hb
  simp [execOp, im_ok hρ hx rfl, im_ok hρ hy rfl, eqGuard, binOp, Op.shift, h0, shlI]
theorem L.shr {xt yt : TypeId} {x y : Operand} {a b : Int} {kd kd' : IntKind} (hn : F.n = N) (hg : guardOf ops sl ⟨dst, .binOp .shr xt x y yt, ty, pos, aft, grd⟩ = some true) (hd : dstB N dst = true)
    (hx : opnd sl x = some (im (.int kd a))) (hy : opnd sl y = some (im (.int kd' b))) (hb : decide (b < 0) = false)
    (k : WpL P F ops Q rest ⟨setD sl dst (some (im (.int kd (shrI kd a b)))), H⟩) : WpL P F ops Q (⟨dst, .binOp .shr xt x y yt, ty, pos, aft, grd⟩ :: rest) ⟨sl, H⟩ := by
  refine L.val hn hg hd rfl (fun E ev hρ => ?_) k
  have h0 : ¬ b < 0 := by simpa using hb
  simp [execOp, im_ok hρ hx rfl, im_ok hρ hy rfl, eqGuard, binOp, Op.shift, h0, shrI]

theorem L.not {xt : TypeId} {x : Operand} {a : Bool} (hn : F.n = N) (hg : guardOf ops sl ⟨dst, .unOp .not xt x, ty, pos, aft, grd⟩ = some true) (hd : dstB N dst = true)
    (hx : opnd sl x = some (im (.bool a))) (k : WpL P F ops Q rest ⟨setD sl dst (some (im (.bool (!a)))), H⟩) : WpL P F ops Q (⟨dst, .unOp .not xt x, ty, pos, aft, grd⟩ :: rest) ⟨sl, H⟩ := by
  refine L.val hn hg hd rfl (fun E ev hρ => ?_) k
  simp [execOp, im_ok hρ hx rfl, Op.unary]
theorem L.neg {xt : TypeId} {x : Operand} {a : Int} {kd : IntKind} (hn : F.n = N) (hg : guardOf ops sl ⟨dst, .unOp .neg xt x, ty, pos, aft, grd⟩ = some true) (hd : dstB N dst = true)
    (hx : opnd sl x = some (im (.int kd a))) (k : WpL P F ops Q rest ⟨setD sl dst (some (im (.int kd (kd.wrap (0 - a))))), H⟩) : WpL P F ops Q (⟨dst, .unOp .neg xt x, ty, pos, aft, grd⟩ :: rest) ⟨sl, H⟩ := by
  refine L.val hn hg hd rfl (fun E ev hρ => ?_) k
  simp [execOp, im_ok hρ hx rfl, Op.unary, Op.intArith]

theorem L.eqL {xt yt : TypeId} {x y : Operand} {a b : Bool} (ht : P.underlying xt = some .bool) (hn : F.n = N) (hg : guardOf ops sl ⟨dst, .binOp .eql xt x y yt, ty, pos, aft, grd⟩ = some true) (hd : dstB N dst = true)
    (hx : opnd sl x = some (im (.bool a))) (hy : opnd sl y = some (im (.bool b)))
    (k : WpL P F ops Q rest ⟨setD sl dst (some (im (.bool (a == b)))), H⟩) : WpL P F ops Q (⟨dst, .binOp .eql xt x y yt, ty, pos, aft, grd⟩ :: rest) ⟨sl, H⟩ := by
  refine L.val hn hg hd rfl (fun E ev hρ => ?_) k
  have e : (Op.equal xt (.bool a) (.bool b)).run P E.w = .ok (a == b) E.w := run_equalIn_bool' E.w 9999 xt a b ht
  simp [execOp, im_ok hρ hx rfl, im_ok hρ hy rfl, eqGuard, binOp, e]
theorem L.neL {xt yt : TypeId} {x y : Operand} {a b : Bool} (ht : P.underlying xt = some .bool) (hn : F.n = N) (hg : guardOf ops sl ⟨dst, .binOp .neq xt x y yt, ty, pos, aft, grd⟩ = some true) (hd : dstB N dst = true)
    (hx : opnd sl x = some (im (.bool a))) (hy : opnd sl y = some (im (.bool b)))
    (k : WpL P F ops Q rest ⟨setD sl dst (some (im (.bool (a != b)))), H⟩) : WpL P F ops Q (⟨dst, .binOp .neq xt x y yt, ty, pos, aft, grd⟩ :: rest) ⟨sl, H⟩ := by
  refine L.val hn hg hd rfl (fun E ev hρ => ?_) k
  have e : (Op.equal xt (.bool a) (.bool b)).run P E.w = .ok (a == b) E.w := run_equalIn_bool' E.w 9999 xt a b ht
  simp [execOp, im_ok hρ hx rfl, im_ok hρ hy rfl, eqGuard, binOp, e, bne]

/-! ### conversions -/
def ofI (n : Int) : UInt8 := UInt8.ofNat (n % 256).toNat
theorem ofI_toNat (n : Int) : ((ofI n).toNat : Int) = n % 256 := by
  unfold ofI
  rw [UInt8.toNat_ofNat']
  omega
theorem L.conv {a b : TypeId} {x : Operand} {kd kd' : IntKind} {n : Int} {da : TypeDesc} (hta : P.underlying a = some da) (htb : P.underlying b = some (.int kd)) (hn : F.n = N) (hg : guardOf ops sl ⟨dst, .convert a b x, ty, pos, aft, grd⟩ = some true) (hd : dstB N dst = true)
    (hx : opnd sl x = some (im (.int kd' n))) (k : WpL P F ops Q rest ⟨setD sl dst (some (im (.int kd (kd.wrap n)))), H⟩) : WpL P F ops Q (⟨dst, .convert a b x, ty, pos, aft, grd⟩ :: rest) ⟨sl, H⟩ := by
  refine L.val hn hg hd rfl (fun E ev hρ => ?_) k
  simp [execOp, im_ok hρ hx rfl, convert, run_underlying hta, run_underlying htb, Conv.intToInt]
theorem L.toB {a b : TypeId} {x : Operand} {kd' : IntKind} {n : Int} {da : TypeDesc} (hta : P.underlying a = some da) (htb : P.underlying b = some (.int .u8)) (hn : F.n = N) (hg : guardOf ops sl ⟨dst, .convert a b x, ty, pos, aft, grd⟩ = some true) (hd : dstB N dst = true)
    (hx : opnd sl x = some (im (.int kd' n))) (k : WpL P F ops Q rest ⟨setD sl dst (some (im (u8 (ofI n)))), H⟩) : WpL P F ops Q (⟨dst, .convert a b x, ty, pos, aft, grd⟩ :: rest) ⟨sl, H⟩ := by
  refine L.conv hta htb hn hg hd hx ?_
  rw [IntKind.wrap_u8, ← ofI_toNat]; exact k
theorem L.ofB {a b : TypeId} {x : Operand} {c : UInt8} {da : TypeDesc} (hta : P.underlying a = some da) (htb : P.underlying b = some (.int .i64)) (hn : F.n = N) (hg : guardOf ops sl ⟨dst, .convert a b x, ty, pos, aft, grd⟩ = some true) (hd : dstB N dst = true)
    (hx : opnd sl x = some (im (u8 c))) (k : WpL P F ops Q rest ⟨setD sl dst (some (im (i64 (c.toNat : Int)))), H⟩) : WpL P F ops Q (⟨dst, .convert a b x, ty, pos, aft, grd⟩ :: rest) ⟨sl, H⟩ := by
  refine L.conv hta htb hn hg hd hx ?_
  have := c.toNat_lt
  rw [IntKind.wrap_i64, show ((c.toNat : Int) + 9223372036854775808) % 18446744073709551616 - 9223372036854775808 = (c.toNat : Int) by omega]
  exact k

/-! ### texts -/
/-- The element at a place, if there is one. -/
def at? {α : Type} (l : List α) (i : Int) : Option α := if 0 ≤ i then l[i.toNat]? else none
/-- A part of a list. -/
def cut? {α : Type} (l : List α) (a b : Int) : Option (List α) := if 0 ≤ a ∧ a ≤ b ∧ b ≤ l.length then some ((l.drop a.toNat).take (b - a).toNat) else none

theorem L.idxS {t : TypeId} {x y : Operand} {l : List UInt8} {kd : IntKind} {i : Int} {b : UInt8} (ht : P.underlying t = some .string) (hn : F.n = N) (hg : guardOf ops sl ⟨dst, .index t x y, ty, pos, aft, grd⟩ = some true) (hd : dstB N dst = true)
    (hx : opnd sl x = some (im (str l))) (hy : opnd sl y = some (im (.int kd i))) (hb : at? l i = some b)
    (k : WpL P F ops Q rest ⟨setD sl dst (some (im (u8 b))), H⟩) : WpL P F ops Q (⟨dst, .index t x y, ty, pos, aft, grd⟩ :: rest) ⟨sl, H⟩ := by
  refine L.val hn hg hd rfl (fun E ev hρ => ?_) k
  unfold at? at hb
  split at hb
  · rename_i h0
    obtain ⟨hlt, e⟩ := List.getElem?_eq_some_iff.1 hb
    have hget : (ByteArray.mk ⟨l⟩)[i.toNat]? = some b := by
      rw [getElem?_pos (ByteArray.mk ⟨l⟩) i.toNat (by simpa [ByteArray.size] using hlt)]
      simp [ByteArray.getElem_eq_getElem_data, e]
    simp [execOp, im_ok hρ hx rfl, im_ok hρ hy rfl, Instr.index, asIntOf, run_underlying ht, h0, hget]
  · cases hb

theorem L.lenS {x : Operand} {t : TypeId} {l : List UInt8} (ht : P.underlying t = some .string) (hn : F.n = N) (hg : guardOf ops sl ⟨dst, .call { callee := .builtin .len, args := #[x], argTypes := #[t] }, ty, pos, aft, grd⟩ = some true) (hd : dstB N dst = true)
    (hx : opnd sl x = some (im (str l))) (k : WpL P F ops Q rest ⟨setD sl dst (some (im (i64 (l.length : Int)))), H⟩) : WpL P F ops Q (⟨dst, .call { callee := .builtin .len, args := #[x], argTypes := #[t] }, ty, pos, aft, grd⟩ :: rest) ⟨sl, H⟩ := by
  refine L.val hn hg hd rfl (fun E ev hρ => ?_) k
  have h := run_len_string (P := P) E.w t ty ⟨⟨l⟩⟩ ht
  simp [execOp, resolve, invoke, builtin, im_ok hρ hx rfl, h, goInt, ByteArray.size]
end
end
end Go.MG
