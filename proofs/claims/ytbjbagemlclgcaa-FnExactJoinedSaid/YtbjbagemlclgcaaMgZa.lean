/- Regions whose operations may come up in any order: what an operation does to the world. -/
import Derived.Test.YtbjbagemlclgcaaMgZ
import Derived.Still
namespace Go.MG
set_option linter.unusedSimpArgs false
set_option linter.unusedVariables false
set_option linter.unnecessarySimpa false

/-- It does not end well. -/
def Never {α : Type} (m : Sem α) : Prop := ∀ P w r w1, m.run P w ≠ .ok r w1
/-- Where it ends well it leaves the world as it is. -/
def Quiet {α : Type} (P : Program) (m : Sem α) : Prop := ∀ w r w1, m.run P w = .ok r w1 → w1 = w
/-- .. and does so in whatever world. -/
def Calm {α : Type} (P : Program) (m : Sem α) : Prop := ∀ w r w1, m.run P w = .ok r w1 → w1 = w ∧ ∀ w', m.run P w' = .ok r w'

section
variable {P : Program} {α β : Type} {m : Sem α} {f : α → Sem β}
theorem Never.calm (h : Never m) : Calm P m := fun w r w1 e => absurd e (h P w r w1)
theorem Calm.quiet (h : Calm P m) : Quiet P m := fun w r w1 e => (h w r w1 e).1
theorem Calm.pure (a : α) : Calm P (pure a : Sem α) := fun w r w1 e => by
  simp only [Sem.run_pure, Result.ok.injEq] at e
  obtain ⟨rfl, rfl⟩ := e
  exact ⟨rfl, fun w' => by simp⟩
theorem andThen_ok {x : Result α} {g : α → World → Result β} {r : β} {w1 : World} (h : x.andThen g = .ok r w1) : ∃ a w, x = .ok a w ∧ g a w = .ok r w1 := by
  cases x with
  | ok a w => exact ⟨a, w, rfl, h⟩
  | halt h0 w => cases h
theorem Calm.bind (h : Calm P m) (hf : ∀ a, Calm P (f a)) : Calm P (m >>= f) := by
  intro w r w1 e
  rw [Sem.run_bind] at e
  obtain ⟨a, w0, e1, e2⟩ := andThen_ok e
  obtain ⟨rfl, h1⟩ := h w a w0 e1
  obtain ⟨rfl, h2⟩ := hf a w0 r w1 e2
  exact ⟨rfl, fun w' => by rw [Sem.run_bind, h1]; exact h2 w'⟩
theorem Quiet.bind (h : Quiet P m) (hf : ∀ a, Quiet P (f a)) : Quiet P (m >>= f) := by
  intro w r w1 e
  rw [Sem.run_bind] at e
  obtain ⟨a, w0, e1, e2⟩ := andThen_ok e
  have := h w a w0 e1
  subst this
  exact hf a w0 r w1 e2
theorem Never.bind (h : ∀ a, Never (f a)) : Never (m >>= f) := by
  intro P w r w1 e
  rw [Sem.run_bind] at e
  obtain ⟨a, w0, e1, e2⟩ := andThen_ok e
  exact h a P w0 r w1 e2
theorem Never.halt (h : Halt) : Never (Sem.halt h : Sem α) := fun P w r w1 e => by simp [Sem.run] at e
theorem Never.stuck (s : String) : Never (Go.stuck s : Sem α) := Never.halt _
theorem Never.unsupported (s : Unsupported) : Never (Go.unsupported s : Sem α) := Never.halt _
theorem Never.goPanic (v : Value) : Never (Go.goPanic v : Sem α) := Never.halt _
theorem Calm.ofRun {α : Type} {m : Sem α} {r : α} (h : ∀ w, m.run P w = .ok r w) : Calm P m := fun w r' w1 e => by
  rw [h w] at e
  simp only [Result.ok.injEq] at e
  obtain ⟨rfl, rfl⟩ := e
  exact ⟨rfl, h⟩
theorem Calm.program : Calm P program := fun w r w1 e => by
  simp only [run_program, Result.ok.injEq] at e
  obtain ⟨rfl, rfl⟩ := e
  exact ⟨rfl, fun w' => by simp⟩
theorem Never.runtimePanic (e : RuntimeError) : Never (Go.runtimePanic e : Sem α) := by
  unfold Go.runtimePanic
  refine Never.bind fun p => ?_
  cases e <;> first | exact Never.goPanic _ | exact Never.bind fun _ => Never.bind fun _ => Never.goPanic _
theorem Never.boundsPanic (k : IntKind) (x y : Int) (c : BoundsCode) : Never (Go.boundsPanic k x y c : Sem α) := by
  unfold Go.boundsPanic
  dsimp only
  split <;> exact Never.bind fun _ => Never.runtimePanic _
theorem Calm.stuck (s : String) : Calm P (Go.stuck s : Sem α) := (Never.stuck s).calm
theorem Calm.typeInfo (t : TypeId) : Calm P (Go.typeInfo t) := by
  unfold Go.typeInfo
  refine Calm.bind Calm.program fun p => ?_
  split
  · exact Calm.pure _
  · exact Calm.stuck _
theorem Calm.sizeOf (t : TypeId) : Calm P (Go.sizeOf t) := Calm.bind (Calm.typeInfo t) fun _ => Calm.pure _
theorem Calm.underlying (t : TypeId) : Calm P (Go.underlying t) := by
  unfold Go.underlying
  refine Calm.bind Calm.program fun p => ?_
  split
  · exact Calm.pure _
  · exact Calm.stuck _
theorem Calm.isAgg (t : TypeId) : Calm P (Go.isAgg t) := by
  unfold Go.isAgg
  refine Calm.bind (Calm.underlying t) fun d => ?_
  split <;> exact Calm.pure _
theorem Calm.part (t : TypeId) (cs : Array Value) (o : Nat) : Calm P (Go.part t cs o) := by
  unfold Go.part
  refine Calm.bind (Calm.isAgg t) fun b => ?_
  split
  · exact Calm.bind (Calm.sizeOf t) fun _ => Calm.pure _
  · split
    · exact Calm.pure _
    · exact Calm.stuck _
theorem Calm.asBool (v : Value) : Calm P (Go.asBool v) := by
  unfold Go.asBool; split
  · exact Calm.pure _
  · exact Calm.stuck _
theorem Calm.asIntOf (v : Value) : Calm P (Go.asIntOf v) := by
  unfold Go.asIntOf; split
  · exact Calm.pure _
  · exact (Never.unsupported _).calm
  · exact Calm.stuck _
theorem Calm.asAgg (v : Value) : Calm P (Go.asAgg v) := by
  unfold Go.asAgg; split
  · exact Calm.pure _
  · exact Calm.stuck _
theorem Calm.sureAddr (v : Value) : Calm P (Instr.sureAddr v) := by
  unfold Instr.sureAddr; split
  · exact Calm.pure _
  · exact Calm.stuck _
end

/-- What an operation needs, of the state, to be calm. -/
def CalmAt (P : Program) (F : Fix) (sl : Nat → Option Slot) (H : Heap) (o : Oper) : Prop := ∀ E ev, RelH F H E → RhoOk H E (opnd sl) ev → Calm P (execOp ev o)
def QuietAt (P : Program) (F : Fix) (sl : Nat → Option Slot) (H : Heap) (o : Oper) : Prop := ∀ E ev, RelH F H E → RhoOk H E (opnd sl) ev → Quiet P (execOp ev o)
section
variable {P : Program} {F : Fix} {sl : Nat → Option Slot} {H : Heap}
variable {dst : Option Nat} {ty : TypeId} {pos : String} {aft : Array Edge} {grd : Option (Nat × Bool)}
theorem CalmAt.quiet {o : Oper} (h : CalmAt P F sl H o) : QuietAt P F sl H o := fun E ev a b => (h E ev a b).quiet
theorem Ca.move {x : Operand} : CalmAt P F sl H ⟨dst, .move x, ty, pos, aft, grd⟩ := fun E ev _ _ => Calm.pure _
theorem Ca.assign {x : Operand} : CalmAt P F sl H ⟨dst, .assign x, ty, pos, aft, grd⟩ := fun E ev _ _ => Calm.pure _
theorem Ca.pick {c a b : Operand} : CalmAt P F sl H ⟨dst, .pick c a b, ty, pos, aft, grd⟩ := fun E ev _ _ => Calm.bind (Calm.asBool _) fun _ => Calm.pure _
theorem Ca.v {m : Sem Value} (h : Calm P m) : Calm P (do pure (.value (← m)) : Sem Next) := Calm.bind h fun _ => Calm.pure _
theorem Qu.v {m : Sem Value} (h : Quiet P m) : Quiet P (do pure (.value (← m)) : Sem Next) := Quiet.bind h fun _ => (Calm.pure _).quiet
theorem Ca.extract {t : Operand} {i : Nat} : CalmAt P F sl H ⟨dst, .extract t i, ty, pos, aft, grd⟩ := fun E ev _ _ => by
  refine Ca.v ?_
  unfold Instr.extract
  split
  · split
    · exact Calm.pure _
    · exact Calm.stuck _
  · exact Calm.stuck _
theorem Ca.field {t : TypeId} {x : Operand} {i : Nat} : CalmAt P F sl H ⟨dst, .field t x i, ty, pos, aft, grd⟩ := fun E ev _ _ => by
  refine Ca.v ?_
  unfold Instr.field
  refine Calm.bind (Calm.underlying _) fun d => ?_
  split
  · split
    · exact Calm.bind (Calm.asAgg _) fun _ => Calm.part _ _ _
    · exact Calm.stuck _
  · exact Calm.stuck _
theorem Ca.index {t : TypeId} {x i : Operand} : CalmAt P F sl H ⟨dst, .index t x i, ty, pos, aft, grd⟩ := fun E ev _ _ => by
  refine Ca.v ?_
  unfold Instr.index
  refine Calm.bind (Calm.asIntOf _) fun ki => Calm.bind (Calm.underlying _) fun d => ?_
  split
  · split
    · exact Calm.bind (Calm.sizeOf _) fun _ => Calm.part _ _ _
    · exact (Never.boundsPanic _ _ _ _).calm
  · split
    · exact Calm.pure _
    · exact (Never.boundsPanic _ _ _ _).calm
  · exact Calm.stuck _
theorem Ca.indexAddr {t : TypeId} {x i : Operand} : CalmAt P F sl H ⟨dst, .indexAddr t x i, ty, pos, aft, grd⟩ := fun E ev _ _ => by
  refine Ca.v ?_
  unfold Instr.indexAt
  refine Calm.bind (Calm.asIntOf _) fun ki => Calm.bind (Calm.underlying _) fun d => ?_
  dsimp only
  have key : ∀ (b : Option Addr) (n : Nat) (el : TypeId), Calm P (do
      let d ← underlying t
      let tiny : Bool := n ≤ 1 && (match d with | .array .. => true | _ => false)
      match b with
      | some a =>
        if 0 ≤ ki.snd ∧ ki.snd < n then do pure (Value.pointer (some (a.add (ki.snd.toNat * (← sizeOf el)))))
        else if tiny then unsupported (.noEntry "op/indexAddr.an index out of range at an array of length 0 or 1 (ledger 616)")
        else boundsPanic ki.fst ki.snd n .index
      | none => boundsPanic ki.fst ki.snd 0 .index) := by
    intro b n el
    refine Calm.bind (Calm.underlying _) fun d => ?_
    dsimp only
    split
    · split
      · exact Calm.bind (Calm.sizeOf _) fun _ => Calm.pure _
      · have hx : ∀ b : Bool, Calm P (if b = true then unsupported (.noEntry "op/indexAddr.an index out of range at an array of length 0 or 1 (ledger 616)") else boundsPanic ki.fst ki.snd n .index : Sem Value) := fun b => by
          cases b
          · exact (Never.boundsPanic _ _ _ _).calm
          · exact (Never.unsupported _).calm
        exact hx _
    · exact (Never.boundsPanic _ _ _ _).calm
  split
  · exact Calm.bind (Calm.sureAddr _) fun _ => Calm.bind (Calm.pure _) fun _ => key _ _ _
  · exact Calm.bind (Calm.pure _) fun _ => key _ _ _
  · exact Calm.bind (Calm.stuck _) fun _ => key _ _ _
theorem Ca.bin {op : BinOp} {xt yt : TypeId} {x y : Operand} {a b : Value} (hx : opnd sl x = some (im a)) (hy : opnd sl y = some (im b)) (h : Calm P (do eqGuard op xt x y a b; binOp op xt a b : Sem Value)) : CalmAt P F sl H ⟨dst, .binOp op xt x y yt, ty, pos, aft, grd⟩ := fun E ev _ hρ => by
  have h1 := im_ok hρ hx rfl
  have h2 := im_ok hρ hy rfl
  refine Ca.v ?_
  rw [h1, h2]
  exact h
theorem calm_eqGuard_int (op : BinOp) (t : TypeId) (x y : Operand) (k k' : IntKind) (a b : Int) : Calm P (eqGuard op t x y (.int k a) (.int k' b)) := by
  unfold eqGuard
  cases op <;> exact Calm.pure _
theorem calm_eqGuard_str (op : BinOp) (t : TypeId) (x y : Operand) (a b : ByteArray) : Calm P (eqGuard op t x y (.string a) (.string b)) := by
  unfold eqGuard
  cases op <;> exact Calm.pure _
theorem calm_eqGuard_bool (op : BinOp) (t : TypeId) (x y : Operand) (a b : Bool) : Calm P (eqGuard op t x y (.bool a) (.bool b)) := by
  unfold eqGuard
  cases op <;> exact Calm.pure _
theorem calm_int (op : BinOp) (t : TypeId) (x y : Operand) (k k' : IntKind) (a b : Int) : Calm P (do eqGuard op t x y (.int k a) (.int k' b); binOp op t (.int k a) (.int k' b) : Sem Value) := by
  refine Calm.bind (calm_eqGuard_int op t x y k k' a b) fun _ => ?_
  have sh : ∀ op, Calm P (Op.shift op k a k' b) := by
    intro op
    unfold Op.shift
    first
      | exact Calm.pure _
      | (split <;> first | exact (Never.runtimePanic _).calm | (split <;> first | exact Calm.pure _ | exact Calm.stuck _) | exact Calm.pure _ | exact Calm.stuck _)
  cases op <;> simp only [binOp] <;> first
    | exact sh _
    | (split; exact Calm.stuck _; first | exact Calm.pure _ | (unfold Op.intDiv; split <;> first | exact (Never.runtimePanic _).calm | exact Calm.pure _ | (split <;> first | exact Calm.pure _ | exact Calm.stuck _)) | exact Calm.stuck _)
theorem calm_bool (op : BinOp) (t : TypeId) (x y : Operand) (a b : Bool) (ht : P.underlying t = some .bool) (ho : op = .eql ∨ op = .neq) : Calm P (do eqGuard op t x y (.bool a) (.bool b); binOp op t (.bool a) (.bool b) : Sem Value) := by
  refine Calm.bind (calm_eqGuard_bool op t x y a b) fun _ => ?_
  rcases ho with rfl | rfl
  · exact Calm.ofRun (r := .bool (a == b)) fun w => by
      have e : (Op.equal t (.bool a) (.bool b)).run P w = .ok (a == b) w := run_equalIn_bool' w 9999 t a b ht
      simp [binOp, e]
  · exact Calm.ofRun (r := .bool (!(a == b))) fun w => by
      have e : (Op.equal t (.bool a) (.bool b)).run P w = .ok (a == b) w := run_equalIn_bool' w 9999 t a b ht
      simp [binOp, e]
theorem calm_str (op : BinOp) (t : TypeId) (x y : Operand) (a b : ByteArray) : Calm P (do eqGuard op t x y (.string a) (.string b); binOp op t (.string a) (.string b) : Sem Value) := by
  refine Calm.bind (calm_eqGuard_str op t x y a b) fun _ => ?_
  have e : binOp op t (.string a) (.string b) = Op.stringOp op a b := by cases op <;> rfl
  rw [e]
  unfold Op.stringOp
  cases op <;> first | exact Calm.pure _ | exact Calm.stuck _ | (dsimp only; split <;> first | exact Calm.pure _ | exact (Never.runtimePanic _).calm | exact (Never.unsupported _).calm | exact (Never.halt _).calm)

theorem Calm.sliceBound (v : Value) (y : Nat) (c : BoundsCode) : Calm P (Instr.sliceBound v y c) := by
  unfold Instr.sliceBound
  refine Calm.bind (Calm.asIntOf _) fun ki => ?_
  dsimp only
  split
  · exact Calm.pure _
  · exact (Never.boundsPanic _ _ _ _).calm
theorem Calm.sliceBounds (b : Bool) (len cap : Nat) (lo hi : Option Value) : Calm P (Instr.sliceBounds b len cap lo hi none) := by
  unfold Instr.sliceBounds
  cases hi <;> cases lo <;> dsimp only <;> repeat' (first | exact Calm.pure _ | exact Calm.sliceBound _ _ _ | (refine Calm.bind ?_ fun _ => ?_))
theorem Calm.asAddr (v : Value) : Calm P (Go.asAddr v) := by
  unfold Go.asAddr; split
  · exact Calm.pure _
  · exact (Never.runtimePanic _).calm
  · exact Calm.stuck _
theorem Ca.slice {t : TypeId} {x : Operand} {lo hi : Option Operand} : CalmAt P F sl H ⟨dst, .slice t x lo hi none, ty, pos, aft, grd⟩ := fun E ev _ _ => by
  refine Ca.v ?_
  unfold Instr.sliceAt
  refine Calm.bind (Calm.underlying _) fun d => ?_
  split
  · exact Calm.bind (Calm.sureAddr _) fun _ => Calm.bind (Calm.sliceBounds _ _ _ _ _) fun _ => Calm.bind (Calm.sizeOf _) fun _ => Calm.pure _
  · unfold Instr.slice
    refine Calm.bind (Calm.underlying _) fun d => ?_
    split
    · simp only [Option.map_none, Option.isSome_none, Bool.false_eq_true, if_false]
      exact Calm.bind (Calm.sliceBounds _ _ _ _ _) fun _ => Calm.pure _
    · exact Calm.bind (Calm.sliceBounds _ _ _ _ _) fun _ => Calm.bind (Calm.sizeOf _) fun _ => Calm.pure _
    · refine Calm.bind (Calm.asAddr _) fun _ => Calm.bind (Calm.underlying _) fun _ => ?_
      split
      · exact Calm.bind (Calm.sliceBounds _ _ _ _ _) fun _ => Calm.bind (Calm.sizeOf _) fun _ => Calm.pure _
      · exact Calm.stuck _
    · exact Calm.stuck _
theorem Ca.fieldAddr {s : TypeId} {y : Operand} {f : Nat} {fs : Array Field} {fd : Field} {i : TypeInfo} (hs : P.underlying s = some (.struct fs)) (hf : fs[f]? = some fd) (hi : P.info? fd.type = some i) (h0 : (i.size == 0) = false) : CalmAt P F sl H ⟨dst, .fieldAddr s y f, ty, pos, aft, grd⟩ := fun E ev _ _ => by
  refine Ca.v ?_
  unfold Instr.fieldAt
  have h0' : i.size ≠ 0 := by simpa using h0
  have hu : ∀ w, (underlying s).run P w = .ok (.struct fs) w := fun w => run_underlying hs w
  have hz : ∀ w, (sizeOf fd.type).run P w = .ok i.size w := fun w => by simp [sizeOf, typeInfo, hi]
  have hp : ∀ a, Calm P (fieldPlace a fd) := fun a => by
    refine Calm.ofRun (r := a.add fd.offset) fun w => ?_
    simp [fieldPlace, hz, h0']
  have : ∀ (k : TypeDesc → Sem Value), Calm P (k (.struct fs)) → Calm P (underlying s >>= k) := fun k hk w r w1 e => by
    rw [Sem.run_bind, hu] at e
    obtain ⟨rfl, h2⟩ := hk w r w1 e
    exact ⟨rfl, fun w' => by rw [Sem.run_bind, hu]; exact h2 w'⟩
  refine this _ ?_
  dsimp only
  rw [hf]
  exact Calm.bind (Calm.sureAddr _) fun a => Calm.bind (hp a) fun _ => Calm.pure _
theorem Ca.un {op : UnOp} {t : TypeId} {x : Operand} {a : Value} (hx : opnd sl x = some (im a)) (ha : isImm a = true) : CalmAt P F sl H ⟨dst, .unOp op t x, ty, pos, aft, grd⟩ := fun E ev _ hρ => by
  have h1 := im_ok hρ hx rfl
  refine Ca.v ?_
  rw [h1]
  unfold Op.unary
  cases op <;> cases a <;> first | exact Calm.pure _ | exact Calm.stuck _ | (split <;> first | exact Calm.pure _ | exact Calm.stuck _ | exact (Never.unsupported _).calm)
theorem Ca.conv {a b : TypeId} {x : Operand} {k1 k2 kd : IntKind} {n : Int} (ha : P.underlying a = some (.int k1)) (hb : P.underlying b = some (.int k2)) (hx : opnd sl x = some (im (.int kd n))) : CalmAt P F sl H ⟨dst, .convert a b x, ty, pos, aft, grd⟩ := fun E ev _ hρ => by
  have h1 := im_ok hρ hx rfl
  refine Ca.v (Calm.ofRun (r := .int k2 (k2.wrap n)) fun w => ?_)
  rw [h1]
  simp [Go.convert, run_underlying ha, run_underlying hb, Conv.intToInt]
theorem Ca.lenS {x : Operand} {t : TypeId} {l : List UInt8} (ht : P.underlying t = some .string) (hx : opnd sl x = some (im (str l))) : CalmAt P F sl H ⟨dst, .call { callee := .builtin .len, args := #[x], argTypes := #[t] }, ty, pos, aft, grd⟩ := fun E ev _ hρ => by
  have h1 := im_ok hρ hx rfl
  refine Calm.ofRun (r := .value (i64 (l.length : Int))) fun w => ?_
  have e : (ByteArray.mk ⟨l⟩).size = l.length := rfl
  simp [execOp, resolve, invoke, builtin, Builtin.len_, run_underlying ht, h1, goInt, e]
theorem Ca.lenR {α : Type} {xs : List α} {e : α → List Cell} {x : Operand} {t el : TypeId} {c : Cell} (ht : P.underlying t = some (.slice el)) (hx : opnd sl x = some (.v (.one c))) (hn : H.lenOf c = some (xs.map e).length) : CalmAt P F sl H ⟨dst, .call { callee := .builtin .len, args := #[x], argTypes := #[t] }, ty, pos, aft, grd⟩ := fun E ev hH hρ => by
  have hv := (hρ x _ hx).1
  generalize (xs.map e).length = n at hn
  have key : ∃ a cap, ev x = .slice a n cap := by
    simp only [RSlot, RV] at hv
    cases c with
    | nil => simp [Heap.lenOf] at hn; subst hn; simp only [RC] at hv; exact ⟨_, _, hv⟩
    | sl g es => simp [Heap.lenOf] at hn; subst hn; simp only [RC] at hv; obtain ⟨_, a, cap, hu, _⟩ := hv; exact ⟨_, _, hu⟩
    | own k =>
      cases hr : H.rows k with
      | none =>
        simp only [Heap.lenOf, hr] at hn
        obtain ⟨_, a, cap, h⟩ := hH.lens k _ hn
        simp only [RC] at hv
        exact ⟨a, cap, hv.2 _ h⟩
      | some r =>
      simp only [Heap.lenOf, hr, Option.some.injEq] at hn
      subst hn
      obtain ⟨_, _, hd, h3, _, h5⟩ := hH.rows k r hr
      simp only [RC] at hv
      rw [hv.2 hd h3]
      rcases h5 with ⟨h6, h7, _⟩ | ⟨g, cap, _, h6, _⟩
      · exact ⟨none, 0, by rw [h6, h7]; rfl⟩
      · exact ⟨_, _, h6⟩
    | sub k lo m =>
      simp only [Heap.lenOf] at hn
      split at hn
      · rename_i hs
        cases hn
        obtain ⟨r, hr⟩ := Option.isSome_iff_exists.1 hs
        obtain ⟨_, _, hd, h3, _, _⟩ := hH.rows k r hr
        simp only [RC] at hv
        rcases hv.2 hd h3 with ⟨h6, _, h8, h9⟩ | ⟨_, _, _, _, _, _, h9, _⟩
        · exact ⟨none, 0, by rw [h9, h6, h8]⟩
        · exact ⟨_, _, h9⟩
      · cases hn
    | _ => simp [Heap.lenOf] at hn
  obtain ⟨a, cap, hu⟩ := key
  refine Calm.ofRun (r := .value (i64 (n : Int))) fun w => ?_
  simp [execOp, resolve, invoke, builtin, Builtin.len_, run_underlying ht, hu, goInt]
theorem Ca.min {x y : Operand} {t1 t2 : TypeId} {a b : Int} {kd : IntKind} (hx : opnd sl x = some (im (.int kd a))) (hy : opnd sl y = some (im (.int kd b))) : CalmAt P F sl H ⟨dst, .call { callee := .builtin .min, args := #[x, y], argTypes := #[t1, t2] }, ty, pos, aft, grd⟩ := fun E ev _ hρ => by
  have h1 := im_ok hρ hx rfl
  have h2 := im_ok hρ hy rfl
  exact Calm.ofRun (r := .value (.int kd (if b < a then b else a))) fun w => by simp [execOp, resolve, invoke, builtin, run_min_int2, h1, h2]
theorem Ca.max {x y : Operand} {t1 t2 : TypeId} {a b : Int} {kd : IntKind} (hx : opnd sl x = some (im (.int kd a))) (hy : opnd sl y = some (im (.int kd b))) : CalmAt P F sl H ⟨dst, .call { callee := .builtin .max, args := #[x, y], argTypes := #[t1, t2] }, ty, pos, aft, grd⟩ := fun E ev _ hρ => by
  have h1 := im_ok hρ hx rfl
  have h2 := im_ok hρ hy rfl
  exact Calm.ofRun (r := .value (.int kd (if b > a then b else a))) fun w => by simp [execOp, resolve, invoke, builtin, run_max_int2, h1, h2]
theorem Ca.nilCheck {y : Operand} {c : Cell} (hy : opnd sl y = some (.v (.one c))) (hl : H.live c = true) : CalmAt P F sl H ⟨dst, .nilCheck y, ty, pos, aft, grd⟩ := fun E ev hH hρ => by
  obtain ⟨hv, hn⟩ := hρ y _ hy
  have hc := live_ok hl
  have hp : ∃ a, ev y = .pointer (some a) := by
    simp only [RSlot, RV] at hv
    rcases hc with ⟨k, j, rfl, hk⟩ | ⟨k, i, j, rfl, hk⟩ | ⟨g, e, j, rfl⟩
    · cases hb : H.boxes k with
      | none => exact absurd hb hk
      | some cs =>
        obtain ⟨g, us, h1, _⟩ := hH.boxes k cs hb
        simp only [RC] at hv
        exact ⟨_, hv.2 g (hH.pt k g h1)⟩
    · cases hb : H.rows k with
      | none => exact absurd hb hk
      | some r =>
        obtain ⟨_, _, hd, h3, _⟩ := hH.rows k r hb
        simp only [RC] at hv
        obtain ⟨g, len, cap, _, _, hu⟩ := hv.2 hd h3
        exact ⟨_, hu⟩
    · simp only [RC] at hv
      obtain ⟨_, b, p, us, hu, _⟩ := hv
      exact ⟨_, hu⟩
  obtain ⟨a, ha⟩ := hp
  exact Calm.ofRun (r := .value (ev y)) fun w => by simp [execOp, ha]
theorem Ca.makeFunc {f : FuncId} {caps : Array Operand} : CalmAt P F sl H ⟨dst, .makeFunc (.func f) #[] caps, ty, pos, aft, grd⟩ := fun E ev _ _ => Ca.v (Calm.pure _)
theorem Ca.build {t : TypeId} {parts : Array (Nat × Operand)} {vs : List (Nat × V)} {cs : List Cell} (hp : partsV (opnd sl) parts.toList = some vs) (hb : builtA P t vs = some cs) : CalmAt P F sl H ⟨dst, .build t parts, ty, pos, aft, grd⟩ := fun E ev hH hρ => by
  obtain ⟨us, g1, g2, g3, g4⟩ := partsV_ok hρ hp
  unfold builtA at hb
  split at hb
  · rename_i it fields hit hu
    split at hb
    · rename_i z places hz hpl
      split at hb
      · rename_i zc hzc
        have hz' := RCs.ofVals (E := E) hzc
        obtain ⟨bs', r1, r2⟩ := fill_ok g2 g3 hz'.1 hb
        have hbuilt : P.built t us = some bs'.toArray := by
          unfold Program.built
          simp only [hit, hu, hz, hpl]
          rw [← r1]
          congr 1
          funext x; simp
        refine Calm.ofRun (r := .value (.agg bs'.toArray)) fun w => ?_
        have hr := run_build (P := P) w t (parts.map fun p => (p.1, ev p.2)) bs'.toArray (by rw [Array.toList_map, g1]; exact hbuilt)
        simp only [execOp, Sem.run_bind, hr, Result.andThen_ok, Sem.run_pure]
      · cases hb
    · cases hb
  · cases hb
theorem Quiet.load (a : Addr) : Quiet P (Go.load a) := fun w r w1 e => by
  unfold Go.load Sem.run at e
  split at e
  · simp only [Sem.run, Result.ok.injEq] at e; exact e.2.symm
  · split at e
    · simp only [Sem.run, Result.ok.injEq] at e; exact e.2.symm
    · cases e
theorem Quiet.loadCellsFrom (a : Addr) : ∀ (n i : Nat) (acc : Array Value), Quiet P (Go.loadCellsFrom a i n acc)
  | 0, i, acc => (Calm.pure _).quiet
  | n + 1, i, acc => Quiet.bind (Quiet.load _) fun v => Quiet.loadCellsFrom a n (i + 1) _
theorem Qu.load {t : TypeId} {y : Operand} : QuietAt P F sl H ⟨dst, .load t y, ty, pos, aft, grd⟩ := fun E ev _ _ => by
  refine Qu.v ?_
  unfold Instr.loadAt
  refine Quiet.bind (Calm.sureAddr _).quiet fun a => ?_
  unfold Go.loadVar
  refine Quiet.bind (Calm.isAgg _).quiet fun b => ?_
  split
  · exact Quiet.bind (Calm.sizeOf _).quiet fun n => Quiet.bind (Quiet.loadCellsFrom _ _ _ _) fun _ => (Calm.pure _).quiet
  · exact Quiet.load _
end
end Go.MG
