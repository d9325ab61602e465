/- Calls by a contract that tells the result, and the end of a body. -/
import Derived.Test.YtbjbagemlclgcaaMgU
namespace Go.MG
set_option linter.unusedSimpArgs false
set_option linter.unusedVariables false
set_option linter.unnecessarySimpa false

/-- A function that can be entered. -/
def Enters (P : Program) (f : FuncId) : Prop := ∃ fn, P.funcs[f]? = some fn ∧ fn.body.isSome = true ∧ fn.name ≠ "runtime.NumGoroutine"
/-- The contract that tells what comes back. -/
def Gives (P : Program) (f : FuncId) (args : List V) (outs : List (List Cell)) (res : List V) (outs' : List (List Cell)) : Prop := Holds P f args outs [] fun r o b => r = res ∧ o = outs' ∧ b = []
/-- The same, where the memory of the arguments at the places bp comes back. -/
def GivesB (P : Program) (f : FuncId) (args : List V) (outs : List (List Cell)) (bp : List Nat) (res : List V) (outs' : List (List Cell)) (bk : List V) : Prop := Holds P f args outs bp fun r o b => r = res ∧ o = outs' ∧ b = bk

def namedC (k : Nat) : Cell → Cell
  | .ow _ _ => .own k
  | .bx _ => .ptr k 0
  | c => c
def namedCs (k : Nat) : List Cell → List Cell
  | [] => []
  | c :: cs => namedC k c :: namedCs (k + 1) cs
def namedV (k : Nat) : V → V
  | .one c => .one (namedC k c)
  | .agg cs => .agg (namedCs k cs)
def namedVs (k : Nat) : List V → List V
  | [] => []
  | x :: xs => namedV k x :: namedVs (k + x.cells.length) xs
theorem internC_named (H : Heap) (k : Nat) (c : Cell) : (H.internC k c).2 = namedC k c := by cases c <;> rfl
theorem internCs_named : ∀ (cs : List Cell) (H : Heap) (k : Nat), (H.internCs k cs).2 = namedCs k cs
  | [], _, _ => rfl
  | c :: cs, H, k => by simp [Heap.internCs, namedCs, internC_named, internCs_named cs]
theorem internVs_named : ∀ (xs : List V) (H : Heap) (k : Nat), (H.internVs k xs).2 = namedVs k xs
  | [], _, _ => rfl
  | .one c :: xs, H, k => by simp [Heap.internVs, Heap.internV, namedVs, namedV, internC_named, internVs_named xs]
  | .agg cs :: xs, H, k => by simp [Heap.internVs, Heap.internV, namedVs, namedV, internCs_named, internVs_named xs]

def goodB (H : Heap) (ks : List Nat) (kb : Nat) (res : List V) (outs' : List (List Cell)) (bk : List V := []) : Bool :=
  bk.all (fun x => x.clean && x.names.isEmpty) && res.all (fun x => x.clean && x.names.isEmpty) && (outs'.length == ks.length) && outs'.all (fun cs => cclean cs && (cnames cs).isEmpty) &&
    (List.range ((res.flatMap V.cells).length + outs'.flatten.length)).all (fun i => !H.used (kb + i))
theorem goodB_ok {H : Heap} {ks : List Nat} {kb : Nat} {res : List V} {outs' : List (List Cell)} {bk : List V} (h : goodB H ks kb res outs' bk = true) : Good H ks kb res outs' bk := by
  simp only [goodB, Bool.and_eq_true, List.all_eq_true, beq_iff_eq, List.isEmpty_iff, Bool.not_eq_true'] at h
  refine ⟨h.1.1.1.1, h.1.1.1.2, h.1.1.2, h.1.2, fun j h1 h2 => ?_⟩
  have := h.2 (j - kb) (by rw [List.mem_range]; omega)
  rwa [show kb + (j - kb) = j by omega] at this

theorem idxOf_get {ks : List Nat} {k i : Nat} (h : ks.idxOf? k = some i) : ks[i]? = some k := by
  rw [List.idxOf?, List.findIdx?_eq_some_iff_getElem] at h
  obtain ⟨h1, h2, _⟩ := h
  rw [List.getElem?_eq_getElem h1, eq_of_beq h2]

section
variable {P : Program} {F : Fix} {ops : Array Oper} {Q : St → Prop} {N : Nat}
variable {dst : Option Nat} {ty : TypeId} {pos : String} {aft : Array Edge} {grd : Option (Nat × Bool)} {rest : List Oper} {sl : Nat → Option Slot} {H : Heap}

theorem L.callB {x : Operand} {args : Array Operand} {tys : Array TypeId} {f : FuncId} {caps : List Cell} {vs : List (Bool × V)} {H1 H2 H3 : Heap} {xs : List V} {outs outs' : List (List Cell)} {res bk : List V} (mvs : List Bool) (L ks : List Nat) (kb : Nat) (bp : List Nat)
    (hn : F.n = N) (hg : guardOf ops sl ⟨dst, .call { callee := .value x, args := args, argTypes := tys }, ty, pos, aft, grd⟩ = some true) (hd : dstB N dst = true) (hx : opnd sl x = some (.v (.one (.clo f caps)))) (hf : Enters P f) (hm : mvs.length = args.size)
    (hvs : callArgs (opnd sl) (mvs.zip args.toList) = some vs) (hpass : H.passVs (fun k => ks.idxOf? k) L (vs ++ caps.map fun c => (false, .one c)) = some (H1, xs)) (houts : H1.giveOuts ks = some (H2, outs)) (hL : L.all (fun k => (H2.rows k).isSome) = true)
    (hh : GivesB P f xs outs bp res outs' bk) (hgood : goodB H2 ks kb res outs' bk = true) (hbp : bp.all (fun i => Nat.blt i vs.length) = true) (hback : Heap.backVs H ((H2.internVs kb res).1.takeOuts (kb + (res.flatMap V.cells).length) ks outs') (pickV bp (vs.map (·.2))) bk = some H3)
    (k : WpL P F ops Q rest ⟨setD sl dst (some (slotOf (namedVs kb res))), H3⟩) :
    WpL P F ops Q (⟨dst, .call { callee := .value x, args := args, argTypes := tys }, ty, pos, aft, grd⟩ :: rest) ⟨sl, H⟩ := by
  intro idx hidx
  cases idx with
  | nil => simp at hidx
  | cons i is =>
    simp only [List.map_cons, List.cons.injEq] at hidx
    obtain ⟨fn, hfn, hb, hnm⟩ := hf
    refine WpO.call hidx.1 hg (dstB_ok hn hd) rfl hx hfn hb hnm mvs hm hvs hpass houts (fun k i h => idxOf_get h) (fun k hk => ?_) hh (fun i hi => by
      have := List.all_eq_true.1 hbp i hi
      simpa using this) kb ?_
    · have := List.all_eq_true.1 hL k hk
      intro e; rw [e] at this; cases this
    · rintro _ _ _ ⟨rfl, rfl, rfl⟩
      rw [internVs_named]
      exact ⟨goodB_ok hgood, H3, hback, k is hidx.2⟩

theorem L.call {x : Operand} {args : Array Operand} {tys : Array TypeId} {f : FuncId} {caps : List Cell} {vs : List (Bool × V)} {H1 H2 : Heap} {xs : List V} {outs outs' : List (List Cell)} {res : List V} (mvs : List Bool) (L ks : List Nat) (kb : Nat)
    (hn : F.n = N) (hg : guardOf ops sl ⟨dst, .call { callee := .value x, args := args, argTypes := tys }, ty, pos, aft, grd⟩ = some true) (hd : dstB N dst = true) (hx : opnd sl x = some (.v (.one (.clo f caps)))) (hf : Enters P f) (hm : mvs.length = args.size)
    (hvs : callArgs (opnd sl) (mvs.zip args.toList) = some vs) (hpass : H.passVs (fun k => ks.idxOf? k) L (vs ++ caps.map fun c => (false, .one c)) = some (H1, xs)) (houts : H1.giveOuts ks = some (H2, outs)) (hL : L.all (fun k => (H2.rows k).isSome) = true)
    (hh : Gives P f xs outs res outs') (hgood : goodB H2 ks kb res outs' = true)
    (k : WpL P F ops Q rest ⟨setD sl dst (some (slotOf (namedVs kb res))), (H2.internVs kb res).1.takeOuts (kb + (res.flatMap V.cells).length) ks outs'⟩) :
    WpL P F ops Q (⟨dst, .call { callee := .value x, args := args, argTypes := tys }, ty, pos, aft, grd⟩ :: rest) ⟨sl, H⟩ := by
  intro idx hidx
  cases idx with
  | nil => simp at hidx
  | cons i is =>
    simp only [List.map_cons, List.cons.injEq] at hidx
    obtain ⟨fn, hfn, hb, hnm⟩ := hf
    refine WpO.call hidx.1 hg (dstB_ok hn hd) rfl hx hfn hb hnm mvs hm hvs hpass houts (fun k i h => idxOf_get h) (fun k hk => ?_) hh (fun i hi => by cases hi) kb ?_
    · have := List.all_eq_true.1 hL k hk
      intro e; rw [e] at this; cases this
    · rintro _ _ _ ⟨rfl, rfl, rfl⟩
      rw [internVs_named]
      exact ⟨goodB_ok hgood, _, rfl, k is hidx.2⟩
end

theorem Leaves.ret {P : Program} {fn : Func} {m : Nat} {r0 : List V} {o0 : List (List Cell)} {σ : St} {xs res : List V} {H1 H2 : Heap} {outs' : List (List Cell)} (hr : resAs P σ fn.results.toList = some xs)
    (hp : σ.H.passVs (fun k => if k < m then some k else none) [] (xs.map fun x => (true, x)) = some (H1, res)) (hg : H1.giveOuts (List.range m) = some (H2, outs')) (h : res = r0 ∧ outs' = o0) : Leaves P fn m [] (fun r o b => r = r0 ∧ o = o0 ∧ b = []) .ret σ :=
  ⟨.inr rfl, xs, H1, H1, H2, res, outs', [], hr, hp, rfl, hg, h.1, h.2, rfl⟩
theorem Leaves.normal {P : Program} {fn : Func} {m : Nat} {r0 : List V} {o0 : List (List Cell)} {σ : St} {xs res : List V} {H1 H2 : Heap} {outs' : List (List Cell)} (hr : resAs P σ fn.results.toList = some xs)
    (hp : σ.H.passVs (fun k => if k < m then some k else none) [] (xs.map fun x => (true, x)) = some (H1, res)) (hg : H1.giveOuts (List.range m) = some (H2, outs')) (h : res = r0 ∧ outs' = o0) : Leaves P fn m [] (fun r o b => r = r0 ∧ o = o0 ∧ b = []) .normal σ :=
  ⟨.inl rfl, xs, H1, H1, H2, res, outs', [], hr, hp, rfl, hg, h.1, h.2, rfl⟩
theorem Leaves.retB {P : Program} {fn : Func} {m : Nat} {r0 bks b0 bk : List V} {o0 : List (List Cell)} {σ : St} {xs res : List V} {H1 H2 H3 : Heap} {outs' : List (List Cell)} (hr : resAs P σ fn.results.toList = some xs)
    (hp : σ.H.passVs (fun k => if k < m then some k else none) [] (xs.map fun x => (true, x)) = some (H1, res)) (hb : H1.innerVs bks = some (H2, bk)) (hg : H2.giveOuts (List.range m) = some (H3, outs')) (h : res = r0 ∧ outs' = o0 ∧ bk = b0) : Leaves P fn m bks (fun r o b => r = r0 ∧ o = o0 ∧ b = b0) .ret σ :=
  ⟨.inr rfl, xs, H1, H2, H3, res, outs', bk, hr, hp, hb, hg, h⟩
theorem Leaves.normalB {P : Program} {fn : Func} {m : Nat} {r0 bks b0 bk : List V} {o0 : List (List Cell)} {σ : St} {xs res : List V} {H1 H2 H3 : Heap} {outs' : List (List Cell)} (hr : resAs P σ fn.results.toList = some xs)
    (hp : σ.H.passVs (fun k => if k < m then some k else none) [] (xs.map fun x => (true, x)) = some (H1, res)) (hb : H1.innerVs bks = some (H2, bk)) (hg : H2.giveOuts (List.range m) = some (H3, outs')) (h : res = r0 ∧ outs' = o0 ∧ bk = b0) : Leaves P fn m bks (fun r o b => r = r0 ∧ o = o0 ∧ b = b0) .normal σ :=
  ⟨.inl rfl, xs, H1, H2, H3, res, outs', bk, hr, hp, hb, hg, h⟩

theorem Gives.intro {P : Program} {f : FuncId} {fn : Func} {c : Code} {args : List V} {outs : List (List Cell)} {res : List V} {outs' : List (List Cell)} (hf : P.funcs[f]? = some fn) (hb : fn.body = some c) (hn : Nat.ble args.length fn.ntmps = true)
    (hc : outs.all (fun cs => cclean cs && (cnames cs).isEmpty) = true) (hnm : (args.flatMap V.names).all (fun j => Nat.blt j outs.length) = true)
    (h : ∀ F : Fix, F.n = fn.ntmps → Pinned F outs.length [] → WpC P F c (Leaves P fn outs.length [] (fun r o b => r = res ∧ o = outs' ∧ b = [])) ⟨initS args outs.length, initH args outs⟩) : Gives P f args outs res outs' := by
  refine Holds.intro (fun i hi => by cases hi) hf hb (Nat.le_of_ble_eq_true hn) (fun cs hcs => ?_) (fun j hj => ?_) h
  · have := List.all_eq_true.1 hc cs hcs
    simpa using this
  · have := List.all_eq_true.1 hnm j hj
    simpa using this
theorem GivesB.intro {P : Program} {f : FuncId} {fn : Func} {c : Code} {args : List V} {outs : List (List Cell)} {bp : List Nat} {res bk bks : List V} {outs' : List (List Cell)} (hf : P.funcs[f]? = some fn) (hb : fn.body = some c) (hn : Nat.ble args.length fn.ntmps = true)
    (hc : outs.all (fun cs => cclean cs && (cnames cs).isEmpty) = true) (hnm : (args.flatMap V.names).all (fun j => Nat.blt j outs.length) = true) (hbp : bp.all (fun i => Nat.blt i args.length) = true) (hbk : backArgs outs.length args bp = bks)
    (h : ∀ F : Fix, F.n = fn.ntmps → Pinned F outs.length bks → WpC P F c (Leaves P fn outs.length bks (fun r o b => r = res ∧ o = outs' ∧ b = bk)) ⟨initS args outs.length, initH args outs⟩) : GivesB P f args outs bp res outs' bk := by
  subst hbk
  refine Holds.intro (fun i hi => ?_) hf hb (Nat.le_of_ble_eq_true hn) (fun cs hcs => ?_) (fun j hj => ?_) h
  · have := List.all_eq_true.1 hbp i hi
    simpa using this
  · have := List.all_eq_true.1 hc cs hcs
    simpa using this
  · have := List.all_eq_true.1 hnm j hj
    simpa using this

/-- Two cases of a truth value that was just laid. -/
theorem L.split {P : Program} {F : Fix} {ops : Array Oper} {Q : St → Prop} {l : List Oper} {sl : Nat → Option Slot} {d : Option Nat} {H : Heap} {c : Bool} (h1 : c = true → WpL P F ops Q l ⟨setD sl d (some (im (.bool true))), H⟩) (h0 : c = false → WpL P F ops Q l ⟨setD sl d (some (im (.bool false))), H⟩) :
    WpL P F ops Q l ⟨setD sl d (some (im (.bool c))), H⟩ := by
  cases c with
  | true => exact h1 rfl
  | false => exact h0 rfl

theorem condT {α : Type} {c : Bool} {a b : Option α} {r : α} (h : c = true) (H : cond c a b = some r) : a = some r := by subst h; exact H
theorem condF {α : Type} {c : Bool} {a b : Option α} {r : α} (h : c = false) (H : cond c a b = some r) : b = some r := by subst h; exact H
theorem condG {α : Type} {c : Bool} {a : Option α} {r : α} (H : cond c a none = some r) : c = true ∧ a = some r := by
  cases c with
  | true => exact ⟨rfl, H⟩
  | false => cases H
theorem bindS {α β : Type} {a : Option α} {f : α → Option β} {r : β} (H : a.bind f = some r) : ∃ x, a = some x ∧ f x = some r := Option.bind_eq_some_iff.1 H
end Go.MG
