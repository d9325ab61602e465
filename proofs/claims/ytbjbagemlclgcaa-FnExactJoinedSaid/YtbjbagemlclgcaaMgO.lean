/- Abstract steps through a region, and through code. -/
import Derived.Test.YtbjbagemlclgcaaMgN
namespace Go.MG

def WpC (P : Program) (F : Fix) (c : Code) (Q : Exit → St → Prop) (σ : St) : Prop :=
  ∀ a w, Rel F σ a w → c.wp P (fun e a' w' => ∃ σ', Q e σ' ∧ Rel F σ' a' w') a w
def WpO (P : Program) (F : Fix) (ops : Array Oper) (Q : St → Prop) (l : List Nat) (σ : St) : Prop :=
  ∀ a w, Rel F σ a w → wpOps P ops (fun e a' w' => ∃ σ', e = .normal ∧ Q σ' ∧ Rel F σ' a' w') l a w

def setD (sl : Nat → Option Slot) : Option Nat → Option Slot → Nat → Option Slot
  | some d, x => upd sl d x
  | none, _ => sl

def DstOk (n : Nat) : Option Nat → Prop
  | some d => d < n
  | none => True

section
variable {P : Program} {F : Fix} {ops : Array Oper} {Q : St → Prop}

theorem RelS.forget {sl : Nat → Option Slot} {H : Heap} {a : Act} {E : Env} (h : RelS F sl H a E) (d : Option Nat) (u : Value) : RelS F (setD sl d none) H (a.put d u) E := by
  cases d with
  | none => exact h
  | some d =>
    refine ⟨by simp [Act.put, h.size], h.defers, fun t y hy => ?_, fun t y hy => ?_⟩
    · by_cases e : t = d
      · subst e; simp [setD, upd_same] at hy
      · simp only [setD, upd_other _ _ e] at hy
        simpa [Act.put, Array.getD_eq_getD_getElem?, Array.getElem?_setIfInBounds_ne (Ne.symm e)] using h.slots t y hy
    · by_cases e : t = d
      · subst e; simp [setD, upd_same] at hy
      · simp only [setD, upd_other _ _ e] at hy; exact h.used t y hy

/-- What a guard says, from the slots. -/
def guardOf (ops : Array Oper) (sl : Nat → Option Slot) (o : Oper) : Option Bool :=
  match o.guard with
  | none => some true
  | some (j, want) => match (ops[j]?).bind (·.dst) with
    | some d => match sl d with
      | some (.v (.one (.imm (.bool t)))) => some (t == want)
      | some (.tup []) => some false
      | _ => none
    | none => none

theorem guard_ok {sl : Nat → Option Slot} {H : Heap} {a : Act} {E : Env} (h : RelS F sl H a E) {o : Oper} {t : Bool} (hg : guardOf ops sl o = some t) : Region.wanted o (yielded ops a.tmps) = t := by
  unfold guardOf at hg
  unfold Region.wanted
  split at hg
  · rename_i h1; cases hg; simp [h1]
  · rename_i j want h1
    simp only [h1]
    split at hg
    · rename_i d h2
      split at hg
      · rename_i b h3
        cases hg
        have h4 := h.slots d _ h3
        simp only [RSlot, RV, RC] at h4
        have h5 : a.tmps[d]? = some (.bool b) := by
          rw [Array.getD_eq_getD_getElem?] at h4
          cases h6 : a.tmps[d]? with
          | none => rw [h6] at h4; exact absurd h4.1 (by simp [undef])
          | some v => rw [h6] at h4; simp at h4; rw [h4.1]
        simp [yielded, h2, h5]
      · rename_i h3
        cases hg
        have h4 := h.slots d _ h3
        obtain ⟨us, h5, h6⟩ := h4
        obtain rfl : us = [] := h6
        rw [Array.getD_eq_getD_getElem?] at h5
        have h7 : ∀ b, a.tmps[d]? ≠ some (.bool b) := by
          intro b hb
          rw [hb] at h5
          simp at h5
        simp only [yielded, h2, Option.bind_some]
        cases h8 : a.tmps[d]? with
        | none => rfl
        | some v =>
          cases v with
          | bool b => exact absurd h8 (h7 b)
          | _ => rfl
      · cases hg
    · cases hg

theorem WpO.nil {σ : St} (h : Q σ) : WpO P F ops Q [] σ := fun _ _ hr => ⟨σ, rfl, h, hr⟩

theorem WpO.off {i : Nat} {rest : List Nat} {σ : St} {o : Oper} (ho : ops[i]? = some o) (hg : guardOf ops σ.slots o = some false) (hd : DstOk F.n o.dst) (h : WpO P F ops Q rest ⟨setD σ.slots o.dst (some (.tup [])), σ.H⟩) : WpO P F ops Q (i :: rest) σ := by
  intro a w hr
  obtain ⟨E, hw, hH, hS, hP⟩ := hr
  simp only [wpOps, ho, guard_ok hS hg]
  refine h _ _ ⟨E, hw, hH, ?_, hP⟩
  cases hdst : o.dst with
  | none => exact hS
  | some d =>
    rw [hdst] at hd
    exact hS.put (Sub.refl _ _) (fun _ h => h) hd ⟨[], rfl, rfl⟩ (fun k hk => by simp [Slot.names] at hk)

theorem WpO.op {i : Nat} {rest : List Nat} {σ : St} {o : Oper} (ho : ops[i]? = some o) (hg : guardOf ops σ.slots o = some true) (hd : DstOk F.n o.dst)
    (h : ∀ (E : Env) (ev : Operand → Value), RelH F σ.H E → RhoOk σ.H E (opnd σ.slots) ev → Done P F σ.H E (execOp ev o) (fun x H' => WpO P F ops Q rest ⟨setD σ.slots o.dst x, H'⟩)) : WpO P F ops Q (i :: rest) σ := by
  intro a w hr
  obtain ⟨E, rfl, hH, hS, hP⟩ := hr
  simp only [wpOps, ho, guard_ok hS hg, if_true]
  left
  obtain ⟨r, E', x, H', hrun, hq, hH', hsub, huse, hx⟩ := h E a.eval hH (fun x s hx => opnd_ok hS hx)
  simp only [Oper.wp, hrun]
  cases x with
  | some s =>
    obtain ⟨u, rfl, hs, hn⟩ := hx
    rw [Oper.upon_value]
    refine hq _ _ ⟨E', rfl, hH', ?_, hP.sub hsub huse⟩
    cases hdst : o.dst with
    | none => exact hS.keep hsub huse
    | some d =>
      rw [hdst] at hd
      exact hS.put hsub huse hd hs hn
  | none =>
    obtain rfl := hx
    rw [Oper.upon_skip]
    exact hq _ _ ⟨E', rfl, hH', (hS.keep hsub huse).forget _ _, hP.sub hsub huse⟩

theorem WpO.mono {Q' : St → Prop} {l : List Nat} {σ : St} (h : WpO P F ops Q l σ) (hq : ∀ σ, Q σ → Q' σ) : WpO P F ops Q' l σ := by
  intro a w hr
  have mono : ∀ (Q Q' : Exit → Act → World → Prop), (∀ e a w, Q e a w → Q' e a w) → ∀ l a w, wpOps P ops Q l a w → wpOps P ops Q' l a w := by
    intro Q Q' hQ l
    induction l with
    | nil => intro a w h; exact hQ _ _ _ h
    | cons i rest ih =>
      intro a w h
      simp only [wpOps] at h ⊢
      cases ho : ops[i]? with
      | none => rw [ho] at h; exact ih _ _ h
      | some o =>
        simp only [ho] at h ⊢
        split at h
        · rename_i hw
          rw [if_pos hw]
          rcases h with h | ⟨h1, a0, w0, h2⟩
          · left
            simp only [Oper.wp, Oper.upon] at h ⊢
            split at h
            · exact ih _ _ h
            · exact ih _ _ h
            · exact ih _ _ h
            · refine h.mono fun e w' h' => ?_
              cases e with
              | returned v => exact ih _ _ h'
              | panicked c => exact hQ _ _ _ h'
              | outgrown => obtain ⟨a0, w0, h0⟩ := h'; exact ⟨a0, w0, hQ _ _ _ h0⟩
            · exact h.mono fun v w' h' => ih _ _ h'
            · exact hQ _ _ _ h
            · exact h.elim
          · exact .inr ⟨h1, a0, w0, hQ _ _ _ h2⟩
        · rename_i hw
          rw [if_neg hw]
          exact ih _ _ h
  exact mono _ _ (fun e a w ⟨σ', h1, h2, h3⟩ => ⟨σ', h1, hq _ h2, h3⟩) l a w (h a w hr)

/-! ### the call -/
def callArgs (ρ : Rho) : List (Bool × Operand) → Option (List (Bool × V))
  | [] => some []
  | (m, x) :: xs => match ρ x, callArgs ρ xs with
    | some (.v v), some vs => some ((m, v) :: vs)
    | _, _ => none

theorem callArgs_ok {H : Heap} {E : Env} {ρ : Rho} {ev : Operand → Value} (h : RhoOk H E ρ ev) : ∀ {xs : List (Bool × Operand)} {vs : List (Bool × V)}, callArgs ρ xs = some vs →
    RVs E (vs.map (·.2)) (xs.map fun p => ev p.2) ∧ ∀ p ∈ vs, ∀ j ∈ p.2.names, H.used j = true
  | [], vs, hv => by simp [callArgs] at hv; subst hv; exact ⟨rfl, by simp⟩
  | (m, x) :: xs, vs, hv => by
    unfold callArgs at hv
    split at hv
    · rename_i v vs' h1 h2
      cases hv
      obtain ⟨a1, a2⟩ := callArgs_ok h h2
      obtain ⟨b1, b2⟩ := h x _ h1
      refine ⟨⟨ev x, _, rfl, b1, a1⟩, fun p hp => ?_⟩
      rcases List.mem_cons.1 hp with rfl | hp
      · exact b2
      · exact a2 p hp
    · cases hv

theorem RVs.one {E : Env} : ∀ {cs : List Cell} {us : List Value}, RCs E cs us → RVs E (cs.map .one) us
  | [], _, h => by simp only [RCs] at h; exact h
  | c :: cs, _, h => by
    simp only [RCs] at h
    obtain ⟨u, us', rfl, h1, h2⟩ := h
    exact ⟨u, us', rfl, h1, RVs.one h2⟩

theorem RVs.append {E : Env} : ∀ {xs ys : List V} {us vs : List Value}, RVs E xs us → RVs E ys vs → RVs E (xs ++ ys) (us ++ vs)
  | [], _, _, _, h, h' => by obtain rfl : _ = [] := h; exact h'
  | x :: xs, _, _, _, h, h' => by
    obtain ⟨u, us', rfl, h1, h2⟩ := h
    exact ⟨u, _, rfl, h1, RVs.append h2 h'⟩

theorem pickV_app {bp : List Nat} {xs ys : List V} (h : ∀ i ∈ bp, i < xs.length) : pickV bp (xs ++ ys) = pickV bp xs := by
  unfold pickV
  refine List.map_congr_left fun i hi => ?_
  simp [List.getD_eq_getElem?_getD, List.getElem?_append_left (h i hi)]

theorem WpO.call {i : Nat} {rest : List Nat} {σ : St} {o : Oper} (ho : ops[i]? = some o) (hg : guardOf ops σ.slots o = some true) (hd : DstOk F.n o.dst)
    {x : Operand} {args : Array Operand} {tys : Array TypeId} (hop : o.op = .call { callee := .value x, args := args, argTypes := tys }) {f : FuncId} {caps : List Cell} (hx : opnd σ.slots x = some (.v (.one (.clo f caps))))
    {fn : Func} (hf : P.funcs[f]? = some fn) (hb : fn.body.isSome = true) (hn : fn.name ≠ "runtime.NumGoroutine")
    (mvs : List Bool) (hm : mvs.length = args.size) {vs : List (Bool × V)} (hvs : callArgs (opnd σ.slots) (mvs.zip args.toList) = some vs)
    {kp : Keep} {L ks : List Nat} {H1 H2 : Heap} {xs : List V} {outs : List (List Cell)}
    (hpass : σ.H.passVs kp L (vs ++ caps.map fun c => (false, .one c)) = some (H1, xs)) (houts : H1.giveOuts ks = some (H2, outs)) (hkp : ∀ (k i : Nat), kp k = some i → ks[i]? = some k) (hL : ∀ k ∈ L, H2.rows k ≠ none)
    {bp : List Nat} {Post : List V → List (List Cell) → List V → Prop} (hh : Holds P f xs outs bp Post) (hbp : ∀ i ∈ bp, i < vs.length)
    (kb : Nat) (hq : ∀ res outs' bk, Post res outs' bk → Good H2 ks kb res outs' bk ∧ ∃ H3, Heap.backVs σ.H ((H2.internVs kb res).1.takeOuts (kb + (res.flatMap V.cells).length) ks outs') (pickV bp (vs.map (·.2))) bk = some H3 ∧ WpO P F ops Q rest ⟨setD σ.slots o.dst (some (slotOf (H2.internVs kb res).2)), H3⟩) :
    WpO P F ops Q (i :: rest) σ := by
  intro a w hr
  obtain ⟨E, rfl, hH, hS, hP⟩ := hr
  simp only [wpOps, ho, guard_ok hS hg, if_true]
  left
  have hρ : RhoOk σ.H E (opnd σ.slots) a.eval := fun x s hx => opnd_ok hS hx
  obtain ⟨hcx, hcn⟩ := hρ x _ hx
  simp only [RSlot, RV, RC] at hcx
  obtain ⟨cus, hcu, hcr⟩ := hcx
  obtain ⟨r1, r2⟩ := callArgs_ok hρ hvs
  have hev : (mvs.zip args.toList).map (fun p => a.eval p.2) = (args.map a.eval).toList := by
    rw [Array.toList_map, show (fun p : Bool × Operand => a.eval p.2) = a.eval ∘ Prod.snd from rfl, ← List.map_map, List.map_snd_zip (by simp [hm])]
  rw [hev] at r1
  have hall : RVs E ((vs ++ caps.map fun c => (false, V.one c)).map (·.2)) ((args.map a.eval).toList ++ cus) := by
    rw [List.map_append, List.map_map]
    exact r1.append (RVs.one hcr)
  have hcall := call_ok (P := P) (Q := fun s H' => WpO P F ops Q rest ⟨setD σ.slots o.dst (some s), H'⟩) hH hall (fun p hp j hj => by
    rcases List.mem_append.1 hp with hp | hp
    · exact r2 p hp j hj
    · obtain ⟨c, hc, rfl⟩ := List.mem_map.1 hp
      refine hcn j ?_
      simp only [Slot.names, V.names, V.cells, cnames, Cell.names, List.append_nil] at hj ⊢
      exact mem_cnames.2 ⟨c, hc, hj⟩) hpass houts hkp hL hh (fun i hi => by have := hbp i hi; simp; omega) (kb := kb) (fun res outs' bk hp => by
      obtain ⟨g, H3, h3, h4⟩ := hq res outs' bk hp
      refine ⟨g, H3, ?_, h4⟩
      rw [List.map_append, pickV_app (by simpa using hbp)]
      exact h3)
  have hrun : (execOp a.eval o).run P E.w = .ok (.enter f (args.map a.eval ++ cus.toArray)) E.w := by
    have hb' : fn.body.isNone = false := by cases h : fn.body <;> simp_all
    simp [execOp, hop, resolve, hcu, Deferred.ofValue, invoke, callFunc, hf, hn]
    intro h; rw [h] at hb; cases hb
  simp only [Oper.wp, hrun]
  rw [Oper.upon_enter]
  have harr : args.map a.eval ++ cus.toArray = ((args.map a.eval).toList ++ cus).toArray := by
    apply Array.ext'; simp
  rw [harr]
  refine hcall.mono ?_
  rintro e w' ⟨v, rfl, s, H', E', rfl, t1, t2, t3, t4, t5, t6⟩
  refine t6 _ _ ⟨E', rfl, t1, ?_, hP.sub t2 t3⟩
  cases hdst : o.dst with
  | none => exact hS.keep t2 t3
  | some d =>
    rw [hdst] at hd
    exact hS.put t2 t3 hd t4 t5
end
end Go.MG
